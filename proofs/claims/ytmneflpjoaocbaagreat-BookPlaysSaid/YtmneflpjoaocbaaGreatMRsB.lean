/- Several texts in one: RsB. -/
import Derived.Test.YtmneflpjoaocbaaGreatMWBA
import Derived.Test.YtmneflpjoaocbaaGreatMBookW
/- BookPlays: its walk. No conditions beyond what each states. -/
namespace Go.Proofs.YtmneflpjoaocbaaGreat
open Go.RowKit
set_option linter.unusedVariables false
attribute [local simp] frOf dstsOf frGo predsHold allHold Region.binds slotOf seen Is Act.put
theorem own_lower {w : World} {B B' size n : Nat} {e : TypeId} {v : Value} {xs : List Value} (h : w.ownsRow B e size v n xs) (hB : B' ≤ B) : w.ownsRow B' e size v n xs := by
  obtain ⟨h1, h2 | ⟨g, cap, cur, h2, h3, h4⟩⟩ := h
  · exact ⟨h1, .inl h2⟩
  · exact ⟨h1, .inr ⟨g, cap, cur, h2, Nat.le_trans hB h3, h4⟩⟩
theorem RkS.lower {w : World} {q gg n : Nat} {S : Dst} {B B' m : Nat} (h : RkS w q gg n S B m) (hB : B' ≤ B) : RkS w q gg n S B' m := by
  obtain ⟨h1, h2, c, A, c2, h⟩ := h
  exact ⟨h1, h2, c, A, c2, h.blk, own_lower h.good hB, own_lower h.own hB, Nat.le_trans hB h.lo, h.ok⟩
/-- rooms of both books -/
theorem room_both {w : World} {pb p gs q gg n : Nat} {f nn : Int} {S : Dst} {bb xx : Nat} {t : List UInt8} {br : Bool} {B m : Nat} (D : PW w pb p gs q gg n f nn S (some bb) (some xx) t br B m) :
    Calls Tryz.prog 11 #[.pointer (some ⟨bb, 0, none⟩)] w (fun e w' => e = .returned (.int .i64 (nn * 127 - (t.length : Int))) ∧ Only (fun _ => False) w w') ∧
    Calls Tryz.prog 12 #[.pointer (some ⟨xx, 0, none⟩)] w (fun e w' => e = .returned (.int .i64 (nn * 127 - (t.length : Int))) ∧ Only (fun _ => False) w w') := by
  have hmay := (D.tl (by simp)).2
  have htl := (D.tl (by simp)).1
  have hn4 : n ≤ 4096 := D.d.d.1.2.1
  have hb := (D.b bb rfl).2
  have hx := (D.x xx rfl).2.2
  obtain ⟨h1, h2, h3, h4⟩ : 0 ≤ f ∧ 1 ≤ nn ∧ f ≤ (n : Int) ∧ nn ≤ (n : Int) - f := by unfold mayB at hmay; simpa using hmay
  obtain ⟨k, hk⟩ : ∃ k : Nat, nn = k := ⟨nn.toNat, by omega⟩
  obtain ⟨i, hi⟩ : ∃ i : Nat, f = i := ⟨f.toNat, by omega⟩
  rw [hk, hi] at hb hx
  rw [hk]
  exact ⟨room_any p i k bb t br w hb (by omega) (by omega), rroom_any q i k xx t br w hx (by omega) (by omega)⟩
set_option maxHeartbeats 8000000 in
set_option maxRecDepth 100000 in
theorem plays_any (x0 : Int) (hx0 : 0 ≤ x0) (hx1 : x0 ≤ 255) (f nn : Int) (hk0 : -9223372036854775808 ≤ nn) (hk1 : nn ≤ 9223372036854775807) (ss : List BP) (A : Option Addr) (c : Nat) (w : World) (hs : ScrB w w.heap.size A ss) (hN : NumB ss) (hl : ss.length ≤ maxLen) :
    Calls Tryz.prog 3 #[.int .u8 x0, .int .i64 f, .int .i64 nn, .slice A ss.length c] w fun e w' => e = .returned (.bool true) ∧ Below w.heap.size w w' := by
  have H1 := Lib.hid hs
  have HN := Lib.hid hN
  have M1 := Lib.hid hl
  clear hs hN hl
  go_enter Tryz.func3, Tryz.ntmps3
  go_wp2_with fail
  refine (heavyB_any _ _ _ _ _ H1.out M1.out).mono ?_
  rintro e w1 ⟨⟨b, rfl, hb1⟩, rfl⟩
  rcases b with _ | _
  case true =>
    clear hb1
    go_wp2_with fail
    refine (alive_any _).mono ?_
    rintro e wa ⟨rfl, ba⟩
    have BA := Lib.hid ba
    clear ba
    go_wp2_with fail
    go_ret
    exact ⟨rfl, BA.out⟩
  have L1 := Lib.hid (hb1 rfl)
  have hl100 : ss.length ≤ 100 := (hb1 rfl).1
  clear hb1
  obtain ⟨n, hn⟩ : ∃ n : Nat, (n : Int) = 1 + x0 % 12 := ⟨(1 + x0 % 12).toNat, by omega⟩
  have hn1 : 1 ≤ n := by omega
  have hn3 : n ≤ 12 := by omega
  have hn2 : n ≤ 4096 := by omega
  go_wp2_with fail
  rw [← hn]
  clear hn
  refine (dk_new n w hn1 hn2).mono ?_
  rintro e wd ⟨rfl, d1, d2⟩
  obtain ⟨p, hp⟩ : ∃ p, p = w.heap.size + 1 := ⟨_, rfl⟩
  obtain ⟨gs, hgs⟩ : ∃ gs, gs = w.heap.size := ⟨_, rfl⟩
  obtain ⟨B, hB⟩ : ∃ B, B = w.heap.size := ⟨_, rfl⟩
  have d1' : DkS wd p gs n ⟨zeroG n, [], none⟩ B 0 := by rw [hp, hgs, hB]; exact d1
  have HD := Lib.hid d1'
  have HOD := Lib.hid d2
  have HBB := Lib.hid hB
  rw [← hp]
  clear hp hgs hB d1 d1' d2
  go_wp2_with fail
  refine (rnew_any n wd hn1 hn2).mono ?_
  rintro e we ⟨rfl, ⟨gg, r1⟩, r2⟩
  obtain ⟨q, hq⟩ : ∃ q, q = wd.heap.size := ⟨_, rfl⟩
  have hBd : B ≤ wd.heap.size := by have := HD.out.size; omega
  have hgB : B ≤ wd.heap.size := hBd
  rw [← hq] at r1
  have HPD : Hid (PairD we p gs q gg n ⟨zeroG n, [], none⟩ B 0) := Lib.hid ⟨HD.out.only r2, r1.lower (by omega)⟩
  have HOE := Lib.hid (HOD.out.trans r2)
  rw [← hq]
  clear hq r1 r2 hBd hgB
  obtain ⟨wf, hwf⟩ : ∃ wf, wf = we.alloc (.cells #[.pointer (some ⟨p, 0, none⟩), .pointer (some ⟨q, 0, none⟩), .pointer none, .pointer none, .int .i64 f, .int .i64 nn] 36) := ⟨_, rfl⟩
  obtain ⟨pb, hpb⟩ : ∃ pb, pb = we.heap.size := ⟨_, rfl⟩
  have of_ : Only (fun _ => False) we wf := by rw [hwf]; exact (Only.refl _ we).alloc _
  have bp : Blk wf pb 36 #[.pointer (some ⟨p, 0, none⟩), .pointer (some ⟨q, 0, none⟩), .pointer none, .pointer none, .int .i64 f, .int .i64 nn] := by rw [hwf, hpb]; exact Blk.new we _ _
  have HP0 : Hid (PW wf pb p gs q gg n f nn ⟨zeroG n, [], none⟩ none none [] false B 0) := Lib.hid ⟨bp, by have := HPD.out.d.size; omega, HalfD.only HPD.out of_, Iff.rfl, (fun b h => by cases h), (fun x h => by cases h), fun h => absurd rfl h⟩
  have HOF := Lib.hid (HOE.out.trans of_)
  have HW := Lib.hid hwf.symm
  have HQ := Lib.hid hpb.symm
  clear hwf hpb of_ bp
  go_wp2_with fail
  rw [HW.out, HQ.out]
  refine (popen_any wf pb p gs q gg n f nn _ none none [] false B 0 HP0.out hk0 hk1 (by omega)).mono ?_
  rintro e wg ⟨rfl, ⟨bo', xo', k1⟩, k2⟩
  have HPX : Hid (PWx wg pb p gs q gg n f nn B 26) := Lib.hid (k1.x_ (by omega) (by omega))
  have HOG := Lib.hid ((HOF.out.mono (T := fun b => B ≤ b) fun _ h => h.elim).trans k2)
  clear k1 k2 HP0
  go_wp2_with fail
  go_loopw [15] (fun i y => ∃ j : Nat, j ≤ ss.length ∧ i = .int .i64 (j : Int) ∧ PWx y pb p gs q gg n f nn B (26 + 26 * j) ∧ Only (fun b => B ≤ b) w y) (fun i _ => ss.length - (intOf i).toNat)
  case atStart => exact ⟨0, by omega, rfl, HPX.out, HOG.out⟩
  case round =>
    obtain ⟨y0, rfl⟩ : ∃ y0, y0 = wr := ⟨_, rfl⟩
    obtain ⟨j, hj, rfl, k1, k2⟩ := hrel
    have HX := Lib.hid k1
    have HO := Lib.hid k2
    clear k1 k2
    by_cases hjl : j < ss.length
    · obtain ⟨s, hsj⟩ : ∃ s, ss[j]? = some s := ⟨_, List.getElem?_eq_getElem hjl⟩
      have hjli : (j : Int) < (ss.length : Int) := by omega
      have hmem := List.mem_of_getElem? hsj
      have hBy : B ≤ y0.heap.size := by obtain ⟨S, bo, xo, t, br, D⟩ := HX.out; have := D.d.d.size; omega
      have hbel : Below B w y0 := HO.out.below (fun b hb => hb) (by have := HBB.out; omega)
      have hscr : ScrB y0 B A ss := by have := H1.out; rw [← HBB.out] at this; exact this.below hbel
      obtain ⟨b, off, rfl, hb, c0, c1, c2, c3, ht, hr, hts, htc, htm, hlc, hlm, ha0, ha1⟩ := hscr j s hsj
      obtain ⟨hx20, hp300, hxz⟩ := L1.out.2 s hmem
      obtain ⟨dv, hdv⟩ : ∃ dv : Nat, s.act = dv := ⟨s.act.toNat, by omega⟩
      rw [hdv] at c0
      have hcall := pdo_any y0 pb p gs q gg n f nn B (26 + 26 * j) HX.out hn3 hk0 hk1 (by omega) s (ht.low hBy) hr hx20 hxz dv (by omega) (HN.out s hmem)
      unfold stepV at hcall
      have HCALL := Lib.hid hcall
      clear hsj hmem hBy hbel hscr hb ht hr hts htc htm hlc hlm ha0 ha1 hx20 hp300 hxz hdv hcall
      go_wp2_with fail
      refine HCALL.out.mono ?_
      rintro e y1 ⟨rfl, k1, k2⟩
      obtain ⟨S, bo, xo, t, br, D⟩ := k1
      have HO2 := Lib.hid (HO.out.trans k2)
      obtain ⟨_, _, LG, LA, LC, RA⟩ := D.d.r
      have HP := Lib.hid D
      have HRA := Lib.hid RA
      have hno := D.no
      clear c0 c1 c2 c3 k2 D RA HCALL
      cases bo with
      | none =>
        obtain rfl := hno.1 rfl
        clear hno
        have HPd : Hid (∀ k, DkS (y1.drewN k) p gs n S B (26 + 26 * j + 26)) := Lib.hid (fun k => HP.out.d.d.only ((Only.refl _ y1).drewN k))
        have c3 : y1.cell? ⟨pb, 3, none⟩ = some (.pointer none) := HP.out.blk.cell 3
        have cq : y1.cell? ⟨q, 1, none⟩ = some (.slice LA S.l.length LC) := HRA.out.blk.cell 1
        go_wp2_with fail
        go_quiet ((go_at_call 13; exact quiet_left (dk_loose p gs n S B _ _ (HPd.out _))))
        clear c3 cq
        have HF := Lib.hid (HP.out.only ((Only.refl _ y1).drewN nq))
        have HOF2 := Lib.hid (HO2.out.drewN nq)
        go_wp2_with fail
        go_roundw
        case rel => exact ⟨j + 1, by omega, by go_num, (HF.out).x_ (by omega) (by omega), HOF2.out⟩
        case measure => simp [intOf]; omega
      | some bb =>
        obtain ⟨xx, rfl⟩ : ∃ xx, xo = some xx := Option.ne_none_iff_exists'.1 (fun e => by cases hno.2 e)
        obtain ⟨RM, hRM⟩ : ∃ RM, RM = nn * 127 - (t.length : Int) := ⟨_, rfl⟩
        have HR1 : Hid (∀ W, Only (fun _ => False) y1.drew W → Calls Tryz.prog 11 #[.pointer (some ⟨bb, 0, none⟩)] W (fun e w' => e = .returned (.int .i64 RM) ∧ Only (fun _ => False) W w')) := Lib.hid (fun W hW => by rw [hRM]; exact (room_both (HP.out.only ((Only.refl _ y1).drew.trans hW))).1)
        have HR2 : Hid (∀ W, Only (fun _ => False) y1.drew W → Calls Tryz.prog 12 #[.pointer (some ⟨xx, 0, none⟩)] W (fun e w' => e = .returned (.int .i64 RM) ∧ Only (fun _ => False) W w')) := Lib.hid (fun W hW => by rw [hRM]; exact (room_both (HP.out.only ((Only.refl _ y1).drew.trans hW))).2)
        clear hno hRM
        have hdr : Only (fun _ => False) y1 y1.drew := (Only.refl _ y1).drew
        have HPR := Lib.hid (HP.out.only hdr)
        have HRR := Lib.hid (HRA.out.only hdr)
        have HBK : Hid (BookB y1.drew bb p f nn (sB t) br) := Lib.hid (HPR.out.b bb rfl).2
        have d3 : y1.drew.cell? ⟨pb, 3, none⟩ = some (.pointer (some ⟨xx, 0, none⟩)) := HPR.out.blk.cell 3
        have d2 : y1.drew.cell? ⟨pb, 2, none⟩ = some (.pointer (some ⟨bb, 0, none⟩)) := HPR.out.blk.cell 2
        have dx : y1.drew.cell? ⟨xx, 3, none⟩ = some (.string (sB t)) := (HPR.out.x xx rfl).2.2.cell 3
        have dq : y1.drew.cell? ⟨q, 1, none⟩ = some (.slice LA S.l.length LC) := HRR.out.blk.cell 1
        have hsz : (sB t).size = t.length := sB_size t
        have HO2' := Lib.hid (HO2.out.trans (hdr.mono fun _ h => h.elim))
        clear hdr
        go_wp2_with fail
        go_region_held3 (fun w' => w'.cell? ⟨pb, 3, none⟩ = some (.pointer (some ⟨xx, 0, none⟩)) ∧ w'.cell? ⟨pb, 2, none⟩ = some (.pointer (some ⟨bb, 0, none⟩)) ∧ w'.cell? ⟨xx, 3, none⟩ = some (.string (sB t)) ∧ w'.cell? ⟨q, 1, none⟩ = some (.slice LA S.l.length LC)) (go_keep) (first
          | (go_at_call 10; refine (blen_any bb p f nn t br _ HBK.out).mono ?_; rintro e V1 ⟨rfl, rfl⟩)
          | (go_at_call 11; refine (HR1.out _ (Only.refl _ _)).mono ?_; rintro e V2 ⟨rfl, o9⟩; have O2 := Lib.hid o9; have HV := Lib.hid (HPR.out.only o9); have v3 : V2.cell? ⟨pb, 3, none⟩ = some (.pointer (some ⟨xx, 0, none⟩)) := HV.out.blk.cell 3; have v2 : V2.cell? ⟨pb, 2, none⟩ = some (.pointer (some ⟨bb, 0, none⟩)) := HV.out.blk.cell 2; have vx : V2.cell? ⟨xx, 3, none⟩ = some (.string (sB t)) := (HV.out.x xx rfl).2.2.cell 3; have vq : V2.cell? ⟨q, 1, none⟩ = some (.slice LA S.l.length LC) := (HRR.out.only o9).blk.cell 1; clear o9)
          | (go_at_call 12; refine (HR2.out _ O2.out).mono ?_; rintro e V3 ⟨rfl, o9⟩; have O3 := Lib.hid (O2.out.trans o9); have HV3 := Lib.hid (HPR.out.only O3.out); have z3 : V3.cell? ⟨pb, 3, none⟩ = some (.pointer (some ⟨xx, 0, none⟩)) := HV3.out.blk.cell 3; have z2 : V3.cell? ⟨pb, 2, none⟩ = some (.pointer (some ⟨bb, 0, none⟩)) := HV3.out.blk.cell 2; have zx : V3.cell? ⟨xx, 3, none⟩ = some (.string (sB t)) := (HV3.out.x xx rfl).2.2.cell 3; have zq : V3.cell? ⟨q, 1, none⟩ = some (.slice LA S.l.length LC) := (HRR.out.only O3.out).blk.cell 1; clear o9)
          | (go_at_call 13; refine (dk_loose p gs n S B _ _ HV3.out.d.d).mono ?_; rintro e V4 ⟨rfl, rfl⟩))
        have HF := Lib.hid HV3.out
        have HOF2 := Lib.hid (HO2'.out.trans (O3.out.mono fun _ h => h.elim))
        go_wp2_with fail
        go_roundw
        case rel => exact ⟨j + 1, by omega, by go_num, (HF.out).x_ (by omega) (by omega), HOF2.out⟩
        case measure => simp [intOf]; omega
    · obtain rfl : j = ss.length := by omega
      obtain ⟨S, bo, xo, t, br, D⟩ := HX.out
      have HP := Lib.hid D
      clear D
      go_wp2_with fail
      refine (dk_sure p gs n S B _ y0 HP.out.d.d).mono ?_
      rintro e ya ⟨rfl, o1⟩
      have HPa := Lib.hid (HP.out.only o1)
      have HOa := Lib.hid (HO.out.trans (o1.mono fun _ h => h.elim))
      clear o1
      go_wp2_with fail
      refine (rsure_any ya q gg n S B _ HPa.out.d.r).mono ?_
      rintro e yb ⟨rfl, rfl⟩
      go_wp2_with fail
      refine (alive_any _).mono ?_
      rintro e wa ⟨rfl, ba⟩
      have BA := Lib.hid ba
      clear ba
      go_wp2_with fail
      go_ret
      have hbel : Below w.heap.size w ya := HOa.out.below (fun b hb => by have := HBB.out; omega) (Nat.le_refl _)
      exact ⟨rfl, hbel.trans (BA.out.mono hbel.size)⟩
end Go.Proofs.YtmneflpjoaocbaaGreat
