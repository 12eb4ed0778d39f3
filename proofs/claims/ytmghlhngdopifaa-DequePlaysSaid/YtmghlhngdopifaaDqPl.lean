/- DequePlays: its walk. -/
import Derived.Test.YtmghlhngdopifaaDqPc
import Derived.Test.YtmghlhngdopifaaDeqW
namespace Go.Proofs.Ytmghlhngdopifaa
open Go.RowKit Go.WideShapes Go.ChangeShapes
set_option linter.unusedVariables false
/-- the state between the rounds -/
structure PlayI (y : World) (sq : List (Nat × Array Value)) (B m d m2 d2 X : Nat) (va vb : Value) (P : Int) (n : Int) (v v2 : Value) (C : List Int) (ps qs : List Nat) (acts : List PAct) (on : Option Nat) (L : List Int) : Prop where
  p : PlayP y sq B m d m2 d2 va vb (ps.map ptrv) (qs.map ptrv) n v C ps acts on n v2 C qs acts on
  mm : Mach (0 : Nat) C acts on L P 10000
  hn : n ≤ X
  pl : P ≤ acts.length
section
variable {y y' : World} {sq : List (Nat × Array Value)} {B m d m2 d2 X : Nat} {va vb : Value} {P n : Int} {v v2 : Value} {C : List Int} {ps qs : List Nat} {acts : List PAct} {on : Option Nat} {L : List Int}
theorem PlayI.keep (h : PlayI y sq B m d m2 d2 X va vb P n v v2 C ps qs acts on L) (o : Only (fun _ => False) y y') : PlayI y' sq B m d m2 d2 X va vb P n v v2 C ps qs acts on L := ⟨h.p.keep o, h.mm, h.hn, h.pl⟩
theorem PlayI.more (h : PlayI y sq B m d m2 d2 X va vb P n v v2 C ps qs acts on L) {X' : Nat} (hX : X ≤ X') : PlayI y sq B m d m2 d2 X' va vb P n v v2 C ps qs acts on L := ⟨h.p, h.mm, Int.le_trans h.hn (by omega), h.pl⟩
theorem PlayI.drop (h : PlayI y sq B m d m2 d2 X va vb P n v v2 C ps qs acts on L) : PlayI y [] B m d m2 d2 X va vb P n v v2 C ps qs acts on L := ⟨h.p.drop, h.mm, h.hn, h.pl⟩
theorem PlayI.with_ (h : PlayI y [] B m d m2 d2 X va vb P n v v2 C ps qs acts on L) {q : Nat} {cs : Array Value} (hb : Blk y q 36 cs) : PlayI y [(q, cs)] B m d m2 d2 X va vb P n v v2 C ps qs acts on L := ⟨h.p.with_ hb, h.mm, h.hn, h.pl⟩
theorem PlayI.lenp (h : PlayI y sq B m d m2 d2 X va vb P n v v2 C ps qs acts on L) : ps.length = acts.length := h.p.mw.len
theorem PlayI.lenq (h : PlayI y sq B m d m2 d2 X va vb P n v v2 C ps qs acts on L) : qs.length = acts.length := h.p.rm.len
theorem PlayI.onl (h : PlayI y sq B m d m2 d2 X va vb P n v v2 C ps qs acts on L) : ∀ i, on = some i → i < acts.length := onlen h.mm.onk
end
theorem DqS.drewN {w : World} {B m d z : Nat} {n : Int} {v on : Value} {C : List Int} (h : DqS w B m d z n v C on) (k : Nat) : DqS (w.drewN k) B m d z n v C on := ⟨h.mem.drewN k, h.blk.drewN k, h.base⟩
theorem DMem.drewN {w : World} {B b : Nat} {n : Int} {v : Value} {xs : List Int} (h : DMem w B b n v xs) (k : Nat) : DMem (w.drewN k) B b n v xs := h.only ((Only.refl (fun _ => False) w).drewN k) (fun e => e) (fun _ _ e => e)
set_option maxHeartbeats 8000000 in
set_option maxRecDepth 100000 in
theorem plays_law (lg : Int) (ss : List S16) (A : Option Addr) (c : Nat) (w : World) (hs : Scr16 w w.heap.size A ss) (hm : ss.length ≤ maxLen) :
    Calls Try.prog 6 #[.int .i64 lg, .slice A ss.length c] w fun e w' => e = .returned (.bool true) ∧ Below w.heap.size w w' := by
  unfold maxLen at hm
  have HR := Lib.hid hs
  clear hs
  obtain ⟨i0, hi0, hz0, hz1, hz2⟩ := info_parts (show (Try.prog.info? 37).map (fun i => (i.zero, i.size, i.bytes)) = some (some (.pointer none), 1, 8) by kernel_rfl)
  obtain ⟨i1, hi1, hy0, hy1, hy2⟩ := info_parts (show (Try.prog.info? 60).map (fun i => (i.zero, i.size, i.bytes)) = some (some (.pointer none), 1, 8) by kernel_rfl)
  go_enter Try.func6, Try.ntmps6
  by_cases h3 : (200 : Int) < ss.length
  · go_wp2_with fail
    refine (works_any _).mono ?_
    rintro e w1 ⟨rfl, B⟩
    go_wp2_with fail
    go_ret
    exact ⟨rfl, B⟩
  go_wp2_with fail
  refine (new_any w).mono ?_
  rintro e w1 ⟨rfl, rfl⟩
  obtain ⟨B, hB⟩ : ∃ B, B = w.heap.size := ⟨_, rfl⟩
  obtain ⟨wm, hwm⟩ : ∃ wm, wm = w.alloc (.cells #[.int .i64 0, .bool true, .slice none 0 0] 72) := ⟨_, rfl⟩
  obtain ⟨m2, hm2⟩ : ∃ m2, m2 = wm.heap.size := ⟨_, rfl⟩
  obtain ⟨w1, hw1⟩ : ∃ w1, w1 = wm.alloc (.cells #[.slice none 0 0, .int .i64 0] 56) := ⟨_, rfl⟩
  have hcm0 : CMem wm B B 0 (.slice none 0 0) [] := by rw [hwm, hB]; exact CMem.new w w.heap.size (Nat.le_refl _)
  have hcm : CMem w1 B B 0 (.slice none 0 0) [] := by rw [hw1]; exact hcm0.only ((Only.refl (fun _ => False) wm).alloc _) (fun e => e) (fun _ _ e => e)
  have hbm2 : B ≤ m2 := by rw [hm2, hB, hwm]; simp
  have hdm : DMem w1 B m2 0 (.slice none 0 0) [] := by rw [hw1, hm2]; exact ⟨Blk.new wm _ _, World.ownsRow_nil _ _ _ _, by rw [← hm2]; exact hbm2, by omega, by omega, by simp⟩
  have HO1 : Hid (Only (fun x => B ≤ x) w w1) := Lib.hid (by rw [hw1, hwm]; exact ((Only.refl _ w).alloc _).alloc _)
  have HB := Lib.hid hB
  have HM2 := Lib.hid hm2
  rw [← hwm, ← hB]
  have HW1 := Lib.hid hw1
  clear hwm hB hm2 hw1 hcm0
  by_cases hlg : lg < 0 ∨ 8 < lg
  · have hbad := dnew_bad B lg hlg w1
    have hlen := len_any B B 0 _ [] w1 hcm
    have HBAD := Lib.hid hbad
    have HLEN := Lib.hid hlen
    clear hbad hlen hcm hdm hbm2
    by_cases h0 : lg < 0
    · go_wp2_with fail
      rw [← HM2.out, ← HW1.out]
      refine HBAD.out.mono ?_
      rintro e w2 ⟨rfl, rfl⟩
      go_wp2_with fail
      refine HLEN.out.mono ?_
      rintro e w2 ⟨rfl, rfl⟩
      go_wp2_with fail
      refine (works_any _).mono ?_
      rintro e w3 ⟨rfl, hb⟩
      go_wp2_with fail
      go_ret
      exact ⟨rfl, (HO1.out.below (fun b hb => by have := HB.out; omega) (Nat.le_refl _)).trans (hb.mono HO1.out.size)⟩
    · have h8 : 8 < lg := by omega
      go_wp2_with fail
      rw [← HM2.out, ← HW1.out]
      refine HBAD.out.mono ?_
      rintro e w2 ⟨rfl, rfl⟩
      go_wp2_with fail
      refine HLEN.out.mono ?_
      rintro e w2 ⟨rfl, rfl⟩
      go_wp2_with fail
      refine (works_any _).mono ?_
      rintro e w3 ⟨rfl, hb⟩
      go_wp2_with fail
      go_ret
      exact ⟨rfl, (HO1.out.below (fun b hb => by have := HB.out; omega) (Nat.le_refl _)).trans (hb.mono HO1.out.size)⟩
  obtain ⟨lq, rfl⟩ : ∃ lq : Nat, lg = (lq : Int) := ⟨lg.toNat, by omega⟩
  have hlq : lq ≤ 8 := by omega
  have hl0 : ¬ (lq : Int) < 0 := by omega
  have hl8 : ¬ (8 : Int) < (lq : Int) := by omega
  clear hlg
  have hnew := dnew2_any B B _ lq hlq w1 hcm
  have hmach := mach_new (2 ^ lq) Nat.one_le_two_pow 10000 (by have : 2 ^ lq ≤ 2 ^ 8 := Nat.pow_le_pow_right (by decide) (by omega); omega)
  have HM0 := Lib.hid hmach
  have HN := Lib.hid hnew
  have HCM := Lib.hid hcm
  have HDM := Lib.hid hdm
  have HBM2 := Lib.hid hbm2
  clear hcm hdm hnew hmach hbm2
  go_wp2_with fail
  rw [← HM2.out, ← HW1.out]
  refine HN.out.mono ?_
  rintro e w2 ⟨d, v0, rfl, k1, k2, k3⟩
  have hdm2 : DMem w2 B m2 0 (.slice none 0 0) [] := HDM.out.only k3 (fun e => by
    rcases e with e | e
    · exact Blk.ne_ HDM.out.blk HCM.out.blk (by decide) e
    · cases e) (fun k hk => by cases hk)
  have HS := Lib.hid k1
  have HO := Lib.hid (HO1.out.trans k2)
  have HN2 := Lib.hid (rnew_any B m2 lq hlq w2 hdm2)
  have HD2 := Lib.hid hdm2
  clear k1 k2 k3 hdm2
  go_wp2_with fail
  refine HN2.out.mono ?_
  rintro e w3 ⟨d2, v1, rfl, k1, k2, k3⟩
  have hP : PlayP w3 [] B B d m2 d2 (.slice none 0 0) (.slice none 0 0) [] [] 0 v0 (newC (2 ^ lq)) [] [] none 0 v1 (newC (2 ^ lq)) [] [] none := by
    have hty : ∀ x (cs : Array Value) t, x = m2 → Blk w2 x t cs → t = 56 := by
      rintro x cs t rfl hb
      have h2 : Blk w2 x 56 #[.slice none 0 0, .int .i64 0] := HD2.out.blk
      unfold Blk at hb h2
      rw [hb] at h2
      cases h2
      rfl
    refine ⟨HS.out.stay2 k2 (fun x cs t hx hb => ?_) (fun k hk hx => ?_), k1, World.ownsRow_nil _ _ _ _, World.ownsRow_nil _ _ _ _, fun k hk hk2 => ?_, .inl (fun i a ha => by simp at ha), fun _ hp => by simp at hp, by simp [newC]⟩
    · obtain rfl := hty x cs t hx hb
      exact ⟨by decide, by decide, by decide, fun e => absurd e (by decide), fun e => absurd e (by decide)⟩
    · subst hx
      exact own_blk_ne HS.out.dq.mem.own HD2.out.blk (by decide) hk
    · have := k3 k hk2
      have := lt_own HS.out.dq.mem.own hk
      omega
  have HP := Lib.hid hP
  have HO3 := Lib.hid (HO.out.trans (k2.mono (T := fun x => B ≤ x) fun x hx => by rw [hx]; exact HBM2.out))
  clear k1 k2 k3 hP
  go_wp2_with fail
  go_loopw [10, 11, 12] (fun va vb iv y => ∃ (i : Nat) (P n : Int) (v v2 : Value) (C : List Int) (ps qs : List Nat) (acts : List PAct) (on : Option Nat) (L : List Int), i ≤ ss.length ∧ iv = .int .i64 i ∧ P ≤ i ∧ PlayI y [] B B d m2 d2 (40 * i) va vb P n v v2 C ps qs acts on L ∧ acts.length ≤ i ∧ Only (fun x => B ≤ x) w y) (fun _ _ i _ => ss.length - (intOf i).toNat)
  case atStart => exact ⟨0, 0, 0, v0, v1, _, [], [], [], none, [], by omega, rfl, by omega, ⟨HP.out, HM0.out, by simp, by simp⟩, by simp, HO3.out⟩
  case round =>
    obtain ⟨yr, rfl⟩ : ∃ yr, yr = wr := ⟨_, rfl⟩
    obtain ⟨i, P, n, v, v2, C, ps, qs, acts, on, L, hi, rfl, hPi, s1, hai, o1⟩ := hrel
    have S1 := Lib.hid s1
    have O1 := Lib.hid o1
    have hscr := HR.out.below (O1.out.below (B := w.heap.size) (fun b hb => by have := HB.out; omega) (Nat.le_refl _))
    have HSC := Lib.hid hscr
    clear s1 o1 hscr
    by_cases hil : i < ss.length
    · obtain ⟨s, hs⟩ : ∃ s, ss[i]? = some s := ⟨_, List.getElem?_eq_getElem hil⟩
      obtain ⟨b, off, rfl, hb, c0, c1, c2, c3, hsn, hsk⟩ := HSC.out i s hs
      clear hs
      obtain ⟨act, sv, sn, sk⟩ := s
      simp only at c0 c1 c2 c3 hsn hsk
      obtain ⟨y1, hy1⟩ : ∃ y1, y1 = yr.alloc (.cells #[.int .i64 act, .int .i64 sv, .int .u16 sn, .int .u8 sk] 36) := ⟨_, rfl⟩
      obtain ⟨q5, hq5⟩ : ∃ q5, q5 = yr.heap.size := ⟨_, rfl⟩
      have o1' : Only (fun _ => False) yr y1 := by rw [hy1]; exact (Only.refl _ yr).alloc _
      have hblk : Blk y1 q5 36 #[.int .i64 act, .int .i64 sv, .int .u16 sn, .int .u8 sk] := by rw [hy1, hq5]; exact Blk.new yr _ _
      have S2 := Lib.hid ((S1.out.keep o1').with_ hblk)
      have O2 := Lib.hid (O1.out.trans (o1'.mono (T := fun x => B ≤ x) fun _ e => e.elim))
      have HY := Lib.hid hy1.symm
      have HQ := Lib.hid hq5.symm
      clear hy1 hq5 o1' hblk S1 HSC
      have HLA := Lib.hid (show (ps.map ptrv).length = acts.length by rw [List.length_map]; exact S2.out.lenp)
      have HLB := Lib.hid (show (qs.map ptrv).length = acts.length by rw [List.length_map]; exact S2.out.lenq)
      have HLP := Lib.hid S2.out.lenp
      have HLQ := Lib.hid S2.out.lenq
      have hai' : acts.length ≤ 200 := by omega
      by_cases ha0 : act = 0
      · subst ha0
        go_wp2_with fail
        rw [HY.out, HQ.out]
        cases hown : own acts on with
        | none =>
          refine (mpush_free2 B B d 0 n v C ps acts on L P 10000 y1 sv S2.out.p.mw S2.out.mm hown).mono ?_
          rintro e y2 ⟨rfl, k1, k2, k3, k4⟩
          obtain ⟨q, hq⟩ : ∃ q, q = y1.heap.size := ⟨_, rfl⟩
          rw [← hq] at k1 ⊢
          have m2' : Mach (0 : Nat) C (acts ++ [newA 0 sv]) (some acts.length) (L ++ [sv]) (P + 1) 10000 := by simpa using mach_own S2.out.mm hown 0 sv (.inl ⟨rfl, by omega⟩)
          have P2 := Lib.hid (S2.out.p.turnP k3 k1 (.inl (no12_own m2')) k4 (fun x hx => by cases hx; exact .inr ⟨_, _, S2.out.p.mw.dq.blk, .inr (.inl rfl)⟩) (fun k hk => .inl hk))
          have M2 := Lib.hid m2'
          have O2' := Lib.hid (O2.out.trans k2)
          have z0 : y2.cell? ⟨q5, 0, none⟩ = some (.int .i64 0) := (P2.out.sb _ (List.mem_cons_self ..)).cell 0
          have z1 : y2.cell? ⟨q5, 1, none⟩ = some (.int .i64 sv) := (P2.out.sb _ (List.mem_cons_self ..)).cell 1
          have hbeg := rbegin_free m2 d2 0 sv (onv qs on) y2 P2.out.rm.dq (by omega) (.inr (P2.out.rm.free hown S2.out.onl))
          have HBEG := Lib.hid hbeg
          clear k1 k2 k3 k4 m2' hq hbeg hown
          go_wp2_with fail
          refine HBEG.out.mono ?_
          rintro e y3 ⟨rfl, hb3⟩
          obtain ⟨q2, hq2⟩ : ∃ q2, q2 = y2.heap.size := ⟨_, rfl⟩
          have hrm := P2.out.rm.begin_ (x' := sv) S2.out.onl hb3 (fun _ => rfl)
          rw [← hq2] at hrm ⊢
          have P3 := Lib.hid (P2.out.turnR (on' := (some acts.length)) hrm P2.out.c2 hb3.2.2 (fun x hx => by cases hx; exact .inr ⟨_, _, P2.out.rm.dq, .inr (.inl rfl)⟩) (fun k hk => .inl hk))
          have O3 := Lib.hid (O2'.out.trans (hb3.2.2.mono (T := fun x => B ≤ x) fun x hx => by rw [hx]; exact P2.out.rm.bd))
          clear hb3 hrm hq2 z0 z1
          go_wp2_with (at_builtin; refine wpList_append_any _ rfl (.tmp 223) (.tmp 225) 30 rfl B 37 i0 (.pointer none) 1 8 Try.underlying30 hi0 hz0 hz1 hz2 rfl (by decide) _ _ _ rfl (P3.out.ra.alloc _) _ _ _ _ _ rfl (reads_one _) ?c2 ?c3 ?c4 ?c5 ?_)
          case c2 => intro u hu; simp at hu; subst hu; rfl
          case c3 => rw [HLA.out]; unfold maxLen; omega
          case c4 => rw [HLA.out]; omega
          case c5 => simp; have := O3.out.size; have := HB.out; omega
          intro va' y4 ho4 hg4 _
          have P4 := Lib.hid (P3.out.appA hg4 (by rw [List.length_map]; exact ho4))
          have O4 := Lib.hid ((O3.out.alloc _).grown hg4 (fun k hk => .inl (own_ge P3.out.ra hk)))
          clear ho4 hg4
          go_wp2_with (at_builtin; refine wpList_append_any _ rfl (.tmp 227) (.tmp 229) 59 rfl B 60 i1 (.pointer none) 1 8 Try.underlying59 hi1 hy0 hy1 hy2 rfl (by decide) _ _ _ rfl (P4.out.rb.alloc _) _ _ _ _ _ rfl (reads_one _) ?c2 ?c3 ?c4 ?c5 ?_)
          case c2 => intro u hu; simp at hu; subst hu; rfl
          case c3 => rw [HLB.out]; unfold maxLen; omega
          case c4 => rw [HLB.out]; omega
          case c5 => simp; have := O4.out.size; have := HB.out; omega
          intro vb' y5 ho5 hg5 _
          have P5 := Lib.hid (P4.out.appB hg5 (by rw [List.length_map]; exact ho5))
          have O5 := Lib.hid ((O4.out.alloc _).grown hg5 (fun k hk => .inl (own_ge P4.out.rb hk)))
          clear ho5 hg5
          have hp5 : PlayP y5 [(q5, #[.int .i64 0, .int .i64 sv, .int .u16 sn, .int .u8 sk])] B B d m2 d2 va' vb' ((ps ++ [q]).map ptrv) ((qs ++ [q2]).map ptrv) n v C (ps ++ [q]) (acts ++ [newA 0 sv]) (some acts.length) n v2 C (qs ++ [q2]) (acts ++ [newA 0 sv]) (some acts.length) := by
            have := P5.out
            simp only [List.map_append, List.map_cons, List.map_nil]
            exact this
          have S7 : Hid (PlayI y5 [] B B d m2 d2 (40 * (i + 1)) va' vb' (P + 1) n v v2 C (ps ++ [q]) (qs ++ [q2]) (acts ++ [newA 0 sv]) (some acts.length) (L ++ [sv])) := Lib.hid ((PlayI.mk hp5 M2.out (by have := S2.out.hn; push_cast at this ⊢; omega) (by have := S2.out.pl; simp; omega)).drop)
          clear hp5
          go_wp2_with fail
          exact ⟨⟨i + 1, P + 1, n, v, v2, C, ps ++ [q], qs ++ [q2], acts ++ [newA 0 sv], (some acts.length), L ++ [sv], by omega, by go_num, by push_cast; omega, S7.out, by simp; omega, O5.out⟩, by simp [intOf]; omega⟩
        | some a0 =>
          refine (mpush_busy B B d 0 n v C ps acts on y1 sv S2.out.p.mw hown).mono ?_
          rintro e y2 ⟨rfl, rfl⟩
          obtain ⟨qb, ab, hqb, hbb, h0b⟩ := S2.out.p.rm.busy hown
          have hdq := S2.out.p.rm.dq
          rw [hqb] at hdq
          have HBEG := Lib.hid (rbegin_busy m2 d2 0 qb sv ab y1 hdq (by omega) hbb h0b)
          have z0 : y1.cell? ⟨q5, 0, none⟩ = some (.int .i64 0) := (S2.out.p.sb _ (List.mem_cons_self ..)).cell 0
          have z1 : y1.cell? ⟨q5, 1, none⟩ = some (.int .i64 sv) := (S2.out.p.sb _ (List.mem_cons_self ..)).cell 1
          clear hqb hbb h0b hdq hown
          go_wp2_with fail
          refine HBEG.out.mono ?_
          rintro e y2 ⟨rfl, rfl⟩
          go_wp2_with fail
          exact ⟨⟨i + 1, P, n, v, v2, C, ps, qs, acts, on, L, by omega, by go_num, by push_cast; omega, S2.out.drop.more (by omega), by omega, O2.out⟩, by simp [intOf]; omega⟩
      by_cases ha1 : act = 1
      · subst ha1
        go_wp2_with fail
        rw [HY.out, HQ.out]
        cases hown : own acts on with
        | none =>
          refine (mpop_free2 B B d 0 n v C ps acts on L P 10000 y1 S2.out.p.mw S2.out.mm hown).mono ?_
          rintro e y2 ⟨rfl, k1, k2, k3, k4⟩
          obtain ⟨q, hq⟩ : ∃ q, q = y1.heap.size := ⟨_, rfl⟩
          rw [← hq] at k1 ⊢
          have m2' : Mach (0 : Nat) C (acts ++ [newA 1 0]) (some acts.length) (L) (P) 10000 := by simpa using mach_own S2.out.mm hown 1 0 (.inr rfl)
          have P2 := Lib.hid (S2.out.p.turnP k3 k1 (.inl (no12_own m2')) k4 (fun x hx => by cases hx; exact .inr ⟨_, _, S2.out.p.mw.dq.blk, .inr (.inl rfl)⟩) (fun k hk => .inl hk))
          have M2 := Lib.hid m2'
          have O2' := Lib.hid (O2.out.trans k2)
          have z0 : y2.cell? ⟨q5, 0, none⟩ = some (.int .i64 1) := (P2.out.sb _ (List.mem_cons_self ..)).cell 0
          have z1 : y2.cell? ⟨q5, 1, none⟩ = some (.int .i64 sv) := (P2.out.sb _ (List.mem_cons_self ..)).cell 1
          have hbeg := rbegin_free m2 d2 1 sv (onv qs on) y2 P2.out.rm.dq (by omega) (.inr (P2.out.rm.free hown S2.out.onl))
          have HBEG := Lib.hid hbeg
          clear k1 k2 k3 k4 m2' hq hbeg hown
          go_wp2_with fail
          refine HBEG.out.mono ?_
          rintro e y3 ⟨rfl, hb3⟩
          obtain ⟨q2, hq2⟩ : ∃ q2, q2 = y2.heap.size := ⟨_, rfl⟩
          have hrm := P2.out.rm.begin_ (x' := 0) S2.out.onl hb3 (fun e => absurd e (by decide))
          rw [← hq2] at hrm ⊢
          have P3 := Lib.hid (P2.out.turnR (on' := (some acts.length)) hrm P2.out.c2 hb3.2.2 (fun x hx => by cases hx; exact .inr ⟨_, _, P2.out.rm.dq, .inr (.inl rfl)⟩) (fun k hk => .inl hk))
          have O3 := Lib.hid (O2'.out.trans (hb3.2.2.mono (T := fun x => B ≤ x) fun x hx => by rw [hx]; exact P2.out.rm.bd))
          clear hb3 hrm hq2 z0 z1
          go_wp2_with (at_builtin; refine wpList_append_any _ rfl (.tmp 223) (.tmp 225) 30 rfl B 37 i0 (.pointer none) 1 8 Try.underlying30 hi0 hz0 hz1 hz2 rfl (by decide) _ _ _ rfl (P3.out.ra.alloc _) _ _ _ _ _ rfl (reads_one _) ?c2 ?c3 ?c4 ?c5 ?_)
          case c2 => intro u hu; simp at hu; subst hu; rfl
          case c3 => rw [HLA.out]; unfold maxLen; omega
          case c4 => rw [HLA.out]; omega
          case c5 => simp; have := O3.out.size; have := HB.out; omega
          intro va' y4 ho4 hg4 _
          have P4 := Lib.hid (P3.out.appA hg4 (by rw [List.length_map]; exact ho4))
          have O4 := Lib.hid ((O3.out.alloc _).grown hg4 (fun k hk => .inl (own_ge P3.out.ra hk)))
          clear ho4 hg4
          go_wp2_with (at_builtin; refine wpList_append_any _ rfl (.tmp 227) (.tmp 229) 59 rfl B 60 i1 (.pointer none) 1 8 Try.underlying59 hi1 hy0 hy1 hy2 rfl (by decide) _ _ _ rfl (P4.out.rb.alloc _) _ _ _ _ _ rfl (reads_one _) ?c2 ?c3 ?c4 ?c5 ?_)
          case c2 => intro u hu; simp at hu; subst hu; rfl
          case c3 => rw [HLB.out]; unfold maxLen; omega
          case c4 => rw [HLB.out]; omega
          case c5 => simp; have := O4.out.size; have := HB.out; omega
          intro vb' y5 ho5 hg5 _
          have P5 := Lib.hid (P4.out.appB hg5 (by rw [List.length_map]; exact ho5))
          have O5 := Lib.hid ((O4.out.alloc _).grown hg5 (fun k hk => .inl (own_ge P4.out.rb hk)))
          clear ho5 hg5
          have hp5 : PlayP y5 [(q5, #[.int .i64 1, .int .i64 sv, .int .u16 sn, .int .u8 sk])] B B d m2 d2 va' vb' ((ps ++ [q]).map ptrv) ((qs ++ [q2]).map ptrv) n v C (ps ++ [q]) (acts ++ [newA 1 0]) (some acts.length) n v2 C (qs ++ [q2]) (acts ++ [newA 1 0]) (some acts.length) := by
            have := P5.out
            simp only [List.map_append, List.map_cons, List.map_nil]
            exact this
          have S7 : Hid (PlayI y5 [] B B d m2 d2 (40 * (i + 1)) va' vb' (P) n v v2 C (ps ++ [q]) (qs ++ [q2]) (acts ++ [newA 1 0]) (some acts.length) (L)) := Lib.hid ((PlayI.mk hp5 M2.out (by have := S2.out.hn; push_cast at this ⊢; omega) (by have := S2.out.pl; simp; omega)).drop)
          clear hp5
          go_wp2_with fail
          exact ⟨⟨i + 1, P, n, v, v2, C, ps ++ [q], qs ++ [q2], acts ++ [newA 1 0], (some acts.length), L, by omega, by go_num, by push_cast; omega, S7.out, by simp; omega, O5.out⟩, by simp [intOf]; omega⟩
        | some a0 =>
          refine (mpop_busy B B d 0 n v C ps acts on y1 S2.out.p.mw hown).mono ?_
          rintro e y2 ⟨rfl, rfl⟩
          obtain ⟨qb, ab, hqb, hbb, h0b⟩ := S2.out.p.rm.busy hown
          have hdq := S2.out.p.rm.dq
          rw [hqb] at hdq
          have HBEG := Lib.hid (rbegin_busy m2 d2 1 qb sv ab y1 hdq (by omega) hbb h0b)
          have z0 : y1.cell? ⟨q5, 0, none⟩ = some (.int .i64 1) := (S2.out.p.sb _ (List.mem_cons_self ..)).cell 0
          have z1 : y1.cell? ⟨q5, 1, none⟩ = some (.int .i64 sv) := (S2.out.p.sb _ (List.mem_cons_self ..)).cell 1
          clear hqb hbb h0b hdq hown
          go_wp2_with fail
          refine HBEG.out.mono ?_
          rintro e y2 ⟨rfl, rfl⟩
          go_wp2_with fail
          exact ⟨⟨i + 1, P, n, v, v2, C, ps, qs, acts, on, L, by omega, by go_num, by push_cast; omega, S2.out.drop.more (by omega), by omega, O2.out⟩, by simp [intOf]; omega⟩
      by_cases ha2 : act = 2
      · subst ha2
        go_wp2_with fail
        rw [HY.out, HQ.out]
        refine (msteal_any2 B B d 0 n v C ps acts on L P 10000 y1 S2.out.p.mw S2.out.mm).mono ?_
        rintro e y2 ⟨rfl, k1, k2, k3, k4⟩
        obtain ⟨q, hq⟩ : ∃ q, q = y1.heap.size := ⟨_, rfl⟩
        rw [← hq] at k1 ⊢
        have m2' : Mach (0 : Nat) C (acts ++ [newA 2 0]) on (L) (P) 10000 := mach_steal S2.out.mm
        have P2 := Lib.hid (S2.out.p.turnP k3 k1 (S2.out.p.ok.imp no12_steal id) k4 (fun x hx => by cases hx; exact .inr ⟨_, _, S2.out.p.mw.dq.blk, .inr (.inl rfl)⟩) (fun k hk => .inl hk))
        have M2 := Lib.hid m2'
        have O2' := Lib.hid (O2.out.trans k2)
        have z0 : y2.cell? ⟨q5, 0, none⟩ = some (.int .i64 2) := (P2.out.sb _ (List.mem_cons_self ..)).cell 0
        have z1 : y2.cell? ⟨q5, 1, none⟩ = some (.int .i64 sv) := (P2.out.sb _ (List.mem_cons_self ..)).cell 1
        have hbeg := rbegin_free m2 d2 2 sv (onv qs on) y2 P2.out.rm.dq (by omega) (.inl rfl)
        have HBEG := Lib.hid hbeg
        clear k1 k2 k3 k4 m2' hq hbeg
        go_wp2_with fail
        refine HBEG.out.mono ?_
        rintro e y3 ⟨rfl, hb3⟩
        obtain ⟨q2, hq2⟩ : ∃ q2, q2 = y2.heap.size := ⟨_, rfl⟩
        have hrm := P2.out.rm.begin_ (x' := 0) S2.out.onl hb3 (fun e => absurd e (by decide))
        rw [← hq2] at hrm ⊢
        have P3 := Lib.hid (P2.out.turnR (on' := on) hrm P2.out.c2 hb3.2.2 (fun x hx => by cases hx; exact .inr ⟨_, _, P2.out.rm.dq, .inr (.inl rfl)⟩) (fun k hk => .inl hk))
        have O3 := Lib.hid (O2'.out.trans (hb3.2.2.mono (T := fun x => B ≤ x) fun x hx => by rw [hx]; exact P2.out.rm.bd))
        clear hb3 hrm hq2 z0 z1
        go_wp2_with (at_builtin; refine wpList_append_any _ rfl (.tmp 223) (.tmp 225) 30 rfl B 37 i0 (.pointer none) 1 8 Try.underlying30 hi0 hz0 hz1 hz2 rfl (by decide) _ _ _ rfl (P3.out.ra.alloc _) _ _ _ _ _ rfl (reads_one _) ?c2 ?c3 ?c4 ?c5 ?_)
        case c2 => intro u hu; simp at hu; subst hu; rfl
        case c3 => rw [HLA.out]; unfold maxLen; omega
        case c4 => rw [HLA.out]; omega
        case c5 => simp; have := O3.out.size; have := HB.out; omega
        intro va' y4 ho4 hg4 _
        have P4 := Lib.hid (P3.out.appA hg4 (by rw [List.length_map]; exact ho4))
        have O4 := Lib.hid ((O3.out.alloc _).grown hg4 (fun k hk => .inl (own_ge P3.out.ra hk)))
        clear ho4 hg4
        go_wp2_with (at_builtin; refine wpList_append_any _ rfl (.tmp 227) (.tmp 229) 59 rfl B 60 i1 (.pointer none) 1 8 Try.underlying59 hi1 hy0 hy1 hy2 rfl (by decide) _ _ _ rfl (P4.out.rb.alloc _) _ _ _ _ _ rfl (reads_one _) ?c2 ?c3 ?c4 ?c5 ?_)
        case c2 => intro u hu; simp at hu; subst hu; rfl
        case c3 => rw [HLB.out]; unfold maxLen; omega
        case c4 => rw [HLB.out]; omega
        case c5 => simp; have := O4.out.size; have := HB.out; omega
        intro vb' y5 ho5 hg5 _
        have P5 := Lib.hid (P4.out.appB hg5 (by rw [List.length_map]; exact ho5))
        have O5 := Lib.hid ((O4.out.alloc _).grown hg5 (fun k hk => .inl (own_ge P4.out.rb hk)))
        clear ho5 hg5
        have hp5 : PlayP y5 [(q5, #[.int .i64 2, .int .i64 sv, .int .u16 sn, .int .u8 sk])] B B d m2 d2 va' vb' ((ps ++ [q]).map ptrv) ((qs ++ [q2]).map ptrv) n v C (ps ++ [q]) (acts ++ [newA 2 0]) on n v2 C (qs ++ [q2]) (acts ++ [newA 2 0]) on := by
          have := P5.out
          simp only [List.map_append, List.map_cons, List.map_nil]
          exact this
        have S7 : Hid (PlayI y5 [] B B d m2 d2 (40 * (i + 1)) va' vb' (P) n v v2 C (ps ++ [q]) (qs ++ [q2]) (acts ++ [newA 2 0]) on (L)) := Lib.hid ((PlayI.mk hp5 M2.out (by have := S2.out.hn; push_cast at this ⊢; omega) (by have := S2.out.pl; simp; omega)).drop)
        clear hp5
        go_wp2_with fail
        exact ⟨⟨i + 1, P, n, v, v2, C, ps ++ [q], qs ++ [q2], acts ++ [newA 2 0], on, L, by omega, by go_num, by push_cast; omega, S7.out, by simp; omega, O5.out⟩, by simp [intOf]; omega⟩
      by_cases ha3 : act = 3
      · subst ha3
        obtain ⟨Aa, ca, hva⟩ := own_slice S2.out.p.rb
        rw [HLB.out] at hva
        subst hva
        by_cases hn0 : acts.length = 0
        · have hn0' : (acts.length : Int) = 0 := by omega
          go_wp2_with fail
          rw [HY.out]
          exact ⟨⟨i + 1, P, n, v, v2, C, ps, qs, acts, on, L, by omega, by go_num, by push_cast; omega, S2.out.drop.more (by omega), by omega, O2.out⟩, by simp [intOf]; omega⟩
        have hn1 : ((acts.length : Int) == 0) = false := beq_eq_false_iff_ne.2 (by omega)
        obtain ⟨at', hat⟩ : ∃ at' : Nat, sn.tmod (acts.length : Int) = (at' : Int) := ⟨(sn.tmod acts.length).toNat, by have := Int.tmod_nonneg (acts.length : Int) hsn.1; omega⟩
        have hat' : at' < acts.length := by have := Int.tmod_lt_of_pos sn (show (0 : Int) < acts.length by omega); omega
        obtain ⟨kk, hkk⟩ : ∃ kk : Nat, sk.tmod 32 = (kk : Int) := ⟨(sk.tmod 32).toNat, by have := Int.tmod_nonneg (32 : Int) hsk.1; omega⟩
        have hkk' : kk < 32 := by have := Int.tmod_lt_of_pos sk (show (0 : Int) < 32 by omega); omega
        obtain ⟨gb, cb', hvb⟩ := own_some S2.out.p.rb (by rw [HLB.out]; omega)
        rw [HLB.out] at hvb
        cases hvb
        obtain ⟨ga, ca2, hva⟩ := own_some S2.out.p.ra (by rw [HLA.out]; omega)
        rw [HLA.out] at hva
        subst hva
        clear hn0
        go_wp2_with fail
        rw [HY.out, HQ.out]
        clear hn1
        go_loopw [23] (fun kv y => ∃ (k : Nat) (n : Int) (v v2 : Value) (C : List Int) (acts' : List PAct) (L : List Int), k ≤ 32 ∧ kv = .int .i64 k ∧ PlayI y [(q5, #[.int .i64 3, .int .i64 sv, .int .u16 sn, .int .u8 sk])] B B d m2 d2 (40 * i + k) (.slice (some ⟨ga, 0, none⟩) acts.length ca2) (.slice (some ⟨gb, 0, none⟩) acts.length ca) P n v v2 C ps qs acts' on L ∧ acts'.length = acts.length ∧ Only (fun x => B ≤ x) w y) (fun k _ => 33 - (intOf k).toNat)
        case atStart => exact ⟨0, n, v, v2, C, acts, L, by omega, rfl, S2.out, rfl, O2.out⟩
        case round =>
          obtain ⟨y2, rfl⟩ : ∃ yr, yr = wr := ⟨_, rfl⟩
          obtain ⟨k, n, v, v2, C, acts', L, hk32, rfl, s3, hl3, o3⟩ := hrel
          have S3 := Lib.hid s3
          have O3 := Lib.hid o3
          clear s3 o3
          obtain ⟨a, ha⟩ : ∃ a, acts'[at']? = some a := ⟨_, List.getElem?_eq_getElem (by omega)⟩
          have ra3 := S3.out.p.ra
          rw [HLA.out] at ra3
          have rb3 := S3.out.p.rb
          rw [HLB.out] at rb3
          obtain ⟨p, hp⟩ : ∃ p, ps[at']? = some p := ⟨_, List.getElem?_eq_getElem (by rw [HLP.out]; exact hat')⟩
          obtain ⟨q, hq⟩ : ∃ q, qs[at']? = some q := ⟨_, List.getElem?_eq_getElem (by rw [HLQ.out]; exact hat')⟩
          have hpe : (ps.map ptrv)[at']? = some (ptrv p) := by rw [List.getElem?_map, hp]; rfl
          have hqe : (qs.map ptrv)[at']? = some (ptrv q) := by rw [List.getElem?_map, hq]; rfl
          obtain ⟨cap3, caf3⟩ := own_at ra3 hpe
          obtain ⟨cbp3, cbf3⟩ := own_at rb3 hqe
          unfold ptrv at cap3 cbp3
          have c53 : y2.cell? ⟨q5, 3, none⟩ = some (.int .u8 sk) := (S3.out.p.sb _ (List.mem_cons_self ..)).cell 3
          have HA := Lib.hid ha
          have HP9 := Lib.hid hp
          have HQ9 := Lib.hid hq
          have HPE := Lib.hid hpe
          have HQE := Lib.hid hqe
          clear ha hp hq ra3 rb3 hpe hqe
          by_cases hkk3 : (k : Int) ≤ (kk : Int)
          · by_cases h0 : a.told = 0
            · go_wp2_with fail
              refine (mstep2_any B B d 0 p at' n v C ps acts' on L P 10000 a y2 S3.out.p.mw S3.out.mm (by omega) (by omega) (by omega) (by have := S3.out.hn; push_cast at this; omega) HA.out HP9.out h0).mono ?_
              obtain ⟨_, _, hAI⟩ := S3.out.p.mw.act at' a HA.out
              obtain ⟨hSafe, hVal⟩ := mach_safe (z := 0) S3.out.mm (by omega) (by omega) (by omega) HA.out h0 hAI.k2
              rintro e y3 ⟨rfl, ⟨o4, f4⟩, v4, L4, w4, m4, c4, k4, r4, x4, row4⟩
              clear r4 c4 k4 cap3 caf3 cbp3 cbf3 c53
              have g0 := hAI.g0 h0
              have P4 := Lib.hid (S3.out.p.turnP f4 w4 (ok_of m4 (k := (ps.map ptrv).length) (by have h1 := S3.out.pl; rw [HLA.out]; omega)) x4 (fun x hx => by
                rcases hx with (hx | hx) | hx | hx
                · exact .inr ⟨_, _, by rw [hx]; exact S3.out.p.mw.dq.mem.blk, .inl rfl⟩
                · exact .inl hx
                · exact .inr ⟨_, _, by rw [hx]; exact S3.out.p.mw.dq.blk, .inr (.inl rfl)⟩
                · obtain ⟨p9, hp9, hA9⟩ := S3.out.p.mw.act at' a HA.out
                  obtain ⟨dv9, hb9, _⟩ := hA9.ex
                  rw [HP9.out] at hp9
                  cases hp9
                  exact .inr ⟨_, _, by rw [hx]; exact hb9, .inr (.inr rfl)⟩) row4)
              have O4 := Lib.hid (O3.out.trans o4)
              have M4 := Lib.hid m4
              have HRS := Lib.hid (rmstep_any B m2 d2 q at' n v2 C qs acts' on a y3 P4.out.rm (by have := S3.out.hn; push_cast at this; omega) HA.out HQ9.out h0 g0 hAI.i0 hSafe hVal)
              have rb4 := P4.out.rb
              rw [HLB.out] at rb4
              obtain ⟨cbp4, cbf4⟩ := own_at rb4 HQE.out
              unfold ptrv at cbp4
              have hc4 : cnt a ≤ 1 := by unfold cnt; split <;> omega
              have HN4 := Lib.hid (show n + cnt a ≤ ((40 * i + k + 1 : Nat) : Int) by have := S3.out.hn; push_cast at this ⊢; omega)
              have HCL := Lib.hid (show 2 ≤ (pstep ((0 : Nat) : Int) C a).C.length by
                obtain ⟨ws, cur, q, hc, _⟩ := m4.ex
                have := hc.dl
                omega)
              clear o4 f4 w4 m4 x4 row4 rb4 hc4 hSafe hVal g0 hAI
              generalize hr : pstep ((0 : Nat) : Int) C a = r at *
              clear hr
              go_wp2_with fail
              refine HRS.out.mono ?_
              rintro e y4 ⟨rfl, v5, rm5, x5, row5⟩
              have P5 := Lib.hid (P4.out.turnR rm5 HCL.out x5 (fun x hx => by
                rcases hx with (hx | hx) | hx
                · exact .inr ⟨_, _, by rw [hx]; exact P4.out.rm.mem.blk, .inl rfl⟩
                · exact .inl hx
                · obtain ⟨q9, x9, hq9, hb9, _⟩ := P4.out.rm.act at' a HA.out
                  rw [HQ9.out] at hq9
                  cases hq9
                  exact .inr ⟨_, _, by rw [hx]; exact hb9, .inr (.inr rfl)⟩) row5)
              have O5 := Lib.hid (O4.out.trans (x5.mono (T := fun x => B ≤ x) fun x hx => by
                rcases hx with (hx | hx) | hx
                · rw [hx]; exact P4.out.rm.mem.base
                · exact own_ge P4.out.rm.mem.own hx
                · rw [hx]; exact P4.out.rm.ge _ (List.mem_of_getElem? HQ9.out)))
              have PL5 := Lib.hid (show P ≤ ((acts'.set at' r.a).length : Int) by rw [List.length_set]; exact S3.out.pl)
              clear rm5 x5 row5 cbp4 cbf4
              go_wp2_with fail
              go_roundw
              case rel => exact ⟨k + 1, n + cnt a, v4, v5, r.C, acts'.set at' r.a, L4, by omega, by go_num, ⟨P5.out, M4.out, HN4.out, PL5.out⟩, by rw [List.length_set]; exact hl3, O5.out⟩
              case measure => simp [intOf]; omega
            · have HSO := Lib.hid (step_over B B d 0 p at' n v C ps acts' on a y2 S3.out.p.mw HA.out HP9.out h0)
              obtain ⟨q9, x9, hq9, hb9, _⟩ := S3.out.p.rm.act at' a HA.out
              rw [HQ9.out] at hq9
              cases hq9
              have HRO := Lib.hid (rstep_over d2 q { a with v := x9 } y2 hb9 h0)
              clear hb9
              go_wp2_with fail
              refine HSO.out.mono ?_
              rintro e y3 ⟨rfl, rfl⟩
              go_wp2_with fail
              refine HRO.out.mono ?_
              rintro e y3 ⟨rfl, rfl⟩
              go_wp2_with fail
              go_roundw
              case rel => exact ⟨k + 1, n, v, v2, C, acts', L, by omega, by go_num, S3.out.more (by omega), hl3, O3.out⟩
              case measure => simp [intOf]; omega
          · obtain ⟨p9, hp9, hA9⟩ := S3.out.p.mw.act at' a HA.out
            obtain ⟨dv9, hb9, _⟩ := hA9.ex
            rw [HP9.out] at hp9
            cases hp9
            obtain ⟨q9, x9, hq9, hc9, _⟩ := S3.out.p.rm.act at' a HA.out
            rw [HQ9.out] at hq9
            cases hq9
            have HT := Lib.hid (told_any d p (toAC a dv9) y2 hb9)
            have HC9 := Lib.hid hc9
            clear hA9 hb9 hc9
            go_wp2_with fail
            refine HT.out.mono ?_
            rintro e y3 ⟨rfl, o4⟩
            have S4 := Lib.hid (S3.out.keep o4)
            have O4 := Lib.hid (O3.out.trans (o4.mono (T := fun x => B ≤ x) fun _ e => e.elim))
            have hc9 := o4.blk HC9.out (fun e => e)
            have t11 : y3.cell? ⟨q, 11, none⟩ = some (.int .u8 (a.told : Int)) := hc9.cell 11
            have t12 : y3.cell? ⟨q, 12, none⟩ = some (.int .i64 a.got) := hc9.cell 12
            have rb4 := S4.out.p.rb
            rw [HLB.out] at rb4
            obtain ⟨cbp4, cbf4⟩ := own_at rb4 HQE.out
            unfold ptrv at cbp4
            have hwh : (toAC a dv9).wh = (a.told : Int) := rfl
            have hxx : (toAC a dv9).x = a.got := rfl
            clear o4 hc9 rb4 cbf4 cap3 caf3 cbp3 cbf3
            rw [hwh, hxx]
            go_wp2_with fail
            exact ⟨⟨i + 1, P, n, v, v2, C, ps, qs, acts', on, L, by omega, by go_num, by push_cast; omega, S4.out.drop.more (by omega), by omega, O4.out⟩, by simp [intOf]; omega⟩
      · go_wp2_with fail
        rw [HY.out]
        exact ⟨⟨i + 1, P, n, v, v2, C, ps, qs, acts, on, L, by omega, by go_num, by push_cast; omega, S2.out.drop.more (by omega), by omega, O2.out⟩, by simp [intOf]; omega⟩
    · obtain rfl : i = ss.length := by omega
      have hP2 : P ≤ 200 := by omega
      obtain ⟨hb1, hb0, hcl, hclen⟩ : bd (ld C 1) ∧ bd (ld C 0) ∧ 2 ≤ C.length ∧ C.length ≤ 65536 := by
        obtain ⟨ws, cur, q, hc, ho, hs, _⟩ := S1.out.mm.ex
        have hb : -1 ≤ ld C 1 ∧ ld C 1 ≤ P := bot_bd (z := 0) hc ho
        have t0 : 0 ≤ ld C 0 := hc.top0
        have tP : ld C 0 + q.length ≤ P := hc.topP
        have h1 := hs.1
        have h2 := hs.2
        have hlen : C.length ≤ 65536 := by omega
        unfold bd
        exact ⟨by omega, by omega, S1.out.p.c2, hlen⟩
      obtain ⟨g2, cap2, hv2, _, _, _, _, _⟩ := S1.out.p.rm.mem.at_ (k := 0) (by omega)
      subst hv2
      have HN := Lib.hid (show n ≤ 8000 by have := S1.out.hn; push_cast at this; omega)
      have HCM := Lib.hid S1.out.p.mw.dq.mem
      have HDQ := Lib.hid S1.out.p.mw.dq
      have HDM := Lib.hid S1.out.p.rm.mem
      have HRD := Lib.hid S1.out.p.rm.dq
      have HSEP := Lib.hid S1.out.p.sep
      have x0 : yr.cell? ⟨m2, 0, none⟩ = some (.slice (some ⟨g2, 0, none⟩) C.length cap2) := HDM.out.blk.cell 0
      have x1 : yr.cell? ⟨m2, 1, none⟩ = some (.int .i64 n) := HDM.out.blk.cell 1
      obtain ⟨sz, hsz⟩ : ∃ sz, sz = if ld C 1 - ld C 0 < 0 then 0 else ld C 1 - ld C 0 := ⟨_, rfl⟩
      have HZ1 : Hid (∀ k, Calls Try.prog 15 #[.pointer (some ⟨d, 0, none⟩)] (yr.drewN k) fun e w' => e = .returned (.int .i64 sz) ∧ ∃ j, w' = (yr.drewN k).drewN j) := Lib.hid (fun k => by rw [hsz]; exact size_q _ _ _ _ _ _ _ _ (HDQ.out.drewN k) hb1 hb0)
      have HZ2 : Hid (∀ k, Calls Try.prog 23 #[.pointer (some ⟨d2, 0, none⟩)] (yr.drewN k) fun e w' => e = .returned (.int .i64 sz) ∧ ∃ j, w' = (yr.drewN k).drewN j) := Lib.hid (fun k => by rw [hsz]; exact rsize_any _ _ _ _ _ _ _ _ (HDM.out.drewN k) (HRD.out.drewN k) hb1 hb0 hcl)
      clear S1 HSC hb1 hb0 hPi hai h3 hsz
      go_wp2_with fail
      go_quiet ((first
        | (go_at_call 17; exact quiet_left (len_any _ _ _ _ _ _ (HCM.out.drewN _)))
        | (go_at_call 22; exact quiet_left (steps_any _ _ _ _ _ _ (HCM.out.drewN _)))
        | (go_at_call 15; exact Calls.quiet_of (HZ1.out _))
        | (go_at_call 23; exact Calls.quiet_of (HZ2.out _))))
      obtain ⟨yq, hyq⟩ : ∃ yq, yq = yr.drewN nq := ⟨_, rfl⟩
      have hcm : CMem yq B B n v C := by rw [hyq]; exact HCM.out.drewN _
      have hdm : DMem yq B m2 n (.slice (some ⟨g2, 0, none⟩) C.length cap2) C := by rw [hyq]; exact HDM.out.drewN _
      have O3 := Lib.hid (show Only (fun x => B ≤ x) w yq by rw [hyq]; exact O1.out.drewN _)
      rw [← hyq]
      have HCM1 := Lib.hid hcm
      have HDM1 := Lib.hid hdm
      clear x0 x1 hcm hdm hyq
      go_wp2_with fail
      go_loopw [34] (fun iv y => ∃ (k : Nat) (n' : Int), k ≤ C.length ∧ iv = .int .i64 k ∧ n' ≤ 8000 + k ∧ CMem y B B n' v C ∧ DMem y B m2 n (.slice (some ⟨g2, 0, none⟩) C.length cap2) C ∧ Only (fun x => B ≤ x) w y) (fun k _ => C.length - (intOf k).toNat)
      case atStart => exact ⟨0, n, by omega, rfl, by have := HN.out; push_cast; omega, HCM1.out, HDM1.out, O3.out⟩
      case round =>
        obtain ⟨y2, rfl⟩ : ∃ yr, yr = wr := ⟨_, rfl⟩
        obtain ⟨k, n', hk, rfl, hn', cm, dm, o4⟩ := hrel
        have CM := Lib.hid cm
        have DM := Lib.hid dm
        have O4 := Lib.hid o4
        have x0 : y2.cell? ⟨m2, 0, none⟩ = some (.slice (some ⟨g2, 0, none⟩) C.length cap2) := DM.out.blk.cell 0
        clear cm dm o4
        by_cases hkl : k < C.length
        · have e1 : cellV C (k : Int) = C.getD k 0 := by unfold cellV; rw [if_pos ⟨by omega, by omega⟩]; simp
          have e2 : cellE C (k : Int) = 0 := if_pos ⟨by omega, by omega⟩
          have e3 : cellN C (k : Int) = 1 := cellN_in (by omega) (by omega)
          have hld := load_any B B n' k v C y2 CM.out (by omega)
          rw [e1, e2, e3] at hld
          have HLD := Lib.hid hld
          have HKL := Lib.hid hkl
          clear e1 e2 e3 hld
          go_wp2_with fail
          refine HLD.out.mono ?_
          rintro e y3 ⟨rfl, cm3, o3⟩
          have dm3 : DMem y3 B m2 n (.slice (some ⟨g2, 0, none⟩) C.length cap2) C := DM.out.only o3 (fun e => by
            rcases e with e | e
            · exact Blk.ne_ DM.out.blk CM.out.blk (by decide) e
            · exact own_blk_ne CM.out.own DM.out.blk (by decide) e) (fun k hk e => by
            rcases e with e | e
            · exact own_blk_ne DM.out.own CM.out.blk (by decide) (e ▸ hk)
            · exact HSEP.out k e hk)
          have CM3 := Lib.hid cm3
          have DM3 := Lib.hid dm3
          have O5 := Lib.hid (O4.out.trans (o3.mono (T := fun x => B ≤ x) fun x hx => by
            rcases hx with hx | hx
            · rw [hx]; exact CM.out.base
            · exact own_ge CM.out.own hx))
          have x3 : y3.cell? ⟨m2, 0, none⟩ = some (.slice (some ⟨g2, 0, none⟩) C.length cap2) := dm3.blk.cell 0
          obtain ⟨g3, cap3, e3, _, _, _, hc3, _⟩ := dm3.at_ HKL.out
          cases e3
          clear cm3 dm3 o3 x0
          generalize C.getD k 0 = xk at *
          go_wp2_with fail
          go_roundw
          case rel => exact ⟨k + 1, n' + 1, HKL.out, by go_num, by push_cast; omega, CM3.out, DM3.out, O5.out⟩
          case measure => have := HKL.out; simp [intOf]; omega
        · have hkl' : ¬ (k : Int) < (C.length : Int) := by omega
          go_wp2_with fail
          refine (works_any _).mono ?_
          rintro e w1 ⟨rfl, hb⟩
          go_wp2_with fail
          go_ret
          exact ⟨rfl, (O4.out.below (fun b hb => by have := HB.out; omega) (Nat.le_refl _)).trans (hb.mono O4.out.size)⟩
end Go.Proofs.Ytmghlhngdopifaa
