/- Deques: growLoad, and the room that a push makes. -/
import Derived.Test.YtmghlhngdopifaaDqK
import Derived.Deep.WholeRow
namespace Go.Proofs.Ytmghlhngdopifaa
open Go.RowKit
set_option linter.unusedVariables false
attribute [local simp] frOf dstsOf frGo predsHold allHold Region.binds slotOf seen Is Act.put
theorem loadz_any (B b : Nat) (n k : Int) (v : Value) (xs : List Int) (w : World) (h : CMem w B b n v xs) (hn : n + 1 ≤ 4611686018427387904) :
    Calls Try.prog 24 #[.pointer (some ⟨b, 0, none⟩), .int .i64 k] w fun e w' => e = .returned (.tuple #[.int .i64 (cellV xs k), .int .i64 (cellE xs k)]) ∧ CMem w' B b (n + cellN xs k) v xs ∧ Only (mine b v) w w' ∧ w'.heap.size = w.heap.size := by
  have hl := h.len
  have hn0 := h.n0
  by_cases hk : 0 ≤ k ∧ k < xs.length
  · have e1 : cellV xs k = xs.getD k.toNat 0 := if_pos hk
    have e2 : cellE xs k = 0 := if_pos hk
    have e3 : cellN xs k = 1 := if_pos hk
    rw [e1, e2, e3]
    clear e1 e2 e3
    obtain ⟨j, rfl⟩ := Int.eq_ofNat_of_zero_le hk.1
    have hj : j < xs.length := by omega
    clear hk
    obtain ⟨g, cap, rfl, _, hg, hgb, hc, hf⟩ := h.at_ hj
    have hs := h.setN (n + 1) (by omega) hn
    have hc' : (w.setCell ⟨b, 0, none⟩ (.int .i64 (n + 1))).cell? ⟨g, j, none⟩ = some (.int .i64 (xs.getD j 0)) := by rw [World.cell?_setCell_other _ _ _ _ (by intro e; injection e with e; exact hgb e.symm)]; exact hc
    have hfin : CMem (w.setCell ⟨b, 0, none⟩ (.int .i64 (n + 1))) B b (n + 1) (.slice (some ⟨g, 0, none⟩) xs.length cap) xs ∧ Only (mine b (.slice (some ⟨g, 0, none⟩) xs.length cap)) w (w.setCell ⟨b, 0, none⟩ (.int .i64 (n + 1))) ∧ (w.setCell ⟨b, 0, none⟩ (.int .i64 (n + 1))).heap.size = w.heap.size := ⟨hs, (Only.refl _ _).setCell (.inl (.inl rfl)) _, by simp [World.setCell]⟩
    have H := Lib.hid hfin
    have Hb := Lib.hid h.blk
    clear hs hfin h hc hf
    simp only [Int.toNat_natCast]
    generalize xs.getD j 0 = x at hc' ⊢
    go_enter Try.func24, Try.ntmps24
    go_wp2_with (go_at_call 35; refine (step_yes _ _ _ _ _ _ _ hn0 (by omega) hl hj Hb.out).mono ?_; rintro e w' ⟨rfl, rfl⟩)
    go_ret2
    exact ⟨rfl, H.out⟩
  · have e1 : cellV xs k = 0 := if_neg hk
    have e2 : cellE xs k = 5 := if_neg hk
    have e3 : cellN xs k = 0 := if_neg hk
    rw [e1, e2, e3, Int.add_zero]
    clear e1 e2 e3
    obtain ⟨A, cap, rfl⟩ := h.slice
    have H := Lib.hid h
    clear h
    go_enter Try.func24, Try.ntmps24
    go_wp2_with (go_at_call 35; refine (step_no _ _ _ _ _ _ _ hl (by omega) H.out.blk).mono ?_; rintro e w' ⟨rfl, rfl⟩)
    go_ret2
    exact ⟨rfl, H.out, Only.refl _ _, rfl⟩
theorem aloadz_any (B m d z p : Nat) (n k : Int) (v on : Value) (C : List Int) (cs : Array Value) (w : World) (h : DqS w B m d z n v C on) (hp : Blk w p 79 cs) (h3 : cs[3]? = some (.pointer (some ⟨d, 0, none⟩))) (hn : n + 1 ≤ 4611686018427387904) :
    Calls Try.prog 36 #[.pointer (some ⟨p, 0, none⟩), .int .i64 k] w fun e w' => e = .returned (.int .i64 (ld C k)) ∧ CMem w' B m (n + cellN C k) v C ∧ Only (mine m v) w w' ∧ w'.heap.size = w.heap.size := by
  have c3 : w.cell? ⟨p, 3, none⟩ = some (.pointer (some ⟨d, 0, none⟩)) := (hp.cell 3).trans h3
  have c0 : w.cell? ⟨d, 0, none⟩ = some (.pointer (some ⟨m, 0, none⟩)) := h.blk.cell 0
  have H := Lib.hid h
  clear h hp h3
  go_enter Try.func36, Try.ntmps36
  go_wp2_with fail
  refine (loadz_any B m n k v C w H.out.mem hn).mono ?_
  rintro e w' ⟨rfl, h1, h2, h3⟩
  have H3 := Lib.hid h3
  have H1 := Lib.hid h1
  have H2 := Lib.hid h2
  rw [cellV_ld]
  clear h1 h2 h3
  go_wp2_with fail
  go_ret
  exact ⟨rfl, H1.out, H2.out, H3.out⟩
theorem zeroPA : (Try.prog.info? 37).map (fun i => (i.zero, i.size)) = some (some (.pointer none), 1) := by kernel_rfl
theorem zeroI64 : (Try.prog.info? 2).map (fun i => (i.zero, i.size)) = some (some (.int .i64 0), 1) := by kernel_rfl
/-- how it lies while a place is read into a new variable -/
structure StG (B m : Nat) (n N : Int) (v : Value) (C : List Int) (V : Int) (W : World) (b1 b2 b3 : Bool) (y : World) : Prop where
  only : Only (mine m v) W y
  mem : CMem y B m (if b1 = true then n + N else n) v C
  new : if b2 = true then y.heap.size = W.heap.size + 1 ∧ Blk y W.heap.size 2 #[.int .i64 (if b3 = true then V else 0)] else y.heap.size = W.heap.size
  ord : b3 = true → b2 = true
section
variable {B m : Nat} {n N : Int} {v : Value} {C : List Int} {V : Int} {W y w2 : World} {b1 b2 b3 : Bool}
theorem StG.load (h : StG B m n N v C V W b1 b2 b3 y) (hn : ¬ mine m v W.heap.size) (j1 : CMem w2 B m (n + N) v C) (j2 : Only (mine m v) y w2) (j3 : w2.heap.size = y.heap.size) : StG B m n N v C V W true b2 b3 w2 := by
  refine ⟨h.only.trans j2, by simpa using j1, ?_, h.ord⟩
  have := h.new
  cases b2 with
  | true =>
    simp only [if_true] at this ⊢
    exact ⟨by rw [j3]; exact this.1, j2.blk this.2 hn⟩
  | false => simpa [j3] using this
theorem StG.make (h : StG B m n N v C V W b1 b2 b3 y) (hb : b2 = false) : y.heap.size = W.heap.size ∧ StG B m n N v C V W b1 true b3 (y.alloc (.cells #[.int .i64 0] 2)) := by
  subst hb
  have hs : y.heap.size = W.heap.size := by simpa using h.new
  have hb3 : b3 = false := by
    cases b3 with
    | false => rfl
    | true => have := h.ord rfl; cases this
  refine ⟨hs, h.only.alloc _, h.mem.only ((Only.refl (fun _ => False) y).alloc _) (fun e => e) (fun _ _ e => e), ?_, fun _ => rfl⟩
  simp only [if_true]
  refine ⟨by simp [hs], ?_⟩
  rw [hb3, ← hs]
  exact Blk.new y _ _
theorem StG.store (h : StG B m n N v C V W b1 b2 b3 y) (hn : ¬ mine m v W.heap.size) (hb : b2 = true) (hc : b3 = false) : y.cell? ⟨W.heap.size, 0, none⟩ = some (.int .i64 0) ∧ y.frozen? ⟨W.heap.size, 0, none⟩ = false ∧ StG B m n N v C V W b1 b2 true (y.setCell ⟨W.heap.size, 0, none⟩ (.int .i64 V)) := by
  subst hb hc
  have h1 := h.new
  simp only [if_true, Bool.false_eq_true, if_false] at h1
  refine ⟨h1.2.cell 0, h1.2.frozen 0, ⟨h.only.setCell (p := ⟨W.heap.size, 0, none⟩) (.inr (Nat.le_refl _)) _, h.mem.only ((Only.refl (fun x => x = W.heap.size) y).setCell (p := ⟨W.heap.size, 0, none⟩) (.inl rfl) _) (fun e => hn (.inl e.symm)) (fun k hk e => hn (.inr (e ▸ hk))), ?_, fun _ => rfl⟩⟩
  simp only [if_true]
  exact ⟨by simpa [World.setCell] using h1.1, h1.2.set_ 0 _⟩
end
set_option maxRecDepth 100000 in
set_option maxHeartbeats 1000000 in
theorem growLoad_any (B m d z p : Nat) (n : Int) (v on : Value) (C : List Int) (c : AC) (w : World) (h : DqS w B m d z n v C on) (hp : Blk w p 79 (c.arr d)) (hn : n + 2 ≤ 4611686018427387904) (h0 : 0 ≤ c.i) (h1 : 1 ≤ c.n) (h2 : c.n ≤ 1000000) (h3 : 0 ≤ c.w) (h4 : c.w ≤ 1000000) :
    Calls Try.prog 70 #[.pointer (some ⟨p, 0, none⟩)] w fun e w' => e = .returned (.int .i64 0) ∧ ∃ ba bv, Blk w' ba 37 #[.pointer (some ⟨p, 0, none⟩)] ∧ Blk w' bv 2 #[.int .i64 (ld C (place c.w c.n c.i))] ∧ w.heap.size ≤ bv ∧ v.ownBlock ≠ some bv ∧ Stp w w' B m d z p (n + cellN C (place c.w c.n c.i)) v v on C { c with dv := (.func (.func 73) #[] #[.pointer (some ⟨ba, 0, none⟩), .pointer (some ⟨bv, 0, none⟩)]) } := by
  have HS := Lib.hid (Stp.refl h hp)
  clear h hp
  obtain ⟨hzv, hzi⟩ := zero_of_info zeroPA
  obtain ⟨hzv2, hzi2⟩ := zero_of_info zeroI64
  obtain ⟨ba, hba⟩ : ∃ ba, ba = w.heap.size := ⟨_, rfl⟩
  obtain ⟨wa, hwa⟩ : ∃ wa, wa = w.alloc (.cells #[.pointer (some ⟨p, 0, none⟩)] 37) := ⟨_, rfl⟩
  have hbl : Blk wa ba 37 #[.pointer (some ⟨p, 0, none⟩)] := by rw [hwa, hba]; exact Blk.new w _ _
  have HWA : Hid (Stp w wa B m d z p n v v on C c) := Lib.hid (HS.out.quiet (by rw [hwa]; exact (Only.refl _ w).alloc _))
  have hvlt : ∀ k, v.ownBlock = some k → k < wa.heap.size := fun k hk => by
    rcases owns_form HWA.out.dq.mem.own with ⟨rfl, _⟩ | ⟨g, cap, rfl, _, _, _, hlt⟩
    · cases hk
    · cases hk; exact hlt
  have hma : ¬ mine m v ba := by
    rintro (e | e)
    · exact Blk.ne_ hbl HWA.out.dq.mem.blk (by decide) e
    · exact own_blk_ne HWA.out.dq.mem.own hbl (by decide) e
  have hsz : wa.heap.size = ba + 1 := by rw [hwa, hba]; simp
  have hmn : ¬ mine m v wa.heap.size := by
    rintro (e | e)
    · have := HWA.out.dq.mem.blk.lt; omega
    · have := hvlt _ e; omega
  obtain ⟨W2, hW2⟩ : ∃ W2, W2 = wa.drew := ⟨_, rfl⟩
  have HX : Hid (Stp w W2 B m d z p n v v on C c) := Lib.hid (by rw [hW2]; exact HWA.out.drew)
  have HW2 := Lib.hid hW2
  obtain ⟨bv, hbv⟩ : ∃ bv, bv = W2.heap.size := ⟨_, rfl⟩
  have hbv2 : bv = wa.heap.size := by rw [hbv, hW2]; rfl
  have HBA2 : Hid (∀ y, Only (mine m v) W2 y → Blk y ba 37 #[.pointer (some ⟨p, 0, none⟩)]) := Lib.hid (fun y hy => hy.blk (by rw [hW2]; exact hbl) hma)
  have HC : Hid (∀ y, Only (mine m v) W2 y → y.cell? ⟨ba, 0, none⟩ = some (.pointer (some ⟨p, 0, none⟩)) ∧ y.cell? ⟨p, 7, none⟩ = some (.int .i64 c.w) ∧ y.cell? ⟨p, 8, none⟩ = some (.int .i64 c.n) ∧ y.cell? ⟨p, 10, none⟩ = some (.int .i64 c.i)) := Lib.hid (fun y hy => by
    obtain ⟨k1, k2⟩ := HX.out.cells hy
    exact ⟨(HBA2.out y hy).cell 0, k1.cell 7, k1.cell 8, k1.cell 10⟩)
  have HMN : Hid (¬ mine m v bv) := Lib.hid (by rw [hbv2]; exact hmn)
  have HNV : Hid (w.heap.size ≤ bv ∧ v.ownBlock ≠ some bv) := Lib.hid ⟨by omega, fun e => hmn (by rw [← hbv2]; exact .inr e)⟩
  have HBV := Lib.hid hbv
  clear hvlt hma hmn hsz hW2 hbv hbv2 hbl
  go_enter Try.func70, Try.ntmps70
  go_wp2_with fail
  rw [← hwa, ← hba]
  clear hwa hba
  refine wp_region_st (by kernel_rfl) (fun dn y => StG B m n (cellN C (place c.w c.n c.i)) v C (ld C (place c.w c.n c.i)) W2 (dn 14) (dn 15) (dn 16) y) [Is (.pointer (some ⟨p, 0, none⟩)), Is (.pointer (some ⟨p, 0, none⟩)), Is (.pointer (some ⟨p, 0, none⟩)), Is (.pointer (some ⟨p, 7, none⟩)), Is (.int .i64 c.w), Is (.pointer (some ⟨p, 0, none⟩)), Is (.pointer (some ⟨p, 0, none⟩)), Is (.pointer (some ⟨p, 8, none⟩)), Is (.int .i64 c.n), Is (.pointer (some ⟨p, 0, none⟩)), Is (.pointer (some ⟨p, 0, none⟩)), Is (.pointer (some ⟨p, 10, none⟩)), Is (.int .i64 c.i), Is (.int .i64 (place c.w c.n c.i)), Is (.int .i64 (ld C (place c.w c.n c.i))), Is (.pointer (some ⟨bv, 0, none⟩)), fun _ _ => True] (by kernel_rfl)
    ⟨is_stab _ _, is_stab _ _, is_stab _ _, is_stab _ _, is_stab _ _, is_stab _ _, is_stab _ _, is_stab _ _, is_stab _ _, is_stab _ _, is_stab _ _, is_stab _ _, is_stab _ _, is_stab _ _, is_stab _ _, is_stab _ _, (fun _ _ _ _ _ => trivial), trivial⟩ (by rw [← HW2.out]; exact ⟨Only.refl _ _, by simpa using HX.out.dq.mem, by simp, by simp⟩) ⟨?_, ?_, ?_, ?_, ?_, ?_, ?_, ?_, ?_, ?_, ?_, ?_, ?_, ?_, ?_, ?_, ?_, trivial⟩ ?_
  · intro dn u w1 hi he hS hp K hK
    refine ord_plain rfl ?_
    simp at hp hK ⊢
    have hc := (HC.out w1 hS.only).1
    go_simp
    exact hK _ _ (by simpa [ldW] using hS) rfl
  · intro dn u w1 hi he hS hp K hK
    refine ord_plain rfl ?_
    simp at hp hK ⊢
    have hc := (HC.out w1 hS.only).1
    go_simp
    exact hK _ _ (by simpa [ldW] using hS) rfl
  · intro dn u w1 hi he hS hp K hK
    refine ord_plain rfl ?_
    simp at hp hK ⊢
    simp only [hp] at hK
    go_simp
    exact hK _ _ (by simpa [ldW] using hS) rfl
  · intro dn u w1 hi he hS hp K hK
    refine ord_plain rfl ?_
    simp at hp hK ⊢
    simp only [hp] at hK
    go_simp
    exact hK _ _ (by simpa [ldW] using hS) rfl
  · intro dn u w1 hi he hS hp K hK
    refine ord_plain rfl ?_
    simp at hp hK ⊢
    simp only [hp] at hK
    have hc := (HC.out w1 hS.only).2.1
    go_simp
    exact hK _ _ (by simpa [ldW] using hS) rfl
  · intro dn u w1 hi he hS hp K hK
    refine ord_plain rfl ?_
    simp at hp hK ⊢
    have hc := (HC.out w1 hS.only).1
    go_simp
    exact hK _ _ (by simpa [ldW] using hS) rfl
  · intro dn u w1 hi he hS hp K hK
    refine ord_plain rfl ?_
    simp at hp hK ⊢
    simp only [hp] at hK
    go_simp
    exact hK _ _ (by simpa [ldW] using hS) rfl
  · intro dn u w1 hi he hS hp K hK
    refine ord_plain rfl ?_
    simp at hp hK ⊢
    simp only [hp] at hK
    go_simp
    exact hK _ _ (by simpa [ldW] using hS) rfl
  · intro dn u w1 hi he hS hp K hK
    refine ord_plain rfl ?_
    simp at hp hK ⊢
    simp only [hp] at hK
    have hc := (HC.out w1 hS.only).2.2.1
    go_simp
    exact hK _ _ (by simpa [ldW] using hS) rfl
  · intro dn u w1 hi he hS hp K hK
    refine ord_plain rfl ?_
    simp at hp hK ⊢
    have hc := (HC.out w1 hS.only).1
    go_simp
    exact hK _ _ (by simpa [ldW] using hS) rfl
  · intro dn u w1 hi he hS hp K hK
    refine ord_plain rfl ?_
    simp at hp hK ⊢
    simp only [hp] at hK
    go_simp
    exact hK _ _ (by simpa [ldW] using hS) rfl
  · intro dn u w1 hi he hS hp K hK
    refine ord_plain rfl ?_
    simp at hp hK ⊢
    simp only [hp] at hK
    go_simp
    exact hK _ _ (by simpa [ldW] using hS) rfl
  · intro dn u w1 hi he hS hp K hK
    refine ord_plain rfl ?_
    simp at hp hK ⊢
    simp only [hp] at hK
    have hc := (HC.out w1 hS.only).2.2.2
    go_simp
    exact hK _ _ (by simpa [ldW] using hS) rfl
  · intro dn u w1 hi he hS hp K hK
    refine ord_plain rfl ?_
    simp at hp hK ⊢
    simp only [hp] at hK
    go_simp
    refine (place_any c.w c.n c.i w1 h0 h1 h2 h3 h4).mono ?_
    rintro e w2 ⟨rfl, rfl⟩
    exact hK _ _ (by simpa [ldW] using hS) rfl
  · intro dn u w1 hi he hS hp K hK
    refine ord_plain rfl ?_
    simp at hp hK ⊢
    simp only [hp] at hK
    have hm := hS.mem
    rw [hi] at hm
    simp only [Bool.false_eq_true, if_false] at hm
    obtain ⟨k1, k2⟩ := HX.out.cells hS.only
    go_simp
    refine (aloadz_any B m d z p n (place c.w c.n c.i) v on C _ _ ⟨hm, k2, HX.out.dq.base⟩ k1 rfl (by omega)).mono ?_
    rintro e w2 ⟨rfl, j1, j2, j3⟩
    exact hK _ _ (by simpa [ldW] using hS.load (by rw [← HBV.out]; exact HMN.out) j1 j2 j3) rfl
  · intro dn u w1 hi he hS hp K hK
    refine ord_plain rfl ?_
    simp at hp hK ⊢
    obtain ⟨hsz, hmk⟩ := hS.make hi
    go_simp
    exact hK _ _ (by simpa [ldW] using hmk) (by rw [HBV.out])
  · intro dn u w1 hi he hS hp K hK
    refine ord_plain rfl ?_
    simp at hp hK ⊢
    simp only [hp] at hK
    have h15 : dn 15 = true := by simp [edgesDone, Region.binds] at he; simp [he]
    obtain ⟨e0, f0, hst⟩ := hS.store (by rw [← HBV.out]; exact HMN.out) h15 hi
    rw [← HBV.out] at e0 f0 hst
    go_simp
    exact hK _ (by simpa [ldW] using hst)
  · intro u w1 dn hld hS hp
    simp at hp ⊢
    have h14 := hld 14 (by decide)
    have h15 := hld 15 (by decide)
    have h16 := hld 16 (by decide)
    rw [h14, h15, h16] at hS
    have hm := hS.mem
    have hnw := hS.new
    simp only [if_true] at hm hnw
    rw [← HBV.out] at hnw
    have HB1 := Lib.hid (HBA2.out _ hS.only)
    have HB2 := Lib.hid hnw.2
    have HV := Lib.hid (HX.out.mem hm hS.only)
    obtain ⟨wv, rfl⟩ : ∃ wv, wv = w1 := ⟨_, rfl⟩
    have b0 : wv.cell? ⟨ba, 0, none⟩ = some (.pointer (some ⟨p, 0, none⟩)) := HB1.out.cell 0
    clear hS hm hnw
    simp only [hp]
    clear hp
    go_wp2_with fail
    refine (then_any p _ _ _ _ _ HV.out.act (by simp [AC.arr])).mono ?_
    rintro e w9 ⟨rfl, rfl⟩
    go_wp2_with fail
    go_ret
    have hpa : ba ≠ p := Blk.ne_ HB1.out HV.out.act (by decide)
    have hpv : bv ≠ p := Blk.ne_ HB2.out HV.out.act (by decide)
    exact ⟨rfl, ba, bv, HB1.out.far (p := ⟨p, 0, none⟩) hpa _, HB2.out.far (p := ⟨p, 0, none⟩) hpv _, HNV.out.1, HNV.out.2, HV.out.set 0 _ rfl⟩
end Go.Proofs.Ytmghlhngdopifaa
