/- Deques: grows, and the step that copies. -/
import Derived.Test.YtmghlhngdopifaaDqJ
namespace Go.Proofs.Ytmghlhngdopifaa
open Go.RowKit
set_option linter.unusedVariables false
attribute [local simp] frOf dstsOf frGo predsHold allHold Region.binds slotOf seen Is Act.put
set_option maxRecDepth 100000 in
set_option maxHeartbeats 1000000 in
theorem grows_any (B m d z p : Nat) (n : Int) (v on : Value) (C : List Int) (c : AC) (w : World) (h : DqS w B m d z n v C on) (hp : Blk w p 79 (c.arr d)) (hn : n + 2 ≤ 4611686018427387904) :
    Calls Try.prog 64 #[.pointer (some ⟨p, 0, none⟩)] w fun e w' => e = .returned (.int .i64 0) ∧ Stp w w' B m d z p n v v on C { c with dv := if c.i = c.b then meth 69 p else meth 70 p } := by
  have HS := Lib.hid (Stp.refl h hp)
  clear h hp
  by_cases hq : c.i = c.b
  · simp only [if_pos hq]
    have HE := Lib.hid hq
    clear hq
    go_enter Try.func64, Try.ntmps64
    go_wp2_with fail
    obtain ⟨W4, hW4⟩ : ∃ W4, W4 = w.drew := ⟨_, rfl⟩
    have HW4 := Lib.hid hW4
    have HC4 : Hid (∀ y, Only (fun _ => False) W4 y → Stp w y B m d z p _ v _ on C c) := Lib.hid (fun y hy => Stp.quiet (by rw [hW4]; exact HS.out.drew) hy)
    clear hW4
    refine wp_region_st (by kernel_rfl) (fun _ y => Only (fun _ => False) W4 y) [Is (.pointer (some ⟨p, 0, none⟩)), Is (.pointer (some ⟨p, 0, none⟩)), Is (.pointer (some ⟨p, 10, none⟩)), Is (.int .i64 c.i), Is (.pointer (some ⟨p, 0, none⟩)), Is (.pointer (some ⟨p, 0, none⟩)), Is (.pointer (some ⟨p, 5, none⟩)), Is (.int .i64 c.b), Is (.bool true)] (by kernel_rfl)
      ⟨is_stab _ _, is_stab _ _, is_stab _ _, is_stab _ _, is_stab _ _, is_stab _ _, is_stab _ _, is_stab _ _, is_stab _ _, trivial⟩ (by rw [← HW4.out]; exact Only.refl _ _) ⟨?_, ?_, ?_, ?_, ?_, ?_, ?_, ?_, ?_, trivial⟩ ?_
    · intro dn u w1 hi he hS hp K hK
      refine ord_plain rfl ?_
      simp at hp hK ⊢
      go_simp
      exact hK _ _ hS rfl
    · intro dn u w1 hi he hS hp K hK
      refine ord_plain rfl ?_
      simp at hp hK ⊢
      simp only [hp] at hK
      go_simp
      exact hK _ _ hS rfl
    · intro dn u w1 hi he hS hp K hK
      refine ord_plain rfl ?_
      simp at hp hK ⊢
      simp only [hp] at hK
      go_simp
      exact hK _ _ hS rfl
    · intro dn u w1 hi he hS hp K hK
      refine ord_plain rfl ?_
      simp at hp hK ⊢
      simp only [hp] at hK
      have hc : w1.cell? ⟨p, 10, none⟩ = some (.int .i64 c.i) := (HC4.out w1 hS).act.cell 10
      go_simp
      exact hK _ _ hS rfl
    · intro dn u w1 hi he hS hp K hK
      refine ord_plain rfl ?_
      simp at hp hK ⊢
      go_simp
      exact hK _ _ hS rfl
    · intro dn u w1 hi he hS hp K hK
      refine ord_plain rfl ?_
      simp at hp hK ⊢
      simp only [hp] at hK
      go_simp
      exact hK _ _ hS rfl
    · intro dn u w1 hi he hS hp K hK
      refine ord_plain rfl ?_
      simp at hp hK ⊢
      simp only [hp] at hK
      go_simp
      exact hK _ _ hS rfl
    · intro dn u w1 hi he hS hp K hK
      refine ord_plain rfl ?_
      simp at hp hK ⊢
      simp only [hp] at hK
      have hc : w1.cell? ⟨p, 5, none⟩ = some (.int .i64 c.b) := (HC4.out w1 hS).act.cell 5
      go_simp
      exact hK _ _ hS rfl
    · intro dn u w1 hi he hS hp K hK
      refine ord_plain rfl ?_
      simp at hp hK ⊢
      simp only [hp] at hK
      go_simp
      exact hK _ _ hS (congrArg Value.bool (beq_iff_eq.2 HE.out))
    · intro u w1 dn hld hS hp
      simp at hp ⊢
      have HQ := Lib.hid (HC4.out w1 hS)
      obtain ⟨wq, rfl⟩ : ∃ wq, wq = w1 := ⟨_, rfl⟩
      clear hS
      simp only [hp]
      clear hp
      go_wp2_with fail
      refine (then_any p _ _ _ _ _ HQ.out.act (by simp [AC.arr])).mono ?_
      rintro e w9 ⟨rfl, rfl⟩
      go_wp2_with fail
      go_ret
      exact ⟨rfl, HQ.out.set 0 _ rfl⟩
  · simp only [if_neg hq]
    have HE := Lib.hid hq
    clear hq
    go_enter Try.func64, Try.ntmps64
    go_wp2_with fail
    obtain ⟨W4, hW4⟩ : ∃ W4, W4 = w.drew := ⟨_, rfl⟩
    have HW4 := Lib.hid hW4
    have HC4 : Hid (∀ y, Only (fun _ => False) W4 y → Stp w y B m d z p _ v _ on C c) := Lib.hid (fun y hy => Stp.quiet (by rw [hW4]; exact HS.out.drew) hy)
    clear hW4
    refine wp_region_st (by kernel_rfl) (fun _ y => Only (fun _ => False) W4 y) [Is (.pointer (some ⟨p, 0, none⟩)), Is (.pointer (some ⟨p, 0, none⟩)), Is (.pointer (some ⟨p, 10, none⟩)), Is (.int .i64 c.i), Is (.pointer (some ⟨p, 0, none⟩)), Is (.pointer (some ⟨p, 0, none⟩)), Is (.pointer (some ⟨p, 5, none⟩)), Is (.int .i64 c.b), Is (.bool false)] (by kernel_rfl)
      ⟨is_stab _ _, is_stab _ _, is_stab _ _, is_stab _ _, is_stab _ _, is_stab _ _, is_stab _ _, is_stab _ _, is_stab _ _, trivial⟩ (by rw [← HW4.out]; exact Only.refl _ _) ⟨?_, ?_, ?_, ?_, ?_, ?_, ?_, ?_, ?_, trivial⟩ ?_
    · intro dn u w1 hi he hS hp K hK
      refine ord_plain rfl ?_
      simp at hp hK ⊢
      go_simp
      exact hK _ _ hS rfl
    · intro dn u w1 hi he hS hp K hK
      refine ord_plain rfl ?_
      simp at hp hK ⊢
      simp only [hp] at hK
      go_simp
      exact hK _ _ hS rfl
    · intro dn u w1 hi he hS hp K hK
      refine ord_plain rfl ?_
      simp at hp hK ⊢
      simp only [hp] at hK
      go_simp
      exact hK _ _ hS rfl
    · intro dn u w1 hi he hS hp K hK
      refine ord_plain rfl ?_
      simp at hp hK ⊢
      simp only [hp] at hK
      have hc : w1.cell? ⟨p, 10, none⟩ = some (.int .i64 c.i) := (HC4.out w1 hS).act.cell 10
      go_simp
      exact hK _ _ hS rfl
    · intro dn u w1 hi he hS hp K hK
      refine ord_plain rfl ?_
      simp at hp hK ⊢
      go_simp
      exact hK _ _ hS rfl
    · intro dn u w1 hi he hS hp K hK
      refine ord_plain rfl ?_
      simp at hp hK ⊢
      simp only [hp] at hK
      go_simp
      exact hK _ _ hS rfl
    · intro dn u w1 hi he hS hp K hK
      refine ord_plain rfl ?_
      simp at hp hK ⊢
      simp only [hp] at hK
      go_simp
      exact hK _ _ hS rfl
    · intro dn u w1 hi he hS hp K hK
      refine ord_plain rfl ?_
      simp at hp hK ⊢
      simp only [hp] at hK
      have hc : w1.cell? ⟨p, 5, none⟩ = some (.int .i64 c.b) := (HC4.out w1 hS).act.cell 5
      go_simp
      exact hK _ _ hS rfl
    · intro dn u w1 hi he hS hp K hK
      refine ord_plain rfl ?_
      simp at hp hK ⊢
      simp only [hp] at hK
      go_simp
      exact hK _ _ hS (congrArg Value.bool (beq_eq_false_iff_ne.2 HE.out))
    · intro u w1 dn hld hS hp
      simp at hp ⊢
      have HQ := Lib.hid (HC4.out w1 hS)
      obtain ⟨wq, rfl⟩ : ∃ wq, wq = w1 := ⟨_, rfl⟩
      clear hS
      simp only [hp]
      clear hp
      go_wp2_with fail
      refine (then_any p _ _ _ _ _ HQ.out.act (by simp [AC.arr])).mono ?_
      rintro e w9 ⟨rfl, rfl⟩
      go_wp2_with fail
      go_ret
      exact ⟨rfl, HQ.out.set 0 _ rfl⟩
theorem Stp.trans {w w' w'' : World} {B m d z p : Nat} {n n' : Int} {v v' v'' on : Value} {C C' : List Int} {c c' : AC} (h : Stp w w' B m d z p n v v' on C c) (k : Stp w' w'' B m d z p n' v' v'' on C' c') : Stp w w'' B m d z p n' v v'' on C' c' :=
  ⟨k.dq, k.act, h.only.trans' k.only (fun i hi => by
    rcases hi with (hi | hi) | hi | hi
    · exact .inl (.inl (.inl hi))
    · rcases h.row i hi with hi | hi
      · exact .inl (.inl (.inr hi))
      · exact .inr hi
    · exact .inl (.inr (.inl hi))
    · exact .inl (.inr (.inr hi))), fun k' hk => by
    rcases k.row k' hk with hi | hi
    · exact h.row k' hi
    · exact .inr (by have := h.only.size; omega)⟩
set_option maxRecDepth 100000 in
set_option maxHeartbeats 1000000 in
theorem growStore_any (ba bv : Nat) (V : Int) (B m d z p : Nat) (n : Int) (v on : Value) (C : List Int) (c : AC) (w : World) (h : DqS w B m d z n v C on) (hp : Blk w p 79 (c.arr d)) (hn : n + 2 ≤ 4611686018427387904) (hba : Blk w ba 37 #[.pointer (some ⟨p, 0, none⟩)]) (hbv : Blk w bv 2 #[.int .i64 V]) (hvv : v.ownBlock ≠ some bv)
    (h0 : 0 ≤ c.i) (h1 : 1 ≤ c.n) (h2 : c.n ≤ 400000) (h3 : 0 ≤ c.nw) (h4 : c.nw ≤ 1000000) (h5 : c.i ≤ 1000000) (hw : (z : Int) + 2 < c.nw) (hn3 : n + 3 ≤ 4611686018427387904) :
    Calls Try.prog 73 #[.pointer (some ⟨ba, 0, none⟩), .pointer (some ⟨bv, 0, none⟩)] w fun e w' => e = .returned (.int .i64 0) ∧ Stp w w' B m d z p (n + cellN C (place c.nw (2 * c.n) c.i)) v v on (st C (place c.nw (2 * c.n) c.i) V) { c with i := c.i + 1, dv := if c.i + 1 = c.b then meth 69 p else meth 70 p } := by
  have HS := Lib.hid (Stp.refl h hp)
  have hpb := place_bd (w := c.nw) (n := 2 * c.n) (i := c.i) (by omega)
  have HZ0 : Hid (ld (st C (place c.nw (2 * c.n) c.i) V) z = ld C z) := Lib.hid (ld_st_ne (by omega))
  have HZ1 : Hid (ld (st C (place c.nw (2 * c.n) c.i) V) ((z : Int) + 1) = ld C ((z : Int) + 1)) := Lib.hid (ld_st_ne (by omega))
  have hwr : IntKind.i64.wrap (2 * c.n) = 2 * c.n := IntWalk.i64_in _ (by omega)
  have hwr2 : IntKind.i64.wrap (c.i + 1) = c.i + 1 := IntWalk.i64_in _ (by omega)
  have hma : ¬ mine m v ba := by
    rintro (e | e)
    · exact Blk.ne_ hba h.mem.blk (by decide) e
    · exact own_blk_ne h.mem.own hba (by decide) e
  have hmv : ¬ mine m v bv := by
    rintro (e | e)
    · exact Blk.ne_ hbv h.mem.blk (by decide) e
    · exact hvv e
  have hpa : p ≠ ba := Blk.ne_ hp hba (by decide)
  have HBA := Lib.hid hba
  have HPA := Lib.hid hpa
  obtain ⟨W2, hW2⟩ : ∃ W2, W2 = w.drew := ⟨_, rfl⟩
  have HX : Hid (Stp w W2 B m d z p n v v on C c) := Lib.hid (by rw [hW2]; exact HS.out.drew)
  have HW2 := Lib.hid hW2
  have HBA2 : Hid (∀ y, Only (mine m v) W2 y → Blk y ba 37 #[.pointer (some ⟨p, 0, none⟩)]) := Lib.hid (fun y hy => hy.blk (by rw [hW2]; exact hba) hma)
  have HC : Hid (∀ y, Only (mine m v) W2 y → y.cell? ⟨ba, 0, none⟩ = some (.pointer (some ⟨p, 0, none⟩)) ∧ y.cell? ⟨bv, 0, none⟩ = some (.int .i64 V) ∧ y.cell? ⟨p, 3, none⟩ = some (.pointer (some ⟨d, 0, none⟩)) ∧ y.cell? ⟨p, 8, none⟩ = some (.int .i64 c.n) ∧ y.cell? ⟨p, 9, none⟩ = some (.int .i64 c.nw) ∧ y.cell? ⟨p, 10, none⟩ = some (.int .i64 c.i) ∧ y.cell? ⟨d, 0, none⟩ = some (.pointer (some ⟨m, 0, none⟩))) := Lib.hid (fun y hy => by
    obtain ⟨k1, k2⟩ := HX.out.cells hy
    exact ⟨(hy.blk (by rw [hW2]; exact hba) hma).cell 0, (hy.blk (by rw [hW2]; exact hbv) hmv).cell 0, k1.cell 3, k1.cell 8, k1.cell 9, k1.cell 10, k2.cell 0⟩)
  obtain ⟨dvn, hdv⟩ : ∃ dvn, dvn = if c.i + 1 = c.b then meth 69 p else meth 70 p := ⟨_, rfl⟩
  rw [← hdv]
  have HDV := Lib.hid hdv
  clear h hp hpb hba hbv hvv hma hmv hpa hW2 hdv
  go_enter Try.func73, Try.ntmps73
  go_wp2_with fail
  refine wp_region_st (by kernel_rfl) (fun dn y => Sti (mine m v) W2 (dn 22) (fun y => Stp w y B m d z p (n + cellN C (place c.nw (2 * c.n) c.i)) v v on (st C (place c.nw (2 * c.n) c.i) V) c) y) [Is (.pointer (some ⟨p, 0, none⟩)), Is (.pointer (some ⟨p, 0, none⟩)), Is (.pointer (some ⟨p, 3, none⟩)), Is (.pointer (some ⟨d, 0, none⟩)), Is (.pointer (some ⟨d, 0, none⟩)), Is (.pointer (some ⟨d, 0, none⟩)), Is (.pointer (some ⟨m, 0, none⟩)), Is (.pointer (some ⟨p, 0, none⟩)), Is (.pointer (some ⟨p, 0, none⟩)), Is (.pointer (some ⟨p, 9, none⟩)), Is (.int .i64 c.nw), Is (.pointer (some ⟨p, 0, none⟩)), Is (.pointer (some ⟨p, 0, none⟩)), Is (.pointer (some ⟨p, 8, none⟩)), Is (.int .i64 c.n), Is (.int .i64 (2 * c.n)), Is (.pointer (some ⟨p, 0, none⟩)), Is (.pointer (some ⟨p, 0, none⟩)), Is (.pointer (some ⟨p, 10, none⟩)), Is (.int .i64 c.i), Is (.int .i64 (place c.nw (2 * c.n) c.i)), Is (.int .i64 V), Is (.int .i64 (cellE C (place c.nw (2 * c.n) c.i)))] (by kernel_rfl)
    ⟨is_stab _ _, is_stab _ _, is_stab _ _, is_stab _ _, is_stab _ _, is_stab _ _, is_stab _ _, is_stab _ _, is_stab _ _, is_stab _ _, is_stab _ _, is_stab _ _, is_stab _ _, is_stab _ _, is_stab _ _, is_stab _ _, is_stab _ _, is_stab _ _, is_stab _ _, is_stab _ _, is_stab _ _, is_stab _ _, is_stab _ _, trivial⟩ (by rw [← HW2.out]; exact Sti.start) ⟨?_, ?_, ?_, ?_, ?_, ?_, ?_, ?_, ?_, ?_, ?_, ?_, ?_, ?_, ?_, ?_, ?_, ?_, ?_, ?_, ?_, ?_, ?_, trivial⟩ ?_
  · intro dn u w1 hi he hS hp K hK
    refine ord_plain rfl ?_
    simp at hp hK ⊢
    have hc := (HC.out w1 hS.1).1
    go_simp
    exact hK _ _ (by simpa [ldW] using hS) rfl
  · intro dn u w1 hi he hS hp K hK
    refine ord_plain rfl ?_
    simp at hp hK ⊢
    simp only [hp] at hK
    go_simp
    exact hK _ _ (by simpa [ldW] using hS) rfl
  · intro dn u w1 hi he hS hp K hK
    refine ord_plain rfl ?_
    simp at hp hK ⊢
    simp only [hp] at hK
    go_simp
    exact hK _ _ (by simpa [ldW] using hS) rfl
  · intro dn u w1 hi he hS hp K hK
    refine ord_plain rfl ?_
    simp at hp hK ⊢
    simp only [hp] at hK
    have hc := (HC.out w1 hS.1).2.2.1
    go_simp
    exact hK _ _ (by simpa [ldW] using hS) rfl
  · intro dn u w1 hi he hS hp K hK
    refine ord_plain rfl ?_
    simp at hp hK ⊢
    simp only [hp] at hK
    go_simp
    exact hK _ _ (by simpa [ldW] using hS) rfl
  · intro dn u w1 hi he hS hp K hK
    refine ord_plain rfl ?_
    simp at hp hK ⊢
    simp only [hp] at hK
    go_simp
    exact hK _ _ (by simpa [ldW] using hS) rfl
  · intro dn u w1 hi he hS hp K hK
    refine ord_plain rfl ?_
    simp at hp hK ⊢
    simp only [hp] at hK
    have hc := (HC.out w1 hS.1).2.2.2.2.2.2
    go_simp
    exact hK _ _ (by simpa [ldW] using hS) rfl
  · intro dn u w1 hi he hS hp K hK
    refine ord_plain rfl ?_
    simp at hp hK ⊢
    have hc := (HC.out w1 hS.1).1
    go_simp
    exact hK _ _ (by simpa [ldW] using hS) rfl
  · intro dn u w1 hi he hS hp K hK
    refine ord_plain rfl ?_
    simp at hp hK ⊢
    simp only [hp] at hK
    go_simp
    exact hK _ _ (by simpa [ldW] using hS) rfl
  · intro dn u w1 hi he hS hp K hK
    refine ord_plain rfl ?_
    simp at hp hK ⊢
    simp only [hp] at hK
    go_simp
    exact hK _ _ (by simpa [ldW] using hS) rfl
  · intro dn u w1 hi he hS hp K hK
    refine ord_plain rfl ?_
    simp at hp hK ⊢
    simp only [hp] at hK
    have hc := (HC.out w1 hS.1).2.2.2.2.1
    go_simp
    exact hK _ _ (by simpa [ldW] using hS) rfl
  · intro dn u w1 hi he hS hp K hK
    refine ord_plain rfl ?_
    simp at hp hK ⊢
    have hc := (HC.out w1 hS.1).1
    go_simp
    exact hK _ _ (by simpa [ldW] using hS) rfl
  · intro dn u w1 hi he hS hp K hK
    refine ord_plain rfl ?_
    simp at hp hK ⊢
    simp only [hp] at hK
    go_simp
    exact hK _ _ (by simpa [ldW] using hS) rfl
  · intro dn u w1 hi he hS hp K hK
    refine ord_plain rfl ?_
    simp at hp hK ⊢
    simp only [hp] at hK
    go_simp
    exact hK _ _ (by simpa [ldW] using hS) rfl
  · intro dn u w1 hi he hS hp K hK
    refine ord_plain rfl ?_
    simp at hp hK ⊢
    simp only [hp] at hK
    have hc := (HC.out w1 hS.1).2.2.2.1
    go_simp
    exact hK _ _ (by simpa [ldW] using hS) rfl
  · intro dn u w1 hi he hS hp K hK
    refine ord_plain rfl ?_
    simp at hp hK ⊢
    simp only [hp] at hK
    go_simp
    exact hK _ _ (by simpa [ldW] using hS) rfl
  · intro dn u w1 hi he hS hp K hK
    refine ord_plain rfl ?_
    simp at hp hK ⊢
    have hc := (HC.out w1 hS.1).1
    go_simp
    exact hK _ _ (by simpa [ldW] using hS) rfl
  · intro dn u w1 hi he hS hp K hK
    refine ord_plain rfl ?_
    simp at hp hK ⊢
    simp only [hp] at hK
    go_simp
    exact hK _ _ (by simpa [ldW] using hS) rfl
  · intro dn u w1 hi he hS hp K hK
    refine ord_plain rfl ?_
    simp at hp hK ⊢
    simp only [hp] at hK
    go_simp
    exact hK _ _ (by simpa [ldW] using hS) rfl
  · intro dn u w1 hi he hS hp K hK
    refine ord_plain rfl ?_
    simp at hp hK ⊢
    simp only [hp] at hK
    have hc := (HC.out w1 hS.1).2.2.2.2.2.1
    go_simp
    exact hK _ _ (by simpa [ldW] using hS) rfl
  · intro dn u w1 hi he hS hp K hK
    refine ord_plain rfl ?_
    simp at hp hK ⊢
    simp only [hp] at hK
    go_simp
    refine (place_any c.nw (2 * c.n) c.i w1 h0 (by omega) (by omega) h3 h4).mono ?_
    rintro e w2 ⟨rfl, rfl⟩
    exact hK _ _ (by simpa [ldW] using hS) rfl
  · intro dn u w1 hi he hS hp K hK
    refine ord_plain rfl ?_
    simp at hp hK ⊢
    have hc := (HC.out w1 hS.1).2.1
    go_simp
    exact hK _ _ (by simpa [ldW] using hS) rfl
  · intro dn u w1 hi he hS hp K hK
    refine ord_plain rfl ?_
    simp at hp hK ⊢
    simp only [hp] at hK
    obtain rfl := hS.was hi
    go_simp
    refine (store_any B m n (place c.nw (2 * c.n) c.i) V v C _ HX.out.dq.mem (by omega)).mono ?_
    rintro e w2 ⟨rfl, k1, k2⟩
    rw [cellS_st] at k1
    exact hK _ _ (by simpa [ldW] using Sti.put k2 (HX.out.memC k1 k2 HZ0.out HZ1.out)) rfl
  · intro u w1 dn hld hS hp
    simp at hp ⊢
    have hk := hld 22 (by decide)
    have HV := Lib.hid (hS.got hk)
    have HB1 := Lib.hid (HBA2.out _ hS.1)
    obtain ⟨wv, rfl⟩ : ∃ wv, wv = w1 := ⟨_, rfl⟩
    clear hS hp
    have b0 : wv.cell? ⟨ba, 0, none⟩ = some (.pointer (some ⟨p, 0, none⟩)) := HB1.out.cell 0
    have d10 : wv.cell? ⟨p, 10, none⟩ = some (.int .i64 c.i) := HV.out.act.cell 10
    have f10 : wv.frozen? ⟨p, 10, none⟩ = false := HV.out.act.frozen 10
    have hpa := HPA.out
    go_wp2_with fail
    obtain ⟨w5, hw5⟩ : ∃ w5, w5 = wv.setCell ⟨p, 10, none⟩ (.int .i64 (c.i + 1)) := ⟨_, rfl⟩
    have HS5 : Hid (Stp w w5 B m d z p _ v v on (st C (place c.nw (2 * c.n) c.i) V) { c with i := c.i + 1 }) := Lib.hid (by rw [hw5]; exact HV.out.set 10 _ rfl)
    rw [← hw5]
    refine (grows_any B m d z p _ v on _ _ w5 HS5.out.dq HS5.out.act (by unfold cellN; split <;> omega)).mono ?_
    rintro e w6 ⟨rfl, k6⟩
    have K6 := Lib.hid k6
    clear k6
    go_wp2_with fail
    go_ret
    exact ⟨rfl, by rw [HDV.out]; exact HS5.out.trans K6.out⟩
end Go.Proofs.Ytmghlhngdopifaa
