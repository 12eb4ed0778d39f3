/- Deques: the steps that store: bottom, the swap, what a step comes to. -/
import Derived.Test.YtmghlhngdopifaaDqB
namespace Go.Proofs.Ytmghlhngdopifaa
open Go.RowKit
set_option linter.unusedVariables false
attribute [local simp] frOf dstsOf frGo predsHold allHold Region.binds slotOf seen Is Act.put
theorem Stp.over {w w' : World} {B m d z p : Nat} {n : Int} {v v' on : Value} {C : List Int} {c : AC} (h : Stp w w' B m d z p n v v' on C c) (wh x : Int) :
    Stp w (((w'.setCell ⟨p, 0, none⟩ .nilFunc).setCell ⟨p, 1, none⟩ (.int .u8 wh)).setCell ⟨p, 2, none⟩ (.int .i64 x)) B m d z p n v v' on C { c with dv := .nilFunc, wh := wh, x := x } :=
  ((h.set 0 .nilFunc (c' := { c with dv := .nilFunc }) rfl).set 1 (.int .u8 wh) (c' := { c with dv := .nilFunc, wh := wh }) rfl).set 2 (.int .i64 x) rfl
set_option maxRecDepth 100000 in
set_option maxHeartbeats 1000000 in
theorem popStore_any (B m d z p : Nat) (n : Int) (v on : Value) (C : List Int) (c : AC) (w : World) (h : DqS w B m d z n v C on) (hp : Blk w p 79 (c.arr d)) (hn : n + 2 ≤ 4611686018427387904) (hz : (z : Int) + 1 < C.length) :
    Calls Try.prog 48 #[.pointer (some ⟨p, 0, none⟩)] w fun e w' => e = .returned (.int .i64 0) ∧ Stp w w' B m d z p (n + 1) v v on (st C ((z : Int) + 1) c.b) { c with dv := meth 56 p } := by
  have HS := Lib.hid (Stp.refl h hp)
  have a5 : w.cell? ⟨p, 5, none⟩ = some (.int .i64 c.b) := HS.out.act.cell 5
  clear h hp
  go_enter Try.func48, Try.ntmps48
  go_wp2_with fail
  refine (base_any B m d z p n (c.b) v on C _ w HS.out.dq HS.out.act rfl (by omega) hz).mono ?_
  rintro e w1 ⟨rfl, h1, h2⟩
  have HS1 := Lib.hid (HS.out.deq h1 h2)
  clear h1 h2
  go_wp2_with fail
  refine (then_any p _ _ _ _ _ HS1.out.act (by simp [AC.arr])).mono ?_
  rintro e w9 ⟨rfl, rfl⟩
  go_wp2_with fail
  go_ret
  exact ⟨rfl, HS1.out.set 0 _ rfl⟩
set_option maxRecDepth 100000 in
set_option maxHeartbeats 1000000 in
theorem pushDone_any (B m d z p : Nat) (n : Int) (v on : Value) (C : List Int) (c : AC) (w : World) (h : DqS w B m d z n v C on) (hp : Blk w p 79 (c.arr d)) (hn : n + 2 ≤ 4611686018427387904) (hz : (z : Int) + 1 < C.length) (hb : -1000000 ≤ c.b ∧ c.b ≤ 1000000) :
    Calls Try.prog 66 #[.pointer (some ⟨p, 0, none⟩)] w fun e w' => e = .returned (.int .i64 0) ∧ Stp w w' B m d z p (n + 1) v v on (st C ((z : Int) + 1) (c.b + 1)) { c with dv := .nilFunc, wh := 1, x := 0 } := by
  have HS := Lib.hid (Stp.refl h hp)
  have a5 : w.cell? ⟨p, 5, none⟩ = some (.int .i64 c.b) := HS.out.act.cell 5
  clear h hp
  go_enter Try.func66, Try.ntmps66
  go_wp2_with fail
  refine (base_any B m d z p n (c.b + 1) v on C _ w HS.out.dq HS.out.act rfl (by omega) hz).mono ?_
  rintro e w1 ⟨rfl, h1, h2⟩
  have HS1 := Lib.hid (HS.out.deq h1 h2)
  clear h1 h2
  go_wp2_with fail
  refine (over_any p _ _ _ _ HS1.out.act (by simp [AC.arr])).mono ?_
  rintro e w9 ⟨rfl, rfl⟩
  go_wp2_with fail
  go_ret
  exact ⟨rfl, HS1.out.over _ _⟩
set_option maxRecDepth 100000 in
set_option maxHeartbeats 1000000 in
theorem stealBottom_any (B m d z p : Nat) (n : Int) (v on : Value) (C : List Int) (c : AC) (w : World) (h : DqS w B m d z n v C on) (hp : Blk w p 79 (c.arr d)) (hn : n + 2 ≤ 4611686018427387904) :
    Calls Try.prog 39 #[.pointer (some ⟨p, 0, none⟩)] w fun e w' => e = .returned (.int .i64 0) ∧ Stp w w' B m d z p (n + cellN C ((z : Int) + 1)) v v on C (if c.t ≥ ld C ((z : Int) + 1) then { c with dv := .nilFunc, wh := 3, x := 0 } else { c with dv := meth 50 p }) := by
  have HS := Lib.hid (Stp.refl h hp)
  have a6 : w.cell? ⟨p, 6, none⟩ = some (.int .i64 c.t) := HS.out.act.cell 6
  have d2 : w.cell? ⟨d, 2, none⟩ = some (.int .i64 ((z : Int) + 1)) := HS.out.dq.blk.cell 2
  have a3 : w.cell? ⟨p, 3, none⟩ = some (.pointer (some ⟨d, 0, none⟩)) := HS.out.act.cell 3
  clear h hp
  by_cases hq : c.t ≥ ld C ((z : Int) + 1)
  · simp only [if_pos hq]
    go_enter Try.func39, Try.ntmps39
    go_wp2_with fail
    refine (aload_any B m d z p n ((z : Int) + 1) v on C _ w HS.out.dq HS.out.act rfl (by omega)).mono ?_
    rintro e w1 ⟨rfl, h1, h2⟩
    have HS1 := Lib.hid (HS.out.mem h1 h2)
    have a6' : w1.cell? ⟨p, 6, none⟩ = some (.int .i64 c.t) := HS1.out.act.cell 6
    clear h1 h2
    go_wp2_with fail
    refine (over_any p _ _ _ _ HS1.out.act (by simp [AC.arr])).mono ?_
    rintro e w9 ⟨rfl, rfl⟩
    go_wp2_with fail
    go_ret
    exact ⟨rfl, HS1.out.over _ _⟩
  · simp only [if_neg hq]
    go_enter Try.func39, Try.ntmps39
    go_wp2_with fail
    refine (aload_any B m d z p n ((z : Int) + 1) v on C _ w HS.out.dq HS.out.act rfl (by omega)).mono ?_
    rintro e w1 ⟨rfl, h1, h2⟩
    have HS1 := Lib.hid (HS.out.mem h1 h2)
    have a6' : w1.cell? ⟨p, 6, none⟩ = some (.int .i64 c.t) := HS1.out.act.cell 6
    clear h1 h2
    go_wp2_with fail
    refine (then_any p _ _ _ _ _ HS1.out.act (by simp [AC.arr])).mono ?_
    rintro e w9 ⟨rfl, rfl⟩
    go_wp2_with fail
    go_ret
    exact ⟨rfl, HS1.out.set 0 _ rfl⟩
set_option maxRecDepth 100000 in
set_option maxHeartbeats 1000000 in
theorem popBack_any (B m d z p : Nat) (n : Int) (v on : Value) (C : List Int) (c : AC) (w : World) (h : DqS w B m d z n v C on) (hp : Blk w p 79 (c.arr d)) (hn : n + 2 ≤ 4611686018427387904) (hz : (z : Int) + 1 < C.length) (hb : -1000000 ≤ c.b ∧ c.b ≤ 1000000) :
    Calls Try.prog 61 #[.pointer (some ⟨p, 0, none⟩)] w fun e w' => e = .returned (.int .i64 0) ∧ Stp w w' B m d z p (n + 1) v v on (st C ((z : Int) + 1) (c.b + 1)) { c with dv := .nilFunc, wh := if c.g = true then 2 else 3, x := if c.g = true then c.v else 0 } := by
  have HS := Lib.hid (Stp.refl h hp)
  have a5 : w.cell? ⟨p, 5, none⟩ = some (.int .i64 c.b) := HS.out.act.cell 5
  clear h hp
  cases hg : c.g
  · simp only [Bool.false_eq_true, if_false]
    go_enter Try.func61, Try.ntmps61
    go_wp2_with fail
    refine (base_any B m d z p n (c.b + 1) v on C _ w HS.out.dq HS.out.act rfl (by omega) hz).mono ?_
    rintro e w1 ⟨rfl, h1, h2⟩
    have HS1 := Lib.hid (HS.out.deq h1 h2)
    clear h1 h2
    have a11 : w1.cell? ⟨p, 11, none⟩ = some (.bool false) := by rw [← hg]; exact HS1.out.act.cell 11
    go_wp2_with fail
    refine (over_any p _ _ _ _ HS1.out.act (by simp [AC.arr])).mono ?_
    rintro e w9 ⟨rfl, rfl⟩
    go_wp2_with fail
    go_ret
    rw [← hg]
    exact ⟨rfl, HS1.out.over _ _⟩
  · simp only [if_true]
    go_enter Try.func61, Try.ntmps61
    go_wp2_with fail
    refine (base_any B m d z p n (c.b + 1) v on C _ w HS.out.dq HS.out.act rfl (by omega) hz).mono ?_
    rintro e w1 ⟨rfl, h1, h2⟩
    have HS1 := Lib.hid (HS.out.deq h1 h2)
    clear h1 h2
    have a11 : w1.cell? ⟨p, 11, none⟩ = some (.bool true) := by rw [← hg]; exact HS1.out.act.cell 11
    go_wp2_with fail
    obtain ⟨W2, hW2⟩ : ∃ W2, W2 = w1.drew := ⟨_, rfl⟩
    have HX : Hid (Stp w W2 B m d z p _ v _ on (st C ((z : Int) + 1) (c.b + 1)) c) := Lib.hid (by rw [hW2]; exact HS1.out.drew)
    have HW2 := Lib.hid hW2
    clear hW2
    have HC : Hid (∀ b y, Sti (fun x => x = p) W2 b (fun y => y = (((W2.setCell ⟨p, 0, none⟩ .nilFunc).setCell ⟨p, 1, none⟩ (.int .u8 2)).setCell ⟨p, 2, none⟩ (.int .i64 c.v))) y → y.cell? ⟨p, 4, none⟩ = some (.int .i64 c.v)) := Lib.hid (by
      intro b y h
      cases b
      · rw [h.was rfl]; exact HX.out.act.cell 4
      · rw [h.got rfl]; exact (HX.out.over 2 c.v).act.cell 4)
    refine wp_region_st (by kernel_rfl) (fun dn y => Sti (fun x => x = p) W2 (dn 7) (fun y => y = (((W2.setCell ⟨p, 0, none⟩ .nilFunc).setCell ⟨p, 1, none⟩ (.int .u8 2)).setCell ⟨p, 2, none⟩ (.int .i64 c.v))) y) [Is (.pointer (some ⟨p, 0, none⟩)), Is (.pointer (some ⟨p, 0, none⟩)), Is (.pointer (some ⟨p, 0, none⟩)), Is (.pointer (some ⟨p, 0, none⟩)), Is (.pointer (some ⟨p, 0, none⟩)), Is (.pointer (some ⟨p, 4, none⟩)), Is (.int .i64 c.v), Is (.int .i64 0), Is (.int .i64 0)] (by kernel_rfl)
      ⟨is_stab _ _, is_stab _ _, is_stab _ _, is_stab _ _, is_stab _ _, is_stab _ _, is_stab _ _, is_stab _ _, is_stab _ _, trivial⟩ (by rw [← HW2.out]; exact Sti.start) ⟨?_, ?_, ?_, ?_, ?_, ?_, ?_, ?_, ?_, trivial⟩ ?_
    · intro dn u w1 hi he hS hp K hK
      refine ord_plain rfl ?_
      simp at hp hK ⊢
      go_simp
      exact hK _ _ (by simpa [ldW] using hS) rfl
    · intro dn u w1 hi he hS hp K hK
      refine ord_plain rfl ?_
      simp at hp hK ⊢
      simp only [hp] at hK
      go_simp
      exact hK _ _ (by simpa [ldW] using hS) rfl
    · intro dn u w1 hi he hS hp K hK
      refine ord_plain rfl ?_
      simp at hp hK ⊢
      simp only [hp] at hK
      go_simp
      exact hK _ _ (by simpa [ldW] using hS) rfl
    · intro dn u w1 hi he hS hp K hK
      refine ord_plain rfl ?_
      simp at hp hK ⊢
      go_simp
      exact hK _ _ (by simpa [ldW] using hS) rfl
    · intro dn u w1 hi he hS hp K hK
      refine ord_plain rfl ?_
      simp at hp hK ⊢
      simp only [hp] at hK
      go_simp
      exact hK _ _ (by simpa [ldW] using hS) rfl
    · intro dn u w1 hi he hS hp K hK
      refine ord_plain rfl ?_
      simp at hp hK ⊢
      simp only [hp] at hK
      go_simp
      exact hK _ _ (by simpa [ldW] using hS) rfl
    · intro dn u w1 hi he hS hp K hK
      refine ord_plain rfl ?_
      simp at hp hK ⊢
      simp only [hp] at hK
      have hc := HC.out _ _ hS
      go_simp
      exact hK _ _ (by simpa [ldW] using hS) rfl
    · intro dn u w1 hi he hS hp K hK
      refine ord_plain rfl ?_
      simp at hp hK ⊢
      simp only [hp] at hK
      obtain rfl := hS.was hi
      go_simp
      refine (over_any p _ _ _ _ HX.out.act (by simp [AC.arr])).mono ?_
      rintro e w2 ⟨rfl, rfl⟩
      exact hK _ _ (by simp only [ldW, if_true]; exact Sti.put ((((Only.refl (fun x => x = p) _).setCell (.inl rfl) _).setCell (.inl rfl) _).setCell (.inl rfl) _) rfl) rfl
    · intro dn u w1 hi he hS hp K hK
      refine ord_plain rfl ?_
      simp at hp hK ⊢
      simp only [hp] at hK
      go_simp
      exact hK _ _ (by simpa [ldW] using hS) rfl
    · intro u w1 dn hld hS hp
      simp at hp ⊢
      have hk := hld 7 (by decide)
      obtain rfl := hS.got hk
      simp only [hp]
      go_wp2_with fail
      go_ret
      rw [← hg]
      exact ⟨rfl, HX.out.over 2 c.v⟩
theorem cellIs_ld {C : List Int} {z : Nat} {t : Int} (h : (z : Int) < C.length) : cellIs C z t = decide (ld C z = t) := by
  have h1 : ld C z = C.getD (z : Int).toNat 0 := if_pos ⟨by omega, h⟩
  unfold cellIs
  rw [h1]
  simp only [show (0 : Int) ≤ z from by omega, h, decide_true, Bool.true_and]
  rfl
theorem cellW_ld {C : List Int} {z : Nat} {t x : Int} (h : (z : Int) < C.length) : cellW C z t x = if ld C z = t then st C z x else C := by
  unfold cellW
  rw [cellIs_ld h]
  by_cases hq : ld C z = t
  · simp only [hq, decide_true, if_true]
    rw [st, if_pos ⟨by omega, h⟩]
  · simp only [hq, decide_false, if_false]
    rfl
set_option maxRecDepth 100000 in
set_option maxHeartbeats 1000000 in
theorem swap_step (B m d z p : Nat) (n : Int) (v on : Value) (C : List Int) (c : AC) (w : World) (h : DqS w B m d z n v C on) (hp : Blk w p 79 (c.arr d)) (hn : n + 2 ≤ 4611686018427387904) (hz : (z : Int) < C.length) (ht : -1000000 ≤ c.t ∧ c.t ≤ 1000000) :
    Calls Try.prog 72 #[.pointer (some ⟨p, 0, none⟩)] w fun e w' => e = .returned (.bool (decide (ld C (z : Int) = c.t))) ∧ Stp w w' B m d z p (n + 1) v v on (if ld C (z : Int) = c.t then st C (z : Int) (c.t + 1) else C) c := by
  have HS := Lib.hid (Stp.refl h hp)
  have hN : cellN C (z : Int) = 1 := if_pos ⟨by omega, hz⟩
  have hwr : IntKind.i64.wrap (c.t + 1) = c.t + 1 := IntWalk.i64_in _ (by omega)
  obtain ⟨W2, hW2⟩ : ∃ W2, W2 = w.drew := ⟨_, rfl⟩
  have HX : Hid (Stp w W2 B m d z p n v v on C c) := Lib.hid (by rw [hW2]; exact HS.out.drew)
  have HW2 := Lib.hid hW2
  have HC : Hid (∀ y, Only (mine m v) W2 y → y.cell? ⟨p, 3, none⟩ = some (.pointer (some ⟨d, 0, none⟩)) ∧ y.cell? ⟨p, 6, none⟩ = some (.int .i64 c.t) ∧ y.cell? ⟨d, 0, none⟩ = some (.pointer (some ⟨m, 0, none⟩)) ∧ y.cell? ⟨d, 1, none⟩ = some (.int .i64 (z : Int))) := Lib.hid (fun y hy => by
    obtain ⟨k1, k2⟩ := HX.out.cells hy
    exact ⟨k1.cell 3, k1.cell 6, k2.cell 0, k2.cell 1⟩)
  clear h hp hW2
  go_enter Try.func72, Try.ntmps72
  go_wp2_with fail
  refine wp_region_st (by kernel_rfl) (fun dn y => Sti (mine m v) W2 (dn 23) (fun y => CMem y B m (n + 1) v (if ld C (z : Int) = c.t then st C (z : Int) (c.t + 1) else C)) y) [Is (.pointer (some ⟨p, 0, none⟩)), Is (.pointer (some ⟨p, 0, none⟩)), Is (.pointer (some ⟨p, 3, none⟩)), Is (.pointer (some ⟨d, 0, none⟩)), Is (.pointer (some ⟨d, 0, none⟩)), Is (.pointer (some ⟨d, 0, none⟩)), Is (.pointer (some ⟨m, 0, none⟩)), Is (.pointer (some ⟨p, 0, none⟩)), Is (.pointer (some ⟨p, 0, none⟩)), Is (.pointer (some ⟨p, 3, none⟩)), Is (.pointer (some ⟨d, 0, none⟩)), Is (.pointer (some ⟨d, 0, none⟩)), Is (.pointer (some ⟨d, 1, none⟩)), Is (.int .i64 (z : Int)), Is (.pointer (some ⟨p, 0, none⟩)), Is (.pointer (some ⟨p, 0, none⟩)), Is (.pointer (some ⟨p, 6, none⟩)), Is (.int .i64 c.t), Is (.pointer (some ⟨p, 0, none⟩)), Is (.pointer (some ⟨p, 0, none⟩)), Is (.pointer (some ⟨p, 6, none⟩)), Is (.int .i64 c.t), Is (.int .i64 (c.t + 1)), Is (.tuple #[.bool (decide (ld C (z : Int) = c.t)), .int .i64 (cellE C (z : Int))]), Is (.tuple #[.bool (decide (ld C (z : Int) = c.t)), .int .i64 (cellE C (z : Int))]), Is (.bool (decide (ld C (z : Int) = c.t))), Is (.int .i64 (cellE C (z : Int))), Is (.bool (decide (ld C (z : Int) = c.t))), Is (.int .i64 (cellE C (z : Int)))] (by kernel_rfl)
    ⟨is_stab _ _, is_stab _ _, is_stab _ _, is_stab _ _, is_stab _ _, is_stab _ _, is_stab _ _, is_stab _ _, is_stab _ _, is_stab _ _, is_stab _ _, is_stab _ _, is_stab _ _, is_stab _ _, is_stab _ _, is_stab _ _, is_stab _ _, is_stab _ _, is_stab _ _, is_stab _ _, is_stab _ _, is_stab _ _, is_stab _ _, is_stab _ _, is_stab _ _, is_stab _ _, is_stab _ _, is_stab _ _, is_stab _ _, trivial⟩ (by rw [← HW2.out]; exact Sti.start) ⟨?_, ?_, ?_, ?_, ?_, ?_, ?_, ?_, ?_, ?_, ?_, ?_, ?_, ?_, ?_, ?_, ?_, ?_, ?_, ?_, ?_, ?_, ?_, ?_, ?_, ?_, ?_, ?_, ?_, trivial⟩ ?_
  · intro dn u w1 hi he hS hp K hK
    refine ord_plain rfl ?_
    simp at hp hK ⊢
    go_simp
    exact hK _ _ (by simpa [ldW] using hS) rfl
  · intro dn u w1 hi he hS hp K hK
    refine ord_plain rfl ?_
    simp at hp hK ⊢
    simp only [hp] at hK
    go_simp
    exact hK _ _ (by simpa [ldW] using hS) rfl
  · intro dn u w1 hi he hS hp K hK
    refine ord_plain rfl ?_
    simp at hp hK ⊢
    simp only [hp] at hK
    go_simp
    exact hK _ _ (by simpa [ldW] using hS) rfl
  · intro dn u w1 hi he hS hp K hK
    refine ord_plain rfl ?_
    simp at hp hK ⊢
    simp only [hp] at hK
    have hc := (HC.out w1 hS.1).1
    go_simp
    exact hK _ _ (by simpa [ldW] using hS) rfl
  · intro dn u w1 hi he hS hp K hK
    refine ord_plain rfl ?_
    simp at hp hK ⊢
    simp only [hp] at hK
    go_simp
    exact hK _ _ (by simpa [ldW] using hS) rfl
  · intro dn u w1 hi he hS hp K hK
    refine ord_plain rfl ?_
    simp at hp hK ⊢
    simp only [hp] at hK
    go_simp
    exact hK _ _ (by simpa [ldW] using hS) rfl
  · intro dn u w1 hi he hS hp K hK
    refine ord_plain rfl ?_
    simp at hp hK ⊢
    simp only [hp] at hK
    have hc := (HC.out w1 hS.1).2.2.1
    go_simp
    exact hK _ _ (by simpa [ldW] using hS) rfl
  · intro dn u w1 hi he hS hp K hK
    refine ord_plain rfl ?_
    simp at hp hK ⊢
    go_simp
    exact hK _ _ (by simpa [ldW] using hS) rfl
  · intro dn u w1 hi he hS hp K hK
    refine ord_plain rfl ?_
    simp at hp hK ⊢
    simp only [hp] at hK
    go_simp
    exact hK _ _ (by simpa [ldW] using hS) rfl
  · intro dn u w1 hi he hS hp K hK
    refine ord_plain rfl ?_
    simp at hp hK ⊢
    simp only [hp] at hK
    go_simp
    exact hK _ _ (by simpa [ldW] using hS) rfl
  · intro dn u w1 hi he hS hp K hK
    refine ord_plain rfl ?_
    simp at hp hK ⊢
    simp only [hp] at hK
    have hc := (HC.out w1 hS.1).1
    go_simp
    exact hK _ _ (by simpa [ldW] using hS) rfl
  · intro dn u w1 hi he hS hp K hK
    refine ord_plain rfl ?_
    simp at hp hK ⊢
    simp only [hp] at hK
    go_simp
    exact hK _ _ (by simpa [ldW] using hS) rfl
  · intro dn u w1 hi he hS hp K hK
    refine ord_plain rfl ?_
    simp at hp hK ⊢
    simp only [hp] at hK
    go_simp
    exact hK _ _ (by simpa [ldW] using hS) rfl
  · intro dn u w1 hi he hS hp K hK
    refine ord_plain rfl ?_
    simp at hp hK ⊢
    simp only [hp] at hK
    have hc := (HC.out w1 hS.1).2.2.2
    go_simp
    exact hK _ _ (by simpa [ldW] using hS) rfl
  · intro dn u w1 hi he hS hp K hK
    refine ord_plain rfl ?_
    simp at hp hK ⊢
    go_simp
    exact hK _ _ (by simpa [ldW] using hS) rfl
  · intro dn u w1 hi he hS hp K hK
    refine ord_plain rfl ?_
    simp at hp hK ⊢
    simp only [hp] at hK
    go_simp
    exact hK _ _ (by simpa [ldW] using hS) rfl
  · intro dn u w1 hi he hS hp K hK
    refine ord_plain rfl ?_
    simp at hp hK ⊢
    simp only [hp] at hK
    go_simp
    exact hK _ _ (by simpa [ldW] using hS) rfl
  · intro dn u w1 hi he hS hp K hK
    refine ord_plain rfl ?_
    simp at hp hK ⊢
    simp only [hp] at hK
    have hc := (HC.out w1 hS.1).2.1
    go_simp
    exact hK _ _ (by simpa [ldW] using hS) rfl
  · intro dn u w1 hi he hS hp K hK
    refine ord_plain rfl ?_
    simp at hp hK ⊢
    go_simp
    exact hK _ _ (by simpa [ldW] using hS) rfl
  · intro dn u w1 hi he hS hp K hK
    refine ord_plain rfl ?_
    simp at hp hK ⊢
    simp only [hp] at hK
    go_simp
    exact hK _ _ (by simpa [ldW] using hS) rfl
  · intro dn u w1 hi he hS hp K hK
    refine ord_plain rfl ?_
    simp at hp hK ⊢
    simp only [hp] at hK
    go_simp
    exact hK _ _ (by simpa [ldW] using hS) rfl
  · intro dn u w1 hi he hS hp K hK
    refine ord_plain rfl ?_
    simp at hp hK ⊢
    simp only [hp] at hK
    have hc := (HC.out w1 hS.1).2.1
    go_simp
    exact hK _ _ (by simpa [ldW] using hS) rfl
  · intro dn u w1 hi he hS hp K hK
    refine ord_plain rfl ?_
    simp at hp hK ⊢
    simp only [hp] at hK
    go_simp
    exact hK _ _ (by simpa [ldW] using hS) rfl
  · intro dn u w1 hi he hS hp K hK
    refine ord_plain rfl ?_
    simp at hp hK ⊢
    simp only [hp] at hK
    obtain rfl := hS.was hi
    go_simp
    refine (swap_any B m n _ c.t _ v C _ HX.out.dq.mem (by omega)).mono ?_
    rintro e w2 ⟨rfl, k1, k2⟩
    rw [hN, cellW_ld hz] at k1
    rw [cellIs_ld hz]
    exact hK _ _ (by simp only [ldW, if_true]; exact Sti.put k2 k1) rfl
  · intro dn u w1 hi he hS hp K hK
    refine ord_plain rfl ?_
    simp at hp hK ⊢
    simp only [hp] at hK
    go_simp
    exact hK _ _ (by simpa [ldW] using hS) rfl
  · intro dn u w1 hi he hS hp K hK
    refine ord_plain rfl ?_
    simp at hp hK ⊢
    simp only [hp] at hK
    go_simp
    exact hK _ _ (by simpa [ldW] using hS) rfl
  · intro dn u w1 hi he hS hp K hK
    refine ord_plain rfl ?_
    simp at hp hK ⊢
    simp only [hp] at hK
    go_simp
    exact hK _ _ (by simpa [ldW] using hS) rfl
  · intro dn u w1 hi he hS hp K hK
    refine ord_plain rfl ?_
    simp at hp hK ⊢
    simp only [hp] at hK
    go_simp
    exact hK _ _ (by simpa [ldW] using hS) rfl
  · intro dn u w1 hi he hS hp K hK
    refine ord_plain rfl ?_
    simp at hp hK ⊢
    simp only [hp] at hK
    go_simp
    exact hK _ _ (by simpa [ldW] using hS) rfl
  · intro u w1 dn hld hS hp
    simp at hp ⊢
    have h23 := hld 23 (by decide)
    have s1 := hS.1
    have s2 := hS.got h23
    obtain ⟨k3, k6, k0, k1⟩ := HC.out w1 s1
    have kb := HX.out.cells s1
    have K1 := Lib.hid kb.1
    have K2 := Lib.hid kb.2
    have S2 := Lib.hid s2
    have HO := Lib.hid (HX.out.only.trans' (s1.mono (T := fun x => mine m v x ∨ x = d ∨ x = p) fun x hx => .inl hx) (fun i hi => .inl hi))
    have S1 := Lib.hid s1
    clear kb s1 s2 HC k0 k1
    simp only [hp]
    clear hp
    by_cases hq : ld C (z : Int) = c.t
    · simp only [hq, if_true] at S2 ⊢
      have HQ := Lib.hid hq
      have hpd : p ≠ d := HS.out.pd
      obtain ⟨W3, hW3⟩ : ∃ W3, W3 = w1.drew := ⟨_, rfl⟩
      have HW3 := Lib.hid hW3
      have K1' : Hid (Blk W3 p 79 (c.arr d)) := Lib.hid (by rw [hW3]; exact K1.out)
      have K2' : Hid (Blk W3 d 74 #[.pointer (some ⟨m, 0, none⟩), .int .i64 (z : Int), .int .i64 ((z : Int) + 1), .int .i64 ((z : Int) + 2), .int .i64 (ld C z), .int .i64 (ld C ((z : Int) + 1)), on]) := Lib.hid (by rw [hW3]; exact K2.out)
      have S2' : Hid (CMem W3 B m (n + 1) v (st C (z : Int) (c.t + 1))) := Lib.hid (by rw [hW3]; exact S2.out.drewN 1)
      have HC3 : Hid (∀ y, Only (fun x => x = d) W3 y → y.cell? ⟨p, 3, none⟩ = some (.pointer (some ⟨d, 0, none⟩)) ∧ y.cell? ⟨p, 6, none⟩ = some (.int .i64 c.t)) := Lib.hid (fun y hy => by
        have k1 := hy.blk K1'.out hpd
        exact ⟨k1.cell 3, k1.cell 6⟩)
      have HPD := Lib.hid hpd
      clear hW3 hpd hq
      go_wp2_with fail
      refine wp_region_st (by kernel_rfl) (fun dn y => Sti (fun x => x = d) W3 (dn 11) (fun y => y = (W3.setCell ⟨d, 4, none⟩ (.int .i64 (c.t + 1)))) y) [Is (.pointer (some ⟨p, 0, none⟩)), Is (.pointer (some ⟨p, 0, none⟩)), Is (.pointer (some ⟨p, 3, none⟩)), Is (.pointer (some ⟨d, 0, none⟩)), Is (.pointer (some ⟨p, 0, none⟩)), Is (.pointer (some ⟨p, 0, none⟩)), Is (.pointer (some ⟨p, 6, none⟩)), Is (.int .i64 c.t), Is (.int .i64 (c.t + 1)), Is (.pointer (some ⟨d, 0, none⟩)), Is (.pointer (some ⟨d, 4, none⟩)), fun _ _ => True] (by kernel_rfl)
        ⟨is_stab _ _, is_stab _ _, is_stab _ _, is_stab _ _, is_stab _ _, is_stab _ _, is_stab _ _, is_stab _ _, is_stab _ _, is_stab _ _, is_stab _ _, (fun _ _ _ _ _ => trivial), trivial⟩ (by rw [← HW3.out]; exact Sti.start) ⟨?_, ?_, ?_, ?_, ?_, ?_, ?_, ?_, ?_, ?_, ?_, ?_, trivial⟩ ?_
      · intro dn u w1 hi he hS hp K hK
        refine ord_plain rfl ?_
        simp at hp hK ⊢
        go_simp
        exact hK _ _ (by simpa [ldW] using hS) rfl
      · intro dn u w1 hi he hS hp K hK
        refine ord_plain rfl ?_
        simp at hp hK ⊢
        simp only [hp] at hK
        go_simp
        exact hK _ _ (by simpa [ldW] using hS) rfl
      · intro dn u w1 hi he hS hp K hK
        refine ord_plain rfl ?_
        simp at hp hK ⊢
        simp only [hp] at hK
        go_simp
        exact hK _ _ (by simpa [ldW] using hS) rfl
      · intro dn u w1 hi he hS hp K hK
        refine ord_plain rfl ?_
        simp at hp hK ⊢
        simp only [hp] at hK
        have hc := (HC3.out w1 hS.1).1
        go_simp
        exact hK _ _ (by simpa [ldW] using hS) rfl
      · intro dn u w1 hi he hS hp K hK
        refine ord_plain rfl ?_
        simp at hp hK ⊢
        go_simp
        exact hK _ _ (by simpa [ldW] using hS) rfl
      · intro dn u w1 hi he hS hp K hK
        refine ord_plain rfl ?_
        simp at hp hK ⊢
        simp only [hp] at hK
        go_simp
        exact hK _ _ (by simpa [ldW] using hS) rfl
      · intro dn u w1 hi he hS hp K hK
        refine ord_plain rfl ?_
        simp at hp hK ⊢
        simp only [hp] at hK
        go_simp
        exact hK _ _ (by simpa [ldW] using hS) rfl
      · intro dn u w1 hi he hS hp K hK
        refine ord_plain rfl ?_
        simp at hp hK ⊢
        simp only [hp] at hK
        have hc := (HC3.out w1 hS.1).2
        go_simp
        exact hK _ _ (by simpa [ldW] using hS) rfl
      · intro dn u w1 hi he hS hp K hK
        refine ord_plain rfl ?_
        simp at hp hK ⊢
        simp only [hp] at hK
        go_simp
        exact hK _ _ (by simpa [ldW] using hS) rfl
      · intro dn u w1 hi he hS hp K hK
        refine ord_plain rfl ?_
        simp at hp hK ⊢
        simp only [hp] at hK
        go_simp
        exact hK _ _ (by simpa [ldW] using hS) rfl
      · intro dn u w1 hi he hS hp K hK
        refine ord_plain rfl ?_
        simp at hp hK ⊢
        simp only [hp] at hK
        go_simp
        exact hK _ _ (by simpa [ldW] using hS) rfl
      · intro dn u w1 hi he hS hp K hK
        refine ord_plain rfl ?_
        simp at hp hK ⊢
        simp only [hp] at hK
        obtain rfl := hS.was hi
        have d4 : w1.cell? ⟨d, 4, none⟩ = some (.int .i64 (ld C z)) := K2'.out.cell 4
        have f4 : w1.frozen? ⟨d, 4, none⟩ = false := K2'.out.frozen 4
        go_simp
        exact hK _ (by simp only [ldW, if_true]; exact Sti.put ((Only.refl (fun x => x = d) _).setCell (p := ⟨d, 4, none⟩) (.inl rfl) _) rfl)
      · intro u w1 dn hld hS hp
        simp at hp ⊢
        have h11 := hld 11 (by decide)
        obtain rfl := hS.got h11
        go_wp2_with fail
        go_ret
        refine ⟨rfl, ⟨S2'.out.only ((Only.refl (fun x => x = d) W3).setCell (p := ⟨d, 4, none⟩) (.inl rfl) _) (fun e => HS.out.dq.away (.inl e.symm)) (fun k hk e => HS.out.dq.away (.inr (e ▸ hk))), ?_, HS.out.dq.base⟩, K1'.out.far (p := ⟨d, 4, none⟩) HPD.out _, ?_, HS.out.row⟩
        · have hb := K2'.out.set_ 4 (.int .i64 (c.t + 1))
          rw [ld_st_eq (by omega) hz, ld_st_ne (by omega)]
          exact hb
        · rw [HW3.out]
          exact (HO.out.drew).setCell (p := ⟨d, 4, none⟩) (.inl (.inr (.inl rfl))) _
    · simp only [hq, decide_false, if_false] at S2 ⊢
      go_wp2_with fail
      go_ret
      exact ⟨rfl, ⟨S2.out, K2.out, HS.out.dq.base⟩, K1.out, HO.out, HS.out.row⟩
end Go.Proofs.Ytmghlhngdopifaa
