/- Deques: the steps that swap. -/
import Derived.Test.YtmghlhngdopifaaDqC
namespace Go.Proofs.Ytmghlhngdopifaa
open Go.RowKit
set_option linter.unusedVariables false
attribute [local simp] frOf dstsOf frGo predsHold allHold Region.binds slotOf seen Is Act.put
set_option maxRecDepth 100000 in
set_option maxHeartbeats 1000000 in
theorem popSwap_any (B m d z p : Nat) (n : Int) (v on : Value) (C : List Int) (c : AC) (w : World) (h : DqS w B m d z n v C on) (hp : Blk w p 79 (c.arr d)) (hn : n + 2 ≤ 4611686018427387904) (hz : (z : Int) < C.length) (ht : -1000000 ≤ c.t ∧ c.t ≤ 1000000) :
    Calls Try.prog 71 #[.pointer (some ⟨p, 0, none⟩)] w fun e w' => e = .returned (.int .i64 0) ∧ Stp w w' B m d z p (n + 1) v v on (if ld C (z : Int) = c.t then st C (z : Int) (c.t + 1) else C) { c with g := decide (ld C (z : Int) = c.t), dv := meth 61 p } := by
  have HS := Lib.hid (Stp.refl h hp)
  clear h hp
  obtain ⟨C2, hC2⟩ : ∃ C2, C2 = (if ld C (z : Int) = c.t then st C (z : Int) (c.t + 1) else C) := ⟨_, rfl⟩
  obtain ⟨gb, hgb⟩ : ∃ gb, gb = decide (ld C (z : Int) = c.t) := ⟨_, rfl⟩
  rw [← hC2, ← hgb]
  have HC2 := Lib.hid hC2
  have HGB := Lib.hid hgb
  clear hC2 hgb
  go_enter Try.func71, Try.ntmps71
  go_wp2_with fail
  refine (swap_step B m d z p n v on C c w HS.out.dq HS.out.act (by omega) hz ht).mono ?_
  rintro e w1 ⟨rfl, h1⟩
  rw [← HC2.out] at h1
  rw [← HGB.out]
  have HS1 := Lib.hid h1
  have a11 : w1.cell? ⟨p, 11, none⟩ = some (.bool c.g) := HS1.out.act.cell 11
  have f11 : w1.frozen? ⟨p, 11, none⟩ = false := HS1.out.act.frozen 11
  clear h1
  go_wp2_with fail
  have HS2 := Lib.hid (HS1.out.set 11 (.bool gb) (c' := { c with g := gb }) rfl)
  refine (then_any p _ _ _ _ _ HS2.out.act (by simp [AC.arr])).mono ?_
  rintro e w9 ⟨rfl, rfl⟩
  go_wp2_with fail
  go_ret
  exact ⟨rfl, HS2.out.set 0 _ rfl⟩
set_option maxRecDepth 100000 in
set_option maxHeartbeats 1000000 in
theorem stealSwap_any (B m d z p : Nat) (n : Int) (v on : Value) (C : List Int) (c : AC) (w : World) (h : DqS w B m d z n v C on) (hp : Blk w p 79 (c.arr d)) (hn : n + 2 ≤ 4611686018427387904) (hz : (z : Int) < C.length) (ht : -1000000 ≤ c.t ∧ c.t ≤ 1000000) :
    Calls Try.prog 68 #[.pointer (some ⟨p, 0, none⟩)] w fun e w' => e = .returned (.int .i64 0) ∧ Stp w w' B m d z p (n + 1) v v on (if ld C (z : Int) = c.t then st C (z : Int) (c.t + 1) else C) (if ld C (z : Int) = c.t then { c with dv := .nilFunc, wh := 2, x := c.v } else { c with dv := .nilFunc, wh := 4, x := 0 }) := by
  have HS := Lib.hid (Stp.refl h hp)
  clear h hp
  by_cases hq : ld C (z : Int) = c.t
  · simp only [if_pos hq]
    go_enter Try.func68, Try.ntmps68
    go_wp2_with fail
    refine (swap_step B m d z p n v on C c w HS.out.dq HS.out.act (by omega) hz ht).mono ?_
    rintro e w1 ⟨rfl, h1⟩
    simp only [if_pos hq] at h1
    have HS1 := Lib.hid h1
    have hd := decide_eq_true hq
    rw [hd]
    clear hq hd
    have a11 : w1.cell? ⟨p, 11, none⟩ = some (.bool c.g) := HS1.out.act.cell 11
    have f11 : w1.frozen? ⟨p, 11, none⟩ = false := HS1.out.act.frozen 11
    clear h1
    go_wp2_with fail
    obtain ⟨W2, hW2⟩ : ∃ W2, W2 = w1.drew := ⟨_, rfl⟩
    have HX : Hid (Stp w W2 B m d z p _ v _ on (st C (z : Int) (c.t + 1)) c) := Lib.hid (by rw [hW2]; exact HS1.out.drew)
    have HW2 := Lib.hid hW2
    clear hW2
    have HC : Hid (∀ b y, Sti (fun x => x = p) W2 b (fun y => y = (((W2.setCell ⟨p, 0, none⟩ .nilFunc).setCell ⟨p, 1, none⟩ (.int .u8 2)).setCell ⟨p, 2, none⟩ (.int .i64 c.v))) y → y.cell? ⟨p, 4, none⟩ = some (.int .i64 c.v)) := Lib.hid (by
      intro b y h
      cases b
      · rw [h.was rfl]; exact HX.out.act.cell 4
      · rw [h.got rfl]; exact (HX.out.over 2 c.v).act.cell 4)
    refine wp_region_st (by kernel_rfl) (fun dn y => Sti (fun x => x = p) W2 (dn 7) (fun y => y = (((W2.setCell ⟨p, 0, none⟩ .nilFunc).setCell ⟨p, 1, none⟩ (.int .u8 2)).setCell ⟨p, 2, none⟩ (.int .i64 c.v))) y) [Is (.pointer (some ⟨p, 0, none⟩)), Is (.pointer (some ⟨p, 0, none⟩)), Is (.pointer (some ⟨p, 0, none⟩)), Is (.pointer (some ⟨p, 0, none⟩)), Is (.pointer (some ⟨p, 0, none⟩)), Is (.pointer (some ⟨p, 4, none⟩)), Is (.int .i64 c.v), Is (.int .i64 0), Is (.int .i64 0)] (by kernel_rfl)
      ⟨is_stab _ _, is_stab _ _, is_stab _ _, is_stab _ _, is_stab _ _, is_stab _ _, is_stab _ _, is_stab _ _, is_stab _ _, trivial⟩ (by rw [← HW2.out]; exact Sti.start) ⟨?_, ?_, ?_, ?_, ?_, ?_, ?_, ?_, ?_, trivial⟩ ?_
    · intro dn u w1 hi he hS hp K hK
      refine ord_plain rfl ?_
      simp at hp hK ⊢
      go_simp
      exact hK _ _ (by simpa [ldW] using hS) rfl
    · intro dn u w1 hi he hS hp K hK
      refine ord_plain rfl ?_
      simp at hp hK ⊢
      simp only [hp] at hK
      go_simp
      exact hK _ _ (by simpa [ldW] using hS) rfl
    · intro dn u w1 hi he hS hp K hK
      refine ord_plain rfl ?_
      simp at hp hK ⊢
      simp only [hp] at hK
      go_simp
      exact hK _ _ (by simpa [ldW] using hS) rfl
    · intro dn u w1 hi he hS hp K hK
      refine ord_plain rfl ?_
      simp at hp hK ⊢
      go_simp
      exact hK _ _ (by simpa [ldW] using hS) rfl
    · intro dn u w1 hi he hS hp K hK
      refine ord_plain rfl ?_
      simp at hp hK ⊢
      simp only [hp] at hK
      go_simp
      exact hK _ _ (by simpa [ldW] using hS) rfl
    · intro dn u w1 hi he hS hp K hK
      refine ord_plain rfl ?_
      simp at hp hK ⊢
      simp only [hp] at hK
      go_simp
      exact hK _ _ (by simpa [ldW] using hS) rfl
    · intro dn u w1 hi he hS hp K hK
      refine ord_plain rfl ?_
      simp at hp hK ⊢
      simp only [hp] at hK
      have hc := HC.out _ _ hS
      go_simp
      exact hK _ _ (by simpa [ldW] using hS) rfl
    · intro dn u w1 hi he hS hp K hK
      refine ord_plain rfl ?_
      simp at hp hK ⊢
      simp only [hp] at hK
      obtain rfl := hS.was hi
      go_simp
      refine (over_any p _ _ _ _ HX.out.act (by simp [AC.arr])).mono ?_
      rintro e w2 ⟨rfl, rfl⟩
      exact hK _ _ (by simp only [ldW, if_true]; exact Sti.put ((((Only.refl (fun x => x = p) _).setCell (.inl rfl) _).setCell (.inl rfl) _).setCell (.inl rfl) _) rfl) rfl
    · intro dn u w1 hi he hS hp K hK
      refine ord_plain rfl ?_
      simp at hp hK ⊢
      simp only [hp] at hK
      go_simp
      exact hK _ _ (by simpa [ldW] using hS) rfl
    · intro u w1 dn hld hS hp
      simp at hp ⊢
      have hk := hld 7 (by decide)
      obtain rfl := hS.got hk
      simp only [hp]
      go_wp2_with fail
      go_ret
      exact ⟨rfl, HX.out.over 2 c.v⟩
  · simp only [if_neg hq]
    go_enter Try.func68, Try.ntmps68
    go_wp2_with fail
    refine (swap_step B m d z p n v on C c w HS.out.dq HS.out.act (by omega) hz ht).mono ?_
    rintro e w1 ⟨rfl, h1⟩
    simp only [if_neg hq] at h1
    have HS1 := Lib.hid h1
    have hd := decide_eq_false hq
    rw [hd]
    clear hq hd
    have a11 : w1.cell? ⟨p, 11, none⟩ = some (.bool c.g) := HS1.out.act.cell 11
    have f11 : w1.frozen? ⟨p, 11, none⟩ = false := HS1.out.act.frozen 11
    clear h1
    go_wp2_with fail
    refine (over_any p _ _ _ _ HS1.out.act (by simp [AC.arr])).mono ?_
    rintro e w9 ⟨rfl, rfl⟩
    go_wp2_with fail
    go_ret
    exact ⟨rfl, HS1.out.over _ _⟩
end Go.Proofs.Ytmghlhngdopifaa
