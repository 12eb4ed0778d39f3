/- Deques: Size. -/
import Derived.Test.YtmghlhngdopifaaDqW
namespace Go.Proofs.Ytmghlhngdopifaa
open Go.RowKit
set_option linter.unusedVariables false
attribute [local simp] frOf dstsOf frGo predsHold allHold Region.binds slotOf seen Is Act.put
set_option maxRecDepth 100000 in
set_option maxHeartbeats 1000000 in
theorem size_any (B m d z : Nat) (n : Int) (v on : Value) (C : List Int) (w : World) (h : DqS w B m d z n v C on) (hb : bd (ld C ((z : Int) + 1))) (ht : bd (ld C (z : Int))) :
    Calls Try.prog 15 #[.pointer (some ⟨d, 0, none⟩)] w fun e w' => e = .returned (.int .i64 (if ld C ((z : Int) + 1) - ld C (z : Int) < 0 then 0 else ld C ((z : Int) + 1) - ld C (z : Int))) ∧ Only (fun _ => False) w w' := by
  have hwr : IntKind.i64.wrap (ld C ((z : Int) + 1) - ld C (z : Int)) = ld C ((z : Int) + 1) - ld C (z : Int) := IntWalk.i64_in _ (by unfold bd at hb ht; omega)
  obtain ⟨W2, hW2⟩ : ∃ W2, W2 = w.drew := ⟨_, rfl⟩
  have HC : Hid (∀ y, Only (fun _ => False) W2 y → y.cell? ⟨d, 5, none⟩ = some (.int .i64 (ld C ((z : Int) + 1))) ∧ y.cell? ⟨d, 4, none⟩ = some (.int .i64 (ld C (z : Int)))) := Lib.hid (fun y hy => by
    have k := hy.blk (show Blk W2 d _ _ by rw [hW2]; exact h.blk) (fun e => e)
    exact ⟨k.cell 5, k.cell 4⟩)
  have HW2 := Lib.hid hW2
  clear h hW2 hb ht
  generalize ld C ((z : Int) + 1) = bo at *
  generalize ld C (z : Int) = to at *
  obtain ⟨mx, hmx⟩ : ∃ mx, mx = if bo - to < 0 then 0 else bo - to := ⟨_, rfl⟩
  rw [← hmx]
  have HMX := Lib.hid hmx
  clear hmx
  go_enter Try.func15, Try.ntmps15
  go_wp2_with fail
  refine wp_region_st (by kernel_rfl) (fun _ y => Only (fun _ => False) W2 y) [Is (.pointer (some ⟨d, 0, none⟩)), Is (.pointer (some ⟨d, 0, none⟩)), Is (.pointer (some ⟨d, 5, none⟩)), Is (.int .i64 bo), Is (.pointer (some ⟨d, 0, none⟩)), Is (.pointer (some ⟨d, 0, none⟩)), Is (.pointer (some ⟨d, 4, none⟩)), Is (.int .i64 to), Is (.int .i64 (bo - to)), Is (.int .i64 mx), Is (.int .i64 mx)] (by kernel_rfl)
    ⟨is_stab _ _, is_stab _ _, is_stab _ _, is_stab _ _, is_stab _ _, is_stab _ _, is_stab _ _, is_stab _ _, is_stab _ _, is_stab _ _, is_stab _ _, trivial⟩ (by rw [← HW2.out]; exact Only.refl _ _) ⟨?_, ?_, ?_, ?_, ?_, ?_, ?_, ?_, ?_, ?_, ?_, trivial⟩ ?_
  · intro dn u w1 hi he hS hp K hK
    refine ord_plain rfl ?_
    simp at hp hK ⊢
    go_simp
    exact hK _ _ hS rfl
  · intro dn u w1 hi he hS hp K hK
    refine ord_plain rfl ?_
    simp at hp hK ⊢
    simp only [hp] at hK
    go_simp
    exact hK _ _ hS rfl
  · intro dn u w1 hi he hS hp K hK
    refine ord_plain rfl ?_
    simp at hp hK ⊢
    simp only [hp] at hK
    go_simp
    exact hK _ _ hS rfl
  · intro dn u w1 hi he hS hp K hK
    refine ord_plain rfl ?_
    simp at hp hK ⊢
    simp only [hp] at hK
    have hc := (HC.out w1 hS).1
    go_simp
    exact hK _ _ hS rfl
  · intro dn u w1 hi he hS hp K hK
    refine ord_plain rfl ?_
    simp at hp hK ⊢
    go_simp
    exact hK _ _ hS rfl
  · intro dn u w1 hi he hS hp K hK
    refine ord_plain rfl ?_
    simp at hp hK ⊢
    simp only [hp] at hK
    go_simp
    exact hK _ _ hS rfl
  · intro dn u w1 hi he hS hp K hK
    refine ord_plain rfl ?_
    simp at hp hK ⊢
    simp only [hp] at hK
    go_simp
    exact hK _ _ hS rfl
  · intro dn u w1 hi he hS hp K hK
    refine ord_plain rfl ?_
    simp at hp hK ⊢
    simp only [hp] at hK
    have hc := (HC.out w1 hS).2
    go_simp
    exact hK _ _ hS rfl
  · intro dn u w1 hi he hS hp K hK
    refine ord_plain rfl ?_
    simp at hp hK ⊢
    simp only [hp] at hK
    go_simp
    exact hK _ _ hS rfl
  · intro dn u w1 hi he hS hp K hK
    refine ord_plain rfl ?_
    simp at hp hK ⊢
    simp only [hp] at hK
    go_simp
    exact hK _ _ hS (congrArg (Value.int .i64) HMX.out.symm)
  · intro dn u w1 hi he hS hp K hK
    refine ord_plain rfl ?_
    simp at hp hK ⊢
    simp only [hp] at hK
    go_simp
    exact hK _ _ hS rfl
  · intro u w1 dn hld hS hp
    simp at hp ⊢
    simp only [hp]
    go_wp2_with fail
    go_ret
    rw [HW2.out] at hS
    exact ⟨rfl, ((Only.refl (fun _ => False) _).drew).trans hS⟩
end Go.Proofs.Ytmghlhngdopifaa
