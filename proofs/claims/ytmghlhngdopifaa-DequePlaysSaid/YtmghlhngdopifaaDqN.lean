/- Deques: a step, whatever is next. -/
import Derived.Test.YtmghlhngdopifaaDqM
namespace Go.Proofs.Ytmghlhngdopifaa
open Go.RowKit
set_option linter.unusedVariables false
attribute [local simp] frOf dstsOf frGo predsHold allHold Region.binds slotOf seen Is Act.put
set_option maxRecDepth 100000 in
set_option maxHeartbeats 1000000 in
theorem step_via (p d fid : Nat) (fs cp : Array Value) (c : AC) (w : World) (R : World → AC → Prop) (hp : Blk w p 79 (c.arr d)) (hdv : c.dv = .func (.func fid) fs cp) (hcf : ∀ w, (callFunc fid (fs ++ cp)).run Try.prog w = .ok (.enter fid (fs ++ cp)) w)
    (hcall : Calls Try.prog fid (fs ++ cp) w fun e w' => e = .returned (.int .i64 0) ∧ ∃ c', Blk w' p 79 (c'.arr d) ∧ R w' c') :
    Calls Try.prog 13 #[.pointer (some ⟨p, 0, none⟩)] w fun e w' => ∃ c' w1, e = .returned (.tuple #[.int .u8 c'.wh, .int .i64 c'.x, .int .i64 0]) ∧ R w1 c' ∧ Only (fun _ => False) w1 w' := by
  have c0 : w.cell? ⟨p, 0, none⟩ = some (.func (.func fid) fs cp) := by rw [← hdv]; exact hp.cell 0
  have c3 : w.cell? ⟨p, 3, none⟩ = some (.pointer (some ⟨d, 0, none⟩)) := hp.cell 3
  have qf : ∀ w, (binOp .eql 75 (.func (.func fid) fs cp) .nilFunc).run Try.prog w = .ok (.bool false) w := fun _ => rfl
  have HK := Lib.hid hcall
  clear hp hcall hdv
  go_enter Try.func13, Try.ntmps13
  go_wp2_with fail
  refine HK.out.mono ?_
  rintro e w1 ⟨rfl, c', k1, k2⟩
  obtain ⟨W2, hW2⟩ : ∃ W2, W2 = w1.drew := ⟨_, rfl⟩
  have HP : Hid (∀ y, Only (fun _ => False) W2 y → Blk y p 79 (c'.arr d)) := Lib.hid (fun y hy => hy.blk (by rw [hW2]; exact k1) (fun e => e))
  have HR := Lib.hid k2
  have HW2 := Lib.hid hW2
  clear k1 k2 hW2
  go_wp2_with fail
  refine wp_region_st (by kernel_rfl) (fun _ y => Only (fun _ => False) W2 y) [Is (.pointer (some ⟨p, 0, none⟩)), Is (.pointer (some ⟨p, 0, none⟩)), Is (.pointer (some ⟨p, 0, none⟩)), Is (.pointer (some ⟨p, 1, none⟩)), Is (.int .u8 c'.wh), Is (.pointer (some ⟨p, 0, none⟩)), Is (.pointer (some ⟨p, 0, none⟩)), Is (.pointer (some ⟨p, 0, none⟩)), Is (.pointer (some ⟨p, 2, none⟩)), Is (.int .i64 c'.x), Is (.int .u8 c'.wh), Is (.int .i64 c'.x), Is (.int .i64 0)] (by kernel_rfl)
    ⟨is_stab _ _, is_stab _ _, is_stab _ _, is_stab _ _, is_stab _ _, is_stab _ _, is_stab _ _, is_stab _ _, is_stab _ _, is_stab _ _, is_stab _ _, is_stab _ _, is_stab _ _, trivial⟩ (by rw [← HW2.out]; exact Only.refl _ _) ⟨?_, ?_, ?_, ?_, ?_, ?_, ?_, ?_, ?_, ?_, ?_, ?_, ?_, trivial⟩ ?_
  · intro dn u w1 hi he hS hp K hK
    refine ord_plain rfl ?_
    simp at hp hK ⊢
    go_simp
    exact hK _ _ hS rfl
  · intro dn u w1 hi he hS hp K hK
    refine ord_plain rfl ?_
    simp at hp hK ⊢
    simp only [hp] at hK
    go_simp
    exact hK _ _ hS rfl
  · intro dn u w1 hi he hS hp K hK
    refine ord_plain rfl ?_
    simp at hp hK ⊢
    simp only [hp] at hK
    go_simp
    exact hK _ _ hS rfl
  · intro dn u w1 hi he hS hp K hK
    refine ord_plain rfl ?_
    simp at hp hK ⊢
    simp only [hp] at hK
    go_simp
    exact hK _ _ hS rfl
  · intro dn u w1 hi he hS hp K hK
    refine ord_plain rfl ?_
    simp at hp hK ⊢
    simp only [hp] at hK
    have hc : w1.cell? ⟨p, 1, none⟩ = some (.int .u8 c'.wh) := (HP.out w1 hS).cell 1
    go_simp
    exact hK _ _ hS rfl
  · intro dn u w1 hi he hS hp K hK
    refine ord_plain rfl ?_
    simp at hp hK ⊢
    go_simp
    exact hK _ _ hS rfl
  · intro dn u w1 hi he hS hp K hK
    refine ord_plain rfl ?_
    simp at hp hK ⊢
    simp only [hp] at hK
    go_simp
    exact hK _ _ hS rfl
  · intro dn u w1 hi he hS hp K hK
    refine ord_plain rfl ?_
    simp at hp hK ⊢
    simp only [hp] at hK
    go_simp
    exact hK _ _ hS rfl
  · intro dn u w1 hi he hS hp K hK
    refine ord_plain rfl ?_
    simp at hp hK ⊢
    simp only [hp] at hK
    go_simp
    exact hK _ _ hS rfl
  · intro dn u w1 hi he hS hp K hK
    refine ord_plain rfl ?_
    simp at hp hK ⊢
    simp only [hp] at hK
    have hc : w1.cell? ⟨p, 2, none⟩ = some (.int .i64 c'.x) := (HP.out w1 hS).cell 2
    go_simp
    exact hK _ _ hS rfl
  · intro dn u w1 hi he hS hp K hK
    refine ord_plain rfl ?_
    simp at hp hK ⊢
    simp only [hp] at hK
    go_simp
    exact hK _ _ hS rfl
  · intro dn u w1 hi he hS hp K hK
    refine ord_plain rfl ?_
    simp at hp hK ⊢
    simp only [hp] at hK
    go_simp
    exact hK _ _ hS rfl
  · intro dn u w1 hi he hS hp K hK
    refine ord_plain rfl ?_
    simp at hp hK ⊢
    simp only [hp] at hK
    go_simp
    exact hK _ _ hS rfl
  · intro u w1 dn hld hS hp
    simp at hp ⊢
    simp only [hp]
    go_wp2_with fail
    go_ret3
    refine ⟨c', _, rfl, HR.out, ?_⟩
    rw [HW2.out] at hS
    exact ((Only.refl (fun _ => False) _).drew).trans hS
end Go.Proofs.Ytmghlhngdopifaa
