/- The run of thresherlaw16.DequeNone comes to true, whatever is handed in. No conditions. -/
import Derived.Test.YtmghlhngdopifaaProg
import Derived.KernelRfl
import Derived.Test.YtmghlhngdopifaaAbsZf
namespace Go.Proofs.Ytmghlhngdopifaa
open Go.RowKit Go.Proofs.Ytmghlhngdopifaa.Abs
noncomputable def none_plan : Plan := ⟨fun _ => false, fun _ _ => none⟩
set_option maxRecDepth 1000000 in
theorem none_run0 : callF Try.prog none_plan (execF Try.prog none_plan 1000000) .h 5 [.sym 0, .sym 1, .res 2 .u8 4 0] .h .lf kTrue = some [] := by kernel_rfl
set_option maxRecDepth 1000000 in
theorem none_run1 : callF Try.prog none_plan (execF Try.prog none_plan 1000000) .h 5 [.sym 0, .sym 1, .res 2 .u8 4 1] .h .lf kTrue = some [] := by kernel_rfl
set_option maxRecDepth 1000000 in
theorem none_run2 : callF Try.prog none_plan (execF Try.prog none_plan 1000000) .h 5 [.sym 0, .sym 1, .res 2 .u8 4 2] .h .lf kTrue = some [] := by kernel_rfl
set_option maxRecDepth 1000000 in
theorem none_run3 : callF Try.prog none_plan (execF Try.prog none_plan 1000000) .h 5 [.sym 0, .sym 1, .res 2 .u8 4 3] .h .lf kTrue = some [] := by kernel_rfl
theorem none_any (x0 x1 x2 : Int) (h0 : 0 ≤ x2) (w : World) : Calls Try.prog 5 #[.int .i64 x0, .int .i64 x1, .int .u8 x2] w fun e w' => e = .returned (.bool true) ∧ Below w.heap.size w w' := by
  have main : ∀ r : Nat, x2 % 4 = (r : Int) → callF Try.prog none_plan (execF Try.prog none_plan 1000000) .h 5 [.sym 0, .sym 1, .res 2 .u8 4 r] .h .lf kTrue = some [] →
      Calls Try.prog 5 #[.int .i64 x0, .int .i64 x1, .int .u8 x2] w fun e w' => e = .returned (.bool true) ∧ Below w.heap.size w w' := by
    intro r hr hrun
    refine run_trueA no_hook 1000000 _ (us := [.int .i64 x0, .int .i64 x1, .int .u8 x2]) (by
      intro u hu cs
      simp only [List.mem_cons, List.not_mem_nil, or_false] at hu
      rcases hu with rfl | rfl | rfl <;> exact ⟨(fun e => by cases e), (fun e => by cases e)⟩) _ (fun ρ hρ => ?_) hrun w
    have e0 : Abs.conc ρ (.sym 0) = some (.int .i64 x0) := by show some (ρ.sy 0) = _; rw [hρ]; rfl
    have e1 : Abs.conc ρ (.sym 1) = some (.int .i64 x1) := by show some (ρ.sy 1) = _; rw [hρ]; rfl
    have e2 : Abs.conc ρ (.res 2 .u8 4 r) = some (.int .u8 x2) := by
      have hs : ρ.sy 2 = .int .u8 x2 := by rw [hρ]; rfl
      unfold Abs.conc
      rw [hs]
      simp only
      rw [if_pos ⟨trivial, h0, by simpa using hr⟩]
    exact concs_mk e0 (concs_mk e1 (concs_mk e2 rfl))
  have hr : x2 % 4 = 0 ∨ x2 % 4 = 1 ∨ x2 % 4 = 2 ∨ x2 % 4 = 3 := by omega
  rcases hr with h | h | h | h
  · exact main 0 h none_run0
  · exact main 1 h none_run1
  · exact main 2 h none_run2
  · exact main 3 h none_run3
end Go.Proofs.Ytmghlhngdopifaa
