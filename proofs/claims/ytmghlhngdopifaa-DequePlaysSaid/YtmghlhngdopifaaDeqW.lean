/- The run of thresherlaw16.works comes to true, whatever is handed in. No conditions. -/
import Derived.Test.YtmghlhngdopifaaProg
import Derived.KernelRfl
import Derived.Test.YtmghlhngdopifaaAbsM8
namespace Go.Proofs.Ytmghlhngdopifaa
open Go.RowKit Go.Proofs.Ytmghlhngdopifaa.Abs
noncomputable def works_plan : Plan := ⟨fun _ => false, fun _ _ => none⟩
set_option maxRecDepth 1000000 in
theorem works_run : callF Try.prog works_plan (execF Try.prog works_plan 1000000) .h 7 [] .h .lf kTrue = some [] := by kernel_rfl
theorem works_any  (w : World) : Calls Try.prog 7 #[] w fun e w' => e = .returned (.bool true) ∧ Below w.heap.size w w' :=
  run_trueN no_hook 1000000 _ (us := []) (fun u hu => by cases hu) works_run w
end Go.Proofs.Ytmghlhngdopifaa
