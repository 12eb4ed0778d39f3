/- Several texts in one: BookW. -/
import Derived.Test.YtmneflpjoaocbaaProg
import Derived.KernelRfl
import Derived.Test.YtmneflpjoaocbaaMAbsM8
import Derived.Test.YtmneflpjoaocbaaMHook
/- The run of thresherlaw06.alive comes to true, whatever is handed in. No conditions. -/
namespace Go.Proofs.Ytmneflpjoaocbaa
set_option maxRecDepth 100000
open Go.RowKit Go.Proofs.Ytmneflpjoaocbaa.Abs
noncomputable def alive_plan : Plan := ⟨fun _ => false, hookF⟩
set_option maxRecDepth 1000000 in
theorem alive_run : callF Try.prog alive_plan (execF Try.prog alive_plan 1000000) .h 11 [] .h .lf kTrue = some [] := by kernel_rfl
theorem alive_any  (w : World) : Calls Try.prog 11 #[] w fun e w' => e = .returned (.bool true) ∧ Below w.heap.size w w' :=
  run_trueN (hook_ok _) 1000000 _ (us := []) (fun u hu => by cases hu) alive_run w
end Go.Proofs.Ytmneflpjoaocbaa
