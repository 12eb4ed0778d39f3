/- Several texts in one: BookW. -/
import Derived.Test.YtmneflpjoaocbaaGreatProg
import Derived.KernelRfl
import Derived.Test.YtmneflpjoaocbaaGreatAbsM8
import Derived.Test.YtmneflpjoaocbaaGreatMHook
/- The run of thresherlaw06.alive comes to true, whatever is handed in. No conditions. -/
namespace Go.Proofs.YtmneflpjoaocbaaGreat
set_option maxRecDepth 100000
open Go.RowKit Go.Proofs.YtmneflpjoaocbaaGreat.Abs
noncomputable def alive_plan : Plan := ⟨fun _ => false, hookF⟩
set_option maxRecDepth 1000000 in
theorem alive_run : callF Tryz.prog alive_plan (execF Tryz.prog alive_plan 1000000) .h 5 [] .h .lf kTrue = some [] := by kernel_rfl
theorem alive_any  (w : World) : Calls Tryz.prog 5 #[] w fun e w' => e = .returned (.bool true) ∧ Below w.heap.size w w' :=
  run_trueN (hook_ok _) 1000000 _ (us := []) (fun u hu => by cases hu) alive_run w
end Go.Proofs.YtmneflpjoaocbaaGreat
