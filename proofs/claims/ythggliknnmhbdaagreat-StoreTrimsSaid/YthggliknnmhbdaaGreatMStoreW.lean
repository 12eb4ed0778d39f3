/- Several texts in one: StoreW. -/
import Derived.Test.YthggliknnmhbdaaGreatProg
import Derived.KernelRfl
import Derived.Test.YthggliknnmhbdaaGreatAbsM8
import Derived.Test.YthggliknnmhbdaaGreatMHook
/- The run of thresherlaw07.alive comes to true, whatever is handed in. No conditions. -/
namespace Go.Proofs.YthggliknnmhbdaaGreat
open Go.RowKit Go.Proofs.YthggliknnmhbdaaGreat.Abs
noncomputable def alive_plan : Plan := ⟨fun _ => false, hookF⟩
set_option maxRecDepth 1000000 in
theorem alive_run : callF Tryz.prog alive_plan (execF Tryz.prog alive_plan 1000000) .h 5 [] .h .lf kTrue = some [] := by kernel_rfl
theorem alive_any  (w : World) : Calls Tryz.prog 5 #[] w fun e w' => e = .returned (.bool true) ∧ Below w.heap.size w w' :=
  run_trueN (hook_ok _) 1000000 _ (us := []) (fun u hu => by cases hu) alive_run w
end Go.Proofs.YthggliknnmhbdaaGreat
