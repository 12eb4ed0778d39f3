/- The run of thresherlaw05.alive comes to true, whatever is handed in. No conditions. -/
import Derived.Test.YtlpnhikoipkjbaaProg
import Derived.KernelRfl
import Derived.Test.YtlpnhikoipkjbaaAbsZf
namespace Go.Proofs.Ytlpnhikoipkjbaa
open Go.RowKit Go.Proofs.Ytlpnhikoipkjbaa.Abs
noncomputable def alive_plan : Plan := ⟨fun _ => false, fun _ _ => none⟩
set_option maxRecDepth 1000000 in
theorem alive_run : callF Try.prog alive_plan (execF Try.prog alive_plan 1000000) .h 7 [] .h .lf kTrue = some [] := by kernel_rfl
theorem alive_any  (w : World) : Calls Try.prog 7 #[] w fun e w' => e = .returned (.bool true) ∧ Below w.heap.size w w' :=
  run_trueN no_hook 1000000 _ (us := []) (fun u hu => by cases hu) alive_run w
end Go.Proofs.Ytlpnhikoipkjbaa
