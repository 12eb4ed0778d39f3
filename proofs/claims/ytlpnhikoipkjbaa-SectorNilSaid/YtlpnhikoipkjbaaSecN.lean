/- The run of thresherlaw05.SectorNil comes to true, whatever is handed in. No conditions. -/
import Derived.Test.YtlpnhikoipkjbaaProg
import Derived.KernelRfl
import Derived.Test.YtlpnhikoipkjbaaAbsZf
namespace Go.Proofs.Ytlpnhikoipkjbaa
open Go.RowKit Go.Proofs.Ytlpnhikoipkjbaa.Abs
noncomputable def nil_plan : Plan := ⟨fun _ => false, fun _ _ => none⟩
set_option maxRecDepth 1000000 in
theorem nil_run : callF Try.prog nil_plan (execF Try.prog nil_plan 1000000) .h 4 [.sym 0, .sym 1] .h .lf kTrue = some [] := by kernel_rfl
theorem nil_any (x0 : Int) (x1 : ByteArray) (w : World) : Calls Try.prog 4 #[.int .i64 x0, .string x1] w fun e w' => e = .returned (.bool true) ∧ Below w.heap.size w w' :=
  run_trueN no_hook 1000000 _ (us := [.int .i64 x0, .string x1]) (by
    intro u hu cs
    simp only [List.mem_cons, List.not_mem_nil, or_false] at hu
    rcases hu with rfl | rfl <;> exact ⟨(fun e => by cases e), (fun e => by cases e)⟩) nil_run w
end Go.Proofs.Ytlpnhikoipkjbaa
