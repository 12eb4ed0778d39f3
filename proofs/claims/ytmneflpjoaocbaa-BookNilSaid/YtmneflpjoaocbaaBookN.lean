/- The run of thresherlaw06.BookNil comes to true, whatever is handed in. No conditions. -/
import Derived.Test.YtmneflpjoaocbaaProg
import Derived.KernelRfl
import Derived.Test.YtmneflpjoaocbaaAbsZf
import Derived.Test.YtmneflpjoaocbaaHook
namespace Go.Proofs.Ytmneflpjoaocbaa
open Go.RowKit Go.Proofs.Ytmneflpjoaocbaa.Abs
noncomputable def nil_plan : Plan := ⟨fun _ => false, hookF⟩
set_option maxRecDepth 1000000 in
theorem nil_run : callF Try.prog nil_plan (execF Try.prog nil_plan 1000000) .h 3 [.sym 0, .sym 1] .h .lf kTrue = some [] := by kernel_rfl
theorem nil_any (x0 : Int) (x1 : ByteArray) (w : World) : Calls Try.prog 3 #[.int .i64 x0, .string x1] w fun e w' => e = .returned (.bool true) ∧ Below w.heap.size w w' :=
  run_trueN (hook_ok _) 1000000 _ (us := [.int .i64 x0, .string x1]) (by
    intro u hu cs
    simp only [List.mem_cons, List.not_mem_nil, or_false] at hu
    rcases hu with rfl | rfl <;> exact ⟨(fun e => by cases e), (fun e => by cases e)⟩) nil_run w
end Go.Proofs.Ytmneflpjoaocbaa
