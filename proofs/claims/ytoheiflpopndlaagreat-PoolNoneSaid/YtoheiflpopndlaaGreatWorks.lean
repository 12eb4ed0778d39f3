/- The run of thresherlaw18.PoolNone comes to true, whatever its two numbers are. No conditions. -/
import Derived.Test.YtoheiflpopndlaaGreatProg
import Derived.KernelRfl
import Derived.Test.YtoheiflpopndlaaGreatAbsZf
namespace Go.Proofs.YtoheiflpopndlaaGreat
open Go.RowKit Go.Proofs.YtoheiflpopndlaaGreat.Abs
/-- whose ways are joined: the table's rows, which range over a map -/
noncomputable def joined (f : FuncId) : Bool := Nat.beq f 38
set_option maxRecDepth 1000000 in
theorem none_run : callF Tryz.prog joined (execF Tryz.prog joined 1000000) .h 3 [.sym 0, .sym 1] .h .lf kTrue = some [] := by kernel_rfl
theorem none_any (n job : Int) (k j : IntKind) (w : World) : Calls Tryz.prog 3 #[.int k n, .int j job] w fun e w' => e = .returned (.bool true) ∧ Below w.heap.size w w' :=
  run_true2 1000000 3 none_run _ _ (fun cs => ⟨(fun e => by cases e), (fun e => by cases e)⟩) (fun cs => ⟨(fun e => by cases e), (fun e => by cases e)⟩) w
end Go.Proofs.YtoheiflpopndlaaGreat
