/- The closed run of thresherlaw19.works comes to true. No conditions. -/
import Derived.Test.YtfmbkmognobfpaaGreatProg
import Derived.KernelRfl
import Derived.Test.YtfmbkmognobfpaaGreatAbsZe
namespace Go.Proofs.YtfmbkmognobfpaaGreat
open Go.RowKit Go.Proofs.YtfmbkmognobfpaaGreat.Abs
/-- whose ways are joined: the table's rows, which range over a map -/
noncomputable def joined (f : FuncId) : Bool := Nat.beq f 28
set_option maxRecDepth 1000000 in
theorem works_run : callF Tryz.prog joined (execF Tryz.prog joined 1000000) .h 5 [] .h .lf kTrue = some [] := by kernel_rfl
theorem works_any (w : World) : Calls Tryz.prog 5 #[] w fun e w' => e = .returned (.bool true) ∧ Below w.heap.size w w' := run_true 1000000 5 works_run w
end Go.Proofs.YtfmbkmognobfpaaGreat
