/- What a crash keeps of a loose write. -/
import Derived.Test.YtlpnhikoipkjbaaSecC
namespace Go.Proofs.Ytlpnhikoipkjbaa
open Go.RowKit Go.WideShapes Go.ChangeShapes
theorem keep_no (A : Option Addr) (m c : Nat) (cs : Array Value) (n : Int) (w : World) (hn : n ≤ 0) :
    Calls Try.prog 21 #[.slice A m c, .agg cs, .int .i64 n] w fun e w' => e = .returned (.tuple #[]) ∧ w' = w.alloc (.cells cs 54) := by
  have hm : min n 128 = n := by omega
  go_enter Try.func21, Try.ntmps21
  go_wp2
  go_end0
  exact ⟨rfl, rfl⟩
end Go.Proofs.Ytlpnhikoipkjbaa
