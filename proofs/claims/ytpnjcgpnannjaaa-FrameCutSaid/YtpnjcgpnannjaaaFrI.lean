/- A frame that comes in by value. -/
import Derived.Test.YtpnjcgpnannjaaaFrH
import Derived.Lib.SmallJoins
namespace Go.Proofs.Ytpnjcgpnannjaaa
open Go.RowKit Go.ChangeShapes Go.WideShapes Go.Joins
set_option linter.unusedVariables false
theorem frame_cells : Try.prog.cellsOf 31 = 2 := by kernel_rfl
theorem open_frame {H : Type} {enc : TypeId × Value → H} {W : World} {r : Reach} {b0 base : Nat} {spare : Nat → Bool} {held : Bool} {v : Value} {d : DataW H} {p : List MemPlace}
    (hv : Value.okWide Try.prog W r b0 31 v) (h : ∃ n, DataW.trod enc Try.prog W base spare held n 31 v.cells.toList = some (d, p)) :
    ∃ (t : Nat) (s : ByteArray), v = .agg #[.int .u8 t, .string s] ∧ t < 256 ∧ s.size ≤ 9223372036854775807 := by
  obtain ⟨c0, c1, y0, y1, m, rfl, _, _, hy0, hy1⟩ := open_agg2 Try.underlying31 (by kernel_rfl) frame_cells hv h
  obtain ⟨a, e0, _, wa⟩ := DataW.trod_int Try.underlying5 hy0
  obtain ⟨s, e1, _, ws⟩ := DataW.trod_string Try.underlying9 hy1
  simp at e0 e1
  subst e0 e1
  have hb := bounds_u8 wa
  refine ⟨a.toNat, s, ?_, by omega, by simpa [maxLen] using ws⟩
  rw [Int.toNat_of_nonneg hb.1]
end Go.Proofs.Ytpnjcgpnannjaaa
