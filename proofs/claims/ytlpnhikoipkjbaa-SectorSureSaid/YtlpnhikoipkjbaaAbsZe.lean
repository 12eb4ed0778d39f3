/- A closed run that comes to true. No conditions. -/
import Derived.Test.YtlpnhikoipkjbaaAbsS
import Derived.Test.YtlpnhikoipkjbaaAbsZd
set_option linter.unusedVariables false
namespace Go.Proofs.Ytlpnhikoipkjbaa.Abs
open Go Go.RowKit
noncomputable def kTrue (v : AV) (n : Pos) (H : PT AO) : Res := match v with | .bool b => Bool.rec none (some []) b | _ => none
theorem run_true {P : Program} {J : Plan} (hX : HookOk P J) (fuel : Nat) (f : FuncId) (h : callF P J (execF P J fuel) .h f [] .h .lf kTrue = some []) (w : World) :
    Calls P f #[] w fun e w' => e = .returned (.bool true) ∧ Below w.heap.size w w' := by
  rw [callF_eq, execF_eq] at h
  have hone : ∀ j : Nat, ∀ cs, (fun _ : Nat => Value.bool true) j ≠ .agg cs ∧ (fun _ : Nat => Value.bool true) j ≠ .tuple cs := fun j cs => ⟨(fun e => by cases e), (fun e => by cases e)⟩
  have hg : Good ⟨fun _ => none, fun _ => .bool true, hone⟩ .h (hp .lf) w := ⟨(fun b ao e => by rw [show hp .lf b = none from PT.get_lf b] at e; cases e), (fun b b' ao ao' k d x d' x' e => by rw [show hp .lf b = none from PT.get_lf b] at e; cases e), fun _ _ => rfl⟩
  refine (((callK_ok hX (exec_both hX (drawOk P) fuel).1 .h).1 f [] .h .lf kTrue [] h (Nat.le_refl _)).2 _ w [] hg rfl).mono ?_
  rintro e w' ⟨u, rfl, v, n', H', L', ρ', h1, h2, h3, h4⟩
  have hv : v = .bool true := by
    unfold kTrue at h1
    split at h1
    · rename_i b
      cases b
      · cases h1
      · rfl
    · cases h1
  subst hv
  injection h3 with h3
  subst h3
  refine ⟨rfl, h4.fr.os, h4.fr.tape, h4.fr.output, h4.fr.size, fun k hk => h4.fr.block k hk fun b ao d x e => ?_⟩
  rw [show hp .lf b = none from PT.get_lf b] at e
  cases e
end Go.Proofs.Ytlpnhikoipkjbaa.Abs
