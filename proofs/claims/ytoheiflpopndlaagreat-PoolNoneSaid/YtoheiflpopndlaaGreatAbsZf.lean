/- A run that comes to true whatever two plain values it is handed. No conditions. -/
import Derived.Test.YtoheiflpopndlaaGreatAbsZe
set_option linter.unusedVariables false
namespace Go.Proofs.YtoheiflpopndlaaGreat.Abs
open Go Go.RowKit
theorem run_true2 {P : Program} {J : FuncId → Bool} (fuel : Nat) (f : FuncId) (h : callF P J (execF P J fuel) .h f [.sym 0, .sym 1] .h .lf kTrue = some []) (u0 u1 : Value)
    (h0 : ∀ cs, u0 ≠ .agg cs ∧ u0 ≠ .tuple cs) (h1 : ∀ cs, u1 ≠ .agg cs ∧ u1 ≠ .tuple cs) (w : World) :
    Calls P f #[u0, u1] w fun e w' => e = .returned (.bool true) ∧ Below w.heap.size w w' := by
  rw [callF_eq, execF_eq] at h
  have hone : ∀ j : Nat, ∀ cs, (fun j : Nat => match j with | 0 => u0 | _ => u1) j ≠ .agg cs ∧ (fun j : Nat => match j with | 0 => u0 | _ => u1) j ≠ .tuple cs := by
    intro j cs
    cases j
    · exact h0 cs
    · exact h1 cs
  have hg : Good ⟨fun _ => none, fun j : Nat => match j with | 0 => u0 | _ => u1, hone⟩ .h (hp .lf) w := ⟨(fun b ao e => by rw [show hp .lf b = none from PT.get_lf b] at e; cases e), (fun b b' ao ao' k d x d' x' e => by rw [show hp .lf b = none from PT.get_lf b] at e; cases e), fun _ _ => rfl⟩
  refine ((callK_ok (J := J) (exec_both (drawOk P) fuel).1 .h f [.sym 0, .sym 1] .h .lf kTrue [] h (Nat.le_refl _)).2 _ w [u0, u1] hg rfl).mono ?_
  rintro e w' ⟨u, rfl, v, n', H', L', ρ', e1, h2, h3, h4⟩
  have hv : v = .bool true := by
    unfold kTrue at e1
    split at e1
    · rename_i b
      cases b
      · cases e1
      · rfl
    · cases e1
  subst hv
  injection h3 with h3
  subst h3
  refine ⟨rfl, h4.fr.os, h4.fr.tape, h4.fr.output, h4.fr.size, fun k hk => h4.fr.block k hk fun b ao d x e => ?_⟩
  rw [show hp .lf b = none from PT.get_lf b] at e
  cases e
end Go.Proofs.YtoheiflpopndlaaGreat.Abs
