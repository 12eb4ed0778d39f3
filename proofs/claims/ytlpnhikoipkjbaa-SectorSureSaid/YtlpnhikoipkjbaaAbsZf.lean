/- A run that comes to true whatever plain values it is handed; a run that answers a plain value. No conditions. -/
import Derived.Test.YtlpnhikoipkjbaaAbsZe
set_option linter.unusedVariables false
namespace Go.Proofs.Ytlpnhikoipkjbaa.Abs
open Go Go.RowKit
theorem empty_good {ρ : Ren} (h : ∀ b, ρ.at_ b = none) (w : World) : Good ρ .h (hp .lf) w :=
  ⟨(fun b ao e => by rw [show hp .lf b = none from PT.get_lf b] at e; cases e), (fun b b' ao ao' k d x d' x' e => by rw [show hp .lf b = none from PT.get_lf b] at e; cases e), fun b _ => h b⟩
theorem below_of_now {lim : Pos} {ρ ρ' : Ren} {n' : Pos} {H' : PT AO} {w w' : World} (h : Now lim ρ .h .lf w ρ' n' H' w') : Below w.heap.size w w' := by
  refine ⟨h.fr.os, h.fr.tape, h.fr.output, h.fr.size, fun k hk => h.fr.block k hk fun b ao d x e => ?_⟩
  rw [show hp .lf b = none from PT.get_lf b] at e
  cases e
theorem run_trueN {P : Program} {J : Plan} (hX : HookOk P J) (fuel : Nat) (f : FuncId) {us : List Value} (hne : ∀ u, u ∈ us → ∀ cs, u ≠ .agg cs ∧ u ≠ .tuple cs)
    (h : callF P J (execF P J fuel) .h f ((List.range us.length).map AV.sym) .h .lf kTrue = some []) (w : World) :
    Calls P f us.toArray w fun e w' => e = .returned (.bool true) ∧ Below w.heap.size w w' := by
  rw [callF_eq, execF_eq] at h
  have hone : ∀ j : Nat, ∀ cs, (fun j : Nat => us.getD j (.bool true)) j ≠ .agg cs ∧ (fun j : Nat => us.getD j (.bool true)) j ≠ .tuple cs := by
    intro j cs
    show us.getD j (.bool true) ≠ .agg cs ∧ us.getD j (.bool true) ≠ .tuple cs
    rw [List.getD_eq_getElem?_getD]
    cases hj : us[j]? with
    | none => exact ⟨(fun e => by cases e), (fun e => by cases e)⟩
    | some u => exact hne u (List.mem_of_getElem? hj) cs
  have hc : concs ⟨fun _ => none, fun j : Nat => us.getD j (.bool true), hone⟩ ((List.range us.length).map AV.sym) = some us := by
    refine concs_of (by simp) fun i hi => ?_
    have hi' : i < us.length := by simpa using hi
    refine ⟨.sym i, us[i], by simp [hi'], by simp [hi'], ?_⟩
    show some (us.getD i (.bool true)) = some us[i]
    rw [List.getD_eq_getElem?_getD, List.getElem?_eq_getElem hi']
    rfl
  refine (((callK_ok hX (exec_both hX (drawOk P) fuel).1 .h).1 f _ .h .lf kTrue [] h (Nat.le_refl _)).2 _ w us (empty_good (fun _ => rfl) w) hc).mono ?_
  rintro e w' ⟨u, rfl, v, n', H', L', ρ', e1, h2, h3, h4⟩
  have hv : v = .bool true := by
    unfold kTrue at e1
    split at e1
    · rename_i b
      cases b
      · cases e1
      · rfl
    · cases e1
  subst hv
  injection h3 with h3
  subst h3
  exact ⟨rfl, below_of_now h4⟩
/-- a run that comes to true, whatever plain values it is handed that are as the arguments say -/
theorem run_trueA {P : Program} {J : Plan} (hX : HookOk P J) (fuel : Nat) (f : FuncId) {us : List Value} (hne : ∀ u, u ∈ us → ∀ cs, u ≠ .agg cs ∧ u ≠ .tuple cs) (args : List AV) (hargs : ∀ ρ : Ren, ρ.sy = (fun j : Nat => us.getD j (.bool true)) → concs ρ args = some us)
    (h : callF P J (execF P J fuel) .h f args .h .lf kTrue = some []) (w : World) :
    Calls P f us.toArray w fun e w' => e = .returned (.bool true) ∧ Below w.heap.size w w' := by
  rw [callF_eq, execF_eq] at h
  have hone : ∀ j : Nat, ∀ cs, (fun j : Nat => us.getD j (.bool true)) j ≠ .agg cs ∧ (fun j : Nat => us.getD j (.bool true)) j ≠ .tuple cs := by
    intro j cs
    show us.getD j (.bool true) ≠ .agg cs ∧ us.getD j (.bool true) ≠ .tuple cs
    rw [List.getD_eq_getElem?_getD]
    cases hj : us[j]? with
    | none => exact ⟨(fun e => by cases e), (fun e => by cases e)⟩
    | some u => exact hne u (List.mem_of_getElem? hj) cs
  refine (((callK_ok hX (exec_both hX (drawOk P) fuel).1 .h).1 f _ .h .lf kTrue [] h (Nat.le_refl _)).2 ⟨fun _ => none, fun j : Nat => us.getD j (.bool true), hone⟩ w us (empty_good (fun _ => rfl) w) (hargs _ rfl)).mono ?_
  rintro e w' ⟨u, rfl, v, n', H', L', ρ', e1, h2, h3, h4⟩
  have hv : v = .bool true := by
    unfold kTrue at e1
    split at e1
    · rename_i b
      cases b
      · cases e1
      · rfl
    · cases e1
  subst hv
  injection h3 with h3
  subst h3
  exact ⟨rfl, below_of_now h4⟩
noncomputable def kIs (x v : AV) (n : Pos) (H : PT AO) : Res := Bool.rec none (some []) (eqVal x v)
/-- a run that answers that value, whatever plain values it is handed -/
theorem run_isN {P : Program} {J : Plan} (hX : HookOk P J) (fuel : Nat) (f : FuncId) {us : List Value} (hne : ∀ u, u ∈ us → ∀ cs, u ≠ .agg cs ∧ u ≠ .tuple cs) (args : List AV) (hargs : ∀ ρ : Ren, ρ.sy = (fun j : Nat => us.getD j (.bool true)) → ∃ vs, concs ρ args = some vs ∧ vs = us)
    (x : AV) (u : Value) (hx : ∀ ρ : Ren, ρ.sy = (fun j : Nat => us.getD j (.bool true)) → conc ρ x = some u)
    (h : callF P J (execF P J fuel) .h f args .h .lf (kIs x) = some []) (w : World) :
    Calls P f us.toArray w fun e w' => e = .returned u ∧ Below w.heap.size w w' := by
  rw [callF_eq, execF_eq] at h
  have hone : ∀ j : Nat, ∀ cs, (fun j : Nat => us.getD j (.bool true)) j ≠ .agg cs ∧ (fun j : Nat => us.getD j (.bool true)) j ≠ .tuple cs := by
    intro j cs
    show us.getD j (.bool true) ≠ .agg cs ∧ us.getD j (.bool true) ≠ .tuple cs
    rw [List.getD_eq_getElem?_getD]
    cases hj : us[j]? with
    | none => exact ⟨(fun e => by cases e), (fun e => by cases e)⟩
    | some u => exact hne u (List.mem_of_getElem? hj) cs
  obtain ⟨vs, hc, hvs⟩ := hargs ⟨fun _ => none, fun j : Nat => us.getD j (.bool true), hone⟩ rfl
  subst hvs
  refine (((callK_ok hX (exec_both hX (drawOk P) fuel).1 .h).1 f _ .h .lf (kIs x) [] h (Nat.le_refl _)).2 _ w vs (empty_good (fun _ => rfl) w) hc).mono ?_
  rintro e w' ⟨u', rfl, v, n', H', L', ρ', e1, h2, h3, h4⟩
  have hv : x = v := by
    unfold kIs at e1
    cases hq : eqVal x v with
    | true => exact eqVal_eq _ _ hq
    | false => rw [hq] at e1; cases e1
  subst hv
  rw [hx ρ' h4.fr.le.sy] at h3
  injection h3 with h3
  subst h3
  exact ⟨rfl, below_of_now h4⟩
theorem no_hook {P : Program} {j : FuncId → Bool} : HookOk P ⟨j, fun _ _ => none⟩ := fun f args v h => by cases h
end Go.Proofs.Ytlpnhikoipkjbaa.Abs
