/- Several texts in one: Sc. -/
import Derived.Test.YthggliknnmhbdaaGreatMWAA
/- A region that draws its order, by which operations have been done: what has been done holds all that it stands behind. A chain of worlds. No conditions. -/
namespace Go.Proofs.YthggliknnmhbdaaGreat
set_option maxRecDepth 100000
open Go.RowKit
set_option linter.unusedVariables false
/-- what has been done holds all that it stands behind -/
def Closed (ops : Array Oper) (ld : Nat → Bool) : Prop := ∀ j o, ops[j]? = some o → ld j = true → edgesDone ld o.after.toList
theorem edgesDone_mono {ld : Nat → Bool} {i : Nat} : ∀ (es : List Edge), edgesDone ld es → edgesDone (ldW ld i) es
  | [], _ => trivial
  | e :: es, h => by
    refine ⟨?_, edgesDone_mono es h.2⟩
    have h1 := h.1
    split
    · rename_i hb
      rw [if_pos hb] at h1
      unfold ldW
      split
      · rfl
      · exact h1
    · trivial
theorem Closed.step {ops : Array Oper} {ld : Nat → Bool} {i : Nat} {o : Oper} (h : Closed ops ld) (ho : ops[i]? = some o) (he : edgesDone ld o.after.toList) : Closed ops (ldW ld i) := by
  intro j o' ho' hj
  by_cases hij : j = i
  · subst hij
    rw [ho] at ho'
    injection ho' with ho'
    subst ho'
    exact edgesDone_mono _ he
  · refine edgesDone_mono _ (h j o' ho' ?_)
    simpa [ldW, hij] using hj
/-- One operation's part. -/
def ScStep (P : Program) (ops : Array Oper) (Q : Exit → Act → World → Prop) (St : (Nat → Bool) → World → Prop) (V : List (Value → World → Prop)) (a : Act) (i : Nat) (o : Oper) : Prop :=
  ∀ (ld : Nat → Bool) (u : Nat → Value) (w1 : World), ld i = false → edgesDone ld o.after.toList → Closed ops ld → St ld w1 → predsHold ops V u w1 o.after.toList →
    ∀ K : Act → World → Prop, (∀ v w2, St (ldW ld i) w2 → V.getD i (fun _ _ => True) (seen o.dst v) w2 → K ((⟨frOf ops u a.tmps, a.defers⟩ : Act).put o.dst v) w2) →
      if Region.wanted o (yielded ops (frOf ops u a.tmps)) = true then o.wp P ⟨frOf ops u a.tmps, a.defers⟩ w1 K Q else St (ldW ld i) w1 ∧ V.getD i (fun _ _ => True) undef w1
def ScSteps (P : Program) (ops : Array Oper) (Q : Exit → Act → World → Prop) (St : (Nat → Bool) → World → Prop) (V : List (Value → World → Prop)) (a : Act) : Nat → List Oper → Prop
  | _, [] => True
  | i, o :: os => ScStep P ops Q St V a i o ∧ ScSteps P ops Q St V a (i + 1) os
section
variable {P : Program} {ops : Array Oper} {Q : Exit → Act → World → Prop} {St : (Nat → Bool) → World → Prop} {V : List (Value → World → Prop)} {a : Act} {w : World}
theorem ScSteps.to : ∀ (l : List Oper) (k : Nat), (∀ i o, l[i]? = some o → ops[k + i]? = some o) → ScSteps P ops Q St V a k l → StSteps P ops Q (fun ld y => Closed ops ld ∧ St ld y) V a k l
  | [], _, _, _ => trivial
  | o :: l, k, hl, hs => by
    have ho : ops[k]? = some o := by simpa using hl 0 o rfl
    refine ⟨fun ld u w1 hi he hS hp K hK => ?_, ScSteps.to l (k + 1) (fun i o' h => by
      have := hl (i + 1) o' (by simpa using h)
      rwa [show k + 1 + i = k + (i + 1) by omega]) hs.2⟩
    have hc := hS.1.step ho he
    have h := hs.1 ld u w1 hi he hS.1 hS.2 hp K (fun v w2 h1 h2 => hK v w2 ⟨hc, h1⟩ h2)
    split at h
    · rename_i hw
      rw [if_pos hw]
      exact h
    · rename_i hw
      rw [if_neg hw]
      exact ⟨⟨hc, h.1⟩, h.2⟩
end
/-- A chain of worlds: the first operation that turns the world, what is there behind it, and so on. -/
def StC : World → List (Nat × World) → (Nat → Bool) → World → Prop
  | W, [], _, y => y = W
  | W, (i, W1) :: r, ld, y => if ld i = true then StC W1 r ld y else (y = W ∧ ∀ x ∈ r, ld x.1 = false)
theorem StC.start : ∀ (W : World) (l : List (Nat × World)), StC W l (fun _ => false) W
  | W, [] => rfl
  | W, (i, W1) :: r => by simp [StC]
end Go.Proofs.YthggliknnmhbdaaGreat
