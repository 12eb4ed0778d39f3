/- Several texts in one: BkF. -/
import Derived.Test.YtmneflpjoaocbaaMBkE
import Derived.Test.YtmneflpjoaocbaaMDkR
/- Books: plain: sectors that are turned; memory but for a block. No program's walk. -/
namespace Go.Proofs.Ytmneflpjoaocbaa
open Go.RowKit
set_option linter.unusedVariables false
/-- Of the memory that was there only a disk's has turned, and the blocks of X. -/
structure FarX (X : Nat → Prop) (w w' : World) : Prop where
  os : w'.os = w.os
  tape : w'.tape = w.tape
  output : w'.output = w.output
  size : w.heap.size ≤ w'.heap.size
  blk : ∀ k t cs, Blk w k t cs → ¬ DT t → ¬ X k → Blk w' k t cs
section
variable {X : Nat → Prop} {a b c w w' : World}
theorem FarX.refl (X : Nat → Prop) (w : World) : FarX X w w := ⟨rfl, rfl, rfl, Nat.le_refl _, fun _ _ _ h _ _ => h⟩
theorem FarX.trans (h : FarX X a b) (k : FarX X b c) : FarX X a c := ⟨k.os.trans h.os, k.tape.trans h.tape, k.output.trans h.output, Nat.le_trans h.size k.size, fun i t cs hb ht hx => k.blk i t cs (h.blk i t cs hb ht hx) ht hx⟩
theorem FarX.far (h : Far w w') : FarX X w w' := ⟨h.os, h.tape, h.output, h.size, fun k t cs hb ht _ => h.blk k t cs hb ht⟩
theorem FarX.of_only {S : Nat → Prop} (h : Only S w w') (hS : ∀ k, S k → X k) : FarX X w w' := ⟨h.os, h.tape, h.output, h.size, fun k t cs hb _ hx => h.blk hb (fun hs => hx (hS k hs))⟩
theorem FarX.none (h : Only (fun _ => False) w w') : FarX X w w' := FarX.of_only h (fun _ h => h.elim)
theorem FarX.mono {Y : Nat → Prop} (h : FarX X w w') (hxy : ∀ k, X k → Y k) : FarX Y w w' := ⟨h.os, h.tape, h.output, h.size, fun k t cs hb ht hy => h.blk k t cs hb ht (fun hx => hy (hxy k hx))⟩
theorem FarX.drewN (h : FarX X a w) (n : Nat) : FarX X a (w.drewN n) := ⟨h.os, h.tape, h.output, h.size, h.blk⟩
theorem FarX.toFar (h : FarX (fun _ => False) w w') : Far w w' := ⟨h.os, h.tape, h.output, h.size, fun k t cs hb ht => h.blk k t cs hb ht (fun h => h)⟩
/-- what was turned was not there ahead -/
theorem FarX.new (h : FarX X w w') (hX : ∀ k, X k → w.heap.size ≤ k) : Far w w' := ⟨h.os, h.tape, h.output, h.size, fun k t cs hb ht => h.blk k t cs hb ht (fun hx => by have := hX k hx; have := hb.lt; omega)⟩
theorem FarX.owns (h : FarX X w w') {base : Nat} {e : TypeId} {size n : Nat} {v : Value} {xs : List Value} (ho : w.ownsRow base e size v n xs) (he : ¬ DT e) (hv : ∀ k, v.ownBlock = some k → ¬ X k) : w'.ownsRow base e size v n xs := by
  refine ⟨ho.1, ?_⟩
  rcases ho.2 with hn | ⟨g, cap, cur, rfl, hb, hgg, rest⟩
  · exact .inl hn
  · exact .inr ⟨g, cap, cur, rfl, hb, h.blk g e cur hgg he (hv g rfl), rest⟩
end
theorem nDT_string : ¬ DT 9 := fun h => by rcases h with h | h | h <;> revert h <;> decide
theorem nDT_strings : ¬ DT 24 := fun h => by rcases h with h | h | h <;> revert h <;> decide
theorem nDT_part : ¬ DT 46 := fun h => by rcases h with h | h | h <;> revert h <;> decide
theorem nDT_Book : ¬ DT 48 := fun h => by rcases h with h | h | h <;> revert h <;> decide
/-- sectors, from the k-th on, are made what is wanted: the error; the disk; the sectors; was one another one? -/
def turnFrom (n f : Nat) (wf : Nat → List UInt8 → List UInt8) : Nat → List (List UInt8) → Dst → Int × Dst × List (List UInt8) × Bool
  | _, [], S => (0, S, [], false)
  | k, t :: r, S =>
    if wf k t = t then
      let x := turnFrom n f wf (k + 1) r S
      (x.1, x.2.1, t :: x.2.2.1, x.2.2.2)
    else
      let y := wrS n S ((f : Int) + (k : Int)) (wf k t)
      if y.1 = 0 then
        let x := turnFrom n f wf (k + 1) r y.2
        (x.1, x.2.1, wf k t :: x.2.2.1, true)
      else (y.1, y.2, t :: r, true)
def turnS (n f : Nat) (wf : Nat → List UInt8 → List UInt8) (ts : List (List UInt8)) (S : Dst) : Int × Dst × List (List UInt8) :=
  let x := turnFrom n f wf 0 ts S
  if x.1 = 0 then
    if x.2.2.2 then ((syS x.2.1).1, (syS x.2.1).2, x.2.2.1) else (0, x.2.1, x.2.2.1)
  else (x.1, x.2.1, x.2.2.1)
/-- what is done, and what follows -/
def combT (done : List (List UInt8)) (b : Bool) (x : Int × Dst × List (List UInt8) × Bool) : Int × Dst × List (List UInt8) × Bool := (x.1, x.2.1, done ++ x.2.2.1, b || x.2.2.2)
theorem combT_nil (x : Int × Dst × List (List UInt8) × Bool) : combT [] false x = x := by simp [combT]
theorem combT_same {n f : Nat} {wf : Nat → List UInt8 → List UInt8} {done : List (List UInt8)} {b : Bool} {k : Nat} {t : List UInt8} {r : List (List UInt8)} {S : Dst} (h : wf k t = t) :
    combT done b (turnFrom n f wf k (t :: r) S) = combT (done ++ [t]) b (turnFrom n f wf (k + 1) r S) := by
  simp [turnFrom, h, combT]
theorem combT_turn {n f : Nat} {wf : Nat → List UInt8 → List UInt8} {done : List (List UInt8)} {b : Bool} {k : Nat} {t : List UInt8} {r : List (List UInt8)} {S : Dst} (h : ¬ wf k t = t) (h0 : (wrS n S ((f : Int) + (k : Int)) (wf k t)).1 = 0) :
    combT done b (turnFrom n f wf k (t :: r) S) = combT (done ++ [wf k t]) true (turnFrom n f wf (k + 1) r (wrS n S ((f : Int) + (k : Int)) (wf k t)).2) := by
  simp [turnFrom, h, h0, combT]
theorem combT_err {n f : Nat} {wf : Nat → List UInt8 → List UInt8} {done : List (List UInt8)} {b : Bool} {k : Nat} {t : List UInt8} {r : List (List UInt8)} {S : Dst} (h : ¬ wf k t = t) (h0 : ¬ (wrS n S ((f : Int) + (k : Int)) (wf k t)).1 = 0) :
    combT done b (turnFrom n f wf k (t :: r) S) = ((wrS n S ((f : Int) + (k : Int)) (wf k t)).1, (wrS n S ((f : Int) + (k : Int)) (wf k t)).2, done ++ t :: r, true) := by
  simp [turnFrom, h, h0, combT]
theorem strsV_set (done : List (List UInt8)) (t x : List UInt8) (r : List (List UInt8)) : (strsV (done ++ t :: r)).set done.length (.string (sB x)) = strsV (done ++ [x] ++ r) := by
  simp [strsV]
end Go.Proofs.Ytmneflpjoaocbaa
