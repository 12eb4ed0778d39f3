/- Several texts in one: RkA. -/
import Derived.Test.YthggliknnmhbdaaGreatMWAJ
import Derived.Test.YthggliknnmhbdaaGreatMWAR
import Derived.Test.YthggliknnmhbdaaGreatMWAV
/- The document's disk in one word. No program's walk. -/
namespace Go.Proofs.YthggliknnmhbdaaGreat
set_option maxRecDepth 100000
open Go.RowKit
set_option linter.unusedVariables false
/-- Of the memory that was there only that of some types has turned, and the blocks of X. -/
structure FarG (T : TypeId → Prop) (X : Nat → Prop) (w w' : World) : Prop where
  os : w'.os = w.os
  tape : w'.tape = w.tape
  output : w'.output = w.output
  size : w.heap.size ≤ w'.heap.size
  blk : ∀ k t cs, Blk w k t cs → ¬ T t → ¬ X k → Blk w' k t cs
section
variable {T : TypeId → Prop} {X : Nat → Prop} {a b c w w' : World}
theorem FarG.refl (T : TypeId → Prop) (X : Nat → Prop) (w : World) : FarG T X w w := ⟨rfl, rfl, rfl, Nat.le_refl _, fun _ _ _ h _ _ => h⟩
theorem FarG.trans (h : FarG T X a b) (k : FarG T X b c) : FarG T X a c := ⟨k.os.trans h.os, k.tape.trans h.tape, k.output.trans h.output, Nat.le_trans h.size k.size, fun i t cs hb ht hx => k.blk i t cs (h.blk i t cs hb ht hx) ht hx⟩
theorem FarG.of_only {S : Nat → Prop} (h : Only S w w') (hS : ∀ k, S k → X k ∨ ∀ t cs, Blk w k t cs → T t) : FarG T X w w' := ⟨h.os, h.tape, h.output, h.size, fun k t cs hb ht hx => h.blk hb (fun hs => by
  rcases hS k hs with h1 | h1
  · exact hx h1
  · exact ht (h1 t cs hb))⟩
theorem FarG.none (h : Only (fun _ => False) w w') : FarG T X w w' := FarG.of_only h (fun _ h => h.elim)
theorem FarG.mono {Y : Nat → Prop} (h : FarG T X w w') (hxy : ∀ k, X k → Y k) : FarG T Y w w' := ⟨h.os, h.tape, h.output, h.size, fun k t cs hb ht hy => h.blk k t cs hb ht (fun hx => hy (hxy k hx))⟩
theorem FarG.drewN (h : FarG T X a w) (n : Nat) : FarG T X a (w.drewN n) := ⟨h.os, h.tape, h.output, h.size, h.blk⟩
theorem FarG.drew (h : FarG T X a w) : FarG T X a w.drew := ⟨h.os, h.tape, h.output, h.size, h.blk⟩
theorem FarG.owns (h : FarG T X w w') {base : Nat} {e : TypeId} {size n : Nat} {v : Value} {xs : List Value} (ho : w.ownsRow base e size v n xs) (he : ¬ T e) (hv : ∀ k, v.ownBlock = some k → ¬ X k) : w'.ownsRow base e size v n xs := by
  refine ⟨ho.1, ?_⟩
  rcases ho.2 with hn | ⟨g, cap, cur, rfl, hb, hgg, rest⟩
  · exact .inl hn
  · exact .inr ⟨g, cap, cur, rfl, hb, h.blk g e cur hgg he (hv g rfl), rest⟩
end
theorem FarX.toG {X : Nat → Prop} {w w' : World} (h : FarX X w w') : FarG DT X w w' := ⟨h.os, h.tape, h.output, h.size, h.blk⟩
section
variable {w w' : World} {q gg n : Nat} {S : Dst} {c : Nat} {A : Option Addr} {c2 B m : Nat}
end
end Go.Proofs.YthggliknnmhbdaaGreat
