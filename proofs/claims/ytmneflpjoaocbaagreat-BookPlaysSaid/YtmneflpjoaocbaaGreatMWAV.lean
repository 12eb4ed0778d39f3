/- Several texts in one: RkA. -/
import Derived.Test.YtmneflpjoaocbaaGreatMWAJ
import Derived.Test.YtmneflpjoaocbaaGreatMWAR
import Derived.Test.YtmneflpjoaocbaaGreatMWAU
/- The document's disk in one word. No program's walk. -/
namespace Go.Proofs.YtmneflpjoaocbaaGreat
set_option maxRecDepth 100000
open Go.RowKit
set_option linter.unusedVariables false
/-- Of the memory that was there only that of some types has turned, and the blocks of X. -/
structure FarG (T : TypeId → Prop) (X : Nat → Prop) (w w' : World) : Prop where
  os : w'.os = w.os
  tape : w'.tape = w.tape
  output : w'.output = w.output
  size : w.heap.size ≤ w'.heap.size
  blk : ∀ k t cs, Blk w k t cs → ¬ T t → ¬ X k → Blk w' k t cs
section
variable {T : TypeId → Prop} {X : Nat → Prop} {a b c w w' : World}
theorem FarG.refl (T : TypeId → Prop) (X : Nat → Prop) (w : World) : FarG T X w w := ⟨rfl, rfl, rfl, Nat.le_refl _, fun _ _ _ h _ _ => h⟩
theorem FarG.trans (h : FarG T X a b) (k : FarG T X b c) : FarG T X a c := ⟨k.os.trans h.os, k.tape.trans h.tape, k.output.trans h.output, Nat.le_trans h.size k.size, fun i t cs hb ht hx => k.blk i t cs (h.blk i t cs hb ht hx) ht hx⟩
theorem FarG.of_only {S : Nat → Prop} (h : Only S w w') (hS : ∀ k, S k → X k ∨ ∀ t cs, Blk w k t cs → T t) : FarG T X w w' := ⟨h.os, h.tape, h.output, h.size, fun k t cs hb ht hx => h.blk hb (fun hs => by
  rcases hS k hs with h1 | h1
  · exact hx h1
  · exact ht (h1 t cs hb))⟩
theorem FarG.none (h : Only (fun _ => False) w w') : FarG T X w w' := FarG.of_only h (fun _ h => h.elim)
theorem FarG.mono {Y : Nat → Prop} (h : FarG T X w w') (hxy : ∀ k, X k → Y k) : FarG T Y w w' := ⟨h.os, h.tape, h.output, h.size, fun k t cs hb ht hy => h.blk k t cs hb ht (fun hx => hy (hxy k hx))⟩
theorem FarG.drewN (h : FarG T X a w) (n : Nat) : FarG T X a (w.drewN n) := ⟨h.os, h.tape, h.output, h.size, h.blk⟩
theorem FarG.drew (h : FarG T X a w) : FarG T X a w.drew := ⟨h.os, h.tape, h.output, h.size, h.blk⟩
theorem FarG.owns (h : FarG T X w w') {base : Nat} {e : TypeId} {size n : Nat} {v : Value} {xs : List Value} (ho : w.ownsRow base e size v n xs) (he : ¬ T e) (hv : ∀ k, v.ownBlock = some k → ¬ X k) : w'.ownsRow base e size v n xs := by
  refine ⟨ho.1, ?_⟩
  rcases ho.2 with hn | ⟨g, cap, cur, rfl, hb, hgg, rest⟩
  · exact .inl hn
  · exact .inr ⟨g, cap, cur, rfl, hb, h.blk g e cur hgg he (hv g rfl), rest⟩
end
theorem FarX.toG {X : Nat → Prop} {w w' : World} (h : FarX X w w') : FarG DT X w w' := ⟨h.os, h.tape, h.output, h.size, h.blk⟩
/-- the types of the document's disk, but for its sectors -/
def RT (t : TypeId) : Prop := t = 47 ∨ t = 132
theorem nRT_string : ¬ RT 9 := fun h => by rcases h with h | h <;> revert h <;> decide
/-- loose writes of the document, as values -/
def rwL (l : List (Nat × List UInt8)) : List Value := l.flatMap fun x => [.int .i64 (x.1 : Int), .string (sB x.2)]
theorem rwL_snoc (l : List (Nat × List UInt8)) (x : Nat × List UInt8) : rwL (l ++ [x]) = rwL l ++ [.int .i64 (x.1 : Int), .string (sB x.2)] := by simp [rwL]
theorem rwL_at : ∀ (l : List (Nat × List UInt8)) (k : Nat) (x : Nat × List UInt8), l[k]? = some x → (rwL l)[k * 2]? = some (.int .i64 (x.1 : Int)) ∧ (rwL l)[k * 2 + 1]? = some (.string (sB x.2))
  | [], k, x, h => by simp at h
  | y :: l, 0, x, h => by simp at h; subst h; exact ⟨rfl, rfl⟩
  | y :: l, k + 1, x, h => by
    have := rwL_at l k x (by simpa using h)
    have e : rwL (y :: l) = .int .i64 (y.1 : Int) :: .string (sB y.2) :: rwL l := rfl
    rw [e, show (k + 1) * 2 = k * 2 + 1 + 1 by omega]
    simpa using this
def fuV : Option Nat → Int
  | none => -1
  | some k => (k : Int)
/-- the document's disk at q; its sectors' row: gg -/
structure RAt (w : World) (q gg n : Nat) (S : Dst) (c : Nat) (A : Option Addr) (c2 B : Nat) : Prop where
  blk : Blk w q 47 #[.slice (some ⟨gg, 0, none⟩) n c, .slice A S.l.length c2, .int .i64 (fuV S.fu)]
  good : w.ownsRow B 9 1 (.slice (some ⟨gg, 0, none⟩) n c) n (strsV S.g)
  own : w.ownsRow B 132 2 (.slice A S.l.length c2) S.l.length (rwL S.l)
  lo : B ≤ q
  ok : SecOk n S.l S.g
def RkS (w : World) (q gg n : Nat) (S : Dst) (B m : Nat) : Prop :=
  (1 ≤ n ∧ n ≤ 4096 ∧ m ≤ 1000000 ∧ S.l.length ≤ m) ∧ (∀ k : Nat, S.fu = some k → (k : Int) ≤ 9223372036854775807) ∧ ∃ c A c2, RAt w q gg n S c A c2 B
section
variable {w w' : World} {q gg n : Nat} {S : Dst} {c : Nat} {A : Option Addr} {c2 B m : Nat}
theorem RAt.only (h : RAt w q gg n S c A c2 B) (o : Only (fun _ => False) w w') : RAt w' q gg n S c A c2 B := ⟨o.blk h.blk (fun h => h), o.owns h.good (fun _ _ h => h), o.owns h.own (fun _ _ h => h), h.lo, h.ok⟩
theorem RkS.only (h : RkS w q gg n S B m) (o : Only (fun _ => False) w w') : RkS w' q gg n S B m := by
  obtain ⟨h1, h2, c, A, c2, h⟩ := h
  exact ⟨h1, h2, c, A, c2, h.only o⟩
theorem RkS.more {m' : Nat} (h : RkS w q gg n S B m) (h1 : m ≤ m') (h2 : m' ≤ 1000000) : RkS w q gg n S B m' := by
  obtain ⟨⟨a1, a2, a3, a4⟩, b, c, A, c2, h⟩ := h
  exact ⟨⟨a1, a2, h2, by omega⟩, b, c, A, c2, h⟩
theorem RAt.lts (h : RAt w q gg n S c A c2 B) (hn : 1 ≤ n) : gg < w.heap.size ∧ q < w.heap.size ∧ B ≤ gg := by
  obtain ⟨g, cap, hv, h1, h2, _⟩ := own_cells h.good hn
  injection hv with e1
  injection e1 with e1
  injection e1 with e1
  subst e1
  exact ⟨h2, h.blk.lt, h1⟩
/-- what turns other types of memory leaves it -/
theorem RAt.far {T : TypeId → Prop} {X : Nat → Prop} (h : RAt w q gg n S c A c2 B) (f : FarG T X w w') (t1 : ¬ T 47) (t2 : ¬ T 9) (t3 : ¬ T 132) (x1 : ¬ X q) (x2 : ¬ X gg) (x3 : ∀ k, (Value.slice A S.l.length c2).ownBlock = some k → ¬ X k) : RAt w' q gg n S c A c2 B :=
  ⟨f.blk _ _ _ h.blk t1 x1, f.owns h.good t2 (fun k hk => by
    have e : k = gg := by simpa [Value.ownBlock] using hk.symm
    rw [e]; exact x2), f.owns h.own t3 x3, h.lo, h.ok⟩
theorem fuV_zero (S : Dst) : (fuV S.fu = 0) ↔ S.still = true := by
  unfold fuV Dst.still
  cases S.fu with
  | none => simp
  | some k => simp
end
end Go.Proofs.YtmneflpjoaocbaaGreat
