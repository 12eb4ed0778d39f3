/- Several texts in one: FrU, FrX, FrR, FrG, FrP. -/
import Derived.Test.YtmneflpjoaocbaaGreatMWAD
import Derived.Test.YtmneflpjoaocbaaGreatMWAA
import Derived.SliceStrings
import Derived.Test.YtmneflpjoaocbaaGreatMWAB
/- The walk of thresherlaw04.same. -/
namespace Go.Proofs.YtmneflpjoaocbaaGreat
set_option maxRecDepth 100000
open Go.RowKit
set_option linter.unusedVariables false
attribute [local simp] frOf dstsOf frGo predsHold allHold Region.binds slotOf seen Is Act.put

/-- a row of frames that may be read -/
structure FRow (w : World) (A : Option Addr) (xs : List (Nat × ByteArray)) : Prop where
  at_ : ∀ k (h : k < xs.length), ∃ g off, A = some ⟨g, off, none⟩ ∧ g < w.heap.size ∧ w.cell? ⟨g, off + k * 2, none⟩ = some (.int .u8 (xs[k].1 : Int)) ∧ w.cell? ⟨g, off + k * 2 + 1, none⟩ = some (.string xs[k].2)
theorem FRow.below {w w' : World} {A : Option Addr} {xs : List (Nat × ByteArray)} (h : FRow w A xs) (hb : Below w.heap.size w w') : FRow w' A xs :=
  ⟨fun k hk => by
    obtain ⟨g, off, h1, h2, h3, h4⟩ := h.at_ k hk
    exact ⟨g, off, h1, Nat.lt_of_lt_of_le h2 hb.size, (hb.cell (p := ⟨g, off + k * 2, none⟩) h2).trans h3, (hb.cell (p := ⟨g, off + k * 2 + 1, none⟩) h2).trans h4⟩⟩
theorem fcells_at (l : List (Nat × ByteArray)) : ∀ (k : Nat) (h : k < l.length), (fcells l)[k * 2]? = some (.int .u8 (l[k].1 : Int)) ∧ (fcells l)[k * 2 + 1]? = some (.string l[k].2) := by
  induction l with
  | nil => intro k h; simp at h
  | cons a l ih =>
    intro k h
    have e : fcells (a :: l) = .int .u8 (a.1 : Int) :: .string a.2 :: fcells l := rfl
    rw [e]
    cases k with
    | zero => exact ⟨rfl, rfl⟩
    | succ k =>
      have := ih k (by simpa using h)
      rw [show (k + 1) * 2 = k * 2 + 2 by omega]
      simpa using this
theorem FRow.of_own {w : World} {base n cap : Nat} {A : Option Addr} {xs : List (Nat × ByteArray)} (h : w.ownsRow base 91 2 (.slice A n cap) xs.length (fcells xs)) : FRow w A xs :=
  ⟨fun k hk => by
    obtain ⟨g, c, hv, _, hlt⟩ := h.form (by omega)
    injection hv with hA hn hc
    subst hA
    obtain ⟨h1, h2⟩ := fcells_at xs k hk
    refine ⟨g, 0, rfl, hlt, ?_, ?_⟩
    · have := h.cells (g := g) rfl (k * 2) _ h1
      rw [Nat.zero_add]
      rcases Nat.eq_zero_or_pos (k * 2) with h0 | h0
      · rw [h0] at this ⊢; simpa [Addr.add] using this
      · rw [show (⟨g, 0, none⟩ : Addr).add (k * 2) = ⟨g, k * 2, none⟩ by simp [Addr.add]; omega] at this; exact this
    · have := h.cells (g := g) rfl (k * 2 + 1) _ h2
      rw [Nat.zero_add]
      rw [show (⟨g, 0, none⟩ : Addr).add (k * 2 + 1) = ⟨g, k * 2 + 1, none⟩ by simp [Addr.add]] at this; exact this⟩

end Go.Proofs.YtmneflpjoaocbaaGreat
/- What the frames of alive are, reckoned. -/
namespace Go.Proofs.YtmneflpjoaocbaaGreat
set_option maxRecDepth 100000
open Go.RowKit
set_option linter.unusedVariables false
end Go.Proofs.YtmneflpjoaocbaaGreat
/- FrameReads: its walk. -/
namespace Go.Proofs.YtmneflpjoaocbaaGreat
set_option maxRecDepth 100000
open Go.RowKit
set_option linter.unusedVariables false

end Go.Proofs.YtmneflpjoaocbaaGreat
/- FrameWrites: its walk. -/
namespace Go.Proofs.YtmneflpjoaocbaaGreat
set_option maxRecDepth 100000
open Go.RowKit
set_option linter.unusedVariables false

theorem textRow_open {w : World} {a : Addr} {len : Nat} {ss : List ByteArray} (h : ∀ i, i < ss.length → w.cell? (a.add i) = some (.string (ss.getD i ByteArray.empty))) (hlen : len ≤ ss.length) : TextRow w (some a) (ss.take len) := by
  refine ⟨fun j hj => ?_⟩
  have hj' : j < ss.length := by rw [List.length_take] at hj; omega
  have h0 := h 0 (by omega)
  have hs : a.spot = none := by
    unfold World.cell? Addr.add at h0
    simp only [if_true] at h0
    split at h0
    · split at h0
      · cases h0
      · rename_i hsp
        simpa using hsp
    · cases h0
  have hb : a.block < w.heap.size := by
    have h1 := h 0 (by omega)
    rcases Nat.lt_or_ge a.block w.heap.size with hlt | hge
    · exact hlt
    · unfold World.cell? at h1
      rw [block_of_add, Array.getElem?_eq_none hge] at h1
      cases h1
  obtain ⟨b, o, sp⟩ := a
  simp only at hs hb
  subst hs
  refine ⟨b, o, rfl, hb, ?_⟩
  have h1 := h j hj'
  rw [show (⟨b, o, none⟩ : Addr).add j = ⟨b, o + j, none⟩ by unfold Addr.add; split <;> simp_all] at h1
  rw [h1]
  simp [List.getD, List.getElem?_eq_getElem hj']
section
open Go.ChangeShapes Go.WideShapes
theorem open_texts {H : Type} {enc : TypeId × Value → H} {W : World} {base : Nat} {spare : Nat → Bool} {held : Bool} {fuel : Nat} {A : Option Addr} {len cap : Nat} {x : DataW H × List MemPlace}
    (h : DataW.trod enc Tryz.prog W base spare held fuel 38 [.slice A len cap] = some x) :
    ∃ xs : List ByteArray, xs.length = len ∧ TextRow W A xs ∧ len ≤ cap ∧ cap ≤ 9223372036854775807 ∧ ∀ x ∈ xs, x.size ≤ 9223372036854775807 := by
  rcases open_strings Tryz.underlying38 Tryz.underlying9 (by kernel_rfl) h with ⟨hcs, _⟩ | ⟨a, len', cap', ss, hcs, _, hl, hm, hz, _, hcell, hws⟩
  · simp only [List.cons.injEq, Value.slice.injEq, and_true] at hcs
    obtain ⟨rfl, rfl, rfl⟩ := hcs
    exact ⟨[], rfl, ⟨fun k hk => by simp at hk⟩, Nat.le_refl _, by omega, by simp⟩
  · simp only [List.cons.injEq, Value.slice.injEq, and_true] at hcs
    obtain ⟨rfl, rfl, rfl⟩ := hcs
    have hle : len ≤ ss.length := by rw [hz]; split <;> omega
    refine ⟨ss.take len, by rw [List.length_take]; omega, textRow_open hcell hle, hl, by simpa [maxLen] using hm, fun y hy => by simpa [maxLen] using hws y (List.mem_of_mem_take hy)⟩
end
end Go.Proofs.YtmneflpjoaocbaaGreat
/- What is read of a frame, plain: whole, cut, with bits turned. -/
namespace Go.Proofs.YtmneflpjoaocbaaGreat
set_option maxRecDepth 100000
open Go.RowKit
set_option linter.unusedVariables false

namespace Var
end Var

end Go.Proofs.YtmneflpjoaocbaaGreat
