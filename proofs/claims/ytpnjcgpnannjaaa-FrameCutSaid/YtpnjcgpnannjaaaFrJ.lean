/- A row of frames that comes in. -/
import Derived.Test.YtpnjcgpnannjaaaFrI
namespace Go.Proofs.Ytpnjcgpnannjaaa
open Go.RowKit Go.ChangeShapes Go.WideShapes Go.Joins
set_option linter.unusedVariables false
theorem cell_block_lt {w : World} {a : Addr} {v : Value} (h : w.cell? a = some v) : a.block < w.heap.size := by
  rcases Nat.lt_or_ge a.block w.heap.size with hlt | hge
  · exact hlt
  · unfold World.cell? at h
    rw [Array.getElem?_eq_none hge] at h
    cases h
theorem open_frames {H : Type} {enc : TypeId × Value → H} {W : World} {base : Nat} {spare : Nat → Bool} {held : Bool} {fuel : Nat} {A : Option Addr} {len cap : Nat} {x : DataW H × List MemPlace}
    (h : DataW.trod enc Try.prog W base spare held fuel 36 [.slice A len cap] = some x) :
    ∃ xs : List (Nat × ByteArray), xs.length = len ∧ FRow W A xs ∧ len ≤ cap ∧ cap ≤ 9223372036854775807 ∧ ∀ p ∈ xs, p.1 < 256 ∧ p.2.size ≤ 9223372036854775807 := by
  rcases open_slice_fields Try.underlying36 Try.underlying31 (by kernel_rfl) frame_cells h with ⟨hcs, _⟩ | ⟨a, len', cap', m, D, Pl, hcs, _, hl, hm, hmm, _, hi⟩
  · simp at hcs
    obtain ⟨rfl, rfl, rfl⟩ := hcs
    exact ⟨[], rfl, ⟨fun k hk => by simp at hk⟩, Nat.le_refl _, by omega, by simp⟩
  · simp at hcs
    obtain ⟨rfl, rfl, rfl⟩ := hcs
    have hlm : len ≤ m := by rw [hmm]; split <;> omega
    have hex : ∀ i, i < len → ∃ p : Nat × ByteArray, (∃ g off, some a = some (⟨g, off, none⟩ : Addr) ∧ g < W.heap.size ∧ W.cell? ⟨g, off + i * 2, none⟩ = some (.int .u8 (p.1 : Int)) ∧ W.cell? ⟨g, off + i * 2 + 1, none⟩ = some (.string p.2)) ∧ p.1 < 256 ∧ p.2.size ≤ 9223372036854775807 := by
      intro i hil
      obtain ⟨ys, n, _, _, _, hf⟩ := hi i (by omega)
      obtain ⟨v0, y0, c0, _, d0⟩ := hf 0 _ rfl
      replace c0 : W.cell? (a.add (i * 2 + 0)) = some v0 := c0
      obtain ⟨v1, y1, c1, _, d1⟩ := hf 1 _ rfl
      replace c1 : W.cell? (a.add (i * 2 + 1)) = some v1 := c1
      obtain ⟨z0, e0, _, wz⟩ := DataW.trod_int Try.underlying5 d0
      obtain ⟨z1, e1, _, wy⟩ := DataW.trod_string Try.underlying9 d1
      simp only [List.cons.injEq, and_true] at e0 e1
      subst e0 e1
      have hb := bounds_u8 wz
      obtain ⟨b, off, spot⟩ := a
      have hspot : spot = none := by
        obtain ⟨ys', n', _, _, _, hf'⟩ := hi 0 (by omega)
        obtain ⟨v', y', c', _⟩ := hf' 0 _ rfl
        have hsp := World.cell?_spot c'
        simpa [Addr.add] using hsp
      subst hspot
      have hadd : ∀ k, (⟨b, off, none⟩ : Addr).add k = ⟨b, off + k, none⟩ := by intro k; unfold Addr.add; split <;> simp_all
      rw [hadd] at c0 c1
      refine ⟨(z0.toNat, z1), ⟨b, off, rfl, cell_block_lt c0, ?_, ?_⟩, by simp only; omega, by simpa [maxLen] using wy⟩
      · rw [Nat.add_zero] at c0
        rw [c0]
        simp only [Int.toNat_of_nonneg hb.1]
      · rw [← Nat.add_assoc] at c1
        exact c1
    obtain ⟨f, hf⟩ : ∃ f : Nat → Nat × ByteArray, ∀ i, i < len → (∃ g off, some a = some (⟨g, off, none⟩ : Addr) ∧ g < W.heap.size ∧ W.cell? ⟨g, off + i * 2, none⟩ = some (.int .u8 ((f i).1 : Int)) ∧ W.cell? ⟨g, off + i * 2 + 1, none⟩ = some (.string (f i).2)) ∧ (f i).1 < 256 ∧ (f i).2.size ≤ 9223372036854775807 :=
      ⟨fun i => if hi : i < len then (hex i hi).choose else (0, ⟨#[]⟩), fun i hi => by
        simp only [dif_pos hi]
        exact (hex i hi).choose_spec⟩
    refine ⟨(List.range len).map f, by simp, ⟨fun k hk => ?_⟩, hl, by simpa [maxLen] using hm, fun p hp => ?_⟩
    · have hk' : k < len := by simpa using hk
      simpa using (hf k hk').1
    · obtain ⟨i, hi, rfl⟩ := List.mem_map.1 hp
      exact (hf i (by simpa using hi)).2
end Go.Proofs.Ytpnjcgpnannjaaa
