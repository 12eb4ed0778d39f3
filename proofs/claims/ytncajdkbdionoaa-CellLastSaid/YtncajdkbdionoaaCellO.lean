/- How a script that comes in lies in memory. -/
import Derived.Test.YtncajdkbdionoaaCellB
import Derived.ProofKit
import Derived.OpenShut
namespace Go.Proofs.Ytncajdkbdionoaa
open Go.ChangeShapes Go.WideShapes Go.ChangeAt Go.RowKit
set_option linter.unusedVariables false
theorem cellsStep : Try.prog.cellsOf 32 = 5 := by kernel_rfl
theorem cellsI : Try.prog.cellsOf 2 = 1 := by kernel_rfl

theorem open_script {H : Type} {enc : TypeId × Value → H} {W : World} {base : Nat} {spare : Nat → Bool} {held : Bool} {fuel : Nat} {a0 : Option Addr} {len cap : Nat} {x : DataW H × List MemPlace}
    (h : DataW.trod enc Try.prog W base spare held fuel 22 [.slice a0 len cap] = some x) : ∃ ss : List SD, ss.length = len ∧ Scr W W.heap.size a0 ss ∧ len ≤ maxLen := by
  rcases open_slice_fields Try.underlying22 Try.underlying32 (by kernel_rfl) cellsStep h with ⟨hcs, _⟩ | ⟨a, len', cap', m, D, Pl, hcs, _, hl, hm, hmm, _, hi⟩
  · simp at hcs
    obtain ⟨rfl, rfl, rfl⟩ := hcs
    exact ⟨[], rfl, fun i s hs => by simp at hs, by simp [maxLen]⟩
  · simp at hcs
    obtain ⟨rfl, rfl, rfl⟩ := hcs
    have hlm : len ≤ m := by rw [hmm]; split <;> omega
    have hex : ∀ i, i < len → ∃ s : SD, ∃ b off, some a = some (⟨b, off, none⟩ : Addr) ∧ b < W.heap.size ∧ W.cell? ⟨b, off + i * 5, none⟩ = some (.int .i64 s.kind) ∧ W.cell? ⟨b, off + i * 5 + 1, none⟩ = some (.int .i64 s.place) ∧
        W.cell? ⟨b, off + i * 5 + 2, none⟩ = some (.int .i64 s.val) ∧ W.cell? ⟨b, off + i * 5 + 3, none⟩ = some (.int .i64 s.old) ∧ W.cell? ⟨b, off + i * 5 + 4, none⟩ = some (.slice s.la s.list.length s.lc) ∧
        Reads W W.heap.size 1 s.la s.list.length (s.list.map (.int .i64)) ∧ s.list.length ≤ s.lc ∧ s.lc ≤ maxLen := by
      intro i hil
      obtain ⟨ys, n, _, _, _, hf⟩ := hi i (by omega)
      obtain ⟨v0, y0, c0, _, d0⟩ := hf 0 _ rfl
      replace c0 : W.cell? (a.add (i * 5 + 0)) = some v0 := c0
      obtain ⟨v1, y1, c1, _, d1⟩ := hf 1 _ rfl
      replace c1 : W.cell? (a.add (i * 5 + 1)) = some v1 := c1
      obtain ⟨v2, y2, c2, _, d2⟩ := hf 2 _ rfl
      replace c2 : W.cell? (a.add (i * 5 + 2)) = some v2 := c2
      obtain ⟨v3, y3, c3, _, d3⟩ := hf 3 _ rfl
      replace c3 : W.cell? (a.add (i * 5 + 3)) = some v3 := c3
      obtain ⟨v4, y4, c4, _, d4⟩ := hf 4 _ rfl
      replace c4 : W.cell? (a.add (i * 5 + 4)) = some v4 := c4
      obtain ⟨z0, e0, _⟩ := DataW.trod_int Try.underlying3 d0
      obtain ⟨z1, e1, _⟩ := DataW.trod_int Try.underlying3 d1
      obtain ⟨z2, e2, _⟩ := DataW.trod_int Try.underlying2 d2
      obtain ⟨z3, e3, _⟩ := DataW.trod_int Try.underlying2 d3
      simp only [List.cons.injEq, and_true] at e0 e1 e2 e3
      subst e0 e1 e2 e3
      obtain ⟨b, off, spot⟩ := a
      have hspot : spot = none := by
        obtain ⟨ys', n', _, _, _, hf'⟩ := hi 0 (by omega)
        obtain ⟨v', y', c', _⟩ := hf' 0 _ rfl
        have hsp := World.cell?_spot c'
        simpa [Addr.add] using hsp
      subst hspot
      have hadd : ∀ k, (⟨b, off, none⟩ : Addr).add k = ⟨b, off + k, none⟩ := by intro k; unfold Addr.add; split <;> simp_all
      rw [hadd] at c0 c1 c2 c3 c4
      have hb : b < W.heap.size := block_lt_of_cell c0
      rcases open_ints Try.underlying28 Try.underlying2 cellsI d4 with ⟨hcs, _⟩ | ⟨a', len', cap', zs, hcs, _, hl', hm', hz, _, hcell, _⟩
      · simp at hcs
        subst hcs
        exact ⟨⟨z0, z1, z2, z3, [], none, 0⟩, b, off, rfl, hb, c0, c1, c2, c3, c4, Reads.none_, by simp, by simp [maxLen]⟩
      · simp at hcs
        subst hcs
        have hzl : len' ≤ zs.length := by rw [hz]; split <;> omega
        have htl : (zs.take len').length = len' := by rw [List.length_take]; omega
        refine ⟨⟨z0, z1, z2, z3, zs.take len', some a', cap'⟩, b, off, rfl, hb, c0, c1, c2, c3, by rw [htl]; exact c4, ?_, by rw [htl]; exact hl', hm'⟩
        rw [htl]
        by_cases h0 : len' = 0
        · subst h0; exact ⟨by simp, fun h => by omega⟩
        · have hlt : a'.block < W.heap.size := by have := block_lt_of_cell (hcell 0 (by omega)); rwa [block_of_add] at this
          refine reads_ints htl hlt (fun j hj => ?_)
          rw [hcell j (by omega)]
          simp [List.getD, List.getElem?_take, hj]
    let f : Nat → SD := fun i => if h : i < len then Classical.choose (hex i h) else ⟨0, 0, 0, 0, [], none, 0⟩
    refine ⟨(List.range len).map f, by simp, ?_, by omega⟩
    intro i s hs
    have hil : i < len := by have := (List.getElem?_eq_some_iff.1 hs).1; simpa using this
    have : f i = s := by simpa [List.getElem?_range hil] using hs
    have hc := Classical.choose_spec (hex i hil)
    have e : Classical.choose (hex i hil) = s := by rw [← this]; simp [f, hil]
    rw [e] at hc
    exact hc

end Go.Proofs.Ytncajdkbdionoaa
