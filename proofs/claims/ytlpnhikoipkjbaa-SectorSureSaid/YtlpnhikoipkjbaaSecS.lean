/- Steps of layer 5 as they lie in memory; whether there are too many. -/
import Derived.Test.YtlpnhikoipkjbaaSecJ
import Derived.ProofKit
import Derived.OpenShut
namespace Go.Proofs.Ytlpnhikoipkjbaa
open Go.RowKit Go.WideShapes Go.ChangeShapes Go.ChangeAt
set_option linter.unusedVariables false
/-- A step, as the arguments' memory holds it. -/
structure SP where
  act : Int
  k : Int
  text : ByteArray
  picks : List Int
  la : Option Addr
  lc : Nat
def Scr (w : World) (R : Nat) (A : Option Addr) (ss : List SP) : Prop :=
  ∀ i s, ss[i]? = some s → ∃ b off, A = some ⟨b, off, none⟩ ∧ b < R ∧ w.cell? ⟨b, off + i * 4, none⟩ = some (.int .u8 s.act) ∧ w.cell? ⟨b, off + i * 4 + 1, none⟩ = some (.int .i64 s.k) ∧
    w.cell? ⟨b, off + i * 4 + 2, none⟩ = some (.string s.text) ∧ w.cell? ⟨b, off + i * 4 + 3, none⟩ = some (.slice s.la s.picks.length s.lc) ∧
    Reads w R 1 s.la s.picks.length (s.picks.map (.int .i64)) ∧ s.text.size ≤ maxLen ∧ s.picks.length ≤ s.lc ∧ s.lc ≤ maxLen ∧ 0 ≤ s.act ∧ s.act < 256
theorem Scr.keep {w w' : World} {R : Nat} {A : Option Addr} {ss : List SP} (h : Scr w R A ss) (hb : ∀ p : Addr, p.block < R → w'.cell? p = w.cell? p) : Scr w' R A ss := by
  intro i s hs
  obtain ⟨b, off, h1, h2, c0, c1, c2, c3, hr, h3⟩ := h i s hs
  exact ⟨b, off, h1, h2, (hb ⟨b, _, none⟩ h2).trans c0, (hb ⟨b, _, none⟩ h2).trans c1, (hb ⟨b, _, none⟩ h2).trans c2, (hb ⟨b, _, none⟩ h2).trans c3, hr.keep hb, h3⟩
theorem Scr.below {w w' : World} {R : Nat} {A : Option Addr} {ss : List SP} (h : Scr w R A ss) (hb : Below R w w') : Scr w' R A ss := h.keep fun _ hp => hb.cell hp
/-- none of them is too long -/
def Light (ss : List SP) : Prop := ss.length ≤ 200 ∧ ∀ s ∈ ss, s.text.size ≤ 1024 ∧ s.picks.length ≤ 300
def SaysLight (ss : List SP) (e : Ending) : Prop := ∃ b, e = .returned (.bool b) ∧ (b = false → Light ss)

set_option maxHeartbeats 400000 in
set_option maxRecDepth 100000 in
theorem heavy_any (R : Nat) (A : Option Addr) (c : Nat) (ss : List SP) (w : World) (h : Scr w R A ss) (hl : ss.length ≤ maxLen) :
    Calls Try.prog 6 #[.slice A ss.length c] w fun e w' => SaysLight ss e ∧ w = w' := by
  unfold maxLen at hl
  have H := Lib.hid h
  clear h
  go_enter Try.func6, Try.ntmps6
  by_cases h2 : (200 : Int) < ss.length
  · go_wp2
    go_ret
    exact ⟨⟨_, rfl, fun e => by cases e⟩, rfl⟩
  have h2' : ss.length ≤ 200 := by omega
  go_wp2
  go_loop [3] (fun i => ∃ k : Nat, k ≤ ss.length ∧ i = .int .i64 k ∧ Hid (∀ j s, j < k → ss[j]? = some s → s.text.size ≤ 1024 ∧ s.picks.length ≤ 300)) (fun i => ss.length - (intOf i).toNat)
  case atStart => exact ⟨0, by omega, rfl, Lib.hid (fun j s hj => absurd hj (by omega))⟩
  case round =>
    obtain ⟨k, hk, rfl, hacc⟩ := hrel
    by_cases hlt : k < ss.length
    · obtain ⟨s, hs⟩ : ∃ s, ss[k]? = some s := ⟨_, List.getElem?_eq_getElem hlt⟩
      obtain ⟨b, off, rfl, hb, c0, c1, c2, c3, hr, ht, hlc, hlc', hd⟩ := H.out k s hs
      unfold maxLen at ht hlc'
      clear hr c0 c1
      have HS := Lib.hid hs
      clear hs
      by_cases hx : (1024 : Int) < s.text.size
      · go_wp2
        go_ret
        exact ⟨⟨_, rfl, fun e => by cases e⟩, rfl⟩
      by_cases hy : (300 : Int) < s.picks.length
      · go_wp2
        go_ret
        exact ⟨⟨_, rfl, fun e => by cases e⟩, rfl⟩
      go_wp2
      go_round
      case rel =>
        refine ⟨k + 1, by omega, by go_num, Lib.hid ?_⟩
        intro j t hj ht'
        by_cases hjk : j = k
        · subst hjk
          rw [HS.out] at ht'
          cases ht'
          omega
        · exact hacc.out j t (by omega) ht'
      case measure => simp [intOf]; omega
    · go_wp2
      go_ret
      refine ⟨⟨_, rfl, fun _ => ⟨h2', fun s hs => ?_⟩⟩, rfl⟩
      obtain ⟨j, hj, rfl⟩ := List.getElem_of_mem hs
      exact hacc.out j _ (by omega) (List.getElem?_eq_getElem hj)
theorem cellsStep : Try.prog.cellsOf 32 = 4 := by kernel_rfl
theorem cellsI : Try.prog.cellsOf 3 = 1 := by kernel_rfl
theorem open_picks {H : Type} {enc : TypeId × Value → H} {W : World} {base : Nat} {spare : Nat → Bool} {held : Bool} {fuel : Nat} {A : Option Addr} {len cap : Nat} {x : DataW H × List MemPlace}
    (h : DataW.trod enc Try.prog W base spare held fuel 23 [.slice A len cap] = some x) : ∃ ps : List Int, ps.length = len ∧ Reads W W.heap.size 1 A len (ps.map (.int .i64)) ∧ len ≤ cap ∧ cap ≤ maxLen := by
  rcases open_ints Try.underlying23 Try.underlying3 cellsI h with ⟨hcs, _⟩ | ⟨a', len', cap', zs, hcs, _, hl', hm', hz, _, hcell, _⟩
  · simp at hcs
    obtain ⟨rfl, rfl, rfl⟩ := hcs
    exact ⟨[], rfl, Reads.none_, Nat.le_refl _, by simp [maxLen]⟩
  · simp at hcs
    obtain ⟨rfl, rfl, rfl⟩ := hcs
    have hzl : len ≤ zs.length := by rw [hz]; split <;> omega
    have htl : (zs.take len).length = len := by rw [List.length_take]; omega
    refine ⟨zs.take len, htl, ?_, hl', hm'⟩
    by_cases h0 : len = 0
    · subst h0; exact ⟨by simp, fun h => by omega⟩
    · have hlt : a'.block < W.heap.size := by have := block_lt_of_cell (hcell 0 (by omega)); rwa [block_of_add] at this
      refine reads_ints htl hlt (fun j hj => ?_)
      rw [hcell j (by omega)]
      simp [List.getD, List.getElem?_take, hj]
theorem open_steps {H : Type} {enc : TypeId × Value → H} {W : World} {base : Nat} {spare : Nat → Bool} {held : Bool} {fuel : Nat} {a0 : Option Addr} {len cap : Nat} {x : DataW H × List MemPlace}
    (h : DataW.trod enc Try.prog W base spare held fuel 22 [.slice a0 len cap] = some x) : ∃ ss : List SP, ss.length = len ∧ Scr W W.heap.size a0 ss ∧ len ≤ maxLen := by
  rcases open_slice_fields Try.underlying22 Try.underlying32 (by kernel_rfl) cellsStep h with ⟨hcs, _⟩ | ⟨a, len', cap', m, D, Pl, hcs, _, hl, hm, hmm, _, hi⟩
  · simp at hcs
    obtain ⟨rfl, rfl, rfl⟩ := hcs
    exact ⟨[], rfl, fun i s hs => by simp at hs, by simp [maxLen]⟩
  · simp at hcs
    obtain ⟨rfl, rfl, rfl⟩ := hcs
    have hlm : len ≤ m := by rw [hmm]; split <;> omega
    have hex : ∀ i, i < len → ∃ s : SP, ∃ b off, some a = some (⟨b, off, none⟩ : Addr) ∧ b < W.heap.size ∧ W.cell? ⟨b, off + i * 4, none⟩ = some (.int .u8 s.act) ∧ W.cell? ⟨b, off + i * 4 + 1, none⟩ = some (.int .i64 s.k) ∧
        W.cell? ⟨b, off + i * 4 + 2, none⟩ = some (.string s.text) ∧ W.cell? ⟨b, off + i * 4 + 3, none⟩ = some (.slice s.la s.picks.length s.lc) ∧
        Reads W W.heap.size 1 s.la s.picks.length (s.picks.map (.int .i64)) ∧ s.text.size ≤ maxLen ∧ s.picks.length ≤ s.lc ∧ s.lc ≤ maxLen ∧ 0 ≤ s.act ∧ s.act < 256 := by
      intro i hil
      obtain ⟨ys, n, _, _, _, hf⟩ := hi i (by omega)
      obtain ⟨v0, y0, c0, _, d0⟩ := hf 0 _ rfl
      replace c0 : W.cell? (a.add (i * 4 + 0)) = some v0 := c0
      obtain ⟨v1, y1, c1, _, d1⟩ := hf 1 _ rfl
      replace c1 : W.cell? (a.add (i * 4 + 1)) = some v1 := c1
      obtain ⟨v2, y2, c2, _, d2⟩ := hf 2 _ rfl
      replace c2 : W.cell? (a.add (i * 4 + 2)) = some v2 := c2
      obtain ⟨v3, y3, c3, _, d3⟩ := hf 3 _ rfl
      replace c3 : W.cell? (a.add (i * 4 + 3)) = some v3 := c3
      obtain ⟨z0, e0, _, wz0⟩ := DataW.trod_int Try.underlying5 d0
      obtain ⟨z1, e1, _⟩ := DataW.trod_int Try.underlying3 d1
      obtain ⟨z2, e2, _, wz2⟩ := DataW.trod_string Try.underlying9 d2
      simp only [List.cons.injEq, and_true] at e0 e1 e2
      subst e0 e1 e2
      obtain ⟨b, off, spot⟩ := a
      have hspot : spot = none := by
        obtain ⟨ys', n', _, _, _, hf'⟩ := hi 0 (by omega)
        obtain ⟨v', y', c', _⟩ := hf' 0 _ rfl
        have hsp := World.cell?_spot c'
        simpa [Addr.add] using hsp
      subst hspot
      have hadd : ∀ k, (⟨b, off, none⟩ : Addr).add k = ⟨b, off + k, none⟩ := by intro k; unfold Addr.add; split <;> simp_all
      rw [hadd] at c0 c1 c2 c3
      have hb : b < W.heap.size := block_lt_of_cell c0
      have hz0 := bounds_u8 wz0
      rcases open_ints Try.underlying23 Try.underlying3 cellsI d3 with ⟨hcs, _⟩ | ⟨a', len', cap', zs, hcs, _, _⟩
      · simp at hcs
        subst hcs
        exact ⟨⟨z0, z1, z2, [], none, 0⟩, b, off, rfl, hb, c0, c1, c2, c3, Reads.none_, wz2, by simp, by simp [maxLen], by dsimp only; omega, by dsimp only; omega⟩
      · simp at hcs
        subst hcs
        obtain ⟨ps, rfl, hr, hl', hm'⟩ := open_picks d3
        exact ⟨⟨z0, z1, z2, ps, some a', cap'⟩, b, off, rfl, hb, c0, c1, c2, c3, hr, wz2, hl', hm', by dsimp only; omega, by dsimp only; omega⟩
    let f : Nat → SP := fun i => if h : i < len then Classical.choose (hex i h) else ⟨0, 0, ByteArray.empty, [], none, 0⟩
    refine ⟨(List.range len).map f, by simp, ?_, by omega⟩
    intro i s hs
    have hil : i < len := by have := (List.getElem?_eq_some_iff.1 hs).1; simpa using this
    have : f i = s := by simpa [List.getElem?_range hil] using hs
    have hc := Classical.choose_spec (hex i hil)
    have e : Classical.choose (hex i hil) = s := by rw [← this]; simp [f, hil]
    rw [e] at hc
    exact hc
end Go.Proofs.Ytlpnhikoipkjbaa
