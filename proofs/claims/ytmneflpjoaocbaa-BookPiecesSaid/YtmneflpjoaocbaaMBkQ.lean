/- Several texts in one: BkQ. -/
import Derived.Test.YtmneflpjoaocbaaMBkM
/- Steps of layer 6 as they lie in memory; whether there are too many. No conditions beyond what each states. -/
namespace Go.Proofs.Ytmneflpjoaocbaa
open Go.RowKit
set_option linter.unusedVariables false
/-- A step, as the arguments' memory holds it. -/
structure BP where
  act : Int
  texts : List ByteArray
  ta : Option Addr
  tc : Nat
  n : Int
  picks : List Int
  la : Option Addr
  lc : Nat
/-- a row of texts below R -/
def TextR (w : World) (R : Nat) (A : Option Addr) (xs : List ByteArray) : Prop := ∀ j, (h : j < xs.length) → ∃ g off, A = some ⟨g, off, none⟩ ∧ g < R ∧ w.cell? ⟨g, off + j, none⟩ = some (.string xs[j])
theorem TextR.row {w : World} {R : Nat} {A : Option Addr} {xs : List ByteArray} (h : TextR w R A xs) (hR : R ≤ w.heap.size) : TextRow w A xs := ⟨fun j hj => by
  obtain ⟨g, off, h1, h2, h3⟩ := h j hj
  exact ⟨g, off, h1, by omega, h3⟩⟩
theorem TextR.keep {w w' : World} {R : Nat} {A : Option Addr} {xs : List ByteArray} (h : TextR w R A xs) (hb : ∀ p : Addr, p.block < R → w'.cell? p = w.cell? p) : TextR w' R A xs := fun j hj => by
  obtain ⟨g, off, h1, h2, h3⟩ := h j hj
  exact ⟨g, off, h1, h2, (hb ⟨g, _, none⟩ h2).trans h3⟩
def ScrB (w : World) (R : Nat) (A : Option Addr) (ss : List BP) : Prop :=
  ∀ i s, ss[i]? = some s → ∃ b off, A = some ⟨b, off, none⟩ ∧ b < R ∧ w.cell? ⟨b, off + i * 4, none⟩ = some (.int .u8 s.act) ∧ w.cell? ⟨b, off + i * 4 + 1, none⟩ = some (.slice s.ta s.texts.length s.tc) ∧
    w.cell? ⟨b, off + i * 4 + 2, none⟩ = some (.int .i64 s.n) ∧ w.cell? ⟨b, off + i * 4 + 3, none⟩ = some (.slice s.la s.picks.length s.lc) ∧
    TextR w R s.ta s.texts ∧ Reads w R 1 s.la s.picks.length (s.picks.map (.int .i64)) ∧ (∀ x ∈ s.texts, x.size ≤ maxLen) ∧ s.texts.length ≤ s.tc ∧ s.tc ≤ maxLen ∧ s.picks.length ≤ s.lc ∧ s.lc ≤ maxLen ∧ 0 ≤ s.act ∧ s.act < 256
/-- none of them is too long -/
def LightB (ss : List BP) : Prop := ss.length ≤ 100 ∧ ∀ s ∈ ss, s.texts.length ≤ 20 ∧ s.picks.length ≤ 300 ∧ ∀ x ∈ s.texts, x.size ≤ 262144
def SaysLightB (ss : List BP) (e : Ending) : Prop := ∃ b, e = .returned (.bool b) ∧ (b = false → LightB ss)
set_option maxHeartbeats 1000000 in
set_option maxRecDepth 100000 in
theorem heavyB_any (R : Nat) (A : Option Addr) (c : Nat) (ss : List BP) (w : World) (h : ScrB w R A ss) (hl : ss.length ≤ maxLen) :
    Calls Try.prog 12 #[.slice A ss.length c] w fun e w' => SaysLightB ss e ∧ w = w' := by
  unfold maxLen at hl
  have H := Lib.hid h
  clear h
  go_enter Try.func12, Try.ntmps12
  by_cases h2 : (100 : Int) < ss.length
  · go_wp2
    go_ret
    exact ⟨⟨_, rfl, fun e => by cases e⟩, rfl⟩
  have h2' : ss.length ≤ 100 := by omega
  go_wp2
  go_loop [3, 4] (fun nv i => ∃ (k : Nat) (z : Int), k ≤ ss.length ∧ i = .int .i64 k ∧ nv = .int .i64 z ∧ Hid (∀ j s, j < k → ss[j]? = some s → s.texts.length ≤ 20 ∧ s.picks.length ≤ 300 ∧ ∀ x ∈ s.texts, x.size ≤ 262144)) (fun _ i => ss.length - (intOf i).toNat)
  case atStart => exact ⟨0, 0, by omega, rfl, rfl, Lib.hid (fun j s hj => absurd hj (by omega))⟩
  case round =>
    obtain ⟨k, z, hk, rfl, rfl, hacc⟩ := hrel
    by_cases hlt : k < ss.length
    · obtain ⟨s, hs⟩ : ∃ s, ss[k]? = some s := ⟨_, List.getElem?_eq_getElem hlt⟩
      obtain ⟨b, off, rfl, hb, c0, c1, c2, c3, htr, hr, hts, htc, htc', hlc, hlc', hd⟩ := H.out k s hs
      unfold maxLen at htc' hlc'
      clear hr c0 c2
      have HS := Lib.hid hs
      have HTR := Lib.hid htr
      have HTS := Lib.hid hts
      clear hs htr hts
      by_cases hx : (20 : Int) < s.texts.length
      · go_wp2
        go_ret
        exact ⟨⟨_, rfl, fun e => by cases e⟩, rfl⟩
      by_cases hy : (300 : Int) < s.picks.length
      · go_wp2
        go_ret
        exact ⟨⟨_, rfl, fun e => by cases e⟩, rfl⟩
      go_wp2
      clear c3
      go_loop [3, 5] (fun nv i => ∃ (q : Nat) (z : Int), q ≤ s.texts.length ∧ i = .int .i64 q ∧ nv = .int .i64 z ∧ Hid (∀ x ∈ s.texts.take q, x.size ≤ 262144)) (fun _ i => s.texts.length - (intOf i).toNat)
      case atStart => exact ⟨0, _, by omega, rfl, rfl, Lib.hid (by simp)⟩
      case round =>
        obtain ⟨q, z2, hq, rfl, rfl, hin⟩ := hrel
        by_cases hqt : q < s.texts.length
        · obtain ⟨g, o2, hA, hg, hck⟩ := HTR.out q hqt
          rw [hA] at c1
          have hsn : s.texts.take (q + 1) = s.texts.take q ++ [s.texts[q]] := by rw [List.take_add_one, List.getElem?_eq_getElem hqt]; rfl
          generalize s.texts[q] = x at *
          have HSN := Lib.hid hsn
          clear hsn
          by_cases hbig : (262144 : Int) < (x.size : Int)
          · go_wp2
            go_ret
            exact ⟨⟨_, rfl, fun e => by cases e⟩, rfl⟩
          go_wp2
          go_round
          case rel =>
            refine ⟨q + 1, _, by omega, by go_num, rfl, Lib.hid fun y hy => ?_⟩
            rw [HSN.out] at hy
            rcases List.mem_append.1 hy with h | h
            · exact hin.out y h
            · rw [List.mem_singleton.1 h]; omega
          case measure => simp [intOf]; omega
        · obtain rfl : q = s.texts.length := by omega
          rw [List.take_length] at hin
          go_wp2
          go_round
          case rel =>
            refine ⟨k + 1, _, by omega, by go_num, rfl, Lib.hid ?_⟩
            intro j t hj ht'
            by_cases hjk : j = k
            · subst hjk
              rw [HS.out] at ht'
              cases ht'
              exact ⟨by omega, by omega, hin.out⟩
            · exact hacc.out j t (by omega) ht'
          case measure => simp [intOf]; omega
    · go_wp2
      go_ret
      refine ⟨⟨_, rfl, fun _ => ⟨h2', fun s hs => ?_⟩⟩, rfl⟩
      obtain ⟨j, hj, rfl⟩ := List.getElem_of_mem hs
      exact hacc.out j _ (by omega) (List.getElem?_eq_getElem hj)
end Go.Proofs.Ytmneflpjoaocbaa
