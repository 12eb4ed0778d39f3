/- Several texts in one: BkP. -/
/- Books, plain: what sectors a stream makes, and the stream of sectors. No program in sight. -/
namespace Go.Proofs.YthggliknnmhbdaaGreat
set_option maxRecDepth 100000
/-- the part of a stream that sector k has -/
def cutL (s : List UInt8) (k : Nat) : List UInt8 := (s.drop (k * 127)).take 127
/-- a sector, as a stream makes it -/
def madeL (s : List UInt8) (k : Nat) : List UInt8 := cutL s k ++ List.replicate (127 - (cutL s k).length) 0 ++ [UInt8.ofNat (cutL s k).length]
def sectorsL (s : List UInt8) (n : Nat) : List (List UInt8) := (List.range n).map (madeL s)
/-- what sectors have -/
def streamL : List (List UInt8) → List UInt8
  | [] => []
  | t :: r =>
    let c := (t.getD 127 0).toNat
    let m := if 127 < c then 0 else c
    t.take m ++ (if m < 127 then [] else streamL r)
theorem cutL_len (s : List UInt8) (k : Nat) : (cutL s k).length = min 127 (s.length - k * 127) := by simp [cutL]
theorem cutL_le (s : List UInt8) (k : Nat) : (cutL s k).length ≤ 127 := by rw [cutL_len]; omega
theorem madeL_len (s : List UInt8) (k : Nat) : (madeL s k).length = 128 := by
  have := cutL_le s k
  simp [madeL]
  omega
theorem madeL_count (s : List UInt8) (k : Nat) : ((madeL s k).getD 127 0).toNat = (cutL s k).length := by
  have h := cutL_le s k
  have hl : (cutL s k ++ List.replicate (127 - (cutL s k).length) 0).length = 127 := by simp; omega
  rw [madeL, List.getD_eq_getElem?_getD, List.getElem?_append_right (by omega), hl]
  simp
  omega
theorem madeL_take (s : List UInt8) (k : Nat) : (madeL s k).take (cutL s k).length = cutL s k := by
  rw [madeL, List.append_assoc, List.take_left']
  rfl
theorem sectorsL_len (s : List UInt8) (n : Nat) : (sectorsL s n).length = n := by simp [sectorsL]
theorem sectorsL_get (s : List UInt8) (n k : Nat) (h : k < n) : (sectorsL s n)[k]? = some (madeL s k) := by
  simp [sectorsL, h]
theorem stream_from (s : List UInt8) : ∀ (m k : Nat), s.length ≤ (k + m) * 127 → streamL ((List.range' k m).map (madeL s)) = s.drop (k * 127)
  | 0, k, h => by
    rw [List.drop_eq_nil_of_le (by simpa using h)]
    rfl
  | m + 1, k, h => by
    have ih := stream_from s m (k + 1) (by rw [show k + 1 + m = k + (m + 1) by omega]; exact h)
    have hc := madeL_count s k
    have hle := cutL_le s k
    have hlen := cutL_len s k
    rw [List.range'_succ, List.map_cons, streamL]
    simp only [hc]
    rw [if_neg (by omega), madeL_take]
    by_cases hf : (cutL s k).length < 127
    · rw [if_pos hf, List.append_nil, cutL, List.take_of_length_le]
      rw [List.length_drop]
      omega
    · rw [if_neg hf, ih, cutL, show (k + 1) * 127 = k * 127 + 127 by omega, ← List.drop_drop, List.take_append_drop]
theorem stream_made (s : List UInt8) (n : Nat) (h : s.length ≤ n * 127) : streamL (sectorsL s n) = s := by
  have := stream_from s n 0 (by simpa using h)
  rw [sectorsL, List.range_eq_range']
  simpa using this
/-- sectors that a longer stream leaves as they are -/
theorem madeL_below (s x : List UInt8) (k : Nat) (h : (k + 1) * 127 ≤ s.length) : madeL (s ++ x) k = madeL s k := by
  have : cutL (s ++ x) k = cutL s k := by
    unfold cutL
    rw [List.drop_append_of_le_length (by omega), List.take_append_of_le_length]
    rw [List.length_drop]
    omega
  unfold madeL
  rw [this]
theorem madeL_above (s x : List UInt8) (k : Nat) (h : (s ++ x).length ≤ k * 127) : madeL (s ++ x) k = madeL s k := by
  have h1 : cutL (s ++ x) k = [] := by unfold cutL; rw [List.drop_eq_nil_of_le h]; rfl
  have h2 : cutL s k = [] := by
    unfold cutL
    rw [List.drop_eq_nil_of_le (by rw [List.length_append] at h; omega)]
    rfl
  unfold madeL
  rw [h1, h2]
/-- sectors while they are written, from a on, up to k -/
def turnedL (s s' : List UInt8) (n a k : Nat) : List (List UInt8) := (List.range n).map fun j => if a ≤ j ∧ j < k then madeL s' j else madeL s j
theorem turnedL_start (s s' : List UInt8) (n a : Nat) : turnedL s s' n a a = sectorsL s n := by
  unfold turnedL sectorsL
  apply List.map_congr_left
  intro j _
  rw [if_neg (by omega)]
theorem turnedL_step (s s' : List UInt8) (n a k : Nat) (ha : a ≤ k) (hk : k < n) : (turnedL s s' n a k).set k (madeL s' k) = turnedL s s' n a (k + 1) := by
  apply List.ext_getElem?
  intro j
  rw [List.getElem?_set]
  by_cases hj : k = j
  · subst hj
    rw [if_pos rfl, if_pos (by simp [turnedL, hk])]
    simp [turnedL, hk, ha]
  · rw [if_neg hj]
    unfold turnedL
    rw [List.getElem?_map, List.getElem?_map]
    cases hr : (List.range n)[j]? with
    | none => rfl
    | some i =>
      have : i = j := by
        have := List.getElem?_eq_some_iff.1 hr
        obtain ⟨h1, h2⟩ := this
        simpa using h2.symm
      subst this
      simp only [Option.map_some]
      congr 1
      by_cases h1 : a ≤ i ∧ i < k
      · rw [if_pos h1, if_pos ⟨h1.1, by omega⟩]
      · rw [if_neg h1, if_neg (by omega)]
theorem turnedL_end (s x : List UInt8) (n k : Nat) (hk : (s ++ x).length ≤ k * 127) : turnedL s (s ++ x) n (s.length / 127) k = sectorsL (s ++ x) n := by
  unfold turnedL sectorsL
  apply List.map_congr_left
  intro j _
  split
  · rfl
  · rename_i h
    by_cases h1 : s.length / 127 ≤ j
    · exact (madeL_above s x j (by omega)).symm
    · exact (madeL_below s x j (by omega)).symm
theorem madeL_nil (k : Nat) : madeL [] k = List.replicate 128 0 := by
  have h : cutL [] k = [] := by simp [cutL]
  unfold madeL
  rw [h]
  rfl
theorem sectorsL_nil (n : Nat) : sectorsL [] n = List.replicate n (List.replicate 128 0) := by
  unfold sectorsL
  rw [List.map_congr_left (g := fun _ => List.replicate 128 (0 : UInt8)) (fun k _ => madeL_nil k), List.map_const', List.length_range]
end Go.Proofs.YthggliknnmhbdaaGreat
