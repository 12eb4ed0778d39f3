/- Several texts in one: BkS. -/
import Derived.Test.YthggliknnmhbdaaGreatMWAT
/- Books, plain: records in any pieces leave the same sectors. No program in sight. -/
namespace Go.Proofs.YthggliknnmhbdaaGreat
set_option maxRecDepth 100000
open Go.RowKit
set_option linter.unusedVariables false
theorem str_sB (l : List Nat) : str l = sB (l.map UInt8.ofNat) := rfl
theorem frB_str (x : ByteArray) (h : x.size ≤ 131072) : sB (frB x) = str (frameL 1 (bs x)) := by
  unfold frB
  rw [sB_self]
  exact fraw_str 1 x (by omega) (by omega)
def ones (xs : List ByteArray) : List (Nat × ByteArray) := xs.map fun x => (1, x)
theorem ones_okay (xs : List ByteArray) (h : ∀ x ∈ xs, x.size ≤ 131072) : Okay (ones xs) := by
  intro p hp
  obtain ⟨x, hx, rfl⟩ := List.mem_map.1 hp
  exact ⟨by omega, h x hx⟩
theorem framesL_ones (xs : List ByteArray) (h : ∀ x ∈ xs, x.size ≤ 131072) : sB (frsB xs) = str (framesL (ones xs)) := by
  induction xs with
  | nil => rfl
  | cons a l ih =>
    have h1 := ih (fun x hx => h x (by simp [hx]))
    have h2 := frB_str a (h a (by simp))
    have e : framesL (ones (a :: l)) = frameL 1 (bs a) ++ framesL (ones l) := rfl
    rw [e]
    rw [str_sB] at h1 h2 ⊢
    rw [List.map_append, ← sB_append, ← h1, ← h2, sB_append]
    rfl
theorem scan_ones (xs : List ByteArray) (h : ∀ x ∈ xs, x.size ≤ 131072) : framesOf (sB (frsB xs)) = ones xs := by
  unfold framesOf
  rw [framesL_ones xs h]
  have hsc := scan_frames (ones xs) [] [] (ones_okay xs h) (by simp) (by simp)
  simp only [List.length_nil, Nat.zero_add, List.nil_append, List.append_nil] at hsc
  rw [hsc, scan_end (by rw [str_size]; exact Nat.le_refl _)]
  simp
theorem recsF_ones (xs : List ByteArray) : recsF (ones xs) = ones xs := by
  unfold recsF ones
  induction xs with
  | nil => rfl
  | cons a l ih => simp only [List.map_cons, List.takeWhile_cons, ih]; rfl
theorem gsum_ones (xs : List ByteArray) : gsum (ones xs) = fsz xs := by
  unfold gsum fsz ones
  rw [List.map_map]
  rfl
/-- nothing is to be turned -/
theorem turnFrom_same (n f : Nat) (wf : Nat → List UInt8 → List UInt8) : ∀ (ts : List (List UInt8)) (k : Nat) (S : Dst), (∀ j t, ts[j]? = some t → wf (k + j) t = t) → turnFrom n f wf k ts S = (0, S, ts, false)
  | [], _, _, _ => rfl
  | t :: r, k, S, h => by
    have h0 := h 0 t rfl
    rw [Nat.add_zero] at h0
    have ih := turnFrom_same n f wf r (k + 1) S (fun j x hj => by
      have := h (j + 1) x (by simpa using hj)
      rwa [show k + 1 + j = k + (j + 1) by omega])
    unfold turnFrom
    rw [if_pos h0, ih]
theorem turnS_same (n f : Nat) (wf : Nat → List UInt8 → List UInt8) (ts : List (List UInt8)) (S : Dst) (h : ∀ j t, ts[j]? = some t → wf j t = t) : turnS n f wf ts S = (0, S, ts) := by
  unfold turnS
  rw [turnFrom_same n f wf ts 0 S (fun j t hj => by rw [Nat.zero_add]; exact h j t hj)]
  rfl
theorem sectorsL_get' (s : List UInt8) (n j : Nat) (t : List UInt8) (h : (sectorsL s n)[j]? = some t) : t = madeL s j := by
  have hj : j < n := by have := (List.getElem?_eq_some_iff.1 h).1; rwa [sectorsL_len] at this
  rw [sectorsL_get s n j hj] at h
  injection h with h
  exact h.symm
theorem anewS_same (n f m : Nat) (s : List UInt8) (S : Dst) : anewS n f s (sectorsL s m) S = (0, S, sectorsL s m) := by
  unfold anewS
  rw [turnS_same n f (countW s) (sectorsL s m) S (fun j t hj => by
    rw [sectorsL_get' s m j t hj]
    unfold countW
    exact List.take_append_drop 127 _)]
  simp only [if_true]
  exact turnS_same n f _ _ S (fun j t hj => (sectorsL_get' s m j t hj).symm)
/-- a disk whose sectors, as they are read, a text has made; no fuse -/
structure PB (n : Nat) (t : List UInt8) (S : Dst) : Prop where
  fu : S.fu = none
  ok : SecOk n S.l S.g
  cur : S.cur = sectorsL t n
theorem keepW_set {k : Nat} {l : List (Nat × List UInt8)} {g : List (List UInt8)} (h : SecOk k l g) (j : Nat) (x : List UInt8) (hj : j < k) (hx : x.length = 128) : keepW g (j, x) 128 = g.set j x := by
  have hd : (g.getD j []).length = 128 := h.all _ (getD_mem g j (by rw [h.len]; exact hj))
  unfold keepW
  have e : (min (128 : Int) 128).toNat = 128 := rfl
  simp only [e]
  rw [List.take_of_length_le (by omega), List.drop_eq_nil_of_le (by omega), List.append_nil]
theorem pad_whole (x : List UInt8) (h : x.length = 128) : pad 0 x = x := by
  unfold pad
  rw [h]
  simp
theorem still_none {S : Dst} (h : S.fu = none) : S.still = false := by simp [Dst.still, h]
end Go.Proofs.YthggliknnmhbdaaGreat
