/- Several texts in one: BkS. -/
import Derived.Test.YtmneflpjoaocbaaMBkM
/- Books, plain: records in any pieces leave the same sectors. No program in sight. -/
namespace Go.Proofs.Ytmneflpjoaocbaa
open Go.RowKit
set_option linter.unusedVariables false
theorem str_sB (l : List Nat) : str l = sB (l.map UInt8.ofNat) := rfl
theorem frB_str (x : ByteArray) (h : x.size ≤ 131072) : sB (frB x) = str (frameL 1 (bs x)) := by
  unfold frB
  rw [sB_self]
  exact fraw_str 1 x (by omega) (by omega)
def ones (xs : List ByteArray) : List (Nat × ByteArray) := xs.map fun x => (1, x)
theorem ones_okay (xs : List ByteArray) (h : ∀ x ∈ xs, x.size ≤ 131072) : Okay (ones xs) := by
  intro p hp
  obtain ⟨x, hx, rfl⟩ := List.mem_map.1 hp
  exact ⟨by omega, h x hx⟩
theorem framesL_ones (xs : List ByteArray) (h : ∀ x ∈ xs, x.size ≤ 131072) : sB (frsB xs) = str (framesL (ones xs)) := by
  induction xs with
  | nil => rfl
  | cons a l ih =>
    have h1 := ih (fun x hx => h x (by simp [hx]))
    have h2 := frB_str a (h a (by simp))
    have e : framesL (ones (a :: l)) = frameL 1 (bs a) ++ framesL (ones l) := rfl
    rw [e]
    rw [str_sB] at h1 h2 ⊢
    rw [List.map_append, ← sB_append, ← h1, ← h2, sB_append]
    rfl
theorem scan_ones (xs : List ByteArray) (h : ∀ x ∈ xs, x.size ≤ 131072) : framesOf (sB (frsB xs)) = ones xs := by
  unfold framesOf
  rw [framesL_ones xs h]
  have hsc := scan_frames (ones xs) [] [] (ones_okay xs h) (by simp) (by simp)
  simp only [List.length_nil, Nat.zero_add, List.nil_append, List.append_nil] at hsc
  rw [hsc, scan_end (by rw [str_size]; exact Nat.le_refl _)]
  simp
theorem recsF_ones (xs : List ByteArray) : recsF (ones xs) = ones xs := by
  unfold recsF ones
  induction xs with
  | nil => rfl
  | cons a l ih => simp only [List.map_cons, List.takeWhile_cons, ih]; rfl
theorem gsum_ones (xs : List ByteArray) : gsum (ones xs) = fsz xs := by
  unfold gsum fsz ones
  rw [List.map_map]
  rfl
/-- sectors that a stream of records has made are opened as those records -/
theorem open_ones (xs : List ByteArray) (n : Nat) (h : ∀ x ∈ xs, x.size ≤ 131072) (hl : (frsB xs).length ≤ n * 127) (C : Nat → List UInt8) (hC : ∀ j, j < n → C (0 + j) = madeL (frsB xs) j) :
    openT 0 n C = sectorsL (frsB xs) n ∧ openF 0 n C = ones xs ∧ openX 0 n C = frsB xs := by
  have h1 : openT 0 n C = sectorsL (frsB xs) n := by
    unfold openT sectorsL
    exact List.map_congr_left fun j hj => hC j (List.mem_range.1 hj)
  have h2 : openF 0 n C = ones xs := by
    unfold openF
    rw [h1, stream_made _ _ hl, scan_ones xs h, recsF_ones]
  refine ⟨h1, h2, ?_⟩
  unfold openX
  rw [h1, h2, stream_made _ _ hl, gsum_ones, ← frsB_len xs h, List.take_length]
/-- nothing is to be turned -/
theorem turnFrom_same (n f : Nat) (wf : Nat → List UInt8 → List UInt8) : ∀ (ts : List (List UInt8)) (k : Nat) (S : Dst), (∀ j t, ts[j]? = some t → wf (k + j) t = t) → turnFrom n f wf k ts S = (0, S, ts, false)
  | [], _, _, _ => rfl
  | t :: r, k, S, h => by
    have h0 := h 0 t rfl
    rw [Nat.add_zero] at h0
    have ih := turnFrom_same n f wf r (k + 1) S (fun j x hj => by
      have := h (j + 1) x (by simpa using hj)
      rwa [show k + 1 + j = k + (j + 1) by omega])
    unfold turnFrom
    rw [if_pos h0, ih]
theorem turnS_same (n f : Nat) (wf : Nat → List UInt8 → List UInt8) (ts : List (List UInt8)) (S : Dst) (h : ∀ j t, ts[j]? = some t → wf j t = t) : turnS n f wf ts S = (0, S, ts) := by
  unfold turnS
  rw [turnFrom_same n f wf ts 0 S (fun j t hj => by rw [Nat.zero_add]; exact h j t hj)]
  rfl
theorem sectorsL_get' (s : List UInt8) (n j : Nat) (t : List UInt8) (h : (sectorsL s n)[j]? = some t) : t = madeL s j := by
  have hj : j < n := by have := (List.getElem?_eq_some_iff.1 h).1; rwa [sectorsL_len] at this
  rw [sectorsL_get s n j hj] at h
  injection h with h
  exact h.symm
theorem anewS_same (n f m : Nat) (s : List UInt8) (S : Dst) : anewS n f s (sectorsL s m) S = (0, S, sectorsL s m) := by
  unfold anewS
  rw [turnS_same n f (countW s) (sectorsL s m) S (fun j t hj => by
    rw [sectorsL_get' s m j t hj]
    unfold countW
    exact List.take_append_drop 127 _)]
  simp only [if_true]
  exact turnS_same n f _ _ S (fun j t hj => (sectorsL_get' s m j t hj).symm)
/-- a disk whose sectors, as they are read, a text has made; no fuse -/
structure PB (n : Nat) (t : List UInt8) (S : Dst) : Prop where
  fu : S.fu = none
  ok : SecOk n S.l S.g
  cur : S.cur = sectorsL t n
theorem keepW_set {k : Nat} {l : List (Nat × List UInt8)} {g : List (List UInt8)} (h : SecOk k l g) (j : Nat) (x : List UInt8) (hj : j < k) (hx : x.length = 128) : keepW g (j, x) 128 = g.set j x := by
  have hd : (g.getD j []).length = 128 := h.all _ (getD_mem g j (by rw [h.len]; exact hj))
  unfold keepW
  have e : (min (128 : Int) 128).toNat = 128 := rfl
  simp only [e]
  rw [List.take_of_length_le (by omega), List.drop_eq_nil_of_le (by omega), List.append_nil]
theorem pad_whole (x : List UInt8) (h : x.length = 128) : pad 0 x = x := by
  unfold pad
  rw [h]
  simp
theorem still_none {S : Dst} (h : S.fu = none) : S.still = false := by simp [Dst.still, h]
theorem wErr_ok {n k : Nat} (h : k < n) (len : Nat) (hl : len ≤ 128) : wErr n ((0 : Nat) + (k : Int)) len = 0 := by
  unfold wErr
  rw [if_pos (by omega), if_pos hl]
/-- the writes of an Append, from the k-th on -/
theorem appW_ok (n : Nat) (t t' : List UInt8) (a : Nat) (ht : t'.length ≤ n * 127) : ∀ (j k : Nat) (S : Dst), a ≤ k → n + 1 ≤ k + j → S.fu = none → SecOk n S.l S.g → S.cur = turnedL t t' n a k →
    ∃ (S' : Dst) (k' : Nat), appW n 0 t' j k S = (0, S') ∧ S'.fu = none ∧ SecOk n S'.l S'.g ∧ S'.cur = turnedL t t' n a k' ∧ t'.length ≤ k' * 127
  | 0, k, S, hk, hj, hf, hs, hc => ⟨S, k, rfl, hf, hs, hc, by omega⟩
  | j + 1, k, S, hk, hj, hf, hs, hc => by
    unfold appW
    by_cases hkl : k * 127 < t'.length
    · rw [if_pos hkl]
      have hkn : k < n := by omega
      have hml := madeL_len t' k
      have hw : wrS n S (((0 : Nat) : Int) + (k : Int)) (madeL t' k) = (0, ⟨S.g, S.l ++ [(k, madeL t' k)], none⟩) := by
        unfold wrS
        rw [if_pos (wErr_ok hkn _ (by omega)), still_none hf, hf, pad_whole _ hml]
        simp
      rw [hw]
      simp only [if_true]
      have hcu : (⟨S.g, S.l ++ [(k, madeL t' k)], none⟩ : Dst).cur = (S.cur).set k (madeL t' k) := by
        unfold Dst.cur syncW
        simp only [List.foldl_append, List.foldl_cons, List.foldl_nil]
        exact keepW_set (l := []) (syncW_ok hs) k _ hkn hml
      exact appW_ok n t t' a ht j (k + 1) _ (by omega) (by omega) rfl ⟨hs.len, hs.all, fun w hw => by
        rcases List.mem_append.1 hw with h | h
        · exact hs.lo w h
        · rw [List.mem_singleton.1 h]; exact ⟨hkn, hml⟩⟩ (by rw [hcu, hc, turnedL_step t t' n a k hk hkn])
    · rw [if_neg hkl]
      exact ⟨S, k, rfl, hf, hs, hc, by omega⟩
theorem appS_ok (n : Nat) (t : List UInt8) (S : Dst) (xs : List ByteArray) (h : PB n t S) (ht : t.length ≤ n * 127) :
    (((appS n 0 n S t false xs).1 = 4 ∨ (appS n 0 n S t false xs).1 = 6) ∧ (appS n 0 n S t false xs).2 = (S, t, false)) ∨
    ((appS n 0 n S t false xs).1 = 0 ∧ (∀ x ∈ xs, x.size ≤ 131072) ∧ (appS n 0 n S t false xs).2.2 = (t ++ frsB xs, false) ∧ PB n (t ++ frsB xs) (appS n 0 n S t false xs).2.1 ∧ (t ++ frsB xs).length ≤ n * 127) := by
  unfold appS
  rw [if_neg (by simp)]
  by_cases hall : xs.all (fun x => x.size ≤ 131072) = true
  · rw [if_pos hall]
    have hall' : ∀ x ∈ xs, x.size ≤ 131072 := fun x hx => by simpa using List.all_eq_true.1 hall x hx
    by_cases hroom : n * 127 < t.length + fsz xs
    · rw [if_pos hroom]
      exact .inl ⟨.inr rfl, rfl⟩
    · rw [if_neg hroom]
      have hl : (t ++ frsB xs).length ≤ n * 127 := by rw [List.length_append, frsB_len xs hall']; omega
      by_cases hx : xs = []
      · rw [if_pos hx]
        subst hx
        exact .inr ⟨rfl, hall', by simp [frsB], by simpa [frsB] using h, hl⟩
      · rw [if_neg hx]
        obtain ⟨S', k', h1, h2, h3, h4, h5⟩ := appW_ok n t (t ++ frsB xs) (t.length / 127) hl (n + 1) (t.length / 127) S (Nat.le_refl _) (by omega) h.fu h.ok (by rw [h.cur, turnedL_start])
        rw [h1]
        exact .inr ⟨rfl, hall', rfl, ⟨h2, h3, by rw [h4, turnedL_end t _ n k' h5]⟩, hl⟩
  · rw [if_neg hall]
    exact .inl ⟨.inl rfl, rfl⟩
theorem syS_ok {n : Nat} {t : List UInt8} {S : Dst} (h : PB n t S) : syS S = (0, ⟨sectorsL t n, [], none⟩) := by
  unfold syS
  rw [still_none h.fu, h.fu, ← h.cur]
  rfl
theorem zero_PB (n : Nat) : PB n [] ⟨zeroG n, [], none⟩ := ⟨rfl, zeroG_ok n, by
  show zeroG n = _
  rw [sectorsL_nil]
  rfl⟩
theorem made_PB (n : Nat) (t : List UInt8) : PB n t ⟨sectorsL t n, [], none⟩ := ⟨rfl, ⟨sectorsL_len t n, fun s hs => by
  obtain ⟨j, _, rfl⟩ := List.mem_map.1 hs
  exact madeL_len t j, by simp⟩, rfl⟩
theorem frsB_append (xs ys : List ByteArray) : frsB (xs ++ ys) = frsB xs ++ frsB ys := by simp [frsB]
end Go.Proofs.Ytmneflpjoaocbaa
