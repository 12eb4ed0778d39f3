/- FrameCut: plain: what is scanned of frames that are cut off. -/
import Derived.Test.YtpnjcgpnannjaaaFrQ
import Derived.Test.YtpnjcgpnannjaaaFrI
import Derived.Test.YtpnjcgpnannjaaaFrR
namespace Go.Proofs.Ytpnjcgpnannjaaa
open Go.RowKit
set_option linter.unusedVariables false
attribute [local simp] frOf dstsOf frGo predsHold allHold Region.binds slotOf seen Is Act.put

/-- where the frames end -/
def endsL (l : List (Nat × ByteArray)) (k : Nat) : List Int := (List.range k).map fun j => ((framesL (l.take (j + 1))).length : Int)
theorem endsL_succ (l : List (Nat × ByteArray)) (k : Nat) : endsL l (k + 1) = endsL l k ++ [((framesL (l.take (k + 1))).length : Int)] := by
  unfold endsL
  rw [List.range_succ, List.map_append]
  rfl
theorem endsL_len (l : List (Nat × ByteArray)) (k : Nat) : (endsL l k).length = k := by simp [endsL]
theorem endsL_at (l : List (Nat × ByteArray)) (k j : Nat) (h : j < k) : (endsL l k)[j]? = some ((framesL (l.take (j + 1))).length : Int) := by simp [endsL, h]
theorem framesL_append (l m : List (Nat × ByteArray)) : framesL (l ++ m) = framesL l ++ framesL m := by
  induction l with
  | nil => rfl
  | cons a l ih =>
    obtain ⟨t, x⟩ := a
    show frameL t (bs x) ++ framesL (l ++ m) = frameL t (bs x) ++ framesL l ++ framesL m
    rw [ih, List.append_assoc]
theorem framesL_succ (l : List (Nat × ByteArray)) (k : Nat) (h : k < l.length) : framesL (l.take (k + 1)) = framesL (l.take k) ++ frameL l[k].1 (bs l[k].2) := by
  rw [take_snoc l k h, framesL_append]
  simp [framesL]

/-- What is scanned of frames that stand one behind the other, cut off within the frame j. -/
theorem scan_cut (l : List (Nat × ByteArray)) (j K : Nat) (h : Okay l) (hj : j < l.length) (h1 : (framesL (l.take j)).length ≤ K) (h2 : K < (framesL (l.take (j + 1))).length) :
    scanFrom (str ((framesL l).take K)) 131072 0 = (l.take j, (framesL (l.take j)).length, if K = (framesL (l.take j)).length then 0 else 40) := by
  have hx := h l[j] (List.getElem_mem hj)
  have hs := framesL_succ l j hj
  have htj : Okay (l.take j) := fun p hp => h p (List.mem_of_mem_take hp)
  have hfr := frameL_lt hx.1 (bs_lt l[j].2) (by rw [bs_len]; exact hx.2)
  have hlen : (framesL (l.take (j + 1))).length = (framesL (l.take j)).length + (frameL l[j].1 (bs l[j].2)).length := by rw [hs, List.length_append]
  have hcut : (framesL l).take K = [] ++ framesL (l.take j) ++ (frameL l[j].1 (bs l[j].2)).take (K - (framesL (l.take j)).length) := by
    have e : framesL l = framesL (l.take (j + 1)) ++ framesL (l.drop (j + 1)) := by rw [← framesL_append, List.take_append_drop]
    rw [e, List.take_append_of_le_length (by omega), hs, List.take_append, List.take_of_length_le h1]
    simp
  have hpl : ∀ c ∈ (frameL l[j].1 (bs l[j].2)).take (K - (framesL (l.take j)).length), c < 256 := fun c hc => hfr c (List.mem_of_mem_take hc)
  have hall := lt_append (framesL_lt _ htj) hpl
  have hsc := scan_frames (l.take j) [] ((frameL l[j].1 (bs l[j].2)).take (K - (framesL (l.take j)).length)) htj (by simp) hpl
  rw [← hcut] at hsc
  simp only [List.length_nil, Nat.zero_add] at hsc
  have hKl : ((framesL l).take K).length = K := by
    rw [hcut]
    simp
    omega
  rw [hsc]
  by_cases hK : K = (framesL (l.take j)).length
  · rw [if_pos hK, scan_end (by rw [str_size, hKl]; omega)]
    simp
  · rw [if_neg hK]
    have hext : (str ((framesL l).take K)).extract (framesL (l.take j)).length (str ((framesL l).take K)).size = str ((frameL l[j].1 (bs l[j].2)).take (K - (framesL (l.take j)).length)) := by
      rw [str_extract _ _ _ (by rw [hcut]; simpa using hall), str_size, hKl, hcut, List.nil_append, List.drop_left, List.take_of_length_le (by rw [List.length_take]; omega)]
    have hc := fread_cut (most := 131072) (K - (framesL (l.take j)).length) hx.1 (bs_lt l[j].2) (by rw [bs_len]; exact hx.2) (by rw [bs_len]; have := hx.2; omega) (by omega)
    have hst := @scan_stop (str ((framesL l).take K)) 131072 (framesL (l.take j)).length (by rw [str_size, hKl]; omega) (by rw [hext, hc]; decide)
    rw [hext, hc] at hst
    rw [hst]
    simp
theorem scan_whole (l : List (Nat × ByteArray)) (h : Okay l) : scanFrom (str (framesL l)) 131072 0 = (l, (framesL l).length, 0) := by
  have hsc := scan_frames l [] [] h (by simp) (by simp)
  simp only [List.length_nil, Nat.zero_add, List.nil_append, List.append_nil] at hsc
  rw [hsc, scan_end (by rw [str_size]; exact Nat.le_refl _)]
  simp
end Go.Proofs.Ytpnjcgpnannjaaa
