/- Several texts in one: BkJ. -/
import Derived.Test.YtmneflpjoaocbaaMBkI
import Derived.Test.YtmneflpjoaocbaaMWE
/- Books: plain: which records frames are, and how many bytes those have. No program in sight. -/
namespace Go.Proofs.Ytmneflpjoaocbaa
open Go.RowKit
set_option linter.unusedVariables false
theorem read_size {l : List Nat} (h : (Var.read l).2.2 = 0) (hx : (Var.read l).1 ≤ 131072) : (Var.read l).2.1 = Var.size (Var.read l).1 := by
  have hs := fun x => Var.size_len x
  unfold Var.read at h hx ⊢
  split at h
  · simp at h
  · rename_i h1
    rw [if_neg h1] at hx ⊢
    split at h
    · simp at h
    · rename_i h2
      rw [if_neg h2] at hx ⊢
      split at h
      · rename_i h3
        rw [if_pos h3] at hx ⊢
        simp only at hx ⊢
        have hl := congrArg List.length h3
        rw [List.length_take, Nat.min_eq_left (by have := Var.lead_le 10 l; omega)] at hl
        generalize Var.val (List.take (Var.lead 10 l + 1) l) % 18446744073709551616 = x at *
        rw [← hl]
        unfold Var.size
        by_cases a1 : x < 128
        · rw [if_pos a1, Var.enc_small _ _ a1]; rfl
        · rw [if_neg a1, Var.enc_big _ _ (by omega)]
          by_cases a2 : x < 16384
          · rw [if_pos a2, Var.enc_small _ _ (by omega)]; rfl
          · rw [if_neg a2, Var.enc_big _ _ (by omega), Var.enc_small _ _ (by omega)]; rfl
      · simp at h
/-- a frame that is read has as many bytes as its text says -/
theorem fread_size {s : ByteArray} {most : Int} (h : (fread s most).2.2.2 = 0) : (fread s most).2.2.1 = fsize (fread s most).2.1.size ∧ (fread s most).2.1.size ≤ 131072 ∧ (fread s most).1 < 256 := by
  have hr := fun hx => read_size (l := bs (s.extract 2 s.size)) hx
  unfold fread at h ⊢
  split at h
  · simp at h
  · rename_i h0
    rw [if_neg h0]
    split at h
    · simp at h
    · rename_i h1
      rw [if_neg h1]
      split at h
      · simp at h
      · rename_i h2
        rw [if_neg h2]
        generalize Var.read (bs (s.extract 2 s.size)) = r at *
        obtain ⟨x, k, e⟩ := r
        simp only at h hr ⊢
        unfold fbody at h ⊢
        repeat' split at h
        all_goals (try (simp at h))
        rename_i h3 h4 h5 h6 h7
        have hk := hr (by omega) (by omega)
        rw [if_neg h3, if_neg h4, if_neg h5, if_neg h6, if_neg h7]
        simp only
        have hsz : (s.extract (2 + k) (2 + k + x)).size = x := by rw [ByteArray.size_extract]; omega
        rw [hsz]
        refine ⟨by unfold fsize; omega, by omega, ?_⟩
        rw [List.getD_eq_getElem?_getD]
        cases hc : (bs s)[1]? with
        | none => simp
        | some c => exact bs_lt s c (List.mem_of_getElem? hc)
/-- how many bytes frames have -/
def gsum (l : List (Nat × ByteArray)) : Nat := (l.map fun x => fsize x.2.size).sum
theorem gsum_snoc (l : List (Nat × ByteArray)) (x : Nat × ByteArray) : gsum (l ++ [x]) = gsum l + fsize x.2.size := by simp [gsum]
theorem gsum_cons (x : Nat × ByteArray) (l : List (Nat × ByteArray)) : gsum (x :: l) = fsize x.2.size + gsum l := by simp [gsum]
theorem scan_size (s : ByteArray) (most : Int) : ∀ (f p : Nat), p ≤ s.size → p + gsum (fscan s most f p).1 ≤ s.size ∧ (∀ x ∈ (fscan s most f p).1, x.2.size ≤ 131072 ∧ x.1 < 256)
  | 0, p, hp => ⟨by simp [fscan, gsum]; exact hp, fun x hx => by simp [fscan] at hx⟩
  | f + 1, p, hp => by
    simp only [fscan]
    by_cases h : s.size ≤ p
    · rw [if_pos h]
      exact ⟨by simp [gsum]; exact hp, fun x hx => by simp at hx⟩
    · rw [if_neg h]
      by_cases he : (fread (s.extract p s.size) most).2.2.2 = 0
      · rw [if_neg (fun x => x he)]
        have hn := fread_ok he
        have hz := fread_size he
        rw [ByteArray.size_extract] at hn
        obtain ⟨i1, i2⟩ := scan_size s most f (p + (fread (s.extract p s.size) most).2.2.1) (by omega)
        refine ⟨?_, fun x hx => ?_⟩
        · simp only
          rw [gsum_cons]
          simp only
          omega
        · rcases List.mem_cons.1 hx with rfl | hx
          · exact hz.2
          · exact i2 x hx
      · rw [if_pos he]
        exact ⟨by simp [gsum]; exact hp, fun x hx => by simp at hx⟩
def framesOf (s : ByteArray) : List (Nat × ByteArray) := (scanFrom s 131072 0).1
theorem framesOf_ok (s : ByteArray) : gsum (framesOf s) ≤ s.size ∧ ∀ x ∈ framesOf s, x.2.size ≤ 131072 ∧ x.1 < 256 := by
  have := scan_size s 131072 (s.size - 0) 0 (by omega)
  exact ⟨by have := this.1; unfold framesOf scanFrom; omega, this.2⟩
/-- the records that stand at the front -/
def recsF (l : List (Nat × ByteArray)) : List (Nat × ByteArray) := l.takeWhile fun x => x.1 == 1
theorem recsF_at (l : List (Nat × ByteArray)) : ∀ (k : Nat), (∀ x ∈ l.take k, x.1 = 1) → (∀ x, l[k]? = some x → x.1 ≠ 1) → recsF l = l.take k := by
  induction l with
  | nil => intro k _ _; simp [recsF]
  | cons a l ih =>
    intro k h1 h2
    cases k with
    | zero =>
      have := h2 a (by simp)
      simp [recsF, this]
    | succ k =>
      have ha := h1 a (by simp)
      have := ih k (fun x hx => h1 x (by simp [hx])) (fun x hx => h2 x (by simpa using hx))
      simp only [recsF] at this ⊢
      rw [List.takeWhile_cons, this]
      simp [ha]
theorem gsum_take (l : List (Nat × ByteArray)) (k : Nat) : gsum (l.take k) ≤ gsum l := by
  have h := congrArg gsum (List.take_append_drop k l)
  have e : gsum (l.take k ++ l.drop k) = gsum (l.take k) + gsum (l.drop k) := by simp only [gsum, List.map_append, List.sum_append]
  omega
theorem gsum_recs (l : List (Nat × ByteArray)) : gsum (recsF l) ≤ gsum l := by
  have h : recsF l ++ l.dropWhile (fun x => x.1 == 1) = l := List.takeWhile_append_dropWhile
  have e : gsum (recsF l ++ l.dropWhile (fun x => x.1 == 1)) = gsum (recsF l) + gsum (l.dropWhile (fun x => x.1 == 1)) := by simp only [gsum, List.map_append, List.sum_append]
  rw [h] at e
  omega
theorem fsize_le (n : Nat) (h : n ≤ 131072) : fsize n ≤ 131081 := by have := vsize_le n; unfold fsize; omega
theorem stream_len : ∀ (ts : List (List UInt8)), (streamL ts).length ≤ ts.length * 127
  | [] => by simp [streamL]
  | t :: r => by
    have ih := stream_len r
    simp only [streamL, List.length_append, List.length_take, List.length_cons]
    generalize (t.getD 127 0).toNat = c
    have h1 : (if (if 127 < c then 0 else c) < 127 then ([] : List UInt8) else streamL r).length ≤ r.length * 127 := by
      by_cases h : (if 127 < c then 0 else c) < 127
      · rw [if_pos h]; simp
      · rw [if_neg h]; exact ih
    have h2 : (if 127 < c then 0 else c) ≤ 127 := by split <;> omega
    omega
theorem fcells_get (l : List (Nat × ByteArray)) : ∀ (k : Nat) (x : Nat × ByteArray), l[k]? = some x → (fcells l)[k * 2]? = some (.int .u8 (x.1 : Int)) ∧ (fcells l)[k * 2 + 1]? = some (.string x.2) := by
  induction l with
  | nil => intro k x h; simp at h
  | cons a l ih =>
    intro k x h
    have e : fcells (a :: l) = .int .u8 (a.1 : Int) :: .string a.2 :: fcells l := rfl
    cases k with
    | zero => simp at h; subst h; rw [e]; exact ⟨rfl, rfl⟩
    | succ k =>
      have := ih k x (by simpa using h)
      rw [e, show (k + 1) * 2 = k * 2 + 1 + 1 by omega, show k * 2 + 1 + 1 + 1 = (k * 2 + 1) + 1 + 1 by omega]
      simpa using this
end Go.Proofs.Ytmneflpjoaocbaa
