/- Which frames stand one behind the other in a text, in plain lists. -/
import Derived.Test.YtpnjcgpnannjaaaFrC
namespace Go.Proofs.Ytpnjcgpnannjaaa
open Go.RowKit
set_option linter.unusedVariables false

theorem fread_ok {s : ByteArray} {most : Int} (h : (fread s most).2.2.2 = 0) : 7 ≤ (fread s most).2.2.1 ∧ (fread s most).2.2.1 ≤ s.size := by
  have hk : (Var.read (bs (s.extract 2 s.size))).2.2 = 0 → 1 ≤ (Var.read (bs (s.extract 2 s.size))).2.1 := by
    unfold Var.read
    split
    · simp
    · split
      · simp
      · split
        · simp
        · simp
  unfold fread at h ⊢
  split at h
  · simp at h
  · rename_i h0
    rw [if_neg h0]
    split at h
    · simp at h
    · rename_i h1
      rw [if_neg h1]
      split at h
      · simp at h
      · rename_i h2
        rw [if_neg h2]
        generalize Var.read (bs (s.extract 2 s.size)) = r at *
        obtain ⟨x, k, e⟩ := r
        simp only at h hk ⊢
        unfold fbody at h ⊢
        repeat' split at h
        all_goals (try (simp at h))
        rename_i h3 h4 h5 h6 h7
        have := hk (by omega)
        rw [if_neg h3, if_neg h4, if_neg h5, if_neg h6, if_neg h7]
        simp only
        omega
/-- from a place on: the frames, where they end, the error -/
def fscan (s : ByteArray) (most : Int) : Nat → Nat → List (Nat × ByteArray) × Nat × Nat
  | 0, p => ([], p, 0)
  | f + 1, p => if s.size ≤ p then ([], p, 0) else if (fread (s.extract p s.size) most).2.2.2 ≠ 0 then ([], p, (fread (s.extract p s.size) most).2.2.2) else
    (((fread (s.extract p s.size) most).1, (fread (s.extract p s.size) most).2.1) :: (fscan s most f (p + (fread (s.extract p s.size) most).2.2.1)).1, (fscan s most f (p + (fread (s.extract p s.size) most).2.2.1)).2)
def scanFrom (s : ByteArray) (most : Int) (p : Nat) := fscan s most (s.size - p) p
theorem fscan_fuel (s : ByteArray) (most : Int) : ∀ (f g p : Nat), s.size - p ≤ f → s.size - p ≤ g → fscan s most f p = fscan s most g p := by
  intro f
  induction f with
  | zero =>
    intro g p hf hg
    cases g with
    | zero => rfl
    | succ g => simp only [fscan]; rw [if_pos (by omega)]
  | succ f ih =>
    intro g p hf hg
    cases g with
    | zero => simp only [fscan]; rw [if_pos (by omega)]
    | succ g =>
      simp only [fscan]
      by_cases h : s.size ≤ p
      · rw [if_pos h, if_pos h]
      · rw [if_neg h, if_neg h]
        by_cases he : (fread (s.extract p s.size) most).2.2.2 = 0
        · have hn := fread_ok he
          rw [if_neg (fun x => x he), if_neg (fun x => x he), ih g _ (by omega) (by omega)]
        · rw [if_pos he, if_pos he]
theorem scan_end {s : ByteArray} {most : Int} {p : Nat} (h : s.size ≤ p) : scanFrom s most p = ([], p, 0) := by
  unfold scanFrom
  rw [show s.size - p = 0 by omega]
  rfl
theorem scan_stop {s : ByteArray} {most : Int} {p : Nat} (h : p < s.size) (he : (fread (s.extract p s.size) most).2.2.2 ≠ 0) : scanFrom s most p = ([], p, (fread (s.extract p s.size) most).2.2.2) := by
  unfold scanFrom
  rw [show s.size - p = (s.size - p - 1) + 1 by omega]
  simp only [fscan]
  rw [if_neg (by omega), if_pos he]
theorem scan_next {s : ByteArray} {most : Int} {p : Nat} (h : p < s.size) (he : (fread (s.extract p s.size) most).2.2.2 = 0) :
    scanFrom s most p = (((fread (s.extract p s.size) most).1, (fread (s.extract p s.size) most).2.1) :: (scanFrom s most (p + (fread (s.extract p s.size) most).2.2.1)).1, (scanFrom s most (p + (fread (s.extract p s.size) most).2.2.1)).2) := by
  have hn := fread_ok he
  unfold scanFrom
  rw [show s.size - p = (s.size - p - 1) + 1 by omega]
  simp only [fscan]
  rw [if_neg (by omega), if_neg (fun x => x he), fscan_fuel s most (s.size - p - 1) (s.size - (p + (fread (s.extract p s.size) most).2.2.1)) _ (by omega) (by omega)]

/-- the cells of a row of frames -/
def fcells (l : List (Nat × ByteArray)) : List Value := l.flatMap fun p => [.int .u8 (p.1 : Int), .string p.2]
theorem fcells_snoc (l : List (Nat × ByteArray)) (t : Nat) (x : ByteArray) : fcells (l ++ [(t, x)]) = fcells l ++ [.int .u8 (t : Int), .string x] := by simp [fcells]
theorem fcells_len (l : List (Nat × ByteArray)) : (fcells l).length = l.length * 2 := by
  induction l with
  | nil => rfl
  | cons a l ih =>
    have : fcells (a :: l) = [.int .u8 (a.1 : Int), .string a.2] ++ fcells l := rfl
    rw [this, List.length_append, ih]
    simp
    omega
/-- what a scanner answers -/
def FScan (s : ByteArray) (most : Int) (w : World) (e : Ending) (w' : World) : Prop :=
  ∃ v, e = .returned (.tuple #[v, .int .i64 (scanFrom s most 0).2.1, .int .i64 (scanFrom s most 0).2.2]) ∧ w'.ownsRow w.heap.size 31 2 v (scanFrom s most 0).1.length (fcells (scanFrom s most 0).1) ∧ Below w.heap.size w w'
end Go.Proofs.Ytpnjcgpnannjaaa
