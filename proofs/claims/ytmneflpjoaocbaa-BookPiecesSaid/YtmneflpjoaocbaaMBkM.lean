/- Several texts in one: BkM. -/
import Derived.Test.YtmneflpjoaocbaaMBkL
/- Books: plain: what an Append leaves. No program's walk. -/
namespace Go.Proofs.Ytmneflpjoaocbaa
open Go.RowKit
set_option linter.unusedVariables false
/-- a record's frame, as bytes -/
def frB (x : ByteArray) : List UInt8 := (fraw 1 x).data.toList
def frsB (xs : List ByteArray) : List UInt8 := xs.flatMap frB
def fsz (xs : List ByteArray) : Nat := (xs.map fun x => fsize x.size).sum
theorem enc_size (x : Nat) (h : x ≤ 131072) : (Var.enc 9 x).length = Var.size x := by
  unfold Var.size
  by_cases a1 : x < 128
  · rw [if_pos a1, Var.enc_small _ _ a1]; rfl
  · rw [if_neg a1, Var.enc_big _ _ (by omega)]
    by_cases a2 : x < 16384
    · rw [if_pos a2, Var.enc_small _ _ (by omega)]; rfl
    · rw [if_neg a2, Var.enc_big _ _ (by omega), Var.enc_small _ _ (by omega)]; rfl
theorem frB_len (x : ByteArray) (h : x.size ≤ 131072) : (frB x).length = fsize x.size := by
  have h1 : (frB x).length = (fraw 1 x).size := by simp [frB]
  rw [h1]
  unfold fraw fsize
  have h2 : (⟨(sumBytes (Crc.on 0 (bs (fhead 1 x)))).toArray⟩ : ByteArray).size = 4 := by simp [ByteArray.size, sumBytes]
  rw [ByteArray.size_append, h2, fhead_size, lstr_size, enc_size _ h]
  omega
theorem frsB_len (xs : List ByteArray) (h : ∀ x ∈ xs, x.size ≤ 131072) : (frsB xs).length = fsz xs := by
  induction xs with
  | nil => rfl
  | cons a l ih =>
    have := ih (fun x hx => h x (by simp [hx]))
    simp only [frsB, fsz, List.flatMap_cons, List.length_append, List.map_cons, List.sum_cons] at this ⊢
    rw [this, frB_len a (h a (by simp))]
theorem frsB_snoc (xs : List ByteArray) (x : ByteArray) : frsB (xs ++ [x]) = frsB xs ++ frB x := by simp [frsB]
theorem fsz_snoc (xs : List ByteArray) (x : ByteArray) : fsz (xs ++ [x]) = fsz xs + fsize x.size := by simp [fsz]
theorem fsz_take (xs : List ByteArray) (k : Nat) : fsz (xs.take k) ≤ fsz xs := by
  have h := congrArg fsz (List.take_append_drop k xs)
  have e : fsz (xs.take k ++ xs.drop k) = fsz (xs.take k) + fsz (xs.drop k) := by simp only [fsz, List.map_append, List.sum_append]
  omega
theorem sB_fr (t : List UInt8) (x : ByteArray) : sB t ++ fraw 1 x = sB (t ++ frB x) := by
  conv => lhs; rw [← sB_self (fraw 1 x)]
  rw [sB_append]; rfl
/-- the sectors that a longer text turns are written, from the k-th on -/
def appW (n f : Nat) (t : List UInt8) : Nat → Nat → Dst → Int × Dst
  | 0, _, S => (0, S)
  | j + 1, k, S => if k * 127 < t.length then
      (if (wrS n S ((f : Int) + (k : Int)) (madeL t k)).1 = 0 then appW n f t j (k + 1) (wrS n S ((f : Int) + (k : Int)) (madeL t k)).2 else wrS n S ((f : Int) + (k : Int)) (madeL t k)) else (0, S)
/-- an Append: its answer; the disk; the text; is the book broken? -/
def appS (n f nn : Nat) (S : Dst) (t : List UInt8) (br : Bool) (xs : List ByteArray) : Int × Dst × List UInt8 × Bool :=
  if br then (3, S, t, br) else
  if xs.all (fun x => x.size ≤ 131072) then
    (if nn * 127 < t.length + fsz xs then (6, S, t, br) else
      if xs = [] then (0, S, t, br) else
      ((appW n f (t ++ frsB xs) (nn + 1) (t.length / 127) S).1, (appW n f (t ++ frsB xs) (nn + 1) (t.length / 127) S).2, t ++ frsB xs, (appW n f (t ++ frsB xs) (nn + 1) (t.length / 127) S).1 != 0))
  else (4, S, t, br)
end Go.Proofs.Ytmneflpjoaocbaa
