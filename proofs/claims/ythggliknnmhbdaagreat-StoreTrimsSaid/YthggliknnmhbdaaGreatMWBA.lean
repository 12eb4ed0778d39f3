/- Several texts in one: StH. -/
import Derived.Test.YthggliknnmhbdaaGreatMWAC
import Derived.Test.YthggliknnmhbdaaGreatMWAE
/- Heads of a store, plain: what they are, how they are read. No program in sight. -/
namespace Go.Proofs.YthggliknnmhbdaaGreat
open Go.RowKit
set_option linter.unusedVariables false
/-- a head: its generation, its snapshot -/
def hdB (g : Nat) (s : ByteArray) : ByteArray := str (Var.enc 9 g) ++ lstr s
theorem enc9_len (x : Nat) : (Var.enc 9 x).length ≤ 10 := Var.enc_len_le 9 x
theorem enc9_lt (x : Nat) (h : x < 18446744073709551616) : ∀ c ∈ Var.enc 9 x, c < 256 := Var.enc_lt 9 x (Nat.lt_of_lt_of_le h (by decide))
theorem bs_front (x : Nat) (h : x < 18446744073709551616) (t : ByteArray) : Var.read (bs (str (Var.enc 9 x) ++ t)) = (x, (Var.enc 9 x).length, 0) := by
  rw [bs_append, bs_str _ (enc9_lt x h), Var.read_enc x _ h]
theorem bs_behind (s : ByteArray) (k : Nat) (hk : k ≤ s.size) : bs (s.extract k s.size) = (bs s).drop k := by
  have h2 := bs_cut' s k hk
  rw [bs_prefix s k hk] at h2
  have h3 : (bs s).take k ++ (bs s).drop k = (bs s).take k ++ bs (s.extract k s.size) := by rw [List.take_append_drop]; exact h2
  exact (List.append_cancel_left h3).symm
theorem behind_front (l : List Nat) (t : ByteArray) : (str l ++ t).extract l.length (str l ++ t).size = t := by
  apply bs_inj
  rw [bs_behind _ _ (by rw [ByteArray.size_append, str_size]; omega), bs_append]
  have h4 : (bs (str l)).length = l.length := by simp [bs, str]
  rw [← h4, List.drop_left]
theorem hdB_size (g : Nat) (s : ByteArray) : (hdB g s).size = (Var.enc 9 g).length + ((Var.enc 9 s.size).length + s.size) := by
  unfold hdB
  rw [ByteArray.size_append, str_size, lstr_size]
theorem whole_text (s : ByteArray) : s.extract 0 s.size = s := by
  apply bs_inj
  rw [bs_prefix s s.size (Nat.le_refl _)]
  apply List.take_of_length_le
  simp [bs]
theorem no_text (s : ByteArray) : s.extract s.size s.size = ⟨#[]⟩ := by
  apply bs_inj
  have h := bs_cut' s s.size (Nat.le_refl _)
  rw [whole_text] at h
  have h2 := congrArg List.length h
  rw [List.length_append] at h2
  have h3 : (bs (s.extract s.size s.size)).length = 0 := by omega
  rw [List.length_eq_zero_iff.1 h3]
  rfl
end Go.Proofs.YthggliknnmhbdaaGreat
