/- The walks of num.Size and num.Read. -/
import Derived.Test.YtpnjcgpnannjaaaNumA
import Derived.Test.YtpnjcgpnannjaaaShelf
import Derived.WalkMore
import Derived.OwnWalk
import Derived.Deep.LoopGhost
namespace Go.Proofs.Ytpnjcgpnannjaaa
open Go.RowKit
set_option linter.unusedVariables false

namespace Var
theorem bitLenAux_le : ∀ (f x k : Nat), x < 2 ^ f → (Lib.bitLenAux f x ≤ k ↔ x < 2 ^ k) := by
  intro f
  induction f with
  | zero =>
    intro x k h
    have : x = 0 := by simpa using h
    subst this
    simp [Lib.bitLenAux, Nat.pow_pos]
  | succ f ih =>
    intro x k h
    simp only [Lib.bitLenAux]
    split
    · subst x
      simp [Nat.pow_pos]
    · cases k with
      | zero => simp; omega
      | succ k =>
        have := ih (x / 2) k (by rw [Nat.pow_succ] at h; omega)
        rw [Nat.pow_succ]
        omega
/-- how many bytes a small number has -/
def size (x : Nat) : Nat := if x < 128 then 1 else if x < 16384 then 2 else 3
theorem size_len (x : Nat) (h : x ≤ 131072) : max 1 ((Lib.bitLen x + 6) / 7) = size x := by
  have hb := fun k => bitLenAux_le 64 x k (by omega)
  have h7 := hb 7
  have h14 := hb 14
  have h21 := hb 21
  unfold size
  unfold Lib.bitLen
  simp only [Nat.reducePow] at h7 h14 h21
  split
  · omega
  · split
    · omega
    · omega
theorem size_enc (x : Nat) (h : x ≤ 131072) : (enc 9 x).length = size x := by
  unfold size
  simp only [enc]
  split
  · simp
  · split
    · rw [if_pos (show x < 16384 by omega)]; simp
    · rw [if_neg (show ¬ x < 16384 by omega), if_pos (show x / 128 / 128 < 128 by omega)]; simp

/-- how many bytes from 128 on stand at the front, n at most -/
def lead : Nat → List Nat → Nat
  | 0, _ => 0
  | _ + 1, [] => 0
  | n + 1, c :: l => if 128 ≤ c then lead n l + 1 else 0
theorem lead_eq : ∀ (n : Nat) (l : List Nat) (k : Nat), (∀ j, j < k → 128 ≤ l.getD j 0) → k ≤ n → k ≤ l.length → (k = n ∨ k = l.length ∨ l.getD k 0 < 128) → lead n l = k := by
  intro n
  induction n with
  | zero => intro l k _ h2 _ _; simp [lead]; omega
  | succ n ih =>
    intro l k h1 h2 h3 h4
    cases l with
    | nil => simp at h3; simp [lead]; omega
    | cons c l =>
      simp only [lead]
      cases k with
      | zero =>
        rw [if_neg]
        rcases h4 with h | h | h
        · omega
        · simp at h
        · simp at h; omega
      | succ k =>
        rw [if_pos (by simpa using h1 0 (by omega))]
        rw [ih l k (fun j hj => by simpa using h1 (j + 1) (by omega)) (by omega) (by simpa using h3) (by
          rcases h4 with h | h | h
          · left; omega
          · right; left; simpa using h
          · right; right; simpa using h)]
/-- what is read of bytes: the number, how many bytes it has, the error -/
def read (l : List Nat) : Nat × Nat × Nat :=
  if lead 10 l = 10 then (0, 0, 8) else if lead 10 l = l.length then (0, 0, 10) else
    if enc 9 (val (l.take (lead 10 l + 1)) % 18446744073709551616) = l.take (lead 10 l + 1) then (val (l.take (lead 10 l + 1)) % 18446744073709551616, lead 10 l + 1, 0) else (0, 0, 8)
theorem read_ten {l : List Nat} (h : ∀ j, j < 10 → 128 ≤ l.getD j 0) (hl : 10 ≤ l.length) : read l = (0, 0, 8) := by
  unfold read
  rw [lead_eq 10 l 10 h (by omega) hl (.inl rfl), if_pos rfl]
theorem read_short {l : List Nat} (h : ∀ j, j < l.length → 128 ≤ l.getD j 0) (hl : l.length < 10) : read l = (0, 0, 10) := by
  unfold read
  rw [lead_eq 10 l l.length h (by omega) (Nat.le_refl _) (.inr (.inl rfl)), if_neg (by omega), if_pos rfl]
theorem read_at {l : List Nat} {k : Nat} (h : ∀ j, j < k → 128 ≤ l.getD j 0) (hb : ∀ c ∈ l, c < 256) (hk : k < 10) (hl : k < l.length) (hz : l.getD k 0 < 128) :
    read l = if ((k = 0 ∨ l.getD k 0 ≠ 0) ∧ (k < 9 ∨ l.getD k 0 ≤ 1)) then (val (l.take (k + 1)) % 18446744073709551616, k + 1, 0) else (0, 0, 8) := by
  have hf : Form (l.take (k + 1)) (l.take k) (l.getD k 0) := by
    refine ⟨?_, ?_, hz⟩
    · rw [List.take_succ_eq_append_getElem hl]; simp [List.getD, List.getElem?_eq_getElem hl]
    · intro c hc
      obtain ⟨i, hi, rfl⟩ := List.mem_iff_getElem.1 hc
      have hi' : i < k := by rw [List.length_take] at hi; omega
      have h1 := h i hi'
      simp only [List.getD, List.getElem?_eq_getElem (show i < l.length by omega), Option.getD_some] at h1
      rw [List.getElem_take]
      exact ⟨h1, hb _ (List.getElem_mem _)⟩
  have hi := enc_iff hf (by have := List.length_take (i := k) (l := l); omega)
  unfold read
  rw [lead_eq 10 l k h (by omega) (by omega) (.inr (.inr hz)), if_neg (show ¬ k = 10 by omega), if_neg (show ¬ k = l.length by omega)]
  have hlen : (l.take k).length = k := by rw [List.length_take]; omega
  have h0 : (l.take k = [] ↔ k = 0) := by
    constructor
    · intro h; have := congrArg List.length h; rw [hlen] at this; simpa using this
    · rintro rfl; simp
  rw [hlen, h0] at hi
  by_cases hc : (k = 0 ∨ l.getD k 0 ≠ 0) ∧ (k < 9 ∨ l.getD k 0 ≤ 1)
  · rw [if_pos hc, if_pos (hi.2 hc)]
  · rw [if_neg hc, if_neg (fun h => hc (hi.1 h))]
theorem val_or (l : List Nat) (k z : Nat) (hk : k ≤ 9) (hl : l.length = k) (hz : z < 128) :
    (val l % 18446744073709551616) ||| (z * 2 ^ (7 * k) % 18446744073709551616) = (val l + 128 ^ k * z) % 18446744073709551616 := by
  have hv := val_lt l
  rw [hl] at hv
  have e7 : (128 : Nat) ^ k = 2 ^ (7 * k) := by rw [show (128 : Nat) = 2 ^ 7 from rfl, ← Nat.pow_mul]
  rw [e7] at hv ⊢
  have e64 : (18446744073709551616 : Nat) = 2 ^ (7 * k) * 2 ^ (64 - 7 * k) := by rw [← Nat.pow_add, show 7 * k + (64 - 7 * k) = 64 by omega]
  have hle : 2 ^ (7 * k) ≤ (18446744073709551616 : Nat) := by
    have : (2 : Nat) ^ (7 * k) ≤ 2 ^ 64 := Nat.pow_le_pow_right (by omega) (by omega)
    simpa using this
  rw [Nat.mod_eq_of_lt (Nat.lt_of_lt_of_le hv hle), Nat.mul_comm z, e64, Nat.mul_mod_mul_left]
  rw [Nat.or_comm, ← Nat.two_pow_add_eq_or_of_lt hv]
  rw [← e64, Nat.add_comm (val l), Nat.add_mod, Nat.mod_eq_of_lt (Nat.lt_of_lt_of_le hv hle), e64, Nat.mul_mod_mul_left]
  refine (Nat.mod_eq_of_lt ?_).symm
  have h1 : z % 2 ^ (64 - 7 * k) < 2 ^ (64 - 7 * k) := Nat.mod_lt _ (Nat.pow_pos (by omega))
  calc 2 ^ (7 * k) * (z % 2 ^ (64 - 7 * k)) + val l < 2 ^ (7 * k) * (z % 2 ^ (64 - 7 * k)) + 2 ^ (7 * k) := by omega
    _ = 2 ^ (7 * k) * (z % 2 ^ (64 - 7 * k) + 1) := by rw [Nat.mul_add, Nat.mul_one]
    _ ≤ 2 ^ (7 * k) * 2 ^ (64 - 7 * k) := Nat.mul_le_mul_left _ h1
end Var

theorem or_walk (V c k : Nat) (hc : c < 256) (hV : V < 18446744073709551616) : bits .or .u64 (V : Int) (IntKind.u64.wrap (IntKind.u64.wrap (bits .and .u8 (c : Int) 127) * 2 ^ (7 * k))) = ((V ||| (c % 128 * 2 ^ (7 * k) % 18446744073709551616) : Nat) : Int) := by
  have h1 : bits .and .u8 (c : Int) 127 = ((c % 128 : Nat) : Int) := by
    have h := u8_and_nat c 127 hc (by omega)
    rw [show (127 : Nat) = 2 ^ 7 - 1 from rfl, Nat.and_two_pow_sub_one_eq_mod] at h
    simpa using h
  rw [h1]
  have h2 : ∀ y : Nat, IntKind.u64.wrap (y : Int) = ((y % 18446744073709551616 : Nat) : Int) := by
    intro y
    simp only [IntKind.wrap, IntKind.signed, IntKind.bits]
    simp
  rw [h2, Nat.mod_eq_of_lt (show c % 128 < 18446744073709551616 by omega)]
  rw [show ((c % 128 : Nat) : Int) * 2 ^ (7 * k) = ((c % 128 * 2 ^ (7 * k) : Nat) : Int) by simp, h2]
  exact u64_or_nat _ _ hV (Nat.mod_lt _ (by omega))
theorem nsize_any (x : Nat) (w : World) (hx : x ≤ 131072) :
    Calls Try.prog 25 #[.int .u64 x] w fun e w' => e = .returned (.int .i64 (Var.size x)) ∧ w' = w := by
  have hs := Var.size_len x hx
  go_enter Try.func25, Try.ntmps25
  go_wp2_with fail
  refine (Try.bits_Len64 x w (by omega) (by omega)).mono ?_
  rintro e w' ⟨rfl, rfl⟩
  rw [Int.toNat_natCast]
  have hle : Lib.bitLen x ≤ 64 := (Var.bitLenAux_le 64 x 64 (by omega)).2 (by omega)
  clear hx
  generalize Lib.bitLen x = b at *
  go_wp2
  go_ret
  refine ⟨?_, rfl⟩
  simp
  omega

set_option maxHeartbeats 1000000 in
set_option maxRecDepth 100000 in
theorem nread_any (s : ByteArray) (w : World) (hs : s.size ≤ 9223372036854775807) :
    Calls Try.prog 26 #[.string s] w fun e w' => e = .returned (.tuple #[.int .u64 (Var.read (bs s)).1, .int .i64 (Var.read (bs s)).2.1, .int .i64 (Var.read (bs s)).2.2]) ∧ w' = w := by
  go_enter Try.func26, Try.ntmps26
  go_wp2
  go_step3
  go_wp2
  go_step3
  go_wp2
  go_loop [2, 3, 5] (fun x n last => ∃ k z : Nat, k ≤ 10 ∧ k ≤ s.size ∧ x = .int .u64 ((Var.val ((bs s).take k) % 18446744073709551616 : Nat) : Int) ∧ n = .int .i64 k ∧ last = .int .u8 z ∧ 128 ≤ z ∧ z < 256 ∧ ∀ j, j < k → 128 ≤ (bs s).getD j 0) (fun _ n _ => 10 - (intOf n).toNat)
  case atStart => exact ⟨0, 128, by omega, by omega, rfl, rfl, rfl, by omega, by omega, by omega⟩
  case round =>
    obtain ⟨k, z, hk, hks, rfl, rfl, rfl, hz1, hz2, hall⟩ := hrel
    have HA := Lib.hid hall
    clear hall
    by_cases hk10 : k < 10
    · by_cases hlt : k < s.size
      · have hix : (s[k]'hlt).toNat = (bs s).getD k 0 := by
          have hk' : k < s.data.size := hlt
          simp [bs, List.getD]
          rw [Array.getElem?_eq_getElem hk']
          rfl
        have hc8 : (bs s).getD k 0 < 256 := by
          have hm : (bs s).getD k 0 ∈ bs s := by simp [List.getD, List.getElem?_eq_getElem (show k < (bs s).length by rw [bs_len]; omega)]
          exact bs_lt s _ hm
        have htk : (bs s).take (k + 1) = (bs s).take k ++ [(bs s).getD k 0] := by
          rw [List.take_succ_eq_append_getElem (show k < (bs s).length by rw [bs_len]; omega)]
          simp [List.getD, List.getElem?_eq_getElem (show k < (bs s).length by rw [bs_len]; omega)]
        have hX : bits .or .u64 ((Var.val ((bs s).take k) % 18446744073709551616 : Nat) : Int) (IntKind.u64.wrap (IntKind.u64.wrap (bits .and .u8 (((bs s).getD k 0 : Nat) : Int) 127) * 2 ^ (7 * k))) = ((Var.val ((bs s).take (k + 1)) % 18446744073709551616 : Nat) : Int) := by
          rw [htk, Var.val_append, show ((bs s).take k).length = k by rw [List.length_take, bs_len]; omega]
          rw [← Var.val_or _ _ _ (by omega) (by rw [List.length_take, bs_len]; omega) (Nat.mod_lt _ (by omega))]
          have hV : Var.val ((bs s).take k) % 18446744073709551616 < 18446744073709551616 := Nat.mod_lt _ (by omega)
          generalize Var.val ((bs s).take k) % 18446744073709551616 = V at *
          exact or_walk V _ k hc8 hV
        clear htk
        have hr : (bs s).getD k 0 < 128 → _ := fun hz => Var.read_at HA.out (bs_lt s) hk10 (by rw [bs_len]; exact hlt) hz
        have HR := Lib.hid hr
        clear hr
        generalize hXX : Var.val ((bs s).take (k + 1)) % 18446744073709551616 = X at *
        generalize hV : Var.val ((bs s).take k) % 18446744073709551616 = V at *
        generalize hc : (bs s).getD k 0 = c at *
        by_cases hcs : c < 128
        · go_wp2
          all_goals try rw [Exit.noGoto_ret]
          all_goals go_ret3
          all_goals rw [HR.out hcs]
          all_goals first
            | (rw [if_neg (by omega)]; exact ⟨rfl, rfl⟩)
            | (rw [if_pos (by omega)]; refine ⟨?_, rfl⟩; simp; try omega)
        · go_wp2
          go_round
          case rel => exact ⟨k + 1, c, by omega, by omega, by rw [hXX], by go_num, rfl, by omega, by omega, fun j hj => by
            rcases Nat.lt_or_ge j k with h | h
            · exact HA.out j h
            · obtain rfl : j = k := by omega
              omega⟩
          case measure => simp [intOf]; omega
      · obtain rfl : k = s.size := by omega
        have hr := Lib.hid (Var.read_short (l := bs s) (by rw [bs_len]; exact HA.out) (by rw [bs_len]; exact hk10))
        go_wp2
        try rw [Exit.noGoto_ret]
        go_ret3
        rw [hr.out]
        exact ⟨rfl, rfl⟩
    · obtain rfl : k = 10 := by omega
      have hr := Lib.hid (Var.read_ten (l := bs s) HA.out (by rw [bs_len]; exact hks))
      go_wp2
      all_goals try rw [Exit.noGoto_ret]
      all_goals go_ret3
      all_goals rw [hr.out]
      all_goals exact ⟨rfl, rfl⟩
end Go.Proofs.Ytpnjcgpnannjaaa
