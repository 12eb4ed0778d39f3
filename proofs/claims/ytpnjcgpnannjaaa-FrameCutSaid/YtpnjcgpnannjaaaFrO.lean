/- A frame in which bits are turned behind its length is not read: plain. -/
import Derived.Test.YtpnjcgpnannjaaaFrP
namespace Go.Proofs.Ytpnjcgpnannjaaa
open Go.RowKit
set_option linter.unusedVariables false

namespace Crc
theorem num_lt (l : List Bool) : num l < 2 ^ l.length := by
  induction l with
  | nil => simp [num]
  | cons b l ih =>
    simp only [num, List.length_cons, Nat.pow_succ]
    have : b.toNat ≤ 1 := by cases b <;> simp
    omega
theorem num_sumL (a : Nat) (h : a < 4294967296) : num (textBits (sumL a)) = a := by
  apply Nat.eq_of_testBit_eq
  intro q
  rw [num_testBit]
  by_cases hq : q < 32
  · rw [textBits_at _ _ (by simp [sumL]; omega)]
    unfold bitAt sumL
    have h4 : q / 8 = 0 ∨ q / 8 = 1 ∨ q / 8 = 2 ∨ q / 8 = 3 := by omega
    rcases h4 with e | e | e | e
    · rw [e]
      simp only [List.getD_cons_zero]
      rw [show (256 : Nat) = 2 ^ 8 from rfl, Nat.testBit_mod_two_pow, show q % 8 = q by omega]
      simp; omega
    · rw [e]
      simp only [List.getD_cons_succ, List.getD_cons_zero]
      rw [show (256 : Nat) = 2 ^ 8 from rfl, Nat.testBit_mod_two_pow, Nat.testBit_div_two_pow, show q % 8 + 8 = q by omega]
      simp; omega
    · rw [e]
      simp only [List.getD_cons_succ, List.getD_cons_zero]
      rw [show (65536 : Nat) = 2 ^ 16 from rfl, show (256 : Nat) = 2 ^ 8 from rfl, Nat.testBit_mod_two_pow, Nat.testBit_div_two_pow, show q % 8 + 16 = q by omega]
      simp; omega
    · rw [e]
      simp only [List.getD_cons_succ, List.getD_cons_zero]
      rw [show (16777216 : Nat) = 2 ^ 24 from rfl, Nat.testBit_div_two_pow, show q % 8 + 24 = q by omega]
  · have e1 : (textBits (sumL a)).getD q false = false := by
      simp only [List.getD]
      rw [List.getElem?_eq_none (by rw [textBits_len]; simp [sumL]; omega)]; rfl
    rw [e1]
    symm
    refine Nat.testBit_lt_two_pow (Nat.lt_of_lt_of_le h ?_)
    rw [show (4294967296 : Nat) = 2 ^ 32 from rfl]
    exact Nat.pow_le_pow_right (by omega) (by omega)
/-- A text with its sum behind it has always the same sum. -/
theorem residue (M : List Nat) (h : ∀ c ∈ M, c < 256) : on 0 (M ++ sumL (on 0 M)) = steps 32 F ^^^ F := by
  have ha := on_lt (a := 0) (by omega) h
  rw [on_append]
  generalize on 0 M = a at *
  unfold on
  rw [reg_num _ _ (sumL_lt ha), num_sumL a ha]
  have e : a ^^^ F ^^^ a = F := by rw [Nat.xor_comm a F, Nat.xor_assoc, Nat.xor_self, Nat.xor_zero]
  rw [e]
  rfl
/-- Ahead of what is turned all is as it was. -/
theorem TurnedAt.head {xs ys : List Nat} {k i b m : Nat} (h : TurnedAt xs ys k i b) (hx : ∀ c ∈ xs, c < 256) (hm : 8 * m ≤ k) (hl : m ≤ xs.length) : ys.take m = xs.take m := by
  apply List.ext_getElem?
  intro j
  rw [List.getElem?_take, List.getElem?_take]
  by_cases hj : j < m
  · rw [if_pos hj, if_pos hj, List.getElem?_eq_getElem (by rw [h.len]; omega), List.getElem?_eq_getElem (by omega)]
    congr 1
    apply Nat.eq_of_testBit_eq
    intro q
    by_cases hq : q < 8
    · have := h.at_ (8 * j + q) (by omega)
      rw [show decide (k ≤ 8 * j + q ∧ 8 * j + q < k + i) = false by simp; omega] at this
      unfold bitAt at this
      rw [show (8 * j + q) / 8 = j by omega, show (8 * j + q) % 8 = q by omega] at this
      simp only [List.getD, List.getElem?_eq_getElem (show j < ys.length by rw [h.len]; omega), List.getElem?_eq_getElem (show j < xs.length by omega), Option.getD_some] at this
      simpa using this
    · have h1 := h.lt _ (List.getElem_mem (show j < ys.length by rw [h.len]; omega))
      have h2 := hx _ (List.getElem_mem (show j < xs.length by omega))
      have hp : (256 : Nat) ≤ 2 ^ q := by rw [show (256 : Nat) = 2 ^ 8 from rfl]; exact Nat.pow_le_pow_right (by omega) (by omega)
      rw [Nat.testBit_lt_two_pow (by omega), Nat.testBit_lt_two_pow (by omega)]
  · rw [if_neg hj, if_neg hj]
end Crc

theorem fread_turned {tag : Nat} {T ys : List Nat} {k i b : Nat} (ht : tag < 256) (hT : ∀ c ∈ T, c < 256) (hl : T.length ≤ 131072) (h : Crc.TurnedAt (frameL tag T) ys k i b)
    (hk : 8 * (heads tag T.length).length ≤ k) (hki : k + i ≤ 8 * (frameL tag T).length) (hi : i ≤ 32) (hb : b % 2 ^ i ≠ 0) : (fread (str ys) 131072).2.2.2 = 41 := by
  have hF := frameL_lt ht hT hl
  have hfl := frameL_len tag T
  have hh := heads_lt ht (show T.length < 18446744073709551616 by omega)
  have htk := h.head hF hk (by omega)
  have e0 : (frameL tag T).take (heads tag T.length).length = heads tag T.length := by
    unfold frameL
    rw [List.append_assoc, List.take_left]
  rw [e0] at htk
  have hyl := h.len
  obtain ⟨T', hT'⟩ : ∃ T', T' = (ys.drop (heads tag T.length).length).take T.length := ⟨_, rfl⟩
  obtain ⟨C', hC'⟩ : ∃ C', C' = (ys.drop (heads tag T.length).length).drop T.length := ⟨_, rfl⟩
  have hys : ys = heads tag T.length ++ T' ++ C' := by
    have e1 := List.take_append_drop (heads tag T.length).length ys
    rw [htk] at e1
    rw [hT', hC', List.append_assoc, List.take_append_drop]
    exact e1.symm
  have hTl : T'.length = T.length := by rw [hT', List.length_take, List.length_drop]; omega
  have hCl : C'.length = 4 := by rw [hC', List.length_drop, List.length_drop]; omega
  have hTb : ∀ c ∈ T', c < 256 := fun c hc => h.lt c (by rw [hys]; simp [hc])
  have hCb : ∀ c ∈ C', c < 256 := fun c hc => h.lt c (by rw [hys]; simp [hc])
  have hp := fread_parts (tag := tag) (T := T') (C := C') (R := []) (most := 131072) ht hTb hCb (by simp) (by omega) (by omega) hCl
  rw [hTl, List.append_nil, ← hys] at hp
  have hne : ¬ C' = sumL (Crc.on 0 (heads tag T.length ++ T')) := by
    intro hc
    have h1 := Crc.turned_sum h hki hi hF
    have r1 : Crc.on 0 ys = Crc.steps 32 Crc.F ^^^ Crc.F := by
      rw [hys, hc]
      exact Crc.residue _ (lt_append hh hTb)
    have r2 : Crc.on 0 (frameL tag T) = Crc.steps 32 Crc.F ^^^ Crc.F := Crc.residue _ (lt_append hh hT)
    rw [r1, r2] at h1
    have h2 : (b % 2 ^ i != 0) = false := by rw [← h1]; simp
    exact hb (by simpa using h2)
  rw [if_neg hne] at hp
  rw [hp]
end Go.Proofs.Ytpnjcgpnannjaaa
