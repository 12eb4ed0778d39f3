/- Plain mathematics: bits that are turned within 32 in a row change the sum. No program in sight. -/
import Derived.Test.YtpnjcgpnannjaaaSumN
namespace Go.Proofs.Ytpnjcgpnannjaaa.Crc

def num : List Bool → Nat
  | [] => 0
  | b :: l => b.toNat + 2 * num l
theorem num_testBit (l : List Bool) : ∀ j, (num l).testBit j = l.getD j false := by
  induction l with
  | nil => intro j; simp [num]
  | cons b l ih =>
    intro j
    cases j with
    | zero =>
      simp only [num, Nat.testBit_zero, List.getD_cons_zero]
      cases b <;> simp <;> omega
    | succ j =>
      simp only [num, List.getD_cons_succ]
      rw [Nat.testBit_succ, ← ih j]
      congr 1
      cases b <;> simp <;> omega
theorem xor_low (b : Bool) (v : Nat) : b.toNat + 2 * v = b.toNat ^^^ (2 * v) := by
  apply Nat.eq_of_testBit_eq
  intro j
  rw [Nat.testBit_xor]
  cases j with
  | zero => simp only [Nat.testBit_zero]; cases b <;> simp <;> omega
  | succ j =>
    rw [Nat.testBit_succ, Nat.testBit_succ, Nat.testBit_succ]
    have h1 : (b.toNat + 2 * v) / 2 = v := by cases b <;> simp <;> omega
    have h2 : b.toNat / 2 = 0 := by cases b <;> simp
    have h3 : 2 * v / 2 = v := by omega
    rw [h1, h2, h3]; simp
theorem regBits_num (l : List Bool) : ∀ x, regBits x l = steps l.length (x ^^^ num l) := by
  induction l with
  | nil => intro x; simp [regBits, steps, num]
  | cons b l ih =>
    intro x
    simp only [regBits, List.length_cons, steps, num]
    rw [ih, xor_low, ← Nat.xor_assoc, step_xor (x ^^^ b.toNat), step_double]
    rfl
def bitAt (ys : List Nat) (q : Nat) : Bool := (ys.getD (q / 8) 0).testBit (q % 8)
theorem textBits_at (ys : List Nat) : ∀ q, q < 8 * ys.length → (textBits ys).getD q false = bitAt ys q := by
  induction ys with
  | nil => intro q hq; simp at hq
  | cons c s ih =>
    intro q hq
    have hl : (byteBits c).length = 8 := by simp [byteBits]
    show (byteBits c ++ textBits s).getD q false = _
    simp only [List.getD]
    by_cases h : q < 8
    · rw [List.getElem?_append_left (by omega)]
      have e : (byteBits c)[q]? = some (c.testBit q) := by simp [byteBits, h]
      rw [e]
      simp only [bitAt, Option.getD_some]
      rw [show q / 8 = 0 by omega, show q % 8 = q by omega]
      rfl
    · rw [List.getElem?_append_right (by omega), hl]
      rw [List.length_cons] at hq
      have h2 := ih (q - 8) (by omega)
      simp only [List.getD] at h2
      rw [h2]
      unfold bitAt
      rw [show q / 8 = (q - 8) / 8 + 1 by omega, show q % 8 = (q - 8) % 8 by omega]
      rfl
theorem reg_num (ys : List Nat) (x : Nat) (h : ∀ c ∈ ys, c < 256) : reg x ys = steps (8 * ys.length) (x ^^^ num (textBits ys)) := by
  rw [← regBits_text _ _ h, regBits_num, textBits_len]
/-- what is turned behind i places from k on -/
structure TurnedAt (xs ys : List Nat) (k i b : Nat) : Prop where
  len : ys.length = xs.length
  lt : ∀ c ∈ ys, c < 256
  at_ : ∀ q, q < 8 * xs.length → bitAt ys q = (bitAt xs q != (decide (k ≤ q ∧ q < k + i) && b.testBit (q - k)))
theorem TurnedAt.start (xs : List Nat) (k b : Nat) (h : ∀ c ∈ xs, c < 256) : TurnedAt xs xs k 0 b :=
  ⟨rfl, h, fun q _ => by rw [show decide (k ≤ q ∧ q < k + 0) = false by simp]; simp⟩
theorem TurnedAt.keep {xs ys : List Nat} {k i b : Nat} (h : TurnedAt xs ys k i b) (hb : b.testBit i = false) : TurnedAt xs ys k (i + 1) b := by
  refine ⟨h.len, h.lt, fun q hq => ?_⟩
  rw [h.at_ q hq]
  congr 1
  by_cases e : q = k + i
  · subst e; rw [show k + i - k = i by omega, hb]; simp
  · congr 1; exact decide_eq_decide.2 (by omega)
theorem bitAt_set (ys : List Nat) (p q : Nat) (hp : p < 8 * ys.length) : bitAt (ys.set (p / 8) (ys.getD (p / 8) 0 ^^^ 2 ^ (p % 8))) q = (bitAt ys q != (p == q)) := by
  unfold bitAt
  simp only [List.getD]
  rw [List.getElem?_set]
  by_cases e : p / 8 = q / 8
  · rw [if_pos e, if_pos (by omega)]
    simp only [Option.getD_some]
    rw [Nat.testBit_xor, Nat.testBit_two_pow, e]
    congr 1
    rw [Bool.eq_iff_iff]
    simp
    omega
  · rw [if_neg e]
    have : (p == q) = false := by simp; intro h; subst h; exact e rfl
    rw [this]; simp
theorem TurnedAt.turn {xs ys : List Nat} {k i b : Nat} (h : TurnedAt xs ys k i b) (hb : b.testBit i = true) (hi : k + i < 8 * xs.length) :
    TurnedAt xs (ys.set ((k + i) / 8) (ys.getD ((k + i) / 8) 0 ^^^ 2 ^ ((k + i) % 8))) k (i + 1) b := by
  have hin : (k + i) / 8 < ys.length := by rw [h.len]; omega
  have hmem : ys.getD ((k + i) / 8) 0 ∈ ys := by simp [List.getD, hin]
  refine ⟨by rw [List.length_set, h.len], fun c hc => ?_, fun q hq => ?_⟩
  · rcases List.mem_or_eq_of_mem_set hc with h1 | h1
    · exact h.lt c h1
    · rw [h1]
      refine Nat.xor_lt_two_pow (n := 8) (h.lt _ hmem) ?_
      exact Nat.pow_lt_pow_right (by omega) (by omega)
  · rw [bitAt_set _ _ _ (by rw [h.len]; exact hi), h.at_ q hq]
    by_cases e : k + i = q
    · subst e
      rw [show k + i - k = i by omega, hb]
      simp
    · have e1 : (k + i == q) = false := by simpa using e
      have e2 : decide (k ≤ q ∧ q < k + (i + 1)) = decide (k ≤ q ∧ q < k + i) := decide_eq_decide.2 (by omega)
      rw [e1, e2]
      cases bitAt xs q <;> cases (decide (k ≤ q ∧ q < k + i) && b.testBit (q - k)) <;> rfl
theorem num_turned {xs ys : List Nat} {k m b : Nat} (h : TurnedAt xs ys k m b) (hm : k + m ≤ 8 * xs.length) :
    num (textBits ys) = num (textBits xs) ^^^ (2 ^ k * (b % 2 ^ m)) := by
  apply Nat.eq_of_testBit_eq
  intro q
  rw [Nat.testBit_xor, num_testBit, num_testBit, Nat.testBit_two_pow_mul, Nat.testBit_mod_two_pow]
  by_cases hq : q < 8 * xs.length
  · rw [textBits_at _ _ (by rw [h.len]; exact hq), textBits_at _ _ hq, h.at_ q hq]
    congr 1
    by_cases h1 : k ≤ q
    · by_cases h2 : q < k + m
      · simp [h1, h2, show q - k < m by omega]
      · simp [h1, h2, show ¬ q - k < m by omega]
    · simp [h1]
  · have e1 : (textBits ys).getD q false = false := by
      simp only [List.getD]
      rw [List.getElem?_eq_none (by rw [textBits_len, h.len]; omega)]; rfl
    have e2 : (textBits xs).getD q false = false := by
      simp only [List.getD]
      rw [List.getElem?_eq_none (by rw [textBits_len]; omega)]; rfl
    rw [e1, e2]
    simp; intro _ h3; omega
theorem turned_sum {xs ys : List Nat} {k m b : Nat} (h : TurnedAt xs ys k m b) (hm : k + m ≤ 8 * xs.length) (hm32 : m ≤ 32) (hx : ∀ c ∈ xs, c < 256) :
    (on 0 ys != on 0 xs) = (b % 2 ^ m != 0) := by
  have hy : b % 2 ^ m < 4294967296 := Nat.lt_of_lt_of_le (Nat.mod_lt _ (Nat.two_pow_pos m)) (by rw [show (4294967296 : Nat) = 2 ^ 32 from rfl]; exact Nat.pow_le_pow_right (by omega) hm32)
  have e : reg (0 ^^^ F) ys = reg (0 ^^^ F) xs ^^^ steps (8 * xs.length - k) (b % 2 ^ m) := by
    rw [reg_num _ _ h.lt, reg_num _ _ hx, h.len, num_turned h hm, ← Nat.xor_assoc, steps_xor _ (0 ^^^ F ^^^ num (textBits xs))]
    congr 1
    rw [show 8 * xs.length = k + (8 * xs.length - k) by omega, steps_add, steps_shift, show k + (8 * xs.length - k) - k = 8 * xs.length - k by omega]
  unfold on
  rw [e]
  generalize reg (0 ^^^ F) xs = r
  by_cases h0 : b % 2 ^ m = 0
  · rw [h0, steps_zero]; simp
  · have hne : steps (8 * xs.length - k) (b % 2 ^ m) ≠ 0 := fun h1 => h0 (steps_inj _ hy h1)
    generalize steps (8 * xs.length - k) (b % 2 ^ m) = z at *
    have h1 : (b % 2 ^ m != 0) = true := by simpa using h0
    rw [h1, bne_iff_ne]
    intro h2
    apply hne
    have h3 : (r ^^^ z ^^^ F) ^^^ (r ^^^ F) = 0 := by rw [h2, Nat.xor_self]
    have h4 : (r ^^^ z ^^^ F) ^^^ (r ^^^ F) = z := by
      have : (r ^^^ z ^^^ F) ^^^ (r ^^^ F) = (r ^^^ r) ^^^ (F ^^^ F) ^^^ z := by ac_rfl
      rw [this, Nat.xor_self, Nat.xor_self]; simp
    rw [← h4]; exact h3
theorem mod_succ_ne (b i : Nat) : (b % 2 ^ (i + 1) != 0) = ((b % 2 ^ i != 0) || b.testBit i) := by
  rw [Nat.mod_pow_succ, Nat.testBit_eq_decide_div_mod_eq]
  have hp := Nat.two_pow_pos i
  rcases (show b / 2 ^ i % 2 = 0 ∨ b / 2 ^ i % 2 = 1 by omega) with h | h
  · rw [h]; simp
  · rw [h, Nat.mul_one]
    have h1 : (b % 2 ^ i + 2 ^ i != 0) = true := by rw [bne_iff_ne]; omega
    rw [h1]; simp
end Go.Proofs.Ytpnjcgpnannjaaa.Crc
