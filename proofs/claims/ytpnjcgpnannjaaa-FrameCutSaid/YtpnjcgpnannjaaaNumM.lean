/- Plain mathematics of numbers as bytes. No program in sight. -/
namespace Go.Proofs.Ytpnjcgpnannjaaa.Var

/-- a number's bytes, n + 1 of them at most -/
def enc : Nat → Nat → List Nat
  | 0, x => [x]
  | n + 1, x => if x < 128 then [x] else (128 + x % 128) :: enc n (x / 128)
theorem enc_len_le (n : Nat) : ∀ x, (enc n x).length ≤ n + 1 := by
  induction n with
  | zero => intro x; simp [enc]
  | succ n ih => intro x; simp only [enc]; split
                 · simp
                 · simp; exact ih _
def val : List Nat → Nat
  | [] => 0
  | c :: l => c % 128 + 128 * val l
theorem enc_small (n x : Nat) (h : x < 128) : enc n x = [x] := by cases n <;> simp [enc, h]
theorem enc_big (n x : Nat) (h : 128 ≤ x) : enc (n + 1) x = (128 + x % 128) :: enc n (x / 128) := by simp [enc]; omega
theorem val_append (l : List Nat) (z : Nat) : val (l ++ [z]) = val l + 128 ^ l.length * (z % 128) := by
  induction l with
  | nil => simp [val]
  | cons c l ih =>
    simp only [List.cons_append, val, ih, List.length_cons, Nat.pow_succ]
    rw [Nat.mul_add, Nat.add_assoc, ← Nat.mul_assoc, Nat.mul_comm 128 (128 ^ l.length)]
theorem val_lt (l : List Nat) : val l < 128 ^ l.length := by
  induction l with
  | nil => simp [val]
  | cons c l ih =>
    simp only [val, List.length_cons, Nat.pow_succ]
    omega
theorem enc_val (n : Nat) : ∀ x, x < 128 ^ (n + 1) → val (enc n x) = x := by
  induction n with
  | zero => intro x h; simp [enc, val] at *; omega
  | succ n ih =>
    intro x h
    by_cases hx : x < 128
    · rw [enc_small _ _ hx]; simp [val]; omega
    · rw [enc_big _ _ (by omega)]
      simp only [val]
      rw [ih (x / 128) (by rw [Nat.pow_succ] at h; omega)]
      omega
/-- bytes whose last one alone is below 128 -/
structure Form (b pre : List Nat) (z : Nat) : Prop where
  eq : b = pre ++ [z]
  big : ∀ c ∈ pre, 128 ≤ c ∧ c < 256
  small : z < 128
theorem enc_form (n : Nat) : ∀ x, x < 128 ^ (n + 1) → ∃ pre z, Form (enc n x) pre z ∧ pre.length ≤ n ∧ (pre = [] ∨ z ≠ 0) := by
  induction n with
  | zero => intro x h; simp at h; exact ⟨[], x, ⟨rfl, by simp, h⟩, by simp, .inl rfl⟩
  | succ n ih =>
    intro x h
    by_cases hx : x < 128
    · exact ⟨[], x, ⟨by rw [enc_small _ _ hx]; rfl, by simp, hx⟩, by simp, .inl rfl⟩
    · obtain ⟨pre, z, hf, hl, hz⟩ := ih (x / 128) (by rw [Nat.pow_succ] at h; omega)
      refine ⟨(128 + x % 128) :: pre, z, ⟨by rw [enc_big _ _ (by omega), hf.eq]; rfl, ?_, hf.small⟩, by simp; exact hl, .inr ?_⟩
      · intro c hc
        rcases List.mem_cons.1 hc with h1 | h1
        · omega
        · exact hf.big c h1
      · rcases hz with h1 | h1
        · subst h1
          have hv := enc_val n (x / 128) (by rw [Nat.pow_succ] at h; omega)
          rw [hf.eq] at hv
          simp [val] at hv
          have := hf.small
          omega
        · exact h1
theorem enc_lt (n x : Nat) (h : x < 128 ^ (n + 1)) : ∀ c ∈ enc n x, c < 256 := by
  obtain ⟨pre, z, hf, _, _⟩ := enc_form n x h
  intro c hc
  rw [hf.eq] at hc
  rcases List.mem_append.1 hc with h1 | h1
  · exact (hf.big c h1).2
  · simp at h1; have := hf.small; omega
theorem val_enc (n : Nat) : ∀ b pre z, Form b pre z → pre.length ≤ n → (pre = [] ∨ z ≠ 0) → enc n (val b) = b := by
  induction n with
  | zero =>
    intro b pre z hf hl _
    have : pre = [] := by simpa using hl
    subst this
    rw [hf.eq]
    have := hf.small
    simp [val, enc]; omega
  | succ n ih =>
    intro b pre z hf hl hz
    cases pre with
    | nil =>
      rw [hf.eq]
      have := hf.small
      rw [show val ([] ++ [z]) = z by simp [val]; omega, enc_small _ _ this]; rfl
    | cons c pre =>
      have hc := hf.big c (by simp)
      have hf2 : Form (pre ++ [z]) pre z := ⟨rfl, fun d hd => hf.big d (by simp [hd]), hf.small⟩
      have hz0 : z ≠ 0 := by rcases hz with h | h; simp at h; exact h
      have h2 := ih (pre ++ [z]) pre z hf2 (by simp at hl; omega) (.inr hz0)
      have hpos : 0 < val (pre ++ [z]) := by
        rw [val_append]
        have h3 : 0 < 128 ^ pre.length := Nat.pow_pos (by omega)
        have h4 : 0 < z % 128 := by have := hf.small; omega
        have := Nat.mul_pos h3 h4
        omega
      rw [hf.eq]
      show enc (n + 1) (c % 128 + 128 * val (pre ++ [z])) = c :: (pre ++ [z])
      rw [enc_big _ _ (by omega), show (c % 128 + 128 * val (pre ++ [z])) / 128 = val (pre ++ [z]) by omega, h2, show 128 + (c % 128 + 128 * val (pre ++ [z])) % 128 = c by omega]
theorem form_unique {b pre pre' : List Nat} {z z' : Nat} (h : Form b pre z) (h' : Form b pre' z') : pre = pre' ∧ z = z' := by
  have e := h.eq.symm.trans h'.eq
  have hz : z = z' := by
    have := congrArg List.getLast? e
    simpa using this
  subst hz
  exact ⟨List.append_cancel_right e, rfl⟩
/-- WHEN bytes are a number's: the last one is not 0 unless it is alone, and it fits in 64 bits -/
theorem enc_iff {b pre : List Nat} {z : Nat} (h : Form b pre z) (hl : pre.length ≤ 9) : enc 9 (val b % 18446744073709551616) = b ↔ ((pre = [] ∨ z ≠ 0) ∧ (pre.length < 9 ∨ z ≤ 1)) := by
  have hv : val b = val pre + 128 ^ pre.length * z := by rw [h.eq, val_append, Nat.mod_eq_of_lt h.small]
  have hvp := val_lt pre
  have hx : val b % 18446744073709551616 < 128 ^ (9 + 1) := Nat.lt_of_lt_of_le (Nat.mod_lt _ (by omega)) (by decide)
  have hfit : (pre.length < 9 ∨ z ≤ 1) ↔ val b < 18446744073709551616 := by
    constructor
    · rintro (h1 | h1)
      · have h2 : 128 ^ (pre.length + 1) ≤ 128 ^ 9 := Nat.pow_le_pow_right (by omega) (by omega)
        rw [Nat.pow_succ] at h2
        have h3 : 128 ^ pre.length * z ≤ 128 ^ pre.length * 127 := Nat.mul_le_mul_left _ (by have := h.small; omega)
        have h4 : (128 : Nat) ^ 9 = 9223372036854775808 := by decide
        omega
      · have h2 : 128 ^ pre.length ≤ 128 ^ 9 := Nat.pow_le_pow_right (by omega) hl
        have h3 : 128 ^ pre.length * z ≤ 128 ^ pre.length * 1 := Nat.mul_le_mul_left _ h1
        have h4 : (128 : Nat) ^ 9 = 9223372036854775808 := by decide
        omega
    · intro h1
      by_cases h2 : pre.length < 9
      · exact .inl h2
      · right
        have e : pre.length = 9 := by omega
        rw [e] at hv
        have h4 : (128 : Nat) ^ 9 = 9223372036854775808 := by decide
        rw [h4] at hv
        omega
  rw [hfit]
  constructor
  · intro he
    obtain ⟨pre', z', hf', _, hz'⟩ := enc_form 9 _ hx
    rw [he] at hf'
    obtain ⟨rfl, rfl⟩ := form_unique h hf'
    refine ⟨hz', ?_⟩
    have hv2 := enc_val 9 _ hx
    rw [he] at hv2
    have := Nat.mod_lt (val b) (show 0 < 18446744073709551616 by omega)
    omega
  · rintro ⟨h1, h2⟩
    rw [Nat.mod_eq_of_lt h2]
    exact val_enc 9 b pre z h hl h1
theorem or128 (y : Nat) : (y % 256) ||| 128 = 128 + y % 128 := by
  have h : ∀ d : Fin 256, d.val ||| 128 = 128 + d.val % 128 := by decide +kernel
  have := h ⟨y % 256, Nat.mod_lt _ (by omega)⟩
  simp only at this
  rw [this]; omega
/-- how many bytes a number has -/
theorem enc_length (n : Nat) : ∀ x, x < 128 ^ (n + 1) → ∀ k, (enc n x).length = k + 1 → (x < 128 ^ (k + 1) ∧ (k = 0 ∨ 128 ^ k ≤ x)) := by
  induction n with
  | zero => intro x h k hk; simp [enc] at hk; subst hk; exact ⟨h, .inl rfl⟩
  | succ n ih =>
    intro x h k hk
    by_cases hx : x < 128
    · rw [enc_small _ _ hx] at hk; simp at hk; subst hk; exact ⟨by simpa using hx, .inl rfl⟩
    · rw [enc_big _ _ (by omega)] at hk
      cases k with
      | zero =>
        exfalso
        have : (enc n (x / 128)).length = 0 := by simpa using hk
        cases n <;> simp [enc] at this; split at this <;> simp at this
      | succ k =>
        obtain ⟨h1, h2⟩ := ih (x / 128) (by rw [Nat.pow_succ] at h; omega) k (by simpa using hk)
        rw [Nat.pow_succ] at h1 ⊢
        refine ⟨by rw [Nat.pow_succ]; omega, .inr ?_⟩
        rw [Nat.pow_succ]
        rcases h2 with rfl | h2
        · omega
        · omega
end Go.Proofs.Ytpnjcgpnannjaaa.Var
