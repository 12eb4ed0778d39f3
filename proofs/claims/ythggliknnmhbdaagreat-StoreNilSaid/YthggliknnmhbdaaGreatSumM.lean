/- Plain mathematics of the sums: the divisor, a step, a byte, a text; that it is linear; that it is the division by bits. No program in sight. -/
namespace Go.Proofs.YthggliknnmhbdaaGreat.Crc

def P : Nat := 2197175160
def step (x : Nat) : Nat := (x >>> 1) ^^^ ((x &&& 1) * P)
def steps : Nat → Nat → Nat
  | 0, x => x
  | n + 1, x => steps n (step x)
def tab (i : Nat) : Nat := steps 8 i
/-- the register behind a text's bytes -/
def reg (x : Nat) : List Nat → Nat
  | [] => x
  | c :: s => reg (steps 8 (x ^^^ c)) s
def F : Nat := 4294967295
def on (a : Nat) (s : List Nat) : Nat := (reg (a ^^^ F) s) ^^^ F

theorem and_one (x : Nat) : x &&& 1 = x % 2 := Nat.and_one_is_mod x
theorem step_lt {x : Nat} (h : x < 4294967296) : step x < 4294967296 := by
  unfold step
  refine Nat.xor_lt_two_pow (n := 32) ?_ ?_
  · rw [Nat.shiftRight_eq_div_pow]; omega
  · rw [and_one]; have : x % 2 = 0 ∨ x % 2 = 1 := by omega
    rcases this with h | h <;> simp [h, P]
theorem steps_lt {x : Nat} (n : Nat) (h : x < 4294967296) : steps n x < 4294967296 := by
  induction n generalizing x with
  | zero => exact h
  | succ n ih => exact ih (step_lt h)
theorem step_xor (x y : Nat) : step (x ^^^ y) = step x ^^^ step y := by
  unfold step
  have e : ((x ^^^ y) &&& 1) * P = ((x &&& 1) * P) ^^^ ((y &&& 1) * P) := by
    rw [Nat.and_xor_distrib_right, and_one, and_one]
    have hx : x % 2 = 0 ∨ x % 2 = 1 := by omega
    have hy : y % 2 = 0 ∨ y % 2 = 1 := by omega
    rcases hx with hx | hx <;> rcases hy with hy | hy <;> simp [hx, hy]
  rw [e, Nat.shiftRight_xor_distrib]
  ac_rfl
theorem steps_xor (n x y : Nat) : steps n (x ^^^ y) = steps n x ^^^ steps n y := by
  induction n generalizing x y with
  | zero => rfl
  | succ n ih => simp only [steps]; rw [step_xor, ih]
theorem step_zero : step 0 = 0 := by decide
theorem steps_zero (n : Nat) : steps n 0 = 0 := by
  induction n with
  | zero => rfl
  | succ n ih => simp only [steps, step_zero, ih]
theorem steps_add (m n x : Nat) : steps (m + n) x = steps n (steps m x) := by
  induction m generalizing x with
  | zero => simp [steps]
  | succ m ih => rw [Nat.succ_add]; simp only [steps]; exact ih _
theorem steps_succ (n x : Nat) : steps (n + 1) x = step (steps n x) := steps_add n 1 x
theorem step_double (y : Nat) : step (2 * y) = y := by
  unfold step
  rw [and_one, show 2 * y % 2 = 0 by omega, Nat.zero_mul, Nat.xor_zero, Nat.shiftRight_eq_div_pow]
  omega
theorem steps_shift (k y : Nat) : steps k (2 ^ k * y) = y := by
  induction k with
  | zero => simp [steps]
  | succ k ih =>
    simp only [steps]
    rw [show 2 ^ (k + 1) * y = 2 * (2 ^ k * y) by rw [Nat.pow_succ]; ac_rfl, step_double, ih]
theorem step_inj {x : Nat} (h : x < 4294967296) (h0 : step x = 0) : x = 0 := by
  unfold step at h0
  rw [and_one] at h0
  rcases (show x % 2 = 0 ∨ x % 2 = 1 by omega) with hx | hx
  · rw [hx, Nat.zero_mul, Nat.xor_zero, Nat.shiftRight_eq_div_pow] at h0; omega
  · rw [hx, Nat.one_mul] at h0
    have h31 : ((x >>> 1) ^^^ P).testBit 31 = false := by rw [h0]; simp
    rw [Nat.testBit_xor, Nat.testBit_shiftRight] at h31
    have hb : x.testBit (1 + 31) = false := Nat.testBit_lt_two_pow (by omega)
    rw [hb] at h31
    exact absurd h31 (by decide)
theorem steps_inj {x : Nat} (n : Nat) (h : x < 4294967296) (h0 : steps n x = 0) : x = 0 := by
  induction n generalizing x with
  | zero => exact h0
  | succ n ih => exact step_inj h (ih (step_lt h) h0)

theorem split8 (x : Nat) : x = (x % 256) ^^^ (2 ^ 8 * (x >>> 8)) := by
  apply Nat.eq_of_testBit_eq
  intro i
  rw [Nat.testBit_xor, show (256 : Nat) = 2 ^ 8 from rfl, Nat.testBit_mod_two_pow, Nat.testBit_two_pow_mul, Nat.testBit_shiftRight]
  by_cases h : i < 8
  · simp [h, show ¬ 8 ≤ i by omega]
  · simp [h, show 8 ≤ i by omega, show 8 + (i - 8) = i by omega]
/-- what the table says of a byte -/
theorem table_byte (x c : Nat) : tab ((x % 256) ^^^ c) ^^^ (x >>> 8) = steps 8 (x ^^^ c) := by
  unfold tab
  have h : x ^^^ c = ((x % 256) ^^^ c) ^^^ (2 ^ 8 * (x >>> 8)) := by
    conv => lhs; rw [split8 x]
    ac_rfl
  rw [h, steps_xor 8 ((x % 256) ^^^ c), steps_shift]
theorem reg_lt (s : List Nat) : ∀ {x : Nat}, x < 4294967296 → (∀ c ∈ s, c < 256) → reg x s < 4294967296 := by
  induction s with
  | nil => exact fun h _ => h
  | cons c s ih =>
    intro x h hs
    exact ih (steps_lt 8 (Nat.xor_lt_two_pow (n := 32) h (by have := hs c (by simp); omega))) (fun d hd => hs d (by simp [hd]))
theorem reg_append (s t : List Nat) : ∀ x, reg x (s ++ t) = reg (reg x s) t := by
  induction s with
  | nil => exact fun _ => rfl
  | cons c s ih => exact fun x => ih _
theorem F_lt : F < 4294967296 := by decide
theorem on_lt {a : Nat} {s : List Nat} (h : a < 4294967296) (hs : ∀ c ∈ s, c < 256) : on a s < 4294967296 :=
  Nat.xor_lt_two_pow (n := 32) (reg_lt s (Nat.xor_lt_two_pow (n := 32) h F_lt) hs) F_lt
theorem xor_FF (x : Nat) : x ^^^ F ^^^ F = x := by rw [Nat.xor_assoc, Nat.xor_self, Nat.xor_zero]
theorem on_append (a : Nat) (s t : List Nat) : on a (s ++ t) = on (on a s) t := by
  unfold on
  rw [reg_append, xor_FF]
theorem reg_xor (s : List Nat) : ∀ x y, reg (x ^^^ y) s = reg x s ^^^ steps (8 * s.length) y := by
  induction s with
  | nil => intro x y; simp [reg, steps]
  | cons c s ih =>
    intro x y
    simp only [reg]
    rw [show x ^^^ y ^^^ c = (x ^^^ c) ^^^ y by ac_rfl, steps_xor, ih, List.length_cons, show 8 * (s.length + 1) = 8 + 8 * s.length by omega, steps_add]
theorem reg_zeros (n : Nat) : ∀ x, reg x (List.replicate n 0) = steps (8 * n) x := by
  induction n with
  | zero => exact fun _ => rfl
  | succ n ih =>
    intro x
    rw [List.replicate_succ]
    simp only [reg]
    rw [Nat.xor_zero, ih, show 8 * (n + 1) = 8 + 8 * n by omega, steps_add]
def join (a b n : Nat) : Nat := on a (List.replicate n 0) ^^^ on 0 (List.replicate n 0) ^^^ b
theorem join_lt {a b n : Nat} (ha : a < 4294967296) (hb : b < 4294967296) : join a b n < 4294967296 := by
  unfold join
  have hz : ∀ c ∈ List.replicate n 0, c < 256 := by intro c hc; have := List.eq_of_mem_replicate hc; omega
  exact Nat.xor_lt_two_pow (n := 32) (Nat.xor_lt_two_pow (n := 32) (on_lt ha hz) (on_lt (by decide) hz)) hb
/-- THE SUM OF TWO TEXTS TOGETHER -/
theorem on_join (a : Nat) (t : List Nat) : on a t = join a (on 0 t) t.length := by
  unfold join on
  rw [reg_zeros, reg_zeros]
  have h1 := reg_xor t (0 ^^^ F) a
  rw [show (0 ^^^ F) ^^^ a = a ^^^ F by rw [Nat.zero_xor, Nat.xor_comm]] at h1
  rw [h1, show a ^^^ F = (0 ^^^ F) ^^^ a by rw [Nat.zero_xor, Nat.xor_comm], steps_xor (8 * t.length) (0 ^^^ F) a]
  generalize steps (8 * t.length) (0 ^^^ F) = u
  generalize steps (8 * t.length) a = v
  generalize reg (0 ^^^ F) t = w
  have e : (u ^^^ v ^^^ F ^^^ (u ^^^ F) ^^^ (w ^^^ F)) = (u ^^^ u) ^^^ (F ^^^ F) ^^^ (w ^^^ v ^^^ F) := by ac_rfl
  rw [e, Nat.xor_self, Nat.xor_self, Nat.zero_xor, Nat.zero_xor]
theorem cut_join (s t : List Nat) : on 0 (s ++ t) = join (on 0 s) (on 0 t) t.length := by rw [on_append, on_join]

/-! by bits -/
def bit (c k : Nat) : Nat := (c.testBit k).toNat
/-- the register behind one bit more -/
def regBit (x : Nat) (b : Bool) : Nat := step (x ^^^ b.toNat)
def regBits (x : Nat) : List Bool → Nat
  | [] => x
  | b :: l => regBits (regBit x b) l
theorem regBits_append (l m : List Bool) : ∀ x, regBits x (l ++ m) = regBits (regBits x l) m := by
  induction l with
  | nil => exact fun _ => rfl
  | cons b l ih => exact fun x => ih _
def byteBits (c : Nat) : List Bool := (List.range 8).map c.testBit
/-- k bits of c, the lowest first: as many steps of x with these bits turned in -/
theorem regBits_low (c : Nat) (k : Nat) : ∀ x, regBits x ((List.range k).map c.testBit) = steps k (x ^^^ (c % 2 ^ k)) := by
  induction k with
  | zero => intro x; simp [regBits, steps, Nat.mod_one]
  | succ k ih =>
    intro x
    rw [List.range_succ, List.map_append, regBits_append, ih]
    simp only [List.map_cons, List.map_nil, regBits, regBit]
    rw [steps_succ]
    congr 1
    have e : c % 2 ^ (k + 1) = (c % 2 ^ k) ^^^ (2 ^ k * (c.testBit k).toNat) := by
      apply Nat.eq_of_testBit_eq
      intro i
      rw [Nat.testBit_xor, Nat.testBit_mod_two_pow, Nat.testBit_mod_two_pow, Nat.testBit_two_pow_mul]
      by_cases h : i < k
      · simp [h, show i < k + 1 by omega, show ¬ k ≤ i by omega]
      · by_cases h2 : i = k
        · subst h2; cases hc : c.testBit i <;> simp
        · simp only [show ¬ i < k + 1 by omega, h, show k ≤ i by omega, decide_false, Bool.false_and, decide_true, Bool.true_and, Bool.false_xor]
          symm
          cases c.testBit k
          · simp
          · rw [Bool.toNat_true]
            exact Bool.eq_false_iff.2 (fun h => by have := Nat.testBit_one_eq_true_iff_self_eq_zero.1 h; omega)
    rw [e, ← Nat.xor_assoc, steps_xor k (x ^^^ c % 2 ^ k), steps_shift]
theorem regBits_byte (x c : Nat) (hc : c < 256) : regBits x (byteBits c) = steps 8 (x ^^^ c) := by
  unfold byteBits
  rw [regBits_low, show (2 : Nat) ^ 8 = 256 from rfl, Nat.mod_eq_of_lt hc]
def textBits (s : List Nat) : List Bool := s.flatMap byteBits
theorem regBits_text (s : List Nat) : ∀ x, (∀ c ∈ s, c < 256) → regBits x (textBits s) = reg x s := by
  induction s with
  | nil => exact fun _ _ => rfl
  | cons c s ih =>
    intro x h
    show regBits x (byteBits c ++ textBits s) = _
    rw [regBits_append, regBits_byte x c (h c (by simp)), ih _ (fun d hd => h d (by simp [hd]))]
    rfl
theorem textBits_len (s : List Nat) : (textBits s).length = 8 * s.length := by
  induction s with
  | nil => rfl
  | cons c s ih =>
    show (byteBits c ++ textBits s).length = _
    rw [List.length_append, ih, List.length_cons]
    simp [byteBits]; omega
end Go.Proofs.YthggliknnmhbdaaGreat.Crc
