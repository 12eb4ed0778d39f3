/- Plain mathematics of the document's sum: the division of bits in a row, place by place. No program in sight. -/
import Derived.Test.YtpnjcgpnannjaaaSumM
namespace Go.Proofs.Ytpnjcgpnannjaaa.Crc

def powersL : List Nat := [28, 27, 26, 25, 23, 22, 20, 19, 18, 14, 13, 11, 10, 9, 8, 6, 0]
def tg (c : List Bool) (p : Nat) : List Bool := c.set p (!(c.getD p false))
def tgs (i : Nat) : List Nat → List Bool → List Bool
  | [], c => c
  | l :: L, c => tgs i L (tg c (i + 32 - l))
def par (i q : Nat) : List Nat → Bool
  | [] => false
  | l :: L => (i + 32 - l == q) != par i q L
theorem tg_len (c : List Bool) (p : Nat) : (tg c p).length = c.length := by simp [tg]
theorem tgs_len (i : Nat) (L : List Nat) : ∀ c, (tgs i L c).length = c.length := by
  induction L with
  | nil => exact fun _ => rfl
  | cons l L ih => intro c; show (tgs i L (tg c _)).length = _; rw [ih, tg_len]
theorem tgs_append (i : Nat) (L M : List Nat) : ∀ c, tgs i (L ++ M) c = tgs i M (tgs i L c) := by
  induction L with
  | nil => exact fun _ => rfl
  | cons l L ih => exact fun c => ih _
theorem tg_get (c : List Bool) (p q : Nat) (hq : q < c.length) : (tg c p).getD q false = (c.getD q false != (p == q)) := by
  unfold tg
  simp only [List.getD]
  rw [List.getElem?_set]
  by_cases h : p = q
  · subst h; simp [hq]
  · rw [if_neg h, show (p == q) = false by simpa using h]
    cases c[q]?.getD false <;> rfl
theorem tgs_get (i q : Nat) (L : List Nat) : ∀ c : List Bool, q < c.length → (tgs i L c).getD q false = (c.getD q false != par i q L) := by
  induction L with
  | nil => intro c _; simp [tgs, par]
  | cons l L ih =>
    intro c hq
    show (tgs i L (tg c (i + 32 - l))).getD q false = _
    rw [ih _ (by rw [tg_len]; exact hq), tg_get _ _ _ hq]
    simp only [par]
    generalize c.getD q false = a
    generalize (i + 32 - l == q) = b
    generalize par i q L = d
    cases a <;> cases b <;> cases d <;> rfl
theorem par_shift (i d : Nat) (L : List Nat) (hL : ∀ l ∈ L, l ≤ 32) : par i (i + 1 + d) L = par 0 (1 + d) L := by
  induction L with
  | nil => rfl
  | cons l L ih =>
    simp only [par]
    rw [ih (fun m hm => hL m (by simp [hm]))]
    have h1 := hL l (by simp)
    have e : (i + 32 - l == i + 1 + d) = (0 + 32 - l == 1 + d) := by
      rw [Bool.eq_iff_iff]; simp only [beq_iff_eq]; omega
    rw [e]
theorem par_far (i q : Nat) (L : List Nat) (hq : i + 32 < q) : par i q L = false := by
  induction L with
  | nil => rfl
  | cons l L ih =>
    simp only [par, ih]
    have e : (i + 32 - l == q) = false := by simp; omega
    rw [e]; rfl
theorem par_P (d : Nat) (hd : d < 32) : par 0 (1 + d) powersL = P.testBit d := by
  have h : ∀ d : Fin 32, par 0 (1 + d.val) powersL = P.testBit d.val := by decide
  exact h ⟨d, hd⟩
theorem powers_le : ∀ l ∈ powersL, l ≤ 32 := by decide

/-- what the row holds behind i places: the raw bits, and in the window from i on the register's -/
structure Inv (raw : List Bool) (x i : Nat) (cur : List Bool) : Prop where
  len : cur.length = raw.length
  lt : x < 4294967296
  at_ : ∀ q, i ≤ q → q < raw.length → cur.getD q false = (raw.getD q false != x.testBit (q - i))
theorem testBit_out {x k : Nat} (h : x < 4294967296) (hk : 32 ≤ k) : x.testBit k = false :=
  Nat.testBit_lt_two_pow (Nat.lt_of_lt_of_le h (by rw [show (4294967296 : Nat) = 2 ^ 32 from rfl]; exact Nat.pow_le_pow_right (by omega) hk))
theorem regBit_bit {x : Nat} (b : Bool) (j : Nat) : (regBit x b).testBit j = (x.testBit (j + 1) != ((x.testBit 0 != b) && P.testBit j)) := by
  unfold regBit step
  have h0 : ((x ^^^ b.toNat) &&& 1) = (x.testBit 0 != b).toNat := by
    rw [and_one]
    have hx : x.testBit 0 = decide (x % 2 = 1) := by simp [Nat.testBit_zero]
    rw [hx]
    cases b
    · simp only [Bool.toNat_false, Nat.xor_zero]
      rcases (show x % 2 = 0 ∨ x % 2 = 1 by omega) with h | h <;> simp [h]
    · simp only [Bool.toNat_true]
      have e : (x ^^^ 1) % 2 = (x % 2) ^^^ 1 := by rw [← and_one, ← and_one, Nat.and_xor_distrib_right]; rfl
      rcases (show x % 2 = 0 ∨ x % 2 = 1 by omega) with h | h <;> rw [e, h] <;> rfl
  rw [h0, Nat.testBit_xor, Nat.testBit_shiftRight, Nat.testBit_xor]
  have hb : (b.toNat).testBit (1 + j) = false := by cases b <;> simp ; exact Bool.eq_false_iff.2 (fun h => by have := Nat.testBit_one_eq_true_iff_self_eq_zero.1 h; omega)
  rw [hb, Nat.add_comm 1 j]
  cases (x.testBit 0 != b) <;> simp
theorem Inv.step_ {raw cur : List Bool} {x i : Nat} (h : Inv raw x i cur) (hi : i + 32 < raw.length) :
    Inv raw (regBit x (raw.getD i false)) (i + 1) (if cur.getD i false = true then tgs i powersL cur else cur) := by
  have hlow : cur.getD i false = (x.testBit 0 != raw.getD i false) := by
    rw [h.at_ i (Nat.le_refl _) (by omega), Nat.sub_self]
    cases raw.getD i false <;> cases x.testBit 0 <;> rfl
  have hlt : regBit x (raw.getD i false) < 4294967296 := by
    unfold regBit
    refine step_lt (Nat.xor_lt_two_pow (n := 32) h.lt ?_)
    cases raw.getD i false <;> decide
  refine ⟨?_, hlt, fun q hq1 hq2 => ?_⟩
  · split
    · rw [tgs_len, h.len]
    · exact h.len
  · have hbit : (regBit x (raw.getD i false)).testBit (q - (i + 1)) = (x.testBit (q - i) != (cur.getD i false && P.testBit (q - (i + 1)))) := by
      rw [regBit_bit, hlow, show q - (i + 1) + 1 = q - i by omega]
    rw [hbit]
    have hcur := h.at_ q (by omega) hq2
    split
    · rename_i hc
      rw [tgs_get i q powersL cur (by rw [h.len]; exact hq2), hcur, hc, Bool.true_and]
      have hp : par i q powersL = P.testBit (q - (i + 1)) := by
        by_cases hf : i + 32 < q
        · rw [par_far i q powersL hf]
          exact (testBit_out (x := P) (by decide) (by omega)).symm
        · have e := par_shift i (q - (i + 1)) powersL powers_le
          rw [show i + 1 + (q - (i + 1)) = q by omega] at e
          rw [e, par_P _ (by omega)]
      rw [hp]
      cases raw.getD q false <;> cases x.testBit (q - i) <;> cases P.testBit (q - (i + 1)) <;> rfl
    · rename_i hc
      have hc' : cur.getD i false = false := by simpa using hc
      rw [hcur, hc', Bool.false_and]
      cases raw.getD q false <;> cases x.testBit (q - i) <;> rfl
theorem regBits_take_succ (x : Nat) (raw : List Bool) (i : Nat) (hi : i < raw.length) : regBits x (raw.take (i + 1)) = regBit (regBits x (raw.take i)) (raw.getD i false) := by
  rw [List.take_succ_eq_append_getElem hi, regBits_append]
  simp [regBits, List.getD, hi]
/-- a row's bits with those from off on, k of them, turned -/
def flip (off k : Nat) (l : List Bool) : List Bool := l.mapIdx fun q b => if off ≤ q ∧ q < off + k then !b else b
theorem flip_len (off k : Nat) (l : List Bool) : (flip off k l).length = l.length := by simp [flip]
theorem flip_zero (off : Nat) (l : List Bool) : flip off 0 l = l := by
  apply List.ext_getElem?
  intro q
  unfold flip
  rw [List.getElem?_mapIdx]
  cases l[q]? <;> simp
theorem flip_get (off k : Nat) (l : List Bool) (q : Nat) : (flip off k l)[q]? = (l[q]?).map fun b => if off ≤ q ∧ q < off + k then !b else b := by
  unfold flip; rw [List.getElem?_mapIdx]
theorem flip_succ (off k : Nat) (l : List Bool) (h : off + k < l.length) : flip off (k + 1) l = (flip off k l).set (off + k) (!((flip off k l).getD (off + k) false)) := by
  apply List.ext_getElem?
  intro q
  rw [flip_get, List.getElem?_set]
  have hg : (flip off k l).getD (off + k) false = l[off + k] := by
    simp only [List.getD]
    rw [flip_get, List.getElem?_eq_getElem h]
    simp
  by_cases e : off + k = q
  · subst e
    rw [if_pos rfl, flip_len, if_pos h, hg, List.getElem?_eq_getElem h]
    simp
  · rw [if_neg e, flip_get]
    congr 1
    funext b
    have : (off ≤ q ∧ q < off + (k + 1)) = (off ≤ q ∧ q < off + k) := by apply propext; omega
    simp only [this]
theorem rshift_bit (R i : Nat) : R >>> i = 2 * (R >>> (i + 1)) + (R.testBit i).toNat := by
  rw [Nat.shiftRight_eq_div_pow, Nat.shiftRight_eq_div_pow, Nat.testBit_eq_decide_div_mod_eq, Nat.pow_succ, ← Nat.div_div_eq_div_mul]
  have : R / 2 ^ i % 2 = 0 ∨ R / 2 ^ i % 2 = 1 := by omega
  rcases this with h | h <;> simp [h] <;> omega
theorem F_bit (j : Nat) (hj : j < 32) : F.testBit j = true := by
  have h : ∀ d : Fin 32, F.testBit d.val = true := by decide
  exact h ⟨j, hj⟩
end Go.Proofs.Ytpnjcgpnannjaaa.Crc
