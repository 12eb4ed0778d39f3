/- Several texts in one: SumM, SumA, SumB, SumN, SumR, SumQ, NumM, SumP, NumA, SumT. -/
import Derived.Test.YtmneflpjoaocbaaGreatMWAA
import Derived.Test.YtmneflpjoaocbaaGreatRows
import Derived.Laws.BitsAllLaws
import Derived.Laws.BytesArg
import Derived.Deep.QuietTactic
import Derived.BigQuiet
import Derived.Deep.RegionHeld3
import Derived.Deep.Cut
import Derived.Deep.CutRange
import Derived.Deep.CutBlock
import Derived.Deep.RegionWith
/- Plain mathematics of the sums: the divisor, a step, a byte, a text; that it is linear; that it is the division by bits. No program in sight. -/
namespace Go.Proofs.YtmneflpjoaocbaaGreat.Crc

set_option maxRecDepth 100000
def P : Nat := 2197175160
def step (x : Nat) : Nat := (x >>> 1) ^^^ ((x &&& 1) * P)
def steps : Nat → Nat → Nat
  | 0, x => x
  | n + 1, x => steps n (step x)
def tab (i : Nat) : Nat := steps 8 i
/-- the register behind a text's bytes -/
def reg (x : Nat) : List Nat → Nat
  | [] => x
  | c :: s => reg (steps 8 (x ^^^ c)) s
def F : Nat := 4294967295
def on (a : Nat) (s : List Nat) : Nat := (reg (a ^^^ F) s) ^^^ F

theorem and_one (x : Nat) : x &&& 1 = x % 2 := Nat.and_one_is_mod x
theorem step_lt {x : Nat} (h : x < 4294967296) : step x < 4294967296 := by
  unfold step
  refine Nat.xor_lt_two_pow (n := 32) ?_ ?_
  · rw [Nat.shiftRight_eq_div_pow]; omega
  · rw [and_one]; have : x % 2 = 0 ∨ x % 2 = 1 := by omega
    rcases this with h | h <;> simp [h, P]
theorem steps_lt {x : Nat} (n : Nat) (h : x < 4294967296) : steps n x < 4294967296 := by
  induction n generalizing x with
  | zero => exact h
  | succ n ih => exact ih (step_lt h)
theorem step_xor (x y : Nat) : step (x ^^^ y) = step x ^^^ step y := by
  unfold step
  have e : ((x ^^^ y) &&& 1) * P = ((x &&& 1) * P) ^^^ ((y &&& 1) * P) := by
    rw [Nat.and_xor_distrib_right, and_one, and_one]
    have hx : x % 2 = 0 ∨ x % 2 = 1 := by omega
    have hy : y % 2 = 0 ∨ y % 2 = 1 := by omega
    rcases hx with hx | hx <;> rcases hy with hy | hy <;> simp [hx, hy]
  rw [e, Nat.shiftRight_xor_distrib]
  ac_rfl
theorem steps_xor (n x y : Nat) : steps n (x ^^^ y) = steps n x ^^^ steps n y := by
  induction n generalizing x y with
  | zero => rfl
  | succ n ih => simp only [steps]; rw [step_xor, ih]
theorem steps_add (m n x : Nat) : steps (m + n) x = steps n (steps m x) := by
  induction m generalizing x with
  | zero => simp [steps]
  | succ m ih => rw [Nat.succ_add]; simp only [steps]; exact ih _
theorem steps_succ (n x : Nat) : steps (n + 1) x = step (steps n x) := steps_add n 1 x
theorem step_double (y : Nat) : step (2 * y) = y := by
  unfold step
  rw [and_one, show 2 * y % 2 = 0 by omega, Nat.zero_mul, Nat.xor_zero, Nat.shiftRight_eq_div_pow]
  omega
theorem steps_shift (k y : Nat) : steps k (2 ^ k * y) = y := by
  induction k with
  | zero => simp [steps]
  | succ k ih =>
    simp only [steps]
    rw [show 2 ^ (k + 1) * y = 2 * (2 ^ k * y) by rw [Nat.pow_succ]; ac_rfl, step_double, ih]
theorem split8 (x : Nat) : x = (x % 256) ^^^ (2 ^ 8 * (x >>> 8)) := by
  apply Nat.eq_of_testBit_eq
  intro i
  rw [Nat.testBit_xor, show (256 : Nat) = 2 ^ 8 from rfl, Nat.testBit_mod_two_pow, Nat.testBit_two_pow_mul, Nat.testBit_shiftRight]
  by_cases h : i < 8
  · simp [h, show ¬ 8 ≤ i by omega]
  · simp [h, show 8 ≤ i by omega, show 8 + (i - 8) = i by omega]
/-- what the table says of a byte -/
theorem table_byte (x c : Nat) : tab ((x % 256) ^^^ c) ^^^ (x >>> 8) = steps 8 (x ^^^ c) := by
  unfold tab
  have h : x ^^^ c = ((x % 256) ^^^ c) ^^^ (2 ^ 8 * (x >>> 8)) := by
    conv => lhs; rw [split8 x]
    ac_rfl
  rw [h, steps_xor 8 ((x % 256) ^^^ c), steps_shift]
theorem reg_lt (s : List Nat) : ∀ {x : Nat}, x < 4294967296 → (∀ c ∈ s, c < 256) → reg x s < 4294967296 := by
  induction s with
  | nil => exact fun h _ => h
  | cons c s ih =>
    intro x h hs
    exact ih (steps_lt 8 (Nat.xor_lt_two_pow (n := 32) h (by have := hs c (by simp); omega))) (fun d hd => hs d (by simp [hd]))
theorem reg_append (s t : List Nat) : ∀ x, reg x (s ++ t) = reg (reg x s) t := by
  induction s with
  | nil => exact fun _ => rfl
  | cons c s ih => exact fun x => ih _
theorem F_lt : F < 4294967296 := by decide
theorem on_lt {a : Nat} {s : List Nat} (h : a < 4294967296) (hs : ∀ c ∈ s, c < 256) : on a s < 4294967296 :=
  Nat.xor_lt_two_pow (n := 32) (reg_lt s (Nat.xor_lt_two_pow (n := 32) h F_lt) hs) F_lt
def bit (c k : Nat) : Nat := (c.testBit k).toNat
/-- the register behind one bit more -/
def regBit (x : Nat) (b : Bool) : Nat := step (x ^^^ b.toNat)
def regBits (x : Nat) : List Bool → Nat
  | [] => x
  | b :: l => regBits (regBit x b) l
theorem regBits_append (l m : List Bool) : ∀ x, regBits x (l ++ m) = regBits (regBits x l) m := by
  induction l with
  | nil => exact fun _ => rfl
  | cons b l ih => exact fun x => ih _
def byteBits (c : Nat) : List Bool := (List.range 8).map c.testBit
/-- k bits of c, the lowest first: as many steps of x with these bits turned in -/
theorem regBits_low (c : Nat) (k : Nat) : ∀ x, regBits x ((List.range k).map c.testBit) = steps k (x ^^^ (c % 2 ^ k)) := by
  induction k with
  | zero => intro x; simp [regBits, steps, Nat.mod_one]
  | succ k ih =>
    intro x
    rw [List.range_succ, List.map_append, regBits_append, ih]
    simp only [List.map_cons, List.map_nil, regBits, regBit]
    rw [steps_succ]
    congr 1
    have e : c % 2 ^ (k + 1) = (c % 2 ^ k) ^^^ (2 ^ k * (c.testBit k).toNat) := by
      apply Nat.eq_of_testBit_eq
      intro i
      rw [Nat.testBit_xor, Nat.testBit_mod_two_pow, Nat.testBit_mod_two_pow, Nat.testBit_two_pow_mul]
      by_cases h : i < k
      · simp [h, show i < k + 1 by omega, show ¬ k ≤ i by omega]
      · by_cases h2 : i = k
        · subst h2; cases hc : c.testBit i <;> simp
        · simp only [show ¬ i < k + 1 by omega, h, show k ≤ i by omega, decide_false, Bool.false_and, decide_true, Bool.true_and, Bool.false_xor]
          symm
          cases c.testBit k
          · simp
          · rw [Bool.toNat_true]
            exact Bool.eq_false_iff.2 (fun h => by have := Nat.testBit_one_eq_true_iff_self_eq_zero.1 h; omega)
    rw [e, ← Nat.xor_assoc, steps_xor k (x ^^^ c % 2 ^ k), steps_shift]
theorem regBits_byte (x c : Nat) (hc : c < 256) : regBits x (byteBits c) = steps 8 (x ^^^ c) := by
  unfold byteBits
  rw [regBits_low, show (2 : Nat) ^ 8 = 256 from rfl, Nat.mod_eq_of_lt hc]
def textBits (s : List Nat) : List Bool := s.flatMap byteBits
theorem regBits_text (s : List Nat) : ∀ x, (∀ c ∈ s, c < 256) → regBits x (textBits s) = reg x s := by
  induction s with
  | nil => exact fun _ _ => rfl
  | cons c s ih =>
    intro x h
    show regBits x (byteBits c ++ textBits s) = _
    rw [regBits_append, regBits_byte x c (h c (by simp)), ih _ (fun d hd => h d (by simp [hd]))]
    rfl
theorem textBits_len (s : List Nat) : (textBits s).length = 8 * s.length := by
  induction s with
  | nil => rfl
  | cons c s ih =>
    show (byteBits c ++ textBits s).length = _
    rw [List.length_append, ih, List.length_cons]
    simp [byteBits]; omega
end Go.Proofs.YtmneflpjoaocbaaGreat.Crc
/- The walks of package sum: the table, On, Of, Bytes, Is. -/
namespace Go.Proofs.YtmneflpjoaocbaaGreat
set_option maxRecDepth 100000
open Go.RowKit
set_option linter.unusedVariables false

def tabCells (k : Nat) : Array Value := ((List.range 256).map fun j => Value.int .u32 (if j < k then (Crc.tab j : Int) else 0)).toArray
theorem tabCells_size (k : Nat) : (tabCells k).size = 256 := by simp [tabCells]
theorem tabCells_at (k j : Nat) (hj : j < 256) : (tabCells k)[j]? = some (.int .u32 (if j < k then (Crc.tab j : Int) else 0)) := by
  unfold tabCells
  rw [List.getElem?_toArray, List.getElem?_map, List.getElem?_range hj]
  rfl
theorem tabCells_set (k : Nat) (hk : k < 256) : (tabCells k).setIfInBounds k (.int .u32 (Crc.tab k)) = tabCells (k + 1) := by
  apply Array.ext_getElem?
  intro j
  rw [Array.getElem?_setIfInBounds]
  by_cases hj : j < 256
  · rw [tabCells_at _ _ hj, tabCells_at _ _ hj, tabCells_size]
    by_cases e : k = j
    · subst e; simp [hk]
    · simp only [e, if_false]
      congr 2
      by_cases h : j < k
      · simp [h, show j < k + 1 by omega]
      · simp [h, show ¬ j < k + 1 by omega]
  · have h1 : (tabCells k)[j]? = none := by rw [Array.getElem?_eq_none]; rw [tabCells_size]; omega
    have h2 : (tabCells (k + 1))[j]? = none := by rw [Array.getElem?_eq_none]; rw [tabCells_size]; omega
    rw [h1, h2, if_neg (by omega)]
theorem tabCells_zero : Array.replicate 256 (Value.int .u32 0) = tabCells 0 := by
  apply Array.ext'
  unfold tabCells
  simp only [Nat.not_lt_zero, if_false, Array.toList_replicate]
  rw [List.map_const', List.length_range]
theorem tabCells_one {k : Nat} : (tabCells k).all (·.oneCell') = true := by
  rw [Array.all_eq_true]
  intro i hi
  have h := tabCells_at k i (by rw [tabCells_size] at hi; exact hi)
  rw [Array.getElem?_eq_getElem hi] at h
  injection h with h
  rw [h]; rfl
theorem tab_info : (Tryz.prog.info? 159).map (fun i => (i.zero, i.size)) = some (some (.agg (Array.replicate 256 (.int .u32 0))), 256) := by kernel_rfl

theorem step_walk (y : Nat) (hy : y < 4294967296) : bits .xor .u32 ((y : Int) / 2) (bits .and .u32 (y : Int) 1 * 2197175160 % 4294967296) = (Crc.step y : Int) := by
  have h1 := u32_and_nat y 1 hy (by omega)
  rw [show ((1 : Nat) : Int) = 1 from rfl] at h1
  rw [h1]
  have h2 : y &&& 1 ≤ 1 := Nat.and_le_right
  have h3 : ((y &&& 1 : Nat) : Int) * 2197175160 % 4294967296 = (((y &&& 1) * Crc.P : Nat) : Int) := by unfold Crc.P; omega
  have h4 : (y : Int) / (2 : Int) = ((y >>> 1 : Nat) : Int) := by rw [Nat.shiftRight_eq_div_pow]; omega
  rw [h3, h4, u32_xor_nat _ _ (by rw [Nat.shiftRight_eq_div_pow]; omega) (by unfold Crc.P; omega)]
  rfl

set_option maxHeartbeats 1000000 in
set_option maxRecDepth 100000 in
theorem table_any (w : World) : Calls Tryz.prog 100 #[] w fun e w' => e = .returned (.agg (tabCells 256)) ∧ w' = w.alloc (.cells (tabCells 256) 159) := by
  obtain ⟨hv, hi⟩ := zero_of_info tab_info
  rw [tabCells_zero] at hv
  have Hi := Lib.hid hi
  clear hi
  go_enter Tryz.func100, Tryz.ntmps100
  go_wp2
  go_loopw [3] (fun s3 wr => ∃ i : Nat, i ≤ 256 ∧ s3 = .int .i64 i ∧ wr = w.alloc (.cells (tabCells i) 159)) (fun s3 _ => 256 - (intOf s3).toNat)
  case atStart => exact ⟨0, by omega, rfl, rfl⟩
  case round =>
    obtain ⟨i, hi6, rfl, rfl⟩ := hrel
    by_cases hlt : i < 256
    · have hcell := tabCells_at i i hlt
      have hset := Lib.hid (tabCells_set i hlt)
      rw [if_neg (by omega)] at hcell
      go_wp2
      go_loop [2, 8] (fun x k => ∃ j : Nat, j ≤ 8 ∧ k = .int .i64 j ∧ x = .int .u32 (Crc.steps j i)) (fun _ k => 8 - (intOf k).toNat)
      case atStart => exact ⟨0, by omega, rfl, rfl⟩
      case round =>
        obtain ⟨j, hj, rfl, rfl⟩ := hrel
        have hy := Crc.steps_lt (x := i) j (by omega)
        by_cases hj8 : j < 8
        · have HS := Lib.hid (Crc.steps_succ j i)
          generalize Crc.steps j i = y at *
          go_wp2
          go_round
          case rel => exact ⟨j + 1, by omega, by go_num, by rw [HS.out]; exact congrArg _ (step_walk y hy)⟩
          case measure => simp [intOf]; omega
        · obtain rfl : j = 8 := by omega
          have HT := Lib.hid (show Crc.tab i = Crc.steps 8 i from rfl)
          generalize Crc.steps 8 i = y at *
          have HT2 := Lib.hid HT.out.symm
          clear hj8 hj HT
          go_wp2
          go_roundw
          case rel =>
            refine ⟨i + 1, by omega, by go_num, ?_⟩
            rw [HT2.out, hset.out]
          case measure => simp [intOf]; omega
    · obtain rfl : i = 256 := by omega
      clear hlt hi6
      have hld := run_loadAt_new (P := Tryz.prog) w 159 (tabCells 256) 256 126 Tryz.underlying159 (by rw [tabCells_size]; exact Hi.out)
      have hst := run_storeAt_new (P := Tryz.prog) w 159 (tabCells 256) (tabCells 256) (by rw [tabCells_size]; exact Hi.out) rfl tabCells_one
      go_wp2_with (first | (refine wpList_load_by rfl 159 (.tmp 0) rfl rfl hld ?_) | (refine wpList_store_by rfl 159 (.tmp 0) (.tmp 21) rfl rfl rfl hst ?_))
      refine bodyPost_ret (v := .agg (tabCells 256)) (results_cell_row rfl _ _ w.heap.size 159 (tabCells 256) (0, 0) _ rfl (heap_alloc_new w _) Tryz.underlying159 rfl (by rw [tabCells_size]; exact Hi.out)) rfl ⟨rfl, rfl⟩
end Go.Proofs.YtmneflpjoaocbaaGreat
/- The walks of package sum: On, Of, Bytes, Is. -/
namespace Go.Proofs.YtmneflpjoaocbaaGreat
set_option maxRecDepth 100000
open Go.RowKit
set_option linter.unusedVariables false

theorem not_walk (a : Nat) (ha : a < 4294967296) : bits .xor .u32 IntKind.u32.max (a : Int) = ((a ^^^ Crc.F : Nat) : Int) := by
  have h := u32_xor_nat 4294967295 a (by omega) ha
  rw [Nat.xor_comm] at h
  exact h

set_option maxHeartbeats 1000000 in
set_option maxRecDepth 100000 in
theorem on_any (a : Nat) (s : ByteArray) (w : World) (ha : a < 4294967296) (hs : s.size ≤ 17592186044416) :
    Calls Tryz.prog 87 #[.int .u32 a, .string s] w fun e w' => e = .returned (.int .u32 (Crc.on a (bs s))) ∧ Below w.heap.size w w' := by
  obtain ⟨hv, hi⟩ := zero_of_info tab_info
  rw [tabCells_zero] at hv
  have Hi := Lib.hid hi
  clear hi
  have hnot := not_walk a ha
  have hx0 : a ^^^ Crc.F < 4294967296 := Nat.xor_lt_two_pow (n := 32) ha Crc.F_lt
  go_enter Tryz.func87, Tryz.ntmps87
  go_wp2_with fail
  refine (table_any w).mono ?_
  rintro e w1 ⟨rfl, hw1⟩
  have hz1 : w1.heap.size = w.heap.size + 1 := by rw [hw1]; simp
  have hb1 : Below w.heap.size w w1 := by rw [hw1]; exact (Below.refl _ _).alloc (Nat.le_refl _) _
  have HB1 := Lib.hid hb1
  have HZ1 := Lib.hid hz1
  clear hw1 hb1 hz1
  have hst := run_storeAt_new (P := Tryz.prog) w1 159 (tabCells 0) (tabCells 256) (by rw [tabCells_size]; exact Hi.out) (by rw [tabCells_size, tabCells_size]) tabCells_one
  go_wp2_with (first | (refine wpList_store_by rfl 159 (.tmp 5) (.tmp 9) rfl rfl rfl hst ?_) | (refine wpList_conv_bytes rfl 9 57 5 (.tmp 12) rfl Tryz.underlying9 Tryz.underlying57 Tryz.underlying5 rfl ?_; intro c w2 br o2 hz2 hc2))
  have o1 := ((Only.refl (fun _ => False) w1).alloc (.cells (tabCells 256) 159))
  have HT := Lib.hid (o2.blk (Blk.new w1 159 (tabCells 256)) (fun h => h))
  have HB2 := Lib.hid ((HB1.out.alloc HB1.out.size (.cells (tabCells 256) 159)).trans (o2.below (fun _ h => h.elim) (by have := HB1.out.size; simp; omega)))
  have BR := Lib.hid br
  clear br o1 o2 hst hz2
  have hlen := bs_len s
  generalize hxx : a ^^^ Crc.F = x0 at *
  have HX := Lib.hid hxx
  clear hxx hnot
  simp only [World.size_alloc] at *
  go_loop [6, 15] (fun x i => ∃ k : Nat, k ≤ s.size ∧ i = .int .i64 k ∧ x = .int .u32 (Crc.reg x0 ((bs s).take k))) (fun _ i => s.size - (intOf i).toNat)
  case atStart => exact ⟨0, by omega, rfl, rfl⟩
  case round =>
    obtain ⟨k, hk, rfl, rfl⟩ := hrel
    have hy := Crc.reg_lt ((bs s).take k) hx0 (fun c hc => bs_lt s c (List.mem_of_mem_take hc))
    by_cases hlt : k < s.size
    · have hts : (bs s).take (k + 1) = (bs s).take k ++ [(bs s).getD k 0] := by
        rw [List.take_succ_eq_append_getElem (by omega)]
        simp [List.getD, List.getElem?_eq_getElem (show k < (bs s).length by omega)]
      have hc8 : (bs s).getD k 0 < 256 := by
        have hm : (bs s).getD k 0 ∈ bs s := by simp [List.getD, List.getElem?_eq_getElem (show k < (bs s).length by omega)]
        exact bs_lt s _ hm
      have hc1 := BR.out.cell k (by omega)
      generalize hcc : (bs s).getD k 0 = cc at *
      clear hcc
      have hreg := Crc.reg_append ((bs s).take k) [cc] x0
      rw [← hts] at hreg
      have HREG := Lib.hid hreg
      clear hts hreg
      generalize Crc.reg x0 ((bs s).take k) = y at *
      have hidx := u8_xor_nat (y % 256) cc (by omega) hc8
      have hil : (y % 256) ^^^ cc < 256 := Nat.xor_lt_two_pow (n := 8) (by omega) hc8
      have hc2 : w2.cell? ⟨w1.heap.size, (y % 256) ^^^ cc, none⟩ = some (.int .u32 (Crc.tab ((y % 256) ^^^ cc))) := by
        rw [HT.out.cell, tabCells_at _ _ hil, if_pos hil]
      rw [show ((y % 256 : Nat) : Int) = (y : Int) % 256 by omega] at hidx
      have htb := Crc.table_byte y cc
      generalize hq : (y % 256) ^^^ cc = q at *
      have htl : Crc.tab q < 4294967296 := Crc.steps_lt 8 (by omega)
      have hx2 := u32_xor_nat (Crc.tab q) (y >>> 8) htl (by rw [Nat.shiftRight_eq_div_pow]; omega)
      rw [htb, show ((y >>> 8 : Nat) : Int) = (y : Int) / (256 : Int) by rw [Nat.shiftRight_eq_div_pow]; omega] at hx2
      have HX2 := Lib.hid hx2
      clear htb hx2 hq
      generalize Crc.tab q = tq at *
      go_wp2
      go_round
      case rel =>
        refine ⟨k + 1, by omega, by go_num, ?_⟩
        rw [HREG.out]
        exact congrArg _ HX2.out
      case measure => simp [intOf]; omega
    · obtain rfl : k = s.size := by omega
      have htk : (bs s).take s.size = bs s := List.take_of_length_le (by rw [bs_len]; exact Nat.le_refl _)
      rw [htk] at hy ⊢
      have hfin : Crc.on a (bs s) = Crc.reg x0 (bs s) ^^^ Crc.F := by rw [← HX.out]; rfl
      have HFIN := Lib.hid hfin
      generalize Crc.reg x0 (bs s) = y at *
      have hnot := not_walk y hy
      rw [← hfin] at hnot
      clear hfin htk hk
      go_wp2
      go_ret
      exact ⟨rfl, HB2.out⟩

theorem of_any (s : ByteArray) (w : World) (hs : s.size ≤ 17592186044416) :
    Calls Tryz.prog 68 #[.string s] w fun e w' => e = .returned (.int .u32 (Crc.on 0 (bs s))) ∧ Below w.heap.size w w' := by
  go_enter Tryz.func68, Tryz.ntmps68
  go_wp2_with fail
  refine (on_any 0 s w (by omega) hs).mono ?_
  rintro e w1 ⟨rfl, hb⟩
  go_wp2
  go_ret
  exact ⟨rfl, hb⟩

/-- a sum's bytes -/
def sumBytes (a : Nat) : List UInt8 := [UInt8.ofNat (a % 256), UInt8.ofNat (a / 256 % 256), UInt8.ofNat (a / 65536 % 256), UInt8.ofNat (a / 16777216)]
def sumNums (a : Nat) : List Int := [(a : Int) % 256, (a : Int) / 256 % 256, (a : Int) / 65536 % 256, (a : Int) / 16777216]
theorem sumNums_str (a : Nat) : strOfNums (sumNums a) = ⟨(sumBytes a).toArray⟩ := by
  unfold strOfNums sumNums sumBytes
  simp only [List.map_cons, List.map_nil]
  rw [show ((a : Int) % 256).toNat = a % 256 by omega, show ((a : Int) / 256 % 256).toNat = a / 256 % 256 by omega, show ((a : Int) / 65536 % 256).toNat = a / 65536 % 256 by omega, show ((a : Int) / 16777216).toNat = a / 16777216 by omega]

theorem bytes_any (a : Nat) (w : World) (ha : a < 4294967296) :
    Calls Tryz.prog 67 #[.int .u32 a] w fun e w' => e = .returned (.string ⟨(sumBytes a).toArray⟩) ∧ Below w.heap.size w w' := by
  have hcv := run_convert_bytes_arg (P := Tryz.prog) (w.alloc (.cells #[.int .u8 ((a : Int) % 256), .int .u8 ((a : Int) / 256 % 256), .int .u8 ((a : Int) / 65536 % 256), .int .u8 ((a : Int) / 16777216)] 5)) 57 5 Tryz.underlying57 Tryz.underlying5 w.heap.size 0 4 4 (sumNums a) rfl
    (fun i hi => by
      rw [Nat.zero_add, World.cell?_alloc_new]
      match i, hi with
      | 0, _ => rfl
      | 1, _ => rfl
      | 2, _ => rfl
      | 3, _ => rfl) 9 Tryz.underlying9
  rw [sumNums_str] at hcv
  go_enter Tryz.func67, Tryz.ntmps67
  go_wp2
  go_ret
  exact ⟨rfl, (Below.refl _ _).alloc (Nat.le_refl _) _⟩

theorem is_any (s b : ByteArray) (w : World) (hs : s.size ≤ 17592186044416) :
    Calls Tryz.prog 98 #[.string s, .string b] w fun e w' => e = .returned (.bool (b.toList == sumBytes (Crc.on 0 (bs s)))) ∧ Below w.heap.size w w' := by
  have hl := Crc.on_lt (a := 0) (s := bs s) (by omega) (bs_lt s)
  go_enter Tryz.func98, Tryz.ntmps98
  go_wp2_with fail
  refine (of_any s w hs).mono ?_
  rintro e w1 ⟨rfl, hb1⟩
  have HB1 := Lib.hid hb1
  clear hb1
  go_wp2_with fail
  refine (bytes_any _ w1 hl).mono ?_
  rintro e w2 ⟨rfl, hb2⟩
  have HB2 := Lib.hid hb2
  clear hb2
  go_wp2
  go_ret
  exact ⟨rfl, HB1.out.trans (HB2.out.mono HB1.out.size)⟩
end Go.Proofs.YtmneflpjoaocbaaGreat
/- Plain mathematics of the document's sum: the division of bits in a row, place by place. No program in sight. -/
namespace Go.Proofs.YtmneflpjoaocbaaGreat.Crc

set_option maxRecDepth 100000
def powersL : List Nat := [28, 27, 26, 25, 23, 22, 20, 19, 18, 14, 13, 11, 10, 9, 8, 6, 0]
def tg (c : List Bool) (p : Nat) : List Bool := c.set p (!(c.getD p false))
def tgs (i : Nat) : List Nat → List Bool → List Bool
  | [], c => c
  | l :: L, c => tgs i L (tg c (i + 32 - l))
def par (i q : Nat) : List Nat → Bool
  | [] => false
  | l :: L => (i + 32 - l == q) != par i q L
theorem tg_len (c : List Bool) (p : Nat) : (tg c p).length = c.length := by simp [tg]
theorem tgs_len (i : Nat) (L : List Nat) : ∀ c, (tgs i L c).length = c.length := by
  induction L with
  | nil => exact fun _ => rfl
  | cons l L ih => intro c; show (tgs i L (tg c _)).length = _; rw [ih, tg_len]
theorem tgs_append (i : Nat) (L M : List Nat) : ∀ c, tgs i (L ++ M) c = tgs i M (tgs i L c) := by
  induction L with
  | nil => exact fun _ => rfl
  | cons l L ih => exact fun c => ih _
theorem tg_get (c : List Bool) (p q : Nat) (hq : q < c.length) : (tg c p).getD q false = (c.getD q false != (p == q)) := by
  unfold tg
  simp only [List.getD]
  rw [List.getElem?_set]
  by_cases h : p = q
  · subst h; simp [hq]
  · rw [if_neg h, show (p == q) = false by simpa using h]
    cases c[q]?.getD false <;> rfl
theorem tgs_get (i q : Nat) (L : List Nat) : ∀ c : List Bool, q < c.length → (tgs i L c).getD q false = (c.getD q false != par i q L) := by
  induction L with
  | nil => intro c _; simp [tgs, par]
  | cons l L ih =>
    intro c hq
    show (tgs i L (tg c (i + 32 - l))).getD q false = _
    rw [ih _ (by rw [tg_len]; exact hq), tg_get _ _ _ hq]
    simp only [par]
    generalize c.getD q false = a
    generalize (i + 32 - l == q) = b
    generalize par i q L = d
    cases a <;> cases b <;> cases d <;> rfl
theorem par_shift (i d : Nat) (L : List Nat) (hL : ∀ l ∈ L, l ≤ 32) : par i (i + 1 + d) L = par 0 (1 + d) L := by
  induction L with
  | nil => rfl
  | cons l L ih =>
    simp only [par]
    rw [ih (fun m hm => hL m (by simp [hm]))]
    have h1 := hL l (by simp)
    have e : (i + 32 - l == i + 1 + d) = (0 + 32 - l == 1 + d) := by
      rw [Bool.eq_iff_iff]; simp only [beq_iff_eq]; omega
    rw [e]
theorem par_far (i q : Nat) (L : List Nat) (hq : i + 32 < q) : par i q L = false := by
  induction L with
  | nil => rfl
  | cons l L ih =>
    simp only [par, ih]
    have e : (i + 32 - l == q) = false := by simp; omega
    rw [e]; rfl
theorem par_P (d : Nat) (hd : d < 32) : par 0 (1 + d) powersL = P.testBit d := by
  have h : ∀ d : Fin 32, par 0 (1 + d.val) powersL = P.testBit d.val := by decide
  exact h ⟨d, hd⟩
theorem powers_le : ∀ l ∈ powersL, l ≤ 32 := by decide

/-- what the row holds behind i places: the raw bits, and in the window from i on the register's -/
structure Inv (raw : List Bool) (x i : Nat) (cur : List Bool) : Prop where
  len : cur.length = raw.length
  lt : x < 4294967296
  at_ : ∀ q, i ≤ q → q < raw.length → cur.getD q false = (raw.getD q false != x.testBit (q - i))
theorem testBit_out {x k : Nat} (h : x < 4294967296) (hk : 32 ≤ k) : x.testBit k = false :=
  Nat.testBit_lt_two_pow (Nat.lt_of_lt_of_le h (by rw [show (4294967296 : Nat) = 2 ^ 32 from rfl]; exact Nat.pow_le_pow_right (by omega) hk))
theorem regBit_bit {x : Nat} (b : Bool) (j : Nat) : (regBit x b).testBit j = (x.testBit (j + 1) != ((x.testBit 0 != b) && P.testBit j)) := by
  unfold regBit step
  have h0 : ((x ^^^ b.toNat) &&& 1) = (x.testBit 0 != b).toNat := by
    rw [and_one]
    have hx : x.testBit 0 = decide (x % 2 = 1) := by simp [Nat.testBit_zero]
    rw [hx]
    cases b
    · simp only [Bool.toNat_false, Nat.xor_zero]
      rcases (show x % 2 = 0 ∨ x % 2 = 1 by omega) with h | h <;> simp [h]
    · simp only [Bool.toNat_true]
      have e : (x ^^^ 1) % 2 = (x % 2) ^^^ 1 := by rw [← and_one, ← and_one, Nat.and_xor_distrib_right]; rfl
      rcases (show x % 2 = 0 ∨ x % 2 = 1 by omega) with h | h <;> rw [e, h] <;> rfl
  rw [h0, Nat.testBit_xor, Nat.testBit_shiftRight, Nat.testBit_xor]
  have hb : (b.toNat).testBit (1 + j) = false := by cases b <;> simp ; exact Bool.eq_false_iff.2 (fun h => by have := Nat.testBit_one_eq_true_iff_self_eq_zero.1 h; omega)
  rw [hb, Nat.add_comm 1 j]
  cases (x.testBit 0 != b) <;> simp
theorem Inv.step_ {raw cur : List Bool} {x i : Nat} (h : Inv raw x i cur) (hi : i + 32 < raw.length) :
    Inv raw (regBit x (raw.getD i false)) (i + 1) (if cur.getD i false = true then tgs i powersL cur else cur) := by
  have hlow : cur.getD i false = (x.testBit 0 != raw.getD i false) := by
    rw [h.at_ i (Nat.le_refl _) (by omega), Nat.sub_self]
    cases raw.getD i false <;> cases x.testBit 0 <;> rfl
  have hlt : regBit x (raw.getD i false) < 4294967296 := by
    unfold regBit
    refine step_lt (Nat.xor_lt_two_pow (n := 32) h.lt ?_)
    cases raw.getD i false <;> decide
  refine ⟨?_, hlt, fun q hq1 hq2 => ?_⟩
  · split
    · rw [tgs_len, h.len]
    · exact h.len
  · have hbit : (regBit x (raw.getD i false)).testBit (q - (i + 1)) = (x.testBit (q - i) != (cur.getD i false && P.testBit (q - (i + 1)))) := by
      rw [regBit_bit, hlow, show q - (i + 1) + 1 = q - i by omega]
    rw [hbit]
    have hcur := h.at_ q (by omega) hq2
    split
    · rename_i hc
      rw [tgs_get i q powersL cur (by rw [h.len]; exact hq2), hcur, hc, Bool.true_and]
      have hp : par i q powersL = P.testBit (q - (i + 1)) := by
        by_cases hf : i + 32 < q
        · rw [par_far i q powersL hf]
          exact (testBit_out (x := P) (by decide) (by omega)).symm
        · have e := par_shift i (q - (i + 1)) powersL powers_le
          rw [show i + 1 + (q - (i + 1)) = q by omega] at e
          rw [e, par_P _ (by omega)]
      rw [hp]
      cases raw.getD q false <;> cases x.testBit (q - i) <;> cases P.testBit (q - (i + 1)) <;> rfl
    · rename_i hc
      have hc' : cur.getD i false = false := by simpa using hc
      rw [hcur, hc', Bool.false_and]
      cases raw.getD q false <;> cases x.testBit (q - i) <;> rfl
theorem regBits_take_succ (x : Nat) (raw : List Bool) (i : Nat) (hi : i < raw.length) : regBits x (raw.take (i + 1)) = regBit (regBits x (raw.take i)) (raw.getD i false) := by
  rw [List.take_succ_eq_append_getElem hi, regBits_append]
  simp [regBits, List.getD, hi]
/-- a row's bits with those from off on, k of them, turned -/
def flip (off k : Nat) (l : List Bool) : List Bool := l.mapIdx fun q b => if off ≤ q ∧ q < off + k then !b else b
theorem flip_len (off k : Nat) (l : List Bool) : (flip off k l).length = l.length := by simp [flip]
theorem flip_zero (off : Nat) (l : List Bool) : flip off 0 l = l := by
  apply List.ext_getElem?
  intro q
  unfold flip
  rw [List.getElem?_mapIdx]
  cases l[q]? <;> simp
theorem flip_get (off k : Nat) (l : List Bool) (q : Nat) : (flip off k l)[q]? = (l[q]?).map fun b => if off ≤ q ∧ q < off + k then !b else b := by
  unfold flip; rw [List.getElem?_mapIdx]
theorem flip_succ (off k : Nat) (l : List Bool) (h : off + k < l.length) : flip off (k + 1) l = (flip off k l).set (off + k) (!((flip off k l).getD (off + k) false)) := by
  apply List.ext_getElem?
  intro q
  rw [flip_get, List.getElem?_set]
  have hg : (flip off k l).getD (off + k) false = l[off + k] := by
    simp only [List.getD]
    rw [flip_get, List.getElem?_eq_getElem h]
    simp
  by_cases e : off + k = q
  · subst e
    rw [if_pos rfl, flip_len, if_pos h, hg, List.getElem?_eq_getElem h]
    simp
  · rw [if_neg e, flip_get]
    congr 1
    funext b
    have : (off ≤ q ∧ q < off + (k + 1)) = (off ≤ q ∧ q < off + k) := by apply propext; omega
    simp only [this]
theorem rshift_bit (R i : Nat) : R >>> i = 2 * (R >>> (i + 1)) + (R.testBit i).toNat := by
  rw [Nat.shiftRight_eq_div_pow, Nat.shiftRight_eq_div_pow, Nat.testBit_eq_decide_div_mod_eq, Nat.pow_succ, ← Nat.div_div_eq_div_mul]
  have : R / 2 ^ i % 2 = 0 ∨ R / 2 ^ i % 2 = 1 := by omega
  rcases this with h | h <;> simp [h] <;> omega
theorem F_bit (j : Nat) (hj : j < 32) : F.testBit j = true := by
  have h : ∀ d : Fin 32, F.testBit d.val = true := by decide
  exact h ⟨j, hj⟩
end Go.Proofs.YtmneflpjoaocbaaGreat.Crc
/- The walks of the document's sum (thresherref02). -/
namespace Go.Proofs.YtmneflpjoaocbaaGreat
set_option maxRecDepth 100000
open Go.RowKit
set_option linter.unusedVariables false

/-- A row of bools: block g begins with the cells xs, which may be written. -/
structure BoolRow (w : World) (g : Nat) (xs : List Bool) : Prop where
  lt : g < w.heap.size
  cell : ∀ j, j < xs.length → w.cell? ⟨g, j, none⟩ = some (.bool (xs.getD j false))
  free : ∀ j, j < xs.length → w.frozen? ⟨g, j, none⟩ = false
theorem BoolRow.only {S : Nat → Prop} {w w' : World} {g : Nat} {xs : List Bool} (h : BoolRow w g xs) (ho : Only S w w') (hg : ¬ S g) : BoolRow w' g xs :=
  ⟨Nat.lt_of_lt_of_le h.lt ho.size, fun j hj => (ho.cell (p := ⟨g, j, none⟩) h.lt hg).trans (h.cell j hj), fun j hj => (World.frozen?_of_block (ho.block g h.lt hg)).trans (h.free j hj)⟩
theorem BoolRow.set {w : World} {g : Nat} {xs : List Bool} (h : BoolRow w g xs) (k : Nat) (v : Bool) (hk : k < xs.length) : BoolRow (w.setCell ⟨g, k, none⟩ (.bool v)) g (xs.set k v) := by
  refine ⟨by simpa using h.lt, fun j hj => ?_, fun j hj => by rw [World.frozen?_setCell]; exact h.free j (by simpa using hj)⟩
  rw [List.length_set] at hj
  by_cases e : k = j
  · subst e
    rw [World.cell?_setCell_same _ _ _ (h.cell k hk)]
    simp [List.getD, hk]
  · rw [World.cell?_setCell_other _ _ _ _ (by intro e2; injection e2 with _ e2; exact e e2), h.cell j hj]
    simp [List.getD, List.getElem?_set_ne e]

set_option maxHeartbeats 1000000 in
set_option maxRecDepth 100000 in
theorem turn_any (g off n cap : Nat) (l : List Bool) (w : World) (h : BoolRow w g l) (hl : off + 32 ≤ l.length) (hn32 : 32 ≤ n) (hm : n ≤ 1099511627776) :
    Calls Tryz.prog 95 #[.slice (some ⟨g, off, none⟩) n cap] w fun e w' => e = .returned (.tuple #[]) ∧ BoolRow w' g (Crc.flip off 32 l) ∧ Only (· = g) w w' := by
  have H := Lib.hid h
  clear h
  go_enter Tryz.func95, Tryz.ntmps95
  go_wp2
  go_loopw [2] (fun s2 wr => ∃ k : Nat, k ≤ 32 ∧ s2 = .int .i64 k ∧ BoolRow wr g (Crc.flip off k l) ∧ Only (· = g) w wr) (fun s2 _ => 32 - (intOf s2).toNat)
  case atStart => exact ⟨0, by omega, rfl, by rw [Crc.flip_zero]; exact H.out, Only.refl _ _⟩
  case round =>
    obtain ⟨k, hk, rfl, hb, ho⟩ := hrel
    have HB := Lib.hid hb
    have HO := Lib.hid ho
    clear hb ho
    by_cases hlt : k < 32
    · have hfl := Crc.flip_len off k l
      have hc := HB.out.cell (off + k) (by rw [hfl]; omega)
      have hf := HB.out.free (off + k) (by rw [hfl]; omega)
      have hn := HB.out.set (off + k) (!((Crc.flip off k l).getD (off + k) false)) (by rw [hfl]; omega)
      rw [← Crc.flip_succ off k l (by omega)] at hn
      have Hfin := Lib.hid (show BoolRow (wr.setCell ⟨g, off + k, none⟩ (.bool (!((Crc.flip off k l).getD (off + k) false)))) g (Crc.flip off (k + 1) l) ∧ Only (· = g) w (wr.setCell ⟨g, off + k, none⟩ (.bool (!((Crc.flip off k l).getD (off + k) false)))) from ⟨hn, HO.out.setCell (.inl rfl) _⟩)
      clear hn hfl
      generalize (Crc.flip off k l).getD (off + k) false = b at *
      go_wp2
      go_roundw
      case rel => exact ⟨k + 1, by omega, by go_num, Hfin.out.1, Hfin.out.2⟩
      case measure => simp [intOf]; omega
    · obtain rfl : k = 32 := by omega
      clear hlt hk
      go_wp2
      go_end0
      exact ⟨rfl, HB.out, HO.out⟩

theorem powers_any (w : World) : Calls Tryz.prog 106 #[] w fun e w' => e = .returned (.slice (some ⟨w.heap.size, 0, none⟩) 17 17) ∧ Blk w' w.heap.size 3 (Crc.powersL.map fun p => Value.int .i64 (p : Nat)).toArray ∧ Only (fun _ => False) w w' := by
  have hb : Blk (w.alloc (.cells (Crc.powersL.map fun p => Value.int .i64 (p : Nat)).toArray 3)) w.heap.size 3 (Crc.powersL.map fun p => Value.int .i64 (p : Nat)).toArray := Blk.new _ _ _
  have H := Lib.hid (show _ ∧ Only (fun _ => False) w (w.alloc (.cells (Crc.powersL.map fun p => Value.int .i64 (p : Nat)).toArray 3)) from ⟨hb, (Only.refl _ _).alloc _⟩)
  clear hb
  go_enter Tryz.func106, Tryz.ntmps106
  go_wp2
  go_ret
  exact ⟨rfl, H.out⟩

theorem powers_at (w : World) (g : Nat) (h : Blk w g 3 (Crc.powersL.map fun p => Value.int .i64 (p : Nat)).toArray) (k : Nat) (hk : k < 17) : w.cell? ⟨g, k, none⟩ = some (.int .i64 ((Crc.powersL.getD k 0 : Nat) : Int)) := by
  rw [h.cell k]
  have : k < Crc.powersL.length := hk
  simp [List.getD, this]

set_option maxHeartbeats 2000000 in
set_option maxRecDepth 100000 in
theorem left_any (g cap m : Nat) (raw cur0 : List Bool) (x0 : Nat) (w : World) (h : BoolRow w g cur0) (hi : Crc.Inv raw x0 0 cur0) (hm : raw.length = m + 32) (hcap : m + 32 ≤ cap) (hm63 : m ≤ 1099511627776) (hc63 : cap ≤ 9223372036854775807) (hz : ∀ q, m ≤ q → raw.getD q false = false) :
    Calls Tryz.prog 96 #[.slice (some ⟨g, 0, none⟩) (m + 32) cap] w fun e w' => e = .returned (.int .u32 ((Crc.regBits x0 (raw.take m) ^^^ Crc.F : Nat) : Int)) ∧ Only (· = g) w w' := by
  have H := Lib.hid h
  have HI := Lib.hid hi
  have HZ := Lib.hid hz
  have HM := Lib.hid hm
  have hgw := h.lt
  clear h hi hz hm
  go_enter Tryz.func96, Tryz.ntmps96
  go_wp2_with fail
  refine (powers_any w).mono ?_
  rintro e w1 ⟨rfl, hp, ho1⟩
  have HP := Lib.hid hp
  have HO1 := Lib.hid ho1
  clear hp ho1
  go_wp2_with fail
  go_loopw [4] (fun s4 wr => ∃ (i : Nat) (cur : List Bool), i ≤ m ∧ s4 = .int .i64 i ∧ BoolRow wr g cur ∧ Crc.Inv raw (Crc.regBits x0 (raw.take i)) i cur ∧ Only (· = g) w1 wr) (fun s4 _ => m - (intOf s4).toNat)
  case atStart => exact ⟨0, cur0, by omega, rfl, H.out.only HO1.out (fun h => h), by simpa [Crc.regBits] using HI.out, Only.refl _ _⟩
  case round =>
    obtain ⟨i, cur, him, rfl, hb, hinv, ho⟩ := hrel
    have HB := Lib.hid hb
    have HV := Lib.hid hinv
    have HO := Lib.hid ho
    have hcl := hinv.len
    clear hb hinv ho
    rw [HM.out] at hcl
    by_cases hlt : i < m
    · have hc := HB.out.cell i (by omega)
      have hst := Crc.Inv.step_ HV.out (by rw [HM.out]; omega)
      rw [← Crc.regBits_take_succ x0 raw i (by rw [HM.out]; omega)] at hst
      cases hbit : cur.getD i false with
      | false =>
        rw [hbit] at hc hst
        rw [if_neg (by simp)] at hst
        have HS := Lib.hid hst
        clear hst hbit
        go_wp2
        go_roundw
        case rel => exact ⟨i + 1, cur, by omega, by go_num, HB.out, HS.out, HO.out⟩
        case measure => simp [intOf]; omega
      | true =>
        rw [hbit] at hc hst
        rw [if_pos rfl] at hst
        have HS := Lib.hid hst
        clear hst hbit
        go_wp2
        obtain ⟨wo, hwo⟩ : ∃ wo : World, wo = wr := ⟨_, rfl⟩
        rw [← hwo] at HB HO hc ⊢
        clear hwo
        go_loopw [5] (fun s5 wi => ∃ k : Nat, k ≤ 17 ∧ s5 = .int .i64 k ∧ BoolRow wi g (Crc.tgs i (Crc.powersL.take k) cur) ∧ Only (· = g) w1 wi) (fun s5 _ => 17 - (intOf s5).toNat)
        case atStart => exact ⟨0, by omega, rfl, by simpa [Crc.tgs] using HB.out, HO.out⟩
        case round =>
          obtain ⟨k, hk, rfl, hb2, ho2⟩ := hrel
          have HB2 := Lib.hid hb2
          have HO2 := Lib.hid ho2
          clear hb2 ho2 hc
          by_cases hlk : k < 17
          · have hpk := powers_at _ _ (HO2.out.blk HP.out (fun e => by have := H.out.lt; omega)) k hlk
            have hle : Crc.powersL.getD k 0 ≤ 28 := by
              have : ∀ d : Fin 17, Crc.powersL.getD d.val 0 ≤ 28 := by decide
              exact this ⟨k, hlk⟩
            have htk : Crc.tgs i (Crc.powersL.take (k + 1)) cur = Crc.tg (Crc.tgs i (Crc.powersL.take k) cur) (i + 32 - Crc.powersL.getD k 0) := by
              rw [List.take_succ_eq_append_getElem (show k < Crc.powersL.length from hlk), Crc.tgs_append]
              simp [Crc.tgs, List.getD, show k < Crc.powersL.length from hlk]
            have hl2 := Crc.tgs_len i (Crc.powersL.take k) cur
            generalize Crc.powersL.getD k 0 = lk at *
            have hcc := HB2.out.cell (i + 32 - lk) (by rw [hl2, hcl]; omega)
            have hff := HB2.out.free (i + 32 - lk) (by rw [hl2, hcl]; omega)
            have hn := HB2.out.set (i + 32 - lk) (!((Crc.tgs i (Crc.powersL.take k) cur).getD (i + 32 - lk) false)) (by rw [hl2, hcl]; omega)
            rw [show (Crc.tgs i (Crc.powersL.take k) cur).set (i + 32 - lk) (!((Crc.tgs i (Crc.powersL.take k) cur).getD (i + 32 - lk) false)) = Crc.tgs i (Crc.powersL.take (k + 1)) cur from htk.symm] at hn
            have Hfin := Lib.hid (show _ ∧ Only (· = g) w1 (wr.setCell ⟨g, i + 32 - lk, none⟩ (.bool (!((Crc.tgs i (Crc.powersL.take k) cur).getD (i + 32 - lk) false)))) from ⟨hn, HO2.out.setCell (.inl rfl) _⟩)
            clear hn htk hl2
            generalize (Crc.tgs i (Crc.powersL.take k) cur).getD (i + 32 - lk) false = bb at *
            go_wp2
            go_roundw
            case rel => exact ⟨k + 1, by omega, by go_num, Hfin.out.1, Hfin.out.2⟩
            case measure => simp [intOf]; omega
          · obtain rfl : k = 17 := by omega
            clear hlk hk
            have hpl : Crc.powersL.take 17 = Crc.powersL := rfl
            rw [hpl] at HB2
            go_wp2
            go_roundw
            case rel => exact ⟨i + 1, _, by omega, by go_num, HB2.out, HS.out, HO2.out⟩
            case measure => simp [intOf]; omega
    · obtain rfl : i = m := by omega
      clear hlt him
      go_wp2_with fail
      refine (turn_any g i _ _ cur _ HB.out (by omega) (by omega) (by omega)).mono ?_
      rintro e w2 ⟨rfl, hb2, ho2⟩
      have HO2 := Lib.hid ((HO1.out.mono (T := (· = g)) (fun _ h => h.elim)).trans (HO.out.trans ho2))
      have HB2 := Lib.hid hb2
      have hR : Crc.regBits x0 (raw.take i) ^^^ Crc.F < 4294967296 := Nat.xor_lt_two_pow (n := 32) HV.out.lt Crc.F_lt
      have hbits : ∀ j, j < 32 → (Crc.flip i 32 cur).getD (i + j) false = (Crc.regBits x0 (raw.take i) ^^^ Crc.F).testBit j := by
        intro j hj
        have h1 := HV.out.at_ (i + j) (by omega) (by rw [HM.out]; omega)
        rw [HZ.out (i + j) (by omega), show i + j - i = j by omega] at h1
        simp only [List.getD] at h1 ⊢
        rw [Crc.flip_get, List.getElem?_eq_getElem (show i + j < cur.length by omega)] 
        rw [List.getElem?_eq_getElem (show i + j < cur.length by omega)] at h1
        simp only [Option.map_some, Option.getD_some] at h1 ⊢
        rw [if_pos ⟨by omega, by omega⟩, h1, Nat.testBit_xor, Crc.F_bit j hj]
        cases (Crc.regBits x0 (raw.take i)).testBit j <;> rfl
      have HBITS := Lib.hid hbits
      have hfl := Crc.flip_len i 32 cur
      clear hbits hb2 ho2
      generalize hRR : Crc.regBits x0 (raw.take i) ^^^ Crc.F = R at *
      have HRR := Lib.hid hRR
      clear hRR
      go_wp2_with fail
      have h32 : (0 : Int) = ((R >>> 32 : Nat) : Int) := by rw [Nat.shiftRight_eq_div_pow]; omega
      have H32 := Lib.hid h32
      clear h32
      go_loop [8, 9] (fun x s9 => ∃ j : Nat, j ≤ 32 ∧ s9 = .int .i64 ((j : Int) - 1) ∧ x = .int .u32 ((R >>> j : Nat) : Int)) (fun _ s9 => (intOf s9 + 1).toNat)
      case atStart => exact ⟨32, by omega, rfl, by rw [← H32.out]⟩
      case round =>
        obtain ⟨j, hj, rfl, rfl⟩ := hrel
        cases j with
        | zero =>
          rw [show R >>> 0 = R from rfl]
          go_wp2
          go_ret
          exact ⟨ret_int (by rw [HRR.out]), HO2.out⟩
        | succ j =>
          have hc := HB2.out.cell (i + j) (by rw [hfl]; omega)
          rw [HBITS.out j (by omega)] at hc
          have hsh := Crc.rshift_bit R j
          have hle : R >>> j < 4294967296 := by rw [Nat.shiftRight_eq_div_pow]; exact Nat.lt_of_le_of_lt (Nat.div_le_self _ _) hR
          rw [show ((j + 1 : Nat) : Int) - 1 = (j : Int) by omega]
          cases hbit : R.testBit j with
          | false =>
            rw [hbit] at hc hsh
            have HS := Lib.hid hsh
            have hy : 2 * (R >>> (j + 1)) < 4294967296 := by simp at hsh; omega
            clear hsh hbit
            generalize hgy : R >>> (j + 1) = y at *
            go_wp2
            go_round
            case rel => exact ⟨j, by omega, rfl, by rw [HS.out]; simp⟩
            case measure => simp [intOf] <;> omega
          | true =>
            rw [hbit] at hc hsh
            have HS := Lib.hid hsh
            have hy : 2 * (R >>> (j + 1)) + 1 < 4294967296 := by simp at hsh; omega
            clear hsh hbit
            generalize hgy : R >>> (j + 1) = y at *
            go_wp2
            go_round
            case rel => exact ⟨j, by omega, rfl, by rw [HS.out]; simp⟩
            case measure => simp [intOf] <;> omega
end Go.Proofs.YtmneflpjoaocbaaGreat
/- The walks of the document's sum: bits, Of, On, Join. -/
namespace Go.Proofs.YtmneflpjoaocbaaGreat
set_option maxRecDepth 100000
open Go.RowKit
set_option linter.unusedVariables false

theorem Tryz.infoB : (Tryz.prog.info? 4).map (fun i => (i.zero, i.size, i.bytes)) = some (some (.bool false), 1, 1) := by kernel_rfl
theorem reads_one {w : World} {t : TypeId} (v : Value) : Reads (w.alloc (.cells #[v] t)) (w.heap.size + 1) 1 (some ⟨w.heap.size, 0, none⟩) 1 [v] :=
  ⟨by simp, fun _ => ⟨_, rfl, by simp, fun j u hu => by
    match j, hu with
    | 0, hu => simp at hu; subst hu; simp [Addr.add]⟩⟩
def rawBits (s : ByteArray) : List Bool := Crc.textBits (bs s) ++ List.replicate 32 false
structure BitsOf (s : ByteArray) (w : World) (e : Ending) (w' : World) : Prop where
  ex : ∃ g cap, e = .returned (.slice (some ⟨g, 0, none⟩) (8 * s.size + 32) cap) ∧ BoolRow w' g (rawBits s) ∧ 8 * s.size + 32 ≤ cap ∧ cap ≤ 9223372036854775807 ∧ w.heap.size ≤ g
  below : Below w.heap.size w w'
theorem bit_walk (c j : Nat) (hc : c < 256) : (bits .and .u8 ((c : Int) / 2 ^ j) 1 == 1) = c.testBit j := by
  have h1 : (c : Int) / 2 ^ j = ((c / 2 ^ j : Nat) : Int) := by rw [Int.natCast_ediv, Int.natCast_pow]; rfl
  have h2 := u8_and_nat (c / 2 ^ j) 1 (Nat.lt_of_le_of_lt (Nat.div_le_self _ _) hc) (by omega)
  rw [show ((1 : Nat) : Int) = 1 from rfl] at h2
  rw [h1, h2, Nat.and_one_is_mod, Nat.testBit_eq_decide_div_mod_eq]
  rcases (show c / 2 ^ j % 2 = 0 ∨ c / 2 ^ j % 2 = 1 by omega) with h | h <;> rw [h] <;> rfl

set_option maxHeartbeats 2000000 in
set_option maxRecDepth 100000 in
theorem bits_any (s : ByteArray) (w : World) (hs : s.size ≤ 137438953472) :
    Calls Tryz.prog 94 #[.string s] w (BitsOf s w) := by
  obtain ⟨i0, hi, hz0, hz1, hz2⟩ := info_parts Tryz.infoB
  have hlen := bs_len s
  go_enter Tryz.func94, Tryz.ntmps94
  go_wp2_with (at_make; refine wpList_make_own _ rfl (.const (.int .i64 0)) (.tmp 10) 153 rfl w.heap.size 4 i0 (.bool false) 1 Tryz.underlying153 hi hz0 hz1 .i64 .i64 _ (8 * s.size + 32) rfl rfl ?hC ?b2 ?b3 (Nat.le_refl _) ?_)
  case hC => omega
  case b2 => rw [hz2]; omega
  case b3 => unfold maxLen; omega
  intro w1 hown hgrow
  have HO := Lib.hid hown
  have HG := Lib.hid ((Below.refl w.heap.size w).grown hgrow (Nat.le_refl _) (fun k h => by cases h))
  clear hown hgrow
  go_wp2_with fail
  go_loopw [3, 4] (fun v s4 wr => ∃ k : Nat, k ≤ s.size ∧ s4 = .int .i64 k ∧ wr.ownsRow w.heap.size 4 1 v (8 * k) ((Crc.textBits ((bs s).take k)).map Value.bool) ∧ Below w.heap.size w wr) (fun _ s4 _ => s.size - (intOf s4).toNat)
  case atStart => exact ⟨0, by omega, rfl, by simpa [Crc.textBits] using HO.out, HG.out⟩
  case round =>
    obtain ⟨k, hk, rfl, how, hbl⟩ := hrel
    clear HO HG
    have HW := Lib.hid how
    have HB := Lib.hid hbl
    clear how hbl
    by_cases hlt : k < s.size
    · go_wp2
      obtain ⟨wo, hwo⟩ : ∃ wo : World, wo = wr := ⟨_, rfl⟩
      rw [← hwo] at HB HW ⊢
      clear hwo
      have hts : (bs s).take (k + 1) = (bs s).take k ++ [(bs s).getD k 0] := by
        rw [List.take_succ_eq_append_getElem (by omega)]
        simp [List.getD, List.getElem?_eq_getElem (show k < (bs s).length by omega)]
      have htb : Crc.textBits ((bs s).take (k + 1)) = Crc.textBits ((bs s).take k) ++ Crc.byteBits ((bs s).getD k 0) := by
        rw [hts]; simp [Crc.textBits]
      have hc8 : (bs s).getD k 0 < 256 := by
        have hm : (bs s).getD k 0 ∈ bs s := by simp [List.getD, List.getElem?_eq_getElem (show k < (bs s).length by omega)]
        exact bs_lt s _ hm
      have hix : (s[k]'hlt).toNat = (bs s).getD k 0 := by
        have hk' : k < s.data.size := hlt
        simp [bs, List.getD]
        rw [Array.getElem?_eq_getElem hk']
        rfl
      have HTB := Lib.hid htb
      have HIX := Lib.hid hix
      clear hts htb hix
      generalize (bs s).getD k 0 = cc at *
      go_loopw [3, 5] (fun v s5 wi => ∃ j : Nat, j ≤ 8 ∧ s5 = .int .i64 j ∧ wi.ownsRow w.heap.size 4 1 v (8 * k + j) ((Crc.textBits ((bs s).take k) ++ (Crc.byteBits cc).take j).map Value.bool) ∧ Below w.heap.size w wi) (fun _ s5 _ => 8 - (intOf s5).toNat)
      case atStart => exact ⟨0, by omega, rfl, by simpa using HW.out, HB.out⟩
      case round =>
        obtain ⟨j, hj, rfl, how, hbl⟩ := hrel
        have HW2 := Lib.hid how
        have HB2 := Lib.hid hbl
        clear how hbl
        by_cases hj8 : j < 8
        · have hbw := bit_walk cc j hc8
          rw [← HIX.out] at hbw
          have hbt : (Crc.byteBits cc).take (j + 1) = (Crc.byteBits cc).take j ++ [cc.testBit j] := by
            rw [List.take_succ_eq_append_getElem (by simp [Crc.byteBits]; omega)]
            simp [Crc.byteBits]
          rw [HIX.out] at hbw
          have hbw' : (bits .and .u8 (((s[k]'hlt).toNat : Int) / 2 ^ j) 1 == 1) = cc.testBit j := by rw [HIX.out]; exact hbw
          have HBT := Lib.hid hbt
          clear hbt hbw
          generalize cc.testBit j = bb at *
          go_wp2_with (at_builtin; refine wpList_append_any _ rfl (.tmp 22) (.tmp 31) 153 rfl w.heap.size 4 i0 (.bool false) 1 1 Tryz.underlying153 hi hz0 hz1 hz2 rfl (by decide) _ _ _ rfl (HW2.out.alloc _) _ _ _ _ _ rfl (reads_one (.bool bb)) ?c2 ?c3 ?c4 ?c5 ?_)
          case c2 => intro u hu; simp at hu; subst hu; rfl
          case c3 => unfold maxLen; omega
          case c4 => omega
          case c5 => simp; have := HB2.out.size; omega
          intro v' w2 hown' hgrow hnew
          have hlt2 := HW2.out.lt
          have Hb := Lib.hid (HB2.out.trans (((Below.refl w.heap.size wr).alloc HB2.out.size (.cells #[.bool bb] 4)).grown hgrow (by simp; have := HB2.out.size; omega) (fun k hk => (hlt2 k hk).1)))
          have Ho := Lib.hid hown'
          clear hown' hgrow hnew hlt2
          go_wp2_with fail
          go_roundw
          case rel =>
            refine ⟨j + 1, by omega, by go_num, ?_, Hb.out⟩
            rw [HBT.out]
            simpa [Nat.add_assoc] using Ho.out
          case measure => simp [intOf]; omega
        · obtain rfl : j = 8 := by omega
          have ht8 : (Crc.byteBits cc).take 8 = Crc.byteBits cc := List.take_of_length_le (by simp [Crc.byteBits])
          rw [ht8, ← HTB.out] at HW2
          clear hj8 hj
          go_wp2_with fail
          go_roundw
          case rel => exact ⟨k + 1, by omega, by go_num, HW2.out, HB2.out⟩
          case measure => simp [intOf]; omega
    · obtain rfl : k = s.size := by omega
      have htk : (bs s).take s.size = bs s := List.take_of_length_le (by rw [bs_len]; exact Nat.le_refl _)
      rw [htk] at HW
      clear hk htk
      go_wp2_with fail
      go_loopw [3, 6] (fun v s6 wi => ∃ j : Nat, j ≤ 32 ∧ s6 = .int .i64 j ∧ wi.ownsRow w.heap.size 4 1 v (8 * s.size + j) ((Crc.textBits (bs s) ++ List.replicate j false).map Value.bool) ∧ Below w.heap.size w wi) (fun _ s6 _ => 32 - (intOf s6).toNat)
      case atStart => exact ⟨0, by omega, rfl, by simpa using HW.out, HB.out⟩
      case round =>
        clear HW HB
        obtain ⟨j, hj, rfl, how, hbl⟩ := hrel
        have HW2 := Lib.hid how
        have HB2 := Lib.hid hbl
        clear how hbl
        by_cases hj8 : j < 32
        · go_wp2_with (at_builtin; refine wpList_append_any _ rfl (.tmp 37) (.tmp 38) 153 rfl w.heap.size 4 i0 (.bool false) 1 1 Tryz.underlying153 hi hz0 hz1 hz2 rfl (by decide) _ _ _ rfl (HW2.out.alloc _) _ _ _ _ _ rfl (reads_one (.bool false)) ?d2 ?d3 ?d4 ?d5 ?_)
          case d2 => intro u hu; simp at hu; subst hu; rfl
          case d3 => unfold maxLen; omega
          case d4 => omega
          case d5 => simp; have := HB2.out.size; omega
          intro v' w2 hown' hgrow hnew
          have hlt2 := HW2.out.lt
          have Hb := Lib.hid (HB2.out.trans (((Below.refl w.heap.size wr).alloc HB2.out.size (.cells #[.bool false] 4)).grown hgrow (by simp; have := HB2.out.size; omega) (fun k hk => (hlt2 k hk).1)))
          have Ho := Lib.hid hown'
          clear hown' hgrow hnew hlt2
          go_wp2_with fail
          go_roundw
          case rel =>
            refine ⟨j + 1, by omega, by go_num, ?_, Hb.out⟩
            rw [List.replicate_succ']
            simpa [Nat.add_assoc] using Ho.out
          case measure => simp [intOf]; omega
        · obtain rfl : j = 32 := by omega
          obtain ⟨g, cap, hv, hc1, hc2, hc3, hc4⟩ : ∃ g cap, u3 = .slice (some ⟨g, 0, none⟩) (8 * s.size + 32) cap ∧ 8 * s.size + 32 ≤ cap ∧ cap ≤ maxLen ∧ w.heap.size ≤ g ∧ g < wr.heap.size := by
            rcases owns_form HW2.out with ⟨_, h0⟩ | ⟨g, cap, h1, h2, h3, h4, h5⟩
            · omega
            · exact ⟨g, cap, h1, h2, h3, h4, h5⟩
          subst hv
          have hrow : BoolRow wr g (rawBits s) := by
            have hl : (rawBits s).length = 8 * s.size + 32 := by rw [rawBits, List.length_append, Crc.textBits_len, List.length_replicate, hlen]
            refine ⟨hc4, fun j hj => ?_, fun j hj => HW2.out.frozenAt j⟩
            rw [HW2.out.cellAt j (by omega), List.getElem?_map]
            show Option.map Value.bool (rawBits s)[j]? = _
            rw [List.getElem?_eq_getElem hj]
            simp [List.getD, hj]
          have HF := Lib.hid hrow
          unfold maxLen at hc2
          clear hrow
          go_wp2
          go_ret
          exact ⟨⟨g, cap, rfl, HF.out, hc1, by omega, hc3⟩, HB2.out⟩
end Go.Proofs.YtmneflpjoaocbaaGreat
/- Plain mathematics of numbers as bytes. No program in sight. -/
namespace Go.Proofs.YtmneflpjoaocbaaGreat.Var

set_option maxRecDepth 100000
/-- a number's bytes, n + 1 of them at most -/
def enc : Nat → Nat → List Nat
  | 0, x => [x]
  | n + 1, x => if x < 128 then [x] else (128 + x % 128) :: enc n (x / 128)
theorem enc_len_le (n : Nat) : ∀ x, (enc n x).length ≤ n + 1 := by
  induction n with
  | zero => intro x; simp [enc]
  | succ n ih => intro x; simp only [enc]; split
                 · simp
                 · simp; exact ih _
def val : List Nat → Nat
  | [] => 0
  | c :: l => c % 128 + 128 * val l
theorem enc_small (n x : Nat) (h : x < 128) : enc n x = [x] := by cases n <;> simp [enc, h]
theorem enc_big (n x : Nat) (h : 128 ≤ x) : enc (n + 1) x = (128 + x % 128) :: enc n (x / 128) := by simp [enc]; omega
theorem val_append (l : List Nat) (z : Nat) : val (l ++ [z]) = val l + 128 ^ l.length * (z % 128) := by
  induction l with
  | nil => simp [val]
  | cons c l ih =>
    simp only [List.cons_append, val, ih, List.length_cons, Nat.pow_succ]
    rw [Nat.mul_add, Nat.add_assoc, ← Nat.mul_assoc, Nat.mul_comm 128 (128 ^ l.length)]
theorem val_lt (l : List Nat) : val l < 128 ^ l.length := by
  induction l with
  | nil => simp [val]
  | cons c l ih =>
    simp only [val, List.length_cons, Nat.pow_succ]
    omega
theorem enc_val (n : Nat) : ∀ x, x < 128 ^ (n + 1) → val (enc n x) = x := by
  induction n with
  | zero => intro x h; simp [enc, val] at *; omega
  | succ n ih =>
    intro x h
    by_cases hx : x < 128
    · rw [enc_small _ _ hx]; simp [val]; omega
    · rw [enc_big _ _ (by omega)]
      simp only [val]
      rw [ih (x / 128) (by rw [Nat.pow_succ] at h; omega)]
      omega
/-- bytes whose last one alone is below 128 -/
structure Form (b pre : List Nat) (z : Nat) : Prop where
  eq : b = pre ++ [z]
  big : ∀ c ∈ pre, 128 ≤ c ∧ c < 256
  small : z < 128
theorem enc_form (n : Nat) : ∀ x, x < 128 ^ (n + 1) → ∃ pre z, Form (enc n x) pre z ∧ pre.length ≤ n ∧ (pre = [] ∨ z ≠ 0) := by
  induction n with
  | zero => intro x h; simp at h; exact ⟨[], x, ⟨rfl, by simp, h⟩, by simp, .inl rfl⟩
  | succ n ih =>
    intro x h
    by_cases hx : x < 128
    · exact ⟨[], x, ⟨by rw [enc_small _ _ hx]; rfl, by simp, hx⟩, by simp, .inl rfl⟩
    · obtain ⟨pre, z, hf, hl, hz⟩ := ih (x / 128) (by rw [Nat.pow_succ] at h; omega)
      refine ⟨(128 + x % 128) :: pre, z, ⟨by rw [enc_big _ _ (by omega), hf.eq]; rfl, ?_, hf.small⟩, by simp; exact hl, .inr ?_⟩
      · intro c hc
        rcases List.mem_cons.1 hc with h1 | h1
        · omega
        · exact hf.big c h1
      · rcases hz with h1 | h1
        · subst h1
          have hv := enc_val n (x / 128) (by rw [Nat.pow_succ] at h; omega)
          rw [hf.eq] at hv
          simp [val] at hv
          have := hf.small
          omega
        · exact h1
theorem enc_lt (n x : Nat) (h : x < 128 ^ (n + 1)) : ∀ c ∈ enc n x, c < 256 := by
  obtain ⟨pre, z, hf, _, _⟩ := enc_form n x h
  intro c hc
  rw [hf.eq] at hc
  rcases List.mem_append.1 hc with h1 | h1
  · exact (hf.big c h1).2
  · simp at h1; have := hf.small; omega
theorem val_enc (n : Nat) : ∀ b pre z, Form b pre z → pre.length ≤ n → (pre = [] ∨ z ≠ 0) → enc n (val b) = b := by
  induction n with
  | zero =>
    intro b pre z hf hl _
    have : pre = [] := by simpa using hl
    subst this
    rw [hf.eq]
    have := hf.small
    simp [val, enc]; omega
  | succ n ih =>
    intro b pre z hf hl hz
    cases pre with
    | nil =>
      rw [hf.eq]
      have := hf.small
      rw [show val ([] ++ [z]) = z by simp [val]; omega, enc_small _ _ this]; rfl
    | cons c pre =>
      have hc := hf.big c (by simp)
      have hf2 : Form (pre ++ [z]) pre z := ⟨rfl, fun d hd => hf.big d (by simp [hd]), hf.small⟩
      have hz0 : z ≠ 0 := by rcases hz with h | h; simp at h; exact h
      have h2 := ih (pre ++ [z]) pre z hf2 (by simp at hl; omega) (.inr hz0)
      have hpos : 0 < val (pre ++ [z]) := by
        rw [val_append]
        have h3 : 0 < 128 ^ pre.length := Nat.pow_pos (by omega)
        have h4 : 0 < z % 128 := by have := hf.small; omega
        have := Nat.mul_pos h3 h4
        omega
      rw [hf.eq]
      show enc (n + 1) (c % 128 + 128 * val (pre ++ [z])) = c :: (pre ++ [z])
      rw [enc_big _ _ (by omega), show (c % 128 + 128 * val (pre ++ [z])) / 128 = val (pre ++ [z]) by omega, h2, show 128 + (c % 128 + 128 * val (pre ++ [z])) % 128 = c by omega]
theorem form_unique {b pre pre' : List Nat} {z z' : Nat} (h : Form b pre z) (h' : Form b pre' z') : pre = pre' ∧ z = z' := by
  have e := h.eq.symm.trans h'.eq
  have hz : z = z' := by
    have := congrArg List.getLast? e
    simpa using this
  subst hz
  exact ⟨List.append_cancel_right e, rfl⟩
/-- WHEN bytes are a number's: the last one is not 0 unless it is alone, and it fits in 64 bits -/
theorem enc_iff {b pre : List Nat} {z : Nat} (h : Form b pre z) (hl : pre.length ≤ 9) : enc 9 (val b % 18446744073709551616) = b ↔ ((pre = [] ∨ z ≠ 0) ∧ (pre.length < 9 ∨ z ≤ 1)) := by
  have hv : val b = val pre + 128 ^ pre.length * z := by rw [h.eq, val_append, Nat.mod_eq_of_lt h.small]
  have hvp := val_lt pre
  have hx : val b % 18446744073709551616 < 128 ^ (9 + 1) := Nat.lt_of_lt_of_le (Nat.mod_lt _ (by omega)) (by decide)
  have hfit : (pre.length < 9 ∨ z ≤ 1) ↔ val b < 18446744073709551616 := by
    constructor
    · rintro (h1 | h1)
      · have h2 : 128 ^ (pre.length + 1) ≤ 128 ^ 9 := Nat.pow_le_pow_right (by omega) (by omega)
        rw [Nat.pow_succ] at h2
        have h3 : 128 ^ pre.length * z ≤ 128 ^ pre.length * 127 := Nat.mul_le_mul_left _ (by have := h.small; omega)
        have h4 : (128 : Nat) ^ 9 = 9223372036854775808 := by decide
        omega
      · have h2 : 128 ^ pre.length ≤ 128 ^ 9 := Nat.pow_le_pow_right (by omega) hl
        have h3 : 128 ^ pre.length * z ≤ 128 ^ pre.length * 1 := Nat.mul_le_mul_left _ h1
        have h4 : (128 : Nat) ^ 9 = 9223372036854775808 := by decide
        omega
    · intro h1
      by_cases h2 : pre.length < 9
      · exact .inl h2
      · right
        have e : pre.length = 9 := by omega
        rw [e] at hv
        have h4 : (128 : Nat) ^ 9 = 9223372036854775808 := by decide
        rw [h4] at hv
        omega
  rw [hfit]
  constructor
  · intro he
    obtain ⟨pre', z', hf', _, hz'⟩ := enc_form 9 _ hx
    rw [he] at hf'
    obtain ⟨rfl, rfl⟩ := form_unique h hf'
    refine ⟨hz', ?_⟩
    have hv2 := enc_val 9 _ hx
    rw [he] at hv2
    have := Nat.mod_lt (val b) (show 0 < 18446744073709551616 by omega)
    omega
  · rintro ⟨h1, h2⟩
    rw [Nat.mod_eq_of_lt h2]
    exact val_enc 9 b pre z h hl h1
theorem or128 (y : Nat) : (y % 256) ||| 128 = 128 + y % 128 := by
  have h : ∀ d : Fin 256, d.val ||| 128 = 128 + d.val % 128 := by decide +kernel
  have := h ⟨y % 256, Nat.mod_lt _ (by omega)⟩
  simp only at this
  rw [this]; omega
end Go.Proofs.YtmneflpjoaocbaaGreat.Var
/- The walks of the document's sum: Of, On, Join, Bytes. -/
namespace Go.Proofs.YtmneflpjoaocbaaGreat
set_option maxRecDepth 100000
open Go.RowKit
set_option linter.unusedVariables false

theorem rawBits_len (s : ByteArray) : (rawBits s).length = 8 * s.size + 32 := by rw [rawBits, List.length_append, Crc.textBits_len, List.length_replicate, bs_len]
theorem rawBits_zero (s : ByteArray) : ∀ q, 8 * s.size ≤ q → (rawBits s).getD q false = false := by
  intro q hq
  have hl : (Crc.textBits (bs s)).length = 8 * s.size := by rw [Crc.textBits_len, bs_len]
  simp only [rawBits, List.getD]
  rw [List.getElem?_append_right (by omega), List.getElem?_replicate]
  split <;> rfl
theorem rawBits_take (s : ByteArray) : (rawBits s).take (8 * s.size) = Crc.textBits (bs s) := by
  have hl : (Crc.textBits (bs s)).length = 8 * s.size := by rw [Crc.textBits_len, bs_len]
  rw [rawBits, ← hl]; exact List.take_left
theorem inv_flip (raw : List Bool) : Crc.Inv raw Crc.F 0 (Crc.flip 0 32 raw) := by
  refine ⟨Crc.flip_len _ _ _, Crc.F_lt, fun q _ hq => ?_⟩
  simp only [List.getD]
  rw [Crc.flip_get, List.getElem?_eq_getElem hq, Nat.sub_zero]
  simp only [Option.map_some, Option.getD_some]
  by_cases h : q < 32
  · rw [if_pos ⟨by omega, by omega⟩, Crc.F_bit q h]; cases raw[q] <;> rfl
  · rw [if_neg (by omega), Crc.testBit_out Crc.F_lt (by omega)]; cases raw[q] <;> rfl
theorem final_on (a : Nat) (s : ByteArray) : Crc.regBits (a ^^^ Crc.F) ((rawBits s).take (8 * s.size)) ^^^ Crc.F = Crc.on a (bs s) := by
  rw [rawBits_take, Crc.regBits_text _ _ (bs_lt s)]; rfl

set_option maxHeartbeats 1000000 in
theorem rof_any (s : ByteArray) (w : World) (hs : s.size ≤ 17179869184) :
    Calls Tryz.prog 78 #[.string s] w fun e w' => e = .returned (.int .u32 (Crc.on 0 (bs s))) ∧ Below w.heap.size w w' := by
  go_enter Tryz.func78, Tryz.ntmps78
  go_wp2_with fail
  refine (bits_any s w (by omega)).mono ?_
  rintro e w1 ⟨⟨g, cap, rfl, hr, hc1, hc2, hg⟩, hb1⟩
  have hl := rawBits_len s
  go_wp2_with fail
  refine (turn_any g 0 _ _ (rawBits s) _ hr (by omega) (by omega) (by omega)).mono ?_
  rintro e w2 ⟨rfl, hr2, ho2⟩
  have HL := Lib.hid (left_any g cap (8 * s.size) (rawBits s) _ Crc.F w2 hr2 (inv_flip _) hl hc1 (by omega) hc2 (rawBits_zero s))
  have hb2 := Lib.hid (hb1.trans (ho2.below (B := w.heap.size) (fun i h => by omega) hb1.size))
  clear hr hr2 ho2 hb1 hl
  go_wp2_with fail
  refine HL.out.mono ?_
  rintro e w3 ⟨rfl, ho3⟩
  have hf := final_on 0 s
  rw [Nat.zero_xor] at hf
  rw [hf]
  have hb3 := Lib.hid (hb2.out.trans (ho3.below (B := w.heap.size) (fun i h => by omega) hb2.out.size))
  clear ho3 HL hf
  go_wp2
  go_ret
  exact ⟨rfl, hb3.out⟩

theorem rbytes_any (a : Nat) (w : World) (ha : a < 4294967296) :
    Calls Tryz.prog 77 #[.int .u32 a] w fun e w' => e = .returned (.string ⟨(sumBytes a).toArray⟩) ∧ Below w.heap.size w w' := by
  have hcv := run_convert_bytes_arg (P := Tryz.prog) (w.alloc (.cells #[.int .u8 ((a : Int) % 256), .int .u8 ((a : Int) / 256 % 256), .int .u8 ((a : Int) / 65536 % 256), .int .u8 ((a : Int) / 16777216)] 5)) 57 5 Tryz.underlying57 Tryz.underlying5 w.heap.size 0 4 4 (sumNums a) rfl
    (fun i hi => by
      rw [Nat.zero_add, World.cell?_alloc_new]
      match i, hi with
      | 0, _ => rfl
      | 1, _ => rfl
      | 2, _ => rfl
      | 3, _ => rfl) 9 Tryz.underlying9
  rw [sumNums_str] at hcv
  go_enter Tryz.func77, Tryz.ntmps77
  go_wp2
  go_ret
  exact ⟨rfl, (Below.refl _ _).alloc (Nat.le_refl _) _⟩
end Go.Proofs.YtmneflpjoaocbaaGreat
/- The walk of num.Uint: a number's bytes. -/
namespace Go.Proofs.YtmneflpjoaocbaaGreat
set_option maxRecDepth 100000
open Go.RowKit
set_option linter.unusedVariables false

/-- the string of these bytes -/
def str (l : List Nat) : ByteArray := ⟨(l.map UInt8.ofNat).toArray⟩
def u8s (l : List Nat) : List Value := l.map fun c : Nat => Value.int .u8 (c : Int)
theorem str_nums (l : List Nat) : strOfNums (l.map (fun c : Nat => (c : Int))) = str l := by
  unfold strOfNums str
  rw [List.map_map]; rfl
theorem str_size (l : List Nat) : (str l).size = l.length := by simp [str, ByteArray.size]
theorem bs_str (l : List Nat) (h : ∀ c ∈ l, c < 256) : bs (str l) = l := by
  unfold bs str
  simp only [List.map_map]
  rw [List.map_congr_left (g := id) (fun c hc => by simp [Function.comp]; have := h c hc; omega), List.map_id]
theorem str_bs (s : ByteArray) : str (bs s) = s := by
  unfold str bs
  rw [List.map_map, List.map_congr_left (g := id) (fun c _ => by simp [Function.comp]), List.map_id]
theorem str_append (l m : List Nat) : str l ++ str m = str (l ++ m) := by
  apply ByteArray.ext
  simp [str]
theorem bs_append (s t : ByteArray) : bs (s ++ t) = bs s ++ bs t := by simp [bs]
theorem bs_inj {s t : ByteArray} (h : bs s = bs t) : s = t := by rw [← str_bs s, ← str_bs t, h]
theorem strOf_owned {w : World} {base : Nat} {v : Value} {l : List Nat} (h : w.ownsRow base 5 1 v l.length (u8s l)) :
    ∀ dst, Tryz.prog.underlying dst = some .string → (convert 57 dst v).run Tryz.prog w = .ok (.string (str l)) w := by
  intro dst hd
  rcases owns_form h with ⟨rfl, h0⟩ | ⟨g, cap, rfl, _⟩
  · have : l = [] := List.eq_nil_of_length_eq_zero h0
    subst this
    exact run_convert_bytes_nil w 57 5 Tryz.underlying57 Tryz.underlying5 0 0 dst hd
  · have hc := run_convert_bytes_arg (P := Tryz.prog) w 57 5 Tryz.underlying57 Tryz.underlying5 g 0 l.length cap (l.map (fun c : Nat => (c : Int))) (by simp) (fun i hi => by
      have := h.cells (g := g) rfl i (.int .u8 ((l.map (fun c : Nat => (c : Int))).getD i 0)) (by simp [u8s, List.getD, List.getElem?_eq_getElem hi])
      rw [Nat.zero_add]
      rcases Nat.eq_zero_or_pos i with h0 | h0
      · subst h0; simpa [Addr.add] using this
      · rw [show (⟨g, 0, none⟩ : Addr).add i = ⟨g, i, none⟩ by simp [Addr.add]; omega] at this; exact this) dst hd
    rw [str_nums] at hc
    exact hc

set_option maxHeartbeats 1000000 in
set_option maxRecDepth 100000 in
theorem nuint_any (x0 : Nat) (w : World) (hx0 : x0 < 18446744073709551616) :
    Calls Tryz.prog 85 #[.int .u64 x0] w fun e w' => e = .returned (.string (str (Var.enc 9 x0))) ∧ Below w.heap.size w w' := by
  obtain ⟨i0, hi, hz0, hz1, hz2⟩ := info_parts (show (Tryz.prog.info? 5).map (fun i => (i.zero, i.size, i.bytes)) = some (some (.int .u8 0), 1, 1) by kernel_rfl)
  go_enter Tryz.func85, Tryz.ntmps85
  go_wp2
  go_loopw [0, 3] (fun x b wr => ∃ (k y : Nat) (pre : List Nat), k ≤ 9 ∧ y < 128 ^ (9 - k + 1) ∧ y < 18446744073709551616 ∧ x = .int .u64 y ∧ Var.enc 9 x0 = pre ++ Var.enc (9 - k) y ∧ pre.length = k ∧ wr.ownsRow w.heap.size 5 1 b pre.length (u8s pre) ∧ Below w.heap.size w wr) (fun x _ _ => (intOf x).toNat)
  case atStart => exact ⟨0, x0, [], by omega, by omega, hx0, rfl, rfl, rfl, World.ownsRow_nil _ _ _ _, Below.refl _ _⟩
  case round =>
    obtain ⟨k, y, pre, hk, hy, hy64, rfl, he, hpre, how, hbl⟩ := hrel
    have HE := Lib.hid he
    have HW := Lib.hid how
    have HB := Lib.hid hbl
    have HP := Lib.hid hpre
    clear he how hbl hpre
    by_cases hb : 128 ≤ y
    · obtain ⟨m, hm⟩ : ∃ m, 9 - k = m + 1 := by
        refine ⟨9 - k - 1, ?_⟩
        rcases Nat.eq_zero_or_pos (9 - k) with h0 | h0
        · rw [h0] at hy; simp at hy; omega
        · omega
      have HM := Lib.hid hm
      have HY := Lib.hid hy
      clear hm hy
      have hor : bits .or .u8 ((y : Int) % 256) 128 = ((128 + y % 128 : Nat) : Int) := by
        have h := u8_or_nat (y % 256) 128 (by omega) (by omega)
        rw [Var.or128] at h
        simpa using h
      go_wp2_with (at_builtin; refine wpList_append_any _ rfl (.tmp 8) (.tmp 12) 57 rfl w.heap.size 5 i0 (.int .u8 0) 1 1 Tryz.underlying57 hi hz0 hz1 hz2 rfl (by decide) _ _ _ rfl (HW.out.alloc _) _ _ _ _ _ rfl (reads_one _) ?c2 ?c3 ?c4 ?c5 ?_)
      case c2 => intro u hu; simp at hu; subst hu; rfl
      case c3 => unfold maxLen; have := HP.out; omega
      case c4 => have := HP.out; omega
      case c5 => simp; have := HB.out.size; omega
      intro v' w2 hown' hgrow hnew
      have hlt2 := HW.out.lt
      have Hb := Lib.hid (HB.out.trans (((Below.refl w.heap.size wr).alloc HB.out.size (.cells #[.int .u8 ((128 + y % 128 : Nat) : Int)] 5)).grown hgrow (by simp; have := HB.out.size; omega) (fun k hk => (hlt2 k hk).1)))
      have Ho := Lib.hid hown'
      clear hown' hgrow hnew hlt2
      go_wp2_with fail
      go_roundw
      case rel =>
        refine ⟨k + 1, y / 128, pre ++ [128 + y % 128], by have := HM.out; omega, ?_, by omega, by go_num, ?_, by simp [HP.out], ?_, Hb.out⟩
        · have h1 := HY.out
          rw [HM.out, Nat.pow_succ] at h1
          rw [show 9 - (k + 1) = m by have := HM.out; omega]
          omega
        · rw [HE.out, HM.out, Var.enc_big _ _ hb, show 9 - (k + 1) = m by have := HM.out; omega]; simp
        · simpa [u8s] using Ho.out
      case measure => simp [intOf]; omega
    · have hlast : Var.enc (9 - k) y = [y] := Var.enc_small _ _ (by omega)
      rw [hlast] at HE
      clear hlast
      go_wp2_with (at_builtin; refine wpList_append_any _ rfl (.tmp 14) (.tmp 17) 57 rfl w.heap.size 5 i0 (.int .u8 0) 1 1 Tryz.underlying57 hi hz0 hz1 hz2 rfl (by decide) _ _ _ rfl (HW.out.alloc _) _ _ _ _ _ rfl (reads_one _) ?c2 ?c3 ?c4 ?c5 ?_)
      case c2 => intro u hu; simp at hu; subst hu; rfl
      case c3 => unfold maxLen; have := HP.out; omega
      case c4 => have := HP.out; omega
      case c5 => simp; have := HB.out.size; omega
      intro v' w2 hown' hgrow hnew
      have hlt2 := HW.out.lt
      have Hb := Lib.hid (HB.out.trans (((Below.refl w.heap.size wr).alloc HB.out.size (.cells #[.int .u8 (y : Int)] 5)).grown hgrow (by simp; have := HB.out.size; omega) (fun k hk => (hlt2 k hk).1)))
      have Ho : Hid (w2.ownsRow w.heap.size 5 1 v' (Var.enc 9 x0).length (u8s (Var.enc 9 x0))) := Lib.hid (by
        rw [HE.out]
        simpa [u8s] using hown')
      have hcv := strOf_owned Ho.out 9 Tryz.underlying9
      clear hown' hgrow hnew hlt2 HE HW HB
      go_wp2_with fail
      go_ret
      exact ⟨rfl, Hb.out⟩

set_option maxHeartbeats 1000000 in
set_option maxRecDepth 100000 in
theorem vuint_any (n : Nat) : ∀ (x : Nat) (w : World), n ≤ 1000 → x < 128 ^ (n + 1) → x < 18446744073709551616 →
    Calls Tryz.prog 105 #[.int .u64 x] w fun e w' => e = .returned (.string (str (Var.enc n x))) ∧ Below w.heap.size w w' := by
  have hcv : ∀ (c : Nat) (w : World), (convert 57 9 (.slice (some ⟨w.heap.size, 0, none⟩) 1 1)).run Tryz.prog (w.alloc (.cells #[.int .u8 (c : Int)] 5)) = .ok (.string (str [c])) (w.alloc (.cells #[.int .u8 (c : Int)] 5)) := by
    intro c w
    have := run_convert_bytes_arg (P := Tryz.prog) (w.alloc (.cells #[.int .u8 (c : Int)] 5)) 57 5 Tryz.underlying57 Tryz.underlying5 w.heap.size 0 1 1 [(c : Int)] rfl
      (fun i hi => by
        rw [Nat.zero_add, World.cell?_alloc_new]
        match i, hi with
        | 0, _ => rfl) 9 Tryz.underlying9
    simpa [strOfNums, str] using this
  have hcg : ∀ (c : Nat) (W : World) (g : Nat), W.cell? ⟨g, 0, none⟩ = some (.int .u8 (c : Int)) → (convert 57 9 (.slice (some ⟨g, 0, none⟩) 1 1)).run Tryz.prog W = .ok (.string (str [c])) W := by
    intro c W g hW
    have := run_convert_bytes_arg (P := Tryz.prog) W 57 5 Tryz.underlying57 Tryz.underlying5 g 0 1 1 [(c : Int)] rfl
      (fun i hi => by
        match i, hi with
        | 0, _ => simpa using hW) 9 Tryz.underlying9
    simpa [strOfNums, str] using this
  induction n with
  | zero =>
    intro x w hn hx h64
    have hx' : x < 128 := by simpa using hx
    have hc := hcv x w
    clear hcv hcg hx hn
    go_enter Tryz.func105, Tryz.ntmps105
    have hw : (x : Int) % 256 = x := by omega
    go_wp2
    go_ret
    exact ⟨rfl, (Below.refl _ _).alloc (Nat.le_refl _) _⟩
  | succ n ih =>
    intro x w hn hx h64
    by_cases hx' : x < 128
    · have hc := hcv x w
      clear hcv hcg hx hn ih
      go_enter Tryz.func105, Tryz.ntmps105
      have hw : (x : Int) % 256 = x := by omega
      rw [Var.enc_small _ _ hx']
      go_wp2
      go_ret
      exact ⟨rfl, (Below.refl _ _).alloc (Nat.le_refl _) _⟩
    · have hx2 : x / 128 < 128 ^ (n + 1) := by rw [Nat.pow_succ] at hx; omega
      have IH : ∀ w : World, Hid (Calls Tryz.prog 105 #[.int .u64 ((x / 128 : Nat) : Int)] w fun e w' => e = .returned (.string (str (Var.enc n (x / 128)))) ∧ Below w.heap.size w w') := fun w => Lib.hid (ih (x / 128) w (by omega) hx2 (by omega))
      have hstr := str_append [128 + x % 128] (Var.enc n (x / 128))
      rw [Var.enc_big _ _ (by omega)]
      have hcz := hcg (128 + x % 128)
      have e1 : IntKind.u8.wrap (IntKind.u64.wrap (128 + (x : Int).tmod 128)) = ((128 + x % 128 : Nat) : Int) := by
        rw [Int.tmod_eq_emod_of_nonneg (by omega)]
        simp only [IntKind.wrap, IntKind.signed, IntKind.bits]
        simp
        omega
      have e3 : (x : Int).tdiv 128 = ((x / 128 : Nat) : Int) := by rw [Int.tdiv_eq_ediv_of_nonneg (by omega)]; omega
      have e4 : IntKind.u64.wrap ((x / 128 : Nat) : Int) = ((x / 128 : Nat) : Int) := by
        simp only [IntKind.wrap, IntKind.signed, IntKind.bits]
        simp
        omega
      have hl : str ((128 + x % 128) :: Var.enc n (x / 128)) = str [128 + x % 128] ++ str (Var.enc n (x / 128)) := by rw [hstr]; rfl
      rw [hl]
      have hsz : (str [128 + x % 128]).size + (str (Var.enc n (x / 128))).size ≤ 9223372036854775807 := by
        rw [str_size, str_size]; simp only [List.length_singleton]
        have := Var.enc_len_le n (x / 128); omega
      clear hcv hcg hx hn ih hx2 hstr hl h64
      generalize str [128 + x % 128] = s1 at *
      generalize str (Var.enc n (x / 128)) = s2 at *
      generalize 128 + x % 128 = z at *
      generalize x / 128 = q at *
      go_enter Tryz.func105, Tryz.ntmps105
      go_wp2_with fail
      clear hx'
      have HB := Lib.hid (Below.refl w.heap.size w)
      have HC0 : Hid ((w.alloc (.cells #[.int .u8 (z : Int)] 5)).drew.cell? ⟨w.heap.size, 0, none⟩ = some (.int .u8 (z : Int))) := Lib.hid (by simp)
      have HL : Hid (w.heap.size < (w.alloc (.cells #[.int .u8 (z : Int)] 5)).drew.heap.size) := Lib.hid (by simp)
      go_region_with (first
        | (go_at_call 105; refine (IH w.drew).out.mono ?_; rintro e w' ⟨rfl, hb⟩; replace HB := Lib.hid ((Below.refl _ w).drew.trans hb))
        | (go_at_call 105; refine (IH (w.alloc (.cells #[.int .u8 (z : Int)] 5)).drew).out.mono ?_; rintro e w' ⟨rfl, hb⟩; have hc1 := hcz _ _ ((hb.cell (p := ⟨w.heap.size, 0, none⟩) HL.out).trans HC0.out); replace HB := Lib.hid ((((Below.refl w.heap.size w).alloc (Nat.le_refl _) _).drew).trans (hb.mono (Nat.le_of_lt HL.out)))))
      all_goals go_wp2_with fail
      all_goals go_ret
      all_goals first
        | exact ⟨rfl, HB.out⟩
        | exact ⟨rfl, HB.out.alloc HB.out.size _⟩
end Go.Proofs.YtmneflpjoaocbaaGreat
/- Plain mathematics: bits that are turned within 32 in a row change the sum. No program in sight. -/
namespace Go.Proofs.YtmneflpjoaocbaaGreat.Crc

set_option maxRecDepth 100000
def num : List Bool → Nat
  | [] => 0
  | b :: l => b.toNat + 2 * num l
def bitAt (ys : List Nat) (q : Nat) : Bool := (ys.getD (q / 8) 0).testBit (q % 8)
/-- what is turned behind i places from k on -/
structure TurnedAt (xs ys : List Nat) (k i b : Nat) : Prop where
  len : ys.length = xs.length
  lt : ∀ c ∈ ys, c < 256
  at_ : ∀ q, q < 8 * xs.length → bitAt ys q = (bitAt xs q != (decide (k ≤ q ∧ q < k + i) && b.testBit (q - k)))
theorem TurnedAt.start (xs : List Nat) (k b : Nat) (h : ∀ c ∈ xs, c < 256) : TurnedAt xs xs k 0 b :=
  ⟨rfl, h, fun q _ => by rw [show decide (k ≤ q ∧ q < k + 0) = false by simp]; simp⟩
theorem TurnedAt.keep {xs ys : List Nat} {k i b : Nat} (h : TurnedAt xs ys k i b) (hb : b.testBit i = false) : TurnedAt xs ys k (i + 1) b := by
  refine ⟨h.len, h.lt, fun q hq => ?_⟩
  rw [h.at_ q hq]
  congr 1
  by_cases e : q = k + i
  · subst e; rw [show k + i - k = i by omega, hb]; simp
  · congr 1; exact decide_eq_decide.2 (by omega)
theorem bitAt_set (ys : List Nat) (p q : Nat) (hp : p < 8 * ys.length) : bitAt (ys.set (p / 8) (ys.getD (p / 8) 0 ^^^ 2 ^ (p % 8))) q = (bitAt ys q != (p == q)) := by
  unfold bitAt
  simp only [List.getD]
  rw [List.getElem?_set]
  by_cases e : p / 8 = q / 8
  · rw [if_pos e, if_pos (by omega)]
    simp only [Option.getD_some]
    rw [Nat.testBit_xor, Nat.testBit_two_pow, e]
    congr 1
    rw [Bool.eq_iff_iff]
    simp
    omega
  · rw [if_neg e]
    have : (p == q) = false := by simp; intro h; subst h; exact e rfl
    rw [this]; simp
theorem TurnedAt.turn {xs ys : List Nat} {k i b : Nat} (h : TurnedAt xs ys k i b) (hb : b.testBit i = true) (hi : k + i < 8 * xs.length) :
    TurnedAt xs (ys.set ((k + i) / 8) (ys.getD ((k + i) / 8) 0 ^^^ 2 ^ ((k + i) % 8))) k (i + 1) b := by
  have hin : (k + i) / 8 < ys.length := by rw [h.len]; omega
  have hmem : ys.getD ((k + i) / 8) 0 ∈ ys := by simp [List.getD, hin]
  refine ⟨by rw [List.length_set, h.len], fun c hc => ?_, fun q hq => ?_⟩
  · rcases List.mem_or_eq_of_mem_set hc with h1 | h1
    · exact h.lt c h1
    · rw [h1]
      refine Nat.xor_lt_two_pow (n := 8) (h.lt _ hmem) ?_
      exact Nat.pow_lt_pow_right (by omega) (by omega)
  · rw [bitAt_set _ _ _ (by rw [h.len]; exact hi), h.at_ q hq]
    by_cases e : k + i = q
    · subst e
      rw [show k + i - k = i by omega, hb]
      simp
    · have e1 : (k + i == q) = false := by simpa using e
      have e2 : decide (k ≤ q ∧ q < k + (i + 1)) = decide (k ≤ q ∧ q < k + i) := decide_eq_decide.2 (by omega)
      rw [e1, e2]
      cases bitAt xs q <;> cases (decide (k ≤ q ∧ q < k + i) && b.testBit (q - k)) <;> rfl
end Go.Proofs.YtmneflpjoaocbaaGreat.Crc
