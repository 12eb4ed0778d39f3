/- Several texts in one: SumM, SumA, SumB, SumN, SumR, SumQ, NumM, SumP, NumA, SumT. -/
import Derived.Test.YthggliknnmhbdaaGreatMWAA
import Derived.Test.YthggliknnmhbdaaGreatRows
import Derived.Laws.BitsAllLaws
import Derived.Laws.BytesArg
import Derived.Deep.QuietTactic
import Derived.BigQuiet
import Derived.Deep.RegionHeld3
import Derived.Deep.Cut
import Derived.Deep.CutRange
import Derived.Deep.CutBlock
import Derived.Deep.RegionWith
/- Plain mathematics of the sums: the divisor, a step, a byte, a text; that it is linear; that it is the division by bits. No program in sight. -/
namespace Go.Proofs.YthggliknnmhbdaaGreat.Crc

set_option maxRecDepth 100000
def P : Nat := 2197175160
def step (x : Nat) : Nat := (x >>> 1) ^^^ ((x &&& 1) * P)
def steps : Nat → Nat → Nat
  | 0, x => x
  | n + 1, x => steps n (step x)
def tab (i : Nat) : Nat := steps 8 i
/-- the register behind a text's bytes -/
def reg (x : Nat) : List Nat → Nat
  | [] => x
  | c :: s => reg (steps 8 (x ^^^ c)) s
def F : Nat := 4294967295
def on (a : Nat) (s : List Nat) : Nat := (reg (a ^^^ F) s) ^^^ F

theorem and_one (x : Nat) : x &&& 1 = x % 2 := Nat.and_one_is_mod x
theorem step_lt {x : Nat} (h : x < 4294967296) : step x < 4294967296 := by
  unfold step
  refine Nat.xor_lt_two_pow (n := 32) ?_ ?_
  · rw [Nat.shiftRight_eq_div_pow]; omega
  · rw [and_one]; have : x % 2 = 0 ∨ x % 2 = 1 := by omega
    rcases this with h | h <;> simp [h, P]
theorem steps_lt {x : Nat} (n : Nat) (h : x < 4294967296) : steps n x < 4294967296 := by
  induction n generalizing x with
  | zero => exact h
  | succ n ih => exact ih (step_lt h)
theorem step_xor (x y : Nat) : step (x ^^^ y) = step x ^^^ step y := by
  unfold step
  have e : ((x ^^^ y) &&& 1) * P = ((x &&& 1) * P) ^^^ ((y &&& 1) * P) := by
    rw [Nat.and_xor_distrib_right, and_one, and_one]
    have hx : x % 2 = 0 ∨ x % 2 = 1 := by omega
    have hy : y % 2 = 0 ∨ y % 2 = 1 := by omega
    rcases hx with hx | hx <;> rcases hy with hy | hy <;> simp [hx, hy]
  rw [e, Nat.shiftRight_xor_distrib]
  ac_rfl
theorem steps_xor (n x y : Nat) : steps n (x ^^^ y) = steps n x ^^^ steps n y := by
  induction n generalizing x y with
  | zero => rfl
  | succ n ih => simp only [steps]; rw [step_xor, ih]
theorem steps_add (m n x : Nat) : steps (m + n) x = steps n (steps m x) := by
  induction m generalizing x with
  | zero => simp [steps]
  | succ m ih => rw [Nat.succ_add]; simp only [steps]; exact ih _
theorem steps_succ (n x : Nat) : steps (n + 1) x = step (steps n x) := steps_add n 1 x
theorem step_double (y : Nat) : step (2 * y) = y := by
  unfold step
  rw [and_one, show 2 * y % 2 = 0 by omega, Nat.zero_mul, Nat.xor_zero, Nat.shiftRight_eq_div_pow]
  omega
theorem steps_shift (k y : Nat) : steps k (2 ^ k * y) = y := by
  induction k with
  | zero => simp [steps]
  | succ k ih =>
    simp only [steps]
    rw [show 2 ^ (k + 1) * y = 2 * (2 ^ k * y) by rw [Nat.pow_succ]; ac_rfl, step_double, ih]
theorem split8 (x : Nat) : x = (x % 256) ^^^ (2 ^ 8 * (x >>> 8)) := by
  apply Nat.eq_of_testBit_eq
  intro i
  rw [Nat.testBit_xor, show (256 : Nat) = 2 ^ 8 from rfl, Nat.testBit_mod_two_pow, Nat.testBit_two_pow_mul, Nat.testBit_shiftRight]
  by_cases h : i < 8
  · simp [h, show ¬ 8 ≤ i by omega]
  · simp [h, show 8 ≤ i by omega, show 8 + (i - 8) = i by omega]
/-- what the table says of a byte -/
theorem table_byte (x c : Nat) : tab ((x % 256) ^^^ c) ^^^ (x >>> 8) = steps 8 (x ^^^ c) := by
  unfold tab
  have h : x ^^^ c = ((x % 256) ^^^ c) ^^^ (2 ^ 8 * (x >>> 8)) := by
    conv => lhs; rw [split8 x]
    ac_rfl
  rw [h, steps_xor 8 ((x % 256) ^^^ c), steps_shift]
theorem reg_lt (s : List Nat) : ∀ {x : Nat}, x < 4294967296 → (∀ c ∈ s, c < 256) → reg x s < 4294967296 := by
  induction s with
  | nil => exact fun h _ => h
  | cons c s ih =>
    intro x h hs
    exact ih (steps_lt 8 (Nat.xor_lt_two_pow (n := 32) h (by have := hs c (by simp); omega))) (fun d hd => hs d (by simp [hd]))
theorem reg_append (s t : List Nat) : ∀ x, reg x (s ++ t) = reg (reg x s) t := by
  induction s with
  | nil => exact fun _ => rfl
  | cons c s ih => exact fun x => ih _
theorem F_lt : F < 4294967296 := by decide
theorem on_lt {a : Nat} {s : List Nat} (h : a < 4294967296) (hs : ∀ c ∈ s, c < 256) : on a s < 4294967296 :=
  Nat.xor_lt_two_pow (n := 32) (reg_lt s (Nat.xor_lt_two_pow (n := 32) h F_lt) hs) F_lt
def byteBits (c : Nat) : List Bool := (List.range 8).map c.testBit
def textBits (s : List Nat) : List Bool := s.flatMap byteBits
end Go.Proofs.YthggliknnmhbdaaGreat.Crc
/- The walks of package sum: the table, On, Of, Bytes, Is. -/
namespace Go.Proofs.YthggliknnmhbdaaGreat
set_option maxRecDepth 100000
open Go.RowKit
set_option linter.unusedVariables false

def tabCells (k : Nat) : Array Value := ((List.range 256).map fun j => Value.int .u32 (if j < k then (Crc.tab j : Int) else 0)).toArray
theorem tabCells_size (k : Nat) : (tabCells k).size = 256 := by simp [tabCells]
theorem tabCells_at (k j : Nat) (hj : j < 256) : (tabCells k)[j]? = some (.int .u32 (if j < k then (Crc.tab j : Int) else 0)) := by
  unfold tabCells
  rw [List.getElem?_toArray, List.getElem?_map, List.getElem?_range hj]
  rfl
theorem tabCells_set (k : Nat) (hk : k < 256) : (tabCells k).setIfInBounds k (.int .u32 (Crc.tab k)) = tabCells (k + 1) := by
  apply Array.ext_getElem?
  intro j
  rw [Array.getElem?_setIfInBounds]
  by_cases hj : j < 256
  · rw [tabCells_at _ _ hj, tabCells_at _ _ hj, tabCells_size]
    by_cases e : k = j
    · subst e; simp [hk]
    · simp only [e, if_false]
      congr 2
      by_cases h : j < k
      · simp [h, show j < k + 1 by omega]
      · simp [h, show ¬ j < k + 1 by omega]
  · have h1 : (tabCells k)[j]? = none := by rw [Array.getElem?_eq_none]; rw [tabCells_size]; omega
    have h2 : (tabCells (k + 1))[j]? = none := by rw [Array.getElem?_eq_none]; rw [tabCells_size]; omega
    rw [h1, h2, if_neg (by omega)]
theorem tabCells_zero : Array.replicate 256 (Value.int .u32 0) = tabCells 0 := by
  apply Array.ext'
  unfold tabCells
  simp only [Nat.not_lt_zero, if_false, Array.toList_replicate]
  rw [List.map_const', List.length_range]
theorem tabCells_one {k : Nat} : (tabCells k).all (·.oneCell') = true := by
  rw [Array.all_eq_true]
  intro i hi
  have h := tabCells_at k i (by rw [tabCells_size] at hi; exact hi)
  rw [Array.getElem?_eq_getElem hi] at h
  injection h with h
  rw [h]; rfl
theorem tab_info : (Tryz.prog.info? 146).map (fun i => (i.zero, i.size)) = some (some (.agg (Array.replicate 256 (.int .u32 0))), 256) := by kernel_rfl

theorem step_walk (y : Nat) (hy : y < 4294967296) : bits .xor .u32 ((y : Int) / 2) (bits .and .u32 (y : Int) 1 * 2197175160 % 4294967296) = (Crc.step y : Int) := by
  have h1 := u32_and_nat y 1 hy (by omega)
  rw [show ((1 : Nat) : Int) = 1 from rfl] at h1
  rw [h1]
  have h2 : y &&& 1 ≤ 1 := Nat.and_le_right
  have h3 : ((y &&& 1 : Nat) : Int) * 2197175160 % 4294967296 = (((y &&& 1) * Crc.P : Nat) : Int) := by unfold Crc.P; omega
  have h4 : (y : Int) / (2 : Int) = ((y >>> 1 : Nat) : Int) := by rw [Nat.shiftRight_eq_div_pow]; omega
  rw [h3, h4, u32_xor_nat _ _ (by rw [Nat.shiftRight_eq_div_pow]; omega) (by unfold Crc.P; omega)]
  rfl

set_option maxHeartbeats 1000000 in
set_option maxRecDepth 100000 in
theorem table_any (w : World) : Calls Tryz.prog 97 #[] w fun e w' => e = .returned (.agg (tabCells 256)) ∧ w' = w.alloc (.cells (tabCells 256) 146) := by
  obtain ⟨hv, hi⟩ := zero_of_info tab_info
  rw [tabCells_zero] at hv
  have Hi := Lib.hid hi
  clear hi
  go_enter Tryz.func97, Tryz.ntmps97
  go_wp2
  go_loopw [3] (fun s3 wr => ∃ i : Nat, i ≤ 256 ∧ s3 = .int .i64 i ∧ wr = w.alloc (.cells (tabCells i) 146)) (fun s3 _ => 256 - (intOf s3).toNat)
  case atStart => exact ⟨0, by omega, rfl, rfl⟩
  case round =>
    obtain ⟨i, hi6, rfl, rfl⟩ := hrel
    by_cases hlt : i < 256
    · have hcell := tabCells_at i i hlt
      have hset := Lib.hid (tabCells_set i hlt)
      rw [if_neg (by omega)] at hcell
      go_wp2
      go_loop [2, 8] (fun x k => ∃ j : Nat, j ≤ 8 ∧ k = .int .i64 j ∧ x = .int .u32 (Crc.steps j i)) (fun _ k => 8 - (intOf k).toNat)
      case atStart => exact ⟨0, by omega, rfl, rfl⟩
      case round =>
        obtain ⟨j, hj, rfl, rfl⟩ := hrel
        have hy := Crc.steps_lt (x := i) j (by omega)
        by_cases hj8 : j < 8
        · have HS := Lib.hid (Crc.steps_succ j i)
          generalize Crc.steps j i = y at *
          go_wp2
          go_round
          case rel => exact ⟨j + 1, by omega, by go_num, by rw [HS.out]; exact congrArg _ (step_walk y hy)⟩
          case measure => simp [intOf]; omega
        · obtain rfl : j = 8 := by omega
          have HT := Lib.hid (show Crc.tab i = Crc.steps 8 i from rfl)
          generalize Crc.steps 8 i = y at *
          have HT2 := Lib.hid HT.out.symm
          clear hj8 hj HT
          go_wp2
          go_roundw
          case rel =>
            refine ⟨i + 1, by omega, by go_num, ?_⟩
            rw [HT2.out, hset.out]
          case measure => simp [intOf]; omega
    · obtain rfl : i = 256 := by omega
      clear hlt hi6
      have hld := run_loadAt_new (P := Tryz.prog) w 146 (tabCells 256) 256 120 Tryz.underlying146 (by rw [tabCells_size]; exact Hi.out)
      have hst := run_storeAt_new (P := Tryz.prog) w 146 (tabCells 256) (tabCells 256) (by rw [tabCells_size]; exact Hi.out) rfl tabCells_one
      go_wp2_with (first | (refine wpList_load_by rfl 146 (.tmp 0) rfl rfl hld ?_) | (refine wpList_store_by rfl 146 (.tmp 0) (.tmp 21) rfl rfl rfl hst ?_))
      refine bodyPost_ret (v := .agg (tabCells 256)) (results_cell_row rfl _ _ w.heap.size 146 (tabCells 256) (0, 0) _ rfl (heap_alloc_new w _) Tryz.underlying146 rfl (by rw [tabCells_size]; exact Hi.out)) rfl ⟨rfl, rfl⟩
end Go.Proofs.YthggliknnmhbdaaGreat
/- The walks of package sum: On, Of, Bytes, Is. -/
namespace Go.Proofs.YthggliknnmhbdaaGreat
set_option maxRecDepth 100000
open Go.RowKit
set_option linter.unusedVariables false

theorem not_walk (a : Nat) (ha : a < 4294967296) : bits .xor .u32 IntKind.u32.max (a : Int) = ((a ^^^ Crc.F : Nat) : Int) := by
  have h := u32_xor_nat 4294967295 a (by omega) ha
  rw [Nat.xor_comm] at h
  exact h

set_option maxHeartbeats 1000000 in
set_option maxRecDepth 100000 in
theorem on_any (a : Nat) (s : ByteArray) (w : World) (ha : a < 4294967296) (hs : s.size ≤ 17592186044416) :
    Calls Tryz.prog 89 #[.int .u32 a, .string s] w fun e w' => e = .returned (.int .u32 (Crc.on a (bs s))) ∧ Below w.heap.size w w' := by
  obtain ⟨hv, hi⟩ := zero_of_info tab_info
  rw [tabCells_zero] at hv
  have Hi := Lib.hid hi
  clear hi
  have hnot := not_walk a ha
  have hx0 : a ^^^ Crc.F < 4294967296 := Nat.xor_lt_two_pow (n := 32) ha Crc.F_lt
  go_enter Tryz.func89, Tryz.ntmps89
  go_wp2_with fail
  refine (table_any w).mono ?_
  rintro e w1 ⟨rfl, hw1⟩
  have hz1 : w1.heap.size = w.heap.size + 1 := by rw [hw1]; simp
  have hb1 : Below w.heap.size w w1 := by rw [hw1]; exact (Below.refl _ _).alloc (Nat.le_refl _) _
  have HB1 := Lib.hid hb1
  have HZ1 := Lib.hid hz1
  clear hw1 hb1 hz1
  have hst := run_storeAt_new (P := Tryz.prog) w1 146 (tabCells 0) (tabCells 256) (by rw [tabCells_size]; exact Hi.out) (by rw [tabCells_size, tabCells_size]) tabCells_one
  go_wp2_with (first | (refine wpList_store_by rfl 146 (.tmp 5) (.tmp 9) rfl rfl rfl hst ?_) | (refine wpList_conv_bytes rfl 9 93 5 (.tmp 12) rfl Tryz.underlying9 Tryz.underlying93 Tryz.underlying5 rfl ?_; intro c w2 br o2 hz2 hc2))
  have o1 := ((Only.refl (fun _ => False) w1).alloc (.cells (tabCells 256) 146))
  have HT := Lib.hid (o2.blk (Blk.new w1 146 (tabCells 256)) (fun h => h))
  have HB2 := Lib.hid ((HB1.out.alloc HB1.out.size (.cells (tabCells 256) 146)).trans (o2.below (fun _ h => h.elim) (by have := HB1.out.size; simp; omega)))
  have BR := Lib.hid br
  clear br o1 o2 hst hz2
  have hlen := bs_len s
  generalize hxx : a ^^^ Crc.F = x0 at *
  have HX := Lib.hid hxx
  clear hxx hnot
  simp only [World.size_alloc] at *
  go_loop [6, 15] (fun x i => ∃ k : Nat, k ≤ s.size ∧ i = .int .i64 k ∧ x = .int .u32 (Crc.reg x0 ((bs s).take k))) (fun _ i => s.size - (intOf i).toNat)
  case atStart => exact ⟨0, by omega, rfl, rfl⟩
  case round =>
    obtain ⟨k, hk, rfl, rfl⟩ := hrel
    have hy := Crc.reg_lt ((bs s).take k) hx0 (fun c hc => bs_lt s c (List.mem_of_mem_take hc))
    by_cases hlt : k < s.size
    · have hts : (bs s).take (k + 1) = (bs s).take k ++ [(bs s).getD k 0] := by
        rw [List.take_succ_eq_append_getElem (by omega)]
        simp [List.getD, List.getElem?_eq_getElem (show k < (bs s).length by omega)]
      have hc8 : (bs s).getD k 0 < 256 := by
        have hm : (bs s).getD k 0 ∈ bs s := by simp [List.getD, List.getElem?_eq_getElem (show k < (bs s).length by omega)]
        exact bs_lt s _ hm
      have hc1 := BR.out.cell k (by omega)
      generalize hcc : (bs s).getD k 0 = cc at *
      clear hcc
      have hreg := Crc.reg_append ((bs s).take k) [cc] x0
      rw [← hts] at hreg
      have HREG := Lib.hid hreg
      clear hts hreg
      generalize Crc.reg x0 ((bs s).take k) = y at *
      have hidx := u8_xor_nat (y % 256) cc (by omega) hc8
      have hil : (y % 256) ^^^ cc < 256 := Nat.xor_lt_two_pow (n := 8) (by omega) hc8
      have hc2 : w2.cell? ⟨w1.heap.size, (y % 256) ^^^ cc, none⟩ = some (.int .u32 (Crc.tab ((y % 256) ^^^ cc))) := by
        rw [HT.out.cell, tabCells_at _ _ hil, if_pos hil]
      rw [show ((y % 256 : Nat) : Int) = (y : Int) % 256 by omega] at hidx
      have htb := Crc.table_byte y cc
      generalize hq : (y % 256) ^^^ cc = q at *
      have htl : Crc.tab q < 4294967296 := Crc.steps_lt 8 (by omega)
      have hx2 := u32_xor_nat (Crc.tab q) (y >>> 8) htl (by rw [Nat.shiftRight_eq_div_pow]; omega)
      rw [htb, show ((y >>> 8 : Nat) : Int) = (y : Int) / (256 : Int) by rw [Nat.shiftRight_eq_div_pow]; omega] at hx2
      have HX2 := Lib.hid hx2
      clear htb hx2 hq
      generalize Crc.tab q = tq at *
      go_wp2
      go_round
      case rel =>
        refine ⟨k + 1, by omega, by go_num, ?_⟩
        rw [HREG.out]
        exact congrArg _ HX2.out
      case measure => simp [intOf]; omega
    · obtain rfl : k = s.size := by omega
      have htk : (bs s).take s.size = bs s := List.take_of_length_le (by rw [bs_len]; exact Nat.le_refl _)
      rw [htk] at hy ⊢
      have hfin : Crc.on a (bs s) = Crc.reg x0 (bs s) ^^^ Crc.F := by rw [← HX.out]; rfl
      have HFIN := Lib.hid hfin
      generalize Crc.reg x0 (bs s) = y at *
      have hnot := not_walk y hy
      rw [← hfin] at hnot
      clear hfin htk hk
      go_wp2
      go_ret
      exact ⟨rfl, HB2.out⟩

theorem of_any (s : ByteArray) (w : World) (hs : s.size ≤ 17592186044416) :
    Calls Tryz.prog 73 #[.string s] w fun e w' => e = .returned (.int .u32 (Crc.on 0 (bs s))) ∧ Below w.heap.size w w' := by
  go_enter Tryz.func73, Tryz.ntmps73
  go_wp2_with fail
  refine (on_any 0 s w (by omega) hs).mono ?_
  rintro e w1 ⟨rfl, hb⟩
  go_wp2
  go_ret
  exact ⟨rfl, hb⟩

/-- a sum's bytes -/
def sumBytes (a : Nat) : List UInt8 := [UInt8.ofNat (a % 256), UInt8.ofNat (a / 256 % 256), UInt8.ofNat (a / 65536 % 256), UInt8.ofNat (a / 16777216)]
def sumNums (a : Nat) : List Int := [(a : Int) % 256, (a : Int) / 256 % 256, (a : Int) / 65536 % 256, (a : Int) / 16777216]
theorem sumNums_str (a : Nat) : strOfNums (sumNums a) = ⟨(sumBytes a).toArray⟩ := by
  unfold strOfNums sumNums sumBytes
  simp only [List.map_cons, List.map_nil]
  rw [show ((a : Int) % 256).toNat = a % 256 by omega, show ((a : Int) / 256 % 256).toNat = a / 256 % 256 by omega, show ((a : Int) / 65536 % 256).toNat = a / 65536 % 256 by omega, show ((a : Int) / 16777216).toNat = a / 16777216 by omega]

theorem bytes_any (a : Nat) (w : World) (ha : a < 4294967296) :
    Calls Tryz.prog 72 #[.int .u32 a] w fun e w' => e = .returned (.string ⟨(sumBytes a).toArray⟩) ∧ Below w.heap.size w w' := by
  have hcv := run_convert_bytes_arg (P := Tryz.prog) (w.alloc (.cells #[.int .u8 ((a : Int) % 256), .int .u8 ((a : Int) / 256 % 256), .int .u8 ((a : Int) / 65536 % 256), .int .u8 ((a : Int) / 16777216)] 5)) 93 5 Tryz.underlying93 Tryz.underlying5 w.heap.size 0 4 4 (sumNums a) rfl
    (fun i hi => by
      rw [Nat.zero_add, World.cell?_alloc_new]
      match i, hi with
      | 0, _ => rfl
      | 1, _ => rfl
      | 2, _ => rfl
      | 3, _ => rfl) 9 Tryz.underlying9
  rw [sumNums_str] at hcv
  go_enter Tryz.func72, Tryz.ntmps72
  go_wp2
  go_ret
  exact ⟨rfl, (Below.refl _ _).alloc (Nat.le_refl _) _⟩

theorem is_any (s b : ByteArray) (w : World) (hs : s.size ≤ 17592186044416) :
    Calls Tryz.prog 95 #[.string s, .string b] w fun e w' => e = .returned (.bool (b.toList == sumBytes (Crc.on 0 (bs s)))) ∧ Below w.heap.size w w' := by
  have hl := Crc.on_lt (a := 0) (s := bs s) (by omega) (bs_lt s)
  go_enter Tryz.func95, Tryz.ntmps95
  go_wp2_with fail
  refine (of_any s w hs).mono ?_
  rintro e w1 ⟨rfl, hb1⟩
  have HB1 := Lib.hid hb1
  clear hb1
  go_wp2_with fail
  refine (bytes_any _ w1 hl).mono ?_
  rintro e w2 ⟨rfl, hb2⟩
  have HB2 := Lib.hid hb2
  clear hb2
  go_wp2
  go_ret
  exact ⟨rfl, HB1.out.trans (HB2.out.mono HB1.out.size)⟩
end Go.Proofs.YthggliknnmhbdaaGreat
/- Plain mathematics of the document's sum: the division of bits in a row, place by place. No program in sight. -/
namespace Go.Proofs.YthggliknnmhbdaaGreat.Crc

set_option maxRecDepth 100000
/-- what the row holds behind i places: the raw bits, and in the window from i on the register's -/
structure Inv (raw : List Bool) (x i : Nat) (cur : List Bool) : Prop where
  len : cur.length = raw.length
  lt : x < 4294967296
  at_ : ∀ q, i ≤ q → q < raw.length → cur.getD q false = (raw.getD q false != x.testBit (q - i))
end Go.Proofs.YthggliknnmhbdaaGreat.Crc
/- The walks of the document's sum (thresherref02). -/
namespace Go.Proofs.YthggliknnmhbdaaGreat
set_option maxRecDepth 100000
open Go.RowKit
set_option linter.unusedVariables false

/-- A row of bools: block g begins with the cells xs, which may be written. -/
structure BoolRow (w : World) (g : Nat) (xs : List Bool) : Prop where
  lt : g < w.heap.size
  cell : ∀ j, j < xs.length → w.cell? ⟨g, j, none⟩ = some (.bool (xs.getD j false))
  free : ∀ j, j < xs.length → w.frozen? ⟨g, j, none⟩ = false
theorem BoolRow.only {S : Nat → Prop} {w w' : World} {g : Nat} {xs : List Bool} (h : BoolRow w g xs) (ho : Only S w w') (hg : ¬ S g) : BoolRow w' g xs :=
  ⟨Nat.lt_of_lt_of_le h.lt ho.size, fun j hj => (ho.cell (p := ⟨g, j, none⟩) h.lt hg).trans (h.cell j hj), fun j hj => (World.frozen?_of_block (ho.block g h.lt hg)).trans (h.free j hj)⟩
theorem BoolRow.set {w : World} {g : Nat} {xs : List Bool} (h : BoolRow w g xs) (k : Nat) (v : Bool) (hk : k < xs.length) : BoolRow (w.setCell ⟨g, k, none⟩ (.bool v)) g (xs.set k v) := by
  refine ⟨by simpa using h.lt, fun j hj => ?_, fun j hj => by rw [World.frozen?_setCell]; exact h.free j (by simpa using hj)⟩
  rw [List.length_set] at hj
  by_cases e : k = j
  · subst e
    rw [World.cell?_setCell_same _ _ _ (h.cell k hk)]
    simp [List.getD, hk]
  · rw [World.cell?_setCell_other _ _ _ _ (by intro e2; injection e2 with _ e2; exact e e2), h.cell j hj]
    simp [List.getD, List.getElem?_set_ne e]

end Go.Proofs.YthggliknnmhbdaaGreat
/- The walks of the document's sum: bits, Of, On, Join. -/
namespace Go.Proofs.YthggliknnmhbdaaGreat
set_option maxRecDepth 100000
open Go.RowKit
set_option linter.unusedVariables false

theorem reads_one {w : World} {t : TypeId} (v : Value) : Reads (w.alloc (.cells #[v] t)) (w.heap.size + 1) 1 (some ⟨w.heap.size, 0, none⟩) 1 [v] :=
  ⟨by simp, fun _ => ⟨_, rfl, by simp, fun j u hu => by
    match j, hu with
    | 0, hu => simp at hu; subst hu; simp [Addr.add]⟩⟩
def rawBits (s : ByteArray) : List Bool := Crc.textBits (bs s) ++ List.replicate 32 false
structure BitsOf (s : ByteArray) (w : World) (e : Ending) (w' : World) : Prop where
  ex : ∃ g cap, e = .returned (.slice (some ⟨g, 0, none⟩) (8 * s.size + 32) cap) ∧ BoolRow w' g (rawBits s) ∧ 8 * s.size + 32 ≤ cap ∧ cap ≤ 9223372036854775807 ∧ w.heap.size ≤ g
  below : Below w.heap.size w w'
end Go.Proofs.YthggliknnmhbdaaGreat
/- Plain mathematics of numbers as bytes. No program in sight. -/
namespace Go.Proofs.YthggliknnmhbdaaGreat.Var

set_option maxRecDepth 100000
/-- a number's bytes, n + 1 of them at most -/
def enc : Nat → Nat → List Nat
  | 0, x => [x]
  | n + 1, x => if x < 128 then [x] else (128 + x % 128) :: enc n (x / 128)
theorem enc_len_le (n : Nat) : ∀ x, (enc n x).length ≤ n + 1 := by
  induction n with
  | zero => intro x; simp [enc]
  | succ n ih => intro x; simp only [enc]; split
                 · simp
                 · simp; exact ih _
def val : List Nat → Nat
  | [] => 0
  | c :: l => c % 128 + 128 * val l
theorem enc_small (n x : Nat) (h : x < 128) : enc n x = [x] := by cases n <;> simp [enc, h]
theorem enc_big (n x : Nat) (h : 128 ≤ x) : enc (n + 1) x = (128 + x % 128) :: enc n (x / 128) := by simp [enc]; omega
theorem val_append (l : List Nat) (z : Nat) : val (l ++ [z]) = val l + 128 ^ l.length * (z % 128) := by
  induction l with
  | nil => simp [val]
  | cons c l ih =>
    simp only [List.cons_append, val, ih, List.length_cons, Nat.pow_succ]
    rw [Nat.mul_add, Nat.add_assoc, ← Nat.mul_assoc, Nat.mul_comm 128 (128 ^ l.length)]
theorem val_lt (l : List Nat) : val l < 128 ^ l.length := by
  induction l with
  | nil => simp [val]
  | cons c l ih =>
    simp only [val, List.length_cons, Nat.pow_succ]
    omega
theorem enc_val (n : Nat) : ∀ x, x < 128 ^ (n + 1) → val (enc n x) = x := by
  induction n with
  | zero => intro x h; simp [enc, val] at *; omega
  | succ n ih =>
    intro x h
    by_cases hx : x < 128
    · rw [enc_small _ _ hx]; simp [val]; omega
    · rw [enc_big _ _ (by omega)]
      simp only [val]
      rw [ih (x / 128) (by rw [Nat.pow_succ] at h; omega)]
      omega
/-- bytes whose last one alone is below 128 -/
structure Form (b pre : List Nat) (z : Nat) : Prop where
  eq : b = pre ++ [z]
  big : ∀ c ∈ pre, 128 ≤ c ∧ c < 256
  small : z < 128
theorem enc_form (n : Nat) : ∀ x, x < 128 ^ (n + 1) → ∃ pre z, Form (enc n x) pre z ∧ pre.length ≤ n ∧ (pre = [] ∨ z ≠ 0) := by
  induction n with
  | zero => intro x h; simp at h; exact ⟨[], x, ⟨rfl, by simp, h⟩, by simp, .inl rfl⟩
  | succ n ih =>
    intro x h
    by_cases hx : x < 128
    · exact ⟨[], x, ⟨by rw [enc_small _ _ hx]; rfl, by simp, hx⟩, by simp, .inl rfl⟩
    · obtain ⟨pre, z, hf, hl, hz⟩ := ih (x / 128) (by rw [Nat.pow_succ] at h; omega)
      refine ⟨(128 + x % 128) :: pre, z, ⟨by rw [enc_big _ _ (by omega), hf.eq]; rfl, ?_, hf.small⟩, by simp; exact hl, .inr ?_⟩
      · intro c hc
        rcases List.mem_cons.1 hc with h1 | h1
        · omega
        · exact hf.big c h1
      · rcases hz with h1 | h1
        · subst h1
          have hv := enc_val n (x / 128) (by rw [Nat.pow_succ] at h; omega)
          rw [hf.eq] at hv
          simp [val] at hv
          have := hf.small
          omega
        · exact h1
theorem enc_lt (n x : Nat) (h : x < 128 ^ (n + 1)) : ∀ c ∈ enc n x, c < 256 := by
  obtain ⟨pre, z, hf, _, _⟩ := enc_form n x h
  intro c hc
  rw [hf.eq] at hc
  rcases List.mem_append.1 hc with h1 | h1
  · exact (hf.big c h1).2
  · simp at h1; have := hf.small; omega
theorem val_enc (n : Nat) : ∀ b pre z, Form b pre z → pre.length ≤ n → (pre = [] ∨ z ≠ 0) → enc n (val b) = b := by
  induction n with
  | zero =>
    intro b pre z hf hl _
    have : pre = [] := by simpa using hl
    subst this
    rw [hf.eq]
    have := hf.small
    simp [val, enc]; omega
  | succ n ih =>
    intro b pre z hf hl hz
    cases pre with
    | nil =>
      rw [hf.eq]
      have := hf.small
      rw [show val ([] ++ [z]) = z by simp [val]; omega, enc_small _ _ this]; rfl
    | cons c pre =>
      have hc := hf.big c (by simp)
      have hf2 : Form (pre ++ [z]) pre z := ⟨rfl, fun d hd => hf.big d (by simp [hd]), hf.small⟩
      have hz0 : z ≠ 0 := by rcases hz with h | h; simp at h; exact h
      have h2 := ih (pre ++ [z]) pre z hf2 (by simp at hl; omega) (.inr hz0)
      have hpos : 0 < val (pre ++ [z]) := by
        rw [val_append]
        have h3 : 0 < 128 ^ pre.length := Nat.pow_pos (by omega)
        have h4 : 0 < z % 128 := by have := hf.small; omega
        have := Nat.mul_pos h3 h4
        omega
      rw [hf.eq]
      show enc (n + 1) (c % 128 + 128 * val (pre ++ [z])) = c :: (pre ++ [z])
      rw [enc_big _ _ (by omega), show (c % 128 + 128 * val (pre ++ [z])) / 128 = val (pre ++ [z]) by omega, h2, show 128 + (c % 128 + 128 * val (pre ++ [z])) % 128 = c by omega]
theorem form_unique {b pre pre' : List Nat} {z z' : Nat} (h : Form b pre z) (h' : Form b pre' z') : pre = pre' ∧ z = z' := by
  have e := h.eq.symm.trans h'.eq
  have hz : z = z' := by
    have := congrArg List.getLast? e
    simpa using this
  subst hz
  exact ⟨List.append_cancel_right e, rfl⟩
/-- WHEN bytes are a number's: the last one is not 0 unless it is alone, and it fits in 64 bits -/
theorem enc_iff {b pre : List Nat} {z : Nat} (h : Form b pre z) (hl : pre.length ≤ 9) : enc 9 (val b % 18446744073709551616) = b ↔ ((pre = [] ∨ z ≠ 0) ∧ (pre.length < 9 ∨ z ≤ 1)) := by
  have hv : val b = val pre + 128 ^ pre.length * z := by rw [h.eq, val_append, Nat.mod_eq_of_lt h.small]
  have hvp := val_lt pre
  have hx : val b % 18446744073709551616 < 128 ^ (9 + 1) := Nat.lt_of_lt_of_le (Nat.mod_lt _ (by omega)) (by decide)
  have hfit : (pre.length < 9 ∨ z ≤ 1) ↔ val b < 18446744073709551616 := by
    constructor
    · rintro (h1 | h1)
      · have h2 : 128 ^ (pre.length + 1) ≤ 128 ^ 9 := Nat.pow_le_pow_right (by omega) (by omega)
        rw [Nat.pow_succ] at h2
        have h3 : 128 ^ pre.length * z ≤ 128 ^ pre.length * 127 := Nat.mul_le_mul_left _ (by have := h.small; omega)
        have h4 : (128 : Nat) ^ 9 = 9223372036854775808 := by decide
        omega
      · have h2 : 128 ^ pre.length ≤ 128 ^ 9 := Nat.pow_le_pow_right (by omega) hl
        have h3 : 128 ^ pre.length * z ≤ 128 ^ pre.length * 1 := Nat.mul_le_mul_left _ h1
        have h4 : (128 : Nat) ^ 9 = 9223372036854775808 := by decide
        omega
    · intro h1
      by_cases h2 : pre.length < 9
      · exact .inl h2
      · right
        have e : pre.length = 9 := by omega
        rw [e] at hv
        have h4 : (128 : Nat) ^ 9 = 9223372036854775808 := by decide
        rw [h4] at hv
        omega
  rw [hfit]
  constructor
  · intro he
    obtain ⟨pre', z', hf', _, hz'⟩ := enc_form 9 _ hx
    rw [he] at hf'
    obtain ⟨rfl, rfl⟩ := form_unique h hf'
    refine ⟨hz', ?_⟩
    have hv2 := enc_val 9 _ hx
    rw [he] at hv2
    have := Nat.mod_lt (val b) (show 0 < 18446744073709551616 by omega)
    omega
  · rintro ⟨h1, h2⟩
    rw [Nat.mod_eq_of_lt h2]
    exact val_enc 9 b pre z h hl h1
theorem or128 (y : Nat) : (y % 256) ||| 128 = 128 + y % 128 := by
  have h : ∀ d : Fin 256, d.val ||| 128 = 128 + d.val % 128 := by decide +kernel
  have := h ⟨y % 256, Nat.mod_lt _ (by omega)⟩
  simp only at this
  rw [this]; omega
end Go.Proofs.YthggliknnmhbdaaGreat.Var
/- The walks of the document's sum: Of, On, Join, Bytes. -/
namespace Go.Proofs.YthggliknnmhbdaaGreat
set_option maxRecDepth 100000
open Go.RowKit
set_option linter.unusedVariables false

end Go.Proofs.YthggliknnmhbdaaGreat
/- The walk of num.Uint: a number's bytes. -/
namespace Go.Proofs.YthggliknnmhbdaaGreat
set_option maxRecDepth 100000
open Go.RowKit
set_option linter.unusedVariables false

/-- the string of these bytes -/
def str (l : List Nat) : ByteArray := ⟨(l.map UInt8.ofNat).toArray⟩
def u8s (l : List Nat) : List Value := l.map fun c : Nat => Value.int .u8 (c : Int)
theorem str_nums (l : List Nat) : strOfNums (l.map (fun c : Nat => (c : Int))) = str l := by
  unfold strOfNums str
  rw [List.map_map]; rfl
theorem str_size (l : List Nat) : (str l).size = l.length := by simp [str, ByteArray.size]
theorem bs_str (l : List Nat) (h : ∀ c ∈ l, c < 256) : bs (str l) = l := by
  unfold bs str
  simp only [List.map_map]
  rw [List.map_congr_left (g := id) (fun c hc => by simp [Function.comp]; have := h c hc; omega), List.map_id]
theorem str_bs (s : ByteArray) : str (bs s) = s := by
  unfold str bs
  rw [List.map_map, List.map_congr_left (g := id) (fun c _ => by simp [Function.comp]), List.map_id]
theorem str_append (l m : List Nat) : str l ++ str m = str (l ++ m) := by
  apply ByteArray.ext
  simp [str]
theorem bs_append (s t : ByteArray) : bs (s ++ t) = bs s ++ bs t := by simp [bs]
theorem bs_inj {s t : ByteArray} (h : bs s = bs t) : s = t := by rw [← str_bs s, ← str_bs t, h]
theorem strOf_owned {w : World} {base : Nat} {v : Value} {l : List Nat} (h : w.ownsRow base 5 1 v l.length (u8s l)) :
    ∀ dst, Tryz.prog.underlying dst = some .string → (convert 93 dst v).run Tryz.prog w = .ok (.string (str l)) w := by
  intro dst hd
  rcases owns_form h with ⟨rfl, h0⟩ | ⟨g, cap, rfl, _⟩
  · have : l = [] := List.eq_nil_of_length_eq_zero h0
    subst this
    exact run_convert_bytes_nil w 93 5 Tryz.underlying93 Tryz.underlying5 0 0 dst hd
  · have hc := run_convert_bytes_arg (P := Tryz.prog) w 93 5 Tryz.underlying93 Tryz.underlying5 g 0 l.length cap (l.map (fun c : Nat => (c : Int))) (by simp) (fun i hi => by
      have := h.cells (g := g) rfl i (.int .u8 ((l.map (fun c : Nat => (c : Int))).getD i 0)) (by simp [u8s, List.getD, List.getElem?_eq_getElem hi])
      rw [Nat.zero_add]
      rcases Nat.eq_zero_or_pos i with h0 | h0
      · subst h0; simpa [Addr.add] using this
      · rw [show (⟨g, 0, none⟩ : Addr).add i = ⟨g, i, none⟩ by simp [Addr.add]; omega] at this; exact this) dst hd
    rw [str_nums] at hc
    exact hc

set_option maxHeartbeats 1000000 in
set_option maxRecDepth 100000 in
theorem nuint_any (x0 : Nat) (w : World) (hx0 : x0 < 18446744073709551616) :
    Calls Tryz.prog 85 #[.int .u64 x0] w fun e w' => e = .returned (.string (str (Var.enc 9 x0))) ∧ Below w.heap.size w w' := by
  obtain ⟨i0, hi, hz0, hz1, hz2⟩ := info_parts (show (Tryz.prog.info? 5).map (fun i => (i.zero, i.size, i.bytes)) = some (some (.int .u8 0), 1, 1) by kernel_rfl)
  go_enter Tryz.func85, Tryz.ntmps85
  go_wp2
  go_loopw [0, 3] (fun x b wr => ∃ (k y : Nat) (pre : List Nat), k ≤ 9 ∧ y < 128 ^ (9 - k + 1) ∧ y < 18446744073709551616 ∧ x = .int .u64 y ∧ Var.enc 9 x0 = pre ++ Var.enc (9 - k) y ∧ pre.length = k ∧ wr.ownsRow w.heap.size 5 1 b pre.length (u8s pre) ∧ Below w.heap.size w wr) (fun x _ _ => (intOf x).toNat)
  case atStart => exact ⟨0, x0, [], by omega, by omega, hx0, rfl, rfl, rfl, World.ownsRow_nil _ _ _ _, Below.refl _ _⟩
  case round =>
    obtain ⟨k, y, pre, hk, hy, hy64, rfl, he, hpre, how, hbl⟩ := hrel
    have HE := Lib.hid he
    have HW := Lib.hid how
    have HB := Lib.hid hbl
    have HP := Lib.hid hpre
    clear he how hbl hpre
    by_cases hb : 128 ≤ y
    · obtain ⟨m, hm⟩ : ∃ m, 9 - k = m + 1 := by
        refine ⟨9 - k - 1, ?_⟩
        rcases Nat.eq_zero_or_pos (9 - k) with h0 | h0
        · rw [h0] at hy; simp at hy; omega
        · omega
      have HM := Lib.hid hm
      have HY := Lib.hid hy
      clear hm hy
      have hor : bits .or .u8 ((y : Int) % 256) 128 = ((128 + y % 128 : Nat) : Int) := by
        have h := u8_or_nat (y % 256) 128 (by omega) (by omega)
        rw [Var.or128] at h
        simpa using h
      go_wp2_with (at_builtin; refine wpList_append_any _ rfl (.tmp 8) (.tmp 12) 93 rfl w.heap.size 5 i0 (.int .u8 0) 1 1 Tryz.underlying93 hi hz0 hz1 hz2 rfl (by decide) _ _ _ rfl (HW.out.alloc _) _ _ _ _ _ rfl (reads_one _) ?c2 ?c3 ?c4 ?c5 ?_)
      case c2 => intro u hu; simp at hu; subst hu; rfl
      case c3 => unfold maxLen; have := HP.out; omega
      case c4 => have := HP.out; omega
      case c5 => simp; have := HB.out.size; omega
      intro v' w2 hown' hgrow hnew
      have hlt2 := HW.out.lt
      have Hb := Lib.hid (HB.out.trans (((Below.refl w.heap.size wr).alloc HB.out.size (.cells #[.int .u8 ((128 + y % 128 : Nat) : Int)] 5)).grown hgrow (by simp; have := HB.out.size; omega) (fun k hk => (hlt2 k hk).1)))
      have Ho := Lib.hid hown'
      clear hown' hgrow hnew hlt2
      go_wp2_with fail
      go_roundw
      case rel =>
        refine ⟨k + 1, y / 128, pre ++ [128 + y % 128], by have := HM.out; omega, ?_, by omega, by go_num, ?_, by simp [HP.out], ?_, Hb.out⟩
        · have h1 := HY.out
          rw [HM.out, Nat.pow_succ] at h1
          rw [show 9 - (k + 1) = m by have := HM.out; omega]
          omega
        · rw [HE.out, HM.out, Var.enc_big _ _ hb, show 9 - (k + 1) = m by have := HM.out; omega]; simp
        · simpa [u8s] using Ho.out
      case measure => simp [intOf]; omega
    · have hlast : Var.enc (9 - k) y = [y] := Var.enc_small _ _ (by omega)
      rw [hlast] at HE
      clear hlast
      go_wp2_with (at_builtin; refine wpList_append_any _ rfl (.tmp 14) (.tmp 17) 93 rfl w.heap.size 5 i0 (.int .u8 0) 1 1 Tryz.underlying93 hi hz0 hz1 hz2 rfl (by decide) _ _ _ rfl (HW.out.alloc _) _ _ _ _ _ rfl (reads_one _) ?c2 ?c3 ?c4 ?c5 ?_)
      case c2 => intro u hu; simp at hu; subst hu; rfl
      case c3 => unfold maxLen; have := HP.out; omega
      case c4 => have := HP.out; omega
      case c5 => simp; have := HB.out.size; omega
      intro v' w2 hown' hgrow hnew
      have hlt2 := HW.out.lt
      have Hb := Lib.hid (HB.out.trans (((Below.refl w.heap.size wr).alloc HB.out.size (.cells #[.int .u8 (y : Int)] 5)).grown hgrow (by simp; have := HB.out.size; omega) (fun k hk => (hlt2 k hk).1)))
      have Ho : Hid (w2.ownsRow w.heap.size 5 1 v' (Var.enc 9 x0).length (u8s (Var.enc 9 x0))) := Lib.hid (by
        rw [HE.out]
        simpa [u8s] using hown')
      have hcv := strOf_owned Ho.out 9 Tryz.underlying9
      clear hown' hgrow hnew hlt2 HE HW HB
      go_wp2_with fail
      go_ret
      exact ⟨rfl, Hb.out⟩

end Go.Proofs.YthggliknnmhbdaaGreat
/- Plain mathematics: bits that are turned within 32 in a row change the sum. No program in sight. -/
namespace Go.Proofs.YthggliknnmhbdaaGreat.Crc

set_option maxRecDepth 100000
def num : List Bool → Nat
  | [] => 0
  | b :: l => b.toNat + 2 * num l
def bitAt (ys : List Nat) (q : Nat) : Bool := (ys.getD (q / 8) 0).testBit (q % 8)
/-- what is turned behind i places from k on -/
structure TurnedAt (xs ys : List Nat) (k i b : Nat) : Prop where
  len : ys.length = xs.length
  lt : ∀ c ∈ ys, c < 256
  at_ : ∀ q, q < 8 * xs.length → bitAt ys q = (bitAt xs q != (decide (k ≤ q ∧ q < k + i) && b.testBit (q - k)))
theorem TurnedAt.start (xs : List Nat) (k b : Nat) (h : ∀ c ∈ xs, c < 256) : TurnedAt xs xs k 0 b :=
  ⟨rfl, h, fun q _ => by rw [show decide (k ≤ q ∧ q < k + 0) = false by simp]; simp⟩
theorem TurnedAt.keep {xs ys : List Nat} {k i b : Nat} (h : TurnedAt xs ys k i b) (hb : b.testBit i = false) : TurnedAt xs ys k (i + 1) b := by
  refine ⟨h.len, h.lt, fun q hq => ?_⟩
  rw [h.at_ q hq]
  congr 1
  by_cases e : q = k + i
  · subst e; rw [show k + i - k = i by omega, hb]; simp
  · congr 1; exact decide_eq_decide.2 (by omega)
theorem bitAt_set (ys : List Nat) (p q : Nat) (hp : p < 8 * ys.length) : bitAt (ys.set (p / 8) (ys.getD (p / 8) 0 ^^^ 2 ^ (p % 8))) q = (bitAt ys q != (p == q)) := by
  unfold bitAt
  simp only [List.getD]
  rw [List.getElem?_set]
  by_cases e : p / 8 = q / 8
  · rw [if_pos e, if_pos (by omega)]
    simp only [Option.getD_some]
    rw [Nat.testBit_xor, Nat.testBit_two_pow, e]
    congr 1
    rw [Bool.eq_iff_iff]
    simp
    omega
  · rw [if_neg e]
    have : (p == q) = false := by simp; intro h; subst h; exact e rfl
    rw [this]; simp
theorem TurnedAt.turn {xs ys : List Nat} {k i b : Nat} (h : TurnedAt xs ys k i b) (hb : b.testBit i = true) (hi : k + i < 8 * xs.length) :
    TurnedAt xs (ys.set ((k + i) / 8) (ys.getD ((k + i) / 8) 0 ^^^ 2 ^ ((k + i) % 8))) k (i + 1) b := by
  have hin : (k + i) / 8 < ys.length := by rw [h.len]; omega
  have hmem : ys.getD ((k + i) / 8) 0 ∈ ys := by simp [List.getD, hin]
  refine ⟨by rw [List.length_set, h.len], fun c hc => ?_, fun q hq => ?_⟩
  · rcases List.mem_or_eq_of_mem_set hc with h1 | h1
    · exact h.lt c h1
    · rw [h1]
      refine Nat.xor_lt_two_pow (n := 8) (h.lt _ hmem) ?_
      exact Nat.pow_lt_pow_right (by omega) (by omega)
  · rw [bitAt_set _ _ _ (by rw [h.len]; exact hi), h.at_ q hq]
    by_cases e : k + i = q
    · subst e
      rw [show k + i - k = i by omega, hb]
      simp
    · have e1 : (k + i == q) = false := by simpa using e
      have e2 : decide (k ≤ q ∧ q < k + (i + 1)) = decide (k ≤ q ∧ q < k + i) := decide_eq_decide.2 (by omega)
      rw [e1, e2]
      cases bitAt xs q <;> cases (decide (k ≤ q ∧ q < k + i) && b.testBit (q - k)) <;> rfl
end Go.Proofs.YthggliknnmhbdaaGreat.Crc
