/- The walks of package sum: the table, On, Of, Bytes, Is. -/
import Derived.Test.YthggliknnmhbdaaGreatWords
import Derived.Test.YthggliknnmhbdaaGreatRows
import Derived.Test.YthggliknnmhbdaaGreatSumM
import Derived.Test.YthggliknnmhbdaaGreatLong
namespace Go.Proofs.YthggliknnmhbdaaGreat
open Go.RowKit
set_option linter.unusedVariables false

def tabCells (k : Nat) : Array Value := ((List.range 256).map fun j => Value.int .u32 (if j < k then (Crc.tab j : Int) else 0)).toArray
theorem tabCells_size (k : Nat) : (tabCells k).size = 256 := by simp [tabCells]
theorem tabCells_at (k j : Nat) (hj : j < 256) : (tabCells k)[j]? = some (.int .u32 (if j < k then (Crc.tab j : Int) else 0)) := by
  unfold tabCells
  rw [List.getElem?_toArray, List.getElem?_map, List.getElem?_range hj]
  rfl
theorem tabCells_set (k : Nat) (hk : k < 256) : (tabCells k).setIfInBounds k (.int .u32 (Crc.tab k)) = tabCells (k + 1) := by
  apply Array.ext_getElem?
  intro j
  rw [Array.getElem?_setIfInBounds]
  by_cases hj : j < 256
  · rw [tabCells_at _ _ hj, tabCells_at _ _ hj, tabCells_size]
    by_cases e : k = j
    · subst e; simp [hk]
    · simp only [e, if_false]
      congr 2
      by_cases h : j < k
      · simp [h, show j < k + 1 by omega]
      · simp [h, show ¬ j < k + 1 by omega]
  · have h1 : (tabCells k)[j]? = none := by rw [Array.getElem?_eq_none]; rw [tabCells_size]; omega
    have h2 : (tabCells (k + 1))[j]? = none := by rw [Array.getElem?_eq_none]; rw [tabCells_size]; omega
    rw [h1, h2, if_neg (by omega)]
theorem tabCells_zero : Array.replicate 256 (Value.int .u32 0) = tabCells 0 := by
  apply Array.ext'
  unfold tabCells
  simp only [Nat.not_lt_zero, if_false, Array.toList_replicate]
  rw [List.map_const', List.length_range]
theorem tabCells_one {k : Nat} : (tabCells k).all (·.oneCell') = true := by
  rw [Array.all_eq_true]
  intro i hi
  have h := tabCells_at k i (by rw [tabCells_size] at hi; exact hi)
  rw [Array.getElem?_eq_getElem hi] at h
  injection h with h
  rw [h]; rfl
theorem tab_info : (Tryz.prog.info? 146).map (fun i => (i.zero, i.size)) = some (some (.agg (Array.replicate 256 (.int .u32 0))), 256) := by kernel_rfl

theorem step_walk (y : Nat) (hy : y < 4294967296) : bits .xor .u32 ((y : Int) / 2) (bits .and .u32 (y : Int) 1 * 2197175160 % 4294967296) = (Crc.step y : Int) := by
  have h1 := u32_and_nat y 1 hy (by omega)
  rw [show ((1 : Nat) : Int) = 1 from rfl] at h1
  rw [h1]
  have h2 : y &&& 1 ≤ 1 := Nat.and_le_right
  have h3 : ((y &&& 1 : Nat) : Int) * 2197175160 % 4294967296 = (((y &&& 1) * Crc.P : Nat) : Int) := by unfold Crc.P; omega
  have h4 : (y : Int) / (2 : Int) = ((y >>> 1 : Nat) : Int) := by rw [Nat.shiftRight_eq_div_pow]; omega
  rw [h3, h4, u32_xor_nat _ _ (by rw [Nat.shiftRight_eq_div_pow]; omega) (by unfold Crc.P; omega)]
  rfl

set_option maxHeartbeats 1000000 in
set_option maxRecDepth 100000 in
theorem table_any (w : World) : Calls Tryz.prog 97 #[] w fun e w' => e = .returned (.agg (tabCells 256)) ∧ w' = w.alloc (.cells (tabCells 256) 146) := by
  obtain ⟨hv, hi⟩ := zero_of_info tab_info
  rw [tabCells_zero] at hv
  have Hi := Lib.hid hi
  clear hi
  go_enter Tryz.func97, Tryz.ntmps97
  go_wp2
  go_loopw [3] (fun s3 wr => ∃ i : Nat, i ≤ 256 ∧ s3 = .int .i64 i ∧ wr = w.alloc (.cells (tabCells i) 146)) (fun s3 _ => 256 - (intOf s3).toNat)
  case atStart => exact ⟨0, by omega, rfl, rfl⟩
  case round =>
    obtain ⟨i, hi6, rfl, rfl⟩ := hrel
    by_cases hlt : i < 256
    · have hcell := tabCells_at i i hlt
      have hset := Lib.hid (tabCells_set i hlt)
      rw [if_neg (by omega)] at hcell
      go_wp2
      go_loop [2, 8] (fun x k => ∃ j : Nat, j ≤ 8 ∧ k = .int .i64 j ∧ x = .int .u32 (Crc.steps j i)) (fun _ k => 8 - (intOf k).toNat)
      case atStart => exact ⟨0, by omega, rfl, rfl⟩
      case round =>
        obtain ⟨j, hj, rfl, rfl⟩ := hrel
        have hy := Crc.steps_lt (x := i) j (by omega)
        by_cases hj8 : j < 8
        · have HS := Lib.hid (Crc.steps_succ j i)
          generalize Crc.steps j i = y at *
          go_wp2
          go_round
          case rel => exact ⟨j + 1, by omega, by go_num, by rw [HS.out]; exact congrArg _ (step_walk y hy)⟩
          case measure => simp [intOf]; omega
        · obtain rfl : j = 8 := by omega
          have HT := Lib.hid (show Crc.tab i = Crc.steps 8 i from rfl)
          generalize Crc.steps 8 i = y at *
          have HT2 := Lib.hid HT.out.symm
          clear hj8 hj HT
          go_wp2
          go_roundw
          case rel =>
            refine ⟨i + 1, by omega, by go_num, ?_⟩
            rw [HT2.out, hset.out]
          case measure => simp [intOf]; omega
    · obtain rfl : i = 256 := by omega
      clear hlt hi6
      have hld := run_loadAt_new (P := Tryz.prog) w 146 (tabCells 256) 256 120 Tryz.underlying146 (by rw [tabCells_size]; exact Hi.out)
      have hst := run_storeAt_new (P := Tryz.prog) w 146 (tabCells 256) (tabCells 256) (by rw [tabCells_size]; exact Hi.out) rfl tabCells_one
      go_wp2_with (first | (refine wpList_load_by rfl 146 (.tmp 0) rfl rfl hld ?_) | (refine wpList_store_by rfl 146 (.tmp 0) (.tmp 21) rfl rfl rfl hst ?_))
      refine bodyPost_ret (v := .agg (tabCells 256)) (results_cell_row rfl _ _ w.heap.size 146 (tabCells 256) (0, 0) _ rfl (heap_alloc_new w _) Tryz.underlying146 rfl (by rw [tabCells_size]; exact Hi.out)) rfl ⟨rfl, rfl⟩
end Go.Proofs.YthggliknnmhbdaaGreat
