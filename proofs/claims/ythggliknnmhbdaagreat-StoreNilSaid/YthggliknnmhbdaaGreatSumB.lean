/- The walks of package sum: On, Of, Bytes, Is. -/
import Derived.Test.YthggliknnmhbdaaGreatSumA
namespace Go.Proofs.YthggliknnmhbdaaGreat
open Go.RowKit
set_option linter.unusedVariables false

theorem not_walk (a : Nat) (ha : a < 4294967296) : bits .xor .u32 IntKind.u32.max (a : Int) = ((a ^^^ Crc.F : Nat) : Int) := by
  have h := u32_xor_nat 4294967295 a (by omega) ha
  rw [Nat.xor_comm] at h
  exact h

set_option maxHeartbeats 1000000 in
set_option maxRecDepth 100000 in
theorem on_any (a : Nat) (s : ByteArray) (w : World) (ha : a < 4294967296) (hs : s.size ≤ 17592186044416) :
    Calls Tryz.prog 89 #[.int .u32 a, .string s] w fun e w' => e = .returned (.int .u32 (Crc.on a (bs s))) ∧ Below w.heap.size w w' := by
  obtain ⟨hv, hi⟩ := zero_of_info tab_info
  rw [tabCells_zero] at hv
  have Hi := Lib.hid hi
  clear hi
  have hnot := not_walk a ha
  have hx0 : a ^^^ Crc.F < 4294967296 := Nat.xor_lt_two_pow (n := 32) ha Crc.F_lt
  go_enter Tryz.func89, Tryz.ntmps89
  go_wp2_with fail
  refine (table_any w).mono ?_
  rintro e w1 ⟨rfl, hw1⟩
  have hz1 : w1.heap.size = w.heap.size + 1 := by rw [hw1]; simp
  have hb1 : Below w.heap.size w w1 := by rw [hw1]; exact (Below.refl _ _).alloc (Nat.le_refl _) _
  have HB1 := Lib.hid hb1
  have HZ1 := Lib.hid hz1
  clear hw1 hb1 hz1
  have hst := run_storeAt_new (P := Tryz.prog) w1 146 (tabCells 0) (tabCells 256) (by rw [tabCells_size]; exact Hi.out) (by rw [tabCells_size, tabCells_size]) tabCells_one
  go_wp2_with (first | (refine wpList_store_by rfl 146 (.tmp 5) (.tmp 9) rfl rfl rfl hst ?_) | (refine wpList_conv_bytes rfl 9 93 5 (.tmp 12) rfl Tryz.underlying9 Tryz.underlying93 Tryz.underlying5 rfl ?_; intro c w2 br o2 hz2 hc2))
  have o1 := ((Only.refl (fun _ => False) w1).alloc (.cells (tabCells 256) 146))
  have HT := Lib.hid (o2.blk (Blk.new w1 146 (tabCells 256)) (fun h => h))
  have HB2 := Lib.hid ((HB1.out.alloc HB1.out.size (.cells (tabCells 256) 146)).trans (o2.below (fun _ h => h.elim) (by have := HB1.out.size; simp; omega)))
  have BR := Lib.hid br
  clear br o1 o2 hst hz2
  have hlen := bs_len s
  generalize hxx : a ^^^ Crc.F = x0 at *
  have HX := Lib.hid hxx
  clear hxx hnot
  simp only [World.size_alloc] at *
  go_loop [6, 15] (fun x i => ∃ k : Nat, k ≤ s.size ∧ i = .int .i64 k ∧ x = .int .u32 (Crc.reg x0 ((bs s).take k))) (fun _ i => s.size - (intOf i).toNat)
  case atStart => exact ⟨0, by omega, rfl, rfl⟩
  case round =>
    obtain ⟨k, hk, rfl, rfl⟩ := hrel
    have hy := Crc.reg_lt ((bs s).take k) hx0 (fun c hc => bs_lt s c (List.mem_of_mem_take hc))
    by_cases hlt : k < s.size
    · have hts : (bs s).take (k + 1) = (bs s).take k ++ [(bs s).getD k 0] := by
        rw [List.take_succ_eq_append_getElem (by omega)]
        simp [List.getD, List.getElem?_eq_getElem (show k < (bs s).length by omega)]
      have hc8 : (bs s).getD k 0 < 256 := by
        have hm : (bs s).getD k 0 ∈ bs s := by simp [List.getD, List.getElem?_eq_getElem (show k < (bs s).length by omega)]
        exact bs_lt s _ hm
      have hc1 := BR.out.cell k (by omega)
      generalize hcc : (bs s).getD k 0 = cc at *
      clear hcc
      have hreg := Crc.reg_append ((bs s).take k) [cc] x0
      rw [← hts] at hreg
      have HREG := Lib.hid hreg
      clear hts hreg
      generalize Crc.reg x0 ((bs s).take k) = y at *
      have hidx := u8_xor_nat (y % 256) cc (by omega) hc8
      have hil : (y % 256) ^^^ cc < 256 := Nat.xor_lt_two_pow (n := 8) (by omega) hc8
      have hc2 : w2.cell? ⟨w1.heap.size, (y % 256) ^^^ cc, none⟩ = some (.int .u32 (Crc.tab ((y % 256) ^^^ cc))) := by
        rw [HT.out.cell, tabCells_at _ _ hil, if_pos hil]
      rw [show ((y % 256 : Nat) : Int) = (y : Int) % 256 by omega] at hidx
      have htb := Crc.table_byte y cc
      generalize hq : (y % 256) ^^^ cc = q at *
      have htl : Crc.tab q < 4294967296 := Crc.steps_lt 8 (by omega)
      have hx2 := u32_xor_nat (Crc.tab q) (y >>> 8) htl (by rw [Nat.shiftRight_eq_div_pow]; omega)
      rw [htb, show ((y >>> 8 : Nat) : Int) = (y : Int) / (256 : Int) by rw [Nat.shiftRight_eq_div_pow]; omega] at hx2
      have HX2 := Lib.hid hx2
      clear htb hx2 hq
      generalize Crc.tab q = tq at *
      go_wp2
      go_round
      case rel =>
        refine ⟨k + 1, by omega, by go_num, ?_⟩
        rw [HREG.out]
        exact congrArg _ HX2.out
      case measure => simp [intOf]; omega
    · obtain rfl : k = s.size := by omega
      have htk : (bs s).take s.size = bs s := List.take_of_length_le (by rw [bs_len]; exact Nat.le_refl _)
      rw [htk] at hy ⊢
      have hfin : Crc.on a (bs s) = Crc.reg x0 (bs s) ^^^ Crc.F := by rw [← HX.out]; rfl
      have HFIN := Lib.hid hfin
      generalize Crc.reg x0 (bs s) = y at *
      have hnot := not_walk y hy
      rw [← hfin] at hnot
      clear hfin htk hk
      go_wp2
      go_ret
      exact ⟨rfl, HB2.out⟩

theorem of_any (s : ByteArray) (w : World) (hs : s.size ≤ 17592186044416) :
    Calls Tryz.prog 73 #[.string s] w fun e w' => e = .returned (.int .u32 (Crc.on 0 (bs s))) ∧ Below w.heap.size w w' := by
  go_enter Tryz.func73, Tryz.ntmps73
  go_wp2_with fail
  refine (on_any 0 s w (by omega) hs).mono ?_
  rintro e w1 ⟨rfl, hb⟩
  go_wp2
  go_ret
  exact ⟨rfl, hb⟩

/-- a sum's bytes -/
def sumBytes (a : Nat) : List UInt8 := [UInt8.ofNat (a % 256), UInt8.ofNat (a / 256 % 256), UInt8.ofNat (a / 65536 % 256), UInt8.ofNat (a / 16777216)]
def sumNums (a : Nat) : List Int := [(a : Int) % 256, (a : Int) / 256 % 256, (a : Int) / 65536 % 256, (a : Int) / 16777216]
theorem sumNums_str (a : Nat) : strOfNums (sumNums a) = ⟨(sumBytes a).toArray⟩ := by
  unfold strOfNums sumNums sumBytes
  simp only [List.map_cons, List.map_nil]
  rw [show ((a : Int) % 256).toNat = a % 256 by omega, show ((a : Int) / 256 % 256).toNat = a / 256 % 256 by omega, show ((a : Int) / 65536 % 256).toNat = a / 65536 % 256 by omega, show ((a : Int) / 16777216).toNat = a / 16777216 by omega]

theorem bytes_any (a : Nat) (w : World) (ha : a < 4294967296) :
    Calls Tryz.prog 72 #[.int .u32 a] w fun e w' => e = .returned (.string ⟨(sumBytes a).toArray⟩) ∧ Below w.heap.size w w' := by
  have hcv := run_convert_bytes_arg (P := Tryz.prog) (w.alloc (.cells #[.int .u8 ((a : Int) % 256), .int .u8 ((a : Int) / 256 % 256), .int .u8 ((a : Int) / 65536 % 256), .int .u8 ((a : Int) / 16777216)] 5)) 93 5 Tryz.underlying93 Tryz.underlying5 w.heap.size 0 4 4 (sumNums a) rfl
    (fun i hi => by
      rw [Nat.zero_add, World.cell?_alloc_new]
      match i, hi with
      | 0, _ => rfl
      | 1, _ => rfl
      | 2, _ => rfl
      | 3, _ => rfl) 9 Tryz.underlying9
  rw [sumNums_str] at hcv
  go_enter Tryz.func72, Tryz.ntmps72
  go_wp2
  go_ret
  exact ⟨rfl, (Below.refl _ _).alloc (Nat.le_refl _) _⟩

theorem is_any (s b : ByteArray) (w : World) (hs : s.size ≤ 17592186044416) :
    Calls Tryz.prog 95 #[.string s, .string b] w fun e w' => e = .returned (.bool (b.toList == sumBytes (Crc.on 0 (bs s)))) ∧ Below w.heap.size w w' := by
  have hl := Crc.on_lt (a := 0) (s := bs s) (by omega) (bs_lt s)
  go_enter Tryz.func95, Tryz.ntmps95
  go_wp2_with fail
  refine (of_any s w hs).mono ?_
  rintro e w1 ⟨rfl, hb1⟩
  have HB1 := Lib.hid hb1
  clear hb1
  go_wp2_with fail
  refine (bytes_any _ w1 hl).mono ?_
  rintro e w2 ⟨rfl, hb2⟩
  have HB2 := Lib.hid hb2
  clear hb2
  go_wp2
  go_ret
  exact ⟨rfl, HB1.out.trans (HB2.out.mono HB1.out.size)⟩
end Go.Proofs.YthggliknnmhbdaaGreat
