/- SumJoins: its walk. -/
import Derived.Test.YtfegdejbcakamaaSumP
import Derived.Test.YtfegdejbcakamaaSumL
namespace Go.Proofs.Ytfegdejbcakamaa
open Go.RowKit
set_option linter.unusedVariables false

theorem Try.infoU8 : (Try.prog.info? 5).map (fun i => (i.zero, i.size, i.bytes)) = some (some (.int .u8 0), 1, 1) := by kernel_rfl
def zeroText (n : Nat) : ByteArray := strOfNums (List.replicate n 0)
theorem zeroText_bs (n : Nat) : bs (zeroText n) = List.replicate n 0 := by
  unfold bs zeroText
  rw [strOfNums_data, List.map_map, List.map_replicate]
  rfl
theorem zeroText_size (n : Nat) : (zeroText n).size = n := by rw [← bs_len, zeroText_bs, List.length_replicate]
theorem conv_zeros (W : World) (n : Nat) : (convert 33 9 (.slice (some ⟨W.heap.size, 0, none⟩) n n)).run Try.prog (W.alloc (.cells (madeCells #[Value.int .u8 0] n) 5)) = .ok (.string (zeroText n)) (W.alloc (.cells (madeCells #[Value.int .u8 0] n) 5)) :=
  run_convert_bytes_arg (P := Try.prog) _ 33 5 Try.underlying33 Try.underlying5 W.heap.size 0 n n (List.replicate n 0) (by simp)
    (fun i hi => by
      rw [Nat.zero_add, World.cell?_alloc_new, ← Array.getElem?_toList, toList_madeCells_one, List.getElem?_replicate, if_pos hi]
      simp [List.getD, hi]) 9 Try.underlying9
theorem make_zeros (n : Nat) (hn : n ≤ 1099511627776) (W : World) : (Instr.makeSlice 33 (.int .i64 n) (.int .i64 n)).run Try.prog W = .ok (.slice (some ⟨W.heap.size, 0, none⟩) n n) (W.alloc (.cells (madeCells #[Value.int .u8 0] n) 5)) := by
  obtain ⟨i0, hi, hz0, hz1, hz2⟩ := info_parts Try.infoU8
  have h := run_make_rowN (P := Try.prog) 33 5 i0 (.int .u8 0) Try.underlying33 hi hz0 .i64 .i64 n n (Nat.le_refl _) (by rw [hz2]; omega) (by omega) W
  rw [hz1, Nat.mul_one] at h
  exact h

set_option maxHeartbeats 1000000 in
theorem rjoin_any (a b n : Nat) (w : World) (ha : a < 4294967296) (hb : b < 4294967296) (hn : n ≤ 17179869184) :
    Calls Try.prog 16 #[.int .u32 a, .int .u32 b, .int .i64 n] w fun e w' => e = .returned (.int .u32 (Crc.join a b n)) ∧ Below w.heap.size w w' := by
  have h1 := Crc.on_lt (a := a) ha (zeros_lt n)
  have h2 := Crc.on_lt (a := 0) (by omega) (zeros_lt n)
  have h3 : Crc.on a (List.replicate n 0) ^^^ Crc.on 0 (List.replicate n 0) < 4294967296 := Nat.xor_lt_two_pow (n := 32) h1 h2
  have e1 := Lib.hid (u32_xor_nat _ _ h1 h2)
  have e2 := Lib.hid (u32_xor_nat _ _ h3 hb)
  have hmk := make_zeros n (by omega)
  have hcv := fun W => conv_zeros W n
  have hz := zeroText_size n
  have hzb := zeroText_bs n
  go_enter Try.func16, Try.ntmps16
  go_wp2_with fail
  refine (ron_any a (zeroText n) _ ha (by omega)).mono ?_
  rintro e w1 ⟨rfl, hb1⟩
  rw [hzb]
  have HB1 := Lib.hid (((Below.refl w.heap.size w).alloc (Nat.le_refl _) (.cells (madeCells #[Value.int .u8 0] n) 5)).trans (hb1.mono (by simp)))
  clear hb1
  go_wp2_with fail
  refine (ron_any 0 (zeroText n) _ (by omega) (by omega)).mono ?_
  rintro e w2 ⟨rfl, hb2⟩
  rw [hzb]
  have HB2 := Lib.hid (HB1.out.trans (hb2.mono HB1.out.size))
  have e1' := e1.out
  have e2' := e2.out
  clear hb2 hmk hcv hz hzb
  go_wp2
  go_ret
  exact ⟨rfl, HB2.out⟩
theorem rjoin_neg (a b : Nat) (n : Int) (w : World) (hn : n < 0) :
    Calls Try.prog 16 #[.int .u32 a, .int .u32 b, .int .i64 n] w fun e w' => e = .returned (.int .u32 0) ∧ Below w.heap.size w w' := by
  go_enter Try.func16, Try.ntmps16
  go_wp2
  go_ret
  exact ⟨rfl, Below.refl _ _⟩

set_option maxHeartbeats 1000000 in
theorem joins_any (x y n : Int) (w : World) (hx0 : 0 ≤ x) (hx1 : x ≤ 4294967295) (hy0 : 0 ≤ y) (hy1 : y ≤ 4294967295) (hn0 : -32768 ≤ n) (hn1 : n ≤ 32767) :
    Calls Try.prog 4 #[.int .u32 x, .int .u32 y, .int .i16 n] w fun e w' => e = .returned (.bool true) ∧ Below w.heap.size w w' := by
  obtain ⟨a, rfl⟩ := Int.eq_ofNat_of_zero_le hx0
  obtain ⟨b, rfl⟩ := Int.eq_ofNat_of_zero_le hy0
  have ha : a < 4294967296 := by omega
  have hb : b < 4294967296 := by omega
  by_cases hbig : 1024 < n
  · go_enter Try.func4, Try.ntmps4
    go_wp2_with fail
    refine (alive_any w).mono ?_
    rintro e w1 ⟨rfl, hb⟩
    go_wp2
    go_ret
    exact ⟨rfl, hb⟩
  · by_cases hneg : n < 0
    · go_enter Try.func4, Try.ntmps4
      go_wp2_with fail
      refine (join_neg a b n _ hneg).mono ?_
      rintro e w1 ⟨rfl, hb1⟩
      have B1 := Lib.hid hb1
      clear hb1
      go_wp2_with fail
      refine (rjoin_neg a b n _ hneg).mono ?_
      rintro e w2 ⟨rfl, hb1⟩
      have B2 := Lib.hid (B1.out.trans (hb1.mono B1.out.size))
      clear hb1
      go_wp2_with fail
      refine (alive_any _).mono ?_
      rintro e w3 ⟨rfl, hb1⟩
      have B3 := Lib.hid (B2.out.trans (hb1.mono B2.out.size))
      clear hb1
      go_wp2
      go_ret
      exact ⟨rfl, B3.out⟩
    · obtain ⟨m, rfl⟩ := Int.eq_ofNat_of_zero_le (show 0 ≤ n by omega)
      go_enter Try.func4, Try.ntmps4
      go_wp2_with fail
      refine (join_any a b m _ ha hb (by omega)).mono ?_
      rintro e w1 ⟨rfl, hb1⟩
      have B1 := Lib.hid hb1
      clear hb1
      go_wp2_with fail
      refine (rjoin_any a b m _ ha hb (by omega)).mono ?_
      rintro e w2 ⟨rfl, hb1⟩
      have B2 := Lib.hid (B1.out.trans (hb1.mono B1.out.size))
      clear hb1
      go_wp2_with fail
      refine (alive_any _).mono ?_
      rintro e w3 ⟨rfl, hb1⟩
      have B3 := Lib.hid (B2.out.trans (hb1.mono B2.out.size))
      clear hb1
      go_wp2
      go_ret
      exact ⟨rfl, B3.out⟩
end Go.Proofs.Ytfegdejbcakamaa
