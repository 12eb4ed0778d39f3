/- SumTurned: its walk. -/
import Derived.Test.YtfegdejbcakamaaSumL
import Derived.Test.YtfegdejbcakamaaSumT
import Derived.Deep.RegionWith
namespace Go.Proofs.Ytfegdejbcakamaa
open Go.RowKit
set_option linter.unusedVariables false

theorem bit32_one (a j : Nat) (ha : a < 4294967296) : (bits .and .u32 ((a : Int) / 2 ^ j) 1 == 1) = a.testBit j := by
  have h1 : (a : Int) / 2 ^ j = ((a / 2 ^ j : Nat) : Int) := by rw [Int.natCast_ediv, Int.natCast_pow]; rfl
  have h2 := u32_and_nat (a / 2 ^ j) 1 (Nat.lt_of_le_of_lt (Nat.div_le_self _ _) ha) (by omega)
  rw [show ((1 : Nat) : Int) = 1 from rfl] at h2
  rw [h1, h2, Nat.and_one_is_mod, Nat.testBit_eq_decide_div_mod_eq]
  rcases (show a / 2 ^ j % 2 = 0 ∨ a / 2 ^ j % 2 = 1 by omega) with h | h <;> rw [h] <;> rfl

theorem flip8 (y p : Nat) (hy : y < 256) (hp : p < 8) : bits .xor .u8 (y : Int) ((2 : Int) ^ p % 256) = ((y ^^^ 2 ^ p : Nat) : Int) := by
  have h1 : 2 ^ p < 256 := Nat.lt_of_lt_of_le (Nat.pow_lt_pow_right (by omega) hp) (by decide)
  have h2 : (2 : Int) ^ p % 256 = ((2 ^ p : Nat) : Int) := by
    rw [show (2 : Int) ^ p = ((2 ^ p : Nat) : Int) by rw [Int.natCast_pow]; rfl]
    generalize 2 ^ p = z at *
    omega
  rw [h2]
  exact u8_xor_nat y (2 ^ p) hy h1
theorem bs_nums (ys : List Nat) (h : ∀ c ∈ ys, c < 256) : bs (strOfNums (ys.map Int.ofNat)) = ys := by
  unfold bs
  rw [strOfNums_data, List.map_map, List.map_map]
  conv => rhs; rw [← List.map_id ys]
  refine List.map_congr_left fun c hc => ?_
  have := h c hc
  simp
  exact this

set_option maxHeartbeats 2000000 in
set_option maxRecDepth 100000 in
theorem turned_any (s : ByteArray) (x y : Int) (w : World) (hs : s.size ≤ 9223372036854775807) (hx0 : 0 ≤ x) (hx1 : x ≤ 65535) (hy0 : 0 ≤ y) (hy1 : y ≤ 4294967295) :
    Calls Try.prog 5 #[.string s, .int .u16 x, .int .u32 y] w fun e w' => e = .returned (.bool true) ∧ Below w.heap.size w w' := by
  obtain ⟨b, rfl⟩ := Int.eq_ofNat_of_zero_le hy0
  have hb : b < 4294967296 := by omega
  by_cases hbig : 4096 < s.size ∨ s.size = 0 ∨ b = 0
  · rcases hbig with hbig | hbig
    · go_enter Try.func5, Try.ntmps5
      go_wp2_with fail
      refine (alive_any w).mono ?_
      rintro e w1 ⟨rfl, hb⟩
      go_wp2
      go_ret
      exact ⟨rfl, hb⟩
    · by_cases h4 : 4096 < s.size
      · clear hbig
        go_enter Try.func5, Try.ntmps5
        go_wp2_with fail
        refine (alive_any w).mono ?_
        rintro e w1 ⟨rfl, hb⟩
        go_wp2
        go_ret
        exact ⟨rfl, hb⟩
      · have g1 : decide ((4096 : Int) < s.size) = false := by simp; omega
        by_cases h5 : s.size = 0
        · have g2 : ((s.size : Int) == 0) = true := beq_iff_eq.2 (by omega)
          clear hbig h5
          go_enter Try.func5, Try.ntmps5
          go_wp2_with fail
          refine (alive_any w).mono ?_
          rintro e w1 ⟨rfl, hb⟩
          go_wp2
          go_ret
          exact ⟨rfl, hb⟩
        · have g2 : ((s.size : Int) == 0) = false := beq_eq_false_iff_ne.2 (by omega)
          obtain rfl : b = 0 := by omega
          clear hbig h5
          go_enter Try.func5, Try.ntmps5
          go_wp2_with fail
          refine (alive_any w).mono ?_
          rintro e w1 ⟨rfl, hb⟩
          go_wp2
          go_ret
          exact ⟨rfl, hb⟩
  · have g1 : decide ((4096 : Int) < s.size) = false := by simp; omega
    have g2 : ((s.size : Int) == 0) = false := beq_eq_false_iff_ne.2 (by omega)
    have g3 : ((b : Int) == 0) = false := beq_eq_false_iff_ne.2 (by omega)
    have hsz : s.size ≤ 4096 ∧ 1 ≤ s.size := by omega
    obtain ⟨hs1, hs2⟩ := hsz
    obtain ⟨k, hk, hkl⟩ : ∃ k : Nat, x % (8 * (s.size : Int)) = (k : Int) ∧ k < 8 * s.size := ⟨(x % (8 * (s.size : Int))).toNat, by have := Int.emod_nonneg x (show (8 * (s.size : Int)) ≠ 0 by omega); omega, by have h1 := Int.emod_nonneg x (show (8 * (s.size : Int)) ≠ 0 by omega); have h2 := Int.emod_lt_of_pos x (show (0 : Int) < 8 * (s.size : Int) by omega); omega⟩
    have hlen := bs_len s
    clear hbig hs hy0 hy1
    go_enter Try.func5, Try.ntmps5
    go_wp2_with (refine wpList_conv_bytes rfl 9 33 5 (.tmp 30) rfl Try.underlying9 Try.underlying33 Try.underlying5 rfl ?_; intro c w1 br o1 hz1 hc1)
    have BR := Lib.hid br
    have O1 := Lib.hid o1
    have HT0 := Lib.hid (Crc.TurnedAt.start (bs s) k b (bs_lt s))
    clear br o1 hk hx0 hx1
    go_loopw [9, 10] (fun t s10 wr => ∃ (i : Nat) (ys : List Nat), i ≤ 32 ∧ k + i ≤ 8 * s.size ∧ s10 = .int .i64 i ∧ t = .bool (b % 2 ^ i != 0) ∧ ByteRow wr w.heap.size ys ∧ Crc.TurnedAt (bs s) ys k i b ∧ Only (· = w.heap.size) w1 wr) (fun _ s10 _ => 32 - (intOf s10).toNat)
    case atStart => exact ⟨0, bs s, by omega, by omega, rfl, by simp [Nat.mod_one], BR.out, HT0.out, Only.refl _ _⟩
    case round =>
      clear BR HT0
      obtain ⟨i, ys, hi, hki, rfl, rfl, hbr, hta, ho⟩ := hrel
      have hyl := hta.len
      have HBR := Lib.hid hbr
      have HTA := Lib.hid hta
      have HO := Lib.hid ho
      clear hbr hta ho
      by_cases h1 : i < 32
      · by_cases h2 : k + i < 8 * s.size
        · have hbw := bit32_one b i hb
          cases hbit : b.testBit i with
          | false =>
            have HS := Lib.hid (HTA.out.keep hbit)
            have HM := Lib.hid (Crc.mod_succ_ne b i)
            rw [hbit] at hbw
            have HBIT := Lib.hid hbit
            clear hbit
            generalize (b % 2 ^ i != 0) = tt at *
            go_wp2
            go_roundw
            case rel => exact ⟨i + 1, ys, by omega, by omega, by go_num, by rw [HM.out, HBIT.out]; simp, HBR.out, HS.out, HO.out⟩
            case measure => simp [intOf]; omega
          | true =>
            rw [hbit] at hbw
            have hc := HBR.out.cell ((k + i) / 8) (by omega)
            have hf := HBR.out.free ((k + i) / 8) (by omega)
            have hyb : ys.getD ((k + i) / 8) 0 < 256 := HTA.out.lt _ (by
              have h9 : (k + i) / 8 < ys.length := by omega
              simp [List.getD, h9])
            generalize hyv : ys.getD ((k + i) / 8) 0 = yv at *
            have HYV := Lib.hid hyv
            have hfl := flip8 yv ((k + i) % 8) hyb (by omega)
            have hn := HBR.out.set ((k + i) / 8) (yv ^^^ 2 ^ ((k + i) % 8)) (by omega)
            have hta2 := HTA.out.turn hbit (by omega)
            rw [HYV.out] at hta2
            have Hfin := Lib.hid (show _ ∧ Crc.TurnedAt (bs s) (ys.set ((k + i) / 8) (yv ^^^ 2 ^ ((k + i) % 8))) k (i + 1) b ∧ Only (· = w.heap.size) w1 (wr.setCell ⟨w.heap.size, (k + i) / 8, none⟩ (.int .u8 ((yv ^^^ 2 ^ ((k + i) % 8) : Nat) : Int))) from ⟨hn, hta2, HO.out.setCell (.inl rfl) _⟩)
            have HM := Lib.hid (Crc.mod_succ_ne b i)
            have HBIT := Lib.hid hbit
            clear hyv hbit hn hta2
            go_wp2
            go_roundw
            case rel => exact ⟨i + 1, _, by omega, by omega, by go_num, by rw [HM.out, HBIT.out]; simp, Hfin.out.1, Hfin.out.2.1, Hfin.out.2.2⟩
            case measure => simp [intOf]; omega
        · have hd2 : decide ((k : Int) + (i : Int) < 8 * (s.size : Int)) = false := by simp; omega
          clear h2
          have hcv := run_convert_bytes_arg (P := Try.prog) wr 33 5 Try.underlying33 Try.underlying5 w.heap.size 0 s.size c (ys.map Int.ofNat) (by simp; omega)
            (fun j hj => by
              rw [Nat.zero_add, HBR.out.cell j (by omega)]
              have : j < ys.length := by omega
              simp [List.getD, this]) 9 Try.underlying9
          have hbn := bs_nums ys HTA.out.lt
          have hzn : (strOfNums (ys.map Int.ofNat)).size = s.size := by rw [strOfNums_size, List.length_map]; omega
          generalize strOfNums (ys.map Int.ofNat) = nb at *
          have hsum := Crc.turned_sum HTA.out (by omega) (by omega) (bs_lt s)
          have heq : (((Crc.on 0 ys : Nat) : Int) != ((Crc.on 0 (bs s) : Nat) : Int)) = (b % 2 ^ i != 0) := by
            rw [← hsum, Bool.eq_iff_iff, bne_iff_ne, bne_iff_ne]
            omega
          have HEQ := Lib.hid heq
          have HBN := Lib.hid hbn
          have HBL := Lib.hid (show Below w.heap.size w wr from (O1.out.below (B := w.heap.size) (fun _ h => h.elim) (Nat.le_refl _)).trans (HO.out.below (B := w.heap.size) (fun j hj => by omega) (by omega)))
          clear hsum heq hbn HO HTA HBR
          generalize (b % 2 ^ i != 0) = tt at *
          go_wp2_with fail
          refine (of_any nb _ (by omega)).mono ?_
          rintro e w2 ⟨rfl, hb2⟩
          rw [HBN.out]
          have B2 := Lib.hid (HBL.out.trans (hb2.mono HBL.out.size))
          clear hb2
          go_wp2_with fail
          refine (of_any s _ (by omega)).mono ?_
          rintro e w3 ⟨rfl, hb2⟩
          have B3 := Lib.hid (B2.out.trans (hb2.mono B2.out.size))
          have heq := HEQ.out
          clear hb2
          go_wp2_with fail
          refine (alive_any _).mono ?_
          rintro e w4 ⟨rfl, hb2⟩
          have B4 := Lib.hid (B3.out.trans (hb2.mono B3.out.size))
          clear hb2
          go_wp2
          go_ret
          exact ⟨rfl, B4.out⟩
      · have hd2 : decide ((i : Int) < 32) = false := by simp; omega
        clear h1
        have hcv := run_convert_bytes_arg (P := Try.prog) wr 33 5 Try.underlying33 Try.underlying5 w.heap.size 0 s.size c (ys.map Int.ofNat) (by simp; omega)
          (fun j hj => by
            rw [Nat.zero_add, HBR.out.cell j (by omega)]
            have : j < ys.length := by omega
            simp [List.getD, this]) 9 Try.underlying9
        have hbn := bs_nums ys HTA.out.lt
        have hzn : (strOfNums (ys.map Int.ofNat)).size = s.size := by rw [strOfNums_size, List.length_map]; omega
        generalize strOfNums (ys.map Int.ofNat) = nb at *
        have hsum := Crc.turned_sum HTA.out (by omega) (by omega) (bs_lt s)
        have heq : (((Crc.on 0 ys : Nat) : Int) != ((Crc.on 0 (bs s) : Nat) : Int)) = (b % 2 ^ i != 0) := by
          rw [← hsum, Bool.eq_iff_iff, bne_iff_ne, bne_iff_ne]
          omega
        have HEQ := Lib.hid heq
        have HBN := Lib.hid hbn
        have HBL := Lib.hid (show Below w.heap.size w wr from (O1.out.below (B := w.heap.size) (fun _ h => h.elim) (Nat.le_refl _)).trans (HO.out.below (B := w.heap.size) (fun j hj => by omega) (by omega)))
        clear hsum heq hbn HO HTA HBR
        generalize (b % 2 ^ i != 0) = tt at *
        go_wp2_with fail
        refine (of_any nb _ (by omega)).mono ?_
        rintro e w2 ⟨rfl, hb2⟩
        rw [HBN.out]
        have B2 := Lib.hid (HBL.out.trans (hb2.mono HBL.out.size))
        clear hb2
        go_wp2_with fail
        refine (of_any s _ (by omega)).mono ?_
        rintro e w3 ⟨rfl, hb2⟩
        have B3 := Lib.hid (B2.out.trans (hb2.mono B2.out.size))
        have heq := HEQ.out
        clear hb2
        go_wp2_with fail
        refine (alive_any _).mono ?_
        rintro e w4 ⟨rfl, hb2⟩
        have B4 := Lib.hid (B3.out.trans (hb2.mono B3.out.size))
        clear hb2
        go_wp2
        go_ret
        exact ⟨rfl, B4.out⟩
end Go.Proofs.Ytfegdejbcakamaa
