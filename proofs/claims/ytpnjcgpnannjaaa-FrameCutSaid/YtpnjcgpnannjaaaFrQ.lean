/- The walk of thresherlaw04.turned. -/
import Derived.Test.YtpnjcgpnannjaaaFrO
import Derived.Test.YtpnjcgpnannjaaaFrX
namespace Go.Proofs.Ytpnjcgpnannjaaa
open Go.RowKit
set_option linter.unusedVariables false

theorem bit32_one' (a j : Nat) (ha : a < 4294967296) : (bits .and .u32 ((a : Int) / 2 ^ j) 1 == 1) = a.testBit j := by
  have h1 : (a : Int) / 2 ^ j = ((a / 2 ^ j : Nat) : Int) := by rw [Int.natCast_ediv, Int.natCast_pow]; rfl
  have h2 := u32_and_nat (a / 2 ^ j) 1 (Nat.lt_of_le_of_lt (Nat.div_le_self _ _) ha) (by omega)
  rw [show ((1 : Nat) : Int) = 1 from rfl] at h2
  rw [h1, h2, Nat.and_one_is_mod, Nat.testBit_eq_decide_div_mod_eq]
  rcases (show a / 2 ^ j % 2 = 0 ∨ a / 2 ^ j % 2 = 1 by omega) with h | h <;> rw [h] <;> rfl
theorem flip8' (y p : Nat) (hy : y < 256) (hp : p < 8) : bits .xor .u8 (y : Int) ((2 : Int) ^ p % 256) = ((y ^^^ 2 ^ p : Nat) : Int) := by
  have h1 : 2 ^ p < 256 := Nat.lt_of_lt_of_le (Nat.pow_lt_pow_right (by omega) hp) (by decide)
  have h2 : (2 : Int) ^ p % 256 = ((2 ^ p : Nat) : Int) := by
    rw [show (2 : Int) ^ p = ((2 ^ p : Nat) : Int) by rw [Int.natCast_pow]; rfl]
    generalize 2 ^ p = z at *
    omega
  rw [h2]
  exact u8_xor_nat y (2 ^ p) hy h1

set_option maxHeartbeats 4000000 in
set_option maxRecDepth 100000 in
theorem turned4_any (tag : Nat) (x : ByteArray) (a : Int) (b : Nat) (w : World) (ht : tag < 256) (hx : x.size ≤ 131072) (ha0 : 0 ≤ a) (ha1 : a ≤ 65535) (hb : b < 4294967296) :
    Calls Try.prog 17 #[.string (fraw tag x), .agg #[.int .u8 tag, .string x], .int .u16 a, .int .u32 b] w fun e w' => e = .returned (.bool true) ∧ Below w.heap.size w w' := by
  obtain ⟨H, hH⟩ : ∃ H, H = (heads tag x.size).length := ⟨_, rfl⟩
  have hst := fraw_str tag x ht (by omega)
  have hbx := bs_len x
  have hfl := frameL_len tag (bs x)
  rw [hbx, ← hH] at hfl
  have hFl := frameL_lt ht (bs_lt x) (by omega : (bs x).length ≤ 131072)
  have hbs : bs (fraw tag x) = frameL tag (bs x) := by rw [hst, bs_str _ hFl]
  have hsz : (fraw tag x).size = H + x.size + 4 := by rw [hst, str_size, hfl]
  have hH3 : 3 ≤ H ∧ H ≤ 12 := by
    have h1 := heads_len tag x.size
    have h2 := Var.enc_len_le 9 x.size
    have h3 : 1 ≤ (Var.enc 9 x.size).length := by
      obtain ⟨pre, z, hf, _, _⟩ := Var.enc_form 9 x.size (Nat.lt_of_lt_of_le (show x.size < 18446744073709551616 by omega) (by decide))
      rw [hf.eq]; simp
    omega
  obtain ⟨m, hm, hml⟩ : ∃ m : Nat, a % (8 * ((x.size + 4 : Nat) : Int)) = (m : Int) ∧ m < 8 * (x.size + 4) := ⟨(a % (8 * ((x.size + 4 : Nat) : Int))).toNat, by have := Int.emod_nonneg a (show (8 * ((x.size + 4 : Nat) : Int)) ≠ 0 by omega); omega, by have h1 := Int.emod_nonneg a (show (8 * ((x.size + 4 : Nat) : Int)) ≠ 0 by omega); have h2 := Int.emod_lt_of_pos a (show (0 : Int) < 8 * ((x.size + 4 : Nat) : Int) by omega); omega⟩
  obtain ⟨k, hk⟩ : ∃ k : Nat, k = 8 * H + m := ⟨_, rfl⟩
  have HT : Hid (∀ i ys, Crc.TurnedAt (bs (fraw tag x)) ys k i b → k + i ≤ 8 * (fraw tag x).size → i ≤ 32 → b % 2 ^ i ≠ 0 → (fread (str ys) 131072).2.2.2 = 41) := Lib.hid (fun i ys h h1 h2 h3 => by
    rw [hbs] at h
    refine fread_turned ht (bs_lt x) (by omega) h (by rw [hbx, ← hH]; omega) (by rw [hfl]; omega) h2 h3)
  have HT0 := Lib.hid (Crc.TurnedAt.start (bs (fraw tag x)) k b (bs_lt _))
  have hlen := bs_len (fraw tag x)
  clear hst hfl hFl hbs hbx hH
  generalize fraw tag x = s at *
  have he1 : (s.size : Int) - 4 - (x.size : Int) = (H : Int) := by omega
  have he2 : (s.size : Int) - (H : Int) = ((x.size + 4 : Nat) : Int) := by omega
  have hek : 8 * (H : Int) + (m : Int) = (k : Int) := by omega
  have hge : ¬ (H : Int) < 3 := by omega
  have hkle : k < 8 * H + 8 * (x.size + 4) := by omega
  clear hk
  have hxs4 : x.size + 4 ≤ 131076 := by omega
  have hsz1 : s.size ≤ H + (x.size + 4) := by omega
  have hsz2 : H + (x.size + 4) ≤ s.size := by omega
  have hq1 : x.size ≤ 131072 := hx
  clear hsz
  generalize hq4 : x.size + 4 = q4 at *
  have HQ4 := Lib.hid hq4
  clear hq4
  go_enter Try.func17, Try.ntmps17
  have HB0' := Lib.hid ((Below.refl _ w).alloc (Nat.le_refl _) (.cells #[.int .u8 tag, .string x] 31))
  go_upto_region 4 with fail
  have HB0 := HB0'
  generalize w.alloc (.cells #[.int .u8 tag, .string x] 31) = W0 at HB0 ⊢
  clear HB0' he1
  go_wp2_with (refine wpList_conv_bytes rfl 9 44 5 (.tmp 26) rfl Try.underlying9 Try.underlying44 Try.underlying5 rfl ?_; intro c w1 br o1 hz1 hc1)
  have BR := Lib.hid br
  have O1 := Lib.hid o1
  clear br o1
  go_loopw [12, 13] (fun t s10 wr => ∃ (i : Nat) (ys : List Nat), i ≤ 32 ∧ k + i ≤ 8 * s.size ∧ s10 = .int .i64 i ∧ t = .bool (b % 2 ^ i != 0) ∧ ByteRow wr W0.heap.size ys ∧ Crc.TurnedAt (bs s) ys k i b ∧ Only (· = W0.heap.size) w1 wr) (fun _ s10 _ => 32 - (intOf s10).toNat)
  case atStart => exact ⟨0, bs s, by omega, by omega, rfl, by simp [Nat.mod_one], BR.out, HT0.out, Only.refl _ _⟩
  case round =>
    clear BR HT0 hm he2 hek
    obtain ⟨i, ys, hi, hki, rfl, rfl, hbr, hta, ho⟩ := hrel
    have hyl := hta.len
    have HBR := Lib.hid hbr
    have HTA := Lib.hid hta
    have HO := Lib.hid ho
    clear hbr hta ho
    by_cases h1 : i < 32
    · by_cases h2 : k + i < 8 * s.size
      · have hbw := bit32_one' b i hb
        cases hbit : b.testBit i with
        | false =>
          have HS := Lib.hid (HTA.out.keep hbit)
          have HM := Lib.hid (Crc.mod_succ_ne b i)
          rw [hbit] at hbw
          have HBIT := Lib.hid hbit
          clear hbit
          generalize (b % 2 ^ i != 0) = tt at *
          go_wp2
          go_roundw
          case rel => exact ⟨i + 1, ys, by omega, by omega, by go_num, by rw [HM.out, HBIT.out]; simp, HBR.out, HS.out, HO.out⟩
          case measure => simp [intOf]; omega
        | true =>
          rw [hbit] at hbw
          have hc := HBR.out.cell ((k + i) / 8) (by omega)
          have hf := HBR.out.free ((k + i) / 8) (by omega)
          have hyb : ys.getD ((k + i) / 8) 0 < 256 := HTA.out.lt _ (by
            have h9 : (k + i) / 8 < ys.length := by omega
            simp [List.getD, h9])
          generalize hyv : ys.getD ((k + i) / 8) 0 = yv at *
          have HYV := Lib.hid hyv
          have hfl := flip8' yv ((k + i) % 8) hyb (by omega)
          have hn := HBR.out.set ((k + i) / 8) (yv ^^^ 2 ^ ((k + i) % 8)) (by omega)
          have hta2 := HTA.out.turn hbit (by omega)
          rw [HYV.out] at hta2
          have Hfin := Lib.hid (show _ ∧ Crc.TurnedAt (bs s) (ys.set ((k + i) / 8) (yv ^^^ 2 ^ ((k + i) % 8))) k (i + 1) b ∧ Only (· = W0.heap.size) w1 (wr.setCell ⟨W0.heap.size, (k + i) / 8, none⟩ (.int .u8 ((yv ^^^ 2 ^ ((k + i) % 8) : Nat) : Int))) from ⟨hn, hta2, HO.out.setCell (.inl rfl) _⟩)
          have HM := Lib.hid (Crc.mod_succ_ne b i)
          have HBIT := Lib.hid hbit
          clear hyv hbit hn hta2
          go_wp2
          go_roundw
          case rel => exact ⟨i + 1, _, by omega, by omega, by go_num, by rw [HM.out, HBIT.out]; simp, Hfin.out.1, Hfin.out.2.1, Hfin.out.2.2⟩
          case measure => simp [intOf]; omega
      · have hd2 : decide ((k : Int) + (i : Int) < 8 * (s.size : Int)) = false := by simp; omega
        clear h2
        have hcv := run_convert_bytes_arg (P := Try.prog) wr 44 5 Try.underlying44 Try.underlying5 W0.heap.size 0 s.size c (ys.map fun c : Nat => (c : Int)) (by simp; omega)
          (fun j hj => by
            rw [Nat.zero_add, HBR.out.cell j (by omega)]
            have : j < ys.length := by omega
            simp [List.getD, this]) 9 Try.underlying9
        rw [str_nums] at hcv
        have h41 : (b % 2 ^ i != 0) = true → (fread (str ys) 131072).2.2.2 = 41 := fun h => HT.out i ys HTA.out (by omega) hi (by simpa using h)
        have hRd := Lib.hid (fread_any (str ys) 131072 wr (by rw [str_size]; omega) (by omega) (by omega))
        unfold FRead at hRd
        have HBL := Lib.hid (show Below w.heap.size w wr from HB0.out.trans (Below.mono ((O1.out.below (B := W0.heap.size) (fun _ h => h.elim) (Nat.le_refl _)).trans (HO.out.below (B := W0.heap.size) (fun j hj => by omega) (by omega))) HB0.out.size))
        clear HO HTA HBR
        generalize fread (str ys) 131072 = r at *
        obtain ⟨t', x', n', e'⟩ := r
        simp only at h41 hRd
        generalize (b % 2 ^ i != 0) = tt at *
        generalize str ys = nb at *
        cases tt
        · clear h41
          go_wp2_with fail
          refine hRd.out.mono ?_
          rintro e w2 ⟨rfl, hb2⟩
          have B2 := Lib.hid ((HBL.out.trans (hb2.mono HBL.out.size)).alloc (Nat.le_trans HBL.out.size hb2.size) (.cells #[.int .u8 t', .string x'] 31))
          clear hb2 hRd
          go_wp2
          go_ret
          exact ⟨rfl, B2.out⟩
        · obtain rfl : e' = 41 := h41 rfl
          clear h41
          go_wp2_with fail
          refine hRd.out.mono ?_
          rintro e w2 ⟨rfl, hb2⟩
          have B2 := Lib.hid ((HBL.out.trans (hb2.mono HBL.out.size)).alloc (Nat.le_trans HBL.out.size hb2.size) (.cells #[.int .u8 t', .string x'] 31))
          clear hb2 hRd
          go_wp2
          go_ret
          exact ⟨rfl, B2.out⟩
    · have hd2 : decide ((i : Int) < 32) = false := by simp; omega
      clear h1
      have hcv := run_convert_bytes_arg (P := Try.prog) wr 44 5 Try.underlying44 Try.underlying5 W0.heap.size 0 s.size c (ys.map fun c : Nat => (c : Int)) (by simp; omega)
        (fun j hj => by
          rw [Nat.zero_add, HBR.out.cell j (by omega)]
          have : j < ys.length := by omega
          simp [List.getD, this]) 9 Try.underlying9
      rw [str_nums] at hcv
      have h41 : (b % 2 ^ i != 0) = true → (fread (str ys) 131072).2.2.2 = 41 := fun h => HT.out i ys HTA.out (by omega) hi (by simpa using h)
      have hRd := Lib.hid (fread_any (str ys) 131072 wr (by rw [str_size]; omega) (by omega) (by omega))
      unfold FRead at hRd
      have HBL := Lib.hid (show Below w.heap.size w wr from HB0.out.trans (Below.mono ((O1.out.below (B := W0.heap.size) (fun _ h => h.elim) (Nat.le_refl _)).trans (HO.out.below (B := W0.heap.size) (fun j hj => by omega) (by omega))) HB0.out.size))
      clear HO HTA HBR
      generalize fread (str ys) 131072 = r at *
      obtain ⟨t', x', n', e'⟩ := r
      simp only at h41 hRd
      generalize (b % 2 ^ i != 0) = tt at *
      generalize str ys = nb at *
      cases tt
      · clear h41
        go_wp2_with fail
        refine hRd.out.mono ?_
        rintro e w2 ⟨rfl, hb2⟩
        have B2 := Lib.hid ((HBL.out.trans (hb2.mono HBL.out.size)).alloc (Nat.le_trans HBL.out.size hb2.size) (.cells #[.int .u8 t', .string x'] 31))
        clear hb2 hRd
        go_wp2
        go_ret
        exact ⟨rfl, B2.out⟩
      · obtain rfl : e' = 41 := h41 rfl
        clear h41
        go_wp2_with fail
        refine hRd.out.mono ?_
        rintro e w2 ⟨rfl, hb2⟩
        have B2 := Lib.hid ((HBL.out.trans (hb2.mono HBL.out.size)).alloc (Nat.le_trans HBL.out.size hb2.size) (.cells #[.int .u8 t', .string x'] 31))
        clear hb2 hRd
        go_wp2
        go_ret
        exact ⟨rfl, B2.out⟩
end Go.Proofs.Ytpnjcgpnannjaaa
