/- The walks of the document's sum: Of, On, Join, Bytes. -/
import Derived.Test.YtfegdejbcakamaaSumQ
import Derived.Test.YtfegdejbcakamaaSumJ
namespace Go.Proofs.Ytfegdejbcakamaa
open Go.RowKit
set_option linter.unusedVariables false

theorem rawBits_len (s : ByteArray) : (rawBits s).length = 8 * s.size + 32 := by rw [rawBits, List.length_append, Crc.textBits_len, List.length_replicate, bs_len]
theorem rawBits_zero (s : ByteArray) : ∀ q, 8 * s.size ≤ q → (rawBits s).getD q false = false := by
  intro q hq
  have hl : (Crc.textBits (bs s)).length = 8 * s.size := by rw [Crc.textBits_len, bs_len]
  simp only [rawBits, List.getD]
  rw [List.getElem?_append_right (by omega), List.getElem?_replicate]
  split <;> rfl
theorem rawBits_take (s : ByteArray) : (rawBits s).take (8 * s.size) = Crc.textBits (bs s) := by
  have hl : (Crc.textBits (bs s)).length = 8 * s.size := by rw [Crc.textBits_len, bs_len]
  rw [rawBits, ← hl]; exact List.take_left
theorem inv_flip (raw : List Bool) : Crc.Inv raw Crc.F 0 (Crc.flip 0 32 raw) := by
  refine ⟨Crc.flip_len _ _ _, Crc.F_lt, fun q _ hq => ?_⟩
  simp only [List.getD]
  rw [Crc.flip_get, List.getElem?_eq_getElem hq, Nat.sub_zero]
  simp only [Option.map_some, Option.getD_some]
  by_cases h : q < 32
  · rw [if_pos ⟨by omega, by omega⟩, Crc.F_bit q h]; cases raw[q] <;> rfl
  · rw [if_neg (by omega), Crc.testBit_out Crc.F_lt (by omega)]; cases raw[q] <;> rfl
theorem final_on (a : Nat) (s : ByteArray) : Crc.regBits (a ^^^ Crc.F) ((rawBits s).take (8 * s.size)) ^^^ Crc.F = Crc.on a (bs s) := by
  rw [rawBits_take, Crc.regBits_text _ _ (bs_lt s)]; rfl

set_option maxHeartbeats 1000000 in
theorem rof_any (s : ByteArray) (w : World) (hs : s.size ≤ 17179869184) :
    Calls Try.prog 8 #[.string s] w fun e w' => e = .returned (.int .u32 (Crc.on 0 (bs s))) ∧ Below w.heap.size w w' := by
  go_enter Try.func8, Try.ntmps8
  go_wp2_with fail
  refine (bits_any s w (by omega)).mono ?_
  rintro e w1 ⟨⟨g, cap, rfl, hr, hc1, hc2, hg⟩, hb1⟩
  have hl := rawBits_len s
  go_wp2_with fail
  refine (turn_any g 0 _ _ (rawBits s) _ hr (by omega) (by omega) (by omega)).mono ?_
  rintro e w2 ⟨rfl, hr2, ho2⟩
  have HL := Lib.hid (left_any g cap (8 * s.size) (rawBits s) _ Crc.F w2 hr2 (inv_flip _) hl hc1 (by omega) hc2 (rawBits_zero s))
  have hb2 := Lib.hid (hb1.trans (ho2.below (B := w.heap.size) (fun i h => by omega) hb1.size))
  clear hr hr2 ho2 hb1 hl
  go_wp2_with fail
  refine HL.out.mono ?_
  rintro e w3 ⟨rfl, ho3⟩
  have hf := final_on 0 s
  rw [Nat.zero_xor] at hf
  rw [hf]
  have hb3 := Lib.hid (hb2.out.trans (ho3.below (B := w.heap.size) (fun i h => by omega) hb2.out.size))
  clear ho3 HL hf
  go_wp2
  go_ret
  exact ⟨rfl, hb3.out⟩

theorem bit32_walk (a j : Nat) (ha : a < 4294967296) : (bits .and .u32 ((a : Int) / 2 ^ j) 1 == 0) = !a.testBit j := by
  have h1 : (a : Int) / 2 ^ j = ((a / 2 ^ j : Nat) : Int) := by rw [Int.natCast_ediv, Int.natCast_pow]; rfl
  have h2 := u32_and_nat (a / 2 ^ j) 1 (Nat.lt_of_le_of_lt (Nat.div_le_self _ _) ha) (by omega)
  rw [show ((1 : Nat) : Int) = 1 from rfl] at h2
  rw [h1, h2, Nat.and_one_is_mod, Nat.testBit_eq_decide_div_mod_eq]
  rcases (show a / 2 ^ j % 2 = 0 ∨ a / 2 ^ j % 2 = 1 by omega) with h | h <;> rw [h] <;> rfl

/-- the first i places turned where a has a zero -/
structure Turned (raw : List Bool) (a i : Nat) (cur : List Bool) : Prop where
  len : cur.length = raw.length
  at_ : ∀ q, q < raw.length → cur.getD q false = (raw.getD q false != (decide (q < i) && !a.testBit q))
theorem Turned.start (raw : List Bool) (a : Nat) : Turned raw a 0 raw := ⟨rfl, fun q _ => by simp⟩
theorem Turned.keep {raw cur : List Bool} {a i : Nat} (h : Turned raw a i cur) (hb : a.testBit i = true) : Turned raw a (i + 1) cur := by
  refine ⟨h.len, fun q hq => ?_⟩
  rw [h.at_ q hq]
  congr 1
  by_cases e : q = i
  · subst e; simp [hb]
  · congr 1; exact decide_eq_decide.2 (by omega)
theorem Turned.turn {raw cur : List Bool} {a i : Nat} (h : Turned raw a i cur) (hb : a.testBit i = false) (hi : i < raw.length) : Turned raw a (i + 1) (cur.set i (!(cur.getD i false))) := by
  refine ⟨by rw [List.length_set, h.len], fun q hq => ?_⟩
  have h1 := Crc.tg_get cur i q (by rw [h.len]; exact hq)
  unfold Crc.tg at h1
  rw [h1, h.at_ q hq]
  by_cases e : i = q
  · subst e; simp [hb]
  · have e1 : (i == q) = false := by simpa using e
    have e2 : decide (q < i + 1) = decide (q < i) := decide_eq_decide.2 (by omega)
    rw [e1, e2]
    cases raw.getD q false <;> cases (decide (q < i) && !a.testBit q) <;> rfl
theorem Turned.inv {raw cur : List Bool} {a : Nat} (h : Turned raw a 32 cur) (ha : a < 4294967296) : Crc.Inv raw (a ^^^ Crc.F) 0 cur := by
  refine ⟨h.len, Nat.xor_lt_two_pow (n := 32) ha Crc.F_lt, fun q _ hq => ?_⟩
  rw [h.at_ q hq, Nat.sub_zero, Nat.testBit_xor]
  by_cases hlt : q < 32
  · rw [Crc.F_bit q hlt]; simp [hlt]
  · rw [Crc.testBit_out Crc.F_lt (by omega), Crc.testBit_out ha (by omega)]; simp [hlt]

set_option maxHeartbeats 1000000 in
set_option maxRecDepth 100000 in
theorem ron_any (a : Nat) (s : ByteArray) (w : World) (ha : a < 4294967296) (hs : s.size ≤ 17179869184) :
    Calls Try.prog 11 #[.int .u32 a, .string s] w fun e w' => e = .returned (.int .u32 (Crc.on a (bs s))) ∧ Below w.heap.size w w' := by
  go_enter Try.func11, Try.ntmps11
  go_wp2_with fail
  refine (bits_any s w (by omega)).mono ?_
  rintro e w1 ⟨⟨g, cap, rfl, hr, hc1, hc2, hg⟩, hb1⟩
  have hl := rawBits_len s
  have HR := Lib.hid hr
  have HB := Lib.hid hb1
  clear hr hb1
  go_wp2_with fail
  go_loopw [6] (fun s6 wr => ∃ (i : Nat) (cur : List Bool), i ≤ 32 ∧ s6 = .int .i64 i ∧ BoolRow wr g cur ∧ Turned (rawBits s) a i cur ∧ Only (· = g) w1 wr) (fun s6 _ => 32 - (intOf s6).toNat)
  case atStart => exact ⟨0, _, by omega, rfl, HR.out, Turned.start _ _, Only.refl _ _⟩
  case round =>
    obtain ⟨i, cur, hi, rfl, hb, ht, ho⟩ := hrel
    have hcl := ht.len
    have HB2 := Lib.hid hb
    have HT := Lib.hid ht
    have HO := Lib.hid ho
    clear hb ht ho
    by_cases hlt : i < 32
    · have hbw := bit32_walk a i ha
      cases hbit : a.testBit i with
      | true =>
        have HS := Lib.hid (HT.out.keep hbit)
        rw [hbit] at hbw
        clear hbit
        go_wp2
        go_roundw
        case rel => exact ⟨i + 1, cur, by omega, by go_num, HB2.out, HS.out, HO.out⟩
        case measure => simp [intOf]; omega
      | false =>
        have hc := HB2.out.cell i (by omega)
        have hf := HB2.out.free i (by omega)
        have hn := HB2.out.set i (!(cur.getD i false)) (by omega)
        have Hfin := Lib.hid (show _ ∧ Turned (rawBits s) a (i + 1) (cur.set i (!(cur.getD i false))) ∧ Only (· = g) w1 (wr.setCell ⟨g, i, none⟩ (.bool (!(cur.getD i false)))) from ⟨hn, HT.out.turn hbit (by omega), HO.out.setCell (.inl rfl) _⟩)
        rw [hbit] at hbw
        clear hbit hn
        generalize cur.getD i false = bb at *
        go_wp2
        go_roundw
        case rel => exact ⟨i + 1, _, by omega, by go_num, Hfin.out.1, Hfin.out.2.1, Hfin.out.2.2⟩
        case measure => simp [intOf]; omega
    · obtain rfl : i = 32 := by omega
      have HL := Lib.hid (left_any g cap (8 * s.size) (rawBits s) cur (a ^^^ Crc.F) wr HB2.out (HT.out.inv ha) hl hc1 (by omega) hc2 (rawBits_zero s))
      have hb2 := Lib.hid (HB.out.trans (HO.out.below (B := w.heap.size) (fun i h => by omega) HB.out.size))
      clear hlt hi hl hcl
      go_wp2_with fail
      refine HL.out.mono ?_
      rintro e w3 ⟨rfl, ho3⟩
      rw [final_on a s]
      have hb3 := Lib.hid (hb2.out.trans (ho3.below (B := w.heap.size) (fun i h => by omega) hb2.out.size))
      clear ho3 HL
      go_wp2
      go_ret
      exact ⟨rfl, hb3.out⟩

theorem rbytes_any (a : Nat) (w : World) (ha : a < 4294967296) :
    Calls Try.prog 13 #[.int .u32 a] w fun e w' => e = .returned (.string ⟨(sumBytes a).toArray⟩) ∧ Below w.heap.size w w' := by
  have hcv := run_convert_bytes_arg (P := Try.prog) (w.alloc (.cells #[.int .u8 ((a : Int) % 256), .int .u8 ((a : Int) / 256 % 256), .int .u8 ((a : Int) / 65536 % 256), .int .u8 ((a : Int) / 16777216)] 5)) 33 5 Try.underlying33 Try.underlying5 w.heap.size 0 4 4 (sumNums a) rfl
    (fun i hi => by
      rw [Nat.zero_add, World.cell?_alloc_new]
      match i, hi with
      | 0, _ => rfl
      | 1, _ => rfl
      | 2, _ => rfl
      | 3, _ => rfl) 9 Try.underlying9
  rw [sumNums_str] at hcv
  go_enter Try.func13, Try.ntmps13
  go_wp2
  go_ret
  exact ⟨rfl, (Below.refl _ _).alloc (Nat.le_refl _) _⟩
end Go.Proofs.Ytfegdejbcakamaa
