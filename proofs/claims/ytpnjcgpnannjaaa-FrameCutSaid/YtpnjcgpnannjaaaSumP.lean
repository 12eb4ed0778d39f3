/- The walks of the document's sum: Of, On, Join, Bytes. -/
import Derived.Test.YtpnjcgpnannjaaaSumQ
namespace Go.Proofs.Ytpnjcgpnannjaaa
open Go.RowKit
set_option linter.unusedVariables false

theorem rawBits_len (s : ByteArray) : (rawBits s).length = 8 * s.size + 32 := by rw [rawBits, List.length_append, Crc.textBits_len, List.length_replicate, bs_len]
theorem rawBits_zero (s : ByteArray) : ∀ q, 8 * s.size ≤ q → (rawBits s).getD q false = false := by
  intro q hq
  have hl : (Crc.textBits (bs s)).length = 8 * s.size := by rw [Crc.textBits_len, bs_len]
  simp only [rawBits, List.getD]
  rw [List.getElem?_append_right (by omega), List.getElem?_replicate]
  split <;> rfl
theorem rawBits_take (s : ByteArray) : (rawBits s).take (8 * s.size) = Crc.textBits (bs s) := by
  have hl : (Crc.textBits (bs s)).length = 8 * s.size := by rw [Crc.textBits_len, bs_len]
  rw [rawBits, ← hl]; exact List.take_left
theorem inv_flip (raw : List Bool) : Crc.Inv raw Crc.F 0 (Crc.flip 0 32 raw) := by
  refine ⟨Crc.flip_len _ _ _, Crc.F_lt, fun q _ hq => ?_⟩
  simp only [List.getD]
  rw [Crc.flip_get, List.getElem?_eq_getElem hq, Nat.sub_zero]
  simp only [Option.map_some, Option.getD_some]
  by_cases h : q < 32
  · rw [if_pos ⟨by omega, by omega⟩, Crc.F_bit q h]; cases raw[q] <;> rfl
  · rw [if_neg (by omega), Crc.testBit_out Crc.F_lt (by omega)]; cases raw[q] <;> rfl
theorem final_on (a : Nat) (s : ByteArray) : Crc.regBits (a ^^^ Crc.F) ((rawBits s).take (8 * s.size)) ^^^ Crc.F = Crc.on a (bs s) := by
  rw [rawBits_take, Crc.regBits_text _ _ (bs_lt s)]; rfl

set_option maxHeartbeats 1000000 in
theorem rof_any (s : ByteArray) (w : World) (hs : s.size ≤ 17179869184) :
    Calls Try.prog 24 #[.string s] w fun e w' => e = .returned (.int .u32 (Crc.on 0 (bs s))) ∧ Below w.heap.size w w' := by
  go_enter Try.func24, Try.ntmps24
  go_wp2_with fail
  refine (bits_any s w (by omega)).mono ?_
  rintro e w1 ⟨⟨g, cap, rfl, hr, hc1, hc2, hg⟩, hb1⟩
  have hl := rawBits_len s
  go_wp2_with fail
  refine (turn_any g 0 _ _ (rawBits s) _ hr (by omega) (by omega) (by omega)).mono ?_
  rintro e w2 ⟨rfl, hr2, ho2⟩
  have HL := Lib.hid (left_any g cap (8 * s.size) (rawBits s) _ Crc.F w2 hr2 (inv_flip _) hl hc1 (by omega) hc2 (rawBits_zero s))
  have hb2 := Lib.hid (hb1.trans (ho2.below (B := w.heap.size) (fun i h => by omega) hb1.size))
  clear hr hr2 ho2 hb1 hl
  go_wp2_with fail
  refine HL.out.mono ?_
  rintro e w3 ⟨rfl, ho3⟩
  have hf := final_on 0 s
  rw [Nat.zero_xor] at hf
  rw [hf]
  have hb3 := Lib.hid (hb2.out.trans (ho3.below (B := w.heap.size) (fun i h => by omega) hb2.out.size))
  clear ho3 HL hf
  go_wp2
  go_ret
  exact ⟨rfl, hb3.out⟩

theorem rbytes_any (a : Nat) (w : World) (ha : a < 4294967296) :
    Calls Try.prog 23 #[.int .u32 a] w fun e w' => e = .returned (.string ⟨(sumBytes a).toArray⟩) ∧ Below w.heap.size w w' := by
  have hcv := run_convert_bytes_arg (P := Try.prog) (w.alloc (.cells #[.int .u8 ((a : Int) % 256), .int .u8 ((a : Int) / 256 % 256), .int .u8 ((a : Int) / 65536 % 256), .int .u8 ((a : Int) / 16777216)] 5)) 44 5 Try.underlying44 Try.underlying5 w.heap.size 0 4 4 (sumNums a) rfl
    (fun i hi => by
      rw [Nat.zero_add, World.cell?_alloc_new]
      match i, hi with
      | 0, _ => rfl
      | 1, _ => rfl
      | 2, _ => rfl
      | 3, _ => rfl) 9 Try.underlying9
  rw [sumNums_str] at hcv
  go_enter Try.func23, Try.ntmps23
  go_wp2
  go_ret
  exact ⟨rfl, (Below.refl _ _).alloc (Nat.le_refl _) _⟩
end Go.Proofs.Ytpnjcgpnannjaaa
