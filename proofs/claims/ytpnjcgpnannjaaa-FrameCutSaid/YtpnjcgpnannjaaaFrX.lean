/- What the frames of alive are, reckoned. -/
import Derived.Test.YtpnjcgpnannjaaaFrW
import Derived.Test.YtpnjcgpnannjaaaFrU
namespace Go.Proofs.Ytpnjcgpnannjaaa
open Go.RowKit
set_option linter.unusedVariables false
def abc : ByteArray := ⟨#[97, 98, 99]⟩
def frA : ByteArray := fraw 7 abc
theorem frA_size : frA.size = 10 := by kernel_rfl
theorem frA_r1 : fread (frA ++ ⟨#[120]⟩) 3 = (7, abc, 10, 0) := by kernel_rfl
theorem frA_r2 : fread (frA.extract 0 9) 3 = (0, ⟨#[]⟩, 0, 40) := by kernel_rfl
theorem frA_r3 : fread (⟨#[2]⟩ ++ frA.extract 1 10) 3 = (0, ⟨#[]⟩, 0, 42) := by kernel_rfl
theorem frA_r4 : fread frA 2 = (0, ⟨#[]⟩, 0, 4) := by kernel_rfl
theorem frA_r5 : (scanFrom (frA ++ frA ++ ⟨#[1]⟩) 9 0) = ([(7, abc), (7, abc)], 20, 40) := by kernel_rfl
theorem frA_r6 : fsize 0 = 7 ∧ fsize 200 = 208 := ⟨by kernel_rfl, by kernel_rfl⟩
theorem two_row (w : World) : TextRow (w.alloc (.cells #[.string ⟨#[97]⟩, .string ⟨#[98, 99]⟩] 9)) (some ⟨w.heap.size, 0, none⟩) [⟨#[97]⟩, ⟨#[98, 99]⟩] :=
  ⟨fun j hj => ⟨w.heap.size, 0, rfl, by simp, by
    rw [(Blk.new w _ _).cell]
    match j, hj with
    | 0, _ => rfl
    | 1, _ => rfl⟩⟩

set_option maxHeartbeats 4000000 in
set_option maxRecDepth 100000 in
theorem alive_any4 (w : World) : Calls Try.prog 8 #[] w fun e w' => e = .returned (.bool true) ∧ Below w.heap.size w w' := by
  have hW : ∀ W A, TextRow W A [⟨#[97]⟩, ⟨#[98, 99]⟩] → Hid (Calls Try.prog 9 #[.int .u8 7, .slice A 2 2] W fun e w' => e = .returned (.tuple #[.string frA, .int .i64 0]) ∧ Below W.heap.size W w') := fun W A h => Lib.hid (by
    have := fwrite_any 7 [⟨#[97]⟩, ⟨#[98, 99]⟩] A 2 W (by omega) h (by decide) (by omega) (by decide +kernel)
    exact this)
  have hR : ∀ (s : ByteArray) (most : Int) (t : Nat) (x : ByteArray) (n e : Nat), fread s most = (t, x, n, e) → s.size ≤ 100 → 0 ≤ most → most ≤ 100 → ∀ W, Hid (Calls Try.prog 12 #[.string s, .int .i64 most] W fun en w' => en = .returned (.tuple #[.agg #[.int .u8 t, .string x], .int .i64 n, .int .i64 e]) ∧ Below W.heap.size W w') := fun s most t x n e h h1 h2 h3 W => Lib.hid (by
    have := fread_any s most W (by omega) (by omega) (by omega)
    unfold FRead at this
    rw [h] at this
    exact this)
  have hR1 := hR _ _ _ _ _ _ frA_r1 (by rw [ByteArray.size_append, frA_size]; decide) (by omega) (by omega)
  have hR2 := hR _ _ _ _ _ _ frA_r2 (by rw [ByteArray.size_extract, frA_size]; decide) (by omega) (by omega)
  have hR3 := hR _ _ _ _ _ _ frA_r3 (by rw [ByteArray.size_append, ByteArray.size_extract, frA_size]; decide) (by omega) (by omega)
  have hR4 := hR _ _ _ _ _ _ frA_r4 (by rw [frA_size]; decide) (by omega) (by omega)
  clear hR
  have hS : ∀ W, Hid (Calls Try.prog 14 #[.string (frA ++ frA ++ ⟨#[1]⟩), .int .i64 9] W (FScan (frA ++ frA ++ ⟨#[1]⟩) 9 W)) := fun W => Lib.hid (scan_any _ _ W (by rw [ByteArray.size_append, ByteArray.size_append, frA_size]; decide) (by omega) (by omega))
  have hV : ∀ W, Hid (Calls Try.prog 10 #[.int .u8 7, .string abc] W fun e w' => e = .returned (.string frA) ∧ Below W.heap.size W w') := fun W => Lib.hid (fraw_any 7 abc W (by omega) (by decide))
  have hZ0 : ∀ W, Hid (Calls Try.prog 11 #[.int .i64 0] W fun e w' => e = .returned (.int .i64 7) ∧ w' = W) := fun W => Lib.hid (fsize_any 0 W (by omega) (by omega))
  have hZ1 : ∀ W, Hid (Calls Try.prog 11 #[.int .i64 200] W fun e w' => e = .returned (.int .i64 208) ∧ w' = W) := fun W => Lib.hid (fsize_any 200 W (by omega) (by omega))
  have hZ2 : ∀ W, Hid (Calls Try.prog 11 #[.int .i64 (-1)] W fun e w' => e = .returned (.int .i64 0) ∧ w' = W) := fun W => Lib.hid (fsize_any (-1) W (by omega) (by omega))
  have hsz := frA_size
  have hs5 := frA_r5
  have hab : (⟨#[97, 98, 99]⟩ : ByteArray) = abc := rfl
  generalize frA = f at *
  go_enter Try.func8, Try.ntmps8
  go_wp2_with fail
  refine (hW _ _ (two_row w)).out.mono ?_
  rintro e w1 ⟨rfl, hb⟩
  have HB1 := Lib.hid (((Below.refl _ w).alloc (Nat.le_refl _) _).trans (Below.mono hb (by simp)))
  clear hb hW
  go_wp2_with fail
  refine (hR1 _).out.mono ?_
  rintro e w2 ⟨rfl, hb⟩
  have HB2 := Lib.hid ((HB1.out.trans (Below.mono hb HB1.out.size)).alloc (Nat.le_trans HB1.out.size hb.size) (.cells #[.int .u8 7, .string abc] 31))
  have HF2 := Lib.hid (Blk.new w2 31 #[.int .u8 7, .string abc])
  clear hb hR1
  go_wp2_with fail
  refine (hR2 _).out.mono ?_
  rintro e w3 ⟨rfl, hb⟩
  have HB3 := Lib.hid ((HB2.out.trans (Below.mono hb HB2.out.size)).alloc (Nat.le_trans HB2.out.size hb.size) (.cells #[.int .u8 0, .string ⟨#[]⟩] 31))
  have HF3 := Lib.hid ((Grows.blk hb HF2.out).alloc (.cells #[.int .u8 0, .string ⟨#[]⟩] 31))
  clear hb hR2
  go_wp2_with fail
  refine (hR3 _).out.mono ?_
  rintro e w4 ⟨rfl, hb⟩
  have HB4 := Lib.hid ((HB3.out.trans (Below.mono hb HB3.out.size)).alloc (Nat.le_trans HB3.out.size hb.size) (.cells #[.int .u8 0, .string ⟨#[]⟩] 31))
  have HF4 := Lib.hid ((Grows.blk hb HF3.out).alloc (.cells #[.int .u8 0, .string ⟨#[]⟩] 31))
  clear hb hR3
  go_wp2_with fail
  refine (hR4 _).out.mono ?_
  rintro e w5 ⟨rfl, hb⟩
  have HB5 := Lib.hid ((HB4.out.trans (Below.mono hb HB4.out.size)).alloc (Nat.le_trans HB4.out.size hb.size) (.cells #[.int .u8 0, .string ⟨#[]⟩] 31))
  have HF5 := Lib.hid ((Grows.blk hb HF4.out).alloc (.cells #[.int .u8 0, .string ⟨#[]⟩] 31))
  clear hb hR4
  go_wp2_with fail
  refine (hS _).out.mono ?_
  rintro e w6 ⟨v, rfl, ho, hb⟩
  rw [hs5] at ho
  obtain ⟨g, cap, rfl⟩ := ownsRow_succ ho
  have HB6 := Lib.hid (HB5.out.trans (Below.mono hb HB5.out.size))
  have HF6 := Lib.hid (Grows.blk hb HF5.out)
  simp only [hs5]
  clear hb hS ho hs5
  go_wp2_with fail
  refine (hV _).out.mono ?_
  rintro e w7 ⟨rfl, hb⟩
  have HB7 := Lib.hid (HB6.out.trans (Below.mono hb HB6.out.size))
  have HF7 := Lib.hid (Grows.blk hb HF6.out)
  have c0 := HF7.out.cell 0
  have c1 := HF7.out.cell 1
  clear hb hV
  go_wp2_with fail
  refine (hZ0 _).out.mono ?_
  rintro e w' ⟨rfl, rfl⟩
  clear hZ0
  go_wp2_with fail
  refine (hZ1 _).out.mono ?_
  rintro e w' ⟨rfl, rfl⟩
  clear hZ1
  go_wp2_with fail
  refine (hZ2 _).out.mono ?_
  rintro e w' ⟨rfl, rfl⟩
  clear hZ2
  go_wp2
  go_ret
  exact ⟨rfl, HB7.out⟩
end Go.Proofs.Ytpnjcgpnannjaaa
