/- The walk of alive, which the statements of layer 2 share. -/
import Derived.Test.YtfegdejbcakamaaSumJ
namespace Go.Proofs.Ytfegdejbcakamaa
open Go.RowKit
set_option linter.unusedVariables false

theorem al_A : Crc.on 0 (bs ⟨#[49, 50, 51, 52, 53]⟩) = 416359221 := by decide +kernel
theorem al_B : Crc.on 0 (bs ⟨#[54, 55, 56, 57]⟩) = 3263061426 := by decide +kernel
theorem al_0 : Crc.on 0 (bs ⟨#[]⟩) = 0 := by decide +kernel
theorem al_S : Crc.on 0 (bs ⟨#[49, 50, 51, 52, 53, 54, 55, 56, 57]⟩) = 3808858755 := by decide +kernel
theorem al_O : Crc.on 416359221 (bs ⟨#[54, 55, 56, 57]⟩) = 3808858755 := by decide +kernel
theorem al_J : Crc.join 416359221 3263061426 4 = 3808858755 := by decide +kernel
theorem al_Y : sumBytes 16909060 = [4, 3, 2, 1] := by decide
theorem al_T : sumBytes 3808858755 = [131, 146, 6, 227] := by decide
set_option maxHeartbeats 2000000 in
set_option maxRecDepth 100000 in
theorem alive_any (w : World) : Calls Try.prog 7 #[] w fun e w' => e = .returned (.bool true) ∧ Below w.heap.size w w' := by
  have hA := al_A
  have hB := al_B
  have h0 := al_0
  have hS := al_S
  have hO := al_O
  have hJ := al_J
  have hY := al_Y
  have hT := al_T
  go_enter Try.func7, Try.ntmps7
  have B0 := Lib.hid (Below.refl w.heap.size w)
  go_wp2_with fail
  refine (of_any _ _ (by decide)).mono ?_
  rintro e w1 ⟨rfl, hb⟩
  have B1 := Lib.hid (B0.out.trans (hb.mono B0.out.size))
  clear hb
  go_wp2_with fail
  refine (of_any _ _ (by decide)).mono ?_
  rintro e w2 ⟨rfl, hb⟩
  have B2 := Lib.hid (B1.out.trans (hb.mono B1.out.size))
  clear hb
  go_wp2_with fail
  refine (of_any _ _ (by decide)).mono ?_
  rintro e w3 ⟨rfl, hb⟩
  have B3 := Lib.hid (B2.out.trans (hb.mono B2.out.size))
  clear hb
  go_wp2_with fail
  refine (of_any _ _ (by decide)).mono ?_
  rintro e w4 ⟨rfl, hb⟩
  have B4 := Lib.hid (B3.out.trans (hb.mono B3.out.size))
  clear hb
  go_wp2_with fail
  refine (on_any 416359221 _ _ (by decide) (by decide)).mono ?_
  rintro e w5 ⟨rfl, hb⟩
  have B5 := Lib.hid (B4.out.trans (hb.mono B4.out.size))
  clear hb
  go_wp2_with fail
  refine (join_any 416359221 3263061426 4 _ (by decide) (by decide) (by decide)).mono ?_
  rintro e w6 ⟨rfl, hb⟩
  have B6 := Lib.hid (B5.out.trans (hb.mono B5.out.size))
  clear hb
  go_wp2_with fail
  refine (join_neg 416359221 3263061426 (-1) _ (by decide)).mono ?_
  rintro e w7 ⟨rfl, hb⟩
  have B7 := Lib.hid (B6.out.trans (hb.mono B6.out.size))
  clear hb
  go_wp2_with fail
  refine (bytes_any 16909060 _ (by decide)).mono ?_
  rintro e w8 ⟨rfl, hb⟩
  have B8 := Lib.hid (B7.out.trans (hb.mono B7.out.size))
  clear hb
  go_wp2_with fail
  refine (is_any _ _ _ (by decide)).mono ?_
  rintro e w9 ⟨rfl, hb⟩
  have B9 := Lib.hid (B8.out.trans (hb.mono B8.out.size))
  clear hb
  go_wp2_with fail
  refine (is_any _ _ _ (by decide)).mono ?_
  rintro e w10 ⟨rfl, hb⟩
  have B10 := Lib.hid (B9.out.trans (hb.mono B9.out.size))
  clear hb
  go_wp2
  go_ret
  exact ⟨rfl, B10.out⟩
end Go.Proofs.Ytfegdejbcakamaa
