/- SumOfs: its walk. -/
import Derived.Test.YtfegdejbcakamaaSumP
import Derived.Test.YtfegdejbcakamaaSumL
namespace Go.Proofs.Ytfegdejbcakamaa
open Go.RowKit
set_option linter.unusedVariables false

set_option maxHeartbeats 2000000 in
set_option maxRecDepth 100000 in
theorem ofs_any (s t : ByteArray) (x : Int) (w : World) (hs : s.size ≤ 9223372036854775807) (ht : t.size ≤ 9223372036854775807) (hx0 : 0 ≤ x) (hx1 : x ≤ 4294967295) :
    Calls Try.prog 3 #[.string s, .string t, .int .u32 x] w fun e w' => e = .returned (.bool true) ∧ Below w.heap.size w w' := by
  by_cases hbig : 1024 < s.size
  · go_enter Try.func3, Try.ntmps3
    go_wp2_with fail
    refine (alive_any w).mono ?_
    rintro e w1 ⟨rfl, hb⟩
    go_wp2
    go_ret
    exact ⟨rfl, hb⟩
  · by_cases hbig2 : 1024 < t.size
    · go_enter Try.func3, Try.ntmps3
      go_wp2_with fail
      refine (alive_any w).mono ?_
      rintro e w1 ⟨rfl, hb⟩
      go_wp2
      go_ret
      exact ⟨rfl, hb⟩
    · have g1 : decide ((1024 : Int) < s.size) = false := by simp; omega
      have g2 : decide ((1024 : Int) < t.size) = false := by simp; omega
      have z0 : s.size ≤ 17179869184 := by omega
      have z1 : s.size ≤ 17592186044416 := by omega
      obtain ⟨a, rfl⟩ := Int.eq_ofNat_of_zero_le hx0
      have ha : a < 4294967296 := by omega
      have hb := Crc.on_lt (a := 0) (by omega) (bs_lt s)
      have hself : ((⟨(sumBytes (Crc.on 0 (bs s))).toArray⟩ : ByteArray).toList == sumBytes (Crc.on 0 (bs s))) = true := by simp [go_sem]
      clear hx0 hx1 hs ht hbig hbig2
      go_enter Try.func3, Try.ntmps3
      have B0 := Lib.hid (Below.refl w.heap.size w)
      go_wp2_with fail
      refine (rof_any s _ z0).mono ?_
      rintro e w1 ⟨rfl, hbl⟩
      have B1 := Lib.hid (B0.out.trans (hbl.mono B0.out.size))
      clear hbl
      go_wp2_with fail
      refine (of_any s _ z1).mono ?_
      rintro e w2 ⟨rfl, hbl⟩
      have B2 := Lib.hid (B1.out.trans (hbl.mono B1.out.size))
      clear hbl
      go_wp2_with fail
      refine (on_any a s _ ha z1).mono ?_
      rintro e w3 ⟨rfl, hbl⟩
      have B3 := Lib.hid (B2.out.trans (hbl.mono B2.out.size))
      clear hbl
      go_wp2_with fail
      refine (ron_any a s _ ha z0).mono ?_
      rintro e w4 ⟨rfl, hbl⟩
      have B4 := Lib.hid (B3.out.trans (hbl.mono B3.out.size))
      clear hbl
      go_wp2_with fail
      refine (bytes_any a _ ha).mono ?_
      rintro e w5 ⟨rfl, hbl⟩
      have B5 := Lib.hid (B4.out.trans (hbl.mono B4.out.size))
      clear hbl
      go_wp2_with fail
      refine (rbytes_any a _ ha).mono ?_
      rintro e w6 ⟨rfl, hbl⟩
      have B6 := Lib.hid (B5.out.trans (hbl.mono B5.out.size))
      clear hbl
      go_wp2_with fail
      refine (is_any s t _ z1).mono ?_
      rintro e w7 ⟨rfl, hbl⟩
      have B7 := Lib.hid (B6.out.trans (hbl.mono B6.out.size))
      clear hbl
      go_wp2_with fail
      refine (rbytes_any _ _ hb).mono ?_
      rintro e w8 ⟨rfl, hbl⟩
      have B8 := Lib.hid (B7.out.trans (hbl.mono B7.out.size))
      clear hbl
      go_wp2_with fail
      refine (bytes_any _ _ hb).mono ?_
      rintro e w9 ⟨rfl, hbl⟩
      have B9 := Lib.hid (B8.out.trans (hbl.mono B8.out.size))
      clear hbl
      go_wp2_with fail
      refine (is_any s _ _ z1).mono ?_
      rintro e w10 ⟨rfl, hbl⟩
      have B10 := Lib.hid (B9.out.trans (hbl.mono B9.out.size))
      clear hbl
      go_wp2_with fail
      refine (alive_any _).mono ?_
      rintro e w11 ⟨rfl, hbl⟩
      have B11 := Lib.hid (B10.out.trans (hbl.mono B10.out.size))
      clear hbl
      go_wp2
      go_ret
      exact ⟨rfl, B11.out⟩
end Go.Proofs.Ytfegdejbcakamaa
