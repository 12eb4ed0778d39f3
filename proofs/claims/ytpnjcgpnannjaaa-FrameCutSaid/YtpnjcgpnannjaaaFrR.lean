/- FrameReads: its walk. -/
import Derived.Test.YtpnjcgpnannjaaaFrX
namespace Go.Proofs.Ytpnjcgpnannjaaa
open Go.RowKit
set_option linter.unusedVariables false

theorem owns_slice {w : World} {base : Nat} {e : TypeId} {size n : Nat} {v : Value} {xs : List Value} (h : w.ownsRow base e size v n xs) : ∃ A cap, v = .slice A n cap ∧ n ≤ cap ∧ cap ≤ 9223372036854775807 := by
  rcases owns_form h with ⟨rfl, rfl⟩ | ⟨g, cap, rfl, h1, h2, _⟩
  · exact ⟨none, 0, rfl, Nat.le_refl _, by omega⟩
  · exact ⟨some ⟨g, 0, none⟩, cap, rfl, h1, by simpa [maxLen] using h2⟩

set_option maxHeartbeats 4000000 in
set_option maxRecDepth 100000 in
theorem reads_any (s : ByteArray) (most : Int) (w : World) (hs : s.size ≤ 9223372036854775807) (hm1 : -9223372036854775808 ≤ most) (hm2 : most ≤ 9223372036854775807) :
    Calls Try.prog 4 #[.string s, .int .i64 most] w fun e w' => e = .returned (.bool true) ∧ Below w.heap.size w w' := by
  by_cases hbig : 2048 < s.size
  · go_enter Try.func4, Try.ntmps4
    go_wp2_with fail
    refine (alive_any4 w).mono ?_
    rintro e w1 ⟨rfl, hb⟩
    go_wp2
    go_ret
    exact ⟨rfl, hb⟩
  · have hR : ∀ W, Hid (Calls Try.prog 12 #[.string s, .int .i64 most] W (FRead s most W)) := fun W => Lib.hid (fread_any s most W (by omega) hm1 hm2)
    have hV : ∀ W, Hid (Calls Try.prog 13 #[.string s, .int .i64 most] W (FRead s most W)) := fun W => Lib.hid (vfread_any s most W (by omega) hm1 hm2)
    have hS : ∀ W, Hid (Calls Try.prog 14 #[.string s, .int .i64 most] W (FScan s most W)) := fun W => Lib.hid (scan_any s most W (by omega) hm1 hm2)
    have hT : ∀ W, Hid (Calls Try.prog 15 #[.string s, .int .i64 most] W (FScan s most W)) := fun W => Lib.hid (vscan_any s most W (by omega) hm1 hm2 (by omega))
    unfold FRead at hR hV
    unfold FScan at hS hT
    generalize fread s most = r at *
    obtain ⟨t, x, n, er⟩ := r
    simp only at hR hV
    generalize scanFrom s most 0 = q at *
    obtain ⟨xs, good, es⟩ := q
    simp only at hS hT
    go_enter Try.func4, Try.ntmps4
    go_wp2_with fail
    refine (hR _).out.mono ?_
    rintro e w1 ⟨rfl, hb⟩
    have HB1 := Lib.hid (hb.alloc hb.size (.cells #[.int .u8 t, .string x] 31))
    have HF1 := Lib.hid (Blk.new w1 31 #[.int .u8 t, .string x])
    clear hb hR
    go_wp2_with fail
    refine (hV _).out.mono ?_
    rintro e w2 ⟨rfl, hb⟩
    have HB2 := Lib.hid ((HB1.out.trans (Below.mono hb HB1.out.size)).alloc (Nat.le_trans HB1.out.size hb.size) (.cells #[.int .u8 t, .string x] 31))
    have HF2 := Lib.hid ((Grows.blk hb HF1.out).alloc (.cells #[.int .u8 t, .string x] 31))
    have HG2 := Lib.hid (Blk.new w2 31 #[.int .u8 t, .string x])
    clear hb hV
    go_wp2_with fail
    refine (hS _).out.mono ?_
    rintro e w3 ⟨v, rfl, ho, hb⟩
    obtain ⟨A, ca, rfl, ha1, ha2⟩ := owns_slice ho
    have HO3 := Lib.hid ho
    have HB3 := Lib.hid (HB2.out.trans (Below.mono hb HB2.out.size))
    have HF3 := Lib.hid (Grows.blk hb HF2.out)
    have HG3 := Lib.hid (Grows.blk hb HG2.out)
    clear hb hS ho
    go_wp2_with fail
    refine (hT _).out.mono ?_
    rintro e w4 ⟨v, rfl, ho, hb⟩
    obtain ⟨C, cc, rfl, hc1, hc2⟩ := owns_slice ho
    have HX := Lib.hid (FRow.of_own (owns_below HO3.out hb))
    have HY := Lib.hid (FRow.of_own ho)
    have HB4 := Lib.hid (HB3.out.trans (Below.mono hb HB3.out.size))
    have HF4 := Lib.hid (Grows.blk hb HF3.out)
    have HG4 := Lib.hid (Grows.blk hb HG3.out)
    have c0 := HF4.out.cell 0
    have c1 := HF4.out.cell 1
    have d0 := HG4.out.cell 0
    have d1 := HG4.out.cell 1
    clear hb hT ho
    go_wp2_with fail
    refine (same_any xs xs A C ca cc w4 HX.out HY.out ha1 ha2 hc1 hc2).mono ?_
    rintro e w5 ⟨rfl, hb⟩
    have HB5 := Lib.hid (HB4.out.trans (Below.mono hb HB4.out.size))
    clear hb
    rw [decide_eq_true rfl]
    go_wp2_with fail
    refine (alive_any4 _).mono ?_
    rintro e w6 ⟨rfl, hb⟩
    have HB6 := Lib.hid (HB5.out.trans (Below.mono hb HB5.out.size))
    clear hb
    go_wp2
    go_ret
    exact ⟨rfl, HB6.out⟩
end Go.Proofs.Ytpnjcgpnannjaaa
