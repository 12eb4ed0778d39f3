/- Several texts in one: WrA. -/
import Derived.Test.YthggliknnmhbdaaGreatMWAC
/- The walks of wire.all at numbers, wire.Uints of one number. No conditions beyond what each states. -/
namespace Go.Proofs.YthggliknnmhbdaaGreat
set_option maxRecDepth 100000
open Go.RowKit
set_option linter.unusedVariables false
set_option maxHeartbeats 1000000 in
theorem allu_one (x : Nat) (p : Addr) (cap : Nat) (w : World) (hx : x < 18446744073709551616) (hp : p.block < w.heap.size) (hc : w.cell? p = some (.int .u64 (x : Int))) :
    Calls Tryz.prog 84 #[.func (.func 85) #[] #[], .slice (some p) 1 cap] w fun e w' => e = .returned (.string (str (Var.enc 9 x))) ∧ Below w.heap.size w w' := by
  have hl := Var.enc_len_le 9 x
  obtain ⟨s, hs⟩ : ∃ s, s = str (Var.enc 9 x) := ⟨_, rfl⟩
  have hlen : s.size ≤ 10 := by rw [hs, str_size]; omega
  have HN : Hid (∀ W : World, Calls Tryz.prog 85 #[.int .u64 (x : Int)] W fun e w' => e = .returned (.string s) ∧ Below W.heap.size W w') := Lib.hid (fun W => by rw [hs]; exact nuint_any x W hx)
  rw [← hs]
  clear hs hl
  go_enter Tryz.func84, Tryz.ntmps84
  go_wp2_with fail
  have HBu := Lib.hid (builder_new w w.heap.size (Nat.le_refl _))
  have HB0 := Lib.hid ((Below.refl w.heap.size w).alloc (Nat.le_refl _) (.cells #[.pointer none, .slice none 0 0] 97))
  go_loopw [10] (fun i wr => ((i = .int .i64 0 ∧ Lib.IsBuilder 97 5 w.heap.size w.heap.size [] wr) ∨ (i = .int .i64 1 ∧ Lib.IsBuilder 97 5 w.heap.size w.heap.size (Lib.strCells s) wr)) ∧ Below w.heap.size w wr) (fun i _ => (1 - intOf i).toNat)
  case atStart => exact ⟨.inl ⟨rfl, HBu.out⟩, HB0.out⟩
  case round =>
    obtain ⟨hcase, hbl⟩ := hrel
    rcases hcase with ⟨rfl, hbu⟩ | ⟨rfl, hbu⟩
    · have HB := Lib.hid hbl
      have HU := Lib.hid hbu
      have hcell : wr.cell? p = some (.int .u64 (x : Int)) := (hbl.cell hp).trans hc
      clear hbl hbu HBu HB0
      go_wp2_with fail
      refine (HN.out wr).mono ?_
      rintro e w1 ⟨rfl, hb1⟩
      have HU1 := Lib.hid (builder_below HU.out hb1)
      have HB1 := Lib.hid (HB.out.trans (hb1.mono HB.out.size))
      clear HU hcell hb1 HB
      go_wp2_with fail
      refine (wstring_any w.heap.size w.heap.size [] s w1 HU1.out (by simp; omega) HB1.out.size).mono ?_
      rintro e w2 ⟨rfl, hu2, hb2⟩
      have HU2 := Lib.hid hu2
      have HB2 := Lib.hid (HB1.out.trans hb2)
      clear HU1 HB1 hu2 hb2
      go_wp2
      go_roundw
      case rel => exact ⟨.inr ⟨by go_num, .inr (by simpa using HU2.out)⟩, HB2.out⟩
      case measure => simp [intOf]
    · have HB := Lib.hid hbl
      have HU := Lib.hid hbu
      clear hbl hbu HBu HB0
      go_wp2_with fail
      refine (bstring_any w.heap.size w.heap.size s wr HU.out HB.out.size).mono ?_
      rintro e w2 ⟨rfl, hb2⟩
      have HB2 := Lib.hid (HB.out.trans hb2)
      clear HU HB hb2
      go_wp2
      go_ret
      exact ⟨rfl, HB2.out⟩
theorem uints_one (x : Nat) (p : Addr) (cap : Nat) (w : World) (hx : x < 18446744073709551616) (hp : p.block < w.heap.size) (hc : w.cell? p = some (.int .u64 (x : Int))) :
    Calls Tryz.prog 69 #[.slice (some p) 1 cap] w fun e w' => e = .returned (.string (str (Var.enc 9 x))) ∧ Below w.heap.size w w' := by
  have H := allu_one x p cap w hx hp hc
  go_enter Tryz.func69, Tryz.ntmps69
  go_wp2_with fail
  refine H.mono ?_
  rintro e w2 ⟨rfl, hb2⟩
  have HB := Lib.hid hb2
  clear hb2 H
  go_wp2
  go_ret
  exact ⟨rfl, HB.out⟩
end Go.Proofs.YthggliknnmhbdaaGreat
