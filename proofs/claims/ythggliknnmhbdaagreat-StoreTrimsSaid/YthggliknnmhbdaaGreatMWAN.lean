/- Several texts in one: BkB. -/
import Derived.Test.YthggliknnmhbdaaGreatMWAM
import Derived.Test.YthggliknnmhbdaaGreatMWAJ
/- Books: may a part be. No conditions beyond what each states. -/
namespace Go.Proofs.YthggliknnmhbdaaGreat
set_option maxRecDepth 100000
open Go.RowKit
set_option linter.unusedVariables false
set_option maxRecDepth 100000
theorem check_any (p gs n : Nat) (S : Dst) (B m : Nat) (f k : Int) (w : World) (D : DkS w p gs n S B m) (hn : 1 ≤ n) (hn2 : n ≤ 4096) (h0 : 0 ≤ f) (h1 : 1 ≤ k) (h2 : k ≤ n) (h3 : f ≤ n - k) :
    Calls Tryz.prog 37 #[partV p f k] w fun e w' => e = .returned (.int .i64 0) ∧ Only (fun _ => False) w w' := by
  have o1 : Only (fun _ => False) w (w.alloc (.cells #[.pointer (some ⟨p, 0, none⟩), .int .i64 f, .int .i64 k] 70)) := (Only.refl _ w).alloc _
  obtain ⟨w1, hw1⟩ : ∃ w1, w1 = w.alloc (.cells #[.pointer (some ⟨p, 0, none⟩), .int .i64 f, .int .i64 k] 70) := ⟨_, rfl⟩
  rw [← hw1] at o1
  have HD : Hid (∀ j, DkS (w1.drewN j) p gs n S B m) := Lib.hid (fun j => D.only (o1.drewN j))
  have HO := Lib.hid o1
  have HL := Lib.hid (dk_len p gs n S B m w1 (D.only o1))
  have HW := Lib.hid hw1.symm
  have hne : ¬ (n : Int) = 0 := by omega
  obtain ⟨q, hq⟩ : ∃ q, q = w.heap.size := ⟨_, rfl⟩
  have hb : Blk w1 q 70 #[.pointer (some ⟨p, 0, none⟩), .int .i64 f, .int .i64 k] := by rw [hw1, hq]; exact Blk.new w _ _
  have c0 : w1.cell? ⟨q, 0, none⟩ = some (.pointer (some ⟨p, 0, none⟩)) := hb.cell 0
  have c1 : w1.cell? ⟨q, 1, none⟩ = some (.int .i64 f) := hb.cell 1
  have c2 : w1.cell? ⟨q, 2, none⟩ = some (.int .i64 k) := hb.cell 2
  have HQ := Lib.hid hq.symm
  clear hb hw1 hq
  unfold partV
  clear D o1
  go_enter Tryz.func37, Tryz.ntmps37
  go_wp2_with fail
  rw [HW.out, HQ.out]
  refine HL.out.mono ?_
  rintro e w2 ⟨rfl, rfl⟩
  have e1 : decide (f < 0) = false := decide_eq_false (by omega)
  have e2 : decide (k < 1) = false := decide_eq_false (by omega)
  have e3 : decide ((n : Int) < k) = false := decide_eq_false (by omega)
  have e4 : decide ((n : Int) - k < f) = false := decide_eq_false (by omega)
  have i1 : ¬ f < 0 := by omega
  have i2 : ¬ k < 1 := by omega
  have i3 : ¬ (n : Int) < k := by omega
  have i4 : ¬ (n : Int) - k < f := by omega
  have hwr : IntKind.i64.wrap ((n : Int) - k) = (n : Int) - k := IntWalk.i64_in _ (by omega)
  go_wp2_with fail
  go_quiet ((go_at_call 31; exact quiet_left (dk_len p gs n S B m _ (HD.out _))))
  go_wp2_with fail
  go_ret
  exact ⟨rfl, HO.out.drewN nq⟩
end Go.Proofs.YthggliknnmhbdaaGreat
