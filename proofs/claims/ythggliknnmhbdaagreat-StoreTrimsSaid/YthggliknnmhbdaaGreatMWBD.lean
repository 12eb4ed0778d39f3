/- Several texts in one: StB. -/
import Derived.Test.YthggliknnmhbdaaGreatMWBB
/- The walk of store.first over a row of function values. No conditions beyond what it states. -/
namespace Go.Proofs.YthggliknnmhbdaaGreat
open Go.RowKit
set_option linter.unusedVariables false
/-- how a chain of calls ends: all of them done, or one that failed -/
def FirstP (n : Nat) (J : Nat → World → Prop) (E : Int → World → Prop) (e : Ending) (w' : World) : Prop :=
  (e = .returned (.int .i64 0) ∧ J n w') ∨ ∃ r, r ≠ 0 ∧ e = .returned (.int .i64 r) ∧ E r w'
/-- how one of them ends -/
def StepP (i : Nat) (J : Nat → World → Prop) (E : Int → World → Prop) (e : Ending) (w' : World) : Prop :=
  (e = .returned (.int .i64 0) ∧ J (i + 1) w') ∨ ∃ r, r ≠ 0 ∧ e = .returned (.int .i64 r) ∧ E r w'
set_option maxHeartbeats 1000000 in
theorem first_any (n : Nat) (fid : Nat → Nat) (bd cp : Nat → Array Value) (g cap : Nat) (J : Nat → World → Prop) (E : Int → World → Prop) (w : World) (hn : n ≤ 10)
    (hrow : ∀ i, i < n → ∀ W, J i W → W.cell? ⟨g, i, none⟩ = some (.func (.func (fid i)) (bd i) (cp i)))
    (hent : ∀ i, i < n → ∀ xs W, (callFunc (fid i) xs).run Tryz.prog W = .ok (.enter (fid i) xs) W)
    (hstep : ∀ i, i < n → ∀ W, J i W → Calls Tryz.prog (fid i) (bd i ++ cp i) W (StepP i J E)) (h0 : J 0 w) :
    Calls Tryz.prog 19 #[.slice (some ⟨g, 0, none⟩) n cap] w (FirstP n J E) := by
  have HR := Lib.hid hrow
  have HE := Lib.hid hent
  have HS := Lib.hid hstep
  have H0 := Lib.hid h0
  clear hrow hent hstep h0
  go_enter Tryz.func19, Tryz.ntmps19
  go_wp2_with fail
  go_loopw [8] (fun i wr => ∃ k : Nat, k ≤ n ∧ i = .int .i64 (k : Int) ∧ J k wr) (fun i _ => n - (intOf i).toNat)
  case atStart => exact ⟨0, by omega, rfl, H0.out⟩
  case round =>
    obtain ⟨y, rfl⟩ : ∃ y, y = wr := ⟨_, rfl⟩
    obtain ⟨k, hk, rfl, hj⟩ := hrel
    have HJ := Lib.hid hj
    by_cases hkn : k < n
    · have hki : (k : Int) < (n : Int) := by omega
      have hc := HR.out k hkn y hj
      have he := HE.out k hkn
      have hs := HS.out k hkn y hj
      clear hj
      generalize fid k = F at *
      generalize bd k = b at *
      generalize cp k = c at *
      have HSS := Lib.hid hs
      clear hs
      go_wp2_with fail
      refine HSS.out.mono ?_
      rintro e y2 (⟨rfl, h1⟩ | ⟨r, hr, rfl, h1⟩)
      · have H1 := Lib.hid h1
        clear h1 hc he
        go_wp2_with fail
        go_roundw
        case rel => exact ⟨k + 1, by omega, by go_num, H1.out⟩
        case measure => simp [intOf]; omega
      · have H1 := Lib.hid h1
        clear h1 hc he
        go_wp2_with fail
        go_ret
        exact .inr ⟨r, hr, rfl, H1.out⟩
    · obtain rfl : k = n := by omega
      clear hj
      go_wp2_with fail
      go_ret
      exact .inl ⟨rfl, HJ.out⟩
end Go.Proofs.YthggliknnmhbdaaGreat
