/- SoloBound: whatever the fuel, the call returns true. No conditions. -/
import Derived.Test.YtfmbkmognobfpaaGreatRows
import Derived.Test.YtfmbkmognobfpaaGreatWorks
import Derived.ProofKit
import Derived.OpenShut
import Derived.ChangeOld
namespace Go.Proofs.YtfmbkmognobfpaaGreat
open Go.ChangeShapes Go.WideShapes Go.ChangeAt Go.RowKit
set_option linter.unusedVariables false
theorem bound_low (k : Int) (w : World) (h : k < 0 ∨ 65536 < k) : Calls Tryz.prog 4 #[.int .i64 k] w fun e w' => e = .returned (.int .i64 0) ∧ w' = w := by
  by_cases h0 : k < 0
  · go_enter Tryz.func4, Tryz.ntmps4
    go_wp2
    go_ret
    exact ⟨rfl, rfl⟩
  · have h1 : 65536 < k := by omega
    go_enter Tryz.func4, Tryz.ntmps4
    go_wp2
    go_ret
    exact ⟨rfl, rfl⟩
theorem bound_mid (k : Int) (w : World) (h0 : 0 ≤ k) (h1 : k ≤ 65536) : Calls Tryz.prog 4 #[.int .i64 k] w fun e w' => e = .returned (.int .i64 (100 * k + 400)) ∧ w' = w := by
  have a0 : ¬ k < 0 := by omega
  have a1 : ¬ 65536 < k := by omega
  go_enter Tryz.func4, Tryz.ntmps4
  go_wp2
  go_ret
  refine ⟨?_, rfl⟩
  show Ending.returned (.int .i64 (100 * (k + 4))) = _
  rw [show 100 * (k + 4) = 100 * k + 400 by omega]
theorem solo_any (k : Int) (w : World) : Calls Tryz.prog 3 #[.int .i64 k] w fun e w' => e = .returned (.bool true) ∧ Below w.heap.size w w' := by
  by_cases h0 : k < 0
  · go_enter Tryz.func3, Tryz.ntmps3
    go_wp2_with (first
      | (go_at_call 4; refine (bound_low k _ (.inl h0)).mono ?_; rintro e w' ⟨rfl, rfl⟩)
      | (go_at_call 5; refine (works_any _).mono ?_; rintro e w5 ⟨rfl, hb⟩))
    go_ret
    exact ⟨rfl, hb⟩
  · by_cases h1 : 65536 < k
    · go_enter Tryz.func3, Tryz.ntmps3
      go_wp2_with (first
        | (go_at_call 4; refine (bound_low k _ (.inr h1)).mono ?_; rintro e w' ⟨rfl, rfl⟩)
        | (go_at_call 5; refine (works_any _).mono ?_; rintro e w5 ⟨rfl, hb⟩))
      go_ret
      exact ⟨rfl, hb⟩
    · have h2 : 0 ≤ k := by omega
      have h3 : k ≤ 65536 := by omega
      go_enter Tryz.func3, Tryz.ntmps3
      go_wp2_with (first
        | (go_at_call 4; refine (bound_mid k _ h2 h3).mono ?_; rintro e w' ⟨rfl, rfl⟩)
        | (go_at_call 5; refine (works_any _).mono ?_; rintro e w5 ⟨rfl, hb⟩))
      go_ret
      exact ⟨rfl, hb⟩
theorem ownSoloBound : ownKnob Tryz.prog.godebug = none := by kernel_rfl
theorem laidOutSoloBound : laidOutB Tryz.prog = true := by kernel_rfl
set_option maxRecDepth 100000 in
theorem liftedSoloBound (os : Os) (started : os.Started) (H : Type) (enc : TypeId × Value → H) :
    ReturnsInHanded {} Tryz.checked os 3 .any (Rows.soloBoundSpec.pre6 enc Tryz.prog Tryz.f3 Rows.soloBoundRow.domain false) (Rows.soloBoundSpec.post enc Tryz.prog Tryz.f3 false true false false) := by
  refine returnsInHanded_of_change (C := Tryz.checked) ownSoloBound started (by kernel_rfl) Tryz.func3
    (ChangeSpec.witness6 (enc := enc) (C := Tryz.checked) false ⟨#[], #[.int .i64 0], []⟩ 8 (by kernel_rfl) (by kernel_rfl) (by kernel_rfl) (by kernel_rfl)) ?_
  intro W base args ds gs before hval0 hW hcnd _
  have hval : ∀ (j : Nat) t v, Tryz.f3.params[j]? = some t → args[j]? = some v → Value.okWide Tryz.prog W .any base t v := hval0
  have hW' := hW
  obtain ⟨p, q, hA0, hV, rfl, hfz, hnd⟩ := hW
  have hA : DataW.TrodAll enc Tryz.prog W 0 (fun _ => true) true Tryz.f3.params.toList args.toList ds p := hA0
  rw [Tryz.params3] at hA hval
  obtain ⟨v0, vs0, d0, ds0, p0, q0, hargs, rfl, rfl, h0, r0⟩ := trodAll_cons hA
  obtain ⟨rfl, rfl, rfl⟩ := trodAll_nil r0
  obtain rfl : args = #[v0] := by cases args; simp_all
  obtain ⟨rfl, rfl⟩ := trodVars_none hV
  have k0 := h0
  have lt0 : ∀ x ∈ p0, x.block < W.heap.size := by obtain ⟨m, hm⟩ := k0; exact DataW.trod_lt m _ _ _ hm
  obtain ⟨x0, rfl, rfl, rfl, wx0⟩ := open_int Tryz.underlying3 (hval 0 3 v0 rfl rfl) h0
  clear hA0 hval0
  refine (solo_any x0 W).mono fun e W' ⟨he, bel⟩ => ?_
  subst he
  exact ⟨_, rfl, _, _, _, [], _, [], hW', trodAll_mk1 (shut_bool Tryz.underlying4 _), (trodAll_cons_mk (Below.trod laidOutSoloBound (by kernel_rfl) (of_decide_eq_true (by kernel_rfl)) k0 bel lt0) trodAll_mk0), rfl, bel.frame _, fun h => by cases h⟩
theorem soloBound_holds : Rows.SoloBoundSaid :=
  OpenClaim.holds_of_wide 3 Tryz.f3 rfl rfl rfl rfl rfl rfl rfl ⟨rfl, rfl, rfl, rfl, rfl⟩ rfl rfl rfl rfl rfl (by kernel_rfl) Tryz.func3 (by kernel_rfl)
    (of_decide_eq_true (by kernel_rfl)) (by unfold Func.isWrapper; first | (rw [if_pos (by decide +kernel)]; kernel_rfl) | (rw [if_neg (by decide +kernel)]; exact ⟨rfl, rfl⟩))
    (fun os started H enc _ => liftedSoloBound os started H enc)
#print axioms soloBound_holds
end Go.Proofs.YtfmbkmognobfpaaGreat
