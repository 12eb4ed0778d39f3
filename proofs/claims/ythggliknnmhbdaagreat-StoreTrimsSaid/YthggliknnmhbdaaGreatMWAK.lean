/- Several texts in one: DkR, DkU. -/
import Derived.Test.YthggliknnmhbdaaGreatMWAD
import Derived.Test.YthggliknnmhbdaaGreatMWAJ
import Derived.RangeFuncNested
import Derived.RangeFuncBound
import Derived.RangeFuncCalls
import Derived.RangeFuncLeaves
import Derived.OwnWalkIn
import Derived.TacticsInMore
import Derived.LoopNIn
import Derived.LoopIn
import Derived.Deep.DeepCutAuto
/- A disk of sectors: what is read when nothing is loose. -/
namespace Go.Proofs.YthggliknnmhbdaaGreat
set_option maxRecDepth 100000
open Go.RowKit Go.WideShapes Go.ChangeShapes
set_option linter.unusedVariables false
attribute [local simp] frOf dstsOf frGo predsHold allHold Region.binds slotOf seen Is Act.put
attribute [local go_sem] Oper.semAt_some
theorem backward_any (A : Option Addr) (n c : Nat) (w : World) :
    Calls Tryz.prog 77 #[.slice A n c] w fun e w' => e = .returned (.func (.func 93) #[] #[.pointer (some ⟨w.heap.size, 0, none⟩)]) ∧ w' = w.alloc (.cells #[.slice A n c] 60) := by
  go_enter Tryz.func77, Tryz.ntmps77
  go_wp2
  go_ret
  exact ⟨rfl, rfl⟩
theorem zeroBr : (Tryz.prog.info? 65).map (fun i => (i.zero, i.size)) = some (some zeroB, 128) := by kernel_rfl
theorem zeroB_size : zeroB.cells.size = 128 := by kernel_rfl
def RSt (W3 W4 W5 : World) (ld : Nat → Bool) (y : World) : Prop := (ld 8 = true → ld 7 = true) ∧ (if ld 8 = true then y = W5 else if ld 7 = true then y = W4 else y = W3)
def St5 (W2 : World) (ld : Nat → Bool) (y : World) : Prop := y = W2
end Go.Proofs.YthggliknnmhbdaaGreat
/- Loads and stores by an equation within a fence; the iterator of slices.Backward over loose writes. -/
namespace Go.Proofs.YthggliknnmhbdaaGreat
set_option maxRecDepth 100000
open Go.RowKit Go.WideShapes Go.ChangeShapes
set_option linter.unusedVariables false
theorem wpListIn_load_by {F : Fence} {n : Nat} {P : Program} {ops : Array Oper} {rest : List Oper} {op : Oper} {a : Act} {w : World} {Q : Exit → Act → World → Prop} (hgd : op.guard = none) (ty : TypeId) (x : Operand) (ho : op.op = .load ty x) {pa v : Value} (hx : a.eval x = pa)
    (hr : (Instr.loadAt ty pa).run P w = .ok v w) (h : wpListIn F n P ops Q rest (a.put op.dst v) w) : wpListIn F n P ops Q (op :: rest) a w := by
  refine wpListIn_plain hgd fun K hK' => ?_
  unfold Oper.wpIn
  refine ⟨?_, ?_⟩
  · simp [Oper.about, ho]
  · rw [Oper.semAt_plain F _ _ (by rw [ho]; intro c hc'; cases hc')]
    simp [execOp, ho, hx, hr, Result.andThen]
    exact hK' _ _ h
theorem wpListIn_store_by {F : Fence} {n : Nat} {P : Program} {ops : Array Oper} {rest : List Oper} {op : Oper} {a : Act} {w w' : World} {Q : Exit → Act → World → Prop} (hgd : op.guard = none) (ty : TypeId) (x y : Operand) (ho : op.op = .store ty x y) {pa v : Value} (hx : a.eval x = pa) (hy : a.eval y = v)
    (hr : (Instr.storeAt ty pa v).run P w = .ok () w') (h : wpListIn F n P ops Q rest (a.put op.dst undef) w') : wpListIn F n P ops Q (op :: rest) a w := by
  refine wpListIn_plain hgd fun K hK' => ?_
  unfold Oper.wpIn
  refine ⟨?_, ?_⟩
  · simp [Oper.about, ho]
  · rw [Oper.semAt_plain F _ _ (by rw [ho]; intro c hc'; cases hc')]
    simp [execOp, ho, hx, hy, hr, Result.andThen]
    exact hK' _ _ h
set_option maxHeartbeats 2000000 in
set_option maxRecDepth 100000 in
theorem backward1_any (l : List (Nat × List UInt8)) (A : Option Addr) (c x rid nn : Nat) (J : Nat → World → Prop) (E : World → Prop) (hll : l.length ≤ 1000000)
    (hcell : ∀ j W, J j W → W.cell? ⟨x, 0, none⟩ = some (.slice A l.length c))
    (hld : ∀ j W (y : Nat × List UInt8), J (j + 1) W → l[j]? = some y → ∃ gl, A = some ⟨gl, 0, none⟩ ∧ (Instr.loadAt 67 (.pointer (some ⟨gl, j * 129, none⟩))).run Tryz.prog W = .ok (.agg (wrL y).toArray) W)
    (hY : ∀ j W (y : Nat × List UInt8), J (j + 1) W → l[j]? = some y → YieldAt Fence.wide (nn - 1) Tryz.prog rid #[.int .i64 (j : Int), .agg (wrL y).toArray] W fun e W' => (e = .returned (.bool true) ∧ J j W') ∨ (e = .returned (.bool false) ∧ E W'))
    (W : World) (h0 : J l.length W) :
    CallsIn Fence.wide nn Tryz.prog 93 #[.func (.yield rid) #[] #[], .pointer (some ⟨x, 0, none⟩)] W fun e W' => (∃ v, e = .returned v) ∧ (J 0 W' ∨ E W') := by
  refine callsIn_of_wp Tryz.func93 rfl trivial ?_ rfl
  simp only [Tryz.ntmps93, List.size_toArray, List.length_cons, List.length_nil, Nat.reduceAdd, Nat.reduceSub, Array.replicate_succ, Array.replicate_zero, List.push_toArray, List.append_toArray, List.nil_append, List.cons_append]
  refine wpIn_wide.2 ?_
  have H0 := Lib.hid h0
  have HC := Lib.hid hcell
  have HL := Lib.hid hld
  have HY := Lib.hid hY
  have c0 := hcell _ _ h0
  have hsub : IntKind.i64.wrap ((l.length : Int) - 1) = (l.length : Int) - 1 := IntWalk.i64_in _ (by omega)
  clear h0 hcell hld hY
  go_wp2_with fail
  clear c0
  go_loopw [3] (fun i wr => ∃ j : Nat, j ≤ l.length ∧ i = .int .i64 ((j : Int) - 1) ∧ J j wr) (fun i _ => (intOf i + 1).toNat)
  case atStart => exact ⟨l.length, by omega, rfl, H0.out⟩
  case round =>
    obtain ⟨j, hj, rfl, hJ⟩ := hrel
    have HJ := Lib.hid hJ
    have c0 := HC.out _ _ hJ
    clear hJ
    cases j with
    | zero =>
      go_wp2_with fail
      go_end0
      exact ⟨⟨_, rfl⟩, .inl HJ.out⟩
    | succ j =>
      obtain ⟨y, hy⟩ : ∃ y, l[j]? = some y := ⟨_, List.getElem?_eq_getElem hj⟩
      obtain ⟨gl, rfl, hl⟩ := HL.out j wr y HJ.out hy
      obtain ⟨fn, tmps, assign, body, hya, hR⟩ := HY.out j wr y HJ.out hy
      have e1 : (((j + 1 : Nat) : Int) - 1) = (j : Int) := by omega
      rw [e1]
      have hge : ¬ (j : Int) < 0 := by omega
      have hlo : (0 : Int) ≤ (j : Int) := by omega
      have hhi : (j : Int) < (l.length : Int) := by omega
      have hs1 : IntKind.i64.wrap ((j : Int) - 1) = (j : Int) - 1 := IntWalk.i64_in _ (by omega)
      have HRD := Lib.hid hR
      have HLD := Lib.hid hl
      clear hR hl e1
      go_upto_region 3 with fail
      refine (wpIn_wide (n := nn)).1 ?_
      gi_wp2_with (refine wpListIn_load_by rfl 67 (.tmp 15) rfl rfl HLD.out ?_)
      refine ⟨fun h => (by cases h), ?_⟩
      refine HRD.out.mono ?_
      rintro e W' (⟨rfl, hJ'⟩ | ⟨rfl, hE⟩)
      · have HJ' := Lib.hid hJ'
        clear hJ'
        gi_wp2
        go_wp2_with fail
        go_roundw
        case rel => exact ⟨j, by omega, rfl, HJ'.out⟩
        case measure => simp [intOf]
      · have HE := Lib.hid hE
        clear hE
        gi_wp2
        go_wp2_with fail
        refine bodyPost_ret (results_none rfl _ _ _) rfl ?_
        exact ⟨⟨_, rfl⟩, .inr HE.out⟩
end Go.Proofs.YthggliknnmhbdaaGreat
