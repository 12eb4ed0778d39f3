/- The document's deques: push. -/
import Derived.Test.YtmghlhngdopifaaDqD
namespace Go.Proofs.Ytmghlhngdopifaa
open Go.RowKit
set_option linter.unusedVariables false
attribute [local simp] frOf dstsOf frGo predsHold allHold Region.binds slotOf seen Is Act.put
set_option maxRecDepth 100000 in
set_option maxHeartbeats 8000000 in
theorem rpush0 (B m d p : Nat) (n : Int) (v0 v on : Value) (C : List Int) (a : PAct) (w0 w : World) (h : RStp w0 w B m d p n v0 v on C a) (hn : n + 3 ≤ 4611686018427387904) (hS : Safe 0 C a) (hk : a.kind = 0) (h0 : a.told = 0) (g0 : a.got = 0) (hi : a.kind = 1 → a.at_ ≤ 7 → a.i = 0) (hv : a.at_ = 0) :
    Calls Try.prog 32 #[.pointer (some ⟨p, 0, none⟩)] w fun e w' => e = .returned (.tuple #[.int .u8 ((pstep (0 : Nat) C a).what : Int), .int .i64 (pstep (0 : Nat) C a).val, .int .i64 0]) ∧ ∃ v', RStp w0 w' B m d p (n + cnt a) v0 v' on (pstep (0 : Nat) C a).C (pstep (0 : Nat) C a).a := by
  obtain ⟨kind, av, at', b, t, aw, an, nw, ii, rd, told, got⟩ := a
  simp only at hk h0 g0 hv hi
  subst hk h0 g0
  obtain ⟨⟨s1, s2, s3⟩, s4⟩ := hS
  simp only [bd, pok] at s3 s4
  have sz0 : (2 : Int) < C.length := by omega
  have c0 : w.cell? ⟨p, 0, none⟩ = some (.pointer (some ⟨d, 0, none⟩)) := h.act.cell 0
  have d1 : w.cell? ⟨d, 1, none⟩ = some (.int .i64 0) := h.dq.cell 1
  go_enter Try.func32, Try.ntmps32
  go_wp2_with fail
  go_quiet (fail)
  obtain ⟨wq, hwq⟩ : ∃ wq, wq = w.drewN nq := ⟨_, rfl⟩
  have HQ := Lib.hid (h.quiet (w'' := wq) (by rw [hwq]; exact (Only.refl _ w).drewN nq))
  rw [← hwq]
  clear h c0 d1 hwq
  rcases hv with rfl
  · have cq3 : wq.cell? ⟨p, 3, none⟩ = some (.int .i64 0) := HQ.out.act.cell 3
    go_wp2_with fail
    refine (rload_any B m d p _ v0 v on C _ w0 _ HQ.out _ (by omega) (by omega) (by omega)).mono ?_
    rintro e w1 ⟨rfl, h9⟩
    have H1 := Lib.hid h9
    clear h9
    have c1_4 : w1.cell? ⟨p, 4, none⟩ = some (.int .i64 b) := H1.out.act.cell 4
    have f1_4 : w1.frozen? ⟨p, 4, none⟩ = false := H1.out.act.frozen 4
    go_wp2_with fail
    have H2 := Lib.hid (H1.out.set 4 (.int .i64 (ld C 1)) (a' := ⟨0, av, 0, (ld C 1), t, aw, an, nw, ii, rd, 0, 0⟩) rfl)
    obtain ⟨w2, hw2⟩ : ∃ w2, w2 = w1.setCell ⟨p, 4, none⟩ (.int .i64 (ld C 1)) := ⟨_, rfl⟩
    rw [← hw2] at H2 ⊢
    clear c1_4 f1_4 hw2
    go_wp2_with fail
    refine (rgoes_any B m d p _ v0 v on C _ w0 _ H2.out 1).mono ?_
    rintro e w3 ⟨rfl, h9⟩
    have H3 := Lib.hid h9
    clear h9
    go_wp2_with fail
    go_ret3
    exact ⟨rfl, v, H3.out⟩
set_option maxRecDepth 100000 in
set_option maxHeartbeats 8000000 in
theorem rpush1 (B m d p : Nat) (n : Int) (v0 v on : Value) (C : List Int) (a : PAct) (w0 w : World) (h : RStp w0 w B m d p n v0 v on C a) (hn : n + 3 ≤ 4611686018427387904) (hS : Safe 0 C a) (hk : a.kind = 0) (h0 : a.told = 0) (g0 : a.got = 0) (hi : a.kind = 1 → a.at_ ≤ 7 → a.i = 0) (hv : a.at_ = 1) :
    Calls Try.prog 32 #[.pointer (some ⟨p, 0, none⟩)] w fun e w' => e = .returned (.tuple #[.int .u8 ((pstep (0 : Nat) C a).what : Int), .int .i64 (pstep (0 : Nat) C a).val, .int .i64 0]) ∧ ∃ v', RStp w0 w' B m d p (n + cnt a) v0 v' on (pstep (0 : Nat) C a).C (pstep (0 : Nat) C a).a := by
  obtain ⟨kind, av, at', b, t, aw, an, nw, ii, rd, told, got⟩ := a
  simp only at hk h0 g0 hv hi
  subst hk h0 g0
  obtain ⟨⟨s1, s2, s3⟩, s4⟩ := hS
  simp only [bd, pok] at s3 s4
  have sz0 : (2 : Int) < C.length := by omega
  have c0 : w.cell? ⟨p, 0, none⟩ = some (.pointer (some ⟨d, 0, none⟩)) := h.act.cell 0
  have d1 : w.cell? ⟨d, 1, none⟩ = some (.int .i64 0) := h.dq.cell 1
  go_enter Try.func32, Try.ntmps32
  go_wp2_with fail
  go_quiet (fail)
  obtain ⟨wq, hwq⟩ : ∃ wq, wq = w.drewN nq := ⟨_, rfl⟩
  have HQ := Lib.hid (h.quiet (w'' := wq) (by rw [hwq]; exact (Only.refl _ w).drewN nq))
  rw [← hwq]
  clear h c0 d1 hwq
  rcases hv with rfl
  · have cq3 : wq.cell? ⟨p, 3, none⟩ = some (.int .i64 1) := HQ.out.act.cell 3
    go_wp2_with fail
    refine (rload_any B m d p _ v0 v on C _ w0 _ HQ.out _ (by omega) (by omega) (by omega)).mono ?_
    rintro e w1 ⟨rfl, h9⟩
    have H1 := Lib.hid h9
    clear h9
    have c1_5 : w1.cell? ⟨p, 5, none⟩ = some (.int .i64 t) := H1.out.act.cell 5
    have f1_5 : w1.frozen? ⟨p, 5, none⟩ = false := H1.out.act.frozen 5
    go_wp2_with fail
    have H2 := Lib.hid (H1.out.set 5 (.int .i64 (ld C 0)) (a' := ⟨0, av, 1, b, (ld C 0), aw, an, nw, ii, rd, 0, 0⟩) rfl)
    obtain ⟨w2, hw2⟩ : ∃ w2, w2 = w1.setCell ⟨p, 5, none⟩ (.int .i64 (ld C 0)) := ⟨_, rfl⟩
    rw [← hw2] at H2 ⊢
    clear c1_5 f1_5 hw2
    go_wp2_with fail
    refine (rgoes_any B m d p _ v0 v on C _ w0 _ H2.out 2).mono ?_
    rintro e w3 ⟨rfl, h9⟩
    have H3 := Lib.hid h9
    clear h9
    go_wp2_with fail
    go_ret3
    exact ⟨rfl, v, H3.out⟩
set_option maxRecDepth 100000 in
set_option maxHeartbeats 8000000 in
theorem rpush2 (B m d p : Nat) (n : Int) (v0 v on : Value) (C : List Int) (a : PAct) (w0 w : World) (h : RStp w0 w B m d p n v0 v on C a) (hn : n + 3 ≤ 4611686018427387904) (hS : Safe 0 C a) (hk : a.kind = 0) (h0 : a.told = 0) (g0 : a.got = 0) (hi : a.kind = 1 → a.at_ ≤ 7 → a.i = 0) (hv : a.at_ = 2) :
    Calls Try.prog 32 #[.pointer (some ⟨p, 0, none⟩)] w fun e w' => e = .returned (.tuple #[.int .u8 ((pstep (0 : Nat) C a).what : Int), .int .i64 (pstep (0 : Nat) C a).val, .int .i64 0]) ∧ ∃ v', RStp w0 w' B m d p (n + cnt a) v0 v' on (pstep (0 : Nat) C a).C (pstep (0 : Nat) C a).a := by
  obtain ⟨kind, av, at', b, t, aw, an, nw, ii, rd, told, got⟩ := a
  simp only at hk h0 g0 hv hi
  subst hk h0 g0
  obtain ⟨⟨s1, s2, s3⟩, s4⟩ := hS
  simp only [bd, pok] at s3 s4
  have sz0 : (2 : Int) < C.length := by omega
  have c0 : w.cell? ⟨p, 0, none⟩ = some (.pointer (some ⟨d, 0, none⟩)) := h.act.cell 0
  have d1 : w.cell? ⟨d, 1, none⟩ = some (.int .i64 0) := h.dq.cell 1
  go_enter Try.func32, Try.ntmps32
  go_wp2_with fail
  go_quiet (fail)
  obtain ⟨wq, hwq⟩ : ∃ wq, wq = w.drewN nq := ⟨_, rfl⟩
  have HQ := Lib.hid (h.quiet (w'' := wq) (by rw [hwq]; exact (Only.refl _ w).drewN nq))
  rw [← hwq]
  clear h c0 d1 hwq
  rcases hv with rfl
  · have cq3 : wq.cell? ⟨p, 3, none⟩ = some (.int .i64 2) := HQ.out.act.cell 3
    go_wp2_with fail
    refine (rload_any B m d p _ v0 v on C _ w0 _ HQ.out _ (by omega) (by omega) (by omega)).mono ?_
    rintro e w1 ⟨rfl, h9⟩
    have H1 := Lib.hid h9
    clear h9
    have c1_6 : w1.cell? ⟨p, 6, none⟩ = some (.int .i64 aw) := H1.out.act.cell 6
    have f1_6 : w1.frozen? ⟨p, 6, none⟩ = false := H1.out.act.frozen 6
    go_wp2_with fail
    have H2 := Lib.hid (H1.out.set 6 (.int .i64 (ld C 2)) (a' := ⟨0, av, 2, b, t, (ld C 2), an, nw, ii, rd, 0, 0⟩) rfl)
    obtain ⟨w2, hw2⟩ : ∃ w2, w2 = w1.setCell ⟨p, 6, none⟩ (.int .i64 (ld C 2)) := ⟨_, rfl⟩
    rw [← hw2] at H2 ⊢
    clear c1_6 f1_6 hw2
    go_wp2_with fail
    refine (rgoes_any B m d p _ v0 v on C _ w0 _ H2.out 3).mono ?_
    rintro e w3 ⟨rfl, h9⟩
    have H3 := Lib.hid h9
    clear h9
    go_wp2_with fail
    go_ret3
    exact ⟨rfl, v, H3.out⟩
set_option maxRecDepth 100000 in
set_option maxHeartbeats 8000000 in
theorem rpush3 (B m d p : Nat) (n : Int) (v0 v on : Value) (C : List Int) (a : PAct) (w0 w : World) (h : RStp w0 w B m d p n v0 v on C a) (hn : n + 3 ≤ 4611686018427387904) (hS : Safe 0 C a) (hk : a.kind = 0) (h0 : a.told = 0) (g0 : a.got = 0) (hi : a.kind = 1 → a.at_ ≤ 7 → a.i = 0) (hv : a.at_ = 3) :
    Calls Try.prog 32 #[.pointer (some ⟨p, 0, none⟩)] w fun e w' => e = .returned (.tuple #[.int .u8 ((pstep (0 : Nat) C a).what : Int), .int .i64 (pstep (0 : Nat) C a).val, .int .i64 0]) ∧ ∃ v', RStp w0 w' B m d p (n + cnt a) v0 v' on (pstep (0 : Nat) C a).C (pstep (0 : Nat) C a).a := by
  obtain ⟨kind, av, at', b, t, aw, an, nw, ii, rd, told, got⟩ := a
  simp only at hk h0 g0 hv hi
  subst hk h0 g0
  obtain ⟨⟨s1, s2, s3⟩, s4⟩ := hS
  simp only [bd, pok] at s3 s4
  have sz0 : (2 : Int) < C.length := by omega
  have c0 : w.cell? ⟨p, 0, none⟩ = some (.pointer (some ⟨d, 0, none⟩)) := h.act.cell 0
  have d1 : w.cell? ⟨d, 1, none⟩ = some (.int .i64 0) := h.dq.cell 1
  go_enter Try.func32, Try.ntmps32
  go_wp2_with fail
  go_quiet (fail)
  obtain ⟨wq, hwq⟩ : ∃ wq, wq = w.drewN nq := ⟨_, rfl⟩
  have HQ := Lib.hid (h.quiet (w'' := wq) (by rw [hwq]; exact (Only.refl _ w).drewN nq))
  rw [← hwq]
  clear h c0 d1 hwq
  rcases hv with rfl
  · have cq3 : wq.cell? ⟨p, 3, none⟩ = some (.int .i64 3) := HQ.out.act.cell 3
    replace s4 : (-1000000 ≤ b ∧ b ≤ 1000000) ∧ (-1000000 ≤ t ∧ t ≤ 1000000) ∧ 0 ≤ aw ∧ aw < C.length := s4
    have g0_6 : wq.cell? ⟨p, 6, none⟩ = some (.int .i64 aw) := HQ.out.act.cell 6
    go_wp2_with fail
    refine (rload_any B m d p _ v0 v on C _ w0 _ HQ.out _ (by omega) (by omega) (by omega)).mono ?_
    rintro e w1 ⟨rfl, h9⟩
    have H1 := Lib.hid h9
    clear h9
    have c1_7 : w1.cell? ⟨p, 7, none⟩ = some (.int .i64 an) := H1.out.act.cell 7
    have f1_7 : w1.frozen? ⟨p, 7, none⟩ = false := H1.out.act.frozen 7
    go_wp2_with fail
    have H2 := Lib.hid (H1.out.set 7 (.int .i64 (ld C aw)) (a' := ⟨0, av, 3, b, t, aw, (ld C aw), nw, ii, rd, 0, 0⟩) rfl)
    obtain ⟨w2, hw2⟩ : ∃ w2, w2 = w1.setCell ⟨p, 7, none⟩ (.int .i64 (ld C aw)) := ⟨_, rfl⟩
    rw [← hw2] at H2 ⊢
    clear c1_7 f1_7 hw2
    have hwr : IntKind.i64.wrap (b - t) = b - t := IntWalk.i64_in _ (by omega)
    by_cases hq : b - t ≥ ld C aw
    · have hP : pstep ((0 : Nat) : Int) C ⟨0, av, 3, b, t, aw, an, nw, ii, rd, 0, 0⟩ = _ := congrArg (fun k : Nat => (Res.mk 0 0 ⟨0, av, k, b, t, aw, (ld C aw), nw, ii, rd, 0, 0⟩ C)) (if_pos hq : (if b - t ≥ ld C aw then 10 else 20) = 10)
      have HP := Lib.hid hP
      clear hP
      have g2_4 : w2.cell? ⟨p, 4, none⟩ = some (.int .i64 b) := H2.out.act.cell 4
      have g2_5 : w2.cell? ⟨p, 5, none⟩ = some (.int .i64 t) := H2.out.act.cell 5
      have g2_7 : w2.cell? ⟨p, 7, none⟩ = some (.int .i64 (ld C aw)) := H2.out.act.cell 7
      go_wp2_with fail
      go_quiet (fail)
      obtain ⟨w3, hw3⟩ : ∃ w3, w3 = w2.drewN nq := ⟨_, rfl⟩
      have H3 := Lib.hid (H2.out.quiet (w'' := w3) (by rw [hw3]; exact (Only.refl _ w2).drewN nq))
      rw [← hw3]
      clear g2_4 g2_5 g2_7 hw3
      go_wp2_with fail
      refine (rgoes_any B m d p _ v0 v on C _ w0 _ H3.out 10).mono ?_
      rintro e w4 ⟨rfl, h9⟩
      have H4 := Lib.hid h9
      clear h9
      go_wp2_with fail
      go_ret3
      rw [HP.out]
      exact ⟨rfl, v, H4.out⟩
    · have hP : pstep ((0 : Nat) : Int) C ⟨0, av, 3, b, t, aw, an, nw, ii, rd, 0, 0⟩ = _ := congrArg (fun k : Nat => (Res.mk 0 0 ⟨0, av, k, b, t, aw, (ld C aw), nw, ii, rd, 0, 0⟩ C)) (if_neg hq : (if b - t ≥ ld C aw then 10 else 20) = 20)
      have HP := Lib.hid hP
      clear hP
      have g2_4 : w2.cell? ⟨p, 4, none⟩ = some (.int .i64 b) := H2.out.act.cell 4
      have g2_5 : w2.cell? ⟨p, 5, none⟩ = some (.int .i64 t) := H2.out.act.cell 5
      have g2_7 : w2.cell? ⟨p, 7, none⟩ = some (.int .i64 (ld C aw)) := H2.out.act.cell 7
      go_wp2_with fail
      go_quiet (fail)
      obtain ⟨w3, hw3⟩ : ∃ w3, w3 = w2.drewN nq := ⟨_, rfl⟩
      have H3 := Lib.hid (H2.out.quiet (w'' := w3) (by rw [hw3]; exact (Only.refl _ w2).drewN nq))
      rw [← hw3]
      clear g2_4 g2_5 g2_7 hw3
      go_wp2_with fail
      refine (rgoes_any B m d p _ v0 v on C _ w0 _ H3.out 20).mono ?_
      rintro e w4 ⟨rfl, h9⟩
      have H4 := Lib.hid h9
      clear h9
      go_wp2_with fail
      go_ret3
      rw [HP.out]
      exact ⟨rfl, v, H4.out⟩
set_option maxRecDepth 100000 in
set_option maxHeartbeats 8000000 in
theorem rpush10 (B m d p : Nat) (n : Int) (v0 v on : Value) (C : List Int) (a : PAct) (w0 w : World) (h : RStp w0 w B m d p n v0 v on C a) (hn : n + 3 ≤ 4611686018427387904) (hS : Safe 0 C a) (hk : a.kind = 0) (h0 : a.told = 0) (g0 : a.got = 0) (hi : a.kind = 1 → a.at_ ≤ 7 → a.i = 0) (hv : a.at_ = 10) :
    Calls Try.prog 32 #[.pointer (some ⟨p, 0, none⟩)] w fun e w' => e = .returned (.tuple #[.int .u8 ((pstep (0 : Nat) C a).what : Int), .int .i64 (pstep (0 : Nat) C a).val, .int .i64 0]) ∧ ∃ v', RStp w0 w' B m d p (n + cnt a) v0 v' on (pstep (0 : Nat) C a).C (pstep (0 : Nat) C a).a := by
  obtain ⟨kind, av, at', b, t, aw, an, nw, ii, rd, told, got⟩ := a
  simp only at hk h0 g0 hv hi
  subst hk h0 g0
  obtain ⟨⟨s1, s2, s3⟩, s4⟩ := hS
  simp only [bd, pok] at s3 s4
  have sz0 : (2 : Int) < C.length := by omega
  have c0 : w.cell? ⟨p, 0, none⟩ = some (.pointer (some ⟨d, 0, none⟩)) := h.act.cell 0
  have d1 : w.cell? ⟨d, 1, none⟩ = some (.int .i64 0) := h.dq.cell 1
  go_enter Try.func32, Try.ntmps32
  go_wp2_with fail
  go_quiet (fail)
  obtain ⟨wq, hwq⟩ : ∃ wq, wq = w.drewN nq := ⟨_, rfl⟩
  have HQ := Lib.hid (h.quiet (w'' := wq) (by rw [hwq]; exact (Only.refl _ w).drewN nq))
  rw [← hwq]
  clear h c0 d1 hwq
  rcases hv with rfl
  · have cq3 : wq.cell? ⟨p, 3, none⟩ = some (.int .i64 10) := HQ.out.act.cell 3
    replace s4 : 1 ≤ an ∧ an ≤ 20000 ∧ (C.length : Int) + 1 + 2 * an ≤ 65536 := s4
    obtain ⟨i1, hi1, hy0, hy1, hy2⟩ := info_parts (show (Try.prog.info? 2).map (fun i => (i.zero, i.size, i.bytes)) = some (some (.int .i64 0), 1, 8) by kernel_rfl)
    obtain ⟨L, hL⟩ : ∃ L : Nat, (L : Int) = 1 + 2 * an := ⟨(1 + 2 * an).toNat, by omega⟩
    have hL1 : L ≤ 65536 := by omega
    have hL0 : 0 < L := by omega
    have hwr : IntKind.i64.wrap (2 * an) = 2 * an := IntWalk.i64_in _ (by omega)
    have hwr1 : IntKind.i64.wrap (1 + 2 * an) = 1 + 2 * an := IntWalk.i64_in _ (by omega)
    obtain ⟨pb, hpb⟩ : ∃ pb, pb = wq.heap.size := ⟨_, rfl⟩
    obtain ⟨wp, hwp⟩ : ∃ wp, wp = wq.alloc (.cells (madeCells (Value.int .i64 0).cells (L * 1)) 2) := ⟨_, rfl⟩
    have hm := run_make_rowN 47 2 i1 (.int .i64 0) (by kernel_rfl) hi1 hy0 .i64 .i64 L L (Nat.le_refl _) (by rw [hy2]; omega) (by omega) wq
    rw [hy1, ← hpb, ← hwp, hL] at hm
    have hbl : Blk wp pb 2 (madeCells (Value.int .i64 0).cells (L * 1)) := by rw [hwp, hpb]; exact Blk.new wq _ _
    have e0 : wp.cell? ⟨pb, 0, none⟩ = some (.int .i64 0) := by
      rw [hbl.cell, ← Array.getElem?_toList, show (Value.int .i64 0).cells = #[.int .i64 0] from rfl, Nat.mul_one, toList_madeCells_one]
      simp [hL0]
    have g0 : wp.frozen? ⟨pb, 0, none⟩ = false := hbl.frozen 0
    have HWP := Lib.hid (HQ.out.quiet (w'' := wp) (by rw [hwp]; exact (Only.refl _ wq).alloc _))
    obtain ⟨wn, hwn⟩ : ∃ wn, wn = wp.setCell ⟨pb, 0, none⟩ (.int .i64 (2 * an)) := ⟨_, rfl⟩
    have hfr : Blk wn pb 2 ((fresh an).map (Value.int .i64)).toArray := by
      rw [← fresh_made (by omega) hL, hwn]; exact hbl.set_ 0 _
    have hvlt : v.ownBlock ≠ some pb := fun e => by
      rcases owns_form HQ.out.mem.own with ⟨rfl, _⟩ | ⟨g, cap, rfl, _, _, _, hlt⟩
      · cases e
      · have h9 := hlt
        rw [← hpb] at h9
        have e9 : some g = some pb := e
        cases e9
        exact absurd h9 (Nat.lt_irrefl _)
    have hpd2 : pb ≠ d ∧ pb ≠ p ∧ pb ≠ m := by
      have := HQ.out.dq.lt; have := HQ.out.act.lt; have := HQ.out.mem.blk.lt
      omega
    have HWN := Lib.hid (show RStp w0 wn B m d p n v0 v on C ⟨0, av, 10, b, t, aw, an, nw, ii, rd, 0, 0⟩ by
      have o : Only (fun x => x = pb) wp wn := by rw [hwn]; exact (Only.refl (fun x => x = pb) wp).setCell (p := ⟨pb, 0, none⟩) (.inl rfl) _
      refine ⟨HWP.out.mem.only o (fun e => hpd2.2.2 e.symm) (fun k hk e => hvlt (e ▸ hk)), o.blk HWP.out.dq (fun e => hpd2.1 e.symm), o.blk HWP.out.act (fun e => hpd2.2.1 e.symm), HWP.out.only.trans' o (fun i hi => .inr (by rw [hi, hpb]; exact HQ.out.only.size)), HWP.out.row⟩)
    have hfl : (fresh an).length = L := by have := fresh_len (x := an) (by omega); omega
    have hrd : Reads wn (pb + 1) 1 (some ⟨pb, 0, none⟩) (fresh an).length ((fresh an).map (.int .i64)) :=
      ⟨by simp, fun _ => ⟨_, rfl, by simp, fun j u hu => by rw [show (⟨pb, 0, none⟩ : Addr).add j = ⟨pb, j, none⟩ by simp [Addr.add]; exact fun h => h.symm]; rw [hfr.cell, List.getElem?_toArray]; exact hu⟩⟩
    have x1 : wp.cell? ⟨p, 0, none⟩ = some (.pointer (some ⟨d, 0, none⟩)) := HWP.out.act.cell 0
    have x2 : wp.cell? ⟨d, 0, none⟩ = some (.pointer (some ⟨m, 0, none⟩)) := HWP.out.dq.cell 0
    have x3 : wp.cell? ⟨p, 7, none⟩ = some (.int .i64 an) := HWP.out.act.cell 7
    have x4 : wq.cell? ⟨p, 7, none⟩ = some (.int .i64 an) := HQ.out.act.cell 7
    obtain ⟨n1, n2, n3⟩ := hpd2
    have HX := Lib.hid hrd
    have HWNE := Lib.hid hwn
    have HL := Lib.hid hL
    have hL2 : (0 : Int) < (L : Int) := by omega
    have hMA : moreA C (fresh an) = C.length := if_neg (by rw [hfl]; omega)
    have hME : moreE C (fresh an) = 0 := if_neg (by rw [hfl]; omega)
    have hMX : moreX C (fresh an) = C ++ fresh an := if_neg (by rw [hfl]; omega)
    have HM := Lib.hid (And.intro hMA (And.intro hME hMX))
    have HFL := Lib.hid hfl
    clear hpb hwp hbl hfr hvlt hrd hMA hME hMX hfl
    clear hwn
    go_wp2_with fail
    rw [← HWNE.out]
    have hmore := dmore_any B m n v C (fresh an) (pb + 1) (some ⟨pb, 0, none⟩) L wn HWN.out.mem HX.out (by omega) (by rw [HFL.out]; unfold maxLen; omega) (by have := HWN.out.mem.base; have := HWN.out.mem.blk.lt; omega)
    rw [HFL.out, HM.out.1, HM.out.2.1, HM.out.2.2] at hmore
    refine hmore.mono ?_
    clear hmore
    rintro e w3 ⟨rfl, ⟨v', k1, k2⟩, k3⟩
    have H3 := Lib.hid (HWN.out.more k1 k2 k3)
    clear k1 k2 k3 x1 x2 x3 x4 e0 g0 hm
    have c3_8 : w3.cell? ⟨p, 8, none⟩ = some (.int .i64 nw) := H3.out.act.cell 8
    have f3_8 : w3.frozen? ⟨p, 8, none⟩ = false := H3.out.act.frozen 8
    have c3_9 : w3.cell? ⟨p, 9, none⟩ = some (.int .i64 ii) := H3.out.act.cell 9
    have f3_9 : w3.frozen? ⟨p, 9, none⟩ = false := H3.out.act.frozen 9
    have c3_5 : w3.cell? ⟨p, 5, none⟩ = some (.int .i64 t) := H3.out.act.cell 5
    have f3_5 : w3.frozen? ⟨p, 5, none⟩ = false := H3.out.act.frozen 5
    go_wp2_with fail
    have H4 := Lib.hid ((H3.out.set 8 (.int .i64 (C.length : Int)) (a' := ⟨0, av, 10, b, t, aw, an, (C.length : Int), ii, rd, 0, 0⟩) rfl).set 9 (.int .i64 t) (a' := ⟨0, av, 10, b, t, aw, an, (C.length : Int), t, rd, 0, 0⟩) rfl)
    obtain ⟨w4, hw4⟩ : ∃ w4, w4 = ((w3.setCell ⟨p, 8, none⟩ (.int .i64 (C.length : Int))).setCell ⟨p, 9, none⟩ (.int .i64 t)) := ⟨_, rfl⟩
    rw [← hw4] at H4 ⊢
    clear c3_8 f3_8 c3_9 f3_9 c3_5 f3_5 hw4
    by_cases hq : t = b
    · have hP : pstep ((0 : Nat) : Int) C ⟨0, av, 10, b, t, aw, an, nw, ii, rd, 0, 0⟩ = _ := congrArg (fun k : Nat => (Res.mk 0 0 ⟨0, av, k, b, t, aw, an, (C.length : Int), t, rd, 0, 0⟩ (C ++ fresh an))) (if_pos hq : (if t = b then 13 else 11) = 13)
      have HP := Lib.hid hP
      clear hP
      have g4_9 : w4.cell? ⟨p, 9, none⟩ = some (.int .i64 t) := H4.out.act.cell 9
      have g4_4 : w4.cell? ⟨p, 4, none⟩ = some (.int .i64 b) := H4.out.act.cell 4
      go_wp2_with fail
      go_quiet (fail)
      obtain ⟨w5, hw5⟩ : ∃ w5, w5 = w4.drewN nq := ⟨_, rfl⟩
      have H5 := Lib.hid (H4.out.quiet (w'' := w5) (by rw [hw5]; exact (Only.refl _ w4).drewN nq))
      rw [← hw5]
      clear g4_9 g4_4 hw5
      go_wp2_with fail
      refine (rgoes_any B m d p _ v0 v' on (C ++ fresh an) _ w0 _ H5.out 13).mono ?_
      rintro e w6 ⟨rfl, h9⟩
      have H6 := Lib.hid h9
      clear h9
      go_wp2_with fail
      go_ret3
      rw [HP.out]
      exact ⟨rfl, v', by rw [show cnt _ = 0 from rfl, Int.add_zero]; exact H6.out⟩
    · have hP : pstep ((0 : Nat) : Int) C ⟨0, av, 10, b, t, aw, an, nw, ii, rd, 0, 0⟩ = _ := congrArg (fun k : Nat => (Res.mk 0 0 ⟨0, av, k, b, t, aw, an, (C.length : Int), t, rd, 0, 0⟩ (C ++ fresh an))) (if_neg hq : (if t = b then 13 else 11) = 11)
      have HP := Lib.hid hP
      clear hP
      have g4_9 : w4.cell? ⟨p, 9, none⟩ = some (.int .i64 t) := H4.out.act.cell 9
      have g4_4 : w4.cell? ⟨p, 4, none⟩ = some (.int .i64 b) := H4.out.act.cell 4
      go_wp2_with fail
      go_quiet (fail)
      obtain ⟨w5, hw5⟩ : ∃ w5, w5 = w4.drewN nq := ⟨_, rfl⟩
      have H5 := Lib.hid (H4.out.quiet (w'' := w5) (by rw [hw5]; exact (Only.refl _ w4).drewN nq))
      rw [← hw5]
      clear g4_9 g4_4 hw5
      go_wp2_with fail
      refine (rgoes_any B m d p _ v0 v' on (C ++ fresh an) _ w0 _ H5.out 11).mono ?_
      rintro e w6 ⟨rfl, h9⟩
      have H6 := Lib.hid h9
      clear h9
      go_wp2_with fail
      go_ret3
      rw [HP.out]
      exact ⟨rfl, v', by rw [show cnt _ = 0 from rfl, Int.add_zero]; exact H6.out⟩
set_option maxRecDepth 100000 in
set_option maxHeartbeats 8000000 in
theorem rpush11 (B m d p : Nat) (n : Int) (v0 v on : Value) (C : List Int) (a : PAct) (w0 w : World) (h : RStp w0 w B m d p n v0 v on C a) (hn : n + 3 ≤ 4611686018427387904) (hS : Safe 0 C a) (hk : a.kind = 0) (h0 : a.told = 0) (g0 : a.got = 0) (hi : a.kind = 1 → a.at_ ≤ 7 → a.i = 0) (hv : a.at_ = 11) :
    Calls Try.prog 32 #[.pointer (some ⟨p, 0, none⟩)] w fun e w' => e = .returned (.tuple #[.int .u8 ((pstep (0 : Nat) C a).what : Int), .int .i64 (pstep (0 : Nat) C a).val, .int .i64 0]) ∧ ∃ v', RStp w0 w' B m d p (n + cnt a) v0 v' on (pstep (0 : Nat) C a).C (pstep (0 : Nat) C a).a := by
  obtain ⟨kind, av, at', b, t, aw, an, nw, ii, rd, told, got⟩ := a
  simp only at hk h0 g0 hv hi
  subst hk h0 g0
  obtain ⟨⟨s1, s2, s3⟩, s4⟩ := hS
  simp only [bd, pok] at s3 s4
  have sz0 : (2 : Int) < C.length := by omega
  have c0 : w.cell? ⟨p, 0, none⟩ = some (.pointer (some ⟨d, 0, none⟩)) := h.act.cell 0
  have d1 : w.cell? ⟨d, 1, none⟩ = some (.int .i64 0) := h.dq.cell 1
  go_enter Try.func32, Try.ntmps32
  go_wp2_with fail
  go_quiet (fail)
  obtain ⟨wq, hwq⟩ : ∃ wq, wq = w.drewN nq := ⟨_, rfl⟩
  have HQ := Lib.hid (h.quiet (w'' := wq) (by rw [hwq]; exact (Only.refl _ w).drewN nq))
  rw [← hwq]
  clear h c0 d1 hwq
  rcases hv with rfl
  · have cq3 : wq.cell? ⟨p, 3, none⟩ = some (.int .i64 11) := HQ.out.act.cell 3
    replace s4 : 0 ≤ ii ∧ ii ≤ 1000000 ∧ 1 ≤ an ∧ an ≤ 400000 ∧ (0 : Int) + 2 < aw ∧ aw ≤ 1000000 ∧ aw + an < C.length := s4
    have hpb := place_bd (w := aw) (n := an) (i := ii) (by omega)
    go_wp2_with fail
    obtain ⟨W1, hW1⟩ : ∃ W1, W1 = wq.drew := ⟨_, rfl⟩
    have HW1 := Lib.hid hW1
    have HX1 : Hid (RStp w0 W1 B m d p (_) v0 v on C ⟨0, av, 11, b, t, aw, an, nw, ii, rd, 0, 0⟩) := Lib.hid (by rw [hW1]; exact HQ.out.drew)
    clear hW1
    have HC1 : Hid (∀ b1 b2 y, RX (fun y => RStp w0 y B m d p (n) v0 v on C ⟨0, av, 11, b, t, aw, an, nw, ii, rd, 0, 0⟩) (fun y => RStp w0 y B m d p (n + 1) v0 v on C ⟨0, av, 11, b, t, aw, an, nw, ii, rd, 0, 0⟩) (fun y => RStp w0 y B m d p (n + 1) v0 v on C ⟨0, av, 11, b, t, aw, an, nw, ii, (ld C (place aw an ii)), 0, 0⟩) b1 b2 y → y.cell? ⟨p, 6, none⟩ = some (.int .i64 aw) ∧ y.cell? ⟨p, 7, none⟩ = some (.int .i64 an) ∧ y.cell? ⟨p, 9, none⟩ = some (.int .i64 ii) ∧ y.cell? ⟨p, 0, none⟩ = some (.pointer (some ⟨d, 0, none⟩)) ∧ y.cell? ⟨d, 0, none⟩ = some (.pointer (some ⟨m, 0, none⟩))) := Lib.hid (fun b1 b2 y h => by
      rcases h.or with h | h | h
      · exact ⟨h.act.cell 6, h.act.cell 7, h.act.cell 9, h.act.cell 0, h.dq.cell 0⟩
      · exact ⟨h.act.cell 6, h.act.cell 7, h.act.cell 9, h.act.cell 0, h.dq.cell 0⟩
      · exact ⟨h.act.cell 6, h.act.cell 7, h.act.cell 9, h.act.cell 0, h.dq.cell 0⟩)
    refine wp_region_st (by kernel_rfl) (fun dn y => RX (fun y => RStp w0 y B m d p (n) v0 v on C ⟨0, av, 11, b, t, aw, an, nw, ii, rd, 0, 0⟩) (fun y => RStp w0 y B m d p (n + 1) v0 v on C ⟨0, av, 11, b, t, aw, an, nw, ii, rd, 0, 0⟩) (fun y => RStp w0 y B m d p (n + 1) v0 v on C ⟨0, av, 11, b, t, aw, an, nw, ii, (ld C (place aw an ii)), 0, 0⟩) (dn 15) (dn 18) y) [Is (.pointer (some ⟨p, 0, none⟩)), Is (.pointer (some ⟨p, 0, none⟩)), Is (.pointer (some ⟨p, 0, none⟩)), Is (.pointer (some ⟨p, 0, none⟩)), Is (.pointer (some ⟨p, 6, none⟩)), Is (.int .i64 aw), Is (.pointer (some ⟨p, 0, none⟩)), Is (.pointer (some ⟨p, 0, none⟩)), Is (.pointer (some ⟨p, 7, none⟩)), Is (.int .i64 an), Is (.pointer (some ⟨p, 0, none⟩)), Is (.pointer (some ⟨p, 0, none⟩)), Is (.pointer (some ⟨p, 9, none⟩)), Is (.int .i64 ii), Is (.int .i64 (place aw an ii)), Is (.int .i64 (ld C (place aw an ii))), Is (.pointer (some ⟨p, 0, none⟩)), Is (.pointer (some ⟨p, 10, none⟩)), fun _ _ => True] (by kernel_rfl)
      ⟨is_stab _ _, is_stab _ _, is_stab _ _, is_stab _ _, is_stab _ _, is_stab _ _, is_stab _ _, is_stab _ _, is_stab _ _, is_stab _ _, is_stab _ _, is_stab _ _, is_stab _ _, is_stab _ _, is_stab _ _, is_stab _ _, is_stab _ _, is_stab _ _, (fun _ _ _ _ _ => trivial), trivial⟩ (by rw [← HW1.out]; exact RX.start HX1.out) ⟨?_, ?_, ?_, ?_, ?_, ?_, ?_, ?_, ?_, ?_, ?_, ?_, ?_, ?_, ?_, ?_, ?_, ?_, ?_, trivial⟩ ?_
    · intro dn u w1 hi he hS hp K hK
      refine ord_plain rfl ?_
      simp at hp hK ⊢
      go_simp
      exact hK _ _ hS rfl
    · intro dn u w1 hi he hS hp K hK
      refine ord_plain rfl ?_
      simp at hp hK ⊢
      go_simp
      exact hK _ _ hS rfl
    · intro dn u w1 hi he hS hp K hK
      refine ord_plain rfl ?_
      simp at hp hK ⊢
      go_simp
      exact hK _ _ hS rfl
    · intro dn u w1 hi he hS hp K hK
      refine ord_plain rfl ?_
      simp at hp hK ⊢
      simp only [hp] at hK
      go_simp
      exact hK _ _ hS rfl
    · intro dn u w1 hi he hS hp K hK
      refine ord_plain rfl ?_
      simp at hp hK ⊢
      simp only [hp] at hK
      go_simp
      exact hK _ _ hS rfl
    · intro dn u w1 hi he hS hp K hK
      refine ord_plain rfl ?_
      simp at hp hK ⊢
      simp only [hp] at hK
      have hc := (HC1.out _ _ _ hS).1
      go_simp
      exact hK _ _ hS rfl
    · intro dn u w1 hi he hS hp K hK
      refine ord_plain rfl ?_
      simp at hp hK ⊢
      go_simp
      exact hK _ _ hS rfl
    · intro dn u w1 hi he hS hp K hK
      refine ord_plain rfl ?_
      simp at hp hK ⊢
      simp only [hp] at hK
      go_simp
      exact hK _ _ hS rfl
    · intro dn u w1 hi he hS hp K hK
      refine ord_plain rfl ?_
      simp at hp hK ⊢
      simp only [hp] at hK
      go_simp
      exact hK _ _ hS rfl
    · intro dn u w1 hi he hS hp K hK
      refine ord_plain rfl ?_
      simp at hp hK ⊢
      simp only [hp] at hK
      have hc := (HC1.out _ _ _ hS).2.1
      go_simp
      exact hK _ _ hS rfl
    · intro dn u w1 hi he hS hp K hK
      refine ord_plain rfl ?_
      simp at hp hK ⊢
      go_simp
      exact hK _ _ hS rfl
    · intro dn u w1 hi he hS hp K hK
      refine ord_plain rfl ?_
      simp at hp hK ⊢
      simp only [hp] at hK
      go_simp
      exact hK _ _ hS rfl
    · intro dn u w1 hi he hS hp K hK
      refine ord_plain rfl ?_
      simp at hp hK ⊢
      simp only [hp] at hK
      go_simp
      exact hK _ _ hS rfl
    · intro dn u w1 hi he hS hp K hK
      refine ord_plain rfl ?_
      simp at hp hK ⊢
      simp only [hp] at hK
      have hc := (HC1.out _ _ _ hS).2.2.1
      go_simp
      exact hK _ _ hS rfl
    · intro dn u w1 hi he hS hp K hK
      refine ord_plain rfl ?_
      simp at hp hK ⊢
      simp only [hp] at hK
      go_simp
      refine (rplace_any aw an ii w1 (by omega) (by omega) (by omega) (by omega) (by omega)).mono ?_
      rintro e w2 ⟨rfl, rfl⟩
      exact hK _ _ hS rfl
    · intro dn u w1 hi he hS hp K hK
      refine ord_plain rfl ?_
      simp at hp hK ⊢
      simp only [hp] at hK
      have q0 := (hS.was hi).1
      go_simp
      refine (rload_any B m d p _ v0 v on C _ w0 _ q0 (place aw an ii) (by omega) (by omega) (by omega)).mono ?_
      rintro e w2 ⟨rfl, k1⟩
      exact hK _ _ (hS.put1 hi k1) rfl
    · intro dn u w1 hi he hS hp K hK
      refine ord_plain rfl ?_
      simp at hp hK ⊢
      simp only [hp] at hK
      go_simp
      exact hK _ _ hS rfl
    · intro dn u w1 hi he hS hp K hK
      refine ord_plain rfl ?_
      simp at hp hK ⊢
      simp only [hp] at hK
      go_simp
      exact hK _ _ hS rfl
    · intro dn u w1 hi he hS hp K hK
      refine ord_plain rfl ?_
      simp at hp hK ⊢
      simp only [hp] at hK
      have h1 : dn 15 = true := by simp [edgesDone, Region.binds] at he; simp [he]
      have q1 := hS.mid h1 hi
      have d4 : w1.cell? ⟨p, 10, none⟩ = some (.int .i64 rd) := q1.act.cell 10
      have f4 : w1.frozen? ⟨p, 10, none⟩ = false := q1.act.frozen 10
      go_simp
      exact hK _ (RX.put2 (q1.set 10 _ rfl) h1)
    · intro u w1 dn hld hS hp
      simp at hp ⊢
      have hl := hld 18 (by decide)
      have HQ1 := Lib.hid (hS.got hl)
      obtain ⟨wq1, rfl⟩ : ∃ wq1, wq1 = w1 := ⟨_, rfl⟩
      clear hS
      simp only [hp]
      clear hp
      go_wp2_with fail
      refine (rgoes_any B m d p _ v0 v on C _ w0 _ HQ1.out 12).mono ?_
      rintro e w2 ⟨rfl, h9⟩
      have H2 := Lib.hid h9
      clear h9
      go_wp2_with fail
      go_ret3
      exact ⟨rfl, v, H2.out⟩
set_option maxRecDepth 100000 in
set_option maxHeartbeats 8000000 in
theorem rpush12 (B m d p : Nat) (n : Int) (v0 v on : Value) (C : List Int) (a : PAct) (w0 w : World) (h : RStp w0 w B m d p n v0 v on C a) (hn : n + 3 ≤ 4611686018427387904) (hS : Safe 0 C a) (hk : a.kind = 0) (h0 : a.told = 0) (g0 : a.got = 0) (hi : a.kind = 1 → a.at_ ≤ 7 → a.i = 0) (hv : a.at_ = 12) :
    Calls Try.prog 32 #[.pointer (some ⟨p, 0, none⟩)] w fun e w' => e = .returned (.tuple #[.int .u8 ((pstep (0 : Nat) C a).what : Int), .int .i64 (pstep (0 : Nat) C a).val, .int .i64 0]) ∧ ∃ v', RStp w0 w' B m d p (n + cnt a) v0 v' on (pstep (0 : Nat) C a).C (pstep (0 : Nat) C a).a := by
  obtain ⟨kind, av, at', b, t, aw, an, nw, ii, rd, told, got⟩ := a
  simp only at hk h0 g0 hv hi
  subst hk h0 g0
  obtain ⟨⟨s1, s2, s3⟩, s4⟩ := hS
  simp only [bd, pok] at s3 s4
  have sz0 : (2 : Int) < C.length := by omega
  have c0 : w.cell? ⟨p, 0, none⟩ = some (.pointer (some ⟨d, 0, none⟩)) := h.act.cell 0
  have d1 : w.cell? ⟨d, 1, none⟩ = some (.int .i64 0) := h.dq.cell 1
  go_enter Try.func32, Try.ntmps32
  go_wp2_with fail
  go_quiet (fail)
  obtain ⟨wq, hwq⟩ : ∃ wq, wq = w.drewN nq := ⟨_, rfl⟩
  have HQ := Lib.hid (h.quiet (w'' := wq) (by rw [hwq]; exact (Only.refl _ w).drewN nq))
  rw [← hwq]
  clear h c0 d1 hwq
  rcases hv with rfl
  · have cq3 : wq.cell? ⟨p, 3, none⟩ = some (.int .i64 12) := HQ.out.act.cell 3
    replace s4 : 0 ≤ ii ∧ ii ≤ 1000000 ∧ 1 ≤ (2 * an) ∧ (2 * an) ≤ 400000 ∧ (0 : Int) + 2 < nw ∧ nw ≤ 1000000 ∧ nw + (2 * an) < C.length := s4
    have hwr : IntKind.i64.wrap (2 * an) = 2 * an := IntWalk.i64_in _ (by omega)
    have hpb := place_bd (w := nw) (n := (2 * an)) (i := ii) (by omega)
    go_wp2_with fail
    obtain ⟨W1, hW1⟩ : ∃ W1, W1 = wq.drew := ⟨_, rfl⟩
    have HW1 := Lib.hid hW1
    have HX1 : Hid (RStp w0 W1 B m d p (_) v0 v on C ⟨0, av, 12, b, t, aw, an, nw, ii, rd, 0, 0⟩) := Lib.hid (by rw [hW1]; exact HQ.out.drew)
    clear hW1
    have HC1 : Hid (∀ b1 b2 y, RX (fun y => RStp w0 y B m d p (n) v0 v on C ⟨0, av, 12, b, t, aw, an, nw, ii, rd, 0, 0⟩) (fun y => RStp w0 y B m d p (n + 1) v0 v on (st C (place nw (2 * an) ii) rd) ⟨0, av, 12, b, t, aw, an, nw, ii, rd, 0, 0⟩) (fun _ => False) b1 b2 y → y.cell? ⟨p, 8, none⟩ = some (.int .i64 nw) ∧ y.cell? ⟨p, 7, none⟩ = some (.int .i64 an) ∧ y.cell? ⟨p, 9, none⟩ = some (.int .i64 ii) ∧ y.cell? ⟨p, 10, none⟩ = some (.int .i64 rd) ∧ y.cell? ⟨p, 0, none⟩ = some (.pointer (some ⟨d, 0, none⟩)) ∧ y.cell? ⟨d, 0, none⟩ = some (.pointer (some ⟨m, 0, none⟩))) := Lib.hid (fun b1 b2 y h => by
      rcases h.or with h | h | h
      · exact ⟨h.act.cell 8, h.act.cell 7, h.act.cell 9, h.act.cell 10, h.act.cell 0, h.dq.cell 0⟩
      · exact ⟨h.act.cell 8, h.act.cell 7, h.act.cell 9, h.act.cell 10, h.act.cell 0, h.dq.cell 0⟩
      · exact h.elim)
    refine wp_region_st (by kernel_rfl) (fun dn y => RX (fun y => RStp w0 y B m d p (n) v0 v on C ⟨0, av, 12, b, t, aw, an, nw, ii, rd, 0, 0⟩) (fun y => RStp w0 y B m d p (n + 1) v0 v on (st C (place nw (2 * an) ii) rd) ⟨0, av, 12, b, t, aw, an, nw, ii, rd, 0, 0⟩) (fun _ => False) (dn 19) false y) [Is (.pointer (some ⟨p, 0, none⟩)), Is (.pointer (some ⟨p, 0, none⟩)), Is (.pointer (some ⟨p, 0, none⟩)), Is (.pointer (some ⟨p, 8, none⟩)), Is (.int .i64 nw), Is (.pointer (some ⟨p, 0, none⟩)), Is (.pointer (some ⟨p, 0, none⟩)), Is (.pointer (some ⟨p, 7, none⟩)), Is (.int .i64 an), Is (.int .i64 (2 * an)), Is (.pointer (some ⟨p, 0, none⟩)), Is (.pointer (some ⟨p, 0, none⟩)), Is (.pointer (some ⟨p, 9, none⟩)), Is (.int .i64 ii), Is (.int .i64 (place nw (2 * an) ii)), Is (.pointer (some ⟨p, 0, none⟩)), Is (.pointer (some ⟨p, 0, none⟩)), Is (.pointer (some ⟨p, 10, none⟩)), Is (.int .i64 rd), Is (.tuple #[])] (by kernel_rfl)
      ⟨is_stab _ _, is_stab _ _, is_stab _ _, is_stab _ _, is_stab _ _, is_stab _ _, is_stab _ _, is_stab _ _, is_stab _ _, is_stab _ _, is_stab _ _, is_stab _ _, is_stab _ _, is_stab _ _, is_stab _ _, is_stab _ _, is_stab _ _, is_stab _ _, is_stab _ _, is_stab _ _, trivial⟩ (by rw [← HW1.out]; exact RX.start HX1.out) ⟨?_, ?_, ?_, ?_, ?_, ?_, ?_, ?_, ?_, ?_, ?_, ?_, ?_, ?_, ?_, ?_, ?_, ?_, ?_, ?_, trivial⟩ ?_
    · intro dn u w1 hi he hS hp K hK
      refine ord_plain rfl ?_
      simp at hp hK ⊢
      go_simp
      exact hK _ _ hS rfl
    · intro dn u w1 hi he hS hp K hK
      refine ord_plain rfl ?_
      simp at hp hK ⊢
      go_simp
      exact hK _ _ hS rfl
    · intro dn u w1 hi he hS hp K hK
      refine ord_plain rfl ?_
      simp at hp hK ⊢
      simp only [hp] at hK
      go_simp
      exact hK _ _ hS rfl
    · intro dn u w1 hi he hS hp K hK
      refine ord_plain rfl ?_
      simp at hp hK ⊢
      simp only [hp] at hK
      go_simp
      exact hK _ _ hS rfl
    · intro dn u w1 hi he hS hp K hK
      refine ord_plain rfl ?_
      simp at hp hK ⊢
      simp only [hp] at hK
      have hc := (HC1.out _ _ _ hS).1
      go_simp
      exact hK _ _ hS rfl
    · intro dn u w1 hi he hS hp K hK
      refine ord_plain rfl ?_
      simp at hp hK ⊢
      go_simp
      exact hK _ _ hS rfl
    · intro dn u w1 hi he hS hp K hK
      refine ord_plain rfl ?_
      simp at hp hK ⊢
      simp only [hp] at hK
      go_simp
      exact hK _ _ hS rfl
    · intro dn u w1 hi he hS hp K hK
      refine ord_plain rfl ?_
      simp at hp hK ⊢
      simp only [hp] at hK
      go_simp
      exact hK _ _ hS rfl
    · intro dn u w1 hi he hS hp K hK
      refine ord_plain rfl ?_
      simp at hp hK ⊢
      simp only [hp] at hK
      have hc := (HC1.out _ _ _ hS).2.1
      go_simp
      exact hK _ _ hS rfl
    · intro dn u w1 hi he hS hp K hK
      refine ord_plain rfl ?_
      simp at hp hK ⊢
      simp only [hp] at hK
      go_simp
      exact hK _ _ hS rfl
    · intro dn u w1 hi he hS hp K hK
      refine ord_plain rfl ?_
      simp at hp hK ⊢
      go_simp
      exact hK _ _ hS rfl
    · intro dn u w1 hi he hS hp K hK
      refine ord_plain rfl ?_
      simp at hp hK ⊢
      simp only [hp] at hK
      go_simp
      exact hK _ _ hS rfl
    · intro dn u w1 hi he hS hp K hK
      refine ord_plain rfl ?_
      simp at hp hK ⊢
      simp only [hp] at hK
      go_simp
      exact hK _ _ hS rfl
    · intro dn u w1 hi he hS hp K hK
      refine ord_plain rfl ?_
      simp at hp hK ⊢
      simp only [hp] at hK
      have hc := (HC1.out _ _ _ hS).2.2.1
      go_simp
      exact hK _ _ hS rfl
    · intro dn u w1 hi he hS hp K hK
      refine ord_plain rfl ?_
      simp at hp hK ⊢
      simp only [hp] at hK
      go_simp
      refine (rplace_any nw (2 * an) ii w1 (by omega) (by omega) (by omega) (by omega) (by omega)).mono ?_
      rintro e w2 ⟨rfl, rfl⟩
      exact hK _ _ hS rfl
    · intro dn u w1 hi he hS hp K hK
      refine ord_plain rfl ?_
      simp at hp hK ⊢
      go_simp
      exact hK _ _ hS rfl
    · intro dn u w1 hi he hS hp K hK
      refine ord_plain rfl ?_
      simp at hp hK ⊢
      simp only [hp] at hK
      go_simp
      exact hK _ _ hS rfl
    · intro dn u w1 hi he hS hp K hK
      refine ord_plain rfl ?_
      simp at hp hK ⊢
      simp only [hp] at hK
      go_simp
      exact hK _ _ hS rfl
    · intro dn u w1 hi he hS hp K hK
      refine ord_plain rfl ?_
      simp at hp hK ⊢
      simp only [hp] at hK
      have hc := (HC1.out _ _ _ hS).2.2.2.1
      go_simp
      exact hK _ _ hS rfl
    · intro dn u w1 hi he hS hp K hK
      refine ord_plain rfl ?_
      simp at hp hK ⊢
      simp only [hp] at hK
      have q0 := (hS.was hi).1
      go_simp
      refine (rstore_any B m d p _ v0 v on C _ w0 _ q0 (place nw (2 * an) ii) rd (by omega) (by omega) (by omega)).mono ?_
      rintro e w2 ⟨rfl, k1⟩
      exact hK _ _ (hS.put1 hi k1) rfl
    · intro u w1 dn hld hS hp
      simp at hp ⊢
      have hl := hld 19 (by decide)
      have HQ1 := Lib.hid (hS.mid hl rfl)
      obtain ⟨wq1, rfl⟩ : ∃ wq1, wq1 = w1 := ⟨_, rfl⟩
      clear hS
      simp only [hp]
      clear hp
      have c1_9 : wq1.cell? ⟨p, 9, none⟩ = some (.int .i64 ii) := HQ1.out.act.cell 9
      have f1_9 : wq1.frozen? ⟨p, 9, none⟩ = false := HQ1.out.act.frozen 9
      go_wp2_with fail
      have H2 := Lib.hid (HQ1.out.set 9 (.int .i64 (ii + 1)) (a' := ⟨0, av, 12, b, t, aw, an, nw, (ii + 1), rd, 0, 0⟩) rfl)
      obtain ⟨w2, hw2⟩ : ∃ w2, w2 = wq1.setCell ⟨p, 9, none⟩ (.int .i64 (ii + 1)) := ⟨_, rfl⟩
      rw [← hw2] at H2 ⊢
      clear c1_9 f1_9 hw2
      by_cases hq : ii + 1 = b
      · have hP : pstep ((0 : Nat) : Int) C ⟨0, av, 12, b, t, aw, an, nw, ii, rd, 0, 0⟩ = _ := congrArg (fun k : Nat => (Res.mk 0 0 ⟨0, av, k, b, t, aw, an, nw, (ii + 1), rd, 0, 0⟩ (st C (place nw (2 * an) ii) rd))) (if_pos hq : (if ii + 1 = b then 13 else 11) = 13)
        have HP := Lib.hid hP
        clear hP
        have g2_9 : w2.cell? ⟨p, 9, none⟩ = some (.int .i64 (ii + 1)) := H2.out.act.cell 9
        have g2_4 : w2.cell? ⟨p, 4, none⟩ = some (.int .i64 b) := H2.out.act.cell 4
        go_wp2_with fail
        go_quiet (fail)
        obtain ⟨w3, hw3⟩ : ∃ w3, w3 = w2.drewN nq := ⟨_, rfl⟩
        have H3 := Lib.hid (H2.out.quiet (w'' := w3) (by rw [hw3]; exact (Only.refl _ w2).drewN nq))
        rw [← hw3]
        clear g2_9 g2_4 hw3
        go_wp2_with fail
        refine (rgoes_any B m d p _ v0 v on (st C (place nw (2 * an) ii) rd) _ w0 _ H3.out 13).mono ?_
        rintro e w4 ⟨rfl, h9⟩
        have H4 := Lib.hid h9
        clear h9
        go_wp2_with fail
        go_ret3
        rw [HP.out]
        exact ⟨rfl, v, H4.out⟩
      · have hP : pstep ((0 : Nat) : Int) C ⟨0, av, 12, b, t, aw, an, nw, ii, rd, 0, 0⟩ = _ := congrArg (fun k : Nat => (Res.mk 0 0 ⟨0, av, k, b, t, aw, an, nw, (ii + 1), rd, 0, 0⟩ (st C (place nw (2 * an) ii) rd))) (if_neg hq : (if ii + 1 = b then 13 else 11) = 11)
        have HP := Lib.hid hP
        clear hP
        have g2_9 : w2.cell? ⟨p, 9, none⟩ = some (.int .i64 (ii + 1)) := H2.out.act.cell 9
        have g2_4 : w2.cell? ⟨p, 4, none⟩ = some (.int .i64 b) := H2.out.act.cell 4
        go_wp2_with fail
        go_quiet (fail)
        obtain ⟨w3, hw3⟩ : ∃ w3, w3 = w2.drewN nq := ⟨_, rfl⟩
        have H3 := Lib.hid (H2.out.quiet (w'' := w3) (by rw [hw3]; exact (Only.refl _ w2).drewN nq))
        rw [← hw3]
        clear g2_9 g2_4 hw3
        go_wp2_with fail
        refine (rgoes_any B m d p _ v0 v on (st C (place nw (2 * an) ii) rd) _ w0 _ H3.out 11).mono ?_
        rintro e w4 ⟨rfl, h9⟩
        have H4 := Lib.hid h9
        clear h9
        go_wp2_with fail
        go_ret3
        rw [HP.out]
        exact ⟨rfl, v, H4.out⟩
set_option maxRecDepth 100000 in
set_option maxHeartbeats 8000000 in
theorem rpush13 (B m d p : Nat) (n : Int) (v0 v on : Value) (C : List Int) (a : PAct) (w0 w : World) (h : RStp w0 w B m d p n v0 v on C a) (hn : n + 3 ≤ 4611686018427387904) (hS : Safe 0 C a) (hk : a.kind = 0) (h0 : a.told = 0) (g0 : a.got = 0) (hi : a.kind = 1 → a.at_ ≤ 7 → a.i = 0) (hv : a.at_ = 13) :
    Calls Try.prog 32 #[.pointer (some ⟨p, 0, none⟩)] w fun e w' => e = .returned (.tuple #[.int .u8 ((pstep (0 : Nat) C a).what : Int), .int .i64 (pstep (0 : Nat) C a).val, .int .i64 0]) ∧ ∃ v', RStp w0 w' B m d p (n + cnt a) v0 v' on (pstep (0 : Nat) C a).C (pstep (0 : Nat) C a).a := by
  obtain ⟨kind, av, at', b, t, aw, an, nw, ii, rd, told, got⟩ := a
  simp only at hk h0 g0 hv hi
  subst hk h0 g0
  obtain ⟨⟨s1, s2, s3⟩, s4⟩ := hS
  simp only [bd, pok] at s3 s4
  have sz0 : (2 : Int) < C.length := by omega
  have c0 : w.cell? ⟨p, 0, none⟩ = some (.pointer (some ⟨d, 0, none⟩)) := h.act.cell 0
  have d1 : w.cell? ⟨d, 1, none⟩ = some (.int .i64 0) := h.dq.cell 1
  go_enter Try.func32, Try.ntmps32
  go_wp2_with fail
  go_quiet (fail)
  obtain ⟨wq, hwq⟩ : ∃ wq, wq = w.drewN nq := ⟨_, rfl⟩
  have HQ := Lib.hid (h.quiet (w'' := wq) (by rw [hwq]; exact (Only.refl _ w).drewN nq))
  rw [← hwq]
  clear h c0 d1 hwq
  rcases hv with rfl
  · have cq3 : wq.cell? ⟨p, 3, none⟩ = some (.int .i64 13) := HQ.out.act.cell 3
    replace s4 : 1 ≤ an ∧ an ≤ 400000 := s4
    have hwr : IntKind.i64.wrap (2 * an) = 2 * an := IntWalk.i64_in _ (by omega)
    have g0_8 : wq.cell? ⟨p, 8, none⟩ = some (.int .i64 nw) := HQ.out.act.cell 8
    go_wp2_with fail
    refine (rstore_any B m d p _ v0 v on C _ w0 _ HQ.out _ _ (by omega) (by omega) (by omega)).mono ?_
    rintro e w1 ⟨rfl, h9⟩
    have H1 := Lib.hid h9
    clear h9
    have c1_6 : w1.cell? ⟨p, 6, none⟩ = some (.int .i64 aw) := H1.out.act.cell 6
    have f1_6 : w1.frozen? ⟨p, 6, none⟩ = false := H1.out.act.frozen 6
    have c1_7 : w1.cell? ⟨p, 7, none⟩ = some (.int .i64 an) := H1.out.act.cell 7
    have f1_7 : w1.frozen? ⟨p, 7, none⟩ = false := H1.out.act.frozen 7
    have c1_8 : w1.cell? ⟨p, 8, none⟩ = some (.int .i64 nw) := H1.out.act.cell 8
    have f1_8 : w1.frozen? ⟨p, 8, none⟩ = false := H1.out.act.frozen 8
    go_wp2_with fail
    have H2 := Lib.hid ((H1.out.set 6 (.int .i64 nw) (a' := ⟨0, av, 13, b, t, nw, an, nw, ii, rd, 0, 0⟩) rfl).set 7 (.int .i64 (2 * an)) (a' := ⟨0, av, 13, b, t, nw, (2 * an), nw, ii, rd, 0, 0⟩) rfl)
    obtain ⟨w2, hw2⟩ : ∃ w2, w2 = ((w1.setCell ⟨p, 6, none⟩ (.int .i64 nw)).setCell ⟨p, 7, none⟩ (.int .i64 (2 * an))) := ⟨_, rfl⟩
    rw [← hw2] at H2 ⊢
    clear c1_6 f1_6 c1_7 f1_7 c1_8 f1_8 hw2
    go_wp2_with fail
    refine (rgoes_any B m d p _ v0 v on (st C 2 nw) _ w0 _ H2.out 20).mono ?_
    rintro e w3 ⟨rfl, h9⟩
    have H3 := Lib.hid h9
    clear h9
    go_wp2_with fail
    go_ret3
    exact ⟨rfl, v, H3.out⟩
set_option maxRecDepth 100000 in
set_option maxHeartbeats 8000000 in
theorem rpush20 (B m d p : Nat) (n : Int) (v0 v on : Value) (C : List Int) (a : PAct) (w0 w : World) (h : RStp w0 w B m d p n v0 v on C a) (hn : n + 3 ≤ 4611686018427387904) (hS : Safe 0 C a) (hk : a.kind = 0) (h0 : a.told = 0) (g0 : a.got = 0) (hi : a.kind = 1 → a.at_ ≤ 7 → a.i = 0) (hv : a.at_ = 20) :
    Calls Try.prog 32 #[.pointer (some ⟨p, 0, none⟩)] w fun e w' => e = .returned (.tuple #[.int .u8 ((pstep (0 : Nat) C a).what : Int), .int .i64 (pstep (0 : Nat) C a).val, .int .i64 0]) ∧ ∃ v', RStp w0 w' B m d p (n + cnt a) v0 v' on (pstep (0 : Nat) C a).C (pstep (0 : Nat) C a).a := by
  obtain ⟨kind, av, at', b, t, aw, an, nw, ii, rd, told, got⟩ := a
  simp only at hk h0 g0 hv hi
  subst hk h0 g0
  obtain ⟨⟨s1, s2, s3⟩, s4⟩ := hS
  simp only [bd, pok] at s3 s4
  have sz0 : (2 : Int) < C.length := by omega
  have c0 : w.cell? ⟨p, 0, none⟩ = some (.pointer (some ⟨d, 0, none⟩)) := h.act.cell 0
  have d1 : w.cell? ⟨d, 1, none⟩ = some (.int .i64 0) := h.dq.cell 1
  go_enter Try.func32, Try.ntmps32
  go_wp2_with fail
  go_quiet (fail)
  obtain ⟨wq, hwq⟩ : ∃ wq, wq = w.drewN nq := ⟨_, rfl⟩
  have HQ := Lib.hid (h.quiet (w'' := wq) (by rw [hwq]; exact (Only.refl _ w).drewN nq))
  rw [← hwq]
  clear h c0 d1 hwq
  rcases hv with rfl
  · have cq3 : wq.cell? ⟨p, 3, none⟩ = some (.int .i64 20) := HQ.out.act.cell 3
    replace s4 : 0 ≤ b ∧ b ≤ 1000000 ∧ 1 ≤ an ∧ an ≤ 400000 ∧ (0 : Int) + 2 < aw ∧ aw ≤ 1000000 ∧ aw + an < C.length := s4
    have hpb := place_bd (w := aw) (n := an) (i := b) (by omega)
    go_wp2_with fail
    obtain ⟨W1, hW1⟩ : ∃ W1, W1 = wq.drew := ⟨_, rfl⟩
    have HW1 := Lib.hid hW1
    have HX1 : Hid (RStp w0 W1 B m d p (_) v0 v on C ⟨0, av, 20, b, t, aw, an, nw, ii, rd, 0, 0⟩) := Lib.hid (by rw [hW1]; exact HQ.out.drew)
    clear hW1
    have HC1 : Hid (∀ b1 b2 y, RX (fun y => RStp w0 y B m d p (n) v0 v on C ⟨0, av, 20, b, t, aw, an, nw, ii, rd, 0, 0⟩) (fun y => RStp w0 y B m d p (n + 1) v0 v on (st C (place aw an b) av) ⟨0, av, 20, b, t, aw, an, nw, ii, rd, 0, 0⟩) (fun _ => False) b1 b2 y → y.cell? ⟨p, 6, none⟩ = some (.int .i64 aw) ∧ y.cell? ⟨p, 7, none⟩ = some (.int .i64 an) ∧ y.cell? ⟨p, 4, none⟩ = some (.int .i64 b) ∧ y.cell? ⟨p, 2, none⟩ = some (.int .i64 av) ∧ y.cell? ⟨p, 0, none⟩ = some (.pointer (some ⟨d, 0, none⟩)) ∧ y.cell? ⟨d, 0, none⟩ = some (.pointer (some ⟨m, 0, none⟩))) := Lib.hid (fun b1 b2 y h => by
      rcases h.or with h | h | h
      · exact ⟨h.act.cell 6, h.act.cell 7, h.act.cell 4, h.act.cell 2, h.act.cell 0, h.dq.cell 0⟩
      · exact ⟨h.act.cell 6, h.act.cell 7, h.act.cell 4, h.act.cell 2, h.act.cell 0, h.dq.cell 0⟩
      · exact h.elim)
    refine wp_region_st (by kernel_rfl) (fun dn y => RX (fun y => RStp w0 y B m d p (n) v0 v on C ⟨0, av, 20, b, t, aw, an, nw, ii, rd, 0, 0⟩) (fun y => RStp w0 y B m d p (n + 1) v0 v on (st C (place aw an b) av) ⟨0, av, 20, b, t, aw, an, nw, ii, rd, 0, 0⟩) (fun _ => False) (dn 18) false y) [Is (.pointer (some ⟨p, 0, none⟩)), Is (.pointer (some ⟨p, 0, none⟩)), Is (.pointer (some ⟨p, 0, none⟩)), Is (.pointer (some ⟨p, 6, none⟩)), Is (.int .i64 aw), Is (.pointer (some ⟨p, 0, none⟩)), Is (.pointer (some ⟨p, 0, none⟩)), Is (.pointer (some ⟨p, 7, none⟩)), Is (.int .i64 an), Is (.pointer (some ⟨p, 0, none⟩)), Is (.pointer (some ⟨p, 0, none⟩)), Is (.pointer (some ⟨p, 4, none⟩)), Is (.int .i64 b), Is (.int .i64 (place aw an b)), Is (.pointer (some ⟨p, 0, none⟩)), Is (.pointer (some ⟨p, 0, none⟩)), Is (.pointer (some ⟨p, 2, none⟩)), Is (.int .i64 av), Is (.tuple #[])] (by kernel_rfl)
      ⟨is_stab _ _, is_stab _ _, is_stab _ _, is_stab _ _, is_stab _ _, is_stab _ _, is_stab _ _, is_stab _ _, is_stab _ _, is_stab _ _, is_stab _ _, is_stab _ _, is_stab _ _, is_stab _ _, is_stab _ _, is_stab _ _, is_stab _ _, is_stab _ _, is_stab _ _, trivial⟩ (by rw [← HW1.out]; exact RX.start HX1.out) ⟨?_, ?_, ?_, ?_, ?_, ?_, ?_, ?_, ?_, ?_, ?_, ?_, ?_, ?_, ?_, ?_, ?_, ?_, ?_, trivial⟩ ?_
    · intro dn u w1 hi he hS hp K hK
      refine ord_plain rfl ?_
      simp at hp hK ⊢
      go_simp
      exact hK _ _ hS rfl
    · intro dn u w1 hi he hS hp K hK
      refine ord_plain rfl ?_
      simp at hp hK ⊢
      go_simp
      exact hK _ _ hS rfl
    · intro dn u w1 hi he hS hp K hK
      refine ord_plain rfl ?_
      simp at hp hK ⊢
      simp only [hp] at hK
      go_simp
      exact hK _ _ hS rfl
    · intro dn u w1 hi he hS hp K hK
      refine ord_plain rfl ?_
      simp at hp hK ⊢
      simp only [hp] at hK
      go_simp
      exact hK _ _ hS rfl
    · intro dn u w1 hi he hS hp K hK
      refine ord_plain rfl ?_
      simp at hp hK ⊢
      simp only [hp] at hK
      have hc := (HC1.out _ _ _ hS).1
      go_simp
      exact hK _ _ hS rfl
    · intro dn u w1 hi he hS hp K hK
      refine ord_plain rfl ?_
      simp at hp hK ⊢
      go_simp
      exact hK _ _ hS rfl
    · intro dn u w1 hi he hS hp K hK
      refine ord_plain rfl ?_
      simp at hp hK ⊢
      simp only [hp] at hK
      go_simp
      exact hK _ _ hS rfl
    · intro dn u w1 hi he hS hp K hK
      refine ord_plain rfl ?_
      simp at hp hK ⊢
      simp only [hp] at hK
      go_simp
      exact hK _ _ hS rfl
    · intro dn u w1 hi he hS hp K hK
      refine ord_plain rfl ?_
      simp at hp hK ⊢
      simp only [hp] at hK
      have hc := (HC1.out _ _ _ hS).2.1
      go_simp
      exact hK _ _ hS rfl
    · intro dn u w1 hi he hS hp K hK
      refine ord_plain rfl ?_
      simp at hp hK ⊢
      go_simp
      exact hK _ _ hS rfl
    · intro dn u w1 hi he hS hp K hK
      refine ord_plain rfl ?_
      simp at hp hK ⊢
      simp only [hp] at hK
      go_simp
      exact hK _ _ hS rfl
    · intro dn u w1 hi he hS hp K hK
      refine ord_plain rfl ?_
      simp at hp hK ⊢
      simp only [hp] at hK
      go_simp
      exact hK _ _ hS rfl
    · intro dn u w1 hi he hS hp K hK
      refine ord_plain rfl ?_
      simp at hp hK ⊢
      simp only [hp] at hK
      have hc := (HC1.out _ _ _ hS).2.2.1
      go_simp
      exact hK _ _ hS rfl
    · intro dn u w1 hi he hS hp K hK
      refine ord_plain rfl ?_
      simp at hp hK ⊢
      simp only [hp] at hK
      go_simp
      refine (rplace_any aw an b w1 (by omega) (by omega) (by omega) (by omega) (by omega)).mono ?_
      rintro e w2 ⟨rfl, rfl⟩
      exact hK _ _ hS rfl
    · intro dn u w1 hi he hS hp K hK
      refine ord_plain rfl ?_
      simp at hp hK ⊢
      go_simp
      exact hK _ _ hS rfl
    · intro dn u w1 hi he hS hp K hK
      refine ord_plain rfl ?_
      simp at hp hK ⊢
      simp only [hp] at hK
      go_simp
      exact hK _ _ hS rfl
    · intro dn u w1 hi he hS hp K hK
      refine ord_plain rfl ?_
      simp at hp hK ⊢
      simp only [hp] at hK
      go_simp
      exact hK _ _ hS rfl
    · intro dn u w1 hi he hS hp K hK
      refine ord_plain rfl ?_
      simp at hp hK ⊢
      simp only [hp] at hK
      have hc := (HC1.out _ _ _ hS).2.2.2.1
      go_simp
      exact hK _ _ hS rfl
    · intro dn u w1 hi he hS hp K hK
      refine ord_plain rfl ?_
      simp at hp hK ⊢
      simp only [hp] at hK
      have q0 := (hS.was hi).1
      go_simp
      refine (rstore_any B m d p _ v0 v on C _ w0 _ q0 (place aw an b) av (by omega) (by omega) (by omega)).mono ?_
      rintro e w2 ⟨rfl, k1⟩
      exact hK _ _ (hS.put1 hi k1) rfl
    · intro u w1 dn hld hS hp
      simp at hp ⊢
      have hl := hld 18 (by decide)
      have HQ1 := Lib.hid (hS.mid hl rfl)
      obtain ⟨wq1, rfl⟩ : ∃ wq1, wq1 = w1 := ⟨_, rfl⟩
      clear hS
      simp only [hp]
      clear hp
      go_wp2_with fail
      refine (rgoes_any B m d p _ v0 v on (st C (place aw an b) av) _ w0 _ HQ1.out 21).mono ?_
      rintro e w2 ⟨rfl, h9⟩
      have H2 := Lib.hid h9
      clear h9
      go_wp2_with fail
      go_ret3
      exact ⟨rfl, v, H2.out⟩
set_option maxRecDepth 100000 in
set_option maxHeartbeats 8000000 in
theorem rpush21 (B m d p : Nat) (n : Int) (v0 v on : Value) (C : List Int) (a : PAct) (w0 w : World) (h : RStp w0 w B m d p n v0 v on C a) (hn : n + 3 ≤ 4611686018427387904) (hS : Safe 0 C a) (hk : a.kind = 0) (h0 : a.told = 0) (g0 : a.got = 0) (hi : a.kind = 1 → a.at_ ≤ 7 → a.i = 0) (hv : a.at_ = 21) :
    Calls Try.prog 32 #[.pointer (some ⟨p, 0, none⟩)] w fun e w' => e = .returned (.tuple #[.int .u8 ((pstep (0 : Nat) C a).what : Int), .int .i64 (pstep (0 : Nat) C a).val, .int .i64 0]) ∧ ∃ v', RStp w0 w' B m d p (n + cnt a) v0 v' on (pstep (0 : Nat) C a).C (pstep (0 : Nat) C a).a := by
  obtain ⟨kind, av, at', b, t, aw, an, nw, ii, rd, told, got⟩ := a
  simp only at hk h0 g0 hv hi
  subst hk h0 g0
  obtain ⟨⟨s1, s2, s3⟩, s4⟩ := hS
  simp only [bd, pok] at s3 s4
  have sz0 : (2 : Int) < C.length := by omega
  have c0 : w.cell? ⟨p, 0, none⟩ = some (.pointer (some ⟨d, 0, none⟩)) := h.act.cell 0
  have d1 : w.cell? ⟨d, 1, none⟩ = some (.int .i64 0) := h.dq.cell 1
  go_enter Try.func32, Try.ntmps32
  go_wp2_with fail
  go_quiet (fail)
  obtain ⟨wq, hwq⟩ : ∃ wq, wq = w.drewN nq := ⟨_, rfl⟩
  have HQ := Lib.hid (h.quiet (w'' := wq) (by rw [hwq]; exact (Only.refl _ w).drewN nq))
  rw [← hwq]
  clear h c0 d1 hwq
  rcases hv with rfl
  · have cq3 : wq.cell? ⟨p, 3, none⟩ = some (.int .i64 21) := HQ.out.act.cell 3
    replace s4 : -1000000 ≤ b ∧ b ≤ 1000000 := s4
    have g0_4 : wq.cell? ⟨p, 4, none⟩ = some (.int .i64 b) := HQ.out.act.cell 4
    go_wp2_with fail
    refine (rstore_any B m d p _ v0 v on C _ w0 _ HQ.out _ _ (by omega) (by omega) (by omega)).mono ?_
    rintro e w1 ⟨rfl, h9⟩
    have H1 := Lib.hid h9
    clear h9
    go_wp2_with fail
    refine (rover_any B m d p _ v0 v on (st C 1 (b + 1)) _ w0 _ H1.out 1 0).mono ?_
    rintro e w2 ⟨rfl, h9⟩
    have H2 := Lib.hid h9
    clear h9
    go_wp2_with fail
    go_ret3
    exact ⟨rfl, v, H2.out⟩
set_option maxRecDepth 100000 in
set_option maxHeartbeats 8000000 in
theorem rpush_any (B m d p : Nat) (n : Int) (v0 v on : Value) (C : List Int) (a : PAct) (w0 w : World) (h : RStp w0 w B m d p n v0 v on C a) (hn : n + 3 ≤ 4611686018427387904) (hS : Safe 0 C a) (hk : a.kind = 0) (h0 : a.told = 0) (g0 : a.got = 0) (hi : a.kind = 1 → a.at_ ≤ 7 → a.i = 0) (hv : a.at_ = 0 ∨ a.at_ = 1 ∨ a.at_ = 2 ∨ a.at_ = 3 ∨ a.at_ = 10 ∨ a.at_ = 11 ∨ a.at_ = 12 ∨ a.at_ = 13 ∨ a.at_ = 20 ∨ a.at_ = 21) :
    Calls Try.prog 32 #[.pointer (some ⟨p, 0, none⟩)] w fun e w' => e = .returned (.tuple #[.int .u8 ((pstep (0 : Nat) C a).what : Int), .int .i64 (pstep (0 : Nat) C a).val, .int .i64 0]) ∧ ∃ v', RStp w0 w' B m d p (n + cnt a) v0 v' on (pstep (0 : Nat) C a).C (pstep (0 : Nat) C a).a := by
  rcases hv with hv | hv | hv | hv | hv | hv | hv | hv | hv | hv
  · exact rpush0 B m d p n v0 v on C a w0 w h hn hS hk h0 g0 hi hv
  · exact rpush1 B m d p n v0 v on C a w0 w h hn hS hk h0 g0 hi hv
  · exact rpush2 B m d p n v0 v on C a w0 w h hn hS hk h0 g0 hi hv
  · exact rpush3 B m d p n v0 v on C a w0 w h hn hS hk h0 g0 hi hv
  · exact rpush10 B m d p n v0 v on C a w0 w h hn hS hk h0 g0 hi hv
  · exact rpush11 B m d p n v0 v on C a w0 w h hn hS hk h0 g0 hi hv
  · exact rpush12 B m d p n v0 v on C a w0 w h hn hS hk h0 g0 hi hv
  · exact rpush13 B m d p n v0 v on C a w0 w h hn hS hk h0 g0 hi hv
  · exact rpush20 B m d p n v0 v on C a w0 w h hn hS hk h0 g0 hi hv
  · exact rpush21 B m d p n v0 v on C a w0 w h hn hS hk h0 g0 hi hv
end Go.Proofs.Ytmghlhngdopifaa
