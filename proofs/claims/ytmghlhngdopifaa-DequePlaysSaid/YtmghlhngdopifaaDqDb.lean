/- The document's deques: pop. -/
import Derived.Test.YtmghlhngdopifaaDqD
namespace Go.Proofs.Ytmghlhngdopifaa
open Go.RowKit
set_option linter.unusedVariables false
attribute [local simp] frOf dstsOf frGo predsHold allHold Region.binds slotOf seen Is Act.put
set_option maxRecDepth 100000 in
set_option maxHeartbeats 8000000 in
theorem rpop0 (B m d p : Nat) (n : Int) (v0 v on : Value) (C : List Int) (a : PAct) (w0 w : World) (h : RStp w0 w B m d p n v0 v on C a) (hn : n + 3 ≤ 4611686018427387904) (hS : Safe 0 C a) (hk : a.kind = 1) (h0 : a.told = 0) (g0 : a.got = 0) (hi : a.kind = 1 → a.at_ ≤ 7 → a.i = 0) (hv : a.at_ = 0) :
    Calls Try.prog 33 #[.pointer (some ⟨p, 0, none⟩)] w fun e w' => e = .returned (.tuple #[.int .u8 ((pstep (0 : Nat) C a).what : Int), .int .i64 (pstep (0 : Nat) C a).val, .int .i64 0]) ∧ ∃ v', RStp w0 w' B m d p (n + cnt a) v0 v' on (pstep (0 : Nat) C a).C (pstep (0 : Nat) C a).a := by
  obtain ⟨kind, av, at', b, t, aw, an, nw, ii, rd, told, got⟩ := a
  simp only at hk h0 g0 hv hi
  subst hk h0 g0
  obtain ⟨⟨s1, s2, s3⟩, s4⟩ := hS
  simp only [bd, pok] at s3 s4
  have sz0 : (2 : Int) < C.length := by omega
  have c0 : w.cell? ⟨p, 0, none⟩ = some (.pointer (some ⟨d, 0, none⟩)) := h.act.cell 0
  have d1 : w.cell? ⟨d, 1, none⟩ = some (.int .i64 0) := h.dq.cell 1
  go_enter Try.func33, Try.ntmps33
  go_wp2_with fail
  go_quiet (fail)
  obtain ⟨wq, hwq⟩ : ∃ wq, wq = w.drewN nq := ⟨_, rfl⟩
  have HQ := Lib.hid (h.quiet (w'' := wq) (by rw [hwq]; exact (Only.refl _ w).drewN nq))
  rw [← hwq]
  clear h c0 d1 hwq
  rcases hv with rfl
  · have cq3 : wq.cell? ⟨p, 3, none⟩ = some (.int .i64 0) := HQ.out.act.cell 3
    obtain rfl : ii = 0 := hi (by trivial) (by omega)
    replace s3 : -1000000 ≤ ld C 1 ∧ ld C 1 ≤ 1000000 := s3
    go_wp2_with fail
    refine (rload_any B m d p _ v0 v on C _ w0 _ HQ.out _ (by omega) (by omega) (by omega)).mono ?_
    rintro e w1 ⟨rfl, h9⟩
    have H1 := Lib.hid h9
    clear h9
    have c1_4 : w1.cell? ⟨p, 4, none⟩ = some (.int .i64 b) := H1.out.act.cell 4
    have f1_4 : w1.frozen? ⟨p, 4, none⟩ = false := H1.out.act.frozen 4
    go_wp2_with fail
    have H2 := Lib.hid (H1.out.set 4 (.int .i64 (ld C 1 - 1)) (a' := ⟨1, av, 0, (ld C 1 - 1), t, aw, an, nw, 0, rd, 0, 0⟩) rfl)
    obtain ⟨w2, hw2⟩ : ∃ w2, w2 = w1.setCell ⟨p, 4, none⟩ (.int .i64 (ld C 1 - 1)) := ⟨_, rfl⟩
    rw [← hw2] at H2 ⊢
    clear c1_4 f1_4 hw2
    go_wp2_with fail
    refine (rgoes_any B m d p _ v0 v on C _ w0 _ H2.out 1).mono ?_
    rintro e w3 ⟨rfl, h9⟩
    have H3 := Lib.hid h9
    clear h9
    go_wp2_with fail
    go_ret3
    exact ⟨rfl, v, H3.out⟩
set_option maxRecDepth 100000 in
set_option maxHeartbeats 8000000 in
theorem rpop1 (B m d p : Nat) (n : Int) (v0 v on : Value) (C : List Int) (a : PAct) (w0 w : World) (h : RStp w0 w B m d p n v0 v on C a) (hn : n + 3 ≤ 4611686018427387904) (hS : Safe 0 C a) (hk : a.kind = 1) (h0 : a.told = 0) (g0 : a.got = 0) (hi : a.kind = 1 → a.at_ ≤ 7 → a.i = 0) (hv : a.at_ = 1) :
    Calls Try.prog 33 #[.pointer (some ⟨p, 0, none⟩)] w fun e w' => e = .returned (.tuple #[.int .u8 ((pstep (0 : Nat) C a).what : Int), .int .i64 (pstep (0 : Nat) C a).val, .int .i64 0]) ∧ ∃ v', RStp w0 w' B m d p (n + cnt a) v0 v' on (pstep (0 : Nat) C a).C (pstep (0 : Nat) C a).a := by
  obtain ⟨kind, av, at', b, t, aw, an, nw, ii, rd, told, got⟩ := a
  simp only at hk h0 g0 hv hi
  subst hk h0 g0
  obtain ⟨⟨s1, s2, s3⟩, s4⟩ := hS
  simp only [bd, pok] at s3 s4
  have sz0 : (2 : Int) < C.length := by omega
  have c0 : w.cell? ⟨p, 0, none⟩ = some (.pointer (some ⟨d, 0, none⟩)) := h.act.cell 0
  have d1 : w.cell? ⟨d, 1, none⟩ = some (.int .i64 0) := h.dq.cell 1
  go_enter Try.func33, Try.ntmps33
  go_wp2_with fail
  go_quiet (fail)
  obtain ⟨wq, hwq⟩ : ∃ wq, wq = w.drewN nq := ⟨_, rfl⟩
  have HQ := Lib.hid (h.quiet (w'' := wq) (by rw [hwq]; exact (Only.refl _ w).drewN nq))
  rw [← hwq]
  clear h c0 d1 hwq
  rcases hv with rfl
  · have cq3 : wq.cell? ⟨p, 3, none⟩ = some (.int .i64 1) := HQ.out.act.cell 3
    obtain rfl : ii = 0 := hi (by trivial) (by omega)
    replace s3 : -1000000 ≤ ld C 1 ∧ ld C 1 ≤ 1000000 := s3
    go_wp2_with fail
    refine (rload_any B m d p _ v0 v on C _ w0 _ HQ.out _ (by omega) (by omega) (by omega)).mono ?_
    rintro e w1 ⟨rfl, h9⟩
    have H1 := Lib.hid h9
    clear h9
    have c1_6 : w1.cell? ⟨p, 6, none⟩ = some (.int .i64 aw) := H1.out.act.cell 6
    have f1_6 : w1.frozen? ⟨p, 6, none⟩ = false := H1.out.act.frozen 6
    go_wp2_with fail
    have H2 := Lib.hid (H1.out.set 6 (.int .i64 (ld C 2)) (a' := ⟨1, av, 1, b, t, (ld C 2), an, nw, 0, rd, 0, 0⟩) rfl)
    obtain ⟨w2, hw2⟩ : ∃ w2, w2 = w1.setCell ⟨p, 6, none⟩ (.int .i64 (ld C 2)) := ⟨_, rfl⟩
    rw [← hw2] at H2 ⊢
    clear c1_6 f1_6 hw2
    go_wp2_with fail
    refine (rgoes_any B m d p _ v0 v on C _ w0 _ H2.out 2).mono ?_
    rintro e w3 ⟨rfl, h9⟩
    have H3 := Lib.hid h9
    clear h9
    go_wp2_with fail
    go_ret3
    exact ⟨rfl, v, H3.out⟩
set_option maxRecDepth 100000 in
set_option maxHeartbeats 8000000 in
theorem rpop2 (B m d p : Nat) (n : Int) (v0 v on : Value) (C : List Int) (a : PAct) (w0 w : World) (h : RStp w0 w B m d p n v0 v on C a) (hn : n + 3 ≤ 4611686018427387904) (hS : Safe 0 C a) (hk : a.kind = 1) (h0 : a.told = 0) (g0 : a.got = 0) (hi : a.kind = 1 → a.at_ ≤ 7 → a.i = 0) (hv : a.at_ = 2) :
    Calls Try.prog 33 #[.pointer (some ⟨p, 0, none⟩)] w fun e w' => e = .returned (.tuple #[.int .u8 ((pstep (0 : Nat) C a).what : Int), .int .i64 (pstep (0 : Nat) C a).val, .int .i64 0]) ∧ ∃ v', RStp w0 w' B m d p (n + cnt a) v0 v' on (pstep (0 : Nat) C a).C (pstep (0 : Nat) C a).a := by
  obtain ⟨kind, av, at', b, t, aw, an, nw, ii, rd, told, got⟩ := a
  simp only at hk h0 g0 hv hi
  subst hk h0 g0
  obtain ⟨⟨s1, s2, s3⟩, s4⟩ := hS
  simp only [bd, pok] at s3 s4
  have sz0 : (2 : Int) < C.length := by omega
  have c0 : w.cell? ⟨p, 0, none⟩ = some (.pointer (some ⟨d, 0, none⟩)) := h.act.cell 0
  have d1 : w.cell? ⟨d, 1, none⟩ = some (.int .i64 0) := h.dq.cell 1
  go_enter Try.func33, Try.ntmps33
  go_wp2_with fail
  go_quiet (fail)
  obtain ⟨wq, hwq⟩ : ∃ wq, wq = w.drewN nq := ⟨_, rfl⟩
  have HQ := Lib.hid (h.quiet (w'' := wq) (by rw [hwq]; exact (Only.refl _ w).drewN nq))
  rw [← hwq]
  clear h c0 d1 hwq
  rcases hv with rfl
  · have cq3 : wq.cell? ⟨p, 3, none⟩ = some (.int .i64 2) := HQ.out.act.cell 3
    obtain rfl : ii = 0 := hi (by trivial) (by omega)
    replace s3 : -1000000 ≤ ld C 1 ∧ ld C 1 ≤ 1000000 := s3
    have g0_4 : wq.cell? ⟨p, 4, none⟩ = some (.int .i64 b) := HQ.out.act.cell 4
    go_wp2_with fail
    refine (rstore_any B m d p _ v0 v on C _ w0 _ HQ.out _ _ (by omega) (by omega) (by omega)).mono ?_
    rintro e w1 ⟨rfl, h9⟩
    have H1 := Lib.hid h9
    clear h9
    go_wp2_with fail
    refine (rgoes_any B m d p _ v0 v on (st C 1 b) _ w0 _ H1.out 3).mono ?_
    rintro e w2 ⟨rfl, h9⟩
    have H2 := Lib.hid h9
    clear h9
    go_wp2_with fail
    go_ret3
    exact ⟨rfl, v, H2.out⟩
set_option maxRecDepth 100000 in
set_option maxHeartbeats 8000000 in
theorem rpop3 (B m d p : Nat) (n : Int) (v0 v on : Value) (C : List Int) (a : PAct) (w0 w : World) (h : RStp w0 w B m d p n v0 v on C a) (hn : n + 3 ≤ 4611686018427387904) (hS : Safe 0 C a) (hk : a.kind = 1) (h0 : a.told = 0) (g0 : a.got = 0) (hi : a.kind = 1 → a.at_ ≤ 7 → a.i = 0) (hv : a.at_ = 3) :
    Calls Try.prog 33 #[.pointer (some ⟨p, 0, none⟩)] w fun e w' => e = .returned (.tuple #[.int .u8 ((pstep (0 : Nat) C a).what : Int), .int .i64 (pstep (0 : Nat) C a).val, .int .i64 0]) ∧ ∃ v', RStp w0 w' B m d p (n + cnt a) v0 v' on (pstep (0 : Nat) C a).C (pstep (0 : Nat) C a).a := by
  obtain ⟨kind, av, at', b, t, aw, an, nw, ii, rd, told, got⟩ := a
  simp only at hk h0 g0 hv hi
  subst hk h0 g0
  obtain ⟨⟨s1, s2, s3⟩, s4⟩ := hS
  simp only [bd, pok] at s3 s4
  have sz0 : (2 : Int) < C.length := by omega
  have c0 : w.cell? ⟨p, 0, none⟩ = some (.pointer (some ⟨d, 0, none⟩)) := h.act.cell 0
  have d1 : w.cell? ⟨d, 1, none⟩ = some (.int .i64 0) := h.dq.cell 1
  go_enter Try.func33, Try.ntmps33
  go_wp2_with fail
  go_quiet (fail)
  obtain ⟨wq, hwq⟩ : ∃ wq, wq = w.drewN nq := ⟨_, rfl⟩
  have HQ := Lib.hid (h.quiet (w'' := wq) (by rw [hwq]; exact (Only.refl _ w).drewN nq))
  rw [← hwq]
  clear h c0 d1 hwq
  rcases hv with rfl
  · have cq3 : wq.cell? ⟨p, 3, none⟩ = some (.int .i64 3) := HQ.out.act.cell 3
    obtain rfl : ii = 0 := hi (by trivial) (by omega)
    replace s4 : -1000000 ≤ b ∧ b ≤ 1000000 := s4
    replace s3 : -1000000 ≤ ld C 1 ∧ ld C 1 ≤ 1000000 := s3
    go_wp2_with fail
    refine (rload_any B m d p _ v0 v on C _ w0 _ HQ.out _ (by omega) (by omega) (by omega)).mono ?_
    rintro e w1 ⟨rfl, h9⟩
    have H1 := Lib.hid h9
    clear h9
    have c1_5 : w1.cell? ⟨p, 5, none⟩ = some (.int .i64 t) := H1.out.act.cell 5
    have f1_5 : w1.frozen? ⟨p, 5, none⟩ = false := H1.out.act.frozen 5
    go_wp2_with fail
    have H2 := Lib.hid (H1.out.set 5 (.int .i64 (ld C 0)) (a' := ⟨1, av, 3, b, (ld C 0), aw, an, nw, 0, rd, 0, 0⟩) rfl)
    obtain ⟨w2, hw2⟩ : ∃ w2, w2 = w1.setCell ⟨p, 5, none⟩ (.int .i64 (ld C 0)) := ⟨_, rfl⟩
    rw [← hw2] at H2 ⊢
    clear c1_5 f1_5 hw2
    by_cases hq : ld C 0 > b
    · have hP : pstep ((0 : Nat) : Int) C ⟨1, av, 3, b, t, aw, an, nw, 0, rd, 0, 0⟩ = _ := congrArg (fun k : Nat => (Res.mk 0 0 ⟨1, av, k, b, (ld C 0), aw, an, nw, 0, rd, 0, 0⟩ C)) (if_pos hq : (if ld C 0 > b then 4 else 5) = 4)
      have HP := Lib.hid hP
      clear hP
      have g2_5 : w2.cell? ⟨p, 5, none⟩ = some (.int .i64 (ld C 0)) := H2.out.act.cell 5
      have g2_4 : w2.cell? ⟨p, 4, none⟩ = some (.int .i64 b) := H2.out.act.cell 4
      go_wp2_with fail
      go_quiet (fail)
      obtain ⟨w3, hw3⟩ : ∃ w3, w3 = w2.drewN nq := ⟨_, rfl⟩
      have H3 := Lib.hid (H2.out.quiet (w'' := w3) (by rw [hw3]; exact (Only.refl _ w2).drewN nq))
      rw [← hw3]
      clear g2_5 g2_4 hw3
      go_wp2_with fail
      refine (rgoes_any B m d p _ v0 v on C _ w0 _ H3.out 4).mono ?_
      rintro e w4 ⟨rfl, h9⟩
      have H4 := Lib.hid h9
      clear h9
      go_wp2_with fail
      go_ret3
      rw [HP.out]
      exact ⟨rfl, v, H4.out⟩
    · have hP : pstep ((0 : Nat) : Int) C ⟨1, av, 3, b, t, aw, an, nw, 0, rd, 0, 0⟩ = _ := congrArg (fun k : Nat => (Res.mk 0 0 ⟨1, av, k, b, (ld C 0), aw, an, nw, 0, rd, 0, 0⟩ C)) (if_neg hq : (if ld C 0 > b then 4 else 5) = 5)
      have HP := Lib.hid hP
      clear hP
      have g2_5 : w2.cell? ⟨p, 5, none⟩ = some (.int .i64 (ld C 0)) := H2.out.act.cell 5
      have g2_4 : w2.cell? ⟨p, 4, none⟩ = some (.int .i64 b) := H2.out.act.cell 4
      go_wp2_with fail
      go_quiet (fail)
      obtain ⟨w3, hw3⟩ : ∃ w3, w3 = w2.drewN nq := ⟨_, rfl⟩
      have H3 := Lib.hid (H2.out.quiet (w'' := w3) (by rw [hw3]; exact (Only.refl _ w2).drewN nq))
      rw [← hw3]
      clear g2_5 g2_4 hw3
      go_wp2_with fail
      refine (rgoes_any B m d p _ v0 v on C _ w0 _ H3.out 5).mono ?_
      rintro e w4 ⟨rfl, h9⟩
      have H4 := Lib.hid h9
      clear h9
      go_wp2_with fail
      go_ret3
      rw [HP.out]
      exact ⟨rfl, v, H4.out⟩
set_option maxRecDepth 100000 in
set_option maxHeartbeats 8000000 in
theorem rpop4 (B m d p : Nat) (n : Int) (v0 v on : Value) (C : List Int) (a : PAct) (w0 w : World) (h : RStp w0 w B m d p n v0 v on C a) (hn : n + 3 ≤ 4611686018427387904) (hS : Safe 0 C a) (hk : a.kind = 1) (h0 : a.told = 0) (g0 : a.got = 0) (hi : a.kind = 1 → a.at_ ≤ 7 → a.i = 0) (hv : a.at_ = 4) :
    Calls Try.prog 33 #[.pointer (some ⟨p, 0, none⟩)] w fun e w' => e = .returned (.tuple #[.int .u8 ((pstep (0 : Nat) C a).what : Int), .int .i64 (pstep (0 : Nat) C a).val, .int .i64 0]) ∧ ∃ v', RStp w0 w' B m d p (n + cnt a) v0 v' on (pstep (0 : Nat) C a).C (pstep (0 : Nat) C a).a := by
  obtain ⟨kind, av, at', b, t, aw, an, nw, ii, rd, told, got⟩ := a
  simp only at hk h0 g0 hv hi
  subst hk h0 g0
  obtain ⟨⟨s1, s2, s3⟩, s4⟩ := hS
  simp only [bd, pok] at s3 s4
  have sz0 : (2 : Int) < C.length := by omega
  have c0 : w.cell? ⟨p, 0, none⟩ = some (.pointer (some ⟨d, 0, none⟩)) := h.act.cell 0
  have d1 : w.cell? ⟨d, 1, none⟩ = some (.int .i64 0) := h.dq.cell 1
  go_enter Try.func33, Try.ntmps33
  go_wp2_with fail
  go_quiet (fail)
  obtain ⟨wq, hwq⟩ : ∃ wq, wq = w.drewN nq := ⟨_, rfl⟩
  have HQ := Lib.hid (h.quiet (w'' := wq) (by rw [hwq]; exact (Only.refl _ w).drewN nq))
  rw [← hwq]
  clear h c0 d1 hwq
  rcases hv with rfl
  · have cq3 : wq.cell? ⟨p, 3, none⟩ = some (.int .i64 4) := HQ.out.act.cell 3
    obtain rfl : ii = 0 := hi (by trivial) (by omega)
    replace s4 : -1000000 ≤ b ∧ b ≤ 1000000 := s4
    replace s3 : -1000000 ≤ ld C 1 ∧ ld C 1 ≤ 1000000 := s3
    have g0_4 : wq.cell? ⟨p, 4, none⟩ = some (.int .i64 b) := HQ.out.act.cell 4
    go_wp2_with fail
    refine (rstore_any B m d p _ v0 v on C _ w0 _ HQ.out _ _ (by omega) (by omega) (by omega)).mono ?_
    rintro e w1 ⟨rfl, h9⟩
    have H1 := Lib.hid h9
    clear h9
    go_wp2_with fail
    refine (rover_any B m d p _ v0 v on (st C 1 (b + 1)) _ w0 _ H1.out 3 0).mono ?_
    rintro e w2 ⟨rfl, h9⟩
    have H2 := Lib.hid h9
    clear h9
    go_wp2_with fail
    go_ret3
    exact ⟨rfl, v, H2.out⟩
set_option maxRecDepth 100000 in
set_option maxHeartbeats 8000000 in
theorem rpop5 (B m d p : Nat) (n : Int) (v0 v on : Value) (C : List Int) (a : PAct) (w0 w : World) (h : RStp w0 w B m d p n v0 v on C a) (hn : n + 3 ≤ 4611686018427387904) (hS : Safe 0 C a) (hk : a.kind = 1) (h0 : a.told = 0) (g0 : a.got = 0) (hi : a.kind = 1 → a.at_ ≤ 7 → a.i = 0) (hv : a.at_ = 5) :
    Calls Try.prog 33 #[.pointer (some ⟨p, 0, none⟩)] w fun e w' => e = .returned (.tuple #[.int .u8 ((pstep (0 : Nat) C a).what : Int), .int .i64 (pstep (0 : Nat) C a).val, .int .i64 0]) ∧ ∃ v', RStp w0 w' B m d p (n + cnt a) v0 v' on (pstep (0 : Nat) C a).C (pstep (0 : Nat) C a).a := by
  obtain ⟨kind, av, at', b, t, aw, an, nw, ii, rd, told, got⟩ := a
  simp only at hk h0 g0 hv hi
  subst hk h0 g0
  obtain ⟨⟨s1, s2, s3⟩, s4⟩ := hS
  simp only [bd, pok] at s3 s4
  have sz0 : (2 : Int) < C.length := by omega
  have c0 : w.cell? ⟨p, 0, none⟩ = some (.pointer (some ⟨d, 0, none⟩)) := h.act.cell 0
  have d1 : w.cell? ⟨d, 1, none⟩ = some (.int .i64 0) := h.dq.cell 1
  go_enter Try.func33, Try.ntmps33
  go_wp2_with fail
  go_quiet (fail)
  obtain ⟨wq, hwq⟩ : ∃ wq, wq = w.drewN nq := ⟨_, rfl⟩
  have HQ := Lib.hid (h.quiet (w'' := wq) (by rw [hwq]; exact (Only.refl _ w).drewN nq))
  rw [← hwq]
  clear h c0 d1 hwq
  rcases hv with rfl
  · have cq3 : wq.cell? ⟨p, 3, none⟩ = some (.int .i64 5) := HQ.out.act.cell 3
    obtain rfl : ii = 0 := hi (by trivial) (by omega)
    replace s4 : 0 ≤ aw ∧ aw < C.length := s4
    replace s3 : -1000000 ≤ ld C 1 ∧ ld C 1 ≤ 1000000 := s3
    have g0_6 : wq.cell? ⟨p, 6, none⟩ = some (.int .i64 aw) := HQ.out.act.cell 6
    go_wp2_with fail
    refine (rload_any B m d p _ v0 v on C _ w0 _ HQ.out _ (by omega) (by omega) (by omega)).mono ?_
    rintro e w1 ⟨rfl, h9⟩
    have H1 := Lib.hid h9
    clear h9
    have c1_7 : w1.cell? ⟨p, 7, none⟩ = some (.int .i64 an) := H1.out.act.cell 7
    have f1_7 : w1.frozen? ⟨p, 7, none⟩ = false := H1.out.act.frozen 7
    go_wp2_with fail
    have H2 := Lib.hid (H1.out.set 7 (.int .i64 (ld C aw)) (a' := ⟨1, av, 5, b, t, aw, (ld C aw), nw, 0, rd, 0, 0⟩) rfl)
    obtain ⟨w2, hw2⟩ : ∃ w2, w2 = w1.setCell ⟨p, 7, none⟩ (.int .i64 (ld C aw)) := ⟨_, rfl⟩
    rw [← hw2] at H2 ⊢
    clear c1_7 f1_7 hw2
    go_wp2_with fail
    refine (rgoes_any B m d p _ v0 v on C _ w0 _ H2.out 6).mono ?_
    rintro e w3 ⟨rfl, h9⟩
    have H3 := Lib.hid h9
    clear h9
    go_wp2_with fail
    go_ret3
    exact ⟨rfl, v, H3.out⟩
set_option maxRecDepth 100000 in
set_option maxHeartbeats 8000000 in
theorem rpop6 (B m d p : Nat) (n : Int) (v0 v on : Value) (C : List Int) (a : PAct) (w0 w : World) (h : RStp w0 w B m d p n v0 v on C a) (hn : n + 3 ≤ 4611686018427387904) (hS : Safe 0 C a) (hk : a.kind = 1) (h0 : a.told = 0) (g0 : a.got = 0) (hi : a.kind = 1 → a.at_ ≤ 7 → a.i = 0) (hv : a.at_ = 6) :
    Calls Try.prog 33 #[.pointer (some ⟨p, 0, none⟩)] w fun e w' => e = .returned (.tuple #[.int .u8 ((pstep (0 : Nat) C a).what : Int), .int .i64 (pstep (0 : Nat) C a).val, .int .i64 0]) ∧ ∃ v', RStp w0 w' B m d p (n + cnt a) v0 v' on (pstep (0 : Nat) C a).C (pstep (0 : Nat) C a).a := by
  obtain ⟨kind, av, at', b, t, aw, an, nw, ii, rd, told, got⟩ := a
  simp only at hk h0 g0 hv hi
  subst hk h0 g0
  obtain ⟨⟨s1, s2, s3⟩, s4⟩ := hS
  simp only [bd, pok] at s3 s4
  have sz0 : (2 : Int) < C.length := by omega
  have c0 : w.cell? ⟨p, 0, none⟩ = some (.pointer (some ⟨d, 0, none⟩)) := h.act.cell 0
  have d1 : w.cell? ⟨d, 1, none⟩ = some (.int .i64 0) := h.dq.cell 1
  go_enter Try.func33, Try.ntmps33
  go_wp2_with fail
  go_quiet (fail)
  obtain ⟨wq, hwq⟩ : ∃ wq, wq = w.drewN nq := ⟨_, rfl⟩
  have HQ := Lib.hid (h.quiet (w'' := wq) (by rw [hwq]; exact (Only.refl _ w).drewN nq))
  rw [← hwq]
  clear h c0 d1 hwq
  rcases hv with rfl
  · have cq3 : wq.cell? ⟨p, 3, none⟩ = some (.int .i64 6) := HQ.out.act.cell 3
    obtain rfl : ii = 0 := hi (by trivial) (by omega)
    replace s4 : (0 ≤ b ∧ b ≤ 1000000 ∧ 1 ≤ an ∧ an ≤ 400000 ∧ (0 : Int) + 2 < aw ∧ aw ≤ 1000000 ∧ aw + an < C.length) ∧ -1000000 ≤ t ∧ t ≤ 1000000 := s4
    replace s3 : -1000000 ≤ ld C 1 ∧ ld C 1 ≤ 1000000 := s3
    have hpb := place_bd (w := aw) (n := an) (i := b) (by omega)
    go_wp2_with fail
    obtain ⟨W1, hW1⟩ : ∃ W1, W1 = wq.drew := ⟨_, rfl⟩
    have HW1 := Lib.hid hW1
    have HX1 : Hid (RStp w0 W1 B m d p (_) v0 v on C ⟨1, av, 6, b, t, aw, an, nw, 0, rd, 0, 0⟩) := Lib.hid (by rw [hW1]; exact HQ.out.drew)
    clear hW1
    have HC1 : Hid (∀ b1 b2 y, RX (fun y => RStp w0 y B m d p (n) v0 v on C ⟨1, av, 6, b, t, aw, an, nw, 0, rd, 0, 0⟩) (fun y => RStp w0 y B m d p (n + 1) v0 v on C ⟨1, av, 6, b, t, aw, an, nw, 0, rd, 0, 0⟩) (fun y => RStp w0 y B m d p (n + 1) v0 v on C ⟨1, av, 6, b, t, aw, an, nw, 0, (ld C (place aw an b)), 0, 0⟩) b1 b2 y → y.cell? ⟨p, 6, none⟩ = some (.int .i64 aw) ∧ y.cell? ⟨p, 7, none⟩ = some (.int .i64 an) ∧ y.cell? ⟨p, 4, none⟩ = some (.int .i64 b) ∧ y.cell? ⟨p, 0, none⟩ = some (.pointer (some ⟨d, 0, none⟩)) ∧ y.cell? ⟨d, 0, none⟩ = some (.pointer (some ⟨m, 0, none⟩))) := Lib.hid (fun b1 b2 y h => by
      rcases h.or with h | h | h
      · exact ⟨h.act.cell 6, h.act.cell 7, h.act.cell 4, h.act.cell 0, h.dq.cell 0⟩
      · exact ⟨h.act.cell 6, h.act.cell 7, h.act.cell 4, h.act.cell 0, h.dq.cell 0⟩
      · exact ⟨h.act.cell 6, h.act.cell 7, h.act.cell 4, h.act.cell 0, h.dq.cell 0⟩)
    refine wp_region_st (by kernel_rfl) (fun dn y => RX (fun y => RStp w0 y B m d p (n) v0 v on C ⟨1, av, 6, b, t, aw, an, nw, 0, rd, 0, 0⟩) (fun y => RStp w0 y B m d p (n + 1) v0 v on C ⟨1, av, 6, b, t, aw, an, nw, 0, rd, 0, 0⟩) (fun y => RStp w0 y B m d p (n + 1) v0 v on C ⟨1, av, 6, b, t, aw, an, nw, 0, (ld C (place aw an b)), 0, 0⟩) (dn 15) (dn 18) y) [Is (.pointer (some ⟨p, 0, none⟩)), Is (.pointer (some ⟨p, 0, none⟩)), Is (.pointer (some ⟨p, 0, none⟩)), Is (.pointer (some ⟨p, 0, none⟩)), Is (.pointer (some ⟨p, 6, none⟩)), Is (.int .i64 aw), Is (.pointer (some ⟨p, 0, none⟩)), Is (.pointer (some ⟨p, 0, none⟩)), Is (.pointer (some ⟨p, 7, none⟩)), Is (.int .i64 an), Is (.pointer (some ⟨p, 0, none⟩)), Is (.pointer (some ⟨p, 0, none⟩)), Is (.pointer (some ⟨p, 4, none⟩)), Is (.int .i64 b), Is (.int .i64 (place aw an b)), Is (.int .i64 (ld C (place aw an b))), Is (.pointer (some ⟨p, 0, none⟩)), Is (.pointer (some ⟨p, 10, none⟩)), fun _ _ => True] (by kernel_rfl)
      ⟨is_stab _ _, is_stab _ _, is_stab _ _, is_stab _ _, is_stab _ _, is_stab _ _, is_stab _ _, is_stab _ _, is_stab _ _, is_stab _ _, is_stab _ _, is_stab _ _, is_stab _ _, is_stab _ _, is_stab _ _, is_stab _ _, is_stab _ _, is_stab _ _, (fun _ _ _ _ _ => trivial), trivial⟩ (by rw [← HW1.out]; exact RX.start HX1.out) ⟨?_, ?_, ?_, ?_, ?_, ?_, ?_, ?_, ?_, ?_, ?_, ?_, ?_, ?_, ?_, ?_, ?_, ?_, ?_, trivial⟩ ?_
    · intro dn u w1 hi he hS hp K hK
      refine ord_plain rfl ?_
      simp at hp hK ⊢
      go_simp
      exact hK _ _ hS rfl
    · intro dn u w1 hi he hS hp K hK
      refine ord_plain rfl ?_
      simp at hp hK ⊢
      go_simp
      exact hK _ _ hS rfl
    · intro dn u w1 hi he hS hp K hK
      refine ord_plain rfl ?_
      simp at hp hK ⊢
      go_simp
      exact hK _ _ hS rfl
    · intro dn u w1 hi he hS hp K hK
      refine ord_plain rfl ?_
      simp at hp hK ⊢
      simp only [hp] at hK
      go_simp
      exact hK _ _ hS rfl
    · intro dn u w1 hi he hS hp K hK
      refine ord_plain rfl ?_
      simp at hp hK ⊢
      simp only [hp] at hK
      go_simp
      exact hK _ _ hS rfl
    · intro dn u w1 hi he hS hp K hK
      refine ord_plain rfl ?_
      simp at hp hK ⊢
      simp only [hp] at hK
      have hc := (HC1.out _ _ _ hS).1
      go_simp
      exact hK _ _ hS rfl
    · intro dn u w1 hi he hS hp K hK
      refine ord_plain rfl ?_
      simp at hp hK ⊢
      go_simp
      exact hK _ _ hS rfl
    · intro dn u w1 hi he hS hp K hK
      refine ord_plain rfl ?_
      simp at hp hK ⊢
      simp only [hp] at hK
      go_simp
      exact hK _ _ hS rfl
    · intro dn u w1 hi he hS hp K hK
      refine ord_plain rfl ?_
      simp at hp hK ⊢
      simp only [hp] at hK
      go_simp
      exact hK _ _ hS rfl
    · intro dn u w1 hi he hS hp K hK
      refine ord_plain rfl ?_
      simp at hp hK ⊢
      simp only [hp] at hK
      have hc := (HC1.out _ _ _ hS).2.1
      go_simp
      exact hK _ _ hS rfl
    · intro dn u w1 hi he hS hp K hK
      refine ord_plain rfl ?_
      simp at hp hK ⊢
      go_simp
      exact hK _ _ hS rfl
    · intro dn u w1 hi he hS hp K hK
      refine ord_plain rfl ?_
      simp at hp hK ⊢
      simp only [hp] at hK
      go_simp
      exact hK _ _ hS rfl
    · intro dn u w1 hi he hS hp K hK
      refine ord_plain rfl ?_
      simp at hp hK ⊢
      simp only [hp] at hK
      go_simp
      exact hK _ _ hS rfl
    · intro dn u w1 hi he hS hp K hK
      refine ord_plain rfl ?_
      simp at hp hK ⊢
      simp only [hp] at hK
      have hc := (HC1.out _ _ _ hS).2.2.1
      go_simp
      exact hK _ _ hS rfl
    · intro dn u w1 hi he hS hp K hK
      refine ord_plain rfl ?_
      simp at hp hK ⊢
      simp only [hp] at hK
      go_simp
      refine (rplace_any aw an b w1 (by omega) (by omega) (by omega) (by omega) (by omega)).mono ?_
      rintro e w2 ⟨rfl, rfl⟩
      exact hK _ _ hS rfl
    · intro dn u w1 hi he hS hp K hK
      refine ord_plain rfl ?_
      simp at hp hK ⊢
      simp only [hp] at hK
      have q0 := (hS.was hi).1
      go_simp
      refine (rload_any B m d p _ v0 v on C _ w0 _ q0 (place aw an b) (by omega) (by omega) (by omega)).mono ?_
      rintro e w2 ⟨rfl, k1⟩
      exact hK _ _ (hS.put1 hi k1) rfl
    · intro dn u w1 hi he hS hp K hK
      refine ord_plain rfl ?_
      simp at hp hK ⊢
      simp only [hp] at hK
      go_simp
      exact hK _ _ hS rfl
    · intro dn u w1 hi he hS hp K hK
      refine ord_plain rfl ?_
      simp at hp hK ⊢
      simp only [hp] at hK
      go_simp
      exact hK _ _ hS rfl
    · intro dn u w1 hi he hS hp K hK
      refine ord_plain rfl ?_
      simp at hp hK ⊢
      simp only [hp] at hK
      have h1 : dn 15 = true := by simp [edgesDone, Region.binds] at he; simp [he]
      have q1 := hS.mid h1 hi
      have d4 : w1.cell? ⟨p, 10, none⟩ = some (.int .i64 rd) := q1.act.cell 10
      have f4 : w1.frozen? ⟨p, 10, none⟩ = false := q1.act.frozen 10
      go_simp
      exact hK _ (RX.put2 (q1.set 10 _ rfl) h1)
    · intro u w1 dn hld hS hp
      simp at hp ⊢
      have hl := hld 18 (by decide)
      have HQ1 := Lib.hid (hS.got hl)
      obtain ⟨wq1, rfl⟩ : ∃ wq1, wq1 = w1 := ⟨_, rfl⟩
      clear hS
      simp only [hp]
      clear hp
      by_cases hq : t < b
      · have hP : pstep ((0 : Nat) : Int) C ⟨1, av, 6, b, t, aw, an, nw, 0, rd, 0, 0⟩ = _ := if_pos hq
        have HP := Lib.hid hP
        clear hP
        have g1_4 : wq1.cell? ⟨p, 4, none⟩ = some (.int .i64 b) := HQ1.out.act.cell 4
        have g1_5 : wq1.cell? ⟨p, 5, none⟩ = some (.int .i64 t) := HQ1.out.act.cell 5
        go_wp2_with fail
        go_quiet (fail)
        obtain ⟨w2, hw2⟩ : ∃ w2, w2 = wq1.drewN nq := ⟨_, rfl⟩
        have H2 := Lib.hid (HQ1.out.quiet (w'' := w2) (by rw [hw2]; exact (Only.refl _ wq1).drewN nq))
        rw [← hw2]
        clear g1_4 g1_5 hw2
        have g2_10 : w2.cell? ⟨p, 10, none⟩ = some (.int .i64 (ld C (place aw an b))) := H2.out.act.cell 10
        go_wp2_with fail
        refine (rover_any B m d p _ v0 v on C _ w0 _ H2.out 2 (ld C (place aw an b))).mono ?_
        rintro e w3 ⟨rfl, h9⟩
        have H3 := Lib.hid h9
        clear h9
        go_wp2_with fail
        go_ret3
        rw [HP.out]
        exact ⟨rfl, v, H3.out⟩
      · have hP : pstep ((0 : Nat) : Int) C ⟨1, av, 6, b, t, aw, an, nw, 0, rd, 0, 0⟩ = _ := if_neg hq
        have HP := Lib.hid hP
        clear hP
        have g1_4 : wq1.cell? ⟨p, 4, none⟩ = some (.int .i64 b) := HQ1.out.act.cell 4
        have g1_5 : wq1.cell? ⟨p, 5, none⟩ = some (.int .i64 t) := HQ1.out.act.cell 5
        go_wp2_with fail
        go_quiet (fail)
        obtain ⟨w2, hw2⟩ : ∃ w2, w2 = wq1.drewN nq := ⟨_, rfl⟩
        have H2 := Lib.hid (HQ1.out.quiet (w'' := w2) (by rw [hw2]; exact (Only.refl _ wq1).drewN nq))
        rw [← hw2]
        clear g1_4 g1_5 hw2
        go_wp2_with fail
        refine (rgoes_any B m d p _ v0 v on C _ w0 _ H2.out 7).mono ?_
        rintro e w3 ⟨rfl, h9⟩
        have H3 := Lib.hid h9
        clear h9
        go_wp2_with fail
        go_ret3
        rw [HP.out]
        exact ⟨rfl, v, H3.out⟩
set_option maxRecDepth 100000 in
set_option maxHeartbeats 8000000 in
theorem rpop7 (B m d p : Nat) (n : Int) (v0 v on : Value) (C : List Int) (a : PAct) (w0 w : World) (h : RStp w0 w B m d p n v0 v on C a) (hn : n + 3 ≤ 4611686018427387904) (hS : Safe 0 C a) (hk : a.kind = 1) (h0 : a.told = 0) (g0 : a.got = 0) (hi : a.kind = 1 → a.at_ ≤ 7 → a.i = 0) (hv : a.at_ = 7) :
    Calls Try.prog 33 #[.pointer (some ⟨p, 0, none⟩)] w fun e w' => e = .returned (.tuple #[.int .u8 ((pstep (0 : Nat) C a).what : Int), .int .i64 (pstep (0 : Nat) C a).val, .int .i64 0]) ∧ ∃ v', RStp w0 w' B m d p (n + cnt a) v0 v' on (pstep (0 : Nat) C a).C (pstep (0 : Nat) C a).a := by
  obtain ⟨kind, av, at', b, t, aw, an, nw, ii, rd, told, got⟩ := a
  simp only at hk h0 g0 hv hi
  subst hk h0 g0
  obtain ⟨⟨s1, s2, s3⟩, s4⟩ := hS
  simp only [bd, pok] at s3 s4
  have sz0 : (2 : Int) < C.length := by omega
  have c0 : w.cell? ⟨p, 0, none⟩ = some (.pointer (some ⟨d, 0, none⟩)) := h.act.cell 0
  have d1 : w.cell? ⟨d, 1, none⟩ = some (.int .i64 0) := h.dq.cell 1
  go_enter Try.func33, Try.ntmps33
  go_wp2_with fail
  go_quiet (fail)
  obtain ⟨wq, hwq⟩ : ∃ wq, wq = w.drewN nq := ⟨_, rfl⟩
  have HQ := Lib.hid (h.quiet (w'' := wq) (by rw [hwq]; exact (Only.refl _ w).drewN nq))
  rw [← hwq]
  clear h c0 d1 hwq
  rcases hv with rfl
  · have cq3 : wq.cell? ⟨p, 3, none⟩ = some (.int .i64 7) := HQ.out.act.cell 3
    obtain rfl : ii = 0 := hi (by trivial) (by omega)
    replace s4 : -1000000 ≤ t ∧ t ≤ 1000000 := s4
    replace s3 : -1000000 ≤ ld C 1 ∧ ld C 1 ≤ 1000000 := s3
    have hwr : IntKind.i64.wrap (t + 1) = t + 1 := IntWalk.i64_in _ (by omega)
    by_cases hq : ld C 0 = t
    · have hP : pstep ((0 : Nat) : Int) C ⟨1, av, 7, b, t, aw, an, nw, 0, rd, 0, 0⟩ = _ := if_pos hq
      have HP := Lib.hid hP
      have HE := Lib.hid hq
      clear hP hq
      go_wp2_with fail
      obtain ⟨W1, hW1⟩ : ∃ W1, W1 = wq.drew := ⟨_, rfl⟩
      have HW1 := Lib.hid hW1
      have HX1 : Hid (RStp w0 W1 B m d p (_) v0 v on C ⟨1, av, 7, b, t, aw, an, nw, 0, rd, 0, 0⟩) := Lib.hid (by rw [hW1]; exact HQ.out.drew)
      clear hW1
      have HC1 : Hid (∀ b1 b2 y, RX (fun y => RStp w0 y B m d p (n) v0 v on C ⟨1, av, 7, b, t, aw, an, nw, 0, rd, 0, 0⟩) (fun y => RStp w0 y B m d p (n + 1) v0 v on (st C 0 (t + 1)) ⟨1, av, 7, b, t, aw, an, nw, 0, rd, 0, 0⟩) (fun _ => False) b1 b2 y → y.cell? ⟨p, 5, none⟩ = some (.int .i64 t) ∧ y.cell? ⟨p, 0, none⟩ = some (.pointer (some ⟨d, 0, none⟩)) ∧ y.cell? ⟨d, 0, none⟩ = some (.pointer (some ⟨m, 0, none⟩))) := Lib.hid (fun b1 b2 y h => by
        rcases h.or with h | h | h
        · exact ⟨h.act.cell 5, h.act.cell 0, h.dq.cell 0⟩
        · exact ⟨h.act.cell 5, h.act.cell 0, h.dq.cell 0⟩
        · exact h.elim)
      refine wp_region_st (by kernel_rfl) (fun dn y => RX (fun y => RStp w0 y B m d p (n) v0 v on C ⟨1, av, 7, b, t, aw, an, nw, 0, rd, 0, 0⟩) (fun y => RStp w0 y B m d p (n + 1) v0 v on (st C 0 (t + 1)) ⟨1, av, 7, b, t, aw, an, nw, 0, rd, 0, 0⟩) (fun _ => False) (dn 17) false y) [Is (.pointer (some ⟨p, 0, none⟩)), Is (.pointer (some ⟨p, 0, none⟩)), Is (.pointer (some ⟨p, 0, none⟩)), Is (.pointer (some ⟨d, 0, none⟩)), Is (.pointer (some ⟨d, 0, none⟩)), Is (.pointer (some ⟨d, 0, none⟩)), Is (.pointer (some ⟨m, 0, none⟩)), Is (.int .i64 0), Is (.pointer (some ⟨p, 0, none⟩)), Is (.pointer (some ⟨p, 0, none⟩)), Is (.pointer (some ⟨p, 5, none⟩)), Is (.int .i64 t), Is (.pointer (some ⟨p, 0, none⟩)), Is (.pointer (some ⟨p, 0, none⟩)), Is (.pointer (some ⟨p, 5, none⟩)), Is (.int .i64 t), Is (.int .i64 (t + 1)), Is (.tuple #[.bool true, .int .i64 0]), Is (.tuple #[.bool true, .int .i64 0]), Is (.bool true), Is (.int .i64 0), Is (.bool true), Is (.int .i64 0)] (by kernel_rfl)
        ⟨is_stab _ _, is_stab _ _, is_stab _ _, is_stab _ _, is_stab _ _, is_stab _ _, is_stab _ _, is_stab _ _, is_stab _ _, is_stab _ _, is_stab _ _, is_stab _ _, is_stab _ _, is_stab _ _, is_stab _ _, is_stab _ _, is_stab _ _, is_stab _ _, is_stab _ _, is_stab _ _, is_stab _ _, is_stab _ _, is_stab _ _, trivial⟩ (by rw [← HW1.out]; exact RX.start HX1.out) ⟨?_, ?_, ?_, ?_, ?_, ?_, ?_, ?_, ?_, ?_, ?_, ?_, ?_, ?_, ?_, ?_, ?_, ?_, ?_, ?_, ?_, ?_, ?_, trivial⟩ ?_
      · intro dn u w1 hi he hS hp K hK
        refine ord_plain rfl ?_
        simp at hp hK ⊢
        go_simp
        exact hK _ _ hS rfl
      · intro dn u w1 hi he hS hp K hK
        refine ord_plain rfl ?_
        simp at hp hK ⊢
        simp only [hp] at hK
        go_simp
        exact hK _ _ hS rfl
      · intro dn u w1 hi he hS hp K hK
        refine ord_plain rfl ?_
        simp at hp hK ⊢
        simp only [hp] at hK
        go_simp
        exact hK _ _ hS rfl
      · intro dn u w1 hi he hS hp K hK
        refine ord_plain rfl ?_
        simp at hp hK ⊢
        simp only [hp] at hK
        have hc := (HC1.out _ _ _ hS).2.1
        go_simp
        exact hK _ _ hS rfl
      · intro dn u w1 hi he hS hp K hK
        refine ord_plain rfl ?_
        simp at hp hK ⊢
        simp only [hp] at hK
        go_simp
        exact hK _ _ hS rfl
      · intro dn u w1 hi he hS hp K hK
        refine ord_plain rfl ?_
        simp at hp hK ⊢
        simp only [hp] at hK
        go_simp
        exact hK _ _ hS rfl
      · intro dn u w1 hi he hS hp K hK
        refine ord_plain rfl ?_
        simp at hp hK ⊢
        simp only [hp] at hK
        have hc := (HC1.out _ _ _ hS).2.2
        go_simp
        exact hK _ _ hS rfl
      · intro dn u w1 hi he hS hp K hK
        refine ord_plain rfl ?_
        simp at hp hK ⊢
        go_simp
        exact hK _ _ hS rfl
      · intro dn u w1 hi he hS hp K hK
        refine ord_plain rfl ?_
        simp at hp hK ⊢
        go_simp
        exact hK _ _ hS rfl
      · intro dn u w1 hi he hS hp K hK
        refine ord_plain rfl ?_
        simp at hp hK ⊢
        simp only [hp] at hK
        go_simp
        exact hK _ _ hS rfl
      · intro dn u w1 hi he hS hp K hK
        refine ord_plain rfl ?_
        simp at hp hK ⊢
        simp only [hp] at hK
        go_simp
        exact hK _ _ hS rfl
      · intro dn u w1 hi he hS hp K hK
        refine ord_plain rfl ?_
        simp at hp hK ⊢
        simp only [hp] at hK
        have hc := (HC1.out _ _ _ hS).1
        go_simp
        exact hK _ _ hS rfl
      · intro dn u w1 hi he hS hp K hK
        refine ord_plain rfl ?_
        simp at hp hK ⊢
        go_simp
        exact hK _ _ hS rfl
      · intro dn u w1 hi he hS hp K hK
        refine ord_plain rfl ?_
        simp at hp hK ⊢
        simp only [hp] at hK
        go_simp
        exact hK _ _ hS rfl
      · intro dn u w1 hi he hS hp K hK
        refine ord_plain rfl ?_
        simp at hp hK ⊢
        simp only [hp] at hK
        go_simp
        exact hK _ _ hS rfl
      · intro dn u w1 hi he hS hp K hK
        refine ord_plain rfl ?_
        simp at hp hK ⊢
        simp only [hp] at hK
        have hc := (HC1.out _ _ _ hS).1
        go_simp
        exact hK _ _ hS rfl
      · intro dn u w1 hi he hS hp K hK
        refine ord_plain rfl ?_
        simp at hp hK ⊢
        simp only [hp] at hK
        go_simp
        exact hK _ _ hS rfl
      · intro dn u w1 hi he hS hp K hK
        refine ord_plain rfl ?_
        simp at hp hK ⊢
        simp only [hp] at hK
        have q0 := (hS.was hi).1
        go_simp
        refine (rswap_any B m d p _ v0 v on C _ w0 _ q0 t (by omega) (by omega)).mono ?_
        rintro e w2 ⟨rfl, k1⟩
        rw [if_pos HE.out] at k1
        rw [decide_eq_true HE.out]
        exact hK _ _ (hS.put1 hi k1) rfl
      · intro dn u w1 hi he hS hp K hK
        refine ord_plain rfl ?_
        simp at hp hK ⊢
        simp only [hp] at hK
        go_simp
        exact hK _ _ hS rfl
      · intro dn u w1 hi he hS hp K hK
        refine ord_plain rfl ?_
        simp at hp hK ⊢
        simp only [hp] at hK
        go_simp
        exact hK _ _ hS rfl
      · intro dn u w1 hi he hS hp K hK
        refine ord_plain rfl ?_
        simp at hp hK ⊢
        simp only [hp] at hK
        go_simp
        exact hK _ _ hS rfl
      · intro dn u w1 hi he hS hp K hK
        refine ord_plain rfl ?_
        simp at hp hK ⊢
        simp only [hp] at hK
        go_simp
        exact hK _ _ hS rfl
      · intro dn u w1 hi he hS hp K hK
        refine ord_plain rfl ?_
        simp at hp hK ⊢
        simp only [hp] at hK
        go_simp
        exact hK _ _ hS rfl
      · intro u w1 dn hld hS hp
        simp at hp ⊢
        have hl := hld 17 (by decide)
        have HQ1 := Lib.hid (hS.mid hl rfl)
        obtain ⟨wq1, rfl⟩ : ∃ wq1, wq1 = w1 := ⟨_, rfl⟩
        clear hS
        simp only [hp]
        clear hp
        have c1_9 : wq1.cell? ⟨p, 9, none⟩ = some (.int .i64 0) := HQ1.out.act.cell 9
        have f1_9 : wq1.frozen? ⟨p, 9, none⟩ = false := HQ1.out.act.frozen 9
        go_wp2_with fail
        have H2 := Lib.hid ((HQ1.out.set 9 (.int .i64 0) (a' := ⟨1, av, 7, b, t, aw, an, nw, 0, rd, 0, 0⟩) rfl).set 9 (.int .i64 1) (a' := ⟨1, av, 7, b, t, aw, an, nw, 1, rd, 0, 0⟩) rfl)
        obtain ⟨w2, hw2⟩ : ∃ w2, w2 = ((wq1.setCell ⟨p, 9, none⟩ (.int .i64 0)).setCell ⟨p, 9, none⟩ (.int .i64 1)) := ⟨_, rfl⟩
        rw [← hw2] at H2 ⊢
        clear c1_9 f1_9 hw2
        go_wp2_with fail
        refine (rgoes_any B m d p _ v0 v on (st C 0 (t + 1)) _ w0 _ H2.out 8).mono ?_
        rintro e w3 ⟨rfl, h9⟩
        have H3 := Lib.hid h9
        clear h9
        go_wp2_with fail
        go_ret3
        rw [HP.out]
        exact ⟨rfl, v, H3.out⟩
    · have hP : pstep ((0 : Nat) : Int) C ⟨1, av, 7, b, t, aw, an, nw, 0, rd, 0, 0⟩ = _ := if_neg hq
      have HP := Lib.hid hP
      have HE := Lib.hid hq
      clear hP hq
      go_wp2_with fail
      obtain ⟨W1, hW1⟩ : ∃ W1, W1 = wq.drew := ⟨_, rfl⟩
      have HW1 := Lib.hid hW1
      have HX1 : Hid (RStp w0 W1 B m d p (_) v0 v on C ⟨1, av, 7, b, t, aw, an, nw, 0, rd, 0, 0⟩) := Lib.hid (by rw [hW1]; exact HQ.out.drew)
      clear hW1
      have HC1 : Hid (∀ b1 b2 y, RX (fun y => RStp w0 y B m d p (n) v0 v on C ⟨1, av, 7, b, t, aw, an, nw, 0, rd, 0, 0⟩) (fun y => RStp w0 y B m d p (n + 1) v0 v on C ⟨1, av, 7, b, t, aw, an, nw, 0, rd, 0, 0⟩) (fun _ => False) b1 b2 y → y.cell? ⟨p, 5, none⟩ = some (.int .i64 t) ∧ y.cell? ⟨p, 0, none⟩ = some (.pointer (some ⟨d, 0, none⟩)) ∧ y.cell? ⟨d, 0, none⟩ = some (.pointer (some ⟨m, 0, none⟩))) := Lib.hid (fun b1 b2 y h => by
        rcases h.or with h | h | h
        · exact ⟨h.act.cell 5, h.act.cell 0, h.dq.cell 0⟩
        · exact ⟨h.act.cell 5, h.act.cell 0, h.dq.cell 0⟩
        · exact h.elim)
      refine wp_region_st (by kernel_rfl) (fun dn y => RX (fun y => RStp w0 y B m d p (n) v0 v on C ⟨1, av, 7, b, t, aw, an, nw, 0, rd, 0, 0⟩) (fun y => RStp w0 y B m d p (n + 1) v0 v on C ⟨1, av, 7, b, t, aw, an, nw, 0, rd, 0, 0⟩) (fun _ => False) (dn 17) false y) [Is (.pointer (some ⟨p, 0, none⟩)), Is (.pointer (some ⟨p, 0, none⟩)), Is (.pointer (some ⟨p, 0, none⟩)), Is (.pointer (some ⟨d, 0, none⟩)), Is (.pointer (some ⟨d, 0, none⟩)), Is (.pointer (some ⟨d, 0, none⟩)), Is (.pointer (some ⟨m, 0, none⟩)), Is (.int .i64 0), Is (.pointer (some ⟨p, 0, none⟩)), Is (.pointer (some ⟨p, 0, none⟩)), Is (.pointer (some ⟨p, 5, none⟩)), Is (.int .i64 t), Is (.pointer (some ⟨p, 0, none⟩)), Is (.pointer (some ⟨p, 0, none⟩)), Is (.pointer (some ⟨p, 5, none⟩)), Is (.int .i64 t), Is (.int .i64 (t + 1)), Is (.tuple #[.bool false, .int .i64 0]), Is (.tuple #[.bool false, .int .i64 0]), Is (.bool false), Is (.int .i64 0), Is (.bool false), Is (.int .i64 0)] (by kernel_rfl)
        ⟨is_stab _ _, is_stab _ _, is_stab _ _, is_stab _ _, is_stab _ _, is_stab _ _, is_stab _ _, is_stab _ _, is_stab _ _, is_stab _ _, is_stab _ _, is_stab _ _, is_stab _ _, is_stab _ _, is_stab _ _, is_stab _ _, is_stab _ _, is_stab _ _, is_stab _ _, is_stab _ _, is_stab _ _, is_stab _ _, is_stab _ _, trivial⟩ (by rw [← HW1.out]; exact RX.start HX1.out) ⟨?_, ?_, ?_, ?_, ?_, ?_, ?_, ?_, ?_, ?_, ?_, ?_, ?_, ?_, ?_, ?_, ?_, ?_, ?_, ?_, ?_, ?_, ?_, trivial⟩ ?_
      · intro dn u w1 hi he hS hp K hK
        refine ord_plain rfl ?_
        simp at hp hK ⊢
        go_simp
        exact hK _ _ hS rfl
      · intro dn u w1 hi he hS hp K hK
        refine ord_plain rfl ?_
        simp at hp hK ⊢
        simp only [hp] at hK
        go_simp
        exact hK _ _ hS rfl
      · intro dn u w1 hi he hS hp K hK
        refine ord_plain rfl ?_
        simp at hp hK ⊢
        simp only [hp] at hK
        go_simp
        exact hK _ _ hS rfl
      · intro dn u w1 hi he hS hp K hK
        refine ord_plain rfl ?_
        simp at hp hK ⊢
        simp only [hp] at hK
        have hc := (HC1.out _ _ _ hS).2.1
        go_simp
        exact hK _ _ hS rfl
      · intro dn u w1 hi he hS hp K hK
        refine ord_plain rfl ?_
        simp at hp hK ⊢
        simp only [hp] at hK
        go_simp
        exact hK _ _ hS rfl
      · intro dn u w1 hi he hS hp K hK
        refine ord_plain rfl ?_
        simp at hp hK ⊢
        simp only [hp] at hK
        go_simp
        exact hK _ _ hS rfl
      · intro dn u w1 hi he hS hp K hK
        refine ord_plain rfl ?_
        simp at hp hK ⊢
        simp only [hp] at hK
        have hc := (HC1.out _ _ _ hS).2.2
        go_simp
        exact hK _ _ hS rfl
      · intro dn u w1 hi he hS hp K hK
        refine ord_plain rfl ?_
        simp at hp hK ⊢
        go_simp
        exact hK _ _ hS rfl
      · intro dn u w1 hi he hS hp K hK
        refine ord_plain rfl ?_
        simp at hp hK ⊢
        go_simp
        exact hK _ _ hS rfl
      · intro dn u w1 hi he hS hp K hK
        refine ord_plain rfl ?_
        simp at hp hK ⊢
        simp only [hp] at hK
        go_simp
        exact hK _ _ hS rfl
      · intro dn u w1 hi he hS hp K hK
        refine ord_plain rfl ?_
        simp at hp hK ⊢
        simp only [hp] at hK
        go_simp
        exact hK _ _ hS rfl
      · intro dn u w1 hi he hS hp K hK
        refine ord_plain rfl ?_
        simp at hp hK ⊢
        simp only [hp] at hK
        have hc := (HC1.out _ _ _ hS).1
        go_simp
        exact hK _ _ hS rfl
      · intro dn u w1 hi he hS hp K hK
        refine ord_plain rfl ?_
        simp at hp hK ⊢
        go_simp
        exact hK _ _ hS rfl
      · intro dn u w1 hi he hS hp K hK
        refine ord_plain rfl ?_
        simp at hp hK ⊢
        simp only [hp] at hK
        go_simp
        exact hK _ _ hS rfl
      · intro dn u w1 hi he hS hp K hK
        refine ord_plain rfl ?_
        simp at hp hK ⊢
        simp only [hp] at hK
        go_simp
        exact hK _ _ hS rfl
      · intro dn u w1 hi he hS hp K hK
        refine ord_plain rfl ?_
        simp at hp hK ⊢
        simp only [hp] at hK
        have hc := (HC1.out _ _ _ hS).1
        go_simp
        exact hK _ _ hS rfl
      · intro dn u w1 hi he hS hp K hK
        refine ord_plain rfl ?_
        simp at hp hK ⊢
        simp only [hp] at hK
        go_simp
        exact hK _ _ hS rfl
      · intro dn u w1 hi he hS hp K hK
        refine ord_plain rfl ?_
        simp at hp hK ⊢
        simp only [hp] at hK
        have q0 := (hS.was hi).1
        go_simp
        refine (rswap_any B m d p _ v0 v on C _ w0 _ q0 t (by omega) (by omega)).mono ?_
        rintro e w2 ⟨rfl, k1⟩
        rw [if_neg HE.out] at k1
        rw [decide_eq_false HE.out]
        exact hK _ _ (hS.put1 hi k1) rfl
      · intro dn u w1 hi he hS hp K hK
        refine ord_plain rfl ?_
        simp at hp hK ⊢
        simp only [hp] at hK
        go_simp
        exact hK _ _ hS rfl
      · intro dn u w1 hi he hS hp K hK
        refine ord_plain rfl ?_
        simp at hp hK ⊢
        simp only [hp] at hK
        go_simp
        exact hK _ _ hS rfl
      · intro dn u w1 hi he hS hp K hK
        refine ord_plain rfl ?_
        simp at hp hK ⊢
        simp only [hp] at hK
        go_simp
        exact hK _ _ hS rfl
      · intro dn u w1 hi he hS hp K hK
        refine ord_plain rfl ?_
        simp at hp hK ⊢
        simp only [hp] at hK
        go_simp
        exact hK _ _ hS rfl
      · intro dn u w1 hi he hS hp K hK
        refine ord_plain rfl ?_
        simp at hp hK ⊢
        simp only [hp] at hK
        go_simp
        exact hK _ _ hS rfl
      · intro u w1 dn hld hS hp
        simp at hp ⊢
        have hl := hld 17 (by decide)
        have HQ1 := Lib.hid (hS.mid hl rfl)
        obtain ⟨wq1, rfl⟩ : ∃ wq1, wq1 = w1 := ⟨_, rfl⟩
        clear hS
        simp only [hp]
        clear hp
        have c1_9 : wq1.cell? ⟨p, 9, none⟩ = some (.int .i64 0) := HQ1.out.act.cell 9
        have f1_9 : wq1.frozen? ⟨p, 9, none⟩ = false := HQ1.out.act.frozen 9
        go_wp2_with fail
        have H2 := Lib.hid (HQ1.out.set 9 (.int .i64 0) (a' := ⟨1, av, 7, b, t, aw, an, nw, 0, rd, 0, 0⟩) rfl)
        obtain ⟨w2, hw2⟩ : ∃ w2, w2 = (wq1.setCell ⟨p, 9, none⟩ (.int .i64 0)) := ⟨_, rfl⟩
        rw [← hw2] at H2 ⊢
        clear c1_9 f1_9 hw2
        go_wp2_with fail
        refine (rgoes_any B m d p _ v0 v on C _ w0 _ H2.out 8).mono ?_
        rintro e w3 ⟨rfl, h9⟩
        have H3 := Lib.hid h9
        clear h9
        go_wp2_with fail
        go_ret3
        rw [HP.out]
        exact ⟨rfl, v, H3.out⟩
set_option maxRecDepth 100000 in
set_option maxHeartbeats 8000000 in
theorem rpop8 (B m d p : Nat) (n : Int) (v0 v on : Value) (C : List Int) (a : PAct) (w0 w : World) (h : RStp w0 w B m d p n v0 v on C a) (hn : n + 3 ≤ 4611686018427387904) (hS : Safe 0 C a) (hk : a.kind = 1) (h0 : a.told = 0) (g0 : a.got = 0) (hi : a.kind = 1 → a.at_ ≤ 7 → a.i = 0) (hv : a.at_ = 8) :
    Calls Try.prog 33 #[.pointer (some ⟨p, 0, none⟩)] w fun e w' => e = .returned (.tuple #[.int .u8 ((pstep (0 : Nat) C a).what : Int), .int .i64 (pstep (0 : Nat) C a).val, .int .i64 0]) ∧ ∃ v', RStp w0 w' B m d p (n + cnt a) v0 v' on (pstep (0 : Nat) C a).C (pstep (0 : Nat) C a).a := by
  obtain ⟨kind, av, at', b, t, aw, an, nw, ii, rd, told, got⟩ := a
  simp only at hk h0 g0 hv hi
  subst hk h0 g0
  obtain ⟨⟨s1, s2, s3⟩, s4⟩ := hS
  simp only [bd, pok] at s3 s4
  have sz0 : (2 : Int) < C.length := by omega
  have c0 : w.cell? ⟨p, 0, none⟩ = some (.pointer (some ⟨d, 0, none⟩)) := h.act.cell 0
  have d1 : w.cell? ⟨d, 1, none⟩ = some (.int .i64 0) := h.dq.cell 1
  go_enter Try.func33, Try.ntmps33
  go_wp2_with fail
  go_quiet (fail)
  obtain ⟨wq, hwq⟩ : ∃ wq, wq = w.drewN nq := ⟨_, rfl⟩
  have HQ := Lib.hid (h.quiet (w'' := wq) (by rw [hwq]; exact (Only.refl _ w).drewN nq))
  rw [← hwq]
  clear h c0 d1 hwq
  rcases hv with rfl
  · have cq3 : wq.cell? ⟨p, 3, none⟩ = some (.int .i64 8) := HQ.out.act.cell 3
    replace s4 : -1000000 ≤ b ∧ b ≤ 1000000 := s4
    replace s3 : -1000000 ≤ ld C 1 ∧ ld C 1 ≤ 1000000 := s3
    have g0_4 : wq.cell? ⟨p, 4, none⟩ = some (.int .i64 b) := HQ.out.act.cell 4
    go_wp2_with fail
    refine (rstore_any B m d p _ v0 v on C _ w0 _ HQ.out _ _ (by omega) (by omega) (by omega)).mono ?_
    rintro e w1 ⟨rfl, h9⟩
    have H1 := Lib.hid h9
    clear h9
    by_cases hq : ii = 1
    · have hP : pstep ((0 : Nat) : Int) C ⟨1, av, 8, b, t, aw, an, nw, ii, rd, 0, 0⟩ = _ := if_pos hq
      have HP := Lib.hid hP
      clear hP
      have g1_9 : w1.cell? ⟨p, 9, none⟩ = some (.int .i64 ii) := H1.out.act.cell 9
      have g1_10 : w1.cell? ⟨p, 10, none⟩ = some (.int .i64 rd) := H1.out.act.cell 10
      go_wp2_with fail
      refine (rover_any B m d p _ v0 v on (st C 1 (b + 1)) _ w0 _ H1.out 2 rd).mono ?_
      rintro e w2 ⟨rfl, h9⟩
      have H2 := Lib.hid h9
      clear h9
      go_wp2_with fail
      go_ret3
      rw [HP.out]
      exact ⟨rfl, v, H2.out⟩
    · have hP : pstep ((0 : Nat) : Int) C ⟨1, av, 8, b, t, aw, an, nw, ii, rd, 0, 0⟩ = _ := if_neg hq
      have HP := Lib.hid hP
      clear hP
      have g1_9 : w1.cell? ⟨p, 9, none⟩ = some (.int .i64 ii) := H1.out.act.cell 9
      go_wp2_with fail
      refine (rover_any B m d p _ v0 v on (st C 1 (b + 1)) _ w0 _ H1.out 3 0).mono ?_
      rintro e w2 ⟨rfl, h9⟩
      have H2 := Lib.hid h9
      clear h9
      go_wp2_with fail
      go_ret3
      rw [HP.out]
      exact ⟨rfl, v, H2.out⟩
set_option maxRecDepth 100000 in
set_option maxHeartbeats 8000000 in
theorem rpop_any (B m d p : Nat) (n : Int) (v0 v on : Value) (C : List Int) (a : PAct) (w0 w : World) (h : RStp w0 w B m d p n v0 v on C a) (hn : n + 3 ≤ 4611686018427387904) (hS : Safe 0 C a) (hk : a.kind = 1) (h0 : a.told = 0) (g0 : a.got = 0) (hi : a.kind = 1 → a.at_ ≤ 7 → a.i = 0) (hv : a.at_ = 0 ∨ a.at_ = 1 ∨ a.at_ = 2 ∨ a.at_ = 3 ∨ a.at_ = 4 ∨ a.at_ = 5 ∨ a.at_ = 6 ∨ a.at_ = 7 ∨ a.at_ = 8) :
    Calls Try.prog 33 #[.pointer (some ⟨p, 0, none⟩)] w fun e w' => e = .returned (.tuple #[.int .u8 ((pstep (0 : Nat) C a).what : Int), .int .i64 (pstep (0 : Nat) C a).val, .int .i64 0]) ∧ ∃ v', RStp w0 w' B m d p (n + cnt a) v0 v' on (pstep (0 : Nat) C a).C (pstep (0 : Nat) C a).a := by
  rcases hv with hv | hv | hv | hv | hv | hv | hv | hv | hv
  · exact rpop0 B m d p n v0 v on C a w0 w h hn hS hk h0 g0 hi hv
  · exact rpop1 B m d p n v0 v on C a w0 w h hn hS hk h0 g0 hi hv
  · exact rpop2 B m d p n v0 v on C a w0 w h hn hS hk h0 g0 hi hv
  · exact rpop3 B m d p n v0 v on C a w0 w h hn hS hk h0 g0 hi hv
  · exact rpop4 B m d p n v0 v on C a w0 w h hn hS hk h0 g0 hi hv
  · exact rpop5 B m d p n v0 v on C a w0 w h hn hS hk h0 g0 hi hv
  · exact rpop6 B m d p n v0 v on C a w0 w h hn hS hk h0 g0 hi hv
  · exact rpop7 B m d p n v0 v on C a w0 w h hn hS hk h0 g0 hi hv
  · exact rpop8 B m d p n v0 v on C a w0 w h hn hS hk h0 g0 hi hv
end Go.Proofs.Ytmghlhngdopifaa
