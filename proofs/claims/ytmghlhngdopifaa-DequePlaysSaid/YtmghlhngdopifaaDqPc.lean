/- DequePlays: deques begin: the program's, the document's. -/
import Derived.Test.YtmghlhngdopifaaDqPb
namespace Go.Proofs.Ytmghlhngdopifaa
open Go.RowKit
set_option linter.unusedVariables false
set_option maxRecDepth 100000 in
set_option maxHeartbeats 1000000 in
theorem dnew2_any (B m : Nat) (v : Value) (lg : Nat) (hl : lg ≤ 8) (w : World) (h : CMem w B m 0 v []) :
    Calls Try.prog 9 #[.pointer (some ⟨m, 0, none⟩), .int .i64 (lg : Int)] w fun e w' => ∃ d v', e = .returned (.tuple #[.pointer (some ⟨d, 0, none⟩), .int .i64 0]) ∧ MachW w' B m d 0 0 v' (newC (2 ^ lg)) [] [] none ∧ Only (fun x => B ≤ x) w w' ∧ Only (mine m v) w w' := by
  obtain ⟨i1, hi1, hy0, hy1, hy2⟩ := info_parts (show (Try.prog.info? 2).map (fun i => (i.zero, i.size, i.bytes)) = some (some (.int .i64 0), 1, 8) by kernel_rfl)
  obtain ⟨N, hN⟩ : ∃ N : Nat, N = 2 ^ lg := ⟨_, rfl⟩
  have hN1 : 1 ≤ N := by rw [hN]; exact Nat.one_le_two_pow
  have hN2 : N ≤ 256 := by rw [hN]; exact Nat.le_trans (Nat.pow_le_pow_right (by decide) hl) (by decide)
  rw [← hN]
  have hpw : wrap64 ((2 : Int) ^ lg) = (N : Int) := by
    have e : ((2 : Int) ^ lg) = (N : Int) := by rw [hN]; push_cast; rfl
    rw [e]
    exact IntWalk.wrap64_in (N : Int) (by omega)
  have hNC : ¬ (281474976710656 < Builtin.nextslicecap (4 + N) 4 * 8) := by
    unfold Builtin.nextslicecap
    split <;> (try split) <;> omega
  have hbt : Try.t2.bytes = 8 := rfl
  have hN8 : ¬ (281474976710656 < (N : Int) * 8) := by omega
  have HH := Lib.hid h
  have hlg : ¬ (lg : Int) < 0 := by omega
  have hlg2 : ¬ (8 : Int) < (lg : Int) := by omega
  clear h hN
  go_enter Try.func9, Try.ntmps9
  go_wp2_with fail
  refine (len_any B m 0 v [] w HH.out).mono ?_
  rintro e w1 ⟨rfl, rfl⟩
  go_wp2_with fail
  obtain ⟨cp, hcp⟩ : ∃ cp, cp = (Question.appendCap (4 + N) 4 2).cut (w.tape w.drawn (Question.appendCap (4 + N) 4 2)) := ⟨_, rfl⟩
  rw [← hcp]
  obtain ⟨g, hg⟩ : ∃ g, g = w.heap.size + 1 := ⟨_, rfl⟩
  rw [← hg]
  obtain ⟨W3, hW3⟩ : ∃ W3, W3 = ((w.alloc (.cells #[.int .i64 0, .int .i64 0, .int .i64 3, .int .i64 (N : Int)] 2)).alloc (.cells (#[.int .i64 0, .int .i64 0, .int .i64 3, .int .i64 (N : Int)] ++ (Builtin.zeroCells #[.int .i64 0] N ++ Builtin.zeroCells #[.int .i64 0] (cp - (4 + N)))) 2)).drew := ⟨_, rfl⟩
  rw [← hW3]
  have o3 : Only (fun _ => False) w W3 := by rw [hW3]; exact (((Only.refl _ w).alloc _).alloc _).drew
  have hb3 : Blk W3 g 2 (#[.int .i64 0, .int .i64 0, .int .i64 3, .int .i64 (N : Int)] ++ (Builtin.zeroCells #[.int .i64 0] N ++ Builtin.zeroCells #[.int .i64 0] (cp - (4 + N)))) := by
    rw [hW3, hg]
    have := Blk.new (w.alloc (.cells #[.int .i64 0, .int .i64 0, .int .i64 3, .int .i64 (N : Int)] 2)) 2 (#[.int .i64 0, .int .i64 0, .int .i64 3, .int .i64 (N : Int)] ++ (Builtin.zeroCells #[.int .i64 0] N ++ Builtin.zeroCells #[.int .i64 0] (cp - (4 + N))))
    have hs : (w.alloc (.cells #[.int .i64 0, .int .i64 0, .int .i64 3, .int .i64 (N : Int)] 2)).heap.size = w.heap.size + 1 := by simp
    rw [hs] at this
    exact this
  have hlen : (newC N).length = 4 + N := by simp [newC]; omega
  have hrd : Reads W3 (g + 1) 1 (some ⟨g, 0, none⟩) (newC N).length ((newC N).map (.int .i64)) :=
    ⟨by simp, fun _ => ⟨_, rfl, by simp, fun j u hu => by
      rw [show (⟨g, 0, none⟩ : Addr).add j = ⟨g, j, none⟩ by simp [Addr.add]; exact fun h => h.symm]
      rw [hb3.cell, ← Array.getElem?_toList]
      simp only [Array.toList_append, toList_zeros]
      have hm : (newC N).map (Value.int .i64) = [.int .i64 0, .int .i64 0, .int .i64 3, .int .i64 (N : Int)] ++ List.replicate N (.int .i64 0) := by simp [newC]
      rw [hm] at hu
      rw [← List.append_assoc, List.getElem?_append_left (List.getElem?_eq_some_iff.1 hu).1]
      exact hu⟩⟩
  have hBw : B ≤ w.heap.size := by have := HH.out.base; have := HH.out.blk.lt; omega
  have hmore := more_any B m 0 v [] (newC N) (g + 1) (some ⟨g, 0, none⟩) cp W3 (HH.out.only o3 (fun e => e) (fun _ _ e => e)) hrd (by simp) (by rw [hlen]; unfold maxLen; omega) (Nat.le_trans hBw o3.size)
  have hMA : moreA [] (newC N) = 0 := by unfold moreA; rw [hlen]; rw [if_neg (by simp; omega)]; rfl
  have hME : moreE [] (newC N) = 0 := by unfold moreE; rw [hlen]; rw [if_neg (by simp; omega)]
  have hMX : moreX [] (newC N) = newC N := by unfold moreX; rw [hlen]; rw [if_neg (by simp; omega)]; rfl
  rw [hlen, hMA, hME, hMX] at hmore
  have HMO := Lib.hid hmore
  have HO3 := Lib.hid o3
  have HBW := Lib.hid hBw
  clear hmore hrd hb3 o3 hlen hMA hME hMX hBw hcp hg hW3
  refine HMO.out.mono ?_
  rintro e w4 ⟨rfl, ⟨v', k1, k2⟩, k3⟩
  have K1 := Lib.hid k1
  have K3 := Lib.hid k3
  clear k1 k2 k3
  go_wp2_with fail
  go_ret2
  have e0 : ld (newC N) ((0 : Nat) : Int) = 0 := by
    unfold ld; rw [if_pos ⟨by omega, by simp [newC]; omega⟩]; rfl
  have e1 : ld (newC N) (((0 : Nat) : Int) + 1) = 0 := by
    unfold ld; rw [if_pos ⟨by omega, by simp [newC]; omega⟩]; rfl
  have o4 : Only (fun x => B ≤ x) w w4 := (HO3.out.mono (T := fun x => B ≤ x) fun _ e => e.elim).trans (K3.out.mono fun x hx => by
    rcases hx with rfl | e
    · exact HH.out.base
    · rcases owns_form HH.out.own with ⟨rfl, _⟩ | ⟨g', cap, rfl, _, _, hg, _⟩
      · cases e
      · cases e; exact hg)
  refine ⟨w4.heap.size, v', rfl, ⟨⟨?_, ?_, Nat.le_trans HBW.out o4.size⟩, fun i a ha => by simp at ha, rfl, List.nodup_nil, fun p hp => by simp at hp⟩, ?_⟩
  · exact K1.out.only ((Only.refl (fun _ => False) w4).alloc _) (fun e => e) (fun _ _ e => e)
  · rw [e0, e1]
    exact Blk.new w4 _ _
  · exact ⟨o4.alloc _, ((HO3.out.mono (T := mine m v) fun _ e => e.elim).trans K3.out).alloc _⟩
set_option maxRecDepth 100000 in
theorem dnew_bad (m : Nat) (lg : Int) (hl : lg < 0 ∨ 8 < lg) (w : World) :
    Calls Try.prog 9 #[.pointer (some ⟨m, 0, none⟩), .int .i64 lg] w fun e w' => e = .returned (.tuple #[.pointer none, .int .i64 2]) ∧ w = w' := by
  go_enter Try.func9, Try.ntmps9
  by_cases h0 : lg < 0
  · go_wp2_with fail
    go_ret2
    exact ⟨rfl, rfl⟩
  · have h8 : 8 < lg := by omega
    go_wp2_with fail
    go_ret2
    exact ⟨rfl, rfl⟩
theorem newC_made (N : Nat) : ((madeCells (Value.int .i64 0).cells ((4 + N) * 1)).setIfInBounds 2 (.int .i64 3)).setIfInBounds 3 (.int .i64 (N : Int)) = ((newC N).map (Value.int .i64)).toArray := by
  have : (Value.int .i64 0).cells = #[.int .i64 0] := rfl
  apply Array.toList_inj.1
  rw [this, Nat.mul_one, Array.toList_setIfInBounds, Array.toList_setIfInBounds, toList_madeCells_one]
  rw [show 4 + N = N + 1 + 1 + 1 + 1 by omega]
  simp [newC, List.replicate_succ]
set_option maxRecDepth 100000 in
set_option maxHeartbeats 1000000 in
theorem rnew_any (B m : Nat) (lg : Nat) (hl : lg ≤ 8) (w : World) (h : DMem w B m 0 (.slice none 0 0) []) :
    Calls Try.prog 19 #[.pointer (some ⟨m, 0, none⟩), .int .i64 (lg : Int)] w fun e w' => ∃ d v', e = .returned (.pointer (some ⟨d, 0, none⟩)) ∧ RMach w' B m d 0 v' (newC (2 ^ lg)) [] [] none ∧ Only (fun x => x = m) w w' ∧ (∀ k, v'.ownBlock = some k → w.heap.size ≤ k) := by
  obtain ⟨i1, hi1, hy0, hy1, hy2⟩ := info_parts (show (Try.prog.info? 2).map (fun i => (i.zero, i.size, i.bytes)) = some (some (.int .i64 0), 1, 8) by kernel_rfl)
  obtain ⟨N, hN⟩ : ∃ N : Nat, N = 2 ^ lg := ⟨_, rfl⟩
  have hN1 : 1 ≤ N := by rw [hN]; exact Nat.one_le_two_pow
  have hN2 : N ≤ 256 := by rw [hN]; exact Nat.le_trans (Nat.pow_le_pow_right (by decide) hl) (by decide)
  rw [← hN]
  have hpw : wrap64 ((2 : Int) ^ lg) = (N : Int) := by
    have e : ((2 : Int) ^ lg) = (N : Int) := by rw [hN]; push_cast; rfl
    rw [e]
    exact IntWalk.wrap64_in (N : Int) (by omega)
  have m0 : w.cell? ⟨m, 0, none⟩ = some (.slice none 0 0) := h.blk.cell 0
  obtain ⟨pb, hpb⟩ : ∃ pb, pb = w.heap.size := ⟨_, rfl⟩
  obtain ⟨wp, hwp⟩ : ∃ wp, wp = w.alloc (.cells (madeCells (Value.int .i64 0).cells ((4 + N) * 1)) 2) := ⟨_, rfl⟩
  have hm := run_make_rowN 47 2 i1 (.int .i64 0) (by kernel_rfl) hi1 hy0 .i64 .i64 (4 + N) (4 + N) (Nat.le_refl _) (by rw [hy2]; omega) (by omega) w
  rw [hy1, ← hpb, ← hwp, show ((4 + N : Nat) : Int) = 4 + (N : Int) by push_cast; rfl] at hm
  have hbl : Blk wp pb 2 (madeCells (Value.int .i64 0).cells ((4 + N) * 1)) := by rw [hwp, hpb]; exact Blk.new w _ _
  have e2 : wp.cell? ⟨pb, 2, none⟩ = some (.int .i64 0) := by
    rw [hbl.cell, ← Array.getElem?_toList, show (Value.int .i64 0).cells = #[.int .i64 0] from rfl, Nat.mul_one, toList_madeCells_one]
    rw [List.getElem?_replicate, if_pos (by omega)]
  have e3 : wp.cell? ⟨pb, 3, none⟩ = some (.int .i64 0) := by
    rw [hbl.cell, ← Array.getElem?_toList, show (Value.int .i64 0).cells = #[.int .i64 0] from rfl, Nat.mul_one, toList_madeCells_one]
    rw [List.getElem?_replicate, if_pos (by omega)]
  have g2 : wp.frozen? ⟨pb, 2, none⟩ = false := hbl.frozen 2
  have g3 : wp.frozen? ⟨pb, 3, none⟩ = false := hbl.frozen 3
  obtain ⟨wn, hwn⟩ : ∃ wn, wn = (wp.setCell ⟨pb, 2, none⟩ (.int .i64 3)).setCell ⟨pb, 3, none⟩ (.int .i64 (N : Int)) := ⟨_, rfl⟩
  have hfr : Blk wn pb 2 ((newC N).map (Value.int .i64)).toArray := by
    rw [← newC_made, hwn]; exact (hbl.set_ 2 _).set_ 3 _
  have o1 : Only (fun _ => False) w wp := by rw [hwp]; exact (Only.refl _ w).alloc _
  have o2 : Only (fun x => x = pb) wp wn := by rw [hwn]; exact ((Only.refl (fun x => x = pb) wp).setCell (p := ⟨pb, 2, none⟩) (.inl rfl) _).setCell (p := ⟨pb, 3, none⟩) (.inl rfl) _
  have o3 : Only (fun _ => False) w wn := o1.trans' o2 (fun x hx => .inr (by rw [hx, hpb]; exact Nat.le_refl _))
  have hmn : DMem wn B m 0 (.slice none 0 0) [] := h.only o3 (fun e => e) (fun _ _ e => e)
  have hlen : (newC N).length = 4 + N := by simp [newC]; omega
  have hrd : Reads wn (pb + 1) 1 (some ⟨pb, 0, none⟩) (newC N).length ((newC N).map (.int .i64)) :=
    ⟨by simp, fun _ => ⟨_, rfl, by simp, fun j u hu => by rw [show (⟨pb, 0, none⟩ : Addr).add j = ⟨pb, j, none⟩ by simp [Addr.add]; exact fun h => h.symm]; rw [hfr.cell, List.getElem?_toArray]; exact hu⟩⟩
  have hBw : B ≤ wn.heap.size := by have := h.base; have := h.blk.lt; have := o3.size; omega
  have hmore := dmore_any B m 0 (.slice none 0 0) [] (newC N) (pb + 1) (some ⟨pb, 0, none⟩) (4 + N) wn hmn hrd (by simp) (by rw [hlen]; unfold maxLen; omega) hBw
  have hMA : moreA [] (newC N) = 0 := by unfold moreA; rw [hlen]; rw [if_neg (by simp; omega)]; rfl
  have hME : moreE [] (newC N) = 0 := by unfold moreE; rw [hlen]; rw [if_neg (by simp; omega)]
  have hMX : moreX [] (newC N) = newC N := by unfold moreX; rw [hlen]; rw [if_neg (by simp; omega)]; rfl
  rw [hlen, hMA, hME, hMX] at hmore
  have hpm : pb ≠ m := by have := h.blk.lt; omega
  have HMO := Lib.hid hmore
  have HO3 := Lib.hid o3
  have HBW := Lib.hid hBw
  have HWN := Lib.hid hwn
  have HB := Lib.hid h.base
  have hN4 : (0 : Int) < 4 + (N : Int) := by omega
  have hN5 : (2 : Int) < 4 + (N : Int) := by omega
  have hN6 : (3 : Int) < 4 + (N : Int) := by omega
  clear h hN hpb hwp hbl hwn hfr o1 o2 o3 hmn hlen hrd hBw hmore hMA hME hMX
  go_enter Try.func19, Try.ntmps19
  go_wp2_with fail
  rw [← HWN.out]
  refine HMO.out.mono ?_
  rintro e w4 ⟨rfl, ⟨v', k1, k2⟩, k3⟩
  have K1 := Lib.hid k1
  have K2 := Lib.hid k2
  have K3 := Lib.hid k3
  clear k1 k2 k3 e2 e3 g2 g3 hm m0
  go_wp2_with fail
  go_ret
  have o4 : Only (fun x => x = m) w w4 := (HO3.out.mono (T := fun x => x = m) fun _ e => e.elim).trans (K3.out.mono fun x hx => by
    rcases hx with rfl | e
    · rfl
    · cases e)
  refine ⟨w4.heap.size, v', rfl, ⟨K1.out.only ((Only.refl (fun _ => False) w4).alloc _) (fun e => e) (fun _ _ e => e), Blk.new w4 _ _, fun i a ha => by simp at ha, rfl, List.nodup_nil, Nat.le_trans HBW.out K3.out.size, fun q hq => by simp at hq⟩, o4.alloc _, fun k hk => ?_⟩
  rcases K2.out k hk with e | e
  · cases e
  · exact Nat.le_trans HO3.out.size e
end Go.Proofs.Ytmghlhngdopifaa
