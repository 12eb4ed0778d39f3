/- Deques: a new one. -/
import Derived.Test.YtmghlhngdopifaaDqX
namespace Go.Proofs.Ytmghlhngdopifaa
open Go.RowKit Go.WideShapes Go.ChangeShapes Go.ChangeAt
set_option linter.unusedVariables false
theorem toList_zeros (n : Nat) : (Builtin.zeroCells #[Value.int .i64 0] n).toList = List.replicate n (.int .i64 0) := by
  apply List.ext_getElem?
  intro j
  simp only [Builtin.zeroCells, Array.toList_map, Array.toList_range, List.getElem?_map, List.getElem?_replicate]
  by_cases hj : j < n
  · simp [hj, Nat.mod_one]
  · simp [hj]
set_option maxRecDepth 100000 in
set_option maxHeartbeats 1000000 in
theorem dnew_any (B m : Nat) (v : Value) (lg : Nat) (hl : lg ≤ 8) (w : World) (h : CMem w B m 0 v []) :
    Calls Try.prog 9 #[.pointer (some ⟨m, 0, none⟩), .int .i64 (lg : Int)] w fun e w' => ∃ d v', e = .returned (.tuple #[.pointer (some ⟨d, 0, none⟩), .int .i64 0]) ∧ MachW w' B m d 0 0 v' (newC (2 ^ lg)) [] [] none ∧ Only (fun x => B ≤ x) w w' := by
  obtain ⟨i1, hi1, hy0, hy1, hy2⟩ := info_parts (show (Try.prog.info? 2).map (fun i => (i.zero, i.size, i.bytes)) = some (some (.int .i64 0), 1, 8) by kernel_rfl)
  obtain ⟨N, hN⟩ : ∃ N : Nat, N = 2 ^ lg := ⟨_, rfl⟩
  have hN1 : 1 ≤ N := by rw [hN]; exact Nat.one_le_two_pow
  have hN2 : N ≤ 256 := by rw [hN]; exact Nat.le_trans (Nat.pow_le_pow_right (by decide) hl) (by decide)
  rw [← hN]
  have hpw : wrap64 ((2 : Int) ^ lg) = (N : Int) := by
    have e : ((2 : Int) ^ lg) = (N : Int) := by rw [hN]; push_cast; rfl
    rw [e]
    exact IntWalk.wrap64_in (N : Int) (by omega)
  have hNC : ¬ (281474976710656 < Builtin.nextslicecap (4 + N) 4 * 8) := by
    unfold Builtin.nextslicecap
    split <;> (try split) <;> omega
  have hbt : Try.t2.bytes = 8 := rfl
  have hN8 : ¬ (281474976710656 < (N : Int) * 8) := by omega
  have HH := Lib.hid h
  have hlg : ¬ (lg : Int) < 0 := by omega
  have hlg2 : ¬ (8 : Int) < (lg : Int) := by omega
  clear h hN
  go_enter Try.func9, Try.ntmps9
  go_wp2_with fail
  refine (len_any B m 0 v [] w HH.out).mono ?_
  rintro e w1 ⟨rfl, rfl⟩
  go_wp2_with fail
  obtain ⟨cp, hcp⟩ : ∃ cp, cp = (Question.appendCap (4 + N) 4 2).cut (w.tape w.drawn (Question.appendCap (4 + N) 4 2)) := ⟨_, rfl⟩
  rw [← hcp]
  obtain ⟨g, hg⟩ : ∃ g, g = w.heap.size + 1 := ⟨_, rfl⟩
  rw [← hg]
  obtain ⟨W3, hW3⟩ : ∃ W3, W3 = ((w.alloc (.cells #[.int .i64 0, .int .i64 0, .int .i64 3, .int .i64 (N : Int)] 2)).alloc (.cells (#[.int .i64 0, .int .i64 0, .int .i64 3, .int .i64 (N : Int)] ++ (Builtin.zeroCells #[.int .i64 0] N ++ Builtin.zeroCells #[.int .i64 0] (cp - (4 + N)))) 2)).drew := ⟨_, rfl⟩
  rw [← hW3]
  have o3 : Only (fun _ => False) w W3 := by rw [hW3]; exact (((Only.refl _ w).alloc _).alloc _).drew
  have hb3 : Blk W3 g 2 (#[.int .i64 0, .int .i64 0, .int .i64 3, .int .i64 (N : Int)] ++ (Builtin.zeroCells #[.int .i64 0] N ++ Builtin.zeroCells #[.int .i64 0] (cp - (4 + N)))) := by
    rw [hW3, hg]
    have := Blk.new (w.alloc (.cells #[.int .i64 0, .int .i64 0, .int .i64 3, .int .i64 (N : Int)] 2)) 2 (#[.int .i64 0, .int .i64 0, .int .i64 3, .int .i64 (N : Int)] ++ (Builtin.zeroCells #[.int .i64 0] N ++ Builtin.zeroCells #[.int .i64 0] (cp - (4 + N))))
    have hs : (w.alloc (.cells #[.int .i64 0, .int .i64 0, .int .i64 3, .int .i64 (N : Int)] 2)).heap.size = w.heap.size + 1 := by simp
    rw [hs] at this
    exact this
  have hlen : (newC N).length = 4 + N := by simp [newC]; omega
  have hrd : Reads W3 (g + 1) 1 (some ⟨g, 0, none⟩) (newC N).length ((newC N).map (.int .i64)) :=
    ⟨by simp, fun _ => ⟨_, rfl, by simp, fun j u hu => by
      rw [show (⟨g, 0, none⟩ : Addr).add j = ⟨g, j, none⟩ by simp [Addr.add]; exact fun h => h.symm]
      rw [hb3.cell, ← Array.getElem?_toList]
      simp only [Array.toList_append, toList_zeros]
      have hm : (newC N).map (Value.int .i64) = [.int .i64 0, .int .i64 0, .int .i64 3, .int .i64 (N : Int)] ++ List.replicate N (.int .i64 0) := by simp [newC]
      rw [hm] at hu
      rw [← List.append_assoc, List.getElem?_append_left (List.getElem?_eq_some_iff.1 hu).1]
      exact hu⟩⟩
  have hBw : B ≤ w.heap.size := by have := HH.out.base; have := HH.out.blk.lt; omega
  have hmore := more_any B m 0 v [] (newC N) (g + 1) (some ⟨g, 0, none⟩) cp W3 (HH.out.only o3 (fun e => e) (fun _ _ e => e)) hrd (by simp) (by rw [hlen]; unfold maxLen; omega) (Nat.le_trans hBw o3.size)
  have hMA : moreA [] (newC N) = 0 := by unfold moreA; rw [hlen]; rw [if_neg (by simp; omega)]; rfl
  have hME : moreE [] (newC N) = 0 := by unfold moreE; rw [hlen]; rw [if_neg (by simp; omega)]
  have hMX : moreX [] (newC N) = newC N := by unfold moreX; rw [hlen]; rw [if_neg (by simp; omega)]; rfl
  rw [hlen, hMA, hME, hMX] at hmore
  have HMO := Lib.hid hmore
  have HO3 := Lib.hid o3
  have HBW := Lib.hid hBw
  clear hmore hrd hb3 o3 hlen hMA hME hMX hBw hcp hg hW3
  refine HMO.out.mono ?_
  rintro e w4 ⟨rfl, ⟨v', k1, k2⟩, k3⟩
  have K1 := Lib.hid k1
  have K3 := Lib.hid k3
  clear k1 k2 k3
  go_wp2_with fail
  go_ret2
  have e0 : ld (newC N) ((0 : Nat) : Int) = 0 := by
    unfold ld; rw [if_pos ⟨by omega, by simp [newC]; omega⟩]; rfl
  have e1 : ld (newC N) (((0 : Nat) : Int) + 1) = 0 := by
    unfold ld; rw [if_pos ⟨by omega, by simp [newC]; omega⟩]; rfl
  have o4 : Only (fun x => B ≤ x) w w4 := (HO3.out.mono (T := fun x => B ≤ x) fun _ e => e.elim).trans (K3.out.mono fun x hx => by
    rcases hx with rfl | e
    · exact HH.out.base
    · rcases owns_form HH.out.own with ⟨rfl, _⟩ | ⟨g', cap, rfl, _, _, hg, _⟩
      · cases e
      · cases e; exact hg)
  refine ⟨w4.heap.size, v', rfl, ⟨⟨?_, ?_, Nat.le_trans HBW.out o4.size⟩, fun i a ha => by simp at ha, rfl, List.nodup_nil, fun p hp => by simp at hp⟩, ?_⟩
  · exact K1.out.only ((Only.refl (fun _ => False) w4).alloc _) (fun e => e) (fun _ _ e => e)
  · rw [e0, e1]
    exact Blk.new w4 _ _
  · exact o4.alloc _
end Go.Proofs.Ytmghlhngdopifaa
