/- Several texts in one: BkI. -/
import Derived.Test.YtmneflpjoaocbaaMBkH
/- Books: the walk of anew: sectors are made anew by a stream. No conditions beyond what it states. -/
namespace Go.Proofs.Ytmneflpjoaocbaa
open Go.RowKit
set_option linter.unusedVariables false
theorem turnFrom_len (n f : Nat) (wf : Nat → List UInt8 → List UInt8) : ∀ (ts : List (List UInt8)) (k : Nat) (S : Dst), (turnFrom n f wf k ts S).2.2.1.length = ts.length
  | [], _, _ => rfl
  | t :: r, k, S => by
    unfold turnFrom
    split
    · simp [turnFrom_len n f wf r (k + 1) S]
    · simp only
      split
      · simp [turnFrom_len n f wf r (k + 1) _]
      · rfl
theorem turnS_len (n f : Nat) (wf : Nat → List UInt8 → List UInt8) (ts : List (List UInt8)) (S : Dst) : (turnS n f wf ts S).2.2.length = ts.length := by
  unfold turnS
  simp only
  split
  · split <;> exact turnFrom_len n f wf ts 0 S
  · exact turnFrom_len n f wf ts 0 S
/-- sectors are made anew: first their counts, then all of them -/
def anewS (n f : Nat) (s : List UInt8) (ts : List (List UInt8)) (S : Dst) : Int × Dst × List (List UInt8) :=
  let x := turnS n f (countW s) ts S
  if x.1 = 0 then turnS n f (fun k _ => madeL s k) x.2.2 x.2.1 else x
theorem countW_len (s : List UInt8) (k : Nat) (t : List UInt8) : (countW s k t).length ≤ 1000 := by
  have := madeL_len s k
  simp [countW]
  omega
set_option maxHeartbeats 4000000 in
set_option maxRecDepth 100000 in
theorem anew_any (p gs n f nn : Nat) (S : Dst) (B m : Nat) (ts : List (List UInt8)) (s : List UInt8) (g c base : Nat) (w : World)
    (D : DkS w p gs n S B m) (hown : w.ownsRow base 9 1 (.slice (some ⟨g, 0, none⟩) ts.length c) ts.length (strsV ts)) (hgB : B ≤ g)
    (hf : f ≤ 4096) (hn : ts.length ≤ 4096) (hm : m + 12000 ≤ 1000000) (hs : s.length ≤ 1000000000) (hall : ∀ t ∈ ts, t.length = 128) :
    Calls Try.prog 22 #[partV p f nn, .slice (some ⟨g, 0, none⟩) ts.length c, .string (sB s)] w fun e w' =>
      e = .returned (.int .i64 (anewS n f s ts S).1) ∧ DkS w' p gs n (anewS n f s ts S).2.1 B (m + 2 * ts.length + 2) ∧
      FarX (fun b => b = g) w w' ∧ Only (fun b => B ≤ b) w w' := by
  have hgl : g < w.heap.size := by
    obtain ⟨_, hb⟩ := own_blk hown
    exact hb.lt
  obtain ⟨w1, hw1⟩ : ∃ w1, w1 = ((w.alloc (.cells #[.pointer (some ⟨p, 0, none⟩), .int .i64 f, .int .i64 nn] 46)).alloc (.cells #[.slice (some ⟨g, 0, none⟩) ts.length c] 24)).alloc (.cells #[.string (sB s)] 9) := ⟨_, rfl⟩
  have o1 : Only (fun _ => False) w w1 := by rw [hw1]; exact (((Only.refl _ w).alloc _).alloc _).alloc _
  obtain ⟨q, hq⟩ : ∃ q, q = w.heap.size := ⟨_, rfl⟩
  have b0 : Blk w1 q 46 #[.pointer (some ⟨p, 0, none⟩), .int .i64 f, .int .i64 nn] := by rw [hw1, hq]; exact ((Blk.new w _ _).alloc _).alloc _
  have b1 : Blk w1 (q + 1) 24 #[.slice (some ⟨g, 0, none⟩) ts.length c] := by
    have := (Blk.new (w.alloc (.cells #[.pointer (some ⟨p, 0, none⟩), .int .i64 f, .int .i64 nn] 46)) 24 #[.slice (some ⟨g, 0, none⟩) ts.length c]).alloc (.cells #[.string (sB s)] 9)
    rw [hw1, hq]; simpa using this
  have b2 : Blk w1 (q + 2) 9 #[.string (sB s)] := by
    have := Blk.new ((w.alloc (.cells #[.pointer (some ⟨p, 0, none⟩), .int .i64 f, .int .i64 nn] 46)).alloc (.cells #[.slice (some ⟨g, 0, none⟩) ts.length c] 24)) 9 #[.string (sB s)]
    rw [hw1, hq]; simpa using this
  have HO1 := Lib.hid o1
  have B0 := Lib.hid b0
  have B1 := Lib.hid b1
  have B2 := Lib.hid b2
  have HN := Lib.hid (show g < q by omega)
  have HG := Lib.hid hgB
  have HALL := Lib.hid hall
  have HD := Lib.hid (D.only o1)
  have HR := Lib.hid (o1.owns hown (fun _ _ h => h))
  have c0 : w1.cell? ⟨q, 0, none⟩ = some (.pointer (some ⟨p, 0, none⟩)) := b0.cell 0
  have c1 : w1.cell? ⟨q, 1, none⟩ = some (.int .i64 f) := b0.cell 1
  have c2 : w1.cell? ⟨q, 2, none⟩ = some (.int .i64 nn) := b0.cell 2
  have c3 : w1.cell? ⟨q + 1, 0, none⟩ = some (.slice (some ⟨g, 0, none⟩) ts.length c) := b1.cell 0
  have HW := Lib.hid hw1.symm
  have HQ := Lib.hid hq.symm
  have e1 : Hid (∀ xs w, (callFunc 40 xs).run Try.prog w = .ok (.enter 40 xs) w) := Lib.hid (fun xs w => enters_of Try.func40 (by kernel_rfl) rfl xs w)
  have e2 : Hid (∀ xs w, (callFunc 41 xs).run Try.prog w = .ok (.enter 41 xs) w) := Lib.hid (fun xs w => enters_of Try.func41 (by kernel_rfl) rfl xs w)
  obtain ⟨x, hx⟩ : ∃ x, x = turnS n f (countW s) ts S := ⟨_, rfl⟩
  obtain ⟨R, hR⟩ : ∃ R, R = anewS n f s ts S := ⟨_, rfl⟩
  have hRx : R = (if x.1 = 0 then turnS n f (fun k _ => madeL s k) x.2.2 x.2.1 else x) := by rw [hR, hx]; rfl
  have hxl : x.2.2.length = ts.length := by rw [hx]; exact turnS_len _ _ _ _ _
  rw [← hR]
  have HRX := Lib.hid hRx
  have HX := Lib.hid hx
  have HXL := Lib.hid hxl
  clear D hown o1 b0 b1 b2 hw1 hq hgB hgl hall hR hRx hx hxl
  unfold partV
  go_enter Try.func22, Try.ntmps22
  go_wp2_with fail
  rw [HW.out, HQ.out]
  simp only [Nat.add_assoc, Nat.reduceAdd]
  have ht := turn_any p gs n f nn S B m ts (countW s) g c base 40 #[.pointer (some ⟨q + 1, 0, none⟩), .pointer (some ⟨q + 2, 0, none⟩)] w1 HD.out HR.out HG.out hf hn (by omega) (fun k t => countW_len s k t) e1.out (fun W k t xs hF ho hx htk => by
    have hkl : k < ts.length := (List.getElem?_eq_some_iff.1 htk).1
    have d1 := hF.blk _ _ _ B1.out nDT_strings (by have := HN.out; omega)
    have d2 := hF.blk _ _ _ B2.out nDT_string (by have := HN.out; omega)
    obtain ⟨g', cap, hgv, _, hgW, hcells⟩ := own_cells ho (by omega)
    obtain ⟨rfl, rfl⟩ : g = g' ∧ c = cap := by injection hgv with h1 h2 h3; injection h1 with h1; injection h1 with h1; exact ⟨h1, h3⟩
    refine (anew1_any s k ts.length c (q + 1) (q + 2) g t W hs (by omega) hkl (HALL.out t (List.mem_of_getElem? htk)) (Lib.hid (d1.cell 0)) (Lib.hid (d2.cell 0)) (Lib.hid (hcells _ _ (by rw [strsV, List.getElem?_map, hx]; rfl))) (Lib.hid d1.lt) (Lib.hid d2.lt) (Lib.hid hgW)).mono ?_
    rintro e W' ⟨he, hb⟩
    exact ⟨he, Only.below_ hb⟩)
  rw [← HX.out] at ht
  unfold partV at ht
  refine ht.mono ?_
  rintro e w2 ⟨rfl, k1, k2, k3, k4⟩
  have K1 := Lib.hid k1
  have K2 := Lib.hid k2
  have K3 := Lib.hid k3
  have K4 := Lib.hid k4
  clear k1 k2 k3 k4 ht c0 c1 c2 c3
  by_cases hx0 : x.1 = 0
  · have d0 := K3.out.blk _ _ _ B0.out nDT_part (by have := HN.out; omega)
    have d1 := K3.out.blk _ _ _ B1.out nDT_strings (by have := HN.out; omega)
    have d2 := K3.out.blk _ _ _ B2.out nDT_string (by have := HN.out; omega)
    have D2 := Lib.hid d2
    have c0 : w2.cell? ⟨q, 0, none⟩ = some (.pointer (some ⟨p, 0, none⟩)) := d0.cell 0
    have c1 : w2.cell? ⟨q, 1, none⟩ = some (.int .i64 f) := d0.cell 1
    have c2 : w2.cell? ⟨q, 2, none⟩ = some (.int .i64 nn) := d0.cell 2
    have c3 : w2.cell? ⟨q + 1, 0, none⟩ = some (.slice (some ⟨g, 0, none⟩) ts.length c) := d1.cell 0
    have hR : Hid (R = turnS n f (fun k _ => madeL s k) x.2.2 x.2.1) := Lib.hid (by rw [HRX.out, if_pos hx0])
    clear d0 d1 d2
    go_wp2_with fail
    have ht := turn_any p gs n f nn x.2.1 B (m + ts.length + 1) x.2.2 (fun k _ => madeL s k) g c base 41 #[.pointer (some ⟨q + 2, 0, none⟩)] w2 K1.out (by rw [HXL.out]; exact K2.out) HG.out hf (by rw [HXL.out]; exact hn) (by omega) (fun k t => by rw [madeL_len]; omega) e2.out (fun W k t xs hF ho hx htk => by
      have hkl : k < x.2.2.length := (List.getElem?_eq_some_iff.1 htk).1
      rw [HXL.out] at hkl
      have d2 := hF.blk _ _ _ D2.out nDT_string (by have := HN.out; omega)
      refine (anew2_any s k (q + 2) W hs (by omega) (d2.cell 0)).mono ?_
      rintro e W' ⟨he, hb⟩
      exact ⟨he, Only.below_ hb⟩)
    rw [HXL.out, ← hR.out] at ht
    unfold partV at ht
    refine ht.mono ?_
    rintro e w3 ⟨rfl, k1, k2, k3, k4⟩
    have J1 := Lib.hid k1
    have J3 := Lib.hid k3
    have J4 := Lib.hid k4
    clear k1 k2 k3 k4 ht c0 c1 c2 c3
    go_wp2_with fail
    go_ret
    exact ⟨rfl, J1.out.more (by omega) (by omega), ((FarX.none HO1.out).trans K3.out).trans J3.out, ((HO1.out.mono fun _ h => h.elim).trans K4.out).trans J4.out⟩
  · have hR : Hid (R = x) := Lib.hid (by rw [HRX.out, if_neg hx0])
    go_wp2_with fail
    go_ret
    rw [hR.out]
    exact ⟨rfl, K1.out.more (by omega) (by omega), (FarX.none HO1.out).trans K3.out, (HO1.out.mono fun _ h => h.elim).trans K4.out⟩
end Go.Proofs.Ytmneflpjoaocbaa
