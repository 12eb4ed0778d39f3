/- Deques: growMore. -/
import Derived.Test.YtmghlhngdopifaaDqL
namespace Go.Proofs.Ytmghlhngdopifaa
open Go.RowKit
set_option linter.unusedVariables false
attribute [local simp] frOf dstsOf frGo predsHold allHold Region.binds slotOf seen Is Act.put
theorem Stp.more {w w' w'' : World} {B m d z p : Nat} {n n' : Int} {v v' v'' on : Value} {C C' : List Int} {c : AC} (h : Stp w w' B m d z p n v v' on C c) (hm : CMem w'' B m n' v'' C') (hN : Newer w' v' v'') (ho : Only (mine m v') w' w'') (h0 : ld C' z = ld C z) (h1 : ld C' ((z : Int) + 1) = ld C ((z : Int) + 1)) : Stp w w'' B m d z p n' v v'' on C' c := by
  refine ⟨⟨hm, ?_, h.dq.base⟩, ho.blk h.act h.pm, h.only.trans' ho (fun i hi => ?_), fun k hk => ?_⟩
  · rw [h0, h1]
    exact ho.blk h.dq.blk h.dq.away
  · rcases hi with hi | hi
    · exact .inl (.inl (.inl hi))
    · rcases h.row i hi with hi | hi
      · exact .inl (.inl (.inr hi))
      · exact .inr hi
  · rcases hN k hk with hi | hi
    · exact h.row k hi
    · exact .inr (by have := h.only.size; omega)
theorem fresh_len {x : Int} (h : 0 ≤ x) : ((fresh x).length : Int) = 1 + 2 * x := by simp [fresh]; omega
theorem fresh_made {x : Int} {L : Nat} (h : 0 ≤ x) (hL : (L : Int) = 1 + 2 * x) : (madeCells (Value.int .i64 0).cells (L * 1)).setIfInBounds 0 (.int .i64 (2 * x)) = ((fresh x).map (Value.int .i64)).toArray := by
  have : (Value.int .i64 0).cells = #[.int .i64 0] := rfl
  apply Array.toList_inj.1
  rw [this, Nat.mul_one, Array.toList_setIfInBounds, toList_madeCells_one]
  obtain ⟨k, rfl⟩ : ∃ k, L = k + 1 := ⟨L - 1, by omega⟩
  have hk : (2 * x).toNat = k := by omega
  simp [fresh, hk, List.replicate_succ]
set_option maxRecDepth 100000 in
set_option maxHeartbeats 1000000 in
theorem growMore_any (B m d z p : Nat) (n : Int) (v on : Value) (C : List Int) (c : AC) (w : World) (h : DqS w B m d z n v C on) (hp : Blk w p 79 (c.arr d)) (hn : n + 2 ≤ 4611686018427387904) (h1 : 1 ≤ c.n) (h2 : c.n ≤ 20000) (hroom : (C.length : Int) + 1 + 2 * c.n ≤ 65536) (hz : (z : Int) + 1 < C.length) :
    Calls Try.prog 58 #[.pointer (some ⟨p, 0, none⟩)] w fun e w' => e = .returned (.int .i64 0) ∧ ∃ v', Stp w w' B m d z p n v v' on (C ++ fresh c.n) { c with nw := C.length, i := c.t, dv := if c.t = c.b then meth 69 p else meth 70 p } := by
  have HS := Lib.hid (Stp.refl h hp)
  have a8 : w.cell? ⟨p, 8, none⟩ = some (.int .i64 c.n) := HS.out.act.cell 8
  have a6 : w.cell? ⟨p, 6, none⟩ = some (.int .i64 c.t) := HS.out.act.cell 6
  have d0 : w.cell? ⟨d, 0, none⟩ = some (.pointer (some ⟨m, 0, none⟩)) := HS.out.dq.blk.cell 0
  have a3 : w.cell? ⟨p, 3, none⟩ = some (.pointer (some ⟨d, 0, none⟩)) := HS.out.act.cell 3
  clear h hp
  obtain ⟨i1, hi1, hy0, hy1, hy2⟩ := info_parts (show (Try.prog.info? 2).map (fun i => (i.zero, i.size, i.bytes)) = some (some (.int .i64 0), 1, 8) by kernel_rfl)
  obtain ⟨dvn, hdv⟩ : ∃ dvn, dvn = if c.t = c.b then meth 69 p else meth 70 p := ⟨_, rfl⟩
  rw [← hdv]
  have HDV := Lib.hid hdv
  obtain ⟨L, hL⟩ : ∃ L : Nat, (L : Int) = 1 + 2 * c.n := ⟨(1 + 2 * c.n).toNat, by omega⟩
  have hL1 : L ≤ 65536 := by omega
  have hL0 : 0 < L := by omega
  have hwr : IntKind.i64.wrap (2 * c.n) = 2 * c.n := IntWalk.i64_in _ (by omega)
  have hwr1 : IntKind.i64.wrap (1 + 2 * c.n) = 1 + 2 * c.n := IntWalk.i64_in _ (by omega)
  obtain ⟨pb, hpb⟩ : ∃ pb, pb = w.heap.size := ⟨_, rfl⟩
  obtain ⟨wp, hwp⟩ : ∃ wp, wp = w.alloc (.cells (madeCells (Value.int .i64 0).cells (L * 1)) 2) := ⟨_, rfl⟩
  have hm := run_make_rowN 47 2 i1 (.int .i64 0) (by kernel_rfl) hi1 hy0 .i64 .i64 L L (Nat.le_refl _) (by rw [hy2]; omega) (by omega) w
  rw [hy1, ← hpb, ← hwp, hL] at hm
  have hbl : Blk wp pb 2 (madeCells (Value.int .i64 0).cells (L * 1)) := by rw [hwp, hpb]; exact Blk.new w _ _
  have e0 : wp.cell? ⟨pb, 0, none⟩ = some (.int .i64 0) := by
    rw [hbl.cell, ← Array.getElem?_toList, show (Value.int .i64 0).cells = #[.int .i64 0] from rfl, Nat.mul_one, toList_madeCells_one]
    simp [hL0]
  have g0 : wp.frozen? ⟨pb, 0, none⟩ = false := hbl.frozen 0
  have HWP : Hid (Stp w wp B m d z p n v v on C c) := Lib.hid (HS.out.quiet (by rw [hwp]; exact (Only.refl _ w).alloc _))
  obtain ⟨wq, hwq⟩ : ∃ wq, wq = wp.setCell ⟨pb, 0, none⟩ (.int .i64 (2 * c.n)) := ⟨_, rfl⟩
  have hfr : Blk wq pb 2 ((fresh c.n).map (Value.int .i64)).toArray := by
    rw [← fresh_made (by omega) hL, hwq]; exact hbl.set_ 0 _
  have hvlt : v.ownBlock ≠ some pb := fun e => by
    rcases owns_form HS.out.dq.mem.own with ⟨rfl, _⟩ | ⟨g, cap, rfl, _, _, _, hlt⟩
    · cases e
    · have h9 := hlt
      rw [← hpb] at h9
      have e9 : some g = some pb := e
      cases e9
      exact absurd h9 (Nat.lt_irrefl _)
  have hpd2 : pb ≠ d ∧ pb ≠ p ∧ pb ≠ m := by
    have := HS.out.dq.blk.lt; have := HS.out.act.lt; have := HS.out.dq.mem.blk.lt
    omega
  have HWQ : Hid (Stp w wq B m d z p n v v on C c) := Lib.hid (by
    have o : Only (fun x => x = pb) wp wq := by rw [hwq]; exact (Only.refl (fun x => x = pb) wp).setCell (p := ⟨pb, 0, none⟩) (.inl rfl) _
    refine ⟨⟨HWP.out.dq.mem.only o (fun e => hpd2.2.2 e.symm) (fun k hk e => hvlt (e ▸ hk)), o.blk HWP.out.dq.blk (fun e => hpd2.1 e.symm), HWP.out.dq.base⟩, o.blk HWP.out.act (fun e => hpd2.2.1 e.symm), HWP.out.only.trans' (o.mono (T := fun x => x = pb) fun _ e => e) (fun i hi => .inr (by rw [hi, hpb]; exact Nat.le_refl _)), HWP.out.row⟩)
  have hfl : (fresh c.n).length = L := by have := fresh_len (x := c.n) (by omega); omega
  have hrd : Reads wq (pb + 1) 1 (some ⟨pb, 0, none⟩) (fresh c.n).length ((fresh c.n).map (.int .i64)) :=
    ⟨by simp, fun _ => ⟨_, rfl, by simp, fun j u hu => by rw [show (⟨pb, 0, none⟩ : Addr).add j = ⟨pb, j, none⟩ by simp [Addr.add]; exact fun h => h.symm]; rw [hfr.cell, List.getElem?_toArray]; exact hu⟩⟩
  have x1 : wp.cell? ⟨p, 3, none⟩ = some (.pointer (some ⟨d, 0, none⟩)) := HWP.out.act.cell 3
  have x2 : wp.cell? ⟨d, 0, none⟩ = some (.pointer (some ⟨m, 0, none⟩)) := HWP.out.dq.blk.cell 0
  obtain ⟨n1, n2, n3⟩ := hpd2
  have x3 : wp.cell? ⟨p, 8, none⟩ = some (.int .i64 c.n) := HWP.out.act.cell 8
  have HX := Lib.hid hrd
  have HWQE := Lib.hid hwq
  have HL := Lib.hid hL
  have hL2 : (0 : Int) < (L : Int) := by omega
  have hMA : moreA C (fresh c.n) = C.length := if_neg (by rw [hfl]; omega)
  have hME : moreE C (fresh c.n) = 0 := if_neg (by rw [hfl]; omega)
  have hMX : moreX C (fresh c.n) = C ++ fresh c.n := if_neg (by rw [hfl]; omega)
  have HM := Lib.hid (And.intro hMA (And.intro hME hMX))
  have HFL := Lib.hid hfl
  clear hdv hpb hwp hbl hwq hfr hvlt hrd hMA hME hMX hfl
  go_enter Try.func58, Try.ntmps58
  go_wp2_with fail
  rw [← HWQE.out]
  have hmore := more_any B m n v C (fresh c.n) (pb + 1) (some ⟨pb, 0, none⟩) L wq HWQ.out.dq.mem HX.out (by omega) (by rw [HFL.out]; unfold maxLen; omega) (by have := HWQ.out.dq.mem.base; have := HWQ.out.dq.mem.blk.lt; omega)
  rw [HFL.out, HM.out.1, HM.out.2.1, HM.out.2.2] at hmore
  refine hmore.mono ?_
  clear hmore
  rintro e w3 ⟨rfl, ⟨v', k1, k2⟩, k3⟩
  have HS3 : Hid (Stp w w3 B m d z p n v v' on (C ++ fresh c.n) c) := Lib.hid (HWQ.out.more k1 k2 k3 (ld_app (by omega)) (ld_app (by omega)))
  clear k1 k2 k3 x1 x2 x3 e0 g0 hm
  have y6 : w3.cell? ⟨p, 6, none⟩ = some (.int .i64 c.t) := HS3.out.act.cell 6
  have y9 : w3.cell? ⟨p, 9, none⟩ = some (.int .i64 c.nw) := HS3.out.act.cell 9
  have y10 : w3.cell? ⟨p, 10, none⟩ = some (.int .i64 c.i) := HS3.out.act.cell 10
  have g9 : w3.frozen? ⟨p, 9, none⟩ = false := HS3.out.act.frozen 9
  have g10 : w3.frozen? ⟨p, 10, none⟩ = false := HS3.out.act.frozen 10
  go_wp2_with fail
  obtain ⟨w4, hw4⟩ : ∃ w4, w4 = (w3.setCell ⟨p, 9, none⟩ (.int .i64 (C.length : Int))).setCell ⟨p, 10, none⟩ (.int .i64 c.t) := ⟨_, rfl⟩
  have HS4 : Hid (Stp w w4 B m d z p n v v' on (C ++ fresh c.n) { c with nw := C.length, i := c.t }) := Lib.hid (by rw [hw4]; exact (HS3.out.set 9 _ (c' := { c with nw := C.length }) rfl).set 10 _ rfl)
  rw [← hw4]
  refine (grows_any B m d z p n v' on _ _ w4 HS4.out.dq HS4.out.act hn).mono ?_
  rintro e w5 ⟨rfl, k5⟩
  have K5 := Lib.hid k5
  clear k5
  go_wp2_with fail
  go_ret
  exact ⟨rfl, v', by rw [HDV.out]; exact HS4.out.trans K5.out⟩
end Go.Proofs.Ytmghlhngdopifaa
