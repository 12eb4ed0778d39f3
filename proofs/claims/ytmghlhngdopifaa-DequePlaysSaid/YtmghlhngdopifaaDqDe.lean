/- The document's deques: Begin, Size; a step of what is over; what the program's acts tell. -/
import Derived.Test.YtmghlhngdopifaaDqD
import Derived.Test.YtmghlhngdopifaaDqOp
namespace Go.Proofs.Ytmghlhngdopifaa
open Go.RowKit
set_option linter.unusedVariables false
theorem RStp.refl {w : World} {B m d p : Nat} {n : Int} {v on : Value} {C : List Int} {a : PAct} (hm : DMem w B m n v C) (hd : Blk w d 84 #[.pointer (some ⟨m, 0, none⟩), .int .i64 0, on]) (hp : Blk w p 62 (rarr a d)) : RStp w w B m d p n v v on C a :=
  ⟨hm, hd, hp, Only.refl _ _, fun _ h => .inl h⟩
set_option maxRecDepth 100000 in
theorem rstep_over (d p : Nat) (a : PAct) (w : World) (h : Blk w p 62 (rarr a d)) (h0 : a.told ≠ 0) :
    Calls Try.prog 20 #[.pointer (some ⟨p, 0, none⟩)] w fun e w' => e = .returned (.tuple #[.int .u8 0, .int .i64 0, .int .i64 3]) ∧ w = w' := by
  have c11 : w.cell? ⟨p, 11, none⟩ = some (.int .u8 (a.told : Int)) := h.cell 11
  have h0' : ¬ (a.told : Int) = 0 := by omega
  clear h h0
  go_enter Try.func20, Try.ntmps20
  go_wp2_with fail
  go_ret3
  exact ⟨rfl, rfl⟩
set_option maxRecDepth 100000 in
theorem step_over (B m d z p i : Nat) (n : Int) (v : Value) (C : List Int) (ps : List Nat) (acts : List PAct) (on : Option Nat) (a : PAct) (w : World) (hW : MachW w B m d z n v C ps acts on) (ha : acts[i]? = some a) (hp : ps[i]? = some p) (h0 : a.told ≠ 0) :
    Calls Try.prog 13 #[.pointer (some ⟨p, 0, none⟩)] w fun e w' => e = .returned (.tuple #[.int .u8 0, .int .i64 0, .int .i64 3]) ∧ w = w' := by
  obtain ⟨p', hp', hA⟩ := hW.act i a ha
  have hpe : p' = p := by rw [hp] at hp'; exact (Option.some.inj hp').symm
  subst hpe
  obtain ⟨dv, hb, hd⟩ := hA.ex
  unfold Does at hd
  rw [if_neg h0] at hd
  subst hd
  have c0 : w.cell? ⟨p', 0, none⟩ = some .nilFunc := hb.cell 0
  have c3 : w.cell? ⟨p', 3, none⟩ = some (.pointer (some ⟨d, 0, none⟩)) := hb.cell 3
  have q1 : ∀ w, (binOp .eql 75 .nilFunc .nilFunc).run Try.prog w = .ok (.bool true) w := fun _ => rfl
  clear hA hb hW ha hp hp' h0
  go_enter Try.func13, Try.ntmps13
  go_wp2_with fail
  go_ret3
  exact ⟨rfl, rfl⟩
set_option maxRecDepth 100000 in
theorem told_any (d p : Nat) (c : AC) (w : World) (h : Blk w p 79 (c.arr d)) :
    Calls Try.prog 16 #[.pointer (some ⟨p, 0, none⟩)] w fun e w' => e = .returned (.tuple #[.int .u8 c.wh, .int .i64 c.x]) ∧ Only (fun _ => False) w w' := by
  have c1 : w.cell? ⟨p, 1, none⟩ = some (.int .u8 c.wh) := h.cell 1
  have c2 : w.cell? ⟨p, 2, none⟩ = some (.int .i64 c.x) := h.cell 2
  clear h
  go_enter Try.func16, Try.ntmps16
  go_wp2_with fail
  go_quiet (fail)
  go_wp2_with fail
  go_ret2
  exact ⟨rfl, (Only.refl _ w).drewN nq⟩
/-- the document's act that is made now -/
def RBegun (d : Nat) (kind : Nat) (x : Int) (m : Nat) (on : Value) (w w' : World) : Prop :=
  Blk w' w.heap.size 62 (rarr (newA kind x) d) ∧ Blk w' d 84 #[.pointer (some ⟨m, 0, none⟩), .int .i64 0, if kind = 2 then on else .pointer (some ⟨w.heap.size, 0, none⟩)] ∧ Only (fun x => x = d) w w'
set_option maxRecDepth 100000 in
theorem rbegin_free (m d kind : Nat) (x : Int) (on : Value) (w : World) (hd : Blk w d 84 #[.pointer (some ⟨m, 0, none⟩), .int .i64 0, on]) (hk : kind ≤ 2) (hon : kind = 2 ∨ on = .pointer none ∨ ∃ q a, on = .pointer (some ⟨q, 0, none⟩) ∧ Blk w q 62 (rarr a d) ∧ a.told ≠ 0) :
    Calls Try.prog 21 #[.pointer (some ⟨d, 0, none⟩), .int .i64 (kind : Int), .int .i64 x] w fun e w' => e = .returned (.tuple #[.pointer (some ⟨w.heap.size, 0, none⟩), .int .i64 0]) ∧ RBegun d kind x m on w w' := by
  have c2 : w.cell? ⟨d, 2, none⟩ = some on := hd.cell 2
  have f2 : w.frozen? ⟨d, 2, none⟩ = false := hd.frozen 2
  have hdl := hd.lt
  obtain ⟨q, hq⟩ : ∃ q, q = w.heap.size := ⟨_, rfl⟩
  obtain ⟨w1, hw1⟩ : ∃ w1, w1 = w.alloc (.cells (rarr (newA kind x) d) 62) := ⟨_, rfl⟩
  have hb1 : Blk w1 q 62 (rarr (newA kind x) d) := by rw [hw1, hq]; exact Blk.new w _ _
  have hd1 : Blk w1 d 84 #[.pointer (some ⟨m, 0, none⟩), .int .i64 0, on] := by rw [hw1]; exact hd.alloc _
  have o1 : Only (fun x => x = d) w w1 := by rw [hw1]; exact (Only.refl _ w).alloc _
  by_cases hk2 : kind = 2
  · subst hk2
    have hfin : RBegun d 2 x m on w w1 := ⟨by rw [← hq]; exact hb1, by simpa using hd1, o1⟩
    have HF := Lib.hid hfin
    have hw1' : w.alloc (.cells #[.pointer (some ⟨d, 0, none⟩), .int .i64 2, .int .i64 x, .int .i64 0, .int .i64 0, .int .i64 0, .int .i64 0, .int .i64 0, .int .i64 0, .int .i64 0, .int .i64 0, .int .u8 0, .int .i64 0] 62) = w1 := hw1.symm
    have HW := Lib.hid hw1'
    clear hfin hb1 hd1 o1 hw1 hw1' hd hon hq
    go_enter Try.func21, Try.ntmps21
    go_wp2_with fail
    go_ret2
    rw [HW.out]
    exact ⟨rfl, HF.out⟩
  · have hkk : kind = 0 ∨ kind = 1 := by omega
    obtain ⟨w2, hw2⟩ : ∃ w2, w2 = (w.setCell ⟨d, 2, none⟩ (.pointer (some ⟨q, 0, none⟩))).alloc (.cells (rarr (newA kind x) d) 62) := ⟨_, rfl⟩
    have o2 : Only (fun x => x = d) w w2 := by rw [hw2]; exact ((Only.refl (fun x => x = d) w).setCell (p := ⟨d, 2, none⟩) (.inl rfl) _).alloc _
    have hsz : (w.setCell ⟨d, 2, none⟩ (.pointer (some ⟨q, 0, none⟩))).heap.size = w.heap.size := by simp [World.setCell]
    have hfin : RBegun d kind x m on w w2 := ⟨by rw [hw2, ← hsz]; exact Blk.new _ _ _, by rw [if_neg hk2, ← hq, hw2]; exact (hd.set_ 2 _).alloc _, o2⟩
    have HF := Lib.hid hfin
    have HW1 := Lib.hid hw2
    have HQ := Lib.hid hq
    rcases hon with h | rfl | ⟨r, a, rfl, hr, h0⟩
    · exact absurd h hk2
    · clear hfin hb1 hd1 o1 o2 hw1 hw2 hsz hd hq
      rcases hkk with rfl | rfl
      all_goals
        go_enter Try.func21, Try.ntmps21
        go_wp2_with fail
        go_ret2
        have hz := HF.out
        rw [HW1.out, HQ.out] at hz
        exact ⟨rfl, hz⟩
    · have c11 : w.cell? ⟨r, 11, none⟩ = some (.int .u8 (a.told : Int)) := hr.cell 11
      have h0' : ¬ (a.told : Int) = 0 := by omega
      clear hfin hb1 hd1 o1 o2 hw1 hw2 hsz hd hq hr h0
      rcases hkk with rfl | rfl
      all_goals
        go_enter Try.func21, Try.ntmps21
        go_wp2_with fail
        go_ret2
        have hz := HF.out
        rw [HW1.out, HQ.out] at hz
        exact ⟨rfl, hz⟩
set_option maxRecDepth 100000 in
theorem rbegin_busy (m d kind q : Nat) (x : Int) (a : PAct) (w : World) (hd : Blk w d 84 #[.pointer (some ⟨m, 0, none⟩), .int .i64 0, .pointer (some ⟨q, 0, none⟩)]) (hk : kind < 2) (hq : Blk w q 62 (rarr a d)) (h0 : a.told = 0) :
    Calls Try.prog 21 #[.pointer (some ⟨d, 0, none⟩), .int .i64 (kind : Int), .int .i64 x] w fun e w' => e = .returned (.tuple #[.pointer none, .int .i64 3]) ∧ w = w' := by
  have c2 : w.cell? ⟨d, 2, none⟩ = some (.pointer (some ⟨q, 0, none⟩)) := hd.cell 2
  have c11 : w.cell? ⟨q, 11, none⟩ = some (.int .u8 0) := by have := hq.cell 11; simpa [rarr, h0] using this
  have hkk : kind = 0 ∨ kind = 1 := by omega
  clear hd hq h0 hk
  rcases hkk with rfl | rfl
  all_goals
    go_enter Try.func21, Try.ntmps21
    go_wp2_with fail
    go_ret2
    exact ⟨rfl, rfl⟩
set_option maxRecDepth 100000 in
theorem rsize_any (B m d : Nat) (n : Int) (v on : Value) (C : List Int) (w : World) (h : DMem w B m n v C) (hd : Blk w d 84 #[.pointer (some ⟨m, 0, none⟩), .int .i64 0, on]) (hb : bd (ld C 1)) (ht : bd (ld C 0)) (hl : 2 ≤ C.length) :
    Calls Try.prog 23 #[.pointer (some ⟨d, 0, none⟩)] w fun e w' => e = .returned (.int .i64 (if ld C 1 - ld C 0 < 0 then 0 else ld C 1 - ld C 0)) ∧ ∃ k, w' = w.drewN k := by
  have hwr : IntKind.i64.wrap (ld C 1 - ld C 0) = ld C 1 - ld C 0 := IntWalk.i64_in _ (by unfold bd at hb ht; omega)
  obtain ⟨g, cap, rfl, _, _, hgm, hc0, _⟩ := h.at_ (k := 0) (by omega)
  obtain ⟨g', cap', e, _, _, _, hc1, _⟩ := h.at_ (k := 1) (by omega)
  cases e
  have e0 : ld C 0 = C.getD 0 0 := if_pos ⟨by omega, by omega⟩
  have e1 : ld C 1 = C.getD 1 0 := if_pos ⟨by omega, by omega⟩
  rw [← e0] at hc0
  rw [← e1] at hc1
  have m0 : w.cell? ⟨m, 0, none⟩ = some (.slice (some ⟨g, 0, none⟩) C.length cap) := h.blk.cell 0
  have d0 : w.cell? ⟨d, 0, none⟩ = some (.pointer (some ⟨m, 0, none⟩)) := hd.cell 0
  have d1 : w.cell? ⟨d, 1, none⟩ = some (.int .i64 0) := hd.cell 1
  have hl1 : (1 : Int) < C.length := by omega
  have hl0 : (0 : Int) < C.length := by omega
  generalize ld C 1 = bo at *
  generalize ld C 0 = to at *
  clear h hd hb ht e0 e1
  go_enter Try.func23, Try.ntmps23
  go_wp2_with fail
  go_quiet (fail)
  go_wp2_with fail
  all_goals
    go_ret
    exact ⟨rfl, _, rfl⟩
set_option maxRecDepth 100000 in
theorem size_q (B m d : Nat) (n : Int) (v on : Value) (C : List Int) (w : World) (h : DqS w B m d 0 n v C on) (hb : bd (ld C 1)) (ht : bd (ld C 0)) :
    Calls Try.prog 15 #[.pointer (some ⟨d, 0, none⟩)] w fun e w' => e = .returned (.int .i64 (if ld C 1 - ld C 0 < 0 then 0 else ld C 1 - ld C 0)) ∧ ∃ k, w' = w.drewN k := by
  have hwr : IntKind.i64.wrap (ld C 1 - ld C 0) = ld C 1 - ld C 0 := IntWalk.i64_in _ (by unfold bd at hb ht; omega)
  have c5 : w.cell? ⟨d, 5, none⟩ = some (.int .i64 (ld C 1)) := h.blk.cell 5
  have c4 : w.cell? ⟨d, 4, none⟩ = some (.int .i64 (ld C 0)) := h.blk.cell 4
  generalize ld C 1 = bo at *
  generalize ld C 0 = to at *
  clear h hb ht
  go_enter Try.func15, Try.ntmps15
  go_wp2_with fail
  go_quiet (fail)
  go_wp2_with fail
  all_goals
    go_ret
    exact ⟨rfl, _, rfl⟩
end Go.Proofs.Ytmghlhngdopifaa
