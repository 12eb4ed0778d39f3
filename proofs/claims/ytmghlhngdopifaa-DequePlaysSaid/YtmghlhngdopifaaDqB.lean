/- Deques: an act by its cells; the swap; what a step leaves. -/
import Derived.Test.YtmghlhngdopifaaDqA
namespace Go.Proofs.Ytmghlhngdopifaa
open Go.RowKit
set_option linter.unusedVariables false
attribute [local simp] frOf dstsOf frGo predsHold allHold Region.binds slotOf seen Is Act.put
/-- an act's cells -/
structure AC where
  dv : Value
  wh : Int
  x : Int
  v : Int
  b : Int
  t : Int
  w : Int
  n : Int
  nw : Int
  i : Int
  g : Bool
def AC.arr (c : AC) (d : Nat) : Array Value :=
  #[c.dv, .int .u8 c.wh, .int .i64 c.x, .pointer (some ⟨d, 0, none⟩), .int .i64 c.v, .int .i64 c.b, .int .i64 c.t, .int .i64 c.w, .int .i64 c.n, .int .i64 c.nw, .int .i64 c.i, .bool c.g]
/-- what has become of an act at p, of its deque and of the memory, from w on -/
structure Stp (w w' : World) (B m d z p : Nat) (n : Int) (v v' on : Value) (C : List Int) (c : AC) : Prop where
  dq : DqS w' B m d z n v' C on
  act : Blk w' p 79 (c.arr d)
  only : Only (fun x => mine m v x ∨ x = d ∨ x = p) w w'
  row : ∀ k, v'.ownBlock = some k → v.ownBlock = some k ∨ w.heap.size ≤ k
section
variable {w w' w'' : World} {B m d z p : Nat} {n n' : Int} {v v' on : Value} {C C' : List Int} {c c' : AC}
theorem Stp.refl (h : DqS w B m d z n v C on) (hp : Blk w p 79 (c.arr d)) : Stp w w B m d z p n v v on C c := ⟨h, hp, Only.refl _ _, fun _ h => .inl h⟩
theorem Stp.pd (h : Stp w w' B m d z p n v v' on C c) : p ≠ d := Blk.ne_ h.act h.dq.blk (by decide)
theorem Stp.pm (h : Stp w w' B m d z p n v v' on C c) : ¬ mine m v' p := mine_act h.dq h.act
theorem Stp.set (h : Stp w w' B m d z p n v v' on C c) (i : Nat) (x : Value) (he : (c.arr d).setIfInBounds i x = c'.arr d) : Stp w (w'.setCell ⟨p, i, none⟩ x) B m d z p n v v' on C c' := by
  have o : Only (fun x => x = p) w' (w'.setCell ⟨p, i, none⟩ x) := (Only.refl (fun x => x = p) w').setCell (p := ⟨p, i, none⟩) (.inl rfl) _
  refine ⟨⟨h.dq.mem.only o (fun e => h.pm (.inl e.symm)) (fun k hk e => h.pm (.inr (e ▸ hk))), o.blk h.dq.blk (fun e => h.pd e.symm), h.dq.base⟩, ?_, h.only.setCell (p := ⟨p, i, none⟩) (.inl (.inr (.inr rfl))) _, h.row⟩
  rw [← he]
  exact h.act.set_ i x
theorem Stp.mem (h : Stp w w' B m d z p n v v' on C c) (hm : CMem w'' B m n' v' C) (ho : Only (mine m v') w' w'') : Stp w w'' B m d z p n' v v' on C c :=
  ⟨⟨hm, ho.blk h.dq.blk h.dq.away, h.dq.base⟩, ho.blk h.act h.pm, h.only.trans' ho (fun i hi => by
    rcases hi with hi | hi
    · exact .inl (.inl (.inl hi))
    · rcases h.row i hi with hi | hi
      · exact .inl (.inl (.inr hi))
      · exact .inr hi), h.row⟩
theorem Stp.deq (h : Stp w w' B m d z p n v v' on C c) (hd : DqS w'' B m d z n' v' C' on) (ho : Only (fun x => mine m v' x ∨ x = d) w' w'') : Stp w w'' B m d z p n' v v' on C' c :=
  ⟨hd, ho.blk h.act (fun e => e.elim h.pm h.pd), h.only.trans' ho (fun i hi => by
    rcases hi with (hi | hi) | hi
    · exact .inl (.inl (.inl hi))
    · rcases h.row i hi with hi | hi
      · exact .inl (.inl (.inr hi))
      · exact .inr hi
    · exact .inl (.inr (.inl hi))), h.row⟩
theorem Stp.drew (h : Stp w w' B m d z p n v v' on C c) : Stp w w'.drew B m d z p n v v' on C c := ⟨⟨h.dq.mem.drewN 1, h.dq.blk, h.dq.base⟩, h.act, h.only.drew, h.row⟩
/-- only the memory's blocks have turned: what the act and the deque hold stays -/
theorem Stp.cells (h : Stp w w' B m d z p n v v' on C c) {y : World} (hy : Only (mine m v') w' y) : Blk y p 79 (c.arr d) ∧ Blk y d 74 #[.pointer (some ⟨m, 0, none⟩), .int .i64 (z : Int), .int .i64 ((z : Int) + 1), .int .i64 ((z : Int) + 2), .int .i64 (ld C z), .int .i64 (ld C ((z : Int) + 1)), on] :=
  ⟨hy.blk h.act h.pm, hy.blk h.dq.blk h.dq.away⟩
end
/-- the next step is that method -/
def meth (f p : Nat) : Value := .func (.func f) #[.pointer (some ⟨p, 0, none⟩)] #[]
set_option maxRecDepth 100000 in
theorem pushBottom_any (B m d z p : Nat) (n : Int) (v on : Value) (C : List Int) (c : AC) (w : World) (h : DqS w B m d z n v C on) (hp : Blk w p 79 (c.arr d)) (hn : n + 2 ≤ 4611686018427387904) :
    Calls Try.prog 28 #[.pointer (some ⟨p, 0, none⟩)] w fun e w' => e = .returned (.int .i64 0) ∧ Stp w w' B m d z p (n + cellN C ((z : Int) + 1)) v v on C { c with b := ld C ((z : Int) + 1), dv := meth 37 p } := by
  have HS := Lib.hid (Stp.refl h hp)
  have d2 : w.cell? ⟨d, 2, none⟩ = some (.int .i64 ((z : Int) + 1)) := HS.out.dq.blk.cell 2
  have a3 : w.cell? ⟨p, 3, none⟩ = some (.pointer (some ⟨d, 0, none⟩)) := HS.out.act.cell 3
  clear h hp
  go_enter Try.func28, Try.ntmps28
  go_wp2_with fail
  refine (aload_any B m d z p n ((z : Int) + 1) v on C _ w HS.out.dq HS.out.act rfl (by omega)).mono ?_
  rintro e w1 ⟨rfl, h1, h2⟩
  have HS1 := Lib.hid (HS.out.mem h1 h2)
  have f1 : w1.frozen? ⟨p, 5, none⟩ = false := HS1.out.act.frozen 5
  have q1 : w1.cell? ⟨p, 5, none⟩ = some (.int .i64 c.b) := HS1.out.act.cell 5
  clear h1 h2
  go_wp2_with fail
  have HS2 := Lib.hid (HS1.out.set 5 (.int .i64 (ld C ((z : Int) + 1))) (c' := { c with b := ld C ((z : Int) + 1) }) rfl)
  refine (then_any p _ _ _ _ _ HS2.out.act (by simp [AC.arr])).mono ?_
  rintro e w2 ⟨rfl, rfl⟩
  go_wp2_with fail
  go_ret
  exact ⟨rfl, HS2.out.set 0 _ rfl⟩
set_option maxRecDepth 100000 in
theorem pushTop_any (B m d z p : Nat) (n : Int) (v on : Value) (C : List Int) (c : AC) (w : World) (h : DqS w B m d z n v C on) (hp : Blk w p 79 (c.arr d)) (hn : n + 2 ≤ 4611686018427387904) :
    Calls Try.prog 37 #[.pointer (some ⟨p, 0, none⟩)] w fun e w' => e = .returned (.int .i64 0) ∧ Stp w w' B m d z p (n + cellN C ((z : Int))) v v on C { c with t := ld C (z : Int), dv := meth 47 p } := by
  have HS := Lib.hid (Stp.refl h hp)
  have d1 : w.cell? ⟨d, 1, none⟩ = some (.int .i64 (z : Int)) := HS.out.dq.blk.cell 1
  have a3 : w.cell? ⟨p, 3, none⟩ = some (.pointer (some ⟨d, 0, none⟩)) := HS.out.act.cell 3
  clear h hp
  go_enter Try.func37, Try.ntmps37
  go_wp2_with fail
  refine (aload_any B m d z p n ((z : Int)) v on C _ w HS.out.dq HS.out.act rfl (by omega)).mono ?_
  rintro e w1 ⟨rfl, h1, h2⟩
  have HS1 := Lib.hid (HS.out.mem h1 h2)
  have f1 : w1.frozen? ⟨p, 6, none⟩ = false := HS1.out.act.frozen 6
  have q1 : w1.cell? ⟨p, 6, none⟩ = some (.int .i64 c.t) := HS1.out.act.cell 6
  clear h1 h2
  go_wp2_with fail
  have HS2 := Lib.hid (HS1.out.set 6 (.int .i64 (ld C (z : Int))) (c' := { c with t := ld C (z : Int) }) rfl)
  refine (then_any p _ _ _ _ _ HS2.out.act (by simp [AC.arr])).mono ?_
  rintro e w2 ⟨rfl, rfl⟩
  go_wp2_with fail
  go_ret
  exact ⟨rfl, HS2.out.set 0 _ rfl⟩
set_option maxRecDepth 100000 in
theorem pushWhere_any (B m d z p : Nat) (n : Int) (v on : Value) (C : List Int) (c : AC) (w : World) (h : DqS w B m d z n v C on) (hp : Blk w p 79 (c.arr d)) (hn : n + 2 ≤ 4611686018427387904) :
    Calls Try.prog 47 #[.pointer (some ⟨p, 0, none⟩)] w fun e w' => e = .returned (.int .i64 0) ∧ Stp w w' B m d z p (n + cellN C ((z : Int) + 2)) v v on C { c with w := ld C ((z : Int) + 2), dv := meth 54 p } := by
  have HS := Lib.hid (Stp.refl h hp)
  have d3 : w.cell? ⟨d, 3, none⟩ = some (.int .i64 ((z : Int) + 2)) := HS.out.dq.blk.cell 3
  have a3 : w.cell? ⟨p, 3, none⟩ = some (.pointer (some ⟨d, 0, none⟩)) := HS.out.act.cell 3
  clear h hp
  go_enter Try.func47, Try.ntmps47
  go_wp2_with fail
  refine (aload_any B m d z p n ((z : Int) + 2) v on C _ w HS.out.dq HS.out.act rfl (by omega)).mono ?_
  rintro e w1 ⟨rfl, h1, h2⟩
  have HS1 := Lib.hid (HS.out.mem h1 h2)
  have f1 : w1.frozen? ⟨p, 7, none⟩ = false := HS1.out.act.frozen 7
  have q1 : w1.cell? ⟨p, 7, none⟩ = some (.int .i64 c.w) := HS1.out.act.cell 7
  clear h1 h2
  go_wp2_with fail
  have HS2 := Lib.hid (HS1.out.set 7 (.int .i64 (ld C ((z : Int) + 2))) (c' := { c with w := ld C ((z : Int) + 2) }) rfl)
  refine (then_any p _ _ _ _ _ HS2.out.act (by simp [AC.arr])).mono ?_
  rintro e w2 ⟨rfl, rfl⟩
  go_wp2_with fail
  go_ret
  exact ⟨rfl, HS2.out.set 0 _ rfl⟩
set_option maxRecDepth 100000 in
theorem popWhere_any (B m d z p : Nat) (n : Int) (v on : Value) (C : List Int) (c : AC) (w : World) (h : DqS w B m d z n v C on) (hp : Blk w p 79 (c.arr d)) (hn : n + 2 ≤ 4611686018427387904) :
    Calls Try.prog 38 #[.pointer (some ⟨p, 0, none⟩)] w fun e w' => e = .returned (.int .i64 0) ∧ Stp w w' B m d z p (n + cellN C ((z : Int) + 2)) v v on C { c with w := ld C ((z : Int) + 2), dv := meth 48 p } := by
  have HS := Lib.hid (Stp.refl h hp)
  have d3 : w.cell? ⟨d, 3, none⟩ = some (.int .i64 ((z : Int) + 2)) := HS.out.dq.blk.cell 3
  have a3 : w.cell? ⟨p, 3, none⟩ = some (.pointer (some ⟨d, 0, none⟩)) := HS.out.act.cell 3
  clear h hp
  go_enter Try.func38, Try.ntmps38
  go_wp2_with fail
  refine (aload_any B m d z p n ((z : Int) + 2) v on C _ w HS.out.dq HS.out.act rfl (by omega)).mono ?_
  rintro e w1 ⟨rfl, h1, h2⟩
  have HS1 := Lib.hid (HS.out.mem h1 h2)
  have f1 : w1.frozen? ⟨p, 7, none⟩ = false := HS1.out.act.frozen 7
  have q1 : w1.cell? ⟨p, 7, none⟩ = some (.int .i64 c.w) := HS1.out.act.cell 7
  clear h1 h2
  go_wp2_with fail
  have HS2 := Lib.hid (HS1.out.set 7 (.int .i64 (ld C ((z : Int) + 2))) (c' := { c with w := ld C ((z : Int) + 2) }) rfl)
  refine (then_any p _ _ _ _ _ HS2.out.act (by simp [AC.arr])).mono ?_
  rintro e w2 ⟨rfl, rfl⟩
  go_wp2_with fail
  go_ret
  exact ⟨rfl, HS2.out.set 0 _ rfl⟩
set_option maxRecDepth 100000 in
theorem stealTop_any (B m d z p : Nat) (n : Int) (v on : Value) (C : List Int) (c : AC) (w : World) (h : DqS w B m d z n v C on) (hp : Blk w p 79 (c.arr d)) (hn : n + 2 ≤ 4611686018427387904) :
    Calls Try.prog 30 #[.pointer (some ⟨p, 0, none⟩)] w fun e w' => e = .returned (.int .i64 0) ∧ Stp w w' B m d z p (n + cellN C ((z : Int))) v v on C { c with t := ld C (z : Int), dv := meth 39 p } := by
  have HS := Lib.hid (Stp.refl h hp)
  have d1 : w.cell? ⟨d, 1, none⟩ = some (.int .i64 (z : Int)) := HS.out.dq.blk.cell 1
  have a3 : w.cell? ⟨p, 3, none⟩ = some (.pointer (some ⟨d, 0, none⟩)) := HS.out.act.cell 3
  clear h hp
  go_enter Try.func30, Try.ntmps30
  go_wp2_with fail
  refine (aload_any B m d z p n ((z : Int)) v on C _ w HS.out.dq HS.out.act rfl (by omega)).mono ?_
  rintro e w1 ⟨rfl, h1, h2⟩
  have HS1 := Lib.hid (HS.out.mem h1 h2)
  have f1 : w1.frozen? ⟨p, 6, none⟩ = false := HS1.out.act.frozen 6
  have q1 : w1.cell? ⟨p, 6, none⟩ = some (.int .i64 c.t) := HS1.out.act.cell 6
  clear h1 h2
  go_wp2_with fail
  have HS2 := Lib.hid (HS1.out.set 6 (.int .i64 (ld C (z : Int))) (c' := { c with t := ld C (z : Int) }) rfl)
  refine (then_any p _ _ _ _ _ HS2.out.act (by simp [AC.arr])).mono ?_
  rintro e w2 ⟨rfl, rfl⟩
  go_wp2_with fail
  go_ret
  exact ⟨rfl, HS2.out.set 0 _ rfl⟩
set_option maxRecDepth 100000 in
theorem stealWhere_any (B m d z p : Nat) (n : Int) (v on : Value) (C : List Int) (c : AC) (w : World) (h : DqS w B m d z n v C on) (hp : Blk w p 79 (c.arr d)) (hn : n + 2 ≤ 4611686018427387904) :
    Calls Try.prog 50 #[.pointer (some ⟨p, 0, none⟩)] w fun e w' => e = .returned (.int .i64 0) ∧ Stp w w' B m d z p (n + cellN C ((z : Int) + 2)) v v on C { c with w := ld C ((z : Int) + 2), dv := meth 57 p } := by
  have HS := Lib.hid (Stp.refl h hp)
  have d3 : w.cell? ⟨d, 3, none⟩ = some (.int .i64 ((z : Int) + 2)) := HS.out.dq.blk.cell 3
  have a3 : w.cell? ⟨p, 3, none⟩ = some (.pointer (some ⟨d, 0, none⟩)) := HS.out.act.cell 3
  clear h hp
  go_enter Try.func50, Try.ntmps50
  go_wp2_with fail
  refine (aload_any B m d z p n ((z : Int) + 2) v on C _ w HS.out.dq HS.out.act rfl (by omega)).mono ?_
  rintro e w1 ⟨rfl, h1, h2⟩
  have HS1 := Lib.hid (HS.out.mem h1 h2)
  have f1 : w1.frozen? ⟨p, 7, none⟩ = false := HS1.out.act.frozen 7
  have q1 : w1.cell? ⟨p, 7, none⟩ = some (.int .i64 c.w) := HS1.out.act.cell 7
  clear h1 h2
  go_wp2_with fail
  have HS2 := Lib.hid (HS1.out.set 7 (.int .i64 (ld C ((z : Int) + 2))) (c' := { c with w := ld C ((z : Int) + 2) }) rfl)
  refine (then_any p _ _ _ _ _ HS2.out.act (by simp [AC.arr])).mono ?_
  rintro e w2 ⟨rfl, rfl⟩
  go_wp2_with fail
  go_ret
  exact ⟨rfl, HS2.out.set 0 _ rfl⟩
set_option maxRecDepth 100000 in
theorem stealSize_any (B m d z p : Nat) (n : Int) (v on : Value) (C : List Int) (c : AC) (w : World) (h : DqS w B m d z n v C on) (hp : Blk w p 79 (c.arr d)) (hn : n + 2 ≤ 4611686018427387904) :
    Calls Try.prog 57 #[.pointer (some ⟨p, 0, none⟩)] w fun e w' => e = .returned (.int .i64 0) ∧ Stp w w' B m d z p (n + cellN C (c.w)) v v on C { c with n := ld C c.w, dv := meth 63 p } := by
  have HS := Lib.hid (Stp.refl h hp)
  have a7 : w.cell? ⟨p, 7, none⟩ = some (.int .i64 c.w) := HS.out.act.cell 7
  clear h hp
  go_enter Try.func57, Try.ntmps57
  go_wp2_with fail
  refine (aload_any B m d z p n (c.w) v on C _ w HS.out.dq HS.out.act rfl (by omega)).mono ?_
  rintro e w1 ⟨rfl, h1, h2⟩
  have HS1 := Lib.hid (HS.out.mem h1 h2)
  have f1 : w1.frozen? ⟨p, 8, none⟩ = false := HS1.out.act.frozen 8
  have q1 : w1.cell? ⟨p, 8, none⟩ = some (.int .i64 c.n) := HS1.out.act.cell 8
  clear h1 h2
  go_wp2_with fail
  have HS2 := Lib.hid (HS1.out.set 8 (.int .i64 (ld C c.w)) (c' := { c with n := ld C c.w }) rfl)
  refine (then_any p _ _ _ _ _ HS2.out.act (by simp [AC.arr])).mono ?_
  rintro e w2 ⟨rfl, rfl⟩
  go_wp2_with fail
  go_ret
  exact ⟨rfl, HS2.out.set 0 _ rfl⟩
set_option maxRecDepth 100000 in
theorem popSize_any (B m d z p : Nat) (n : Int) (v on : Value) (C : List Int) (c : AC) (w : World) (h : DqS w B m d z n v C on) (hp : Blk w p 79 (c.arr d)) (hn : n + 2 ≤ 4611686018427387904) :
    Calls Try.prog 62 #[.pointer (some ⟨p, 0, none⟩)] w fun e w' => e = .returned (.int .i64 0) ∧ Stp w w' B m d z p (n + cellN C (c.w)) v v on C { c with n := ld C c.w, dv := meth 67 p } := by
  have HS := Lib.hid (Stp.refl h hp)
  have a7 : w.cell? ⟨p, 7, none⟩ = some (.int .i64 c.w) := HS.out.act.cell 7
  clear h hp
  go_enter Try.func62, Try.ntmps62
  go_wp2_with fail
  refine (aload_any B m d z p n (c.w) v on C _ w HS.out.dq HS.out.act rfl (by omega)).mono ?_
  rintro e w1 ⟨rfl, h1, h2⟩
  have HS1 := Lib.hid (HS.out.mem h1 h2)
  have f1 : w1.frozen? ⟨p, 8, none⟩ = false := HS1.out.act.frozen 8
  have q1 : w1.cell? ⟨p, 8, none⟩ = some (.int .i64 c.n) := HS1.out.act.cell 8
  clear h1 h2
  go_wp2_with fail
  have HS2 := Lib.hid (HS1.out.set 8 (.int .i64 (ld C c.w)) (c' := { c with n := ld C c.w }) rfl)
  refine (then_any p _ _ _ _ _ HS2.out.act (by simp [AC.arr])).mono ?_
  rintro e w2 ⟨rfl, rfl⟩
  go_wp2_with fail
  go_ret
  exact ⟨rfl, HS2.out.set 0 _ rfl⟩
set_option maxRecDepth 100000 in
theorem popBottom_any (B m d z p : Nat) (n : Int) (v on : Value) (C : List Int) (c : AC) (w : World) (h : DqS w B m d z n v C on) (hp : Blk w p 79 (c.arr d)) (hn : n + 2 ≤ 4611686018427387904) (hb : -1000000 ≤ ld C ((z : Int) + 1) ∧ ld C ((z : Int) + 1) ≤ 1000000) :
    Calls Try.prog 29 #[.pointer (some ⟨p, 0, none⟩)] w fun e w' => e = .returned (.int .i64 0) ∧ Stp w w' B m d z p (n + cellN C ((z : Int) + 1)) v v on C { c with b := ld C ((z : Int) + 1) - 1, dv := meth 38 p } := by
  have HS := Lib.hid (Stp.refl h hp)
  have d2 : w.cell? ⟨d, 2, none⟩ = some (.int .i64 ((z : Int) + 1)) := HS.out.dq.blk.cell 2
  have a3 : w.cell? ⟨p, 3, none⟩ = some (.pointer (some ⟨d, 0, none⟩)) := HS.out.act.cell 3
  clear h hp
  go_enter Try.func29, Try.ntmps29
  go_wp2_with fail
  refine (aload_any B m d z p n ((z : Int) + 1) v on C _ w HS.out.dq HS.out.act rfl (by omega)).mono ?_
  rintro e w1 ⟨rfl, h1, h2⟩
  have HS1 := Lib.hid (HS.out.mem h1 h2)
  have f1 : w1.frozen? ⟨p, 5, none⟩ = false := HS1.out.act.frozen 5
  have q1 : w1.cell? ⟨p, 5, none⟩ = some (.int .i64 c.b) := HS1.out.act.cell 5
  clear h1 h2
  go_wp2_with fail
  have HS2 := Lib.hid (HS1.out.set 5 (.int .i64 (ld C ((z : Int) + 1) - 1)) (c' := { c with b := ld C ((z : Int) + 1) - 1 }) rfl)
  refine (then_any p _ _ _ _ _ HS2.out.act (by simp [AC.arr])).mono ?_
  rintro e w2 ⟨rfl, rfl⟩
  go_wp2_with fail
  go_ret
  exact ⟨rfl, HS2.out.set 0 _ rfl⟩
theorem Stp.quiet {w w' w'' : World} {B m d z p : Nat} {n : Int} {v v' on : Value} {C : List Int} {c : AC} (h : Stp w w' B m d z p n v v' on C c) (ho : Only (fun _ => False) w' w'') : Stp w w'' B m d z p n v v' on C c :=
  h.mem (h.dq.mem.only ho (fun e => e) (fun _ _ e => e)) (ho.mono fun _ e => e.elim)
set_option maxRecDepth 100000 in
set_option maxHeartbeats 1000000 in
theorem pushSize_any (B m d z p : Nat) (n : Int) (v on : Value) (C : List Int) (c : AC) (w : World) (h : DqS w B m d z n v C on) (hp : Blk w p 79 (c.arr d)) (hn : n + 2 ≤ 4611686018427387904) (hb : -1000000 ≤ c.b ∧ c.b ≤ 1000000) (ht : -1000000 ≤ c.t ∧ c.t ≤ 1000000) :
    Calls Try.prog 54 #[.pointer (some ⟨p, 0, none⟩)] w fun e w' => e = .returned (.int .i64 0) ∧ Stp w w' B m d z p (n + cellN C (c.w)) v v on C { c with n := ld C c.w, dv := if c.b - c.t ≥ ld C c.w then meth 58 p else meth 59 p } := by
  have HS := Lib.hid (Stp.refl h hp)
  have a5 : w.cell? ⟨p, 5, none⟩ = some (.int .i64 c.b) := HS.out.act.cell 5
  have a6 : w.cell? ⟨p, 6, none⟩ = some (.int .i64 c.t) := HS.out.act.cell 6
  have a7 : w.cell? ⟨p, 7, none⟩ = some (.int .i64 c.w) := HS.out.act.cell 7
  clear h hp
  by_cases hq : c.b - c.t ≥ ld C c.w
  · simp only [if_pos hq]
    go_enter Try.func54, Try.ntmps54
    go_wp2_with fail
    refine (aload_any B m d z p n (c.w) v on C _ w HS.out.dq HS.out.act rfl (by omega)).mono ?_
    rintro e w1 ⟨rfl, h1, h2⟩
    have HS1 := Lib.hid (HS.out.mem h1 h2)
    have f1 : w1.frozen? ⟨p, 8, none⟩ = false := HS1.out.act.frozen 8
    have q1 : w1.cell? ⟨p, 8, none⟩ = some (.int .i64 c.n) := HS1.out.act.cell 8
    clear h1 h2
    go_wp2_with fail
    obtain ⟨w3, hw3⟩ : ∃ w3, w3 = w1.setCell ⟨p, 8, none⟩ (.int .i64 (ld C c.w)) := ⟨_, rfl⟩
    have HS2 : Hid (Stp w w3 B m d z p _ v v on C { c with n := ld C c.w }) := Lib.hid (by rw [hw3]; exact HS1.out.set 8 (.int .i64 (ld C c.w)) (c' := { c with n := ld C c.w }) rfl)
    rw [← hw3]
    clear hw3
    obtain ⟨W2, hW2⟩ : ∃ W2, W2 = w3.drew := ⟨_, rfl⟩
    have HW2 := Lib.hid hW2
    have HC : Hid (∀ y, Only (fun _ => False) W2 y → Stp w y B m d z p _ v v on C { c with n := ld C c.w }) := Lib.hid (fun y hy => Stp.quiet (by rw [hW2]; exact HS2.out.drew) hy)
    clear hW2
    refine wp_region_st (by kernel_rfl) (fun _ y => Only (fun _ => False) W2 y) [Is (.pointer (some ⟨p, 0, none⟩)), Is (.pointer (some ⟨p, 0, none⟩)), Is (.pointer (some ⟨p, 5, none⟩)), Is (.int .i64 c.b), Is (.pointer (some ⟨p, 0, none⟩)), Is (.pointer (some ⟨p, 0, none⟩)), Is (.pointer (some ⟨p, 6, none⟩)), Is (.int .i64 c.t), Is (.int .i64 (c.b - c.t)), Is (.pointer (some ⟨p, 0, none⟩)), Is (.pointer (some ⟨p, 0, none⟩)), Is (.pointer (some ⟨p, 8, none⟩)), Is (.int .i64 (ld C c.w)), Is (.bool true)] (by kernel_rfl)
      ⟨is_stab _ _, is_stab _ _, is_stab _ _, is_stab _ _, is_stab _ _, is_stab _ _, is_stab _ _, is_stab _ _, is_stab _ _, is_stab _ _, is_stab _ _, is_stab _ _, is_stab _ _, is_stab _ _, trivial⟩ (by rw [← HW2.out]; exact Only.refl _ _) ⟨?_, ?_, ?_, ?_, ?_, ?_, ?_, ?_, ?_, ?_, ?_, ?_, ?_, ?_, trivial⟩ ?_
    · intro dn u w1 hi he hS hp K hK
      refine ord_plain rfl ?_
      simp at hp hK ⊢
      go_simp
      exact hK _ _ hS rfl
    · intro dn u w1 hi he hS hp K hK
      refine ord_plain rfl ?_
      simp at hp hK ⊢
      simp only [hp] at hK
      go_simp
      exact hK _ _ hS rfl
    · intro dn u w1 hi he hS hp K hK
      refine ord_plain rfl ?_
      simp at hp hK ⊢
      simp only [hp] at hK
      go_simp
      exact hK _ _ hS rfl
    · intro dn u w1 hi he hS hp K hK
      refine ord_plain rfl ?_
      simp at hp hK ⊢
      simp only [hp] at hK
      have hc : w1.cell? ⟨p, 5, none⟩ = some (.int .i64 c.b) := (HC.out w1 hS).act.cell 5
      go_simp
      exact hK _ _ hS rfl
    · intro dn u w1 hi he hS hp K hK
      refine ord_plain rfl ?_
      simp at hp hK ⊢
      go_simp
      exact hK _ _ hS rfl
    · intro dn u w1 hi he hS hp K hK
      refine ord_plain rfl ?_
      simp at hp hK ⊢
      simp only [hp] at hK
      go_simp
      exact hK _ _ hS rfl
    · intro dn u w1 hi he hS hp K hK
      refine ord_plain rfl ?_
      simp at hp hK ⊢
      simp only [hp] at hK
      go_simp
      exact hK _ _ hS rfl
    · intro dn u w1 hi he hS hp K hK
      refine ord_plain rfl ?_
      simp at hp hK ⊢
      simp only [hp] at hK
      have hc : w1.cell? ⟨p, 6, none⟩ = some (.int .i64 c.t) := (HC.out w1 hS).act.cell 6
      go_simp
      exact hK _ _ hS rfl
    · intro dn u w1 hi he hS hp K hK
      refine ord_plain rfl ?_
      simp at hp hK ⊢
      simp only [hp] at hK
      have hwr : IntKind.i64.wrap (c.b - c.t) = c.b - c.t := IntWalk.i64_in _ (by omega)
      go_simp
      exact hK _ _ hS rfl
    · intro dn u w1 hi he hS hp K hK
      refine ord_plain rfl ?_
      simp at hp hK ⊢
      go_simp
      exact hK _ _ hS rfl
    · intro dn u w1 hi he hS hp K hK
      refine ord_plain rfl ?_
      simp at hp hK ⊢
      simp only [hp] at hK
      go_simp
      exact hK _ _ hS rfl
    · intro dn u w1 hi he hS hp K hK
      refine ord_plain rfl ?_
      simp at hp hK ⊢
      simp only [hp] at hK
      go_simp
      exact hK _ _ hS rfl
    · intro dn u w1 hi he hS hp K hK
      refine ord_plain rfl ?_
      simp at hp hK ⊢
      simp only [hp] at hK
      have hc : w1.cell? ⟨p, 8, none⟩ = some (.int .i64 (ld C c.w)) := (HC.out w1 hS).act.cell 8
      go_simp
      exact hK _ _ hS rfl
    · intro dn u w1 hi he hS hp K hK
      refine ord_plain rfl ?_
      simp at hp hK ⊢
      simp only [hp] at hK
      go_simp
      exact hK _ _ hS (by first | rfl | (simp; omega))
    · intro u w1 dn hld hS hp
      simp at hp ⊢
      have HQ := Lib.hid (HC.out w1 hS)
      simp only [hp]
      go_wp2_with fail
      refine (then_any p _ _ _ _ _ HQ.out.act (by simp [AC.arr])).mono ?_
      rintro e w9 ⟨rfl, rfl⟩
      go_wp2_with fail
      go_ret
      exact ⟨rfl, HQ.out.set 0 _ rfl⟩
  · simp only [if_neg hq]
    go_enter Try.func54, Try.ntmps54
    go_wp2_with fail
    refine (aload_any B m d z p n (c.w) v on C _ w HS.out.dq HS.out.act rfl (by omega)).mono ?_
    rintro e w1 ⟨rfl, h1, h2⟩
    have HS1 := Lib.hid (HS.out.mem h1 h2)
    have f1 : w1.frozen? ⟨p, 8, none⟩ = false := HS1.out.act.frozen 8
    have q1 : w1.cell? ⟨p, 8, none⟩ = some (.int .i64 c.n) := HS1.out.act.cell 8
    clear h1 h2
    go_wp2_with fail
    obtain ⟨w3, hw3⟩ : ∃ w3, w3 = w1.setCell ⟨p, 8, none⟩ (.int .i64 (ld C c.w)) := ⟨_, rfl⟩
    have HS2 : Hid (Stp w w3 B m d z p _ v v on C { c with n := ld C c.w }) := Lib.hid (by rw [hw3]; exact HS1.out.set 8 (.int .i64 (ld C c.w)) (c' := { c with n := ld C c.w }) rfl)
    rw [← hw3]
    clear hw3
    obtain ⟨W2, hW2⟩ : ∃ W2, W2 = w3.drew := ⟨_, rfl⟩
    have HW2 := Lib.hid hW2
    have HC : Hid (∀ y, Only (fun _ => False) W2 y → Stp w y B m d z p _ v v on C { c with n := ld C c.w }) := Lib.hid (fun y hy => Stp.quiet (by rw [hW2]; exact HS2.out.drew) hy)
    clear hW2
    refine wp_region_st (by kernel_rfl) (fun _ y => Only (fun _ => False) W2 y) [Is (.pointer (some ⟨p, 0, none⟩)), Is (.pointer (some ⟨p, 0, none⟩)), Is (.pointer (some ⟨p, 5, none⟩)), Is (.int .i64 c.b), Is (.pointer (some ⟨p, 0, none⟩)), Is (.pointer (some ⟨p, 0, none⟩)), Is (.pointer (some ⟨p, 6, none⟩)), Is (.int .i64 c.t), Is (.int .i64 (c.b - c.t)), Is (.pointer (some ⟨p, 0, none⟩)), Is (.pointer (some ⟨p, 0, none⟩)), Is (.pointer (some ⟨p, 8, none⟩)), Is (.int .i64 (ld C c.w)), Is (.bool false)] (by kernel_rfl)
      ⟨is_stab _ _, is_stab _ _, is_stab _ _, is_stab _ _, is_stab _ _, is_stab _ _, is_stab _ _, is_stab _ _, is_stab _ _, is_stab _ _, is_stab _ _, is_stab _ _, is_stab _ _, is_stab _ _, trivial⟩ (by rw [← HW2.out]; exact Only.refl _ _) ⟨?_, ?_, ?_, ?_, ?_, ?_, ?_, ?_, ?_, ?_, ?_, ?_, ?_, ?_, trivial⟩ ?_
    · intro dn u w1 hi he hS hp K hK
      refine ord_plain rfl ?_
      simp at hp hK ⊢
      go_simp
      exact hK _ _ hS rfl
    · intro dn u w1 hi he hS hp K hK
      refine ord_plain rfl ?_
      simp at hp hK ⊢
      simp only [hp] at hK
      go_simp
      exact hK _ _ hS rfl
    · intro dn u w1 hi he hS hp K hK
      refine ord_plain rfl ?_
      simp at hp hK ⊢
      simp only [hp] at hK
      go_simp
      exact hK _ _ hS rfl
    · intro dn u w1 hi he hS hp K hK
      refine ord_plain rfl ?_
      simp at hp hK ⊢
      simp only [hp] at hK
      have hc : w1.cell? ⟨p, 5, none⟩ = some (.int .i64 c.b) := (HC.out w1 hS).act.cell 5
      go_simp
      exact hK _ _ hS rfl
    · intro dn u w1 hi he hS hp K hK
      refine ord_plain rfl ?_
      simp at hp hK ⊢
      go_simp
      exact hK _ _ hS rfl
    · intro dn u w1 hi he hS hp K hK
      refine ord_plain rfl ?_
      simp at hp hK ⊢
      simp only [hp] at hK
      go_simp
      exact hK _ _ hS rfl
    · intro dn u w1 hi he hS hp K hK
      refine ord_plain rfl ?_
      simp at hp hK ⊢
      simp only [hp] at hK
      go_simp
      exact hK _ _ hS rfl
    · intro dn u w1 hi he hS hp K hK
      refine ord_plain rfl ?_
      simp at hp hK ⊢
      simp only [hp] at hK
      have hc : w1.cell? ⟨p, 6, none⟩ = some (.int .i64 c.t) := (HC.out w1 hS).act.cell 6
      go_simp
      exact hK _ _ hS rfl
    · intro dn u w1 hi he hS hp K hK
      refine ord_plain rfl ?_
      simp at hp hK ⊢
      simp only [hp] at hK
      have hwr : IntKind.i64.wrap (c.b - c.t) = c.b - c.t := IntWalk.i64_in _ (by omega)
      go_simp
      exact hK _ _ hS rfl
    · intro dn u w1 hi he hS hp K hK
      refine ord_plain rfl ?_
      simp at hp hK ⊢
      go_simp
      exact hK _ _ hS rfl
    · intro dn u w1 hi he hS hp K hK
      refine ord_plain rfl ?_
      simp at hp hK ⊢
      simp only [hp] at hK
      go_simp
      exact hK _ _ hS rfl
    · intro dn u w1 hi he hS hp K hK
      refine ord_plain rfl ?_
      simp at hp hK ⊢
      simp only [hp] at hK
      go_simp
      exact hK _ _ hS rfl
    · intro dn u w1 hi he hS hp K hK
      refine ord_plain rfl ?_
      simp at hp hK ⊢
      simp only [hp] at hK
      have hc : w1.cell? ⟨p, 8, none⟩ = some (.int .i64 (ld C c.w)) := (HC.out w1 hS).act.cell 8
      go_simp
      exact hK _ _ hS rfl
    · intro dn u w1 hi he hS hp K hK
      refine ord_plain rfl ?_
      simp at hp hK ⊢
      simp only [hp] at hK
      go_simp
      exact hK _ _ hS (by first | rfl | (simp; omega))
    · intro u w1 dn hld hS hp
      simp at hp ⊢
      have HQ := Lib.hid (HC.out w1 hS)
      simp only [hp]
      go_wp2_with fail
      refine (then_any p _ _ _ _ _ HQ.out.act (by simp [AC.arr])).mono ?_
      rintro e w9 ⟨rfl, rfl⟩
      go_wp2_with fail
      go_ret
      exact ⟨rfl, HQ.out.set 0 _ rfl⟩
set_option maxRecDepth 100000 in
set_option maxHeartbeats 1000000 in
theorem popTop_any (B m d z p : Nat) (n : Int) (v on : Value) (C : List Int) (c : AC) (w : World) (h : DqS w B m d z n v C on) (hp : Blk w p 79 (c.arr d)) (hn : n + 2 ≤ 4611686018427387904) :
    Calls Try.prog 56 #[.pointer (some ⟨p, 0, none⟩)] w fun e w' => e = .returned (.int .i64 0) ∧ Stp w w' B m d z p (n + cellN C ((z : Int))) v v on C { c with t := ld C (z : Int), dv := if ld C (z : Int) > c.b then meth 61 p else meth 62 p } := by
  have HS := Lib.hid (Stp.refl h hp)
  have a5 : w.cell? ⟨p, 5, none⟩ = some (.int .i64 c.b) := HS.out.act.cell 5
  have d1 : w.cell? ⟨d, 1, none⟩ = some (.int .i64 (z : Int)) := HS.out.dq.blk.cell 1
  have a3 : w.cell? ⟨p, 3, none⟩ = some (.pointer (some ⟨d, 0, none⟩)) := HS.out.act.cell 3
  clear h hp
  by_cases hq : ld C (z : Int) > c.b
  · simp only [if_pos hq]
    go_enter Try.func56, Try.ntmps56
    go_wp2_with fail
    refine (aload_any B m d z p n ((z : Int)) v on C _ w HS.out.dq HS.out.act rfl (by omega)).mono ?_
    rintro e w1 ⟨rfl, h1, h2⟩
    have HS1 := Lib.hid (HS.out.mem h1 h2)
    have f1 : w1.frozen? ⟨p, 6, none⟩ = false := HS1.out.act.frozen 6
    have q1 : w1.cell? ⟨p, 6, none⟩ = some (.int .i64 c.t) := HS1.out.act.cell 6
    clear h1 h2
    go_wp2_with fail
    obtain ⟨w3, hw3⟩ : ∃ w3, w3 = w1.setCell ⟨p, 6, none⟩ (.int .i64 (ld C (z : Int))) := ⟨_, rfl⟩
    have HS2 : Hid (Stp w w3 B m d z p _ v v on C { c with t := ld C (z : Int) }) := Lib.hid (by rw [hw3]; exact HS1.out.set 6 (.int .i64 (ld C (z : Int))) (c' := { c with t := ld C (z : Int) }) rfl)
    rw [← hw3]
    clear hw3
    obtain ⟨W2, hW2⟩ : ∃ W2, W2 = w3.drew := ⟨_, rfl⟩
    have HW2 := Lib.hid hW2
    have HC : Hid (∀ y, Only (fun _ => False) W2 y → Stp w y B m d z p _ v v on C { c with t := ld C (z : Int) }) := Lib.hid (fun y hy => Stp.quiet (by rw [hW2]; exact HS2.out.drew) hy)
    clear hW2
    refine wp_region_st (by kernel_rfl) (fun _ y => Only (fun _ => False) W2 y) [Is (.pointer (some ⟨p, 0, none⟩)), Is (.pointer (some ⟨p, 0, none⟩)), Is (.pointer (some ⟨p, 6, none⟩)), Is (.int .i64 (ld C (z : Int))), Is (.pointer (some ⟨p, 0, none⟩)), Is (.pointer (some ⟨p, 0, none⟩)), Is (.pointer (some ⟨p, 5, none⟩)), Is (.int .i64 c.b), Is (.bool true)] (by kernel_rfl)
      ⟨is_stab _ _, is_stab _ _, is_stab _ _, is_stab _ _, is_stab _ _, is_stab _ _, is_stab _ _, is_stab _ _, is_stab _ _, trivial⟩ (by rw [← HW2.out]; exact Only.refl _ _) ⟨?_, ?_, ?_, ?_, ?_, ?_, ?_, ?_, ?_, trivial⟩ ?_
    · intro dn u w1 hi he hS hp K hK
      refine ord_plain rfl ?_
      simp at hp hK ⊢
      go_simp
      exact hK _ _ hS rfl
    · intro dn u w1 hi he hS hp K hK
      refine ord_plain rfl ?_
      simp at hp hK ⊢
      simp only [hp] at hK
      go_simp
      exact hK _ _ hS rfl
    · intro dn u w1 hi he hS hp K hK
      refine ord_plain rfl ?_
      simp at hp hK ⊢
      simp only [hp] at hK
      go_simp
      exact hK _ _ hS rfl
    · intro dn u w1 hi he hS hp K hK
      refine ord_plain rfl ?_
      simp at hp hK ⊢
      simp only [hp] at hK
      have hc : w1.cell? ⟨p, 6, none⟩ = some (.int .i64 (ld C (z : Int))) := (HC.out w1 hS).act.cell 6
      go_simp
      exact hK _ _ hS rfl
    · intro dn u w1 hi he hS hp K hK
      refine ord_plain rfl ?_
      simp at hp hK ⊢
      go_simp
      exact hK _ _ hS rfl
    · intro dn u w1 hi he hS hp K hK
      refine ord_plain rfl ?_
      simp at hp hK ⊢
      simp only [hp] at hK
      go_simp
      exact hK _ _ hS rfl
    · intro dn u w1 hi he hS hp K hK
      refine ord_plain rfl ?_
      simp at hp hK ⊢
      simp only [hp] at hK
      go_simp
      exact hK _ _ hS rfl
    · intro dn u w1 hi he hS hp K hK
      refine ord_plain rfl ?_
      simp at hp hK ⊢
      simp only [hp] at hK
      have hc : w1.cell? ⟨p, 5, none⟩ = some (.int .i64 c.b) := (HC.out w1 hS).act.cell 5
      go_simp
      exact hK _ _ hS rfl
    · intro dn u w1 hi he hS hp K hK
      refine ord_plain rfl ?_
      simp at hp hK ⊢
      simp only [hp] at hK
      go_simp
      exact hK _ _ hS (by first | rfl | (simp; omega))
    · intro u w1 dn hld hS hp
      simp at hp ⊢
      have HQ := Lib.hid (HC.out w1 hS)
      simp only [hp]
      go_wp2_with fail
      refine (then_any p _ _ _ _ _ HQ.out.act (by simp [AC.arr])).mono ?_
      rintro e w9 ⟨rfl, rfl⟩
      go_wp2_with fail
      go_ret
      exact ⟨rfl, HQ.out.set 0 _ rfl⟩
  · simp only [if_neg hq]
    go_enter Try.func56, Try.ntmps56
    go_wp2_with fail
    refine (aload_any B m d z p n ((z : Int)) v on C _ w HS.out.dq HS.out.act rfl (by omega)).mono ?_
    rintro e w1 ⟨rfl, h1, h2⟩
    have HS1 := Lib.hid (HS.out.mem h1 h2)
    have f1 : w1.frozen? ⟨p, 6, none⟩ = false := HS1.out.act.frozen 6
    have q1 : w1.cell? ⟨p, 6, none⟩ = some (.int .i64 c.t) := HS1.out.act.cell 6
    clear h1 h2
    go_wp2_with fail
    obtain ⟨w3, hw3⟩ : ∃ w3, w3 = w1.setCell ⟨p, 6, none⟩ (.int .i64 (ld C (z : Int))) := ⟨_, rfl⟩
    have HS2 : Hid (Stp w w3 B m d z p _ v v on C { c with t := ld C (z : Int) }) := Lib.hid (by rw [hw3]; exact HS1.out.set 6 (.int .i64 (ld C (z : Int))) (c' := { c with t := ld C (z : Int) }) rfl)
    rw [← hw3]
    clear hw3
    obtain ⟨W2, hW2⟩ : ∃ W2, W2 = w3.drew := ⟨_, rfl⟩
    have HW2 := Lib.hid hW2
    have HC : Hid (∀ y, Only (fun _ => False) W2 y → Stp w y B m d z p _ v v on C { c with t := ld C (z : Int) }) := Lib.hid (fun y hy => Stp.quiet (by rw [hW2]; exact HS2.out.drew) hy)
    clear hW2
    refine wp_region_st (by kernel_rfl) (fun _ y => Only (fun _ => False) W2 y) [Is (.pointer (some ⟨p, 0, none⟩)), Is (.pointer (some ⟨p, 0, none⟩)), Is (.pointer (some ⟨p, 6, none⟩)), Is (.int .i64 (ld C (z : Int))), Is (.pointer (some ⟨p, 0, none⟩)), Is (.pointer (some ⟨p, 0, none⟩)), Is (.pointer (some ⟨p, 5, none⟩)), Is (.int .i64 c.b), Is (.bool false)] (by kernel_rfl)
      ⟨is_stab _ _, is_stab _ _, is_stab _ _, is_stab _ _, is_stab _ _, is_stab _ _, is_stab _ _, is_stab _ _, is_stab _ _, trivial⟩ (by rw [← HW2.out]; exact Only.refl _ _) ⟨?_, ?_, ?_, ?_, ?_, ?_, ?_, ?_, ?_, trivial⟩ ?_
    · intro dn u w1 hi he hS hp K hK
      refine ord_plain rfl ?_
      simp at hp hK ⊢
      go_simp
      exact hK _ _ hS rfl
    · intro dn u w1 hi he hS hp K hK
      refine ord_plain rfl ?_
      simp at hp hK ⊢
      simp only [hp] at hK
      go_simp
      exact hK _ _ hS rfl
    · intro dn u w1 hi he hS hp K hK
      refine ord_plain rfl ?_
      simp at hp hK ⊢
      simp only [hp] at hK
      go_simp
      exact hK _ _ hS rfl
    · intro dn u w1 hi he hS hp K hK
      refine ord_plain rfl ?_
      simp at hp hK ⊢
      simp only [hp] at hK
      have hc : w1.cell? ⟨p, 6, none⟩ = some (.int .i64 (ld C (z : Int))) := (HC.out w1 hS).act.cell 6
      go_simp
      exact hK _ _ hS rfl
    · intro dn u w1 hi he hS hp K hK
      refine ord_plain rfl ?_
      simp at hp hK ⊢
      go_simp
      exact hK _ _ hS rfl
    · intro dn u w1 hi he hS hp K hK
      refine ord_plain rfl ?_
      simp at hp hK ⊢
      simp only [hp] at hK
      go_simp
      exact hK _ _ hS rfl
    · intro dn u w1 hi he hS hp K hK
      refine ord_plain rfl ?_
      simp at hp hK ⊢
      simp only [hp] at hK
      go_simp
      exact hK _ _ hS rfl
    · intro dn u w1 hi he hS hp K hK
      refine ord_plain rfl ?_
      simp at hp hK ⊢
      simp only [hp] at hK
      have hc : w1.cell? ⟨p, 5, none⟩ = some (.int .i64 c.b) := (HC.out w1 hS).act.cell 5
      go_simp
      exact hK _ _ hS rfl
    · intro dn u w1 hi he hS hp K hK
      refine ord_plain rfl ?_
      simp at hp hK ⊢
      simp only [hp] at hK
      go_simp
      exact hK _ _ hS (by first | rfl | (simp; omega))
    · intro u w1 dn hld hS hp
      simp at hp ⊢
      have HQ := Lib.hid (HC.out w1 hS)
      simp only [hp]
      go_wp2_with fail
      refine (then_any p _ _ _ _ _ HQ.out.act (by simp [AC.arr])).mono ?_
      rintro e w9 ⟨rfl, rfl⟩
      go_wp2_with fail
      go_ret
      exact ⟨rfl, HQ.out.set 0 _ rfl⟩
end Go.Proofs.Ytmghlhngdopifaa
