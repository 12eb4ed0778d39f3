/- Deques: acts begin. -/
import Derived.Test.YtmghlhngdopifaaDqR
namespace Go.Proofs.Ytmghlhngdopifaa
open Go.RowKit
set_option linter.unusedVariables false
/-- an act as it is made -/
def freshAC : AC := ⟨.nilFunc, 0, 0, 0, 0, 0, 0, 0, 0, 0, false⟩
def Owned (B m d z p : Nat) (n : Int) (v : Value) (C : List Int) (w w' : World) : Prop :=
  DqS w' B m d z n v C (.pointer (some ⟨p, 0, none⟩)) ∧ Blk w' p 79 (freshAC.arr d) ∧ Only (fun x => x = d) w w'
set_option maxRecDepth 100000 in
theorem owner_free (B m d z : Nat) (n : Int) (v on : Value) (C : List Int) (w : World) (h : DqS w B m d z n v C on) (hon : on = .pointer none ∨ ∃ p c, on = .pointer (some ⟨p, 0, none⟩) ∧ Blk w p 79 (AC.arr c d) ∧ c.dv = .nilFunc) :
    Calls Try.prog 26 #[.pointer (some ⟨d, 0, none⟩)] w fun e w' => e = .returned (.tuple #[.pointer (some ⟨w.heap.size, 0, none⟩), .int .i64 0]) ∧ Owned B m d z w.heap.size n v C w w' := by
  have c0 : w.cell? ⟨d, 0, none⟩ = some (.pointer (some ⟨m, 0, none⟩)) := h.blk.cell 0
  have hdl := h.blk.lt
  have H := Lib.hid h
  have hfin : ∀ N, N = w.heap.size → Owned B m d z N n v C w ((w.setCell ⟨d, 6, none⟩ (.pointer (some ⟨N, 0, none⟩))).alloc (.cells (freshAC.arr d) 79)) := by
    rintro N rfl
    have o : Only (fun x => x = d) w ((w.setCell ⟨d, 6, none⟩ (.pointer (some ⟨w.heap.size, 0, none⟩))).alloc (.cells (freshAC.arr d) 79)) := ((Only.refl (fun x => x = d) w).setCell (p := ⟨d, 6, none⟩) (.inl rfl) _).alloc _
    refine ⟨⟨h.mem.only o (fun e => h.away (.inl e.symm)) (fun k hk e => h.away (.inr (e ▸ hk))), ?_, h.base⟩, ?_, o⟩
    · exact (h.blk.set_ 6 _).alloc _
    · have hsz : (w.setCell ⟨d, 6, none⟩ (.pointer (some ⟨w.heap.size, 0, none⟩))).heap.size = w.heap.size := by simp [World.setCell]
      have hb := Blk.new (w.setCell ⟨d, 6, none⟩ (.pointer (some ⟨w.heap.size, 0, none⟩))) 79 (freshAC.arr d)
      rwa [hsz] at hb
  have HF := Lib.hid (hfin _ rfl)
  have c6 : w.cell? ⟨d, 6, none⟩ = some on := h.blk.cell 6
  have f6 : w.frozen? ⟨d, 6, none⟩ = false := h.blk.frozen 6
  clear h hfin
  rcases hon with rfl | ⟨p, c, rfl, hb, hd⟩
  · go_enter Try.func26, Try.ntmps26
    go_wp2_with fail
    go_ret2
    exact ⟨rfl, HF.out⟩
  · have p0 : w.cell? ⟨p, 0, none⟩ = some .nilFunc := by rw [← hd]; exact hb.cell 0
    have qf : ∀ w, (binOp .neq 75 .nilFunc .nilFunc).run Try.prog w = .ok (.bool false) w := fun _ => rfl
    clear hb hd
    go_enter Try.func26, Try.ntmps26
    go_wp2_with fail
    go_ret2
    exact ⟨rfl, HF.out⟩
set_option maxRecDepth 100000 in
theorem owner_busy (B m d z p : Nat) (n : Int) (v : Value) (C : List Int) (c : AC) (fn : Fn) (fs cp : Array Value) (w : World) (h : DqS w B m d z n v C (.pointer (some ⟨p, 0, none⟩))) (hb : Blk w p 79 (c.arr d)) (hd : c.dv = .func fn fs cp) :
    Calls Try.prog 26 #[.pointer (some ⟨d, 0, none⟩)] w fun e w' => e = .returned (.tuple #[.pointer none, .int .i64 3]) ∧ w = w' := by
  have c0 : w.cell? ⟨d, 0, none⟩ = some (.pointer (some ⟨m, 0, none⟩)) := h.blk.cell 0
  have c6 : w.cell? ⟨d, 6, none⟩ = some (.pointer (some ⟨p, 0, none⟩)) := h.blk.cell 6
  have p0 : w.cell? ⟨p, 0, none⟩ = some (.func fn fs cp) := by rw [← hd]; exact hb.cell 0
  have qf : ∀ w, (binOp .neq 75 (.func fn fs cp) .nilFunc).run Try.prog w = .ok (.bool true) w := fun _ => rfl
  clear h hb hd
  go_enter Try.func26, Try.ntmps26
  go_wp2_with fail
  go_ret2
  exact ⟨rfl, rfl⟩
/-- an act has begun at a new block -/
def Begun (B m d z p : Nat) (n : Int) (v on' : Value) (C : List Int) (a : PAct) (w w' : World) : Prop :=
  DqS w' B m d z n v C on' ∧ ActI w' p d v a ∧ Only (fun x => x = d) w w'
set_option maxRecDepth 100000 in
theorem push_free (B m d z : Nat) (n : Int) (v on : Value) (C : List Int) (x : Int) (w : World) (h : DqS w B m d z n v C on) (hon : on = .pointer none ∨ ∃ p c, on = .pointer (some ⟨p, 0, none⟩) ∧ Blk w p 79 (AC.arr c d) ∧ c.dv = .nilFunc) :
    Calls Try.prog 10 #[.pointer (some ⟨d, 0, none⟩), .int .i64 x] w fun e w' => e = .returned (.tuple #[.pointer (some ⟨w.heap.size, 0, none⟩), .int .i64 0]) ∧ Begun B m d z w.heap.size n v (.pointer (some ⟨w.heap.size, 0, none⟩)) C (newA 0 x) w w' := by
  obtain ⟨p, hp⟩ : ∃ p, p = w.heap.size := ⟨_, rfl⟩
  have ho := owner_free B m d z n v on C w h hon
  rw [← hp] at ho ⊢
  have HP := Lib.hid hp
  have HO := Lib.hid ho
  clear h hon ho hp
  go_enter Try.func10, Try.ntmps10
  go_wp2_with fail
  refine HO.out.mono ?_
  rintro e w1 ⟨rfl, k1, k2, k3⟩
  have K1 := Lib.hid k1
  have K2 := Lib.hid k2
  have K3 := Lib.hid k3
  have a4 : w1.cell? ⟨p, 4, none⟩ = some (.int .i64 0) := k2.cell 4
  have f4 : w1.frozen? ⟨p, 4, none⟩ = false := k2.frozen 4
  clear k1 k2 k3
  go_wp2_with fail
  have HS : Hid (Stp w1 (w1.setCell ⟨p, 4, none⟩ (.int .i64 x)) B m d z p n v v _ C { freshAC with v := x }) := Lib.hid ((Stp.refl K1.out K2.out).set 4 _ rfl)
  refine (then_any p _ _ _ _ _ HS.out.act (by simp [AC.arr])).mono ?_
  rintro e w2 ⟨rfl, rfl⟩
  go_wp2_with fail
  go_ret2
  have hS := HS.out.set 0 (meth 28 p) (c' := toAC (newA 0 x) (meth 28 p)) rfl
  refine ⟨rfl, hS.dq, ⟨⟨_, hS.act, rfl⟩, (fun e => by cases e), fun _ => rfl, by simp [newA]⟩, ?_⟩
  exact K3.out.trans' (((Only.refl (fun x => x = p) _).setCell (p := ⟨p, 4, none⟩) (.inl rfl) _).setCell (p := ⟨p, 0, none⟩) (.inl rfl) _) (fun i hi => .inr (by rw [hi, HP.out]; exact Nat.le_refl _))
set_option maxRecDepth 100000 in
theorem pop_free (B m d z : Nat) (n : Int) (v on : Value) (C : List Int) (w : World) (h : DqS w B m d z n v C on) (hon : on = .pointer none ∨ ∃ p c, on = .pointer (some ⟨p, 0, none⟩) ∧ Blk w p 79 (AC.arr c d) ∧ c.dv = .nilFunc) :
    Calls Try.prog 11 #[.pointer (some ⟨d, 0, none⟩)] w fun e w' => e = .returned (.tuple #[.pointer (some ⟨w.heap.size, 0, none⟩), .int .i64 0]) ∧ Begun B m d z w.heap.size n v (.pointer (some ⟨w.heap.size, 0, none⟩)) C (newA 1 0) w w' := by
  obtain ⟨p, hp⟩ : ∃ p, p = w.heap.size := ⟨_, rfl⟩
  have ho := owner_free B m d z n v on C w h hon
  rw [← hp] at ho ⊢
  have HP := Lib.hid hp
  have HO := Lib.hid ho
  clear h hon ho hp
  go_enter Try.func11, Try.ntmps11
  go_wp2_with fail
  refine HO.out.mono ?_
  rintro e w1 ⟨rfl, k1, k2, k3⟩
  have K1 := Lib.hid k1
  have K2 := Lib.hid k2
  have K3 := Lib.hid k3
  clear k1 k2 k3
  go_wp2_with fail
  have HS : Hid (Stp w1 w1 B m d z p n v v _ C freshAC) := Lib.hid (Stp.refl K1.out K2.out)
  refine (then_any p _ _ _ _ _ HS.out.act (by simp [AC.arr])).mono ?_
  rintro e w2 ⟨rfl, rfl⟩
  go_wp2_with fail
  go_ret2
  have hS := HS.out.set 0 (meth 29 p) (c' := toAC (newA 1 0) (meth 29 p)) rfl
  refine ⟨rfl, hS.dq, ⟨⟨_, hS.act, rfl⟩, fun _ _ => rfl, fun _ => rfl, by decide⟩, ?_⟩
  exact K3.out.trans' ((Only.refl (fun x => x = p) _).setCell (p := ⟨p, 0, none⟩) (.inl rfl) _) (fun i hi => .inr (by rw [hi, HP.out]; exact Nat.le_refl _))
set_option maxRecDepth 100000 in
theorem steal_free (B m d z : Nat) (n : Int) (v on : Value) (C : List Int) (w : World) (h : DqS w B m d z n v C on) :
    Calls Try.prog 12 #[.pointer (some ⟨d, 0, none⟩)] w fun e w' => e = .returned (.tuple #[.pointer (some ⟨w.heap.size, 0, none⟩), .int .i64 0]) ∧ Begun B m d z w.heap.size n v on C (newA 2 0) w w' := by
  obtain ⟨p, hp⟩ : ∃ p, p = w.heap.size := ⟨_, rfl⟩
  obtain ⟨wa, hwa⟩ : ∃ wa, wa = w.alloc (.cells (freshAC.arr d) 79) := ⟨_, rfl⟩
  have o : Only (fun _ => False) w wa := by rw [hwa]; exact (Only.refl _ w).alloc _
  have hd1 : DqS wa B m d z n v C on := ⟨h.mem.only o (fun e => e) (fun _ _ e => e), o.blk h.blk (fun e => e), h.base⟩
  have hb1 : Blk wa p 79 (freshAC.arr d) := by rw [hwa, hp]; exact Blk.new w _ _
  have HS : Hid (Stp wa wa B m d z p n v v on C freshAC) := Lib.hid (Stp.refl hd1 hb1)
  have HP := Lib.hid hp
  have HO := Lib.hid o
  have c0 : w.cell? ⟨d, 0, none⟩ = some (.pointer (some ⟨m, 0, none⟩)) := h.blk.cell 0
  have HWA : Hid (w.alloc (.cells #[.nilFunc, .int .u8 0, .int .i64 0, .pointer (some ⟨d, 0, none⟩), .int .i64 0, .int .i64 0, .int .i64 0, .int .i64 0, .int .i64 0, .int .i64 0, .int .i64 0, .bool false] 79) = wa) := Lib.hid (by rw [hwa]; rfl)
  rw [← hp]
  clear h hd1 hb1 o hwa
  go_enter Try.func12, Try.ntmps12
  go_wp2_with fail
  rw [HWA.out, ← hp]
  clear hp
  refine (then_any p _ _ _ _ _ HS.out.act (by simp [AC.arr, freshAC])).mono ?_
  rintro e w2 ⟨rfl, rfl⟩
  go_wp2_with fail
  go_ret2
  have hS := HS.out.set 0 (meth 30 p) (c' := toAC (newA 2 0) (meth 30 p)) rfl
  refine ⟨rfl, hS.dq, ⟨⟨_, hS.act, rfl⟩, (fun e => by cases e), fun _ => rfl, by simp [newA]⟩, ?_⟩
  exact (HO.out.mono (T := fun x => x = d) fun _ e => e.elim).trans' ((Only.refl (fun x => x = p) _).setCell (p := ⟨p, 0, none⟩) (.inl rfl) _) (fun i hi => .inr (by rw [hi, HP.out]; exact Nat.le_refl _))
set_option maxRecDepth 100000 in
theorem push_busy (B m d z p : Nat) (n : Int) (v : Value) (C : List Int) (c : AC) (fn : Fn) (fs cp : Array Value) (x : Int) (w : World) (h : DqS w B m d z n v C (.pointer (some ⟨p, 0, none⟩))) (hb : Blk w p 79 (c.arr d)) (hd : c.dv = .func fn fs cp) :
    Calls Try.prog 10 #[.pointer (some ⟨d, 0, none⟩), .int .i64 x] w fun e w' => e = .returned (.tuple #[.pointer none, .int .i64 3]) ∧ w = w' := by
  have HO := Lib.hid (owner_busy B m d z p n v C c fn fs cp w h hb hd)
  clear h hb hd
  go_enter Try.func10, Try.ntmps10
  go_wp2_with fail
  refine HO.out.mono ?_
  rintro e w1 ⟨rfl, rfl⟩
  go_wp2_with fail
  go_ret2
  exact ⟨rfl, rfl⟩
set_option maxRecDepth 100000 in
theorem pop_busy (B m d z p : Nat) (n : Int) (v : Value) (C : List Int) (c : AC) (fn : Fn) (fs cp : Array Value) (w : World) (h : DqS w B m d z n v C (.pointer (some ⟨p, 0, none⟩))) (hb : Blk w p 79 (c.arr d)) (hd : c.dv = .func fn fs cp) :
    Calls Try.prog 11 #[.pointer (some ⟨d, 0, none⟩)] w fun e w' => e = .returned (.tuple #[.pointer none, .int .i64 3]) ∧ w = w' := by
  have HO := Lib.hid (owner_busy B m d z p n v C c fn fs cp w h hb hd)
  clear h hb hd
  go_enter Try.func11, Try.ntmps11
  go_wp2_with fail
  refine HO.out.mono ?_
  rintro e w1 ⟨rfl, rfl⟩
  go_wp2_with fail
  go_ret2
  exact ⟨rfl, rfl⟩
end Go.Proofs.Ytmghlhngdopifaa
