/- Deques: an act in plain words; each step of it. -/
import Derived.Test.YtmghlhngdopifaaDqN
namespace Go.Proofs.Ytmghlhngdopifaa
open Go.RowKit
set_option linter.unusedVariables false
attribute [local simp] frOf dstsOf frGo predsHold allHold Region.binds slotOf seen Is Act.put
/-- the method that does an act's next step -/
def nextF (kind at' : Nat) : Nat :=
  match kind with
  | 0 => match at' with
    | 0 => 28
    | 1 => 37
    | 2 => 47
    | 3 => 54
    | 10 => 58
    | 11 => 70
    | 13 => 69
    | 20 => 59
    | _ => 66
  | 1 => match at' with
    | 0 => 29
    | 1 => 38
    | 2 => 48
    | 3 => 56
    | 4 => 61
    | 5 => 62
    | 6 => 67
    | 7 => 71
    | _ => 61
  | _ => match at' with
    | 0 => 30
    | 1 => 39
    | 2 => 50
    | 3 => 57
    | 4 => 63
    | _ => 68
def toAC (a : PAct) (dv : Value) : AC :=
  ⟨dv, a.told, a.got, if a.kind = 0 then a.v else a.read, if a.kind = 2 then 0 else a.b, a.t, a.w, a.n, a.nw, if a.kind = 0 then a.i else 0, decide (a.kind = 1 ∧ a.i = 1)⟩
def Does (w : World) (p : Nat) (v : Value) (a : PAct) (dv : Value) : Prop :=
  if a.told = 0 then
    if a.kind = 0 ∧ a.at_ = 12 then ∃ ba bv, dv = .func (.func 73) #[] #[.pointer (some ⟨ba, 0, none⟩), .pointer (some ⟨bv, 0, none⟩)] ∧ Blk w ba 37 #[.pointer (some ⟨p, 0, none⟩)] ∧ Blk w bv 2 #[.int .i64 a.read] ∧ v.ownBlock ≠ some bv
    else dv = meth (nextF a.kind a.at_) p
  else dv = .nilFunc
/-- an act lies at p -/
structure ActI (w : World) (p d : Nat) (v : Value) (a : PAct) : Prop where
  ex : ∃ dv, Blk w p 79 ((toAC a dv).arr d) ∧ Does w p v a dv
  i0 : a.kind = 1 → a.at_ ≤ 7 → a.i = 0
  g0 : a.told = 0 → a.got = 0
  k2 : a.kind ≤ 2
theorem meth_enter (f p : Nat) (h : ∀ w, (callFunc f #[.pointer (some ⟨p, 0, none⟩)]).run Try.prog w = .ok (.enter f #[.pointer (some ⟨p, 0, none⟩)]) w) : ∀ w, (callFunc f (#[.pointer (some ⟨p, 0, none⟩)] ++ #[])).run Try.prog w = .ok (.enter f (#[.pointer (some ⟨p, 0, none⟩)] ++ #[])) w := h
/-- bounds that the walk asks -/
def bd (x : Int) : Prop := -1000000 ≤ x ∧ x ≤ 1000000
/-- a place that may be reached -/
def pok (z : Nat) (C : List Int) (w n i : Int) : Prop := 0 ≤ i ∧ i ≤ 1000000 ∧ 1 ≤ n ∧ n ≤ 400000 ∧ (z : Int) + 2 < w ∧ w ≤ 1000000 ∧ w + n < C.length
def Safe (z : Nat) (C : List Int) (a : PAct) : Prop :=
  ((z : Int) + 2 < C.length ∧ C.length ≤ 65536 ∧ bd (ld C ((z : Int) + 1))) ∧
  match a.kind with
  | 0 => match a.at_ with
    | 3 => bd a.b ∧ bd a.t ∧ 0 ≤ a.w ∧ a.w < C.length
    | 10 => 1 ≤ a.n ∧ a.n ≤ 20000 ∧ (C.length : Int) + 1 + 2 * a.n ≤ 65536
    | 11 => pok z C a.w a.n a.i
    | 12 => pok z C a.nw (2 * a.n) a.i
    | 13 => 1 ≤ a.n ∧ a.n ≤ 400000
    | 20 => pok z C a.w a.n a.b
    | 21 => bd a.b
    | _ => True
  | 1 => match a.at_ with
    | 3 => bd a.b
    | 4 => bd a.b
    | 5 => 0 ≤ a.w ∧ a.w < C.length
    | 6 => pok z C a.w a.n a.b ∧ bd a.t
    | 7 => bd a.t
    | 8 => bd a.b
    | _ => True
  | _ => match a.at_ with
    | 3 => 0 ≤ a.w ∧ a.w < C.length
    | 4 => pok z C a.w a.n a.t
    | 5 => bd a.t
    | _ => True
def cnt (a : PAct) : Int := if a.kind = 0 ∧ a.at_ = 10 then 0 else 1
theorem cellN_in {C : List Int} {k : Int} (h0 : 0 ≤ k) (h1 : k < C.length) : cellN C k = 1 := if_pos ⟨h0, h1⟩
theorem Stp.steps {w w' : World} {B m d z p : Nat} {n n' : Int} {v v' on : Value} {C : List Int} {c : AC} (h : Stp w w' B m d z p n v v' on C c) (e : n = n') : Stp w w' B m d z p n' v v' on C c := e ▸ h
/-- what a step has left, in plain words -/
def Left (w : World) (B m d z p : Nat) (n : Int) (v on : Value) (r : Res) (w1 : World) (c : AC) : Prop :=
  ∃ v', Stp w w1 B m d z p n v v' on r.C c ∧ ∃ dv, c = toAC r.a dv ∧ Does w1 p v' r.a dv
theorem l0_0 (B m d z p : Nat) (n : Int) (v on : Value) (C : List Int) (a : PAct) (dv : Value) (w : World) (h : DqS w B m d z n v C on) (hp : Blk w p 79 ((toAC a dv).arr d)) (hn : n + 3 ≤ 4611686018427387904) (hS : Safe z C a) (h0 : a.told = 0) (hi : a.kind = 1 → a.at_ ≤ 7 → a.i = 0) (hk : a.kind = 0) (ha : a.at_ = 0) :
    Calls Try.prog 28 #[.pointer (some ⟨p, 0, none⟩)] w fun e w' => e = .returned (.int .i64 0) ∧ ∃ c', Blk w' p 79 (c'.arr d) ∧ Left w B m d z p (n + cnt a) v on (pstep z C a) w' c' := by
  obtain ⟨kind, av, at', b, t, aw, an, nw, i, rd, told, got⟩ := a
  simp only at hk ha h0
  subst hk ha h0
  obtain ⟨⟨s1, s2, s3⟩, s4⟩ := hS
  simp only [bd] at s3 s4
  refine (pushBottom_any B m d z p n v on C _ w h hp (by omega)).mono ?_
  rintro e w' ⟨rfl, k1⟩
  refine ⟨rfl, _, k1.act, ?_⟩
  have hN : cellN C ((z : Int) + 1) = 1 := cellN_in (by first | omega | (simp only [toAC]; omega)) (by first | omega | (simp only [toAC]; omega))
  replace k1 := k1.steps (n' := n + 1) (congrArg (fun x => n + x) hN)
  exact ⟨v, k1, _, rfl, rfl⟩
theorem l0_1 (B m d z p : Nat) (n : Int) (v on : Value) (C : List Int) (a : PAct) (dv : Value) (w : World) (h : DqS w B m d z n v C on) (hp : Blk w p 79 ((toAC a dv).arr d)) (hn : n + 3 ≤ 4611686018427387904) (hS : Safe z C a) (h0 : a.told = 0) (hi : a.kind = 1 → a.at_ ≤ 7 → a.i = 0) (hk : a.kind = 0) (ha : a.at_ = 1) :
    Calls Try.prog 37 #[.pointer (some ⟨p, 0, none⟩)] w fun e w' => e = .returned (.int .i64 0) ∧ ∃ c', Blk w' p 79 (c'.arr d) ∧ Left w B m d z p (n + cnt a) v on (pstep z C a) w' c' := by
  obtain ⟨kind, av, at', b, t, aw, an, nw, i, rd, told, got⟩ := a
  simp only at hk ha h0
  subst hk ha h0
  obtain ⟨⟨s1, s2, s3⟩, s4⟩ := hS
  simp only [bd] at s3 s4
  refine (pushTop_any B m d z p n v on C _ w h hp (by omega)).mono ?_
  rintro e w' ⟨rfl, k1⟩
  refine ⟨rfl, _, k1.act, ?_⟩
  have hN : cellN C (z : Int) = 1 := cellN_in (by first | omega | (simp only [toAC]; omega)) (by first | omega | (simp only [toAC]; omega))
  replace k1 := k1.steps (n' := n + 1) (congrArg (fun x => n + x) hN)
  exact ⟨v, k1, _, rfl, rfl⟩
theorem l0_2 (B m d z p : Nat) (n : Int) (v on : Value) (C : List Int) (a : PAct) (dv : Value) (w : World) (h : DqS w B m d z n v C on) (hp : Blk w p 79 ((toAC a dv).arr d)) (hn : n + 3 ≤ 4611686018427387904) (hS : Safe z C a) (h0 : a.told = 0) (hi : a.kind = 1 → a.at_ ≤ 7 → a.i = 0) (hk : a.kind = 0) (ha : a.at_ = 2) :
    Calls Try.prog 47 #[.pointer (some ⟨p, 0, none⟩)] w fun e w' => e = .returned (.int .i64 0) ∧ ∃ c', Blk w' p 79 (c'.arr d) ∧ Left w B m d z p (n + cnt a) v on (pstep z C a) w' c' := by
  obtain ⟨kind, av, at', b, t, aw, an, nw, i, rd, told, got⟩ := a
  simp only at hk ha h0
  subst hk ha h0
  obtain ⟨⟨s1, s2, s3⟩, s4⟩ := hS
  simp only [bd] at s3 s4
  refine (pushWhere_any B m d z p n v on C _ w h hp (by omega)).mono ?_
  rintro e w' ⟨rfl, k1⟩
  refine ⟨rfl, _, k1.act, ?_⟩
  have hN : cellN C ((z : Int) + 2) = 1 := cellN_in (by first | omega | (simp only [toAC]; omega)) (by first | omega | (simp only [toAC]; omega))
  replace k1 := k1.steps (n' := n + 1) (congrArg (fun x => n + x) hN)
  exact ⟨v, k1, _, rfl, rfl⟩
theorem l0_3 (B m d z p : Nat) (n : Int) (v on : Value) (C : List Int) (a : PAct) (dv : Value) (w : World) (h : DqS w B m d z n v C on) (hp : Blk w p 79 ((toAC a dv).arr d)) (hn : n + 3 ≤ 4611686018427387904) (hS : Safe z C a) (h0 : a.told = 0) (hi : a.kind = 1 → a.at_ ≤ 7 → a.i = 0) (hk : a.kind = 0) (ha : a.at_ = 3) :
    Calls Try.prog 54 #[.pointer (some ⟨p, 0, none⟩)] w fun e w' => e = .returned (.int .i64 0) ∧ ∃ c', Blk w' p 79 (c'.arr d) ∧ Left w B m d z p (n + cnt a) v on (pstep z C a) w' c' := by
  obtain ⟨kind, av, at', b, t, aw, an, nw, i, rd, told, got⟩ := a
  simp only at hk ha h0
  subst hk ha h0
  obtain ⟨⟨s1, s2, s3⟩, s4⟩ := hS
  simp only [bd] at s3 s4
  refine (pushSize_any B m d z p n v on C _ w h hp (by omega) s4.1 s4.2.1).mono ?_
  rintro e w' ⟨rfl, k1⟩
  refine ⟨rfl, _, k1.act, ?_⟩
  have hN : cellN C aw = 1 := cellN_in (by first | omega | (simp only [toAC]; omega)) (by first | omega | (simp only [toAC]; omega))
  replace k1 := k1.steps (n' := n + 1) (congrArg (fun x => n + x) hN)
  refine ⟨v, k1, _, rfl, ?_⟩
  by_cases hq : b - t ≥ ld C aw <;> simp [Does, pstep, pushS, goes, hq, nextF, toAC]
theorem l0_10 (B m d z p : Nat) (n : Int) (v on : Value) (C : List Int) (a : PAct) (dv : Value) (w : World) (h : DqS w B m d z n v C on) (hp : Blk w p 79 ((toAC a dv).arr d)) (hn : n + 3 ≤ 4611686018427387904) (hS : Safe z C a) (h0 : a.told = 0) (hi : a.kind = 1 → a.at_ ≤ 7 → a.i = 0) (hk : a.kind = 0) (ha : a.at_ = 10) :
    Calls Try.prog 58 #[.pointer (some ⟨p, 0, none⟩)] w fun e w' => e = .returned (.int .i64 0) ∧ ∃ c', Blk w' p 79 (c'.arr d) ∧ Left w B m d z p (n + cnt a) v on (pstep z C a) w' c' := by
  obtain ⟨kind, av, at', b, t, aw, an, nw, i, rd, told, got⟩ := a
  simp only at hk ha h0
  subst hk ha h0
  obtain ⟨⟨s1, s2, s3⟩, s4⟩ := hS
  simp only [bd] at s3 s4
  refine (growMore_any B m d z p n v on C _ w h hp (by omega) s4.1 s4.2.1 s4.2.2 (by omega)).mono ?_
  rintro e w' ⟨rfl, v', k1⟩
  refine ⟨rfl, _, k1.act, ?_⟩
  simp only [cnt, and_self, if_true, Int.add_zero]
  refine ⟨v', k1, _, rfl, ?_⟩
  by_cases hq : t = b <;> simp [Does, pstep, pushS, goes, hq, nextF, toAC]
theorem l0_11 (B m d z p : Nat) (n : Int) (v on : Value) (C : List Int) (a : PAct) (dv : Value) (w : World) (h : DqS w B m d z n v C on) (hp : Blk w p 79 ((toAC a dv).arr d)) (hn : n + 3 ≤ 4611686018427387904) (hS : Safe z C a) (h0 : a.told = 0) (hi : a.kind = 1 → a.at_ ≤ 7 → a.i = 0) (hk : a.kind = 0) (ha : a.at_ = 11) :
    Calls Try.prog 70 #[.pointer (some ⟨p, 0, none⟩)] w fun e w' => e = .returned (.int .i64 0) ∧ ∃ c', Blk w' p 79 (c'.arr d) ∧ Left w B m d z p (n + cnt a) v on (pstep z C a) w' c' := by
  obtain ⟨kind, av, at', b, t, aw, an, nw, i, rd, told, got⟩ := a
  simp only at hk ha h0
  subst hk ha h0
  obtain ⟨⟨s1, s2, s3⟩, s4⟩ := hS
  simp only [pok, bd] at s3 s4
  refine (growLoad_any B m d z p n v on C _ w h hp (by omega) s4.1 s4.2.2.1 (by simp only [toAC]; omega) (by simp only [toAC]; omega) (by simp only [toAC]; omega)).mono ?_
  rintro e w' ⟨rfl, ba, bv, k2, k3, k4, k5, k1⟩
  refine ⟨rfl, _, k1.act, ?_⟩
  have hpb := place_bd (w := aw) (n := an) (i := i) (by omega)
  have hN : cellN C (place aw an i) = 1 := cellN_in (by omega) (by omega)
  replace k1 := k1.steps (n' := n + 1) (congrArg (fun x => n + x) hN)
  exact ⟨v, k1, _, rfl, ba, bv, rfl, k2, k3, k5⟩
theorem l0_13 (B m d z p : Nat) (n : Int) (v on : Value) (C : List Int) (a : PAct) (dv : Value) (w : World) (h : DqS w B m d z n v C on) (hp : Blk w p 79 ((toAC a dv).arr d)) (hn : n + 3 ≤ 4611686018427387904) (hS : Safe z C a) (h0 : a.told = 0) (hi : a.kind = 1 → a.at_ ≤ 7 → a.i = 0) (hk : a.kind = 0) (ha : a.at_ = 13) :
    Calls Try.prog 69 #[.pointer (some ⟨p, 0, none⟩)] w fun e w' => e = .returned (.int .i64 0) ∧ ∃ c', Blk w' p 79 (c'.arr d) ∧ Left w B m d z p (n + cnt a) v on (pstep z C a) w' c' := by
  obtain ⟨kind, av, at', b, t, aw, an, nw, i, rd, told, got⟩ := a
  simp only at hk ha h0
  subst hk ha h0
  obtain ⟨⟨s1, s2, s3⟩, s4⟩ := hS
  simp only [bd] at s3 s4
  refine (growWhere_any B m d z p n v on C _ w h hp (by omega) s4.1 (by simp only [toAC]; omega)).mono ?_
  rintro e w' ⟨rfl, k1⟩
  refine ⟨rfl, _, k1.act, ?_⟩
  have hN : cellN C ((z : Int) + 2) = 1 := cellN_in (by first | omega | (simp only [toAC]; omega)) (by first | omega | (simp only [toAC]; omega))
  replace k1 := k1.steps (n' := n + 1) (congrArg (fun x => n + x) hN)
  exact ⟨v, k1, _, rfl, rfl⟩
theorem l0_20 (B m d z p : Nat) (n : Int) (v on : Value) (C : List Int) (a : PAct) (dv : Value) (w : World) (h : DqS w B m d z n v C on) (hp : Blk w p 79 ((toAC a dv).arr d)) (hn : n + 3 ≤ 4611686018427387904) (hS : Safe z C a) (h0 : a.told = 0) (hi : a.kind = 1 → a.at_ ≤ 7 → a.i = 0) (hk : a.kind = 0) (ha : a.at_ = 20) :
    Calls Try.prog 59 #[.pointer (some ⟨p, 0, none⟩)] w fun e w' => e = .returned (.int .i64 0) ∧ ∃ c', Blk w' p 79 (c'.arr d) ∧ Left w B m d z p (n + cnt a) v on (pstep z C a) w' c' := by
  obtain ⟨kind, av, at', b, t, aw, an, nw, i, rd, told, got⟩ := a
  simp only at hk ha h0
  subst hk ha h0
  obtain ⟨⟨s1, s2, s3⟩, s4⟩ := hS
  simp only [pok, bd] at s3 s4
  refine (pushValue_any B m d z p n v on C _ w h hp (by omega) s4.1 s4.2.2.1 (by simp only [toAC]; omega) (by simp only [toAC]; omega) (by simp only [toAC]; omega) s4.2.2.2.2.1).mono ?_
  rintro e w' ⟨rfl, k1⟩
  refine ⟨rfl, _, k1.act, ?_⟩
  have hpb := place_bd (w := aw) (n := an) (i := b) (by omega)
  have hN : cellN C (place aw an b) = 1 := cellN_in (by omega) (by omega)
  replace k1 := k1.steps (n' := n + 1) (congrArg (fun x => n + x) hN)
  exact ⟨v, k1, _, rfl, rfl⟩
theorem l0_21 (B m d z p : Nat) (n : Int) (v on : Value) (C : List Int) (a : PAct) (dv : Value) (w : World) (h : DqS w B m d z n v C on) (hp : Blk w p 79 ((toAC a dv).arr d)) (hn : n + 3 ≤ 4611686018427387904) (hS : Safe z C a) (h0 : a.told = 0) (hi : a.kind = 1 → a.at_ ≤ 7 → a.i = 0) (hk : a.kind = 0) (ha : a.at_ = 21) :
    Calls Try.prog 66 #[.pointer (some ⟨p, 0, none⟩)] w fun e w' => e = .returned (.int .i64 0) ∧ ∃ c', Blk w' p 79 (c'.arr d) ∧ Left w B m d z p (n + cnt a) v on (pstep z C a) w' c' := by
  obtain ⟨kind, av, at', b, t, aw, an, nw, i, rd, told, got⟩ := a
  simp only at hk ha h0
  subst hk ha h0
  obtain ⟨⟨s1, s2, s3⟩, s4⟩ := hS
  simp only [bd] at s3 s4
  refine (pushDone_any B m d z p n v on C _ w h hp (by omega) (by omega) s4).mono ?_
  rintro e w' ⟨rfl, k1⟩
  refine ⟨rfl, _, k1.act, ?_⟩
  exact ⟨v, k1, _, rfl, rfl⟩
theorem l1_0 (B m d z p : Nat) (n : Int) (v on : Value) (C : List Int) (a : PAct) (dv : Value) (w : World) (h : DqS w B m d z n v C on) (hp : Blk w p 79 ((toAC a dv).arr d)) (hn : n + 3 ≤ 4611686018427387904) (hS : Safe z C a) (h0 : a.told = 0) (hi : a.kind = 1 → a.at_ ≤ 7 → a.i = 0) (hk : a.kind = 1) (ha : a.at_ = 0) :
    Calls Try.prog 29 #[.pointer (some ⟨p, 0, none⟩)] w fun e w' => e = .returned (.int .i64 0) ∧ ∃ c', Blk w' p 79 (c'.arr d) ∧ Left w B m d z p (n + cnt a) v on (pstep z C a) w' c' := by
  obtain ⟨kind, av, at', b, t, aw, an, nw, i, rd, told, got⟩ := a
  simp only at hk ha h0
  subst hk ha h0
  obtain ⟨⟨s1, s2, s3⟩, s4⟩ := hS
  simp only [bd] at s3 s4
  refine (popBottom_any B m d z p n v on C _ w h hp (by omega) s3).mono ?_
  rintro e w' ⟨rfl, k1⟩
  refine ⟨rfl, _, k1.act, ?_⟩
  have hN : cellN C ((z : Int) + 1) = 1 := cellN_in (by first | omega | (simp only [toAC]; omega)) (by first | omega | (simp only [toAC]; omega))
  replace k1 := k1.steps (n' := n + 1) (congrArg (fun x => n + x) hN)
  exact ⟨v, k1, _, rfl, rfl⟩
theorem l1_1 (B m d z p : Nat) (n : Int) (v on : Value) (C : List Int) (a : PAct) (dv : Value) (w : World) (h : DqS w B m d z n v C on) (hp : Blk w p 79 ((toAC a dv).arr d)) (hn : n + 3 ≤ 4611686018427387904) (hS : Safe z C a) (h0 : a.told = 0) (hi : a.kind = 1 → a.at_ ≤ 7 → a.i = 0) (hk : a.kind = 1) (ha : a.at_ = 1) :
    Calls Try.prog 38 #[.pointer (some ⟨p, 0, none⟩)] w fun e w' => e = .returned (.int .i64 0) ∧ ∃ c', Blk w' p 79 (c'.arr d) ∧ Left w B m d z p (n + cnt a) v on (pstep z C a) w' c' := by
  obtain ⟨kind, av, at', b, t, aw, an, nw, i, rd, told, got⟩ := a
  simp only at hk ha h0
  subst hk ha h0
  obtain ⟨⟨s1, s2, s3⟩, s4⟩ := hS
  simp only [bd] at s3 s4
  refine (popWhere_any B m d z p n v on C _ w h hp (by omega)).mono ?_
  rintro e w' ⟨rfl, k1⟩
  refine ⟨rfl, _, k1.act, ?_⟩
  have hN : cellN C ((z : Int) + 2) = 1 := cellN_in (by first | omega | (simp only [toAC]; omega)) (by first | omega | (simp only [toAC]; omega))
  replace k1 := k1.steps (n' := n + 1) (congrArg (fun x => n + x) hN)
  exact ⟨v, k1, _, rfl, rfl⟩
theorem l1_2 (B m d z p : Nat) (n : Int) (v on : Value) (C : List Int) (a : PAct) (dv : Value) (w : World) (h : DqS w B m d z n v C on) (hp : Blk w p 79 ((toAC a dv).arr d)) (hn : n + 3 ≤ 4611686018427387904) (hS : Safe z C a) (h0 : a.told = 0) (hi : a.kind = 1 → a.at_ ≤ 7 → a.i = 0) (hk : a.kind = 1) (ha : a.at_ = 2) :
    Calls Try.prog 48 #[.pointer (some ⟨p, 0, none⟩)] w fun e w' => e = .returned (.int .i64 0) ∧ ∃ c', Blk w' p 79 (c'.arr d) ∧ Left w B m d z p (n + cnt a) v on (pstep z C a) w' c' := by
  obtain ⟨kind, av, at', b, t, aw, an, nw, i, rd, told, got⟩ := a
  simp only at hk ha h0
  subst hk ha h0
  obtain ⟨⟨s1, s2, s3⟩, s4⟩ := hS
  simp only [bd] at s3 s4
  refine (popStore_any B m d z p n v on C _ w h hp (by omega) (by omega)).mono ?_
  rintro e w' ⟨rfl, k1⟩
  refine ⟨rfl, _, k1.act, ?_⟩
  exact ⟨v, k1, _, rfl, rfl⟩
theorem l1_3 (B m d z p : Nat) (n : Int) (v on : Value) (C : List Int) (a : PAct) (dv : Value) (w : World) (h : DqS w B m d z n v C on) (hp : Blk w p 79 ((toAC a dv).arr d)) (hn : n + 3 ≤ 4611686018427387904) (hS : Safe z C a) (h0 : a.told = 0) (hi : a.kind = 1 → a.at_ ≤ 7 → a.i = 0) (hk : a.kind = 1) (ha : a.at_ = 3) :
    Calls Try.prog 56 #[.pointer (some ⟨p, 0, none⟩)] w fun e w' => e = .returned (.int .i64 0) ∧ ∃ c', Blk w' p 79 (c'.arr d) ∧ Left w B m d z p (n + cnt a) v on (pstep z C a) w' c' := by
  obtain ⟨kind, av, at', b, t, aw, an, nw, i, rd, told, got⟩ := a
  simp only at hk ha h0
  subst hk ha h0
  obtain ⟨⟨s1, s2, s3⟩, s4⟩ := hS
  simp only [bd] at s3 s4
  refine (popTop_any B m d z p n v on C _ w h hp (by omega)).mono ?_
  rintro e w' ⟨rfl, k1⟩
  refine ⟨rfl, _, k1.act, ?_⟩
  have hN : cellN C (z : Int) = 1 := cellN_in (by first | omega | (simp only [toAC]; omega)) (by first | omega | (simp only [toAC]; omega))
  replace k1 := k1.steps (n' := n + 1) (congrArg (fun x => n + x) hN)
  refine ⟨v, k1, _, rfl, ?_⟩
  by_cases hq : ld C (z : Int) > b <;> simp [Does, pstep, popS, goes, hq, nextF, toAC]
theorem l1_4 (B m d z p : Nat) (n : Int) (v on : Value) (C : List Int) (a : PAct) (dv : Value) (w : World) (h : DqS w B m d z n v C on) (hp : Blk w p 79 ((toAC a dv).arr d)) (hn : n + 3 ≤ 4611686018427387904) (hS : Safe z C a) (h0 : a.told = 0) (hi : a.kind = 1 → a.at_ ≤ 7 → a.i = 0) (hk : a.kind = 1) (ha : a.at_ = 4) :
    Calls Try.prog 61 #[.pointer (some ⟨p, 0, none⟩)] w fun e w' => e = .returned (.int .i64 0) ∧ ∃ c', Blk w' p 79 (c'.arr d) ∧ Left w B m d z p (n + cnt a) v on (pstep z C a) w' c' := by
  obtain ⟨kind, av, at', b, t, aw, an, nw, i, rd, told, got⟩ := a
  simp only at hk ha h0
  subst hk ha h0
  obtain ⟨⟨s1, s2, s3⟩, s4⟩ := hS
  simp only [bd] at s3 s4
  refine (popBack_any B m d z p n v on C _ w h hp (by omega) (by omega) s4).mono ?_
  rintro e w' ⟨rfl, k1⟩
  refine ⟨rfl, _, k1.act, ?_⟩
  have hz0 : i = 0 := hi rfl (show (4 : Nat) ≤ 7 by decide)
  subst hz0
  exact ⟨v, k1, _, rfl, rfl⟩
theorem l1_5 (B m d z p : Nat) (n : Int) (v on : Value) (C : List Int) (a : PAct) (dv : Value) (w : World) (h : DqS w B m d z n v C on) (hp : Blk w p 79 ((toAC a dv).arr d)) (hn : n + 3 ≤ 4611686018427387904) (hS : Safe z C a) (h0 : a.told = 0) (hi : a.kind = 1 → a.at_ ≤ 7 → a.i = 0) (hk : a.kind = 1) (ha : a.at_ = 5) :
    Calls Try.prog 62 #[.pointer (some ⟨p, 0, none⟩)] w fun e w' => e = .returned (.int .i64 0) ∧ ∃ c', Blk w' p 79 (c'.arr d) ∧ Left w B m d z p (n + cnt a) v on (pstep z C a) w' c' := by
  obtain ⟨kind, av, at', b, t, aw, an, nw, i, rd, told, got⟩ := a
  simp only at hk ha h0
  subst hk ha h0
  obtain ⟨⟨s1, s2, s3⟩, s4⟩ := hS
  simp only [bd] at s3 s4
  refine (popSize_any B m d z p n v on C _ w h hp (by omega)).mono ?_
  rintro e w' ⟨rfl, k1⟩
  refine ⟨rfl, _, k1.act, ?_⟩
  have hN : cellN C aw = 1 := cellN_in (by first | omega | (simp only [toAC]; omega)) (by first | omega | (simp only [toAC]; omega))
  replace k1 := k1.steps (n' := n + 1) (congrArg (fun x => n + x) hN)
  exact ⟨v, k1, _, rfl, rfl⟩
theorem l1_6 (B m d z p : Nat) (n : Int) (v on : Value) (C : List Int) (a : PAct) (dv : Value) (w : World) (h : DqS w B m d z n v C on) (hp : Blk w p 79 ((toAC a dv).arr d)) (hn : n + 3 ≤ 4611686018427387904) (hS : Safe z C a) (h0 : a.told = 0) (hi : a.kind = 1 → a.at_ ≤ 7 → a.i = 0) (hk : a.kind = 1) (ha : a.at_ = 6) :
    Calls Try.prog 67 #[.pointer (some ⟨p, 0, none⟩)] w fun e w' => e = .returned (.int .i64 0) ∧ ∃ c', Blk w' p 79 (c'.arr d) ∧ Left w B m d z p (n + cnt a) v on (pstep z C a) w' c' := by
  obtain ⟨kind, av, at', b, t, aw, an, nw, i, rd, told, got⟩ := a
  simp only at hk ha h0
  subst hk ha h0
  obtain ⟨⟨s1, s2, s3⟩, s4⟩ := hS
  simp only [pok, bd] at s3 s4
  refine (popValue_any B m d z p n v on C _ w h hp (by omega) s4.1.1 s4.1.2.2.1 (by simp only [toAC]; omega) (by simp only [toAC]; omega) (by simp only [toAC]; omega) (by simp only [toAC]; omega) s4.2).mono ?_
  rintro e w' ⟨rfl, k1⟩
  refine ⟨rfl, _, k1.act, ?_⟩
  have hpb := place_bd (w := aw) (n := an) (i := b) (by omega)
  have hN : cellN C (place aw an b) = 1 := cellN_in (by omega) (by omega)
  replace k1 := k1.steps (n' := n + 1) (congrArg (fun x => n + x) hN)
  by_cases hq : t < b
  · have hq2 : t < (if (1 : Nat) = 2 then 0 else b) := by first | exact hq | simp [hq]
    simp only [toAC, if_pos hq2] at k1 ⊢
    simp only [Left, pstep, popS, if_pos hq]
    exact ⟨v, k1, .nilFunc, by simp [toAC, over], rfl⟩
  · have hq2 : ¬ t < (if (1 : Nat) = 2 then 0 else b) := by first | exact hq | simp [hq]
    simp only [toAC, if_neg hq2] at k1 ⊢
    simp only [Left, pstep, popS, if_neg hq]
    exact ⟨v, k1, meth 71 p, by simp [toAC, goes], rfl⟩
theorem l1_7 (B m d z p : Nat) (n : Int) (v on : Value) (C : List Int) (a : PAct) (dv : Value) (w : World) (h : DqS w B m d z n v C on) (hp : Blk w p 79 ((toAC a dv).arr d)) (hn : n + 3 ≤ 4611686018427387904) (hS : Safe z C a) (h0 : a.told = 0) (hi : a.kind = 1 → a.at_ ≤ 7 → a.i = 0) (hk : a.kind = 1) (ha : a.at_ = 7) :
    Calls Try.prog 71 #[.pointer (some ⟨p, 0, none⟩)] w fun e w' => e = .returned (.int .i64 0) ∧ ∃ c', Blk w' p 79 (c'.arr d) ∧ Left w B m d z p (n + cnt a) v on (pstep z C a) w' c' := by
  obtain ⟨kind, av, at', b, t, aw, an, nw, i, rd, told, got⟩ := a
  simp only at hk ha h0
  subst hk ha h0
  obtain ⟨⟨s1, s2, s3⟩, s4⟩ := hS
  simp only [bd] at s3 s4
  refine (popSwap_any B m d z p n v on C _ w h hp (by omega) (by omega) s4).mono ?_
  rintro e w' ⟨rfl, k1⟩
  refine ⟨rfl, _, k1.act, ?_⟩
  by_cases hq : ld C (z : Int) = t
  · simp only [toAC, if_pos hq, decide_eq_true hq] at k1 ⊢
    simp only [Left, pstep, popS, if_pos hq]
    exact ⟨v, k1, _, rfl, rfl⟩
  · simp only [toAC, if_neg hq, decide_eq_false hq] at k1 ⊢
    simp only [Left, pstep, popS, if_neg hq]
    exact ⟨v, k1, _, rfl, rfl⟩
theorem l1_8 (B m d z p : Nat) (n : Int) (v on : Value) (C : List Int) (a : PAct) (dv : Value) (w : World) (h : DqS w B m d z n v C on) (hp : Blk w p 79 ((toAC a dv).arr d)) (hn : n + 3 ≤ 4611686018427387904) (hS : Safe z C a) (h0 : a.told = 0) (hi : a.kind = 1 → a.at_ ≤ 7 → a.i = 0) (hk : a.kind = 1) (ha : a.at_ = 8) :
    Calls Try.prog 61 #[.pointer (some ⟨p, 0, none⟩)] w fun e w' => e = .returned (.int .i64 0) ∧ ∃ c', Blk w' p 79 (c'.arr d) ∧ Left w B m d z p (n + cnt a) v on (pstep z C a) w' c' := by
  obtain ⟨kind, av, at', b, t, aw, an, nw, i, rd, told, got⟩ := a
  simp only at hk ha h0
  subst hk ha h0
  obtain ⟨⟨s1, s2, s3⟩, s4⟩ := hS
  simp only [bd] at s3 s4
  refine (popBack_any B m d z p n v on C _ w h hp (by omega) (by omega) s4).mono ?_
  rintro e w' ⟨rfl, k1⟩
  refine ⟨rfl, _, k1.act, ?_⟩
  by_cases hq : i = 1
  · have hq2 : decide (True ∧ i = 1) = true := by first | exact hq | simp [hq]
    simp only [toAC, if_pos hq2] at k1 ⊢
    simp only [Left, pstep, popS, if_pos hq]
    exact ⟨v, k1, .nilFunc, by simp [toAC, over], rfl⟩
  · have hq2 : ¬ decide (True ∧ i = 1) = true := by first | exact hq | simp [hq]
    simp only [toAC, if_neg hq2] at k1 ⊢
    simp only [Left, pstep, popS, if_neg hq]
    exact ⟨v, k1, .nilFunc, by simp [toAC, over], rfl⟩
theorem l2_0 (B m d z p : Nat) (n : Int) (v on : Value) (C : List Int) (a : PAct) (dv : Value) (w : World) (h : DqS w B m d z n v C on) (hp : Blk w p 79 ((toAC a dv).arr d)) (hn : n + 3 ≤ 4611686018427387904) (hS : Safe z C a) (h0 : a.told = 0) (hi : a.kind = 1 → a.at_ ≤ 7 → a.i = 0) (hk : a.kind = 2) (ha : a.at_ = 0) :
    Calls Try.prog 30 #[.pointer (some ⟨p, 0, none⟩)] w fun e w' => e = .returned (.int .i64 0) ∧ ∃ c', Blk w' p 79 (c'.arr d) ∧ Left w B m d z p (n + cnt a) v on (pstep z C a) w' c' := by
  obtain ⟨kind, av, at', b, t, aw, an, nw, i, rd, told, got⟩ := a
  simp only at hk ha h0
  subst hk ha h0
  obtain ⟨⟨s1, s2, s3⟩, s4⟩ := hS
  simp only [bd] at s3 s4
  refine (stealTop_any B m d z p n v on C _ w h hp (by omega)).mono ?_
  rintro e w' ⟨rfl, k1⟩
  refine ⟨rfl, _, k1.act, ?_⟩
  have hN : cellN C (z : Int) = 1 := cellN_in (by first | omega | (simp only [toAC]; omega)) (by first | omega | (simp only [toAC]; omega))
  replace k1 := k1.steps (n' := n + 1) (congrArg (fun x => n + x) hN)
  exact ⟨v, k1, _, rfl, rfl⟩
theorem l2_1 (B m d z p : Nat) (n : Int) (v on : Value) (C : List Int) (a : PAct) (dv : Value) (w : World) (h : DqS w B m d z n v C on) (hp : Blk w p 79 ((toAC a dv).arr d)) (hn : n + 3 ≤ 4611686018427387904) (hS : Safe z C a) (h0 : a.told = 0) (hi : a.kind = 1 → a.at_ ≤ 7 → a.i = 0) (hk : a.kind = 2) (ha : a.at_ = 1) :
    Calls Try.prog 39 #[.pointer (some ⟨p, 0, none⟩)] w fun e w' => e = .returned (.int .i64 0) ∧ ∃ c', Blk w' p 79 (c'.arr d) ∧ Left w B m d z p (n + cnt a) v on (pstep z C a) w' c' := by
  obtain ⟨kind, av, at', b, t, aw, an, nw, i, rd, told, got⟩ := a
  simp only at hk ha h0
  subst hk ha h0
  obtain ⟨⟨s1, s2, s3⟩, s4⟩ := hS
  simp only [bd] at s3 s4
  refine (stealBottom_any B m d z p n v on C _ w h hp (by omega)).mono ?_
  rintro e w' ⟨rfl, k1⟩
  refine ⟨rfl, _, k1.act, ?_⟩
  have hN : cellN C ((z : Int) + 1) = 1 := cellN_in (by first | omega | (simp only [toAC]; omega)) (by first | omega | (simp only [toAC]; omega))
  replace k1 := k1.steps (n' := n + 1) (congrArg (fun x => n + x) hN)
  by_cases hq : t ≥ ld C ((z : Int) + 1)
  · simp only [toAC, if_pos hq] at k1 ⊢
    simp only [Left, pstep, stealS, if_pos hq]
    exact ⟨v, k1, _, rfl, rfl⟩
  · simp only [toAC, if_neg hq] at k1 ⊢
    simp only [Left, pstep, stealS, if_neg hq]
    exact ⟨v, k1, _, rfl, rfl⟩
theorem l2_2 (B m d z p : Nat) (n : Int) (v on : Value) (C : List Int) (a : PAct) (dv : Value) (w : World) (h : DqS w B m d z n v C on) (hp : Blk w p 79 ((toAC a dv).arr d)) (hn : n + 3 ≤ 4611686018427387904) (hS : Safe z C a) (h0 : a.told = 0) (hi : a.kind = 1 → a.at_ ≤ 7 → a.i = 0) (hk : a.kind = 2) (ha : a.at_ = 2) :
    Calls Try.prog 50 #[.pointer (some ⟨p, 0, none⟩)] w fun e w' => e = .returned (.int .i64 0) ∧ ∃ c', Blk w' p 79 (c'.arr d) ∧ Left w B m d z p (n + cnt a) v on (pstep z C a) w' c' := by
  obtain ⟨kind, av, at', b, t, aw, an, nw, i, rd, told, got⟩ := a
  simp only at hk ha h0
  subst hk ha h0
  obtain ⟨⟨s1, s2, s3⟩, s4⟩ := hS
  simp only [bd] at s3 s4
  refine (stealWhere_any B m d z p n v on C _ w h hp (by omega)).mono ?_
  rintro e w' ⟨rfl, k1⟩
  refine ⟨rfl, _, k1.act, ?_⟩
  have hN : cellN C ((z : Int) + 2) = 1 := cellN_in (by first | omega | (simp only [toAC]; omega)) (by first | omega | (simp only [toAC]; omega))
  replace k1 := k1.steps (n' := n + 1) (congrArg (fun x => n + x) hN)
  exact ⟨v, k1, _, rfl, rfl⟩
theorem l2_3 (B m d z p : Nat) (n : Int) (v on : Value) (C : List Int) (a : PAct) (dv : Value) (w : World) (h : DqS w B m d z n v C on) (hp : Blk w p 79 ((toAC a dv).arr d)) (hn : n + 3 ≤ 4611686018427387904) (hS : Safe z C a) (h0 : a.told = 0) (hi : a.kind = 1 → a.at_ ≤ 7 → a.i = 0) (hk : a.kind = 2) (ha : a.at_ = 3) :
    Calls Try.prog 57 #[.pointer (some ⟨p, 0, none⟩)] w fun e w' => e = .returned (.int .i64 0) ∧ ∃ c', Blk w' p 79 (c'.arr d) ∧ Left w B m d z p (n + cnt a) v on (pstep z C a) w' c' := by
  obtain ⟨kind, av, at', b, t, aw, an, nw, i, rd, told, got⟩ := a
  simp only at hk ha h0
  subst hk ha h0
  obtain ⟨⟨s1, s2, s3⟩, s4⟩ := hS
  simp only [bd] at s3 s4
  refine (stealSize_any B m d z p n v on C _ w h hp (by omega)).mono ?_
  rintro e w' ⟨rfl, k1⟩
  refine ⟨rfl, _, k1.act, ?_⟩
  have hN : cellN C aw = 1 := cellN_in (by first | omega | (simp only [toAC]; omega)) (by first | omega | (simp only [toAC]; omega))
  replace k1 := k1.steps (n' := n + 1) (congrArg (fun x => n + x) hN)
  exact ⟨v, k1, _, rfl, rfl⟩
theorem l2_4 (B m d z p : Nat) (n : Int) (v on : Value) (C : List Int) (a : PAct) (dv : Value) (w : World) (h : DqS w B m d z n v C on) (hp : Blk w p 79 ((toAC a dv).arr d)) (hn : n + 3 ≤ 4611686018427387904) (hS : Safe z C a) (h0 : a.told = 0) (hi : a.kind = 1 → a.at_ ≤ 7 → a.i = 0) (hk : a.kind = 2) (ha : a.at_ = 4) :
    Calls Try.prog 63 #[.pointer (some ⟨p, 0, none⟩)] w fun e w' => e = .returned (.int .i64 0) ∧ ∃ c', Blk w' p 79 (c'.arr d) ∧ Left w B m d z p (n + cnt a) v on (pstep z C a) w' c' := by
  obtain ⟨kind, av, at', b, t, aw, an, nw, i, rd, told, got⟩ := a
  simp only at hk ha h0
  subst hk ha h0
  obtain ⟨⟨s1, s2, s3⟩, s4⟩ := hS
  simp only [pok, bd] at s3 s4
  refine (stealValue_any B m d z p n v on C _ w h hp (by omega) s4.1 s4.2.2.1 (by simp only [toAC]; omega) (by simp only [toAC]; omega) (by simp only [toAC]; omega)).mono ?_
  rintro e w' ⟨rfl, k1⟩
  refine ⟨rfl, _, k1.act, ?_⟩
  have hpb := place_bd (w := aw) (n := an) (i := t) (by omega)
  have hN : cellN C (place aw an t) = 1 := cellN_in (by omega) (by omega)
  replace k1 := k1.steps (n' := n + 1) (congrArg (fun x => n + x) hN)
  exact ⟨v, k1, _, rfl, rfl⟩
theorem l2_5 (B m d z p : Nat) (n : Int) (v on : Value) (C : List Int) (a : PAct) (dv : Value) (w : World) (h : DqS w B m d z n v C on) (hp : Blk w p 79 ((toAC a dv).arr d)) (hn : n + 3 ≤ 4611686018427387904) (hS : Safe z C a) (h0 : a.told = 0) (hi : a.kind = 1 → a.at_ ≤ 7 → a.i = 0) (hk : a.kind = 2) (ha : a.at_ = 5) :
    Calls Try.prog 68 #[.pointer (some ⟨p, 0, none⟩)] w fun e w' => e = .returned (.int .i64 0) ∧ ∃ c', Blk w' p 79 (c'.arr d) ∧ Left w B m d z p (n + cnt a) v on (pstep z C a) w' c' := by
  obtain ⟨kind, av, at', b, t, aw, an, nw, i, rd, told, got⟩ := a
  simp only at hk ha h0
  subst hk ha h0
  obtain ⟨⟨s1, s2, s3⟩, s4⟩ := hS
  simp only [bd] at s3 s4
  refine (stealSwap_any B m d z p n v on C _ w h hp (by omega) (by omega) s4).mono ?_
  rintro e w' ⟨rfl, k1⟩
  refine ⟨rfl, _, k1.act, ?_⟩
  by_cases hq : ld C (z : Int) = t
  · simp only [toAC, if_pos hq] at k1 ⊢
    simp only [Left, pstep, stealS, if_pos hq]
    exact ⟨v, k1, _, rfl, rfl⟩
  · simp only [toAC, if_neg hq] at k1 ⊢
    simp only [Left, pstep, stealS, if_neg hq]
    exact ⟨v, k1, _, rfl, rfl⟩
end Go.Proofs.Ytmghlhngdopifaa
