/- A region that draws its order, walked once, operation by operation, where what each one yields stands whatever the others do meanwhile. No conditions. -/
import Derived.RegionTactic
import Derived.WalkKit
import Derived.Test.YtmghlhngdopifaaWords
namespace Go.Proofs.Ytmghlhngdopifaa
open Go.RowKit

/-- A frame in which the places ds hold what u says. -/
def frGo (ds : List Nat) (u : Nat → Value) : Nat → List Value → List Value
  | _, [] => []
  | s, x :: xs => (if ds.contains s then u s else x) :: frGo ds u (s + 1) xs
def slotOf (u : Nat → Value) (t : Option Nat) : Value := match t with | some t => u t | none => undef
def seen (t : Option Nat) (v : Value) : Value := match t with | some _ => v | none => undef
def upd (u : Nat → Value) (t : Option Nat) (v : Value) : Nat → Value := fun s => if t = some s then v else u s

theorem frGo_len (ds : List Nat) (u : Nat → Value) : ∀ (s : Nat) (xs : List Value), (frGo ds u s xs).length = xs.length
  | _, [] => rfl
  | s, _ :: xs => by simp [frGo, frGo_len ds u (s + 1) xs]
theorem frGo_at (ds : List Nat) (u : Nat → Value) : ∀ (xs : List Value) (s k : Nat), (frGo ds u s xs)[k]? = (xs[k]?).map fun x => if ds.contains (s + k) then u (s + k) else x
  | [], s, k => by simp [frGo]
  | x :: xs, s, 0 => by simp [frGo]
  | x :: xs, s, k + 1 => by
    simp only [frGo, List.getElem?_cons_succ, frGo_at ds u xs (s + 1) k]
    rw [show s + 1 + k = s + (k + 1) by omega]
theorem frGo_put (ds : List Nat) (u : Nat → Value) (xs : List Value) (t : Nat) (v : Value) (ht : t ∈ ds) :
    (frGo ds u 0 xs).toArray.setIfInBounds t v = (frGo ds (upd u (some t) v) 0 xs).toArray := by
  apply Array.ext_getElem?
  intro k
  rw [Array.getElem?_setIfInBounds]
  simp only [List.getElem?_toArray, List.size_toArray, frGo_len, frGo_at, Nat.zero_add]
  by_cases hk : t = k
  · subst hk
    by_cases hl : t < xs.length
    · simp [hl, upd, ht]
    · simp [hl]
  · rw [if_neg hk]
    cases xs[k]? with
    | none => rfl
    | some x =>
      simp only [Option.map_some, upd, Option.some.injEq, hk, if_false]

def predsHold (ops : Array Oper) (V : List (Value → World → Prop)) (u : Nat → Value) (w : World) : List Edge → Prop
  | [] => True
  | e :: es => (if Region.binds .any e = true then (match ops[e.on]? with | some o => V.getD e.on (fun _ _ => True) (slotOf u o.dst) w | none => True) else True) ∧ predsHold ops V u w es
def allHold (V : List (Value → World → Prop)) (u : Nat → Value) (w : World) : Nat → List Oper → Prop
  | _, [] => True
  | i, o :: os => V.getD i (fun _ _ => True) (slotOf u o.dst) w ∧ allHold V u w (i + 1) os

def dstsOf (ops : Array Oper) : List Nat := ops.toList.filterMap (·.dst)
def frOf (ops : Array Oper) (u : Nat → Value) (tmps : Array Value) : Array Value := (frGo (dstsOf ops) u 0 tmps.toList).toArray

/-- One operation's part. -/
def OrdStep (P : Program) (ops : Array Oper) (Q : Exit → Act → World → Prop) (R : World → World → Prop) (V : List (Value → World → Prop)) (a : Act) (w : World) (i : Nat) (o : Oper) : Prop :=
  ∀ (u : Nat → Value) (w1 : World), R w.drew w1 → predsHold ops V u w1 o.after.toList →
    ∀ K : Act → World → Prop, (∀ v w2, R w1 w2 → V.getD i (fun _ _ => True) (seen o.dst v) w2 → K ((⟨frOf ops u a.tmps, a.defers⟩ : Act).put o.dst v) w2) →
      if Region.wanted o (yielded ops (frOf ops u a.tmps)) = true then o.wp P ⟨frOf ops u a.tmps, a.defers⟩ w1 K Q else V.getD i (fun _ _ => True) undef w1
def OrdSteps (P : Program) (ops : Array Oper) (Q : Exit → Act → World → Prop) (R : World → World → Prop) (V : List (Value → World → Prop)) (a : Act) (w : World) : Nat → List Oper → Prop
  | _, [] => True
  | i, o :: os => OrdStep P ops Q R V a w i o ∧ OrdSteps P ops Q R V a w (i + 1) os

/-- Each edge points back, no two operations write one place. -/
def ordOk (ops : Array Oper) : Bool :=
  ops.toList.zipIdx.all (fun (o, i) => o.after.toList.all (fun e => !Region.binds .any e || decide (e.on < i))) &&
  ops.toList.zipIdx.all (fun (o, i) => ops.toList.zipIdx.all fun (o', j) => i == j || o.dst.isNone || o.dst != o'.dst)

section
variable {P : Program} {ops : Array Oper} {Q : Exit → Act → World → Prop} {R : World → World → Prop} {V : List (Value → World → Prop)} {a : Act} {w : World}

theorem OrdSteps.at_ : ∀ (l : List Oper) (k : Nat), OrdSteps P ops Q R V a w k l → ∀ i o, l[i]? = some o → OrdStep P ops Q R V a w (k + i) o
  | [], _, _, i, o, h => by simp at h
  | x :: l, k, hs, 0, o, h => by
    simp at h
    subst h
    exact hs.1
  | x :: l, k, hs, i + 1, o, h => by
    have := OrdSteps.at_ l (k + 1) hs.2 i o (by simpa using h)
    rwa [show k + 1 + i = k + (i + 1) by omega] at this
theorem allHold_mk {u : Nat → Value} {w1 : World} : ∀ (l : List Oper) (k : Nat), (∀ i o, l[i]? = some o → V.getD (k + i) (fun _ _ => True) (slotOf u o.dst) w1) → allHold V u w1 k l
  | [], _, _ => trivial
  | x :: l, k, h => ⟨h 0 x rfl, allHold_mk l (k + 1) fun i o ho => by
      have := h (i + 1) o (by simpa using ho)
      rwa [show k + (i + 1) = k + 1 + i by omega] at this⟩
theorem predsHold_mk {u : Nat → Value} {w1 : World} : ∀ (es : List Edge), (∀ e ∈ es, Region.binds .any e = true → ∀ o, ops[e.on]? = some o → V.getD e.on (fun _ _ => True) (slotOf u o.dst) w1) → predsHold ops V u w1 es
  | [], _ => trivial
  | e :: es, h => ⟨by
      split
      · rename_i hb
        split
        · exact h e (by simp) hb _ (by assumption)
        · trivial
      · trivial, predsHold_mk es fun e' he => h e' (by simp [he])⟩

theorem ordOk_edge (h : ordOk ops = true) {i : Nat} {o : Oper} (ho : ops[i]? = some o) {e : Edge} (he : e ∈ o.after) (hb : Region.binds .any e = true) : e.on < i := by
  simp only [ordOk, Bool.and_eq_true, List.all_eq_true] at h
  have hm : (o, i) ∈ ops.toList.zipIdx := by
    rw [List.mem_zipIdx_iff_getElem?]
    simpa using ho
  have h1 := h.1 (o, i) hm e (by simpa using he)
  simpa [hb] using h1
theorem ordOk_dst (h : ordOk ops = true) {i j : Nat} {o o' : Oper} (ho : ops[i]? = some o) (ho' : ops[j]? = some o') (hij : i ≠ j) {t : Nat} (ht : o.dst = some t) : o'.dst ≠ some t := by
  simp only [ordOk, Bool.and_eq_true, List.all_eq_true] at h
  have hm : (o, i) ∈ ops.toList.zipIdx := by
    rw [List.mem_zipIdx_iff_getElem?]
    simpa using ho
  have hm' : (o', j) ∈ ops.toList.zipIdx := by
    rw [List.mem_zipIdx_iff_getElem?]
    simpa using ho'
  have h1 := h.2 (o, i) hm (o', j) hm'
  simp only [Bool.or_eq_true, beq_iff_eq, hij, false_or, ht, Option.isNone_some, Bool.false_eq_true, bne_iff_ne] at h1
  exact fun e => h1 e.symm

theorem count_le_set {l : Array Bool} {i : Nat} {n : Nat} (hi : l.getD i true = false) (h : (l.toList.filter (!·)).length ≤ n + 1) :
    ((l.setIfInBounds i true).toList.filter (!·)).length ≤ n := by
  have hlt : i < l.size := by
    rcases Nat.lt_or_ge i l.size with h' | h'
    · exact h'
    · simp [Array.getElem?_eq_none h'] at hi
  have hx : l.toList[i]? = some false := by
    simp [hlt] at hi
    simp [hlt, hi]
  rw [Array.toList_setIfInBounds]
  generalize l.toList = xs at *
  clear hi hlt
  induction xs generalizing i n with
  | nil => simp at hx
  | cons x xs ih =>
    cases i with
    | zero =>
      simp at hx
      subst hx
      simp at h ⊢
      exact h
    | succ i =>
      simp at hx
      cases x with
      | true =>
        simp at h ⊢
        exact ih h hx
      | false =>
        simp at h ⊢
        cases n with
        | zero =>
          exfalso
          have : xs.filter (!·) = [] := List.eq_nil_of_length_eq_zero (by omega)
          have hm : false ∈ xs := List.mem_of_getElem? hx
          have := List.filter_eq_nil_iff.1 this false hm
          simp at this
        | succ n => exact Nat.succ_le_succ (ih (by omega) hx)

theorem wpAny_ord (hok : ordOk ops = true) (htrans : ∀ {x y z}, R x y → R y z → R x z) (hV : ∀ i v {x y}, V.getD i (fun _ _ => True) v x → R x y → V.getD i (fun _ _ => True) v y) (hrefl : ∀ x, R x x)
    (steps : OrdSteps P ops Q R V a w 0 ops.toList)
    (done : ∀ u w1, R w.drew w1 → allHold V u w1 0 ops.toList → Q .normal ⟨frOf ops u a.tmps, a.defers⟩ w1) :
    ∀ (fuel : Nat) (listed : Array Bool) (u : Nat → Value) (w1 : World), listed.size = ops.size → (listed.toList.filter (!·)).length ≤ fuel → R w.drew w1 →
      (∀ i o, ops[i]? = some o → listed.getD i false = true → V.getD i (fun _ _ => True) (slotOf u o.dst) w1) →
      wpAny P .any ops Q fuel listed ⟨frOf ops u a.tmps, a.defers⟩ w1 := by
  have hall : ∀ (listed : Array Bool) (u : Nat → Value) (w1 : World), listed.size = ops.size → R w.drew w1 →
      (∀ i o, ops[i]? = some o → listed.getD i false = true → V.getD i (fun _ _ => True) (slotOf u o.dst) w1) → Region.ready .any ops listed = [] → Q .normal ⟨frOf ops u a.tmps, a.defers⟩ w1 := by
    intro listed u w1 hsz hR hI hr
    have hlist : ∀ n, ∀ i, i < n → i < ops.size → listed.getD i false = true := by
      intro n
      induction n with
      | zero => intro i hi; omega
      | succ n ih =>
        intro i hi hlt
        rcases Nat.lt_or_ge i n with h | h
        · exact ih i h hlt
        · obtain rfl : i = n := by omega
          cases hb : listed.getD i false with
          | true => rfl
          | false =>
            exfalso
            have hm : i ∈ Region.ready .any ops listed := mem_ready.2 ⟨by simp [hsz, hlt] at hb ⊢; exact hb, ops[i], by simp [hlt], fun e he hb => by
              have := ordOk_edge hok (i := i) (o := ops[i]) (by simp [hlt]) he hb
              exact ih e.on this (by omega)⟩
            rw [hr] at hm
            cases hm
    refine done u w1 hR (allHold_mk _ 0 fun i o ho => ?_)
    rw [Nat.zero_add]
    have ho' : ops[i]? = some o := by simpa using ho
    have hlt : i < ops.size := (Array.getElem?_eq_some_iff.1 ho').1
    exact hI i o ho' (hlist (i + 1) i (by omega) hlt)
  intro fuel
  induction fuel with
  | zero =>
    intro listed u w1 hsz hc hR hI
    have hr : Region.ready .any ops listed = [] := by
      rw [List.eq_nil_iff_forall_not_mem]
      intro j hj
      have h0 := (mem_ready.1 hj).1
      have hlt : j < listed.size := by
        rcases Nat.lt_or_ge j listed.size with h' | h'
        · exact h'
        · simp [Array.getElem?_eq_none h'] at h0
      have hm : false ∈ listed.toList := by
        simp [hlt] at h0
        rw [← h0]
        simp
      have hn := List.eq_nil_of_length_eq_zero (Nat.le_zero.1 hc)
      have := List.filter_eq_nil_iff.1 hn false hm
      simp at this
    exact ⟨hr, hall listed u w1 hsz hR hI hr⟩
  | succ fuel ih =>
    intro listed u w1 hsz hc hR hI
    refine ⟨hall listed u w1 hsz hR hI, fun i hi => ?_⟩
    obtain ⟨hun, o, ho, hes⟩ := mem_ready.1 hi
    have hst := OrdSteps.at_ ops.toList 0 steps i o (by simpa using ho)
    rw [Nat.zero_add] at hst
    have hput : ∀ v, (⟨frOf ops u a.tmps, a.defers⟩ : Act).put o.dst v = ⟨frOf ops (upd u o.dst v) a.tmps, a.defers⟩ := by
      intro v
      cases hd : o.dst with
      | none =>
        have : upd u none v = u := by funext s; simp [upd]
        rw [this]
        rfl
      | some t =>
        have htm : t ∈ dstsOf ops := List.mem_filterMap.2 ⟨o, by simpa using Array.mem_of_getElem? ho, hd⟩
        show (⟨_, _⟩ : Act) = _
        simp only [frOf]
        rw [frGo_put _ _ _ _ _ htm]
    have hnext : ∀ v w2, R w1 w2 → V.getD i (fun _ _ => True) (seen o.dst v) w2 → wpAny P .any ops Q fuel (listed.setIfInBounds i true) ((⟨frOf ops u a.tmps, a.defers⟩ : Act).put o.dst v) w2 := by
      intro v w2 hR2 hv
      rw [hput v]
      refine ih _ _ _ (by simpa using hsz) (count_le_set hun hc) (htrans hR hR2) fun j oj hj hl => ?_
      by_cases hij : j = i
      · subst hij
        rw [ho] at hj
        injection hj with hj
        subst hj
        have h2 : slotOf (upd u o.dst v) o.dst = seen o.dst v := by cases o.dst <;> simp [slotOf, upd, seen]
        rw [h2]
        exact hv
      · rw [getD_set_ne false (Ne.symm hij)] at hl
        have h1 := hV j _ (hI j oj hj hl) hR2
        have h2 : slotOf (upd u o.dst v) oj.dst = slotOf u oj.dst := by
          cases hd : oj.dst with
          | none => rfl
          | some t =>
            have := ordOk_dst hok hj ho hij hd
            simp [slotOf, upd, this]
        rw [h2]
        exact h1
    have hpre : predsHold ops V u w1 o.after.toList := predsHold_mk _ fun e he hb o' ho' => hI e.on o' ho' (hes e (by simpa using he) hb)
    have h1 := hst u w1 hR hpre _ hnext
    unfold wpOp
    simp only [ho]
    split at h1
    · rename_i hw
      rw [if_pos hw]
      exact .inl h1
    · rename_i hw
      rw [if_neg hw]
      exact hnext undef w1 (hrefl w1) (by cases o.dst <;> exact h1)

theorem filter_replicate (n : Nat) : ((Array.replicate n false).toList.filter (!·)).length ≤ n := by simp
theorem frOf_self (ops : Array Oper) (a : Act) : (⟨frOf ops (fun s => a.tmps.getD s undef) a.tmps, a.defers⟩ : Act) = a := by
  have h : frOf ops (fun s => a.tmps.getD s undef) a.tmps = a.tmps := by
    unfold frOf
    apply Array.ext_getElem?
    intro k
    simp only [List.getElem?_toArray, frGo_at, Nat.zero_add, Array.getElem?_toList]
    cases hk : a.tmps[k]? with
    | none => rfl
    | some x => simp [Array.getD_eq_getD_getElem?, hk]
  rw [h]

/-- Each of them stands whatever R's steps do. -/
def stabs (R : World → World → Prop) : List (Value → World → Prop) → Prop
  | [] => True
  | p :: ps => (∀ v {x y}, p v x → R x y → p v y) ∧ stabs R ps
theorem stabs_at : ∀ (V : List (Value → World → Prop)), stabs R V → ∀ i v {x y}, V.getD i (fun _ _ => True) v x → R x y → V.getD i (fun _ _ => True) v y
  | [], _, _, _, _, _, h, _ => by simp at h ⊢
  | p :: _, hs, 0, v, _, _, h, hR => hs.1 v h hR
  | _ :: ps, hs, i + 1, v, _, _, h, hR => by
    have := stabs_at ps hs.2 i v (by simpa using h) hR
    simpa using this
/-- A region that draws its order: each operation once. -/
theorem wp_region_ord {id : Nat} (hm : P.follows .mixedOrders = true) (R : World → World → Prop) (V : List (Value → World → Prop)) (hok : ordOk ops = true)
    (hrefl : ∀ x, R x x) (htrans : ∀ {x y z}, R x y → R y z → R x z) (hV : stabs R V)
    (steps : OrdSteps P ops Q R V a w 0 ops.toList)
    (done : ∀ u w1, R w.drew w1 → allHold V u w1 0 ops.toList → Q .normal ⟨frOf ops u a.tmps, a.defers⟩ w1) : (Code.region id ops true).wp P Q a w := by
  refine wp_region_any hm ?_
  change wpAny P .any ops Q ops.size (Array.replicate ops.size false) a w.drew
  have h := wpAny_ord (Q := Q) (R := R) (V := V) (a := a) (w := w) hok htrans (stabs_at V hV) hrefl steps done ops.size (Array.replicate ops.size false) (fun s => a.tmps.getD s undef) w.drew (by simp) (filter_replicate _) (hrefl _) (fun i o _ hl => by
    exfalso
    simp only [Array.getD_eq_getD_getElem?, Array.getElem?_replicate] at hl
    split at hl <;> simp at hl)
  rwa [frOf_self] at h

theorem ord_plain {o : Oper} {y : Nat → Option Bool} {X Y : Prop} (hg : o.guard = none) (h : X) : if Region.wanted o y = true then X else Y := by
  have hw : Region.wanted o y = true := by simp [Region.wanted, hg]
  rw [if_pos hw]
  exact h
/-- Only new memory is made. -/
def Grows (w w' : World) : Prop := Below w.heap.size w w'
theorem Grows.refl (w : World) : Grows w w := Below.refl _ _
theorem Grows.trans {a b c : World} (h : Grows a b) (k : Grows b c) : Grows a c := Below.trans h (Below.mono k h.size)
theorem Grows.drew (w : World) : Grows w w.drew := (Below.refl _ w).drew
theorem Grows.alloc (w : World) (o : Obj) : Grows w (w.alloc o) := (Below.refl _ w).alloc (Nat.le_refl _) o
theorem Grows.blk {w w' : World} (h : Grows w w') {g : Nat} {t : TypeId} {cs : Array Value} (hb : Blk w g t cs) : Blk w' g t cs := Blk.below hb h hb.lt
/-- It is that value. -/
def Is (x : Value) : Value → World → Prop := fun v _ => v = x
/-- It is a row of its own. -/
def IsRow (n : Nat) (t : TypeId) (cs : Array Value) : Value → World → Prop := fun v w => ∃ g, v = .slice (some ⟨g, 0, none⟩) n n ∧ Blk w g t cs
/-- It is a block of its own. -/
def IsPtr (t : TypeId) (cs : Array Value) : Value → World → Prop := fun v w => ∃ g, v = .pointer (some ⟨g, 0, none⟩) ∧ Blk w g t cs
/-- Nothing is said. -/
def IsAny : Value → World → Prop := fun _ _ => True
theorem is_stab (R : World → World → Prop) (a : Value) : ∀ v {x y : World}, Is a v x → R x y → Is a v y := fun _ _ _ h _ => h
theorem isAny_stab (R : World → World → Prop) : ∀ v {x y : World}, IsAny v x → R x y → IsAny v y := fun _ _ _ h _ => h
theorem isRow_stab (n : Nat) (t : TypeId) (cs : Array Value) : ∀ v {x y : World}, IsRow n t cs v x → Grows x y → IsRow n t cs v y := fun _ _ _ ⟨g, h1, h2⟩ h => ⟨g, h1, h.blk h2⟩
theorem isPtr_stab (t : TypeId) (cs : Array Value) : ∀ v {x y : World}, IsPtr t cs v x → Grows x y → IsPtr t cs v y := fun _ _ _ ⟨g, h1, h2⟩ h => ⟨g, h1, h.blk h2⟩
end
end Go.Proofs.Ytmghlhngdopifaa
