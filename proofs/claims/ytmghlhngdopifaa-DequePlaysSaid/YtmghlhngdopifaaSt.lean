/- A region that draws its order, in which some operations turn the world: each operation once, by which ones have been done. No conditions. -/
import Derived.Test.YtmghlhngdopifaaOrd
namespace Go.Proofs.Ytmghlhngdopifaa
open Go.RowKit
set_option linter.unusedVariables false
def ldW (ld : Nat → Bool) (i : Nat) : Nat → Bool := fun j => if j = i then true else ld j
/-- the edges that bind have been done -/
def edgesDone (ld : Nat → Bool) : List Edge → Prop
  | [] => True
  | e :: es => (if Region.binds .any e = true then ld e.on = true else True) ∧ edgesDone ld es
/-- One operation's part. -/
def StStep (P : Program) (ops : Array Oper) (Q : Exit → Act → World → Prop) (St : (Nat → Bool) → World → Prop) (V : List (Value → World → Prop)) (a : Act) (i : Nat) (o : Oper) : Prop :=
  ∀ (ld : Nat → Bool) (u : Nat → Value) (w1 : World), ld i = false → edgesDone ld o.after.toList → St ld w1 → predsHold ops V u w1 o.after.toList →
    ∀ K : Act → World → Prop, (∀ v w2, St (ldW ld i) w2 → V.getD i (fun _ _ => True) (seen o.dst v) w2 → K ((⟨frOf ops u a.tmps, a.defers⟩ : Act).put o.dst v) w2) →
      if Region.wanted o (yielded ops (frOf ops u a.tmps)) = true then o.wp P ⟨frOf ops u a.tmps, a.defers⟩ w1 K Q else St (ldW ld i) w1 ∧ V.getD i (fun _ _ => True) undef w1
def StSteps (P : Program) (ops : Array Oper) (Q : Exit → Act → World → Prop) (St : (Nat → Bool) → World → Prop) (V : List (Value → World → Prop)) (a : Act) : Nat → List Oper → Prop
  | _, [] => True
  | i, o :: os => StStep P ops Q St V a i o ∧ StSteps P ops Q St V a (i + 1) os
section
variable {P : Program} {ops : Array Oper} {Q : Exit → Act → World → Prop} {St : (Nat → Bool) → World → Prop} {V : List (Value → World → Prop)} {a : Act} {w : World}
theorem StSteps.at_ : ∀ (l : List Oper) (k : Nat), StSteps P ops Q St V a k l → ∀ i o, l[i]? = some o → StStep P ops Q St V a (k + i) o
  | [], _, _, i, o, h => by simp at h
  | x :: l, k, hs, 0, o, h => by
    simp at h
    subst h
    exact hs.1
  | x :: l, k, hs, i + 1, o, h => by
    have := StSteps.at_ l (k + 1) hs.2 i o (by simpa using h)
    rwa [show k + 1 + i = k + (i + 1) by omega] at this
theorem edgesDone_mk {ld : Nat → Bool} : ∀ (es : List Edge), (∀ e ∈ es, Region.binds .any e = true → ld e.on = true) → edgesDone ld es
  | [], _ => trivial
  | e :: es, h => ⟨by
      split
      · rename_i hb; exact h e (by simp) hb
      · trivial, edgesDone_mk es fun e' he => h e' (by simp [he])⟩
theorem ldW_set {l : Array Bool} {i : Nat} (hi : i < l.size) : (fun j => (l.setIfInBounds i true).getD j false) = ldW (fun j => l.getD j false) i := by
  funext j
  unfold ldW
  by_cases h : j = i
  · subst h; simp [hi]
  · rw [if_neg h, getD_set_ne false (Ne.symm h)]
theorem wpAny_st (hok : ordOk ops = true) (hV : ∀ i v {x y : World}, V.getD i (fun _ _ => True) v x → V.getD i (fun _ _ => True) v y)
    (steps : StSteps P ops Q St V a 0 ops.toList)
    (done : ∀ u w1 ld, (∀ i, i < ops.size → ld i = true) → St ld w1 → allHold V u w1 0 ops.toList → Q .normal ⟨frOf ops u a.tmps, a.defers⟩ w1) :
    ∀ (fuel : Nat) (listed : Array Bool) (u : Nat → Value) (w1 : World), listed.size = ops.size → (listed.toList.filter (!·)).length ≤ fuel → St (fun j => listed.getD j false) w1 →
      (∀ i o, ops[i]? = some o → listed.getD i false = true → V.getD i (fun _ _ => True) (slotOf u o.dst) w1) →
      wpAny P .any ops Q fuel listed ⟨frOf ops u a.tmps, a.defers⟩ w1 := by
  have hall : ∀ (listed : Array Bool) (u : Nat → Value) (w1 : World), listed.size = ops.size → St (fun j => listed.getD j false) w1 →
      (∀ i o, ops[i]? = some o → listed.getD i false = true → V.getD i (fun _ _ => True) (slotOf u o.dst) w1) → Region.ready .any ops listed = [] → Q .normal ⟨frOf ops u a.tmps, a.defers⟩ w1 := by
    intro listed u w1 hsz hR hI hr
    have hlist : ∀ n, ∀ i, i < n → i < ops.size → listed.getD i false = true := by
      intro n
      induction n with
      | zero => intro i hi; omega
      | succ n ih =>
        intro i hi hlt
        rcases Nat.lt_or_ge i n with h | h
        · exact ih i h hlt
        · obtain rfl : i = n := by omega
          cases hb : listed.getD i false with
          | true => rfl
          | false =>
            exfalso
            have hm : i ∈ Region.ready .any ops listed := mem_ready.2 ⟨by simp [hsz, hlt] at hb ⊢; exact hb, ops[i], by simp [hlt], fun e he hb => by
              have := ordOk_edge hok (i := i) (o := ops[i]) (by simp [hlt]) he hb
              exact ih e.on this (by omega)⟩
            rw [hr] at hm
            cases hm
    refine done u w1 _ (fun i hi => hlist (i + 1) i (by omega) hi) hR (allHold_mk _ 0 fun i o ho => ?_)
    rw [Nat.zero_add]
    have ho' : ops[i]? = some o := by simpa using ho
    have hlt : i < ops.size := (Array.getElem?_eq_some_iff.1 ho').1
    exact hI i o ho' (hlist (i + 1) i (by omega) hlt)
  intro fuel
  induction fuel with
  | zero =>
    intro listed u w1 hsz hc hR hI
    have hr : Region.ready .any ops listed = [] := by
      rw [List.eq_nil_iff_forall_not_mem]
      intro j hj
      have h0 := (mem_ready.1 hj).1
      have hlt : j < listed.size := by
        rcases Nat.lt_or_ge j listed.size with h' | h'
        · exact h'
        · simp [Array.getElem?_eq_none h'] at h0
      have hm : false ∈ listed.toList := by
        simp [hlt] at h0
        rw [← h0]
        simp
      have hn := List.eq_nil_of_length_eq_zero (Nat.le_zero.1 hc)
      have := List.filter_eq_nil_iff.1 hn false hm
      simp at this
    exact ⟨hr, hall listed u w1 hsz hR hI hr⟩
  | succ fuel ih =>
    intro listed u w1 hsz hc hR hI
    refine ⟨hall listed u w1 hsz hR hI, fun i hi => ?_⟩
    obtain ⟨hun, o, ho, hes⟩ := mem_ready.1 hi
    have hlt : i < listed.size := by rw [hsz]; exact (Array.getElem?_eq_some_iff.1 ho).1
    have hst := StSteps.at_ ops.toList 0 steps i o (by simpa using ho)
    rw [Nat.zero_add] at hst
    have hput : ∀ v, (⟨frOf ops u a.tmps, a.defers⟩ : Act).put o.dst v = ⟨frOf ops (upd u o.dst v) a.tmps, a.defers⟩ := by
      intro v
      cases hd : o.dst with
      | none =>
        have : upd u none v = u := by funext s; simp [upd]
        rw [this]
        rfl
      | some t =>
        have htm : t ∈ dstsOf ops := List.mem_filterMap.2 ⟨o, by simpa using Array.mem_of_getElem? ho, hd⟩
        show (⟨_, _⟩ : Act) = _
        simp only [frOf]
        rw [frGo_put _ _ _ _ _ htm]
    have hnext : ∀ v w2, St (ldW (fun j => listed.getD j false) i) w2 → V.getD i (fun _ _ => True) (seen o.dst v) w2 → wpAny P .any ops Q fuel (listed.setIfInBounds i true) ((⟨frOf ops u a.tmps, a.defers⟩ : Act).put o.dst v) w2 := by
      intro v w2 hR2 hv
      rw [hput v]
      refine ih _ _ _ (by simpa using hsz) (count_le_set hun hc) (by rw [ldW_set hlt]; exact hR2) fun j oj hj hl => ?_
      by_cases hij : j = i
      · subst hij
        rw [ho] at hj
        injection hj with hj
        subst hj
        have h2 : slotOf (upd u o.dst v) o.dst = seen o.dst v := by cases o.dst <;> simp [slotOf, upd, seen]
        rw [h2]
        exact hv
      · rw [getD_set_ne false (Ne.symm hij)] at hl
        have h1 := hV j (y := w2) _ (hI j oj hj hl)
        have h2 : slotOf (upd u o.dst v) oj.dst = slotOf u oj.dst := by
          cases hd : oj.dst with
          | none => rfl
          | some t =>
            have := ordOk_dst hok hj ho hij hd
            simp [slotOf, upd, this]
        rw [h2]
        exact h1
    have hpre : predsHold ops V u w1 o.after.toList := predsHold_mk _ fun e he hb o' ho' => hI e.on o' ho' (hes e (by simpa using he) hb)
    have hun' : (fun j => listed.getD j false) i = false := by
      simp only
      simp only [Array.getD_eq_getD_getElem?] at hun ⊢
      rw [Array.getElem?_eq_getElem hlt] at hun ⊢
      simpa using hun
    have hed : edgesDone (fun j => listed.getD j false) o.after.toList := edgesDone_mk _ fun e he hb => hes e (by simpa using he) hb
    have h1 := hst (fun j => listed.getD j false) u w1 hun' hed hR hpre _ hnext
    unfold wpOp
    simp only [ho]
    split at h1
    · rename_i hw
      rw [if_pos hw]
      exact .inl h1
    · rename_i hw
      rw [if_neg hw]
      exact hnext undef w1 h1.1 (by cases o.dst <;> exact h1.2)
/-- A region that draws its order: each operation once; St: what the world is, by which operations have been done. -/
theorem wp_region_st {id : Nat} (hm : P.follows .mixedOrders = true) (St : (Nat → Bool) → World → Prop) (V : List (Value → World → Prop)) (hok : ordOk ops = true)
    (hV : stabs (fun _ _ => True) V) (start : St (fun _ => false) w.drew)
    (steps : StSteps P ops Q St V a 0 ops.toList)
    (done : ∀ u w1 ld, (∀ i, i < ops.size → ld i = true) → St ld w1 → allHold V u w1 0 ops.toList → Q .normal ⟨frOf ops u a.tmps, a.defers⟩ w1) : (Code.region id ops true).wp P Q a w := by
  refine wp_region_any hm ?_
  change wpAny P .any ops Q ops.size (Array.replicate ops.size false) a w.drew
  have hrep : ∀ j, (Array.replicate ops.size false).getD j false = false := by
    intro j
    simp only [Array.getD_eq_getD_getElem?, Array.getElem?_replicate]
    split <;> rfl
  have h := wpAny_st (Q := Q) (V := V) (a := a) hok (fun i v x y h => stabs_at (R := fun _ _ => True) V hV i v h trivial) steps done ops.size (Array.replicate ops.size false) (fun s => a.tmps.getD s undef) w.drew (by simp) (filter_replicate _) (by
    have : (fun j => (Array.replicate ops.size false).getD j false) = fun _ => false := funext hrep
    rw [this]; exact start) (fun i o _ hl => by
    rw [hrep] at hl; cases hl)
  rwa [frOf_self] at h
end
/-- A state in which one operation (is it done?) turns the world: of the blocks only S, and it leaves Q. -/
def Sti (S : Nat → Prop) (W : World) (b : Bool) (Q : World → Prop) (y : World) : Prop := Only S W y ∧ (if b = true then Q y else y = W)
theorem Sti.start {S : Nat → Prop} {W : World} {Q : World → Prop} : Sti S W false Q W := ⟨Only.refl _ _, by simp⟩
theorem Sti.was {S : Nat → Prop} {W y : World} {b : Bool} {Q : World → Prop} (h : Sti S W b Q y) (hb : b = false) : y = W := by simpa [hb] using h.2
theorem Sti.got {S : Nat → Prop} {W y : World} {b : Bool} {Q : World → Prop} (h : Sti S W b Q y) (hb : b = true) : Q y := by simpa [hb] using h.2
theorem Sti.put {S : Nat → Prop} {W y : World} {Q : World → Prop} (h : Only S W y) (hq : Q y) : Sti S W true Q y := ⟨h, by simpa using hq⟩
theorem Sti.or {S : Nat → Prop} {W y : World} {b : Bool} {Q : World → Prop} (h : Sti S W b Q y) : y = W ∨ Q y := by
  cases b with
  | false => exact .inl (h.was rfl)
  | true => exact .inr (h.got rfl)
/-- Two operations, one behind the other, turn the world; b0: what the second one stands behind too. -/
def Sti2 (S : Nat → Prop) (W : World) (b0 b1 b2 : Bool) (Q1 Q2 : World → Prop) (y : World) : Prop := Only S W y ∧ (b2 = true → b1 = true ∧ b0 = true) ∧ (if b2 = true then Q2 y else if b1 = true then Q1 y else y = W)
section
variable {S : Nat → Prop} {W y : World} {b0 b1 b2 : Bool} {Q1 Q2 : World → Prop}
theorem Sti2.start {b0 : Bool} : Sti2 S W b0 false false Q1 Q2 W := ⟨Only.refl _ _, by simp, by simp⟩
theorem Sti2.was (h : Sti2 S W b0 b1 b2 Q1 Q2 y) (hb : b1 = false) : y = W ∧ b2 = false := by
  obtain ⟨_, h2, h3⟩ := h
  cases b2 with
  | false => simpa [hb] using h3
  | true => simp [hb] at h2
theorem Sti2.mid (h : Sti2 S W b0 b1 b2 Q1 Q2 y) (hb : b1 = true) (hc : b2 = false) : Q1 y := by simpa [hb, hc] using h.2.2
theorem Sti2.got (h : Sti2 S W b0 b1 b2 Q1 Q2 y) (hb : b2 = true) : Q2 y := by simpa [hb] using h.2.2
theorem Sti2.or (h : Sti2 S W b0 b1 b2 Q1 Q2 y) : y = W ∨ Q1 y ∨ Q2 y := by
  cases b2 with
  | true => exact .inr (.inr (h.got rfl))
  | false =>
    cases b1 with
    | true => exact .inr (.inl (h.mid rfl rfl))
    | false => exact .inl (h.was rfl).1
theorem Sti2.or0 (h : Sti2 S W b0 b1 b2 Q1 Q2 y) (hb : b0 = false) : y = W ∨ Q1 y := by
  obtain ⟨_, h2, h3⟩ := h
  cases b2 with
  | true => have := (h2 rfl).2; rw [hb] at this; cases this
  | false =>
    cases b1 with
    | true => exact .inr (by simpa using h3)
    | false => exact .inl (by simpa using h3)
theorem Sti2.put1 {y' : World} (h : Sti2 S W b0 b1 b2 Q1 Q2 y) (hb : b1 = false) (ho : Only S W y') (hq : Q1 y') : Sti2 S W b0 true b2 Q1 Q2 y' := by
  have := (h.was hb).2
  subst this
  exact ⟨ho, by simp, by simpa using hq⟩
theorem Sti2.put2 (h1 : b1 = true) (h0 : b0 = true) (ho : Only S W y) (hq : Q2 y) : Sti2 S W b0 b1 true Q1 Q2 y := ⟨ho, fun _ => ⟨h1, h0⟩, by simpa using hq⟩
theorem Sti2.more {b0' : Bool} (h : Sti2 S W b0 b1 b2 Q1 Q2 y) (hb : b0 = true → b0' = true) : Sti2 S W b0' b1 b2 Q1 Q2 y := ⟨h.1, fun e => ⟨(h.2.1 e).1, hb (h.2.1 e).2⟩, h.2.2⟩
end
end Go.Proofs.Ytmghlhngdopifaa
