/- Regions that draw their order, second part: the region's text, and the walk's moments. No conditions. -/
import Derived.Test.YtlpnhikoipkjbaaAbsY
set_option linter.unusedVariables false
namespace Go.Proofs.Ytlpnhikoipkjbaa.Abs
open Go Go.RowKit
def bt (pre : List Nat) (i j : Nat) : Prop := Nat.testBit (pre.getD i 0) j = true
structure RegF (P : Program) (ops : Array Oper) (pre : List Nat) : Prop where
  mixed : P.follows .mixedOrders = true
  edge : ∀ {i : Nat} {o : Oper} {e : Edge}, ops[i]? = some o → e ∈ o.after → Region.binds .any e = true → e.on < i
  dst : ∀ {i j : Nat} {o p : Oper} {t : Nat}, ops[i]? = some o → ops[j]? = some p → i ≠ j → o.dst = some t → p.dst ≠ some t
  hvy : ∀ {i j : Nat} {o p : Oper}, ops[i]? = some o → ops[j]? = some p → isHeavy o.op = true → isHeavy p.op = true → i < j → bt pre j i
  look : ∀ {i j : Nat} {o p : Oper} {t : Nat}, ops[i]? = some o → ops[j]? = some p → i ≠ j → t ∈ tmpsOf ops o → p.dst = some t → bt pre i j ∨ bt pre j i
  why : ∀ {i j : Nat} {o : Oper}, ops[i]? = some o → bt pre i j → ∃ e ∈ o.after, Region.binds .any e = true ∧ (e.on = j ∨ bt pre e.on j)
theorem mem_zip {ops : Array Oper} {i : Nat} {o : Oper} (h : ops[i]? = some o) : (o, i) ∈ ops.toList.zipIdx := by
  rw [List.mem_zipIdx_iff_getElem?]
  simpa using h
theorem edgeF_bit {pre : List Nat} {j : Nat} : ∀ {es : List Edge}, Nat.testBit (edgeF pre es) j = true → ∃ e ∈ es, Region.binds .any e = true ∧ (e.on = j ∨ bt pre e.on j)
  | [], h => by simp [edgeF] at h
  | e :: es, h => by
    have he : edgeF pre (e :: es) = (bif Region.binds .any e then Nat.lor (edgeF pre es) (Nat.lor (2 ^ e.on) (pre.getD e.on 0)) else edgeF pre es) := rfl
    rw [he] at h
    cases hb : Region.binds .any e with
    | false =>
      rw [hb] at h
      obtain ⟨e', h1, h2⟩ := edgeF_bit (es := es) h
      exact ⟨e', List.mem_cons_of_mem _ h1, h2⟩
    | true =>
      rw [hb] at h
      have h' : Nat.testBit (edgeF pre es ||| (2 ^ e.on ||| pre.getD e.on 0)) j = true := h
      rw [Nat.testBit_or, Nat.testBit_or, Bool.or_eq_true, Bool.or_eq_true] at h'
      rcases h' with h' | h' | h'
      · obtain ⟨e', h1, h2⟩ := edgeF_bit h'
        exact ⟨e', List.mem_cons_of_mem _ h1, h2⟩
      · rw [Nat.testBit_two_pow] at h'
        exact ⟨e, by simp, hb, .inl (by simpa using h')⟩
      · exact ⟨e, by simp, hb, .inr h'⟩
theorem dstNe_not {t : Nat} : dstNe t (some t) = false := by simp [dstNe]
theorem regF {P : Program} {ops : Array Oper} (h : regOk P ops = true) : RegF P ops (preL ops) := by
  simp only [regOk, forceNL_eq, Bool.and_eq_true] at h
  obtain ⟨h1, h⟩ := h
  have hall : ∀ {i : Nat} {o : Oper}, ops[i]? = some o → _ := fun {i o} ho => allF_at h (i := i) (x := o) (by simpa using ho)
  simp only [Bool.and_eq_true, Nat.zero_add] at hall
  refine ⟨h1, ?_, ?_, ?_, ?_, ?_⟩
  · intro i o e ho he hb
    obtain ⟨⟨⟨⟨h2, _⟩, _⟩, _⟩, _⟩ := hall ho
    obtain ⟨k, hk⟩ := List.getElem?_of_mem (l := o.after.toList) (by simpa using he)
    have := allF_at h2 hk
    simp only [hb, Bool.not_true, Bool.false_or] at this
    simpa [Nat.blt, Nat.succ_le_iff] using this
  · intro i j o p t ho hp hij ht
    obtain ⟨⟨⟨_, h3⟩, _⟩, _⟩ := hall ho
    rw [ht] at h3
    have := allF_at h3 (i := j) (x := p) (by simpa using hp)
    rw [Nat.zero_add, Bool.or_eq_true] at this
    rcases this with h4 | h4
    · intro e; rw [e, dstNe_not] at h4; cases h4
    · exact (hij (Nat.eq_of_beq_eq_true h4)).elim
  · intro i j o p ho hp hh hh' hij
    obtain ⟨⟨_, h4⟩, _⟩ := hall ho
    rw [hh, Bool.not_true, Bool.false_or] at h4
    have := allF_at h4 (i := j) (x := p) (by simpa using hp)
    have hb : Nat.blt i j = true := by simpa [Nat.blt, Nat.succ_le_iff] using hij
    rw [Nat.zero_add, hh', hb, Bool.not_true, Bool.false_or, Bool.false_or] at this
    exact this
  · intro i j o p t ho hp hij ht hd
    obtain ⟨_, h5⟩ := hall ho
    obtain ⟨k, hk⟩ := List.getElem?_of_mem ht
    have := allF_at (allF_at h5 hk) (i := j) (x := p) (by simpa using hp)
    rw [Nat.zero_add, hd, dstNe_not, Bool.false_or, Bool.or_eq_true, Bool.or_eq_true] at this
    rcases this with (h6 | h6) | h6
    · exact (hij (Nat.eq_of_beq_eq_true h6)).elim
    · exact .inl h6
    · exact .inr h6
  · intro i j o ho hb
    obtain ⟨⟨⟨⟨_, h2⟩, _⟩, _⟩, _⟩ := hall ho
    have h2 := Nat.eq_of_beq_eq_true h2
    unfold bt at hb
    rw [h2] at hb
    obtain ⟨e, h6, h7⟩ := edgeF_bit hb
    exact ⟨e, by simpa using h6, h7⟩
section
variable {P : Program} {ops : Array Oper} {pre : List Nat}
theorem RegF.lt (hr : RegF P ops pre) {j : Nat} : ∀ (i : Nat) {o : Oper}, ops[i]? = some o → bt pre i j → j < i := by
  intro i
  induction i using Nat.strongRecOn with
  | ind i ih =>
    intro o ho hb
    obtain ⟨e, he, hbe, h⟩ := hr.why ho hb
    have hlt := hr.edge ho he hbe
    rcases h with h | h
    · omega
    · have hi : i < ops.size := (Array.getElem?_eq_some_iff.1 ho).1
      have := ih e.on hlt (o := ops[e.on]'(by omega)) (Array.getElem?_eq_getElem (by omega)) h
      omega
/-- closed under the edges -/
def Shut (ops : Array Oper) (ld : Array Bool) : Prop := ∀ i o e, ops[i]? = some o → ld.getD i false = true → e ∈ o.after → Region.binds .any e = true → ld.getD e.on false = true
theorem RegF.shut (hr : RegF P ops pre) {ld : Array Bool} (hs : Shut ops ld) {j : Nat} : ∀ (i : Nat) {o : Oper}, ops[i]? = some o → ld.getD i false = true → bt pre i j → ld.getD j false = true := by
  intro i
  induction i using Nat.strongRecOn with
  | ind i ih =>
    intro o ho hl hb
    obtain ⟨e, he, hbe, h⟩ := hr.why ho hb
    have hlt := hr.edge ho he hbe
    have h1 := hs i o e ho hl he hbe
    rcases h with rfl | h
    · exact h1
    · have hi : i < ops.size := (Array.getElem?_eq_some_iff.1 ho).1
      exact ih e.on hlt (o := ops[e.on]'(by omega)) (Array.getElem?_eq_getElem (by omega)) h1 h
theorem RegF.ready (hr : RegF P ops pre) {ld : Array Bool} (hs : Shut ops ld) {i j : Nat} {o : Oper} (ho : ops[i]? = some o) (h : ∀ e ∈ o.after, Region.binds .any e = true → ld.getD e.on false = true) (hb : bt pre i j) : ld.getD j false = true := by
  obtain ⟨e, he, hbe, h1⟩ := hr.why ho hb
  have hlt := hr.edge ho he hbe
  have h2 := h e he hbe
  rcases h1 with rfl | h1
  · exact h2
  · have hi : i < ops.size := (Array.getElem?_eq_some_iff.1 ho).1
    exact hr.shut hs e.on (o := ops[e.on]'(by omega)) (Array.getElem?_eq_getElem (by omega)) h2 h1
end
theorem upN_nat : ∀ (m : Nat) (n : Pos), (upN m n).nat = n.nat + m
  | 0, n => rfl
  | m + 1, n => by unfold upN; rw [upN_nat m, Pos.nat_succ]; omega
section
variable {P : Program} {call : CallT} {lim : Pos} {ops : Array Oper} {pre : List Nat} {S : Nat → DS} {V : Nat → AV}
/-- it runs, and it is heavy -/
def Hv (ops : Array Oper) (S : Nat → DS) (h : Nat) : Prop := ∃ o, ops[h]? = some o ∧ isHeavy o.op = true ∧ wantA ops.toList (S h).a o = some true
def Al (S : Nat → DS) (j : Nat) (b : Pos) (ao : AO) : Prop := (j, b, ao) ∈ (S (j + 1)).pd
def Mg (ops : Array Oper) (pre : List Nat) (S : Nat → DS) (c j : Nat) : Prop := ∃ h, h < c ∧ Hv ops S h ∧ bt pre h j
structure Walk (P : Program) (call : CallT) (lim : Pos) (ops : Array Oper) (pre : List Nat) (S : Nat → DS) (V : Nat → AV) : Prop where
  step : ∀ j o, ops[j]? = some o → StepD P call lim ops pre j o (S j) (V j) (S (j + 1))
  pd0 : (S 0).pd = []
theorem Walk.heavy_of (W : Walk P call lim ops pre S V) {i : Nat} (h : Hv ops S i) : (S (i + 1)).pd = restP (pre.getD i 0) (S i).pd := by
  obtain ⟨o, h1, h2, h3⟩ := h
  have := W.step i o h1
  generalize S (i + 1) = s' at *
  generalize V i = v at *
  cases this with
  | skip _ hw => rw [h3] at hw; cases hw
  | heavy => rfl
  | new _ _ _ _ hh => rw [h2] at hh; cases hh
  | read _ _ _ hh => rw [h2] at hh; cases hh
theorem Walk.light (W : Walk P call lim ops pre S V) {i : Nat} (hi : i < ops.size) (h : ¬ Hv ops S i) : (S (i + 1)).n = (S i).n ∧ (S (i + 1)).H = (S i).H ∧ ((S (i + 1)).pd = (S i).pd ∧ (S (i + 1)).nx = (S i).nx ∨ ∃ ao, (S (i + 1)).pd = (i, (S i).nx, ao) :: (S i).pd ∧ (S (i + 1)).nx = (S i).nx.succ ∧ isNew P (ops[i]).op = true ∧ isHeavy (ops[i]).op = false) := by
  have ho : ops[i]? = some ops[i] := Array.getElem?_eq_getElem hi
  have := W.step i _ ho
  generalize hs' : S (i + 1) = s' at *
  generalize V i = v at *
  cases this with
  | skip => exact ⟨rfl, rfl, .inl ⟨rfl, rfl⟩⟩
  | heavy _ _ _ _ hw hh => exact (h ⟨_, ho, hh, hw⟩).elim
  | new ao _ _ _ hh hn => exact ⟨rfl, rfl, .inr ⟨ao, rfl, rfl, hn, hh⟩⟩
  | read => exact ⟨rfl, rfl, .inl ⟨rfl, rfl⟩⟩
theorem mem_restP {m : Nat} {l : Pend} {x : Nat × Pos × AO} : x ∈ restP m l ↔ x ∈ l ∧ Nat.testBit m x.1 = false := by
  unfold restP
  rw [List.mem_filter]
  simp
theorem Walk.pd (hr : RegF P ops pre) (W : Walk P call lim ops pre S V) {j : Nat} {b : Pos} {ao : AO} : ∀ i, i ≤ ops.size → ((j, b, ao) ∈ (S i).pd ↔ j < i ∧ Al S j b ao ∧ ¬ Mg ops pre S i j)
  | 0, _ => by rw [W.pd0]; simp
  | i + 1, hi => by
    have ih := Walk.pd hr W (j := j) (b := b) (ao := ao) i (by omega)
    by_cases hv : Hv ops S i
    · rw [W.heavy_of hv, mem_restP, ih]
      constructor
      · rintro ⟨⟨h1, h2, h3⟩, h4⟩
        refine ⟨by omega, h2, ?_⟩
        rintro ⟨h, h5, h6, h7⟩
        by_cases e : h = i
        · subst e; simp only [bt] at h7; rw [h4] at h7; cases h7
        · exact h3 ⟨h, by omega, h6, h7⟩
      · rintro ⟨h1, h2, h3⟩
        have hb : Nat.testBit (pre.getD i 0) j = false := by
          cases hh : Nat.testBit (pre.getD i 0) j with
          | false => rfl
          | true => exact (h3 ⟨i, by omega, hv, hh⟩).elim
        by_cases e : j = i
        · subst e
          unfold Al at h2
          rw [W.heavy_of hv, mem_restP, ih] at h2
          omega
        · exact ⟨⟨by omega, h2, fun ⟨h, h5, h6, h7⟩ => h3 ⟨h, by omega, h6, h7⟩⟩, hb⟩
    · have hM : Mg ops pre S (i + 1) j ↔ Mg ops pre S i j := by
        constructor
        · rintro ⟨h, h5, h6, h7⟩
          by_cases e : h = i
          · subst e; exact (hv h6).elim
          · exact ⟨h, by omega, h6, h7⟩
        · rintro ⟨h, h5, h6, h7⟩
          exact ⟨h, by omega, h6, h7⟩
      rw [hM]
      by_cases e : j = i
      · subst e
        constructor
        · intro h
          refine ⟨by omega, h, ?_⟩
          rintro ⟨h', h5, ⟨o', h6, _⟩, h7⟩
          have := hr.lt h' h6 h7
          omega
        · rintro ⟨_, h, _⟩; exact h
      · obtain ⟨_, _, h1⟩ := W.light (by omega) hv
        rcases h1 with ⟨h1, _⟩ | ⟨ao', h1, _⟩
        · rw [h1, ih]
          constructor
          · rintro ⟨h1, h2⟩; exact ⟨by omega, h2⟩
          · rintro ⟨h1, h2⟩; exact ⟨by omega, h2⟩
        · rw [h1, List.mem_cons, ih]
          constructor
          · rintro (h | ⟨h1, h2⟩)
            · injection h with h; exact (e h).elim
            · exact ⟨by omega, h2⟩
          · rintro ⟨h1, h2⟩; exact .inr ⟨by omega, h2⟩
/-- how many blocks it names from i on -/
def newsL (P : Program) (l : List Oper) : Nat := (l.filter fun o => isNew P o.op && !isHeavy o.op).length
theorem newsL_cons (o : Oper) (l : List Oper) : newsL P (o :: l) = newsL P l + (if isNew P o.op && !isHeavy o.op then 1 else 0) := by
  unfold newsL
  rw [List.filter_cons]
  split <;> simp
theorem drop_at {i : Nat} (hi : i < ops.size) : ops.toList.drop i = ops[i] :: ops.toList.drop (i + 1) := by
  rw [List.drop_eq_getElem_cons (by simpa using hi)]
  simp
theorem Walk.nx (W : Walk P call lim ops pre S V) {i : Nat} (hi : i < ops.size) : (S i).nx.nat ≤ (S (i + 1)).nx.nat ∧ (S (i + 1)).nx.nat + newsL P (ops.toList.drop (i + 1)) ≤ (S i).nx.nat + newsL P (ops.toList.drop i) := by
  rw [drop_at hi, newsL_cons]
  by_cases hv : Hv ops S i
  · have : (S (i + 1)).nx = (S i).nx := by
      obtain ⟨o, h1, h2, h3⟩ := hv
      have := W.step i o h1
      generalize S (i + 1) = s' at *
      generalize V i = v at *
      cases this with
      | skip _ hw => rfl
      | heavy => rfl
      | new _ _ _ _ hh => rw [h2] at hh; cases hh
      | read _ _ _ hh => rfl
    rw [this]; omega
  · obtain ⟨_, _, h1⟩ := W.light hi hv
    rcases h1 with ⟨_, h1⟩ | ⟨ao, _, h1, h2, h3⟩
    · rw [h1]; omega
    · rw [h1, h2, h3, Pos.nat_succ]; simp; omega
theorem Walk.nx_le (W : Walk P call lim ops pre S V) {i : Nat} : ∀ k, i + k ≤ ops.size → (S i).nx.nat ≤ (S (i + k)).nx.nat ∧ (S (i + k)).nx.nat + newsL P (ops.toList.drop (i + k)) ≤ (S i).nx.nat + newsL P (ops.toList.drop i)
  | 0, _ => ⟨Nat.le_refl _, Nat.le_refl _⟩
  | k + 1, h => by
    have h1 := W.nx_le (i := i) k (by omega)
    have h2 := W.nx (i := i + k) (by omega)
    rw [show i + (k + 1) = i + k + 1 by omega]
    omega
theorem Walk.al (hr : RegF P ops pre) (W : Walk P call lim ops pre S V) {j : Nat} {b : Pos} {ao : AO} (hj : j < ops.size) (h : Al S j b ao) : b = (S j).nx ∧ (S (j + 1)).nx = (S j).nx.succ ∧ ¬ Hv ops S j := by
  have hn : (j, b, ao) ∉ (S j).pd := fun e => by have := (Walk.pd hr W j (by omega)).1 e; omega
  unfold Al at h
  by_cases hv : Hv ops S j
  · rw [W.heavy_of hv, mem_restP] at h; exact (hn h.1).elim
  · obtain ⟨_, _, h1⟩ := W.light hj hv
    rcases h1 with ⟨h1, _⟩ | ⟨ao', h1, h2, _⟩
    · rw [h1] at h; exact (hn h).elim
    · rw [h1, List.mem_cons] at h
      rcases h with h | h
      · injection h with _ h; injection h with h; exact ⟨h, h2, hv⟩
      · exact (hn h).elim
theorem Walk.al_lt (hr : RegF P ops pre) (W : Walk P call lim ops pre S V) {j j' : Nat} {b b' : Pos} {ao ao' : AO} (hj' : j' < ops.size) (hjj : j < j') (h : Al S j b ao) (h' : Al S j' b' ao') : b.nat < b'.nat := by
  obtain ⟨h1, h2, _⟩ := W.al hr (by omega) h
  obtain ⟨h3, _⟩ := W.al hr hj' h'
  have := (W.nx_le (i := j + 1) (j' - (j + 1)) (by omega)).1
  rw [show j + 1 + (j' - (j + 1)) = j' by omega, h2, Pos.nat_succ] at this
  rw [h1, h3]; omega
theorem Walk.al_inj (hr : RegF P ops pre) (W : Walk P call lim ops pre S V) {j j' : Nat} {b : Pos} {ao ao' : AO} (hj : j < ops.size) (hj' : j' < ops.size) (h : Al S j b ao) (h' : Al S j' b ao') : j = j' ∧ ao = ao' := by
  have e : j = j' := by
    rcases Nat.lt_trichotomy j j' with h1 | h1 | h1
    · have := W.al_lt hr hj' h1 h h'; omega
    · exact h1
    · have := W.al_lt hr hj h1 h' h; omega
  subst e
  refine ⟨rfl, ?_⟩
  obtain ⟨h1, h2, hv⟩ := W.al hr hj h
  have hn : ∀ ao, (j, b, ao) ∉ (S j).pd := fun ao e => by have := (Walk.pd hr W j (by omega)).1 e; omega
  obtain ⟨_, _, h3⟩ := W.light hj hv
  unfold Al at h h'
  rcases h3 with ⟨h3, _⟩ | ⟨ao', h3, _⟩
  · rw [h3] at h; exact (hn _ h).elim
  · rw [h3, List.mem_cons] at h h'
    rcases h with h | h
    · rcases h' with h' | h'
      · have := h.trans h'.symm; injection this with _ this; injection this with _ this
      · exact (hn _ h').elim
    · exact (hn _ h).elim
theorem Walk.al_le (hr : RegF P ops pre) (W : Walk P call lim ops pre S V) {j : Nat} {b : Pos} {ao : AO} (hj : j < ops.size) (h : Al S j b ao) : (S 0).nx.nat ≤ b.nat ∧ b.nat < (S 0).nx.nat + newsL P ops.toList := by
  obtain ⟨h1, h2, _⟩ := W.al hr hj h
  have h3 := (W.nx_le (i := 0) j (by omega)).1
  have h4 := (W.nx_le (i := 0) (j + 1) (by omega)).2
  rw [Nat.zero_add] at h3 h4
  rw [h2, Pos.nat_succ] at h4
  simp only [List.drop_zero] at h4
  rw [h1]
  omega
/-- no heavy one between: the heap is as it was -/
theorem Walk.calm (W : Walk P call lim ops pre S V) {i : Nat} : ∀ k, i + k ≤ ops.size → (∀ h, i ≤ h → h < i + k → ¬ Hv ops S h) → (S (i + k)).n = (S i).n ∧ (S (i + k)).H = (S i).H
  | 0, _, _ => ⟨rfl, rfl⟩
  | k + 1, h1, h2 => by
    have h3 := W.calm k (by omega) (fun h a b => h2 h a (by omega))
    have h4 := W.light (i := i + k) (by omega) (h2 _ (by omega) (by omega))
    rw [show i + (k + 1) = i + k + 1 by omega]
    exact ⟨h4.1.trans h3.1, h4.2.1.trans h3.2⟩
/-- the slots as they stand at a moment -/
theorem stepD_put {j : Nat} {o : Oper} {s s' : DS} {v : AV} (h : StepD P call lim ops pre j o s v s') : PutR o.dst v s.a s'.a := by
  cases h <;> assumption
theorem Walk.slot (hr : RegF P ops pre) (W : Walk P call lim ops pre S V) {t : Nat} : ∀ i, i ≤ ops.size →
    (∀ j o, j < i → ops[j]? = some o → o.dst = some t → PT.get (pk t) (S i).a = some (V j)) ∧ ((∀ j o, j < i → ops[j]? = some o → o.dst ≠ some t) → PT.get (pk t) (S i).a = PT.get (pk t) (S 0).a)
  | 0, _ => ⟨fun j o h => by omega, fun _ => rfl⟩
  | i + 1, hi => by
    obtain ⟨ih1, ih2⟩ := Walk.slot hr W i (by omega)
    have ho : ops[i]? = some ops[i] := Array.getElem?_eq_getElem (by omega)
    have hp := stepD_put (W.step i _ ho)
    have hkeep : ops[i].dst ≠ some t → PT.get (pk t) (S (i + 1)).a = PT.get (pk t) (S i).a := by
      intro hne
      unfold PutR at hp
      split at hp
      · rw [hp]
      · rename_i d hd
        rw [hp.2, PT.get_set, if_neg (fun e => hne (by rw [hd, pk_inj e]))]
    refine ⟨fun j o hj hoj ht => ?_, fun hn => ?_⟩
    · by_cases e : j = i
      · subst e
        rw [ho] at hoj; injection hoj with hoj; subst hoj
        rw [ht] at hp
        simp only [PutR] at hp
        rw [hp.2, PT.get_set, if_pos rfl]
      · rw [hkeep (hr.dst hoj ho e ht)]
        exact ih1 j o (by omega) hoj ht
    · rw [hkeep (hn i _ (by omega) ho), ih2 (fun j o hj => hn j o (by omega))]
/-- where it is put, something was -/
theorem Walk.had (hr : RegF P ops pre) (W : Walk P call lim ops pre S V) {i : Nat} {o : Oper} {t : Nat} (ho : ops[i]? = some o) (ht : o.dst = some t) : ∃ v, PT.get (pk t) (S 0).a = some v := by
  have hi : i < ops.size := (Array.getElem?_eq_some_iff.1 ho).1
  have hp := stepD_put (W.step i _ ho)
  rw [ht] at hp
  simp only [PutR] at hp
  obtain ⟨⟨y, h1⟩, _⟩ := hp
  rw [(Walk.slot hr W i (by omega)).2 (fun j p hj hp => hr.dst ho hp (by omega) ht)] at h1
  exact ⟨y, h1⟩
end
end Go.Proofs.Ytlpnhikoipkjbaa.Abs
