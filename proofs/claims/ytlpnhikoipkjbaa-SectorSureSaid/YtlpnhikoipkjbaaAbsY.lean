/- Regions that draw their order: what the walk in the text's order leaves, every order leaves. No conditions. -/
import Derived.Test.YtlpnhikoipkjbaaAbsX
import Derived.Orders
set_option linter.unusedVariables false
namespace Go.Proofs.Ytlpnhikoipkjbaa.Abs
open Go Go.RowKit
structure DS where
  a : PT AV
  n : Pos
  H : PT AO
  pd : Pend
  nx : Pos
theorem joinK_eq {R : Type} (m : Nat) : ∀ (l : Pend) (H : PT AO) (k : PT AO → R), joinK m l H k = k (joinT m l H)
  | [], H, k => rfl
  | (j, b, o) :: l, H, k => by
    unfold joinK joinT
    split
    · rw [PT.setK_eq, joinK_eq m l]
    · rw [joinK_eq m l]
theorem joinT_mem (m : Nat) : ∀ (l : Pend) (H : PT AO) (b : Pos) (o : AO), PT.get b (joinT m l H) = some o → PT.get b H = some o ∨ ∃ j, (j, b, o) ∈ l ∧ Nat.testBit m j = true
  | [], H, b, o, h => .inl h
  | (j, b', o') :: l, H, b, o, h => by
    unfold joinT at h
    split at h
    · rename_i hj
      rcases joinT_mem m l _ b o h with h1 | ⟨j', h1, h2⟩
      · rw [PT.get_set] at h1
        split at h1
        · rename_i hb; subst hb; injection h1 with h1; subst h1; exact .inr ⟨j, by simp, hj⟩
        · exact .inl h1
      · exact .inr ⟨j', by simp [h1], h2⟩
    · rcases joinT_mem m l _ b o h with h1 | ⟨j', h1, h2⟩
      · exact .inl h1
      · exact .inr ⟨j', by simp [h1], h2⟩
theorem joinT_not (m : Nat) : ∀ (l : Pend) (H : PT AO) (b : Pos), (∀ j o, (j, b, o) ∈ l → Nat.testBit m j = false) → PT.get b (joinT m l H) = PT.get b H
  | [], H, b, _ => rfl
  | (j, b', o') :: l, H, b, h => by
    unfold joinT
    split
    · rename_i hj
      rw [joinT_not m l _ b (fun j o hm => h j o (by simp [hm])), PT.get_set]
      rw [if_neg (fun e => by subst e; have := h j o' (by simp); rw [this] at hj; cases hj)]
    · exact joinT_not m l _ b (fun j o hm => h j o (by simp [hm]))
noncomputable def addAllT : Pend → PT AO → PT AO
  | [], H => H
  | (_, b, o) :: l, H => addAllT l (PT.set o b H)
theorem addAllK_eq {R : Type} : ∀ (l : Pend) (H : PT AO) (k : PT AO → R), addAllK l H k = k (addAllT l H)
  | [], H, k => rfl
  | (j, b, o) :: l, H, k => by unfold addAllK addAllT; rw [PT.setK_eq, addAllK_eq l]
theorem addAllT_mem : ∀ (l : Pend) (H : PT AO) (b : Pos) (o : AO), PT.get b (addAllT l H) = some o → PT.get b H = some o ∨ ∃ j, (j, b, o) ∈ l
  | [], H, b, o, h => .inl h
  | (j, b', o') :: l, H, b, o, h => by
    unfold addAllT at h
    rcases addAllT_mem l _ b o h with h1 | ⟨j', h1⟩
    · rw [PT.get_set] at h1
      split at h1
      · rename_i hb; subst hb; injection h1 with h1; subst h1; exact .inr ⟨j, by simp⟩
      · exact .inl h1
    · exact .inr ⟨j', by simp [h1]⟩
theorem addAllT_not : ∀ (l : Pend) (H : PT AO) (b : Pos), (∀ j o, (j, b, o) ∉ l) → PT.get b (addAllT l H) = PT.get b H
  | [], H, b, _ => rfl
  | (j, b', o') :: l, H, b, h => by
    unfold addAllT
    rw [addAllT_not l _ b (fun j o hm => h j o (by simp [hm])), PT.get_set, if_neg (fun e => h j o' (by simp [e]))]
noncomputable def restr (T : List Tmp) (a : PT AV) : PT AV := T.foldr (fun t acc => match PT.get (pk t) a with | some v => PT.set v (pk t) acc | none => acc) .lf
theorem restr_get (a : PT AV) (s : Tmp) : ∀ (T : List Tmp), PT.get (pk s) (restr T a) = if s ∈ T then PT.get (pk s) a else none
  | [] => by simp [restr, PT.get_lf]
  | t :: T => by
    have ih := restr_get a s T
    have he : restr (t :: T) a = (match PT.get (pk t) a with | some v => PT.set v (pk t) (restr T a) | none => restr T a) := rfl
    rw [he]
    cases hg : PT.get (pk t) a with
    | none =>
      simp only
      rw [ih]
      by_cases hs : s = t
      · subst hs; simp [hg]
      · simp [hs]
    | some v =>
      simp only
      rw [PT.get_set, ih]
      by_cases hs : s = t
      · subst hs; simp [hg]
      · rw [if_neg (fun e => hs (pk_inj e))]
        simp [hs]
theorem restr_ag (ops : Array Oper) (o : Oper) (a : PT AV) : Ag (restr (tmpsOf ops o) a) a o.op.operands.toList := by
  intro x hx
  cases x with
  | tmp t =>
    simp only [ev]
    rw [restr_get, if_pos]
    unfold tmpsOf
    exact List.mem_append.2 (.inl (List.mem_filterMap.2 ⟨.tmp t, hx, rfl⟩))
  | _ => rfl
theorem restr_want (ops : Array Oper) (o : Oper) (a : PT AV) : wantA ops.toList (restr (tmpsOf ops o) a) o = wantA ops.toList a o := by
  unfold wantA
  split
  · rfl
  · rename_i j want hg
    split
    · rename_i oj hj
      split
      · rename_i t ht
        rw [restr_get, if_pos]
        unfold tmpsOf
        refine List.mem_append.2 (.inr ?_)
        have hj' : ops[j]? = some oj := by simpa using hj
        simp [hg, hj', ht]
      · rfl
    · rfl
theorem restr_slots {ρ : Ren} {A : Act} {T : List Tmp} {a : PT AV} (h : ∀ t v, t ∈ T → PT.get (pk t) a = some v → ∃ x, conc ρ v = some x ∧ A.tmps[t]? = some x) : Slots ρ (restr T a) A := by
  intro t v e
  rw [restr_get] at e
  split at e
  · rename_i ht; exact h t v ht e
  · cases e
def PutR (dst : Option Tmp) (v : AV) (a a' : PT AV) : Prop := match dst with | none => a' = a | some d => (∃ y, PT.get (pk d) a = some y) ∧ a' = PT.set v (pk d) a
theorem putA_rel {R : Type} {dst : Option Tmp} {v : AV} {a : PT AV} {k : PT AV → Option R} {r : R} (h : putA dst v a k = some r) : ∃ a', PutR dst v a a' ∧ k a' = some r := by
  unfold putA at h
  split at h
  · exact ⟨a, rfl, h⟩
  · obtain ⟨h1, h2⟩ := PT.updK_some _ _ _ _ _ h
    exact ⟨_, ⟨h1, rfl⟩, h2⟩
section
variable (P : Program) (call : CallT) (lim : Pos) (ops : Array Oper) (pre : List Nat)
inductive StepD (i : Nat) (o : Oper) (s : DS) : AV → DS → Prop
  | skip (a' : PT AV) (hw : wantA ops.toList s.a o = some false) (hp : PutR o.dst (.tup []) s.a a') : StepD i o s (.tup []) ⟨a', s.n, s.H, s.pd, s.nx⟩
  | heavy (v : AV) (n2 : Pos) (H2 : PT AO) (a' : PT AV) (hw : wantA ops.toList s.a o = some true) (hh : isHeavy o.op = true)
      (hop : opK P call lim s.a o.op s.n (joinT (pre.getD i 0) s.pd s.H) (fun v n H => some [(v, n, H)]) = some [(v, n2, H2)]) (hp : PutR o.dst v s.a a') : StepD i o s v ⟨a', n2, H2, restP (pre.getD i 0) s.pd, s.nx⟩
  | new (ao : AO) (v : AV) (a' : PT AV) (hw : wantA ops.toList s.a o = some true) (hh : isHeavy o.op = false) (hn : isNew P o.op = true)
      (hm : ∀ (ρ : Ren) (A : Act), Slots ρ (restr (tmpsOf ops o) s.a) A → ρ.at_ s.nx = none → Made P o ρ A s.nx ao v) (hp : PutR o.dst v s.a a') : StepD i o s v ⟨a', s.n, s.H, (i, s.nx, ao) :: s.pd, s.nx.succ⟩
  | read (v : AV) (a' : PT AV) (hw : wantA ops.toList s.a o = some true) (hh : isHeavy o.op = false) (hn : isNew P o.op = false)
      (hr : rdOp P s.a o.op (hp (joinT (pre.getD i 0) s.pd s.H)) = some v) (hp : PutR o.dst v s.a a') : StepD i o s v ⟨a', s.n, s.H, s.pd, s.nx⟩
inductive Chain : Nat → List Oper → DS → List (DS × AV) → DS → Prop
  | nil (i : Nat) (s : DS) : Chain i [] s [] s
  | cons (i : Nat) (o : Oper) (os : List Oper) (s s' t : DS) (v : AV) (ms : List (DS × AV)) (h : StepD P call lim ops pre i o s v s') (k : Chain (i + 1) os s' ms t) : Chain i (o :: os) s ((s, v) :: ms) t
end
def momOf (p : DS × AV) : Mom := ⟨p.1.a, p.1.H, p.1.pd, p.2⟩
section
variable {P : Program} {call : CallT} {lim : Pos} {ops : Array Oper} {pre : List Nat}
theorem trK_some : ∀ (os : List Oper) (i : Nat) {a : PT AV} {n : Pos} {H : PT AO} {pd : Pend} {nx : Pos} {acc : List Mom} {k : List Mom → PT AV → Pos → PT AO → Pend → Res} {r : List Out},
    trK P call lim ops.toList pre os i a n H pd nx acc k = some r → ∃ ms t, Chain P call lim ops pre i os ⟨a, n, H, pd, nx⟩ ms t ∧ k ((ms.map momOf).reverse ++ acc) t.a t.n t.H t.pd = some r
  | [], i, a, n, H, pd, nx, acc, k, r, h => ⟨[], _, .nil i _, h⟩
  | o :: os, i, a, n, H, pd, nx, acc, k, r, h => by
    unfold trK at h
    split at h
    · cases h
    · rename_i hw
      obtain ⟨a', hp, h⟩ := putA_rel h
      obtain ⟨ms, t, h1, h2⟩ := trK_some os (i + 1) h
      exact ⟨(_, _) :: ms, t, .cons i o os _ _ t _ ms (.skip a' hw hp) h1, by simpa [momOf] using h2⟩
    · rename_i hw
      split at h
      · rename_i hh
        rw [joinK_eq] at h
        split at h
        · rename_i v n2 H2 hop
          obtain ⟨a', hp, h⟩ := putA_rel h
          obtain ⟨ms, t, h1, h2⟩ := trK_some os (i + 1) h
          exact ⟨(_, _) :: ms, t, .cons i o os ⟨a, n, H, pd, nx⟩ _ t _ ms (.heavy v n2 H2 a' hw hh hop hp) h1, by simpa [momOf] using h2⟩
        · cases h
      · rename_i hh
        split at h
        · rename_i hn
          rw [← allocK_ag o.op (restr_ag ops o a)] at h
          obtain ⟨ao, v, h, hm⟩ := allocK_some h
          obtain ⟨a', hp, h⟩ := putA_rel h
          obtain ⟨ms, t, h1, h2⟩ := trK_some os (i + 1) h
          exact ⟨(_, _) :: ms, t, .cons i o os ⟨a, n, H, pd, nx⟩ _ t _ ms (.new ao v a' hw (by simpa using hh) hn hm hp) h1, by simpa [momOf] using h2⟩
        · rename_i hn
          rw [joinK_eq] at h
          split at h
          · rename_i v hr
            rw [forceV_eq] at h
            obtain ⟨a', hp, h⟩ := putA_rel h
            obtain ⟨ms, t, h1, h2⟩ := trK_some os (i + 1) h
            exact ⟨(_, _) :: ms, t, .cons i o os ⟨a, n, H, pd, nx⟩ _ t _ ms (.read v a' hw (by simpa using hh) (by simpa using hn) hr hp) h1, by simpa [momOf] using h2⟩
          · cases h
def stF (ms : List (DS × AV)) (t : DS) (j : Nat) : DS := match ms[j]? with | some p => p.1 | none => t
def vF (ms : List (DS × AV)) (j : Nat) : AV := match ms[j]? with | some p => p.2 | none => .tup []
theorem chain_at : ∀ {os : List Oper} {i : Nat} {s t : DS} {ms : List (DS × AV)}, Chain P call lim ops pre i os s ms t → ms.length = os.length ∧ stF ms t 0 = s ∧ ∀ j o, os[j]? = some o → StepD P call lim ops pre (i + j) o (stF ms t j) (vF ms j) (stF ms t (j + 1))
  | [], i, s, t, ms, h => by
    cases h
    exact ⟨rfl, rfl, fun j o e => by simp at e⟩
  | o :: os, i, s, t, ms, h => by
    cases h with
    | cons _ _ _ _ s' _ v ms' hst hch =>
      obtain ⟨h1, h2, h3⟩ := chain_at hch
      refine ⟨by simp [h1], rfl, fun j o' e => ?_⟩
      have hs0 : stF ((s, v) :: ms') t 1 = s' := by rw [← h2]; rfl
      cases j with
      | zero =>
        simp at e; subst e
        rw [hs0]
        exact hst
      | succ j =>
        have := h3 j o' (by simpa using e)
        rw [show i + 1 + j = i + (j + 1) by omega] at this
        exact this
end
end Go.Proofs.Ytlpnhikoipkjbaa.Abs
