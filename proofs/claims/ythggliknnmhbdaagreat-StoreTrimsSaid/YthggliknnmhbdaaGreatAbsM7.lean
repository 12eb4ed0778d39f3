/- Several texts in one: X Y Z Za. -/
import Derived.Test.YthggliknnmhbdaaGreatAbsM6
import Derived.Orders
/- An operation looks at its operands' slots alone. No conditions. -/
section
set_option linter.unusedVariables false
namespace Go.Proofs.YthggliknnmhbdaaGreat.Abs
open Go Go.RowKit
/-- two frames that agree on these operands -/
def Ag (a a' : PT AV) (xs : List Operand) : Prop := ∀ x ∈ xs, ev a x = ev a' x
section
variable {P : Program} {a a' : PT AV}
theorem evAll_ag : ∀ (l : List Operand), Ag a a' l → evAll a l = evAll a' l
  | [], _ => rfl
  | x :: l, h => by
    unfold evAll
    rw [h x (by simp), evAll_ag l (fun y hy => h y (by simp [hy]))]
theorem evParts_ag : ∀ (l : List (Nat × Operand)), Ag a a' (l.map (·.2)) → evParts a l = evParts a' l
  | [], _ => rfl
  | (i, x) :: l, h => by
    unfold evParts
    rw [h x (by simp), evParts_ag l (fun y hy => h y (by simp at hy ⊢; exact .inr hy))]
theorem boundOf_ag (x : Option Operand) (h : Ag a a' x.toList) : boundOf a x = boundOf a' x := by
  cases x with
  | none => rfl
  | some x => simp only [boundOf]; rw [h x (by simp)]
theorem pureOp_ag (op : Op) (h : Ag a a' op.operands.toList) : pureOp P a op = pureOp P a' op := by
  cases op with
  | call c =>
    simp only [pureOp]
    cases hc : c.callee with
    | builtin b =>
      simp only
      rw [evAll_ag c.args.toList (fun x hx => h x (by simp [Op.operands, Call.operands, hc] at hx ⊢; exact hx))]
    | _ => rfl
  | build t ps =>
    simp only [pureOp]
    rw [evParts_ag ps.toList (fun x hx => h x (by simp [Op.operands] at hx ⊢; exact hx))]
  | makeFunc fn first cap =>
    simp only [pureOp]
    rw [evAll_ag first.toList (fun x hx => h x (by simp [Op.operands] at hx ⊢; exact .inl hx)), evAll_ag cap.toList (fun x hx => h x (by simp [Op.operands] at hx ⊢; exact .inr hx))]
  | slice t x lo hi mx =>
    simp only [pureOp]
    rw [h x (by simp [Op.operands]), boundOf_ag lo (fun y hy => h y (by simp [Op.operands] at hy ⊢; simp [hy])), boundOf_ag hi (fun y hy => h y (by simp [Op.operands] at hy ⊢; simp [hy])), boundOf_ag mx (fun y hy => h y (by simp [Op.operands] at hy ⊢; simp [hy]))]
  | pick c x y => simp only [pureOp]; rw [h c (by simp [Op.operands]), h x (by simp [Op.operands]), h y (by simp [Op.operands])]
  | indexAddr t x i => simp only [pureOp]; rw [h x (by simp [Op.operands]), h i (by simp [Op.operands])]
  | index t x i => simp only [pureOp]; rw [h x (by simp [Op.operands]), h i (by simp [Op.operands])]
  | binOp op t x y yt => simp only [pureOp]; rw [h x (by simp [Op.operands]), h y (by simp [Op.operands])]
  | move x => simp only [pureOp]; rw [h x (by simp [Op.operands])]
  | assign x => simp only [pureOp]; rw [h x (by simp [Op.operands])]
  | nilCheck x => simp only [pureOp]; rw [h x (by simp [Op.operands])]
  | fieldAddr s x f => simp only [pureOp]; rw [h x (by simp [Op.operands])]
  | extract x i => simp only [pureOp]; rw [h x (by simp [Op.operands])]
  | unOp op t x => simp only [pureOp]; rw [h x (by simp [Op.operands])]
  | field t x f => simp only [pureOp]; rw [h x (by simp [Op.operands])]
  | convert s d x => simp only [pureOp]; rw [h x (by simp [Op.operands])]
  | makeInterface t x => simp only [pureOp]; rw [h x (by simp [Op.operands])]
  | _ => rfl
theorem allocK_ag {R : Type} (op : Op) (h : Ag a a' op.operands.toList) (b : Pos) (k : AO → AV → Option R) : allocK P a op b k = allocK P a' op b k := by
  cases op with
  | box t x => simp only [allocK]; rw [h x (by simp [Op.operands])]
  | buildSlice t len ps =>
    simp only [allocK]
    rw [evParts_ag ps.toList (fun x hx => h x (by simp [Op.operands] at hx ⊢; exact hx))]
  | makeSlice t l c => simp only [allocK]; rw [h l (by simp [Op.operands]), h c (by simp [Op.operands])]
  | convert s d x => simp only [allocK]; rw [h x (by simp [Op.operands])]
  | makeMap t r => cases r <;> rfl
  | _ => rfl
theorem rdOp_ag (op : Op) (h : Ag a a' op.operands.toList) (g : Hp) : rdOp P a op g = rdOp P a' op g := by
  have hp := pureOp_ag (P := P) op h
  cases op with
  | load t x => simp only [rdOp]; rw [h x (by simp [Op.operands])]
  | lookup t m x ok => simp only [rdOp]; rw [h m (by simp [Op.operands]), h x (by simp [Op.operands])]
  | convert s d x => simp only [rdOp]; rw [h x (by simp [Op.operands])]
  | call c =>
    simp only [rdOp]
    cases hc : c.callee with
    | builtin b =>
      simp only
      rw [evAll_ag c.args.toList (fun x hx => h x (by simp [Op.operands, Call.operands, hc] at hx ⊢; exact hx))]
    | _ => rfl
  | _ => exact hp
theorem opK_ag {call : CallT} {lim : Pos} (op : Op) (h : Ag a a' op.operands.toList) (n : Pos) (H : PT AO) (k : AV → Pos → PT AO → Res) : opK P call lim a op n H k = opK P call lim a' op n H k := by
  have hp := pureOp_ag (P := P) op h
  have ha := fun b k => allocK_ag (P := P) (R := List Out) op h b k
  cases op with
  | call c =>
    simp only [opK]
    cases hc : c.callee with
    | builtin b =>
      simp only
      rw [evAll_ag c.args.toList (fun x hx => h x (by simp [Op.operands, Call.operands, hc] at hx ⊢; exact hx))]
    | value f =>
      simp only
      rw [evAll_ag c.args.toList (fun x hx => h x (by simp [Op.operands, Call.operands, hc] at hx ⊢; simp [hx])), h f (by simp [Op.operands, Call.operands, hc])]
    | invoke r m => rfl
  | move x => simp only [opK]; rw [h x (by simp [Op.operands])]
  | assign x => simp only [opK]; rw [h x (by simp [Op.operands])]
  | load t x => simp only [opK]; rw [h x (by simp [Op.operands])]
  | store t x y => simp only [opK]; rw [h x (by simp [Op.operands]), h y (by simp [Op.operands])]
  | lookup t m x ok => simp only [opK]; rw [h m (by simp [Op.operands]), h x (by simp [Op.operands])]
  | mapUpdate t m x v => simp only [opK]; rw [h m (by simp [Op.operands]), h x (by simp [Op.operands]), h v (by simp [Op.operands])]
  | mapEntry t m x => simp only [opK]; rw [h m (by simp [Op.operands]), h x (by simp [Op.operands])]
  | entryStore t m s v => simp only [opK]; rw [h m (by simp [Op.operands]), h s (by simp [Op.operands]), h v (by simp [Op.operands])]
  | range t x => simp only [opK]; rw [h x (by simp [Op.operands])]
  | next x s => simp only [opK]; rw [h x (by simp [Op.operands])]
  | entry x => simp only [opK]; rw [h x (by simp [Op.operands])]
  | convert s d x =>
    simp only [opK]
    rw [h x (by simp [Op.operands]), ha]
  | alloc t => simp only [opK]; rw [ha]
  | box t x => simp only [opK]; rw [ha]
  | buildSlice t l ps => simp only [opK]; rw [ha]
  | makeMap t r => simp only [opK]; rw [ha]
  | makeSlice t l c => simp only [opK]; rw [ha]
  | _ => simp only [opK, hp]
/-- what a light operation reads, it reads whatever else there is -/
theorem rd_pure (op : Op) (h : readsMem op = false) (g g' : Hp) : rdOp P a op g = rdOp P a op g' := by
  cases op <;> first | rfl | (cases h; done)
end
section
variable {P : Program} {ρ : Ren} {n : Pos} {g : Hp} {w : World} {a : PT AV} {A : Act} {o : Oper} {v : AV}
theorem rdOp_run (hg : Good ρ n g w) (hs : Slots ρ a A) (h : rdOp P a o.op g = some v) : ∃ u, conc ρ v = some u ∧ (execOp A.eval o).run P w = .ok (.value u) w := by
  have hpure : ∀ {v}, pureOp P a o.op = some v → ∃ u, conc ρ v = some u ∧ (execOp A.eval o).run P w = .ok (.value u) w := fun h => let ⟨u, h1, h2⟩ := pureOp_run h hs; ⟨u, h1, h2 w⟩
  cases ho : o.op with
  | load t x =>
    rw [ho] at h
    simp only [rdOp] at h
    split at h
    · rename_i xv hx
      obtain ⟨u, h1, h2⟩ := ev_conc hs hx
      obtain ⟨y, h3, h4⟩ := run_loadA (P := P) hg h h1
      exact ⟨y, h3, by simp [execOp, ho, h2, h4]⟩
    · cases h
  | lookup t m x ok =>
    rw [ho] at h
    simp only [rdOp] at h
    split at h
    · rename_i mv xv hm hx
      obtain ⟨um, h1, h2⟩ := ev_conc hs hm
      obtain ⟨ux, h3, h4⟩ := ev_conc hs hx
      obtain ⟨y, h5, h6⟩ := run_lookupA (P := P) hg h h1 h3
      exact ⟨y, h5, by simp [execOp, ho, h2, h4, h6]⟩
    · cases h
  | convert s d x =>
    rw [ho] at h
    simp only [rdOp] at h
    split at h
    · rename_i xv hx
      obtain ⟨ux, h1, h2⟩ := ev_conc hs hx
      split at h
      · rename_i v' hv
        injection h with h; subst h
        obtain ⟨y, h3, h4⟩ := run_convA (P := P) hv h1
        exact ⟨y, h3, by simp [execOp, ho, h2, h4]⟩
      · obtain ⟨y, h3, h4⟩ := run_bytesA (P := P) hg h h1
        exact ⟨y, h3, by simp [execOp, ho, h2, h4]⟩
    · cases h
  | call c =>
    rw [ho] at h
    simp only [rdOp] at h
    split at h
    · rename_i b hcf
      split at h
      · rename_i xs hx
        have hxs := evAll_conc hs _ hx
        have fin : ∀ {y : Value}, (∀ cs, (builtin b c.argTypes o.type cs (c.args.toList.map A.eval).toArray).run P w = .ok (.value y) w) → (execOp A.eval o).run P w = .ok (.value y) w := by
          intro y hy
          rw [arr_map] at hy
          simp only [execOp, ho, resolve, hcf, Sem.run_bind, Sem.run_pure, Result.andThen_ok, invoke, hy]
        split at h
        · rename_i t m hts
          split at h
          · rename_i kt et es cl hu hm
            injection h with h; subst h
            obtain ⟨u, r, e0, h1, h2⟩ := concs_cons hxs
            cases h2
            obtain ⟨kk, d, x, es', g1, g2, g3⟩ := hg.ents hm
            obtain ⟨k', d', x', g1', rfl⟩ := conc_map h1
            rw [g1] at g1'; injection g1' with g1'; injection g1' with t1 t2
            subst t1
            have hsz : es'.size = es.length := by rw [← g3.len]; simp
            have hts' : c.argTypes = #[t] := by cases hq : c.argTypes; rw [hq] at hts; simp at hts; simp [hts]
            refine ⟨_, rfl, fin fun cs => ?_⟩
            rw [e0, hts']
            simp [builtin, Builtin.len_, run_underlying hu, run_getMap g2, goInt, hsz]
          · cases h
        · obtain ⟨y, h1, h2⟩ := run_pureCall (P := P) (ty := o.type) h hxs
          exact ⟨y, h1, fin fun cs => h2 cs w⟩
      · cases h
    · cases h
  | _ => exact hpure (by rw [ho] at h ⊢; exact h)
end
end Go.Proofs.YthggliknnmhbdaaGreat.Abs
end
/- Regions that draw their order: what the walk in the text's order leaves, every order leaves. No conditions. -/
section
set_option linter.unusedVariables false
namespace Go.Proofs.YthggliknnmhbdaaGreat.Abs
open Go Go.RowKit
structure DS where
  a : PT AV
  n : Pos
  H : PT AO
  pd : Pend
  nx : Pos
theorem joinK_eq {R : Type} (m : Nat) : ∀ (l : Pend) (H : PT AO) (k : PT AO → R), joinK m l H k = k (joinT m l H)
  | [], H, k => rfl
  | (j, b, o) :: l, H, k => by
    unfold joinK joinT
    split
    · rw [PT.setK_eq, joinK_eq m l]
    · rw [joinK_eq m l]
theorem joinT_mem (m : Nat) : ∀ (l : Pend) (H : PT AO) (b : Pos) (o : AO), PT.get b (joinT m l H) = some o → PT.get b H = some o ∨ ∃ j, (j, b, o) ∈ l ∧ Nat.testBit m j = true
  | [], H, b, o, h => .inl h
  | (j, b', o') :: l, H, b, o, h => by
    unfold joinT at h
    split at h
    · rename_i hj
      rcases joinT_mem m l _ b o h with h1 | ⟨j', h1, h2⟩
      · rw [PT.get_set] at h1
        split at h1
        · rename_i hb; subst hb; injection h1 with h1; subst h1; exact .inr ⟨j, by simp, hj⟩
        · exact .inl h1
      · exact .inr ⟨j', by simp [h1], h2⟩
    · rcases joinT_mem m l _ b o h with h1 | ⟨j', h1, h2⟩
      · exact .inl h1
      · exact .inr ⟨j', by simp [h1], h2⟩
theorem joinT_not (m : Nat) : ∀ (l : Pend) (H : PT AO) (b : Pos), (∀ j o, (j, b, o) ∈ l → Nat.testBit m j = false) → PT.get b (joinT m l H) = PT.get b H
  | [], H, b, _ => rfl
  | (j, b', o') :: l, H, b, h => by
    unfold joinT
    split
    · rename_i hj
      rw [joinT_not m l _ b (fun j o hm => h j o (by simp [hm])), PT.get_set]
      rw [if_neg (fun e => by subst e; have := h j o' (by simp); rw [this] at hj; cases hj)]
    · exact joinT_not m l _ b (fun j o hm => h j o (by simp [hm]))
noncomputable def addAllT : Pend → PT AO → PT AO
  | [], H => H
  | (_, b, o) :: l, H => addAllT l (PT.set o b H)
theorem addAllK_eq {R : Type} : ∀ (l : Pend) (H : PT AO) (k : PT AO → R), addAllK l H k = k (addAllT l H)
  | [], H, k => rfl
  | (j, b, o) :: l, H, k => by unfold addAllK addAllT; rw [PT.setK_eq, addAllK_eq l]
theorem addAllT_mem : ∀ (l : Pend) (H : PT AO) (b : Pos) (o : AO), PT.get b (addAllT l H) = some o → PT.get b H = some o ∨ ∃ j, (j, b, o) ∈ l
  | [], H, b, o, h => .inl h
  | (j, b', o') :: l, H, b, o, h => by
    unfold addAllT at h
    rcases addAllT_mem l _ b o h with h1 | ⟨j', h1⟩
    · rw [PT.get_set] at h1
      split at h1
      · rename_i hb; subst hb; injection h1 with h1; subst h1; exact .inr ⟨j, by simp⟩
      · exact .inl h1
    · exact .inr ⟨j', by simp [h1]⟩
theorem addAllT_not : ∀ (l : Pend) (H : PT AO) (b : Pos), (∀ j o, (j, b, o) ∉ l) → PT.get b (addAllT l H) = PT.get b H
  | [], H, b, _ => rfl
  | (j, b', o') :: l, H, b, h => by
    unfold addAllT
    rw [addAllT_not l _ b (fun j o hm => h j o (by simp [hm])), PT.get_set, if_neg (fun e => h j o' (by simp [e]))]
noncomputable def restr (T : List Tmp) (a : PT AV) : PT AV := T.foldr (fun t acc => match PT.get (pk t) a with | some v => PT.set v (pk t) acc | none => acc) .lf
theorem restr_get (a : PT AV) (s : Tmp) : ∀ (T : List Tmp), PT.get (pk s) (restr T a) = if s ∈ T then PT.get (pk s) a else none
  | [] => by simp [restr, PT.get_lf]
  | t :: T => by
    have ih := restr_get a s T
    have he : restr (t :: T) a = (match PT.get (pk t) a with | some v => PT.set v (pk t) (restr T a) | none => restr T a) := rfl
    rw [he]
    cases hg : PT.get (pk t) a with
    | none =>
      simp only
      rw [ih]
      by_cases hs : s = t
      · subst hs; simp [hg]
      · simp [hs]
    | some v =>
      simp only
      rw [PT.get_set, ih]
      by_cases hs : s = t
      · subst hs; simp [hg]
      · rw [if_neg (fun e => hs (pk_inj e))]
        simp [hs]
theorem restr_ag (ops : Array Oper) (o : Oper) (a : PT AV) : Ag (restr (tmpsOf ops o) a) a o.op.operands.toList := by
  intro x hx
  cases x with
  | tmp t =>
    simp only [ev]
    rw [restr_get, if_pos]
    unfold tmpsOf
    exact List.mem_append.2 (.inl (List.mem_filterMap.2 ⟨.tmp t, hx, rfl⟩))
  | _ => rfl
theorem restr_want (ops : Array Oper) (o : Oper) (a : PT AV) : wantA ops.toList (restr (tmpsOf ops o) a) o = wantA ops.toList a o := by
  unfold wantA
  split
  · rfl
  · rename_i j want hg
    split
    · rename_i oj hj
      split
      · rename_i t ht
        rw [restr_get, if_pos]
        unfold tmpsOf
        refine List.mem_append.2 (.inr ?_)
        have hj' : ops[j]? = some oj := by simpa using hj
        simp [hg, hj', ht]
      · rfl
    · rfl
theorem restr_slots {ρ : Ren} {A : Act} {T : List Tmp} {a : PT AV} (h : ∀ t v, t ∈ T → PT.get (pk t) a = some v → ∃ x, conc ρ v = some x ∧ A.tmps[t]? = some x) : Slots ρ (restr T a) A := by
  intro t v e
  rw [restr_get] at e
  split at e
  · rename_i ht; exact h t v ht e
  · cases e
def PutR (dst : Option Tmp) (v : AV) (a a' : PT AV) : Prop := match dst with | none => a' = a | some d => (∃ y, PT.get (pk d) a = some y) ∧ a' = PT.set v (pk d) a
theorem putA_rel {R : Type} {dst : Option Tmp} {v : AV} {a : PT AV} {k : PT AV → Option R} {r : R} (h : putA dst v a k = some r) : ∃ a', PutR dst v a a' ∧ k a' = some r := by
  unfold putA at h
  split at h
  · exact ⟨a, rfl, h⟩
  · obtain ⟨h1, h2⟩ := PT.updK_some _ _ _ _ _ h
    exact ⟨_, ⟨h1, rfl⟩, h2⟩
section
variable (P : Program) (call : CallT) (lim : Pos) (ops : Array Oper) (pre : List Nat)
inductive StepD (i : Nat) (o : Oper) (s : DS) : AV → DS → Prop
  | skip (a' : PT AV) (hw : wantA ops.toList s.a o = some false) (hp : PutR o.dst (.tup []) s.a a') : StepD i o s (.tup []) ⟨a', s.n, s.H, s.pd, s.nx⟩
  | heavy (v : AV) (n2 : Pos) (H2 : PT AO) (a' : PT AV) (hw : wantA ops.toList s.a o = some true) (hh : isHeavy o.op = true)
      (hop : opK P call lim s.a o.op s.n (joinT (pre.getD i 0) s.pd s.H) (fun v n H => some [(v, n, H)]) = some [(v, n2, H2)]) (hp : PutR o.dst v s.a a') : StepD i o s v ⟨a', n2, H2, restP (pre.getD i 0) s.pd, s.nx⟩
  | new (ao : AO) (v : AV) (a' : PT AV) (hw : wantA ops.toList s.a o = some true) (hh : isHeavy o.op = false) (hn : isNew P o.op = true)
      (hm : ∀ (ρ : Ren) (A : Act), Slots ρ (restr (tmpsOf ops o) s.a) A → ρ.at_ s.nx = none → Made P o ρ A s.nx ao v) (hp : PutR o.dst v s.a a') : StepD i o s v ⟨a', s.n, s.H, (i, s.nx, ao) :: s.pd, s.nx.succ⟩
  | read (v : AV) (a' : PT AV) (hw : wantA ops.toList s.a o = some true) (hh : isHeavy o.op = false) (hn : isNew P o.op = false)
      (hr : rdOp P s.a o.op (hp (joinT (pre.getD i 0) s.pd s.H)) = some v) (hp : PutR o.dst v s.a a') : StepD i o s v ⟨a', s.n, s.H, s.pd, s.nx⟩
inductive Chain : Nat → List Oper → DS → List (DS × AV) → DS → Prop
  | nil (i : Nat) (s : DS) : Chain i [] s [] s
  | cons (i : Nat) (o : Oper) (os : List Oper) (s s' t : DS) (v : AV) (ms : List (DS × AV)) (h : StepD P call lim ops pre i o s v s') (k : Chain (i + 1) os s' ms t) : Chain i (o :: os) s ((s, v) :: ms) t
end
def momOf (p : DS × AV) : Mom := ⟨p.1.a, p.1.H, p.1.pd, p.2⟩
section
variable {P : Program} {call : CallT} {lim : Pos} {ops : Array Oper} {pre : List Nat}
theorem trK_some : ∀ (os : List Oper) (i : Nat) {a : PT AV} {n : Pos} {H : PT AO} {pd : Pend} {nx : Pos} {acc : List Mom} {k : List Mom → PT AV → Pos → PT AO → Pend → Res} {r : List Out},
    trK P call lim ops.toList pre os i a n H pd nx acc k = some r → ∃ ms t, Chain P call lim ops pre i os ⟨a, n, H, pd, nx⟩ ms t ∧ k ((ms.map momOf).reverse ++ acc) t.a t.n t.H t.pd = some r
  | [], i, a, n, H, pd, nx, acc, k, r, h => ⟨[], _, .nil i _, h⟩
  | o :: os, i, a, n, H, pd, nx, acc, k, r, h => by
    unfold trK at h
    split at h
    · cases h
    · rename_i hw
      obtain ⟨a', hp, h⟩ := putA_rel h
      obtain ⟨ms, t, h1, h2⟩ := trK_some os (i + 1) h
      exact ⟨(_, _) :: ms, t, .cons i o os _ _ t _ ms (.skip a' hw hp) h1, by simpa [momOf] using h2⟩
    · rename_i hw
      split at h
      · rename_i hh
        rw [joinK_eq] at h
        split at h
        · rename_i v n2 H2 hop
          obtain ⟨a', hp, h⟩ := putA_rel h
          obtain ⟨ms, t, h1, h2⟩ := trK_some os (i + 1) h
          exact ⟨(_, _) :: ms, t, .cons i o os ⟨a, n, H, pd, nx⟩ _ t _ ms (.heavy v n2 H2 a' hw hh hop hp) h1, by simpa [momOf] using h2⟩
        · cases h
      · rename_i hh
        split at h
        · rename_i hn
          rw [← allocK_ag o.op (restr_ag ops o a)] at h
          obtain ⟨ao, v, h, hm⟩ := allocK_some h
          obtain ⟨a', hp, h⟩ := putA_rel h
          obtain ⟨ms, t, h1, h2⟩ := trK_some os (i + 1) h
          exact ⟨(_, _) :: ms, t, .cons i o os ⟨a, n, H, pd, nx⟩ _ t _ ms (.new ao v a' hw (by simpa using hh) hn hm hp) h1, by simpa [momOf] using h2⟩
        · rename_i hn
          rw [joinK_eq] at h
          split at h
          · rename_i v hr
            rw [forceV_eq] at h
            obtain ⟨a', hp, h⟩ := putA_rel h
            obtain ⟨ms, t, h1, h2⟩ := trK_some os (i + 1) h
            exact ⟨(_, _) :: ms, t, .cons i o os ⟨a, n, H, pd, nx⟩ _ t _ ms (.read v a' hw (by simpa using hh) (by simpa using hn) hr hp) h1, by simpa [momOf] using h2⟩
          · cases h
def stF (ms : List (DS × AV)) (t : DS) (j : Nat) : DS := match ms[j]? with | some p => p.1 | none => t
def vF (ms : List (DS × AV)) (j : Nat) : AV := match ms[j]? with | some p => p.2 | none => .tup []
theorem chain_at : ∀ {os : List Oper} {i : Nat} {s t : DS} {ms : List (DS × AV)}, Chain P call lim ops pre i os s ms t → ms.length = os.length ∧ stF ms t 0 = s ∧ ∀ j o, os[j]? = some o → StepD P call lim ops pre (i + j) o (stF ms t j) (vF ms j) (stF ms t (j + 1))
  | [], i, s, t, ms, h => by
    cases h
    exact ⟨rfl, rfl, fun j o e => by simp at e⟩
  | o :: os, i, s, t, ms, h => by
    cases h with
    | cons _ _ _ _ s' _ v ms' hst hch =>
      obtain ⟨h1, h2, h3⟩ := chain_at hch
      refine ⟨by simp [h1], rfl, fun j o' e => ?_⟩
      have hs0 : stF ((s, v) :: ms') t 1 = s' := by rw [← h2]; rfl
      cases j with
      | zero =>
        simp at e; subst e
        rw [hs0]
        exact hst
      | succ j =>
        have := h3 j o' (by simpa using e)
        rw [show i + 1 + j = i + (j + 1) by omega] at this
        exact this
end
end Go.Proofs.YthggliknnmhbdaaGreat.Abs
end
/- Regions that draw their order, second part: the region's text, and the walk's moments. No conditions. -/
section
set_option linter.unusedVariables false
namespace Go.Proofs.YthggliknnmhbdaaGreat.Abs
open Go Go.RowKit
def bt (pre : List Nat) (i j : Nat) : Prop := Nat.testBit (pre.getD i 0) j = true
structure RegF (P : Program) (ops : Array Oper) (pre : List Nat) : Prop where
  mixed : P.follows .mixedOrders = true
  edge : ∀ {i : Nat} {o : Oper} {e : Edge}, ops[i]? = some o → e ∈ o.after → Region.binds .any e = true → e.on < i
  dst : ∀ {i j : Nat} {o p : Oper} {t : Nat}, ops[i]? = some o → ops[j]? = some p → i ≠ j → o.dst = some t → p.dst ≠ some t
  hvy : ∀ {i j : Nat} {o p : Oper}, ops[i]? = some o → ops[j]? = some p → isHeavy o.op = true → isHeavy p.op = true → i < j → bt pre j i
  look : ∀ {i j : Nat} {o p : Oper} {t : Nat}, ops[i]? = some o → ops[j]? = some p → i ≠ j → t ∈ tmpsOf ops o → p.dst = some t → bt pre i j ∨ bt pre j i
  why : ∀ {i j : Nat} {o : Oper}, ops[i]? = some o → bt pre i j → ∃ e ∈ o.after, Region.binds .any e = true ∧ (e.on = j ∨ bt pre e.on j)
theorem mem_zip {ops : Array Oper} {i : Nat} {o : Oper} (h : ops[i]? = some o) : (o, i) ∈ ops.toList.zipIdx := by
  rw [List.mem_zipIdx_iff_getElem?]
  simpa using h
theorem edgeF_bit {pre : List Nat} {j : Nat} : ∀ {es : List Edge}, Nat.testBit (edgeF pre es) j = true → ∃ e ∈ es, Region.binds .any e = true ∧ (e.on = j ∨ bt pre e.on j)
  | [], h => by simp [edgeF] at h
  | e :: es, h => by
    have he : edgeF pre (e :: es) = (bif Region.binds .any e then Nat.lor (edgeF pre es) (Nat.lor (2 ^ e.on) (pre.getD e.on 0)) else edgeF pre es) := rfl
    rw [he] at h
    cases hb : Region.binds .any e with
    | false =>
      rw [hb] at h
      obtain ⟨e', h1, h2⟩ := edgeF_bit (es := es) h
      exact ⟨e', List.mem_cons_of_mem _ h1, h2⟩
    | true =>
      rw [hb] at h
      have h' : Nat.testBit (edgeF pre es ||| (2 ^ e.on ||| pre.getD e.on 0)) j = true := h
      rw [Nat.testBit_or, Nat.testBit_or, Bool.or_eq_true, Bool.or_eq_true] at h'
      rcases h' with h' | h' | h'
      · obtain ⟨e', h1, h2⟩ := edgeF_bit h'
        exact ⟨e', List.mem_cons_of_mem _ h1, h2⟩
      · rw [Nat.testBit_two_pow] at h'
        exact ⟨e, by simp, hb, .inl (by simpa using h')⟩
      · exact ⟨e, by simp, hb, .inr h'⟩
theorem dstNe_not {t : Nat} : dstNe t (some t) = false := by simp [dstNe]
theorem regF {P : Program} {ops : Array Oper} (h : regOk P ops = true) : RegF P ops (preL ops) := by
  simp only [regOk, forceNL_eq, Bool.and_eq_true] at h
  obtain ⟨h1, h⟩ := h
  have hall : ∀ {i : Nat} {o : Oper}, ops[i]? = some o → _ := fun {i o} ho => allF_at h (i := i) (x := o) (by simpa using ho)
  simp only [Bool.and_eq_true, Nat.zero_add] at hall
  refine ⟨h1, ?_, ?_, ?_, ?_, ?_⟩
  · intro i o e ho he hb
    obtain ⟨⟨⟨⟨h2, _⟩, _⟩, _⟩, _⟩ := hall ho
    obtain ⟨k, hk⟩ := List.getElem?_of_mem (l := o.after.toList) (by simpa using he)
    have := allF_at h2 hk
    simp only [hb, Bool.not_true, Bool.false_or] at this
    simpa [Nat.blt, Nat.succ_le_iff] using this
  · intro i j o p t ho hp hij ht
    obtain ⟨⟨⟨_, h3⟩, _⟩, _⟩ := hall ho
    rw [ht] at h3
    have := allF_at h3 (i := j) (x := p) (by simpa using hp)
    rw [Nat.zero_add, Bool.or_eq_true] at this
    rcases this with h4 | h4
    · intro e; rw [e, dstNe_not] at h4; cases h4
    · exact (hij (Nat.eq_of_beq_eq_true h4)).elim
  · intro i j o p ho hp hh hh' hij
    obtain ⟨⟨_, h4⟩, _⟩ := hall ho
    rw [hh, Bool.not_true, Bool.false_or] at h4
    have := allF_at h4 (i := j) (x := p) (by simpa using hp)
    have hb : Nat.blt i j = true := by simpa [Nat.blt, Nat.succ_le_iff] using hij
    rw [Nat.zero_add, hh', hb, Bool.not_true, Bool.false_or, Bool.false_or] at this
    exact this
  · intro i j o p t ho hp hij ht hd
    obtain ⟨_, h5⟩ := hall ho
    obtain ⟨k, hk⟩ := List.getElem?_of_mem ht
    have := allF_at (allF_at h5 hk) (i := j) (x := p) (by simpa using hp)
    rw [Nat.zero_add, hd, dstNe_not, Bool.false_or, Bool.or_eq_true, Bool.or_eq_true] at this
    rcases this with (h6 | h6) | h6
    · exact (hij (Nat.eq_of_beq_eq_true h6)).elim
    · exact .inl h6
    · exact .inr h6
  · intro i j o ho hb
    obtain ⟨⟨⟨⟨_, h2⟩, _⟩, _⟩, _⟩ := hall ho
    have h2 := Nat.eq_of_beq_eq_true h2
    unfold bt at hb
    rw [h2] at hb
    obtain ⟨e, h6, h7⟩ := edgeF_bit hb
    exact ⟨e, by simpa using h6, h7⟩
section
variable {P : Program} {ops : Array Oper} {pre : List Nat}
theorem RegF.lt (hr : RegF P ops pre) {j : Nat} : ∀ (i : Nat) {o : Oper}, ops[i]? = some o → bt pre i j → j < i := by
  intro i
  induction i using Nat.strongRecOn with
  | ind i ih =>
    intro o ho hb
    obtain ⟨e, he, hbe, h⟩ := hr.why ho hb
    have hlt := hr.edge ho he hbe
    rcases h with h | h
    · omega
    · have hi : i < ops.size := (Array.getElem?_eq_some_iff.1 ho).1
      have := ih e.on hlt (o := ops[e.on]'(by omega)) (Array.getElem?_eq_getElem (by omega)) h
      omega
/-- closed under the edges -/
def Shut (ops : Array Oper) (ld : Array Bool) : Prop := ∀ i o e, ops[i]? = some o → ld.getD i false = true → e ∈ o.after → Region.binds .any e = true → ld.getD e.on false = true
theorem RegF.shut (hr : RegF P ops pre) {ld : Array Bool} (hs : Shut ops ld) {j : Nat} : ∀ (i : Nat) {o : Oper}, ops[i]? = some o → ld.getD i false = true → bt pre i j → ld.getD j false = true := by
  intro i
  induction i using Nat.strongRecOn with
  | ind i ih =>
    intro o ho hl hb
    obtain ⟨e, he, hbe, h⟩ := hr.why ho hb
    have hlt := hr.edge ho he hbe
    have h1 := hs i o e ho hl he hbe
    rcases h with rfl | h
    · exact h1
    · have hi : i < ops.size := (Array.getElem?_eq_some_iff.1 ho).1
      exact ih e.on hlt (o := ops[e.on]'(by omega)) (Array.getElem?_eq_getElem (by omega)) h1 h
theorem RegF.ready (hr : RegF P ops pre) {ld : Array Bool} (hs : Shut ops ld) {i j : Nat} {o : Oper} (ho : ops[i]? = some o) (h : ∀ e ∈ o.after, Region.binds .any e = true → ld.getD e.on false = true) (hb : bt pre i j) : ld.getD j false = true := by
  obtain ⟨e, he, hbe, h1⟩ := hr.why ho hb
  have hlt := hr.edge ho he hbe
  have h2 := h e he hbe
  rcases h1 with rfl | h1
  · exact h2
  · have hi : i < ops.size := (Array.getElem?_eq_some_iff.1 ho).1
    exact hr.shut hs e.on (o := ops[e.on]'(by omega)) (Array.getElem?_eq_getElem (by omega)) h2 h1
end
theorem upN_nat : ∀ (m : Nat) (n : Pos), (upN m n).nat = n.nat + m
  | 0, n => rfl
  | m + 1, n => by unfold upN; rw [upN_nat m, Pos.nat_succ]; omega
section
variable {P : Program} {call : CallT} {lim : Pos} {ops : Array Oper} {pre : List Nat} {S : Nat → DS} {V : Nat → AV}
/-- it runs, and it is heavy -/
def Hv (ops : Array Oper) (S : Nat → DS) (h : Nat) : Prop := ∃ o, ops[h]? = some o ∧ isHeavy o.op = true ∧ wantA ops.toList (S h).a o = some true
def Al (S : Nat → DS) (j : Nat) (b : Pos) (ao : AO) : Prop := (j, b, ao) ∈ (S (j + 1)).pd
def Mg (ops : Array Oper) (pre : List Nat) (S : Nat → DS) (c j : Nat) : Prop := ∃ h, h < c ∧ Hv ops S h ∧ bt pre h j
structure Walk (P : Program) (call : CallT) (lim : Pos) (ops : Array Oper) (pre : List Nat) (S : Nat → DS) (V : Nat → AV) : Prop where
  step : ∀ j o, ops[j]? = some o → StepD P call lim ops pre j o (S j) (V j) (S (j + 1))
  pd0 : (S 0).pd = []
theorem Walk.heavy_of (W : Walk P call lim ops pre S V) {i : Nat} (h : Hv ops S i) : (S (i + 1)).pd = restP (pre.getD i 0) (S i).pd := by
  obtain ⟨o, h1, h2, h3⟩ := h
  have := W.step i o h1
  generalize S (i + 1) = s' at *
  generalize V i = v at *
  cases this with
  | skip _ hw => rw [h3] at hw; cases hw
  | heavy => rfl
  | new _ _ _ _ hh => rw [h2] at hh; cases hh
  | read _ _ _ hh => rw [h2] at hh; cases hh
theorem Walk.light (W : Walk P call lim ops pre S V) {i : Nat} (hi : i < ops.size) (h : ¬ Hv ops S i) : (S (i + 1)).n = (S i).n ∧ (S (i + 1)).H = (S i).H ∧ ((S (i + 1)).pd = (S i).pd ∧ (S (i + 1)).nx = (S i).nx ∨ ∃ ao, (S (i + 1)).pd = (i, (S i).nx, ao) :: (S i).pd ∧ (S (i + 1)).nx = (S i).nx.succ ∧ isNew P (ops[i]).op = true ∧ isHeavy (ops[i]).op = false) := by
  have ho : ops[i]? = some ops[i] := Array.getElem?_eq_getElem hi
  have := W.step i _ ho
  generalize hs' : S (i + 1) = s' at *
  generalize V i = v at *
  cases this with
  | skip => exact ⟨rfl, rfl, .inl ⟨rfl, rfl⟩⟩
  | heavy _ _ _ _ hw hh => exact (h ⟨_, ho, hh, hw⟩).elim
  | new ao _ _ _ hh hn => exact ⟨rfl, rfl, .inr ⟨ao, rfl, rfl, hn, hh⟩⟩
  | read => exact ⟨rfl, rfl, .inl ⟨rfl, rfl⟩⟩
theorem mem_restP {m : Nat} {l : Pend} {x : Nat × Pos × AO} : x ∈ restP m l ↔ x ∈ l ∧ Nat.testBit m x.1 = false := by
  unfold restP
  rw [List.mem_filter]
  simp
theorem Walk.pd (hr : RegF P ops pre) (W : Walk P call lim ops pre S V) {j : Nat} {b : Pos} {ao : AO} : ∀ i, i ≤ ops.size → ((j, b, ao) ∈ (S i).pd ↔ j < i ∧ Al S j b ao ∧ ¬ Mg ops pre S i j)
  | 0, _ => by rw [W.pd0]; simp
  | i + 1, hi => by
    have ih := Walk.pd hr W (j := j) (b := b) (ao := ao) i (by omega)
    by_cases hv : Hv ops S i
    · rw [W.heavy_of hv, mem_restP, ih]
      constructor
      · rintro ⟨⟨h1, h2, h3⟩, h4⟩
        refine ⟨by omega, h2, ?_⟩
        rintro ⟨h, h5, h6, h7⟩
        by_cases e : h = i
        · subst e; simp only [bt] at h7; rw [h4] at h7; cases h7
        · exact h3 ⟨h, by omega, h6, h7⟩
      · rintro ⟨h1, h2, h3⟩
        have hb : Nat.testBit (pre.getD i 0) j = false := by
          cases hh : Nat.testBit (pre.getD i 0) j with
          | false => rfl
          | true => exact (h3 ⟨i, by omega, hv, hh⟩).elim
        by_cases e : j = i
        · subst e
          unfold Al at h2
          rw [W.heavy_of hv, mem_restP, ih] at h2
          omega
        · exact ⟨⟨by omega, h2, fun ⟨h, h5, h6, h7⟩ => h3 ⟨h, by omega, h6, h7⟩⟩, hb⟩
    · have hM : Mg ops pre S (i + 1) j ↔ Mg ops pre S i j := by
        constructor
        · rintro ⟨h, h5, h6, h7⟩
          by_cases e : h = i
          · subst e; exact (hv h6).elim
          · exact ⟨h, by omega, h6, h7⟩
        · rintro ⟨h, h5, h6, h7⟩
          exact ⟨h, by omega, h6, h7⟩
      rw [hM]
      by_cases e : j = i
      · subst e
        constructor
        · intro h
          refine ⟨by omega, h, ?_⟩
          rintro ⟨h', h5, ⟨o', h6, _⟩, h7⟩
          have := hr.lt h' h6 h7
          omega
        · rintro ⟨_, h, _⟩; exact h
      · obtain ⟨_, _, h1⟩ := W.light (by omega) hv
        rcases h1 with ⟨h1, _⟩ | ⟨ao', h1, _⟩
        · rw [h1, ih]
          constructor
          · rintro ⟨h1, h2⟩; exact ⟨by omega, h2⟩
          · rintro ⟨h1, h2⟩; exact ⟨by omega, h2⟩
        · rw [h1, List.mem_cons, ih]
          constructor
          · rintro (h | ⟨h1, h2⟩)
            · injection h with h; exact (e h).elim
            · exact ⟨by omega, h2⟩
          · rintro ⟨h1, h2⟩; exact .inr ⟨by omega, h2⟩
/-- how many blocks it names from i on -/
def newsL (P : Program) (l : List Oper) : Nat := (l.filter fun o => isNew P o.op && !isHeavy o.op).length
theorem newsL_cons (o : Oper) (l : List Oper) : newsL P (o :: l) = newsL P l + (if isNew P o.op && !isHeavy o.op then 1 else 0) := by
  unfold newsL
  rw [List.filter_cons]
  split <;> simp
theorem drop_at {i : Nat} (hi : i < ops.size) : ops.toList.drop i = ops[i] :: ops.toList.drop (i + 1) := by
  rw [List.drop_eq_getElem_cons (by simpa using hi)]
  simp
theorem Walk.nx (W : Walk P call lim ops pre S V) {i : Nat} (hi : i < ops.size) : (S i).nx.nat ≤ (S (i + 1)).nx.nat ∧ (S (i + 1)).nx.nat + newsL P (ops.toList.drop (i + 1)) ≤ (S i).nx.nat + newsL P (ops.toList.drop i) := by
  rw [drop_at hi, newsL_cons]
  by_cases hv : Hv ops S i
  · have : (S (i + 1)).nx = (S i).nx := by
      obtain ⟨o, h1, h2, h3⟩ := hv
      have := W.step i o h1
      generalize S (i + 1) = s' at *
      generalize V i = v at *
      cases this with
      | skip _ hw => rfl
      | heavy => rfl
      | new _ _ _ _ hh => rw [h2] at hh; cases hh
      | read _ _ _ hh => rfl
    rw [this]; omega
  · obtain ⟨_, _, h1⟩ := W.light hi hv
    rcases h1 with ⟨_, h1⟩ | ⟨ao, _, h1, h2, h3⟩
    · rw [h1]; omega
    · rw [h1, h2, h3, Pos.nat_succ]; simp; omega
theorem Walk.nx_le (W : Walk P call lim ops pre S V) {i : Nat} : ∀ k, i + k ≤ ops.size → (S i).nx.nat ≤ (S (i + k)).nx.nat ∧ (S (i + k)).nx.nat + newsL P (ops.toList.drop (i + k)) ≤ (S i).nx.nat + newsL P (ops.toList.drop i)
  | 0, _ => ⟨Nat.le_refl _, Nat.le_refl _⟩
  | k + 1, h => by
    have h1 := W.nx_le (i := i) k (by omega)
    have h2 := W.nx (i := i + k) (by omega)
    rw [show i + (k + 1) = i + k + 1 by omega]
    omega
theorem Walk.al (hr : RegF P ops pre) (W : Walk P call lim ops pre S V) {j : Nat} {b : Pos} {ao : AO} (hj : j < ops.size) (h : Al S j b ao) : b = (S j).nx ∧ (S (j + 1)).nx = (S j).nx.succ ∧ ¬ Hv ops S j := by
  have hn : (j, b, ao) ∉ (S j).pd := fun e => by have := (Walk.pd hr W j (by omega)).1 e; omega
  unfold Al at h
  by_cases hv : Hv ops S j
  · rw [W.heavy_of hv, mem_restP] at h; exact (hn h.1).elim
  · obtain ⟨_, _, h1⟩ := W.light hj hv
    rcases h1 with ⟨h1, _⟩ | ⟨ao', h1, h2, _⟩
    · rw [h1] at h; exact (hn h).elim
    · rw [h1, List.mem_cons] at h
      rcases h with h | h
      · injection h with _ h; injection h with h; exact ⟨h, h2, hv⟩
      · exact (hn h).elim
theorem Walk.al_lt (hr : RegF P ops pre) (W : Walk P call lim ops pre S V) {j j' : Nat} {b b' : Pos} {ao ao' : AO} (hj' : j' < ops.size) (hjj : j < j') (h : Al S j b ao) (h' : Al S j' b' ao') : b.nat < b'.nat := by
  obtain ⟨h1, h2, _⟩ := W.al hr (by omega) h
  obtain ⟨h3, _⟩ := W.al hr hj' h'
  have := (W.nx_le (i := j + 1) (j' - (j + 1)) (by omega)).1
  rw [show j + 1 + (j' - (j + 1)) = j' by omega, h2, Pos.nat_succ] at this
  rw [h1, h3]; omega
theorem Walk.al_inj (hr : RegF P ops pre) (W : Walk P call lim ops pre S V) {j j' : Nat} {b : Pos} {ao ao' : AO} (hj : j < ops.size) (hj' : j' < ops.size) (h : Al S j b ao) (h' : Al S j' b ao') : j = j' ∧ ao = ao' := by
  have e : j = j' := by
    rcases Nat.lt_trichotomy j j' with h1 | h1 | h1
    · have := W.al_lt hr hj' h1 h h'; omega
    · exact h1
    · have := W.al_lt hr hj h1 h' h; omega
  subst e
  refine ⟨rfl, ?_⟩
  obtain ⟨h1, h2, hv⟩ := W.al hr hj h
  have hn : ∀ ao, (j, b, ao) ∉ (S j).pd := fun ao e => by have := (Walk.pd hr W j (by omega)).1 e; omega
  obtain ⟨_, _, h3⟩ := W.light hj hv
  unfold Al at h h'
  rcases h3 with ⟨h3, _⟩ | ⟨ao', h3, _⟩
  · rw [h3] at h; exact (hn _ h).elim
  · rw [h3, List.mem_cons] at h h'
    rcases h with h | h
    · rcases h' with h' | h'
      · have := h.trans h'.symm; injection this with _ this; injection this with _ this
      · exact (hn _ h').elim
    · exact (hn _ h).elim
theorem Walk.al_le (hr : RegF P ops pre) (W : Walk P call lim ops pre S V) {j : Nat} {b : Pos} {ao : AO} (hj : j < ops.size) (h : Al S j b ao) : (S 0).nx.nat ≤ b.nat ∧ b.nat < (S 0).nx.nat + newsL P ops.toList := by
  obtain ⟨h1, h2, _⟩ := W.al hr hj h
  have h3 := (W.nx_le (i := 0) j (by omega)).1
  have h4 := (W.nx_le (i := 0) (j + 1) (by omega)).2
  rw [Nat.zero_add] at h3 h4
  rw [h2, Pos.nat_succ] at h4
  simp only [List.drop_zero] at h4
  rw [h1]
  omega
/-- no heavy one between: the heap is as it was -/
theorem Walk.calm (W : Walk P call lim ops pre S V) {i : Nat} : ∀ k, i + k ≤ ops.size → (∀ h, i ≤ h → h < i + k → ¬ Hv ops S h) → (S (i + k)).n = (S i).n ∧ (S (i + k)).H = (S i).H
  | 0, _, _ => ⟨rfl, rfl⟩
  | k + 1, h1, h2 => by
    have h3 := W.calm k (by omega) (fun h a b => h2 h a (by omega))
    have h4 := W.light (i := i + k) (by omega) (h2 _ (by omega) (by omega))
    rw [show i + (k + 1) = i + k + 1 by omega]
    exact ⟨h4.1.trans h3.1, h4.2.1.trans h3.2⟩
/-- the slots as they stand at a moment -/
theorem stepD_put {j : Nat} {o : Oper} {s s' : DS} {v : AV} (h : StepD P call lim ops pre j o s v s') : PutR o.dst v s.a s'.a := by
  cases h <;> assumption
theorem Walk.slot (hr : RegF P ops pre) (W : Walk P call lim ops pre S V) {t : Nat} : ∀ i, i ≤ ops.size →
    (∀ j o, j < i → ops[j]? = some o → o.dst = some t → PT.get (pk t) (S i).a = some (V j)) ∧ ((∀ j o, j < i → ops[j]? = some o → o.dst ≠ some t) → PT.get (pk t) (S i).a = PT.get (pk t) (S 0).a)
  | 0, _ => ⟨fun j o h => by omega, fun _ => rfl⟩
  | i + 1, hi => by
    obtain ⟨ih1, ih2⟩ := Walk.slot hr W i (by omega)
    have ho : ops[i]? = some ops[i] := Array.getElem?_eq_getElem (by omega)
    have hp := stepD_put (W.step i _ ho)
    have hkeep : ops[i].dst ≠ some t → PT.get (pk t) (S (i + 1)).a = PT.get (pk t) (S i).a := by
      intro hne
      unfold PutR at hp
      split at hp
      · rw [hp]
      · rename_i d hd
        rw [hp.2, PT.get_set, if_neg (fun e => hne (by rw [hd, pk_inj e]))]
    refine ⟨fun j o hj hoj ht => ?_, fun hn => ?_⟩
    · by_cases e : j = i
      · subst e
        rw [ho] at hoj; injection hoj with hoj; subst hoj
        rw [ht] at hp
        simp only [PutR] at hp
        rw [hp.2, PT.get_set, if_pos rfl]
      · rw [hkeep (hr.dst hoj ho e ht)]
        exact ih1 j o (by omega) hoj ht
    · rw [hkeep (hn i _ (by omega) ho), ih2 (fun j o hj => hn j o (by omega))]
/-- where it is put, something was -/
theorem Walk.had (hr : RegF P ops pre) (W : Walk P call lim ops pre S V) {i : Nat} {o : Oper} {t : Nat} (ho : ops[i]? = some o) (ht : o.dst = some t) : ∃ v, PT.get (pk t) (S 0).a = some v := by
  have hi : i < ops.size := (Array.getElem?_eq_some_iff.1 ho).1
  have hp := stepD_put (W.step i _ ho)
  rw [ht] at hp
  simp only [PutR] at hp
  obtain ⟨⟨y, h1⟩, _⟩ := hp
  rw [(Walk.slot hr W i (by omega)).2 (fun j p hj hp => hr.dst ho hp (by omega) ht)] at h1
  exact ⟨y, h1⟩
end
end Go.Proofs.YthggliknnmhbdaaGreat.Abs
end
/- Regions that draw their order, third part: what stands at each moment of each order. No conditions. -/
section
set_option linter.unusedVariables false
namespace Go.Proofs.YthggliknnmhbdaaGreat.Abs
open Go Go.RowKit
/-- a new block's step, whatever numbers are reserved -/
theorem Fr.alloc_free {ρ : Ren} {n : Pos} {g : Hp} {w : World} {b : Pos} {n' : Pos} (hb : ρ.at_ b = none) (hbn : n.nat ≤ b.nat) (hn : n.nat ≤ n'.nat) (ao : AO) (o : Obj) (x : Nat) :
    Fr ρ n g w (ρ.put b (w.heap.size, 0, x)) n' (g.set b ao) (w.alloc o) := by
  have hl := Ren.le_put (w.heap.size, 0, x) hb
  refine ⟨hl, hn, fun q hq => ?_, rfl, rfl, rfl, by simp, fun k hk _ => Below.heap_alloc w o k hk, fun q a k d y e1 e2 => ?_, fun q a e => ?_⟩
  · show (if q = b then _ else ρ.at_ q) = _
    rw [if_neg (fun e => by subst e; omega)]
  · simp only [Hp.set] at e1
    split at e1
    · rename_i hq; subst hq
      rw [Ren.put_at] at e2
      injection e2 with e2; injection e2 with e2
      exact .inl (by omega)
    · rename_i hq
      have e2' : ρ.at_ q = some (k, d, y) := by
        have : (if q = b then some (w.heap.size, 0, x) else ρ.at_ q) = some (k, d, y) := e2
        rwa [if_neg hq] at this
      exact .inr ⟨q, a, d, y, e1, e2'⟩
  · simp only [Hp.set] at e
    split at e
    · rename_i hq; subst hq; exact .inr hbn
    · exact .inl ⟨a, e⟩
structure Inv (lim : Pos) (ops : Array Oper) (pre : List Nat) (S : Nat → DS) (V : Nat → AV) (ρ0 : Ren) (A0 : Act) (w0 : World) (ld : Array Bool) (ρ : Ren) (c : Nat) (G : Hp) (A : Act) (w : World) : Prop where
  cN : c ≤ ops.size
  hv : ∀ h, Hv ops S h → (ld.getD h false = true ↔ h < c)
  shut : Shut ops ld
  good : Good ρ (S c).n G w
  base : ∀ b o, PT.get b (S c).H = some o → G b = some o
  ext : ∀ j b ao, j < ops.size → ld.getD j false = true → Al S j b ao → ¬ Mg ops pre S c j → G b = some ao
  free : ∀ j b ao, j < ops.size → Al S j b ao → ld.getD j false = false → ρ.at_ b = none
  bare : ∀ j b ao, j < ops.size → Al S j b ao → ¬ Mg ops pre S c j → PT.get b (S c).H = none
  num : (S 0).n.nat ≤ (S c).n.nat
  fr : Fr ρ0 (S 0).nx (hp (S 0).H) w0 ρ (S 0).nx G w
  keep : ∀ q, q.nat < lim.nat → PT.get q (S c).H = PT.get q (S 0).H
  set : ∀ i o t, ops[i]? = some o → ld.getD i false = true → o.dst = some t → ∃ x, conc ρ (V i) = some x ∧ A.tmps[t]? = some x
  unset : ∀ t, (∀ i o, ops[i]? = some o → ld.getD i false = true → o.dst ≠ some t) → ∀ v, PT.get (pk t) (S 0).a = some v → ∃ x, conc ρ v = some x ∧ A.tmps[t]? = some x
  defers : A.defers = A0.defers
section
variable {P : Program} {call : CallT} {lim : Pos} {ops : Array Oper} {pre : List Nat} {S : Nat → DS} {V : Nat → AV} {ρ0 ρ : Ren} {A0 A : Act} {w0 w : World} {ld : Array Bool} {c : Nat} {G : Hp}
theorem Inv.join (hr : RegF P ops pre) (W : Walk P call lim ops pre S V) (I : Inv lim ops pre S V ρ0 A0 w0 ld ρ c G A w) {i : Nat} (hi : i < ops.size) (hH : (S i).H = (S c).H) (hM : ∀ j, Mg ops pre S c j → Mg ops pre S i j) (hl : ∀ j, bt pre i j → ld.getD j false = true) :
    Hp.le (hp (joinT (pre.getD i 0) (S i).pd (S i).H)) G := by
  intro b o e
  rcases joinT_mem _ _ _ b o e with h | ⟨j, h1, h2⟩
  · exact I.base b o (by rw [← hH]; exact h)
  · obtain ⟨h3, h4, h5⟩ := (Walk.pd hr W i (by omega)).1 h1
    exact I.ext j b o (by omega) (hl j h2) h4 (fun h => h5 (hM j h))
theorem Inv.slots (hr : RegF P ops pre) (W : Walk P call lim ops pre S V) (I : Inv lim ops pre S V ρ0 A0 w0 ld ρ c G A w) {i : Nat} {o : Oper} (ho : ops[i]? = some o) (hun : ld.getD i false = false) (hl : ∀ j, bt pre i j → ld.getD j false = true) :
    Slots ρ (restr (tmpsOf ops o) (S i).a) A := by
  have hi : i < ops.size := (Array.getElem?_eq_some_iff.1 ho).1
  refine restr_slots fun t v ht e => ?_
  obtain ⟨s1, s2⟩ := Walk.slot hr W (t := t) i (by omega)
  by_cases hx : ∃ (j : Nat) (p : Oper), ops[j]? = some p ∧ p.dst = some t
  · obtain ⟨j, p, hp, hd⟩ := hx
    by_cases hij : j = i
    · subst hij
      rw [s2 (fun k q hk hq => hr.dst hp hq (by omega) hd)] at e
      refine I.unset t (fun k q hq hlk => ?_) v e
      by_cases hk : k = j
      · subst hk; rw [hun] at hlk; cases hlk
      · exact hr.dst hp hq (Ne.symm hk) hd
    · rcases hr.look ho hp (Ne.symm hij) ht hd with h | h
      · have hji := hr.lt i ho h
        rw [s1 j p hji hp hd] at e
        injection e with e; subst e
        exact I.set j p t hp (hl j h) hd
      · have hij' := hr.lt j hp h
        rw [s2 (fun k q hk hq => hr.dst hp hq (by omega) hd)] at e
        refine I.unset t (fun k q hq hlk => ?_) v e
        by_cases hk : k = j
        · subst hk
          have := hr.shut I.shut k hp hlk h
          rw [hun] at this; cases this
        · exact hr.dst hp hq (Ne.symm hk) hd
  · have hno : ∀ (k : Nat) (q : Oper), ops[k]? = some q → q.dst ≠ some t := fun k q hq hd => hx ⟨k, q, hq, hd⟩
    rw [s2 (fun k q _ hq => hno k q hq)] at e
    exact I.unset t (fun k q hq _ => hno k q hq) v e
theorem Inv.next (hr : RegF P ops pre) (W : Walk P call lim ops pre S V) (I : Inv lim ops pre S V ρ0 A0 w0 ld ρ c G A w) (hsz : ld.size = ops.size) {i : Nat} {o : Oper} (ho : ops[i]? = some o) (hun : ld.getD i false = false)
    (hrd : ∀ e ∈ o.after, Region.binds .any e = true → ld.getD e.on false = true) {ρ' : Ren} {c' : Nat} {G' : Hp} {w' : World} {u : Value} (hu : conc ρ' (V i) = some u) (hle : ρ.le ρ') (cN : c' ≤ ops.size)
    (hv : ∀ h, Hv ops S h → ((ld.setIfInBounds i true).getD h false = true ↔ h < c')) (good : Good ρ' (S c').n G' w')
    (base : ∀ b o, PT.get b (S c').H = some o → G' b = some o)
    (ext : ∀ j b ao, j < ops.size → (j = i ∨ ld.getD j false = true) → Al S j b ao → ¬ Mg ops pre S c' j → G' b = some ao)
    (free : ∀ j b ao, j < ops.size → Al S j b ao → j ≠ i → ld.getD j false = false → ρ'.at_ b = none)
    (bare : ∀ j b ao, j < ops.size → Al S j b ao → ¬ Mg ops pre S c' j → PT.get b (S c').H = none)
    (num : (S 0).n.nat ≤ (S c').n.nat) (fr : Fr ρ (S 0).nx G w ρ' (S 0).nx G' w') (keep : ∀ q, q.nat < lim.nat → PT.get q (S c').H = PT.get q (S 0).H) :
    Inv lim ops pre S V ρ0 A0 w0 (ld.setIfInBounds i true) ρ' c' G' (A.put o.dst u) w' := by
  have hi : i < ops.size := (Array.getElem?_eq_some_iff.1 ho).1
  have hset : (ld.setIfInBounds i true).getD i false = true := by simp [hsz, hi]
  have hld : ∀ j, (ld.setIfInBounds i true).getD j false = true → j = i ∨ ld.getD j false = true := by
    intro j h
    by_cases e : j = i
    · exact .inl e
    · rw [getD_set_ne false (Ne.symm e)] at h; exact .inr h
  refine ⟨cN, hv, ?_, good, base, ?_, ?_, bare, num, I.fr.trans fr, keep, ?_, ?_, ?_⟩
  · intro j p e hp hl he hb
    rcases hld j hl with h | h
    · subst h
      rw [ho] at hp; injection hp with hp; subst hp
      exact getD_set_true (hrd e he hb)
    · exact getD_set_true (I.shut j p e hp h he hb)
  · intro j b ao hj hl ha hm
    exact ext j b ao hj (hld j hl) ha hm
  · intro j b ao hj ha hl
    have hne : j ≠ i := fun e => by subst e; rw [hset] at hl; cases hl
    rw [getD_set_ne false (Ne.symm hne)] at hl
    exact free j b ao hj ha hne hl
  · intro j p t hp hl hd
    by_cases e : j = i
    · subst e
      rw [ho] at hp; injection hp with hp; subst hp
      obtain ⟨v, hv0⟩ := Walk.had hr W ho hd
      obtain ⟨x, _, hx⟩ := I.unset t (fun k q hq hlk => by
        by_cases hk : k = j
        · subst hk; rw [hun] at hlk; cases hlk
        · exact hr.dst ho hq (Ne.symm hk) hd) v hv0
      have hlt : t < A.tmps.size := (Array.getElem?_eq_some_iff.1 hx).1
      exact ⟨u, hu, by simp [Act.put, hd, hlt]⟩
    · rcases hld j hl with h | h
      · exact (e h).elim
      · obtain ⟨x, h1, h2⟩ := I.set j p t hp h hd
        refine ⟨x, conc_le hle _ h1, ?_⟩
        cases hod : o.dst with
        | none => exact h2
        | some t' =>
          have : t' ≠ t := fun e' => hr.dst hp ho e hd (by rw [hod, e'])
          simp only [Act.put]
          rw [Array.getElem?_setIfInBounds_ne this]
          exact h2
  · intro t hn v hv0
    have hnt : o.dst ≠ some t := hn i o ho hset
    obtain ⟨x, h1, h2⟩ := I.unset t (fun k q hq hlk => hn k q hq (getD_set_true hlk)) v hv0
    refine ⟨x, conc_le hle _ h1, ?_⟩
    cases hod : o.dst with
    | none => exact h2
    | some t' =>
      have : t' ≠ t := fun e' => hnt (by rw [hod, e'])
      simp only [Act.put]
      rw [Array.getElem?_setIfInBounds_ne this]
      exact h2
  · rw [← I.defers]
    cases o.dst <;> rfl
/-- one that is not heavy leaves which heavy ones have run -/
theorem Inv.hv_light (I : Inv lim ops pre S V ρ0 A0 w0 ld ρ c G A w) {i : Nat} (hn : ¬ Hv ops S i) : ∀ h, Hv ops S h → ((ld.setIfInBounds i true).getD h false = true ↔ h < c) := by
  intro h hh
  have : h ≠ i := fun e => hn (e ▸ hh)
  rw [getD_set_ne false (Ne.symm this)]
  exact I.hv h hh
/-- one that leaves the world -/
theorem Inv.still (hr : RegF P ops pre) (W : Walk P call lim ops pre S V) (I : Inv lim ops pre S V ρ0 A0 w0 ld ρ c G A w) (hsz : ld.size = ops.size) {i : Nat} {o : Oper} (ho : ops[i]? = some o) (hun : ld.getD i false = false)
    (hrd : ∀ e ∈ o.after, Region.binds .any e = true → ld.getD e.on false = true) (hn : ¬ Hv ops S i) (hal : ∀ b ao, ¬ Al S i b ao) {u : Value} (hu : conc ρ (V i) = some u) :
    Inv lim ops pre S V ρ0 A0 w0 (ld.setIfInBounds i true) ρ c G (A.put o.dst u) w :=
  I.next hr W hsz ho hun hrd hu (.refl _) I.cN (I.hv_light hn) I.good I.base
    (fun j b ao hj hl ha hm => by rcases hl with rfl | hl; exact (hal _ _ ha).elim; exact I.ext j b ao hj hl ha hm)
    (fun j b ao hj ha _ hl => I.free j b ao hj ha hl) I.bare I.num (Fr.refl _ _ _ _ I.good.ids) I.keep
end
end Go.Proofs.YthggliknnmhbdaaGreat.Abs
end
