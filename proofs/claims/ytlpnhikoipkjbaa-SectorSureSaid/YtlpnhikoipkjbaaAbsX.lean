/- An operation looks at its operands' slots alone. No conditions. -/
import Derived.Test.YtlpnhikoipkjbaaAbsW
set_option linter.unusedVariables false
namespace Go.Proofs.Ytlpnhikoipkjbaa.Abs
open Go Go.RowKit
/-- two frames that agree on these operands -/
def Ag (a a' : PT AV) (xs : List Operand) : Prop := ∀ x ∈ xs, ev a x = ev a' x
section
variable {P : Program} {a a' : PT AV}
theorem evAll_ag : ∀ (l : List Operand), Ag a a' l → evAll a l = evAll a' l
  | [], _ => rfl
  | x :: l, h => by
    unfold evAll
    rw [h x (by simp), evAll_ag l (fun y hy => h y (by simp [hy]))]
theorem evParts_ag : ∀ (l : List (Nat × Operand)), Ag a a' (l.map (·.2)) → evParts a l = evParts a' l
  | [], _ => rfl
  | (i, x) :: l, h => by
    unfold evParts
    rw [h x (by simp), evParts_ag l (fun y hy => h y (by simp at hy ⊢; exact .inr hy))]
theorem boundOf_ag (x : Option Operand) (h : Ag a a' x.toList) : boundOf a x = boundOf a' x := by
  cases x with
  | none => rfl
  | some x => simp only [boundOf]; rw [h x (by simp)]
theorem pureOp_ag (op : Op) (h : Ag a a' op.operands.toList) : pureOp P a op = pureOp P a' op := by
  cases op with
  | call c =>
    simp only [pureOp]
    cases hc : c.callee with
    | builtin b =>
      simp only
      rw [evAll_ag c.args.toList (fun x hx => h x (by simp [Op.operands, Call.operands, hc] at hx ⊢; exact hx))]
    | _ => rfl
  | build t ps =>
    simp only [pureOp]
    rw [evParts_ag ps.toList (fun x hx => h x (by simp [Op.operands] at hx ⊢; exact hx))]
  | makeFunc fn first cap =>
    simp only [pureOp]
    rw [evAll_ag first.toList (fun x hx => h x (by simp [Op.operands] at hx ⊢; exact .inl hx)), evAll_ag cap.toList (fun x hx => h x (by simp [Op.operands] at hx ⊢; exact .inr hx))]
  | slice t x lo hi mx =>
    simp only [pureOp]
    rw [h x (by simp [Op.operands]), boundOf_ag lo (fun y hy => h y (by simp [Op.operands] at hy ⊢; simp [hy])), boundOf_ag hi (fun y hy => h y (by simp [Op.operands] at hy ⊢; simp [hy])), boundOf_ag mx (fun y hy => h y (by simp [Op.operands] at hy ⊢; simp [hy]))]
  | pick c x y => simp only [pureOp]; rw [h c (by simp [Op.operands]), h x (by simp [Op.operands]), h y (by simp [Op.operands])]
  | indexAddr t x i => simp only [pureOp]; rw [h x (by simp [Op.operands]), h i (by simp [Op.operands])]
  | index t x i => simp only [pureOp]; rw [h x (by simp [Op.operands]), h i (by simp [Op.operands])]
  | binOp op t x y yt => simp only [pureOp]; rw [h x (by simp [Op.operands]), h y (by simp [Op.operands])]
  | move x => simp only [pureOp]; rw [h x (by simp [Op.operands])]
  | assign x => simp only [pureOp]; rw [h x (by simp [Op.operands])]
  | nilCheck x => simp only [pureOp]; rw [h x (by simp [Op.operands])]
  | fieldAddr s x f => simp only [pureOp]; rw [h x (by simp [Op.operands])]
  | extract x i => simp only [pureOp]; rw [h x (by simp [Op.operands])]
  | unOp op t x => simp only [pureOp]; rw [h x (by simp [Op.operands])]
  | field t x f => simp only [pureOp]; rw [h x (by simp [Op.operands])]
  | convert s d x => simp only [pureOp]; rw [h x (by simp [Op.operands])]
  | makeInterface t x => simp only [pureOp]; rw [h x (by simp [Op.operands])]
  | _ => rfl
theorem allocK_ag {R : Type} (op : Op) (h : Ag a a' op.operands.toList) (b : Pos) (k : AO → AV → Option R) : allocK P a op b k = allocK P a' op b k := by
  cases op with
  | box t x => simp only [allocK]; rw [h x (by simp [Op.operands])]
  | buildSlice t len ps =>
    simp only [allocK]
    rw [evParts_ag ps.toList (fun x hx => h x (by simp [Op.operands] at hx ⊢; exact hx))]
  | makeSlice t l c => simp only [allocK]; rw [h l (by simp [Op.operands]), h c (by simp [Op.operands])]
  | convert s d x => simp only [allocK]; rw [h x (by simp [Op.operands])]
  | makeMap t r => cases r <;> rfl
  | _ => rfl
theorem rdOp_ag (op : Op) (h : Ag a a' op.operands.toList) (g : Hp) : rdOp P a op g = rdOp P a' op g := by
  have hp := pureOp_ag (P := P) op h
  cases op with
  | load t x => simp only [rdOp]; rw [h x (by simp [Op.operands])]
  | lookup t m x ok => simp only [rdOp]; rw [h m (by simp [Op.operands]), h x (by simp [Op.operands])]
  | convert s d x => simp only [rdOp]; rw [h x (by simp [Op.operands])]
  | call c =>
    simp only [rdOp]
    cases hc : c.callee with
    | builtin b =>
      simp only
      rw [evAll_ag c.args.toList (fun x hx => h x (by simp [Op.operands, Call.operands, hc] at hx ⊢; exact hx))]
    | _ => rfl
  | _ => exact hp
theorem opK_ag {call : CallT} {lim : Pos} (op : Op) (h : Ag a a' op.operands.toList) (n : Pos) (H : PT AO) (k : AV → Pos → PT AO → Res) : opK P call lim a op n H k = opK P call lim a' op n H k := by
  have hp := pureOp_ag (P := P) op h
  have ha := fun b k => allocK_ag (P := P) (R := List Out) op h b k
  cases op with
  | call c =>
    simp only [opK]
    cases hc : c.callee with
    | builtin b =>
      simp only
      rw [evAll_ag c.args.toList (fun x hx => h x (by simp [Op.operands, Call.operands, hc] at hx ⊢; exact hx))]
    | value f =>
      simp only
      rw [evAll_ag c.args.toList (fun x hx => h x (by simp [Op.operands, Call.operands, hc] at hx ⊢; simp [hx])), h f (by simp [Op.operands, Call.operands, hc])]
    | invoke r m => rfl
  | move x => simp only [opK]; rw [h x (by simp [Op.operands])]
  | assign x => simp only [opK]; rw [h x (by simp [Op.operands])]
  | load t x => simp only [opK]; rw [h x (by simp [Op.operands])]
  | store t x y => simp only [opK]; rw [h x (by simp [Op.operands]), h y (by simp [Op.operands])]
  | lookup t m x ok => simp only [opK]; rw [h m (by simp [Op.operands]), h x (by simp [Op.operands])]
  | mapUpdate t m x v => simp only [opK]; rw [h m (by simp [Op.operands]), h x (by simp [Op.operands]), h v (by simp [Op.operands])]
  | mapEntry t m x => simp only [opK]; rw [h m (by simp [Op.operands]), h x (by simp [Op.operands])]
  | entryStore t m s v => simp only [opK]; rw [h m (by simp [Op.operands]), h s (by simp [Op.operands]), h v (by simp [Op.operands])]
  | range t x => simp only [opK]; rw [h x (by simp [Op.operands])]
  | next x s => simp only [opK]; rw [h x (by simp [Op.operands])]
  | entry x => simp only [opK]; rw [h x (by simp [Op.operands])]
  | convert s d x =>
    simp only [opK]
    rw [h x (by simp [Op.operands]), ha]
  | alloc t => simp only [opK]; rw [ha]
  | box t x => simp only [opK]; rw [ha]
  | buildSlice t l ps => simp only [opK]; rw [ha]
  | makeMap t r => simp only [opK]; rw [ha]
  | makeSlice t l c => simp only [opK]; rw [ha]
  | _ => simp only [opK, hp]
/-- what a light operation reads, it reads whatever else there is -/
theorem rd_pure (op : Op) (h : readsMem op = false) (g g' : Hp) : rdOp P a op g = rdOp P a op g' := by
  cases op <;> first | rfl | (cases h; done)
end
section
variable {P : Program} {ρ : Ren} {n : Pos} {g : Hp} {w : World} {a : PT AV} {A : Act} {o : Oper} {v : AV}
theorem rdOp_run (hg : Good ρ n g w) (hs : Slots ρ a A) (h : rdOp P a o.op g = some v) : ∃ u, conc ρ v = some u ∧ (execOp A.eval o).run P w = .ok (.value u) w := by
  have hpure : ∀ {v}, pureOp P a o.op = some v → ∃ u, conc ρ v = some u ∧ (execOp A.eval o).run P w = .ok (.value u) w := fun h => let ⟨u, h1, h2⟩ := pureOp_run h hs; ⟨u, h1, h2 w⟩
  cases ho : o.op with
  | load t x =>
    rw [ho] at h
    simp only [rdOp] at h
    split at h
    · rename_i xv hx
      obtain ⟨u, h1, h2⟩ := ev_conc hs hx
      obtain ⟨y, h3, h4⟩ := run_loadA (P := P) hg h h1
      exact ⟨y, h3, by simp [execOp, ho, h2, h4]⟩
    · cases h
  | lookup t m x ok =>
    rw [ho] at h
    simp only [rdOp] at h
    split at h
    · rename_i mv xv hm hx
      obtain ⟨um, h1, h2⟩ := ev_conc hs hm
      obtain ⟨ux, h3, h4⟩ := ev_conc hs hx
      obtain ⟨y, h5, h6⟩ := run_lookupA (P := P) hg h h1 h3
      exact ⟨y, h5, by simp [execOp, ho, h2, h4, h6]⟩
    · cases h
  | convert s d x =>
    rw [ho] at h
    simp only [rdOp] at h
    split at h
    · rename_i xv hx
      obtain ⟨ux, h1, h2⟩ := ev_conc hs hx
      split at h
      · rename_i v' hv
        injection h with h; subst h
        obtain ⟨y, h3, h4⟩ := run_convA (P := P) hv h1
        exact ⟨y, h3, by simp [execOp, ho, h2, h4]⟩
      · obtain ⟨y, h3, h4⟩ := run_bytesA (P := P) hg h h1
        exact ⟨y, h3, by simp [execOp, ho, h2, h4]⟩
    · cases h
  | call c =>
    rw [ho] at h
    simp only [rdOp] at h
    split at h
    · rename_i b hcf
      split at h
      · rename_i xs hx
        have hxs := evAll_conc hs _ hx
        have fin : ∀ {y : Value}, (∀ cs, (builtin b c.argTypes o.type cs (c.args.toList.map A.eval).toArray).run P w = .ok (.value y) w) → (execOp A.eval o).run P w = .ok (.value y) w := by
          intro y hy
          rw [arr_map] at hy
          simp only [execOp, ho, resolve, hcf, Sem.run_bind, Sem.run_pure, Result.andThen_ok, invoke, hy]
        split at h
        · rename_i t m hts
          split at h
          · rename_i kt et es cl hu hm
            injection h with h; subst h
            obtain ⟨u, r, e0, h1, h2⟩ := concs_cons hxs
            cases h2
            obtain ⟨kk, d, x, es', g1, g2, g3⟩ := hg.ents hm
            obtain ⟨k', d', x', g1', rfl⟩ := conc_map h1
            rw [g1] at g1'; injection g1' with g1'; injection g1' with t1 t2
            subst t1
            have hsz : es'.size = es.length := by rw [← g3.len]; simp
            have hts' : c.argTypes = #[t] := by cases hq : c.argTypes; rw [hq] at hts; simp at hts; simp [hts]
            refine ⟨_, rfl, fin fun cs => ?_⟩
            rw [e0, hts']
            simp [builtin, Builtin.len_, run_underlying hu, run_getMap g2, goInt, hsz]
          · cases h
        · obtain ⟨y, h1, h2⟩ := run_pureCall (P := P) (ty := o.type) h hxs
          exact ⟨y, h1, fin fun cs => h2 cs w⟩
      · cases h
    · cases h
  | _ => exact hpure (by rw [ho] at h ⊢; exact h)
end
end Go.Proofs.Ytlpnhikoipkjbaa.Abs
