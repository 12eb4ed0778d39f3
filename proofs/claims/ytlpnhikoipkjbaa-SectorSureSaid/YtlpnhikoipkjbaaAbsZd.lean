/- The word on regions that draw their order; the closing theorem. No conditions. -/
import Derived.Test.YtlpnhikoipkjbaaAbsZc
set_option linter.unusedVariables false
namespace Go.Proofs.Ytlpnhikoipkjbaa.Abs
open Go Go.RowKit
theorem againOk_at {P : Program} {ops : Array Oper} {pre : List Nat} {ms : List Mom} {lpd : Pend} {last : PT AO} : ∀ {u : List (Nat × Nat)}, againOk P ops pre ms lpd last u = true → ∀ {l h : Nat}, (l, h) ∈ u →
    ∃ ml ol mh, ms[l]? = some ml ∧ ops[l]? = some ol ∧ ms[h]? = some mh ∧ (l < h → rdOp P ml.a ol.op (hp (match ms[h + 1]? with | some m2 => joinT (pre.getD l 0) m2.pd m2.H | none => joinT (pre.getD l 0) lpd last)) = some ml.v) ∧
      (h < l → rdOp P ml.a ol.op (hp (joinT (pre.getD l 0) ml.pd (joinT (pre.getD l 0) mh.pd mh.H))) = some ml.v)
  | [], _, _, _, hm => by cases hm
  | (l', h') :: u, hh, l, h, hm => by
    unfold againOk at hh
    rw [Bool.and_eq_true] at hh
    obtain ⟨h1, h2⟩ := hh
    rcases List.mem_cons.1 hm with e | e
    · injection e with e1 e2
      subst e1; subst e2
      split at h1
      · rename_i ml ol mh a1 a2 a3
        have same : ∀ {x : AV} {y : Option AV}, sameV x y = true → y = some x := by
          intro x y hs
          unfold sameV at hs
          split at hs
          · rename_i y'; rw [eqVal_eq _ _ hs]
          · cases hs
        refine ⟨ml, ol, mh, a1, a2, a3, fun hlt => ?_, fun hlt => ?_⟩
        · rw [if_pos (by rw [Nat.blt_eq]; exact hlt)] at h1
          exact same h1
        · rw [if_neg (by rw [Nat.blt_eq]; omega)] at h1
          exact same h1
      · cases h1
    · exact againOk_at h2 e
theorem mem_unordL {ops : Array Oper} {l h : Nat} {o p : Oper} (ho : ops[l]? = some o) (hp : ops[h]? = some p) (hm : readsMem o.op = true) (hh : isHeavy o.op = false) (hph : isHeavy p.op = true) (h1 : ¬ bt (preL ops) h l) (h2 : ¬ bt (preL ops) l h) : (l, h) ∈ unordL ops := by
  unfold unordL
  simp only
  refine List.mem_flatMap.2 ⟨(o, l), mem_zip ho, ?_⟩
  rw [hm, hh]
  simp only [Bool.not_false, Bool.and_self, if_true]
  refine List.mem_map.2 ⟨(p, h), List.mem_filter.2 ⟨mem_zip hp, ?_⟩, rfl⟩
  unfold bt at h1 h2
  rw [Bool.not_eq_true] at h1 h2
  simp only [hph, h1, h2, Bool.not_false, Bool.and_self]
theorem drawOk (P : Program) : DrawOk P := by
  intro lim call ops a n H k L id hcall h hln r ρ A w hs hg
  unfold drawK at h
  split at h
  · rename_i hreg
    have hr := regF hreg
    obtain ⟨ms, t, hch, h⟩ := trK_some _ _ h
    split at h
    · rename_i hag
      rw [addAllK_eq] at h
      rw [List.append_nil, List.reverse_reverse] at hag
      obtain ⟨hlen, h0, hst⟩ := chain_at hch
      have W : Walk P call lim ops (preL ops) (stF ms t) (vF ms) := ⟨fun j o ho => by have := hst j o (by simpa using ho); rwa [Nat.zero_add] at this, by rw [h0]⟩
      have mom : ∀ {j : Nat} {m : Mom}, (ms.map momOf)[j]? = some m → m = ⟨(stF ms t j).a, (stF ms t j).H, (stF ms t j).pd, vF ms j⟩ := by
        intro j m e
        rw [List.getElem?_map] at e
        cases hj : ms[j]? with
        | none => rw [hj] at e; cases e
        | some q =>
          rw [hj] at e
          injection e with e
          rw [← e]
          simp [stF, vF, hj, momOf]
      have E : Env P lim ops (preL ops) (stF ms t) (vF ms) := by
        refine ⟨by rw [h0]; exact hln, by rw [h0]; exact upN_nat _ _, ?_⟩
        intro l h o p ho hp hm hh hph h1 h2
        obtain ⟨ml, ol, mh, a1, a2, a3, a4, a5⟩ := againOk_at hag (mem_unordL ho hp hm hh hph h1 h2)
        rw [ho] at a2; injection a2 with a2; subst a2
        have e1 := mom a1
        have e3 := mom a3
        subst e1; subst e3
        refine ⟨fun hlt => ?_, a5⟩
        have a5 := a4 hlt
        have hH : (match (ms.map momOf)[h + 1]? with | some m2 => joinT ((preL ops).getD l 0) m2.pd m2.H | none => joinT ((preL ops).getD l 0) t.pd t.H) = joinT ((preL ops).getD l 0) (stF ms t (h + 1)).pd (stF ms t (h + 1)).H := by
          cases hj : (ms.map momOf)[h + 1]? with
          | some m2 => rw [mom hj]
          | none =>
            rw [List.getElem?_map] at hj
            cases hj' : ms[h + 1]? with
            | some q => rw [hj'] at hj; cases hj
            | none => simp [stF, hj']
        rw [hH] at a5
        exact a5
      have hN : stF ms t ops.size = t := by
        have : ms[ops.size]? = none := by rw [List.getElem?_eq_none]; simp [hlen]
        simp [stF, this]
      have hlow : ∀ {j : Nat} {b : Pos} {ao : AO}, j < ops.size → Al (stF ms t) j b ao → n.nat ≤ b.nat := by
        intro j b ao hj ha
        have := (W.al_le hr hj ha).1
        rw [h0] at this
        exact this
      have hnH : ∀ b, n.nat ≤ b.nat → PT.get b H = none := by
        intro b hb
        cases hx : PT.get b H with
        | none => rfl
        | some o' =>
          obtain ⟨k', d, x, ob, e1, _⟩ := hg.rep b o' hx
          rw [hg.fresh b hb] at e1; cases e1
      have hnofalse : ∀ i, (Array.replicate ops.size false).getD i false = false := by
        intro i
        simp only [Array.getD_eq_getD_getElem?, Array.getElem?_replicate]
        split <;> rfl
      have I0 : Inv lim ops (preL ops) (stF ms t) (vF ms) ρ A { w with drawn := w.drawn + 1 } (Array.replicate ops.size false) ρ 0 (hp H) A { w with drawn := w.drawn + 1 } := by
        refine ⟨Nat.zero_le _, ?_, ?_, ?_, ?_, ?_, ?_, ?_, Nat.le_refl _, ?_, fun _ _ => rfl, ?_, ?_, rfl⟩
        · intro h hh
          rw [hnofalse]
          simp
        · intro i o e ho hl
          rw [hnofalse] at hl; cases hl
        · rw [h0]
          exact (Good.le_num hg (by rw [upN_nat]; omega)).drew _
        · rw [h0]; exact fun b o e => e
        · intro j b ao hj hl
          rw [hnofalse] at hl; cases hl
        · intro j b ao hj ha _
          exact hg.fresh b (hlow hj ha)
        · intro j b ao hj ha _
          rw [h0]
          exact hnH b (hlow hj ha)
        · rw [h0]
          exact Fr.refl _ _ _ _ hg.ids
        · intro i o t' ho hl
          rw [hnofalse] at hl; cases hl
        · intro t' _ v e
          rw [h0] at e
          exact hs t' v e
      refine wpIn_region_any hr.mixed ?_
      refine Inv.any hcall hr W E ?_ ops.size _ ρ 0 (hp H) A _ (by simp) (by simp) I0
      intro ld ρ' c G A' w' I hall
      refine ⟨rfl, t.a, t.n, addAllT t.pd t.H, L, ρ', h, fun _ hx => hx, ?_, marks0 I.defers, ?_, ?_, ?_⟩
      · intro s v e
        obtain ⟨s1, s2⟩ := Walk.slot hr W (t := s) ops.size (Nat.le_refl _)
        rw [hN] at s1 s2
        by_cases hx : ∃ (j : Nat) (p : Oper), ops[j]? = some p ∧ p.dst = some s
        · obtain ⟨j, p, hp, hd⟩ := hx
          have hj : j < ops.size := (Array.getElem?_eq_some_iff.1 hp).1
          rw [s1 j p hj hp hd] at e
          injection e with e; subst e
          exact I.set j p s hp (hall j hj) hd
        · have hno : ∀ (k : Nat) (q : Oper), ops[k]? = some q → q.dst ≠ some s := fun k q hq hd => hx ⟨k, q, hq, hd⟩
          rw [s2 (fun k q _ hq => hno k q hq)] at e
          exact I.unset s (fun k q hq _ => hno k q hq) v e
      all_goals
        have hcalm := W.calm (i := c) (ops.size - c) (by have := I.cN; omega) (fun h' b1 b2 hv => by
          have hv' := hv; obtain ⟨p, hp, _⟩ := hv'
          have := (I.hv h' hv).1 (hall h' (Array.getElem?_eq_some_iff.1 hp).1)
          omega)
        rw [show c + (ops.size - c) = ops.size by have := I.cN; omega, hN] at hcalm
        have hsub : Hp.le (hp (addAllT t.pd t.H)) G := by
          intro b o e
          rcases addAllT_mem _ _ b o e with h | ⟨j, h1⟩
          · exact I.base b o (by rw [← hcalm.2]; exact h)
          · rw [← hN] at h1
            obtain ⟨h3, h4, h5⟩ := (Walk.pd hr W ops.size (Nat.le_refl _)).1 h1
            exact I.ext j b o h3 (hall j h3) h4 (fun ⟨h, b1, b2⟩ => h5 ⟨h, by have := I.cN; omega, b2⟩)
      · rw [hcalm.1]
        exact I.good.sub hsub
      · have F := I.fr
        rw [h0] at F
        have hnum := I.num
        rw [h0, ← hcalm.1] at hnum
        simp only [upN_nat] at hnum
        have F' : Fr ρ n (hp H) { w with drawn := w.drawn + 1 } ρ' t.n (hp (addAllT t.pd t.H)) w' :=
          ⟨F.le, by omega, F.old, F.os, F.tape, F.output, F.size, F.block, fun b ao k' d x e1 e2 => F.new b ao k' d x (hsub _ _ e1) e2, fun b ao e => F.dom b ao (hsub _ _ e)⟩
        exact F'.drew' (w.drawn + 1)
      · intro q hq
        rw [addAllT_not, hcalm.2, I.keep q hq, h0]
        intro j o' hm
        rw [← hN] at hm
        obtain ⟨h3, h4, _⟩ := (Walk.pd hr W ops.size (Nat.le_refl _)).1 hm
        have := hlow h3 h4
        omega
    · cases h
  · cases h
end Go.Proofs.Ytlpnhikoipkjbaa.Abs
