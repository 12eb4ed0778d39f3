/- Small words for ranges over functions: a block that is named again; the params laid. No conditions. -/
import Derived.Test.YtlpnhikoipkjbaaAbsV
import Derived.RangeFuncIn
import Derived.RangeFuncRecord
set_option linter.unusedVariables false
namespace Go.Proofs.Ytlpnhikoipkjbaa.Abs
open Go Go.RowKit
section
variable {F : Fence} {m : Nat} {P : Program} {b : Frame} {a : Act} {k : List Item} {cs : List Frame} {w : World} {Q : Exit → Act → World → Prop}
theorem stepR_scope {c : Code} : step P (lone (b.atR a (.code (.scope c) :: k)) cs w) = .next (lone (b.atR a (.code c :: .inScope c :: k)) cs w) :=
  step_lone_go (by simp [stepG, stepG.exec, Frame.atR])
theorem stepR_inScope {c : Code} : step P (lone (b.atR a (.inScope c :: k)) cs w) = .next (lone (b.atR a k) cs w) :=
  step_lone_go (by simp [stepG, stepG.exec, Frame.atR])
/-- a scope through which the run goes without a goto -/
theorem wpIn_scope {c : Code} (h : c.wpIn F m P (fun e a w => (∀ l, e ≠ .goto l) ∧ Q e a w) a w) : (Code.scope c).wpIn F m P Q a w := by
  intro b k cs hro hb hr
  have h0 : (lone (b.atR a (.code (.scope c) :: k)) cs w).fenced P F := fenced_calm hb hr rfl
  obtain ⟨e, a₁, w₁, hq, harr⟩ := h b (.inScope c :: k) cs hro hb hr
  cases e with
  | normal => exact ⟨.normal, a₁, w₁, hq.2, .head h0 stepR_scope (StepsIn.trans harr (.one (fenced_calm hb hr rfl) stepR_inScope))⟩
  | exit id =>
    have hx : exitTo id (.inScope c :: k) = exitTo id k := by simp [exitTo]
    exact ⟨.exit id, a₁, w₁, hq.2, fun k' hk => .head h0 stepR_scope (harr.1 k' (by rw [hx]; exact hk)),
      fun hr' hk => let ⟨k₁, h1, h2⟩ := harr.2 hr' (by rw [hx]; exact hk); ⟨k₁, h1, .head h0 stepR_scope h2⟩⟩
  | goto l => exact (hq.1 l rfl).elim
  | ret => exact ⟨_, a₁, w₁, hq.2, .of_steps (.one h0 stepR_scope) harr⟩
  | panic ch => exact ⟨_, a₁, w₁, hq.2, .of_steps (.one h0 stepR_scope) harr⟩
  | outgrown => exact ⟨_, a₁, w₁, hq.2, .of_steps (.one h0 stepR_scope) harr⟩
end
/-- a block without a name is named -/
theorem Good.name {ρ : Ren} {n : Pos} {g : Hp} {w : World} (h : Good ρ n g w) {b : Pos} {k d x : Nat} {ao : AO} {o : Obj} (hb : ρ.at_ b = some (k, d, x)) (hk : w.heap[k]? = some o)
    (hu : ∀ b' ao' d' x', g b' = some ao' → ρ.at_ b' ≠ some (k, d', x')) (ho : ObjC ρ d x ao o) : Good ρ n (g.set b ao) w := by
  refine ⟨fun q a e => ?_, fun q q' a a' k1 d1 x1 d2 x2 e1 e2 e3 e4 => ?_, h.fresh⟩
  · simp only [Hp.set] at e
    split at e
    · rename_i hq; subst hq
      injection e with e; subst e
      exact ⟨k, d, x, o, hb, hk, ho⟩
    · exact h.rep q a e
  · simp only [Hp.set] at e1 e2
    by_cases hq : q = b
    · by_cases hq' : q' = b
      · rw [hq, hq']
      · rw [if_neg hq'] at e2
        rw [hq, hb] at e3
        injection e3 with e3; injection e3 with e3; subst e3
        exact (hu q' a' d2 x2 e2 e4).elim
    · rw [if_neg hq] at e1
      by_cases hq' : q' = b
      · rw [hq', hb] at e4
        injection e4 with e4; injection e4 with e4; subst e4
        exact (hu q a d1 x1 e1 e3).elim
      · rw [if_neg hq'] at e2
        exact h.inj q q' a a' k1 d1 x1 d2 x2 e1 e2 e3 e4
/-- a name is taken away -/
theorem Good.unname {ρ : Ren} {n : Pos} {g : Hp} {w : World} (h : Good ρ n g w) (b : Pos) : Good ρ n (g.del b) w := h.sub (fun q a e => by
  simp only [Hp.del] at e
  split at e
  · cases e
  · exact e)
theorem Good.unnamed {ρ : Ren} {n : Pos} {g : Hp} {w : World} (h : Good ρ n g w) {b : Pos} {ao : AO} {k d x : Nat} (hb : g b = some ao) (hk : ρ.at_ b = some (k, d, x)) : ∀ b' ao' d' x', g.del b b' = some ao' → ρ.at_ b' ≠ some (k, d', x') := by
  intro b' ao' d' x' e e'
  simp only [Hp.del] at e
  split at e
  · cases e
  · rename_i hne
    exact hne (h.inj b' b ao' ao k d' x' d x e hb e' hk)
/-- an unnamed block stays as it is, and without a name -/
theorem Fr.unnamed {ρ ρ' : Ren} {n n' : Pos} {g g' : Hp} {w w' : World} (hF : Fr ρ n g w ρ' n' g' w') {k : Nat} {o : Obj} (hk : w.heap[k]? = some o) (hu : ∀ b' ao' d' x', g b' = some ao' → ρ.at_ b' ≠ some (k, d', x')) :
    w'.heap[k]? = some o ∧ ∀ b' ao' d' x', g' b' = some ao' → ρ'.at_ b' ≠ some (k, d', x') := by
  have hlt : k < w.heap.size := (Array.getElem?_eq_some_iff.1 hk).1
  refine ⟨(hF.block k hlt (fun b ao d x e => hu b ao d x e)).trans hk, fun b ao d x e1 e2 => ?_⟩
  rcases hF.new b ao k d x e1 e2 with h | ⟨b0, ao0, d0, x0, a1, a2⟩
  · omega
  · exact hu b0 ao0 d0 x0 a1 a2
theorem layK_some {ρ : Ren} {k : PT AV → Res} {L : List Out} : ∀ {ps : List Nat} {vs : List AV} {us : List Value} {a : PT AV} {A : Act}, layK ps vs a k = some L → concs ρ vs = some us → Slots ρ a A →
    ps.length = us.length ∧ ∃ a', k a' = some L ∧ Slots ρ a' { A with tmps := (ps.zip us).foldl (fun tmps x => tmps.setIfInBounds x.1 x.2) A.tmps }
  | [], [], us, a, A, h, hu, hs => by cases hu; exact ⟨rfl, a, h, hs⟩
  | [], _ :: _, us, a, A, h, hu, hs => by cases h
  | _ :: _, [], us, a, A, h, hu, hs => by cases h
  | t :: ps, v :: vs, us, a, A, h, hu, hs => by
    obtain ⟨y, ys, rfl, h1, h2⟩ := concs_cons hu
    unfold layK at h
    obtain ⟨g1, g2⟩ := PT.updK_some _ _ _ _ _ h
    obtain ⟨e1, a', e2, e3⟩ := layK_some g2 h2 (hs.put h1 g1)
    exact ⟨by simp [e1], a', e2, e3⟩
/-- a block that no abstract one names may turn -/
theorem Good.putU {ρ : Ren} {n : Pos} {g : Hp} {w : World} (h : Good ρ n g w) {d : Nat} (o : Obj) (hu : ∀ b ao d' x, g b = some ao → ρ.at_ b ≠ some (d, d', x)) : Good ρ n g (w.putObj d o) := by
  refine ⟨fun b ao e => ?_, h.inj, h.fresh⟩
  obtain ⟨k, d', x, ob, h1, h2, h3⟩ := h.rep b ao e
  exact ⟨k, d', x, ob, h1, (World.putObj_heap_other (fun e' => hu b ao d' x e (by rw [← e']; exact h1))).trans h2, h3⟩
theorem Good.allocU {ρ : Ren} {n : Pos} {g : Hp} {w : World} (h : Good ρ n g w) (o : Obj) : Good ρ n g (w.alloc o) := by
  refine ⟨fun b ao e => ?_, h.inj, h.fresh⟩
  obtain ⟨k, d', x, ob, h1, h2, h3⟩ := h.rep b ao e
  exact ⟨k, d', x, ob, h1, (Below.heap_alloc w o k (Array.getElem?_eq_some_iff.1 h2).1).trans h2, h3⟩
theorem Good.newU {ρ : Ren} {n : Pos} {g : Hp} {w : World} (h : Good ρ n g w) : ∀ b ao d x, g b = some ao → ρ.at_ b ≠ some (w.heap.size, d, x) := by
  intro b ao d x e e'
  obtain ⟨k, d', x', ob, h1, h2, h3⟩ := h.rep b ao e
  rw [e'] at h1
  injection h1 with h1; injection h1 with h1
  have := (Array.getElem?_eq_some_iff.1 h2).1
  omega
theorem Fr.allocU {ρ ρ' : Ren} {n n' : Pos} {g g' : Hp} {w w' : World} (h : Fr ρ n g w ρ' n' g' w') (o : Obj) : Fr ρ n g w ρ' n' g' (w'.alloc o) :=
  ⟨h.le, h.num, h.old, h.os, h.tape, h.output, by have := h.size; simp; omega, fun k hk hn => (Below.heap_alloc w' o k (Nat.lt_of_lt_of_le hk h.size)).trans (h.block k hk hn), h.new, h.dom⟩
/-- seen from a heap with more names -/
theorem Fr.widen {ρ ρ' : Ren} {n n' : Pos} {g0 g g' : Hp} {w w' : World} (h : Fr ρ n g0 w ρ' n' g' w') (hl : Hp.le g0 g) : Fr ρ n g w ρ' n' g' w' :=
  ⟨h.le, h.num, h.old, h.os, h.tape, h.output, h.size, fun k hk hn => h.block k hk (fun b ao d x e => hn b ao d x (hl b ao e)),
    (fun b ao k d x e1 e2 => by
      rcases h.new b ao k d x e1 e2 with h1 | ⟨b0, ao0, d0, x0, a1, a2⟩
      · exact .inl h1
      · exact .inr ⟨b0, ao0, d0, x0, hl _ _ a1, a2⟩),
    fun b ao e => by
      rcases h.dom b ao e with ⟨ao0, h1⟩ | h1
      · exact .inl ⟨ao0, hl _ _ h1⟩
      · exact .inr h1⟩
/-- a block that was named at the start, or is new, may turn -/
theorem Fr.put {ρ ρ' : Ren} {n n' : Pos} {g g' : Hp} {w w' : World} (h : Fr ρ n g w ρ' n' g' w') {d : Nat} (o : Obj) (hd : w.heap.size ≤ d ∨ ∃ b ao d0 x, g b = some ao ∧ ρ.at_ b = some (d, d0, x)) : Fr ρ n g w ρ' n' g' (w'.putObj d o) := by
  refine ⟨h.le, h.num, h.old, h.os, h.tape, h.output, by rw [World.putObj_size]; exact h.size, fun k hk hn => ?_, h.new, h.dom⟩
  refine (World.putObj_heap_other (fun e => ?_)).trans (h.block k hk hn)
  subst e
  rcases hd with h1 | ⟨b, ao, d0, x, h1, h2⟩
  · omega
  · exact hn b ao d0 x h1 h2
/-- fewer names at the end -/
theorem Fr.less {ρ ρ' : Ren} {n n' : Pos} {g g' g2 : Hp} {w w' : World} (h : Fr ρ n g w ρ' n' g' w') (hl : Hp.le g2 g') : Fr ρ n g w ρ' n' g2 w' :=
  ⟨h.le, h.num, h.old, h.os, h.tape, h.output, h.size, h.block, fun b ao k d x e => h.new b ao k d x (hl _ _ e), fun b ao e => h.dom b ao (hl _ _ e)⟩
/-- a name is given again -/
theorem Fr.name {ρ ρ' : Ren} {n n' : Pos} {g g' : Hp} {w w' : World} (h : Fr ρ n g w ρ' n' g' w') {b : Pos} {k d x : Nat} {ao0 ao : AO} (hb : g b = some ao0) (hk : ρ.at_ b = some (k, d, x)) : Fr ρ n g w ρ' n' (g'.set b ao) w' := by
  refine ⟨h.le, h.num, h.old, h.os, h.tape, h.output, h.size, h.block, fun q a k1 d1 x1 e1 e2 => ?_, fun q a e => ?_⟩
  · simp only [Hp.set] at e1
    split at e1
    · rename_i hq; subst hq
      have := h.le.at_ _ _ hk
      rw [e2] at this
      injection this with this; injection this with this; subst this
      exact .inr ⟨_, ao0, d, x, hb, hk⟩
    · exact h.new q a k1 d1 x1 e1 e2
  · simp only [Hp.set] at e
    split at e
    · rename_i hq; subst hq; exact .inl ⟨ao0, hb⟩
    · exact h.dom q a e
theorem del_le (g : Hp) (b : Pos) : Hp.le (g.del b) g := fun q a e => by
  simp only [Hp.del] at e
  split at e
  · cases e
  · exact e
end Go.Proofs.Ytlpnhikoipkjbaa.Abs
