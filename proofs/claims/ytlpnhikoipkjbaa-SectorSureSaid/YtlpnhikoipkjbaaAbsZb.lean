/- Regions that draw their order, fourth part: each operation keeps what stands. No conditions. -/
import Derived.Test.YtlpnhikoipkjbaaAbsZa
set_option linter.unusedVariables false
namespace Go.Proofs.Ytlpnhikoipkjbaa.Abs
open Go Go.RowKit
section
variable {P : Program} {call : CallT} {lim : Pos} {ops : Array Oper} {pre : List Nat} {S : Nat → DS} {V : Nat → AV} {ρ0 ρ : Ren} {A0 A : Act} {w0 w : World} {ld : Array Bool} {c : Nat} {G : Hp}
/-- what is asked of the region besides -/
structure Env (P : Program) (lim : Pos) (ops : Array Oper) (pre : List Nat) (S : Nat → DS) (V : Nat → AV) : Prop where
  lim : lim.nat ≤ (S 0).nx.nat
  num : (S 0).n.nat = (S 0).nx.nat + newsL P ops.toList
  again : ∀ {l h : Nat} {o p : Oper}, ops[l]? = some o → ops[h]? = some p → readsMem o.op = true → isHeavy o.op = false → isHeavy p.op = true → ¬ bt pre h l → ¬ bt pre l h →
    (l < h → rdOp P (S l).a o.op (hp (joinT (pre.getD l 0) (S (h + 1)).pd (S (h + 1)).H)) = some (V l)) ∧
    (h < l → rdOp P (S l).a o.op (hp (joinT (pre.getD l 0) (S l).pd (joinT (pre.getD l 0) (S h).pd (S h).H))) = some (V l))
theorem Good.le_num {n n' : Pos} (h : Good ρ n G w) (hn : n.nat ≤ n'.nat) : Good ρ n' G w := ⟨h.rep, h.inj, fun b hb => h.fresh b (by omega)⟩
/-- a heavy one that is next: those before it have run, those after it have not -/
theorem Inv.heavy_c (hr : RegF P ops pre) (I : Inv lim ops pre S V ρ0 A0 w0 ld ρ c G A w) {i : Nat} {o : Oper} (ho : ops[i]? = some o) (hun : ld.getD i false = false) (hl : ∀ j, bt pre i j → ld.getD j false = true) (hv : Hv ops S i) :
    c ≤ i ∧ ∀ h, c ≤ h → h < i → ¬ Hv ops S h := by
  have hc : c ≤ i := by
    rcases Nat.lt_or_ge i c with h | h
    · have := (I.hv i hv).2 h; rw [hun] at this; cases this
    · exact h
  refine ⟨hc, fun h h1 h2 hh => ?_⟩
  obtain ⟨p, hp, hph, _⟩ := hh
  obtain ⟨o', ho', hoh, _⟩ := hv
  have := hl h (hr.hvy hp ho' hph hoh h2)
  have := (I.hv h ⟨p, hp, hph, by assumption⟩).1 this
  omega
theorem Inv.heavy_v (hr : RegF P ops pre) (I : Inv lim ops pre S V ρ0 A0 w0 ld ρ c G A w) (hsz : ld.size = ops.size) {i : Nat} {o : Oper} (ho : ops[i]? = some o) (hun : ld.getD i false = false) (hl : ∀ j, bt pre i j → ld.getD j false = true) (hv : Hv ops S i) :
    ∀ h, Hv ops S h → ((ld.setIfInBounds i true).getD h false = true ↔ h < i + 1) := by
  intro h hh
  have hi : i < ops.size := (Array.getElem?_eq_some_iff.1 ho).1
  by_cases e : h = i
  · subst e; simp [hsz, hi]
  · rw [getD_set_ne false (Ne.symm e)]
    obtain ⟨p, hp, hph, hpw⟩ := hh
    obtain ⟨o', ho', hoh, how⟩ := hv
    constructor
    · intro hlh
      rcases Nat.lt_or_ge h (i + 1) with h1 | h1
      · exact h1
      · have := hr.shut I.shut h hp hlh (hr.hvy ho' hp hoh hph (by omega))
        rw [hun] at this; cases this
    · intro h1
      exact hl h (hr.hvy hp ho' hph hoh (by omega))
theorem Inv.new (hr : RegF P ops pre) (W : Walk P call lim ops pre S V) (E : Env P lim ops pre S V) (I : Inv lim ops pre S V ρ0 A0 w0 ld ρ c G A w) (hsz : ld.size = ops.size) {i : Nat} {o : Oper} (ho : ops[i]? = some o) (hun : ld.getD i false = false)
    (hrd : ∀ e ∈ o.after, Region.binds .any e = true → ld.getD e.on false = true) (hn : ¬ Hv ops S i) {b : Pos} {ao : AO} (ha : Al S i b ao) {m x : Nat} {obj : Obj} {u : Value}
    (hobj : ObjC (ρ.put b (w.heap.size, 0, x)) 0 x ao obj) (hu : conc (ρ.put b (w.heap.size, 0, x)) (V i) = some u) :
    Inv lim ops pre S V ρ0 A0 w0 (ld.setIfInBounds i true) (ρ.put b (w.heap.size, 0, x)) c (G.set b ao) (A.put o.dst u) ((w.drewN m).alloc obj) := by
  have hi : i < ops.size := (Array.getElem?_eq_some_iff.1 ho).1
  have hb := I.free i b ao hi ha hun
  have hG : G b = none := by
    cases hg : G b with
    | none => rfl
    | some o' => obtain ⟨k, d, y, ob, h1, _⟩ := I.good.rep b o' hg; rw [hb] at h1; cases h1
  have hbn : b.nat < (S c).n.nat := by
    have := W.al_le hr hi ha
    have := I.num
    rw [E.num] at this
    omega
  have hb0 : (S 0).nx.nat ≤ b.nat := (W.al_le hr hi ha).1
  have hgd : Good ρ (S c).n G (w.drewN m) := I.good.drew (w.drawn + m)
  have hGle : ∀ q o', G q = some o' → G.set b ao q = some o' := by
    intro q o' e
    show (if q = b then some ao else G q) = some o'
    rw [if_neg (fun e' => by subst e'; rw [hG] at e; cases e)]
    exact e
  refine I.next hr W hsz ho hun hrd hu (Ren.le_put _ hb) I.cN (I.hv_light hn) (hgd.alloc_at hb hbn ao obj x hobj) (fun q o' e => hGle q o' (I.base q o' e)) ?_ ?_ I.bare I.num ?_ I.keep
  · intro j b' ao' hj hl ha' hm
    by_cases e : j = i
    · subst e
      obtain ⟨rfl, _⟩ := W.al hr hj ha
      have h2 := W.al hr hj ha'
      have h3 := h2.1
      subst h3
      obtain ⟨_, e2⟩ := W.al_inj hr hj hj ha ha'
      subst e2
      show (if (S j).nx = (S j).nx then some ao else _) = some ao
      rw [if_pos rfl]
    · rcases hl with hl | hl
      · exact (e hl).elim
      · exact hGle _ _ (I.ext j b' ao' hj hl ha' hm)
  · intro j b' ao' hj ha' hne hl
    have h1 := I.free j b' ao' hj ha' hl
    show (if b' = b then _ else ρ.at_ b') = none
    rw [if_neg (fun e => by subst e; exact hne (W.al_inj hr hj hi ha' ha).1)]
    exact h1
  · exact (Fr.alloc_free (w := w.drewN m) hb hb0 (Nat.le_refl _) ao obj x).drew' (w.drawn + m)
theorem Inv.heavy (hr : RegF P ops pre) (W : Walk P call lim ops pre S V) (E : Env P lim ops pre S V) (I : Inv lim ops pre S V ρ0 A0 w0 ld ρ c G A w) (hsz : ld.size = ops.size) {i : Nat} {o : Oper} (ho : ops[i]? = some o) (hun : ld.getD i false = false)
    (hrd : ∀ e ∈ o.after, Region.binds .any e = true → ld.getD e.on false = true) (hv : Hv ops S i) {ρ' : Ren} {w' : World} {u : Value} (hu : conc ρ' (V i) = some u)
    (hN : Now lim ρ (S i).n (joinT (pre.getD i 0) (S i).pd (S i).H) w ρ' (S (i + 1)).n (S (i + 1)).H w') : ∃ G', Inv lim ops pre S V ρ0 A0 w0 (ld.setIfInBounds i true) ρ' (i + 1) G' (A.put o.dst u) w' := by
  classical
  have hi : i < ops.size := (Array.getElem?_eq_some_iff.1 ho).1
  have hl : ∀ j, bt pre i j → ld.getD j false = true := fun j h => hr.ready I.shut ho hrd h
  obtain ⟨hc, hcalm⟩ := I.heavy_c hr ho hun hl hv
  have hH := W.calm (i := c) (i - c) (by omega) (fun h a b => hcalm h a (by omega))
  rw [show c + (i - c) = i by omega] at hH
  have hsub : Hp.le (hp (joinT (pre.getD i 0) (S i).pd (S i).H)) G := I.join hr W hi hH.2 (fun j ⟨h, a, b⟩ => ⟨h, by omega, b⟩) hl
  have hMg : ∀ j, ¬ Mg ops pre S (i + 1) j → ¬ Mg ops pre S c j ∧ ¬ bt pre i j := fun j h => ⟨fun ⟨k, a, b⟩ => h ⟨k, by omega, b⟩, fun h' => h ⟨i, by omega, hv, h'⟩⟩
  -- nothing of the unjoined ones is in the joined heap
  have hout : ∀ j b ao, j < ops.size → Al S j b ao → ¬ Mg ops pre S (i + 1) j → PT.get b (joinT (pre.getD i 0) (S i).pd (S i).H) = none := by
    intro j b ao hj ha hm
    cases hg : PT.get b (joinT (pre.getD i 0) (S i).pd (S i).H) with
    | none => rfl
    | some o' =>
      rcases joinT_mem _ _ _ b o' hg with h | ⟨j', h1, h2⟩
      · rw [hH.2, I.bare j b ao hj ha (hMg j hm).1] at h; cases h
      · obtain ⟨h3, h4, h5⟩ := (Walk.pd hr W i (by omega)).1 h1
        obtain ⟨e, _⟩ := W.al_inj hr (by omega) hj h4 ha
        subst e
        exact ((hMg j' hm).2 h2).elim
  have hnn : (S 0).n.nat ≤ (S i).n.nat := by rw [hH.1]; exact I.num
  have hlow : ∀ j b ao, j < ops.size → Al S j b ao → b.nat < (S i).n.nat := by
    intro j b ao hj ha
    have := W.al_le hr hj ha
    have := E.num
    omega
  have hbare : ∀ j b ao, j < ops.size → Al S j b ao → ¬ Mg ops pre S (i + 1) j → PT.get b (S (i + 1)).H = none := by
    intro j b ao hj ha hm
    cases hg : PT.get b (S (i + 1)).H with
    | none => rfl
    | some o' =>
      rcases hN.fr.dom b o' hg with ⟨ao0, h⟩ | h
      · have := hout j b ao hj ha hm
        have h' : PT.get b (joinT (pre.getD i 0) (S i).pd (S i).H) = some ao0 := h
        rw [this] at h'; cases h'
      · have := hlow j b ao hj ha; omega
  let X : Pos → AO → Prop := fun b ao => ∃ j, j < ops.size ∧ ld.getD j false = true ∧ Al S j b ao ∧ ¬ Mg ops pre S (i + 1) j
  let G' : Hp := fun b => match PT.get b (S (i + 1)).H with | some o' => some o' | none => if h : ∃ ao, X b ao then some (Classical.choose h) else none
  have hG1 : ∀ b o', PT.get b (S (i + 1)).H = some o' → G' b = some o' := by
    intro b o' h; simp only [G', h]
  have hG3 : ∀ b o', G' b = some o' → PT.get b (S (i + 1)).H = some o' ∨ (PT.get b (S (i + 1)).H = none ∧ X b o') := by
    intro b o' h
    simp only [G'] at h
    split at h
    · rename_i o2 h2; injection h with h; subst h; exact .inl h2
    · rename_i h2
      split at h
      · rename_i h3; injection h with h; subst h; exact .inr ⟨h2, Classical.choose_spec h3⟩
      · cases h
  have hX : ∀ b ao, X b ao → G b = some ao ∧ PT.get b (joinT (pre.getD i 0) (S i).pd (S i).H) = none := by
    rintro b ao ⟨j, h1, h2, h3, h4⟩
    exact ⟨I.ext j b ao h1 h2 h3 (hMg j h4).1, hout j b ao h1 h3 h4⟩
  have hG2 : ∀ j b ao, j < ops.size → ld.getD j false = true → Al S j b ao → ¬ Mg ops pre S (i + 1) j → G' b = some ao := by
    intro j b ao h1 h2 h3 h4
    have hx : ∃ ao, X b ao := ⟨ao, j, h1, h2, h3, h4⟩
    simp only [G', hbare j b ao h1 h3 h4, dif_pos hx]
    obtain ⟨j', a1, a2, a3, a4⟩ := Classical.choose_spec hx
    rw [(W.al_inj hr h1 a1 h3 a3).2]
  -- an unjoined one's block is not turned
  have hXrep : ∀ b ao, X b ao → ∃ k d x ob, ρ.at_ b = some (k, d, x) ∧ ρ'.at_ b = some (k, d, x) ∧ w'.heap[k]? = some ob ∧ ObjC ρ' d x ao ob ∧ k < w.heap.size ∧ ∀ b' ao' d' x', PT.get b' (joinT (pre.getD i 0) (S i).pd (S i).H) = some ao' → ρ.at_ b' ≠ some (k, d', x') := by
    intro b ao hx
    obtain ⟨g1, g2⟩ := hX b ao hx
    obtain ⟨k, d, x, ob, h1, h2, h3⟩ := I.good.rep b ao g1
    have hk : k < w.heap.size := (Array.getElem?_eq_some_iff.1 h2).1
    have hno : ∀ b' ao' d' x', PT.get b' (joinT (pre.getD i 0) (S i).pd (S i).H) = some ao' → ρ.at_ b' ≠ some (k, d', x') := by
      intro b' ao' d' x' e1 e2
      have := I.good.inj b b' ao ao' k d x d' x' g1 (hsub _ _ e1) h1 e2
      subst this
      rw [g2] at e1; cases e1
    exact ⟨k, d, x, ob, h1, hN.fr.le.at_ _ _ h1, (hN.fr.block k hk (fun b' ao' d' x' e => hno b' ao' d' x' e)).trans h2, h3.le hN.fr.le, hk, hno⟩
  refine ⟨G', I.next hr W hsz ho hun hrd hu hN.fr.le (by omega) (I.heavy_v hr hsz ho hun hl hv) ⟨?_, ?_, hN.good.fresh⟩ hG1 ?_ ?_ hbare (Nat.le_trans hnn hN.fr.num) ⟨hN.fr.le, Nat.le_refl _, ?_, hN.fr.os, hN.fr.tape, hN.fr.output, hN.fr.size, ?_, ?_, ?_⟩ ?_⟩
  · intro b ao e
    rcases hG3 b ao e with h | ⟨_, h⟩
    · exact hN.good.rep b ao h
    · obtain ⟨k, d, x, ob, _, h1, h2, h3, _⟩ := hXrep b ao h
      exact ⟨k, d, x, ob, h1, h2, h3⟩
  · have mixed : ∀ b b' ao ao' k d x d' x', PT.get b (S (i + 1)).H = some ao → X b' ao' → ρ'.at_ b = some (k, d, x) → ρ'.at_ b' = some (k, d', x') → False := by
      intro b b' ao ao' k d x d' x' e1 e2 e3 e4
      obtain ⟨k2, d2, x2, ob, h1, h2, h3, h4, h5, h6⟩ := hXrep b' ao' e2
      rw [e4] at h2; injection h2 with h2; injection h2 with h2; subst h2
      rcases hN.fr.new b ao k d x e1 e3 with h | ⟨b0, ao0, d0, x0, a1, a2⟩
      · omega
      · exact h6 b0 ao0 d0 x0 a1 a2
    intro b b' ao ao' k d x d' x' e1 e2 e3 e4
    rcases hG3 b ao e1 with h | ⟨_, h⟩ <;> rcases hG3 b' ao' e2 with h' | ⟨_, h'⟩
    · exact hN.good.inj b b' ao ao' k d x d' x' h h' e3 e4
    · exact (mixed b b' ao ao' k d x d' x' h h' e3 e4).elim
    · exact (mixed b' b ao' ao k d' x' d x h' h e4 e3).elim
    · obtain ⟨k1, d1, x1, _, a1, a2, _⟩ := hXrep b ao h
      obtain ⟨k2, d2, x2, _, c1, c2, _⟩ := hXrep b' ao' h'
      rw [e3] at a2; injection a2 with a2; rw [e4] at c2; injection c2 with c2
      rw [← a2] at a1; rw [← c2] at c1
      exact I.good.inj b b' ao ao' k d x d' x' (hX b ao h).1 (hX b' ao' h').1 a1 c1
  · intro j b ao hj hlj ha hm
    rcases hlj with rfl | hlj
    · exact ((W.al hr hj ha).2.2 hv).elim
    · exact hG2 j b ao hj hlj ha hm
  · intro j b ao hj ha hne hlj
    rw [hN.fr.old b (hlow j b ao hj ha)]
    exact I.free j b ao hj ha hlj
  · intro b hb
    exact hN.fr.old b (by have := E.num; omega)
  · intro k hk hn
    exact hN.fr.block k hk (fun b ao d x e => hn b ao d x (hsub _ _ e))
  · intro b ao k d x e1 e2
    rcases hG3 b ao e1 with h | ⟨_, h⟩
    · rcases hN.fr.new b ao k d x h e2 with h | ⟨b0, ao0, d0, x0, a1, a2⟩
      · exact .inl h
      · exact .inr ⟨b0, ao0, d0, x0, hsub _ _ a1, a2⟩
    · obtain ⟨k1, d1, x1, _, a1, a2, _⟩ := hXrep b ao h
      rw [e2] at a2; injection a2 with a2; rw [← a2] at a1
      exact .inr ⟨b, ao, d, x, (hX b ao h).1, a1⟩
  · intro b ao e
    rcases hG3 b ao e with h | ⟨_, h⟩
    · rcases hN.fr.dom b ao h with ⟨ao0, h1⟩ | h1
      · exact .inl ⟨ao0, hsub _ _ h1⟩
      · exact .inr (by have := E.num; omega)
    · exact .inl ⟨ao, (hX b ao h).1⟩
  · intro q hq
    rw [hN.keep q hq, joinT_not, hH.2, I.keep q hq]
    intro j o' hm
    obtain ⟨h3, h4, _⟩ := (Walk.pd hr W i (by omega)).1 hm
    have := W.al_le hr (by omega) h4
    have := E.lim
    omega
/-- what a light one reads -/
theorem Inv.sees (hr : RegF P ops pre) (W : Walk P call lim ops pre S V) (E : Env P lim ops pre S V) (I : Inv lim ops pre S V ρ0 A0 w0 ld ρ c G A w) {i : Nat} {o : Oper} (ho : ops[i]? = some o) (hun : ld.getD i false = false)
    (hrd : ∀ e ∈ o.after, Region.binds .any e = true → ld.getD e.on false = true) (hh : isHeavy o.op = false)
    (hrd0 : rdOp P (S i).a o.op (hp (joinT (pre.getD i 0) (S i).pd (S i).H)) = some (V i)) : ∃ g, Hp.le g G ∧ rdOp P (S i).a o.op g = some (V i) := by
  have hi : i < ops.size := (Array.getElem?_eq_some_iff.1 ho).1
  have hl : ∀ j, bt pre i j → ld.getD j false = true := fun j h => hr.ready I.shut ho hrd h
  have hni : ¬ Hv ops S i := fun ⟨p, hp, h, _⟩ => by rw [ho] at hp; injection hp with hp; subst hp; rw [hh] at h; cases h
  cases hm : readsMem o.op with
  | false => exact ⟨G, fun _ _ e => e, (rd_pure o.op hm _ _).symm.trans hrd0⟩
  | true =>
    by_cases h1 : ∃ h, i ≤ h ∧ h < c ∧ Hv ops S h
    · -- the last of them
      have hlast : ∃ h, i ≤ h ∧ h < c ∧ Hv ops S h ∧ ∀ h', h < h' → h' < c → ¬ Hv ops S h' := by
        obtain ⟨h, a, b, d⟩ := h1
        have aux : ∀ m h, c - h ≤ m → i ≤ h → h < c → Hv ops S h → ∃ h, i ≤ h ∧ h < c ∧ Hv ops S h ∧ ∀ h', h < h' → h' < c → ¬ Hv ops S h' := by
          intro m
          induction m with
          | zero => intro h a1 a2 a3; omega
          | succ m ih =>
            intro h a1 a2 a3 a4
            by_cases hx : ∃ h', h < h' ∧ h' < c ∧ Hv ops S h'
            · obtain ⟨h', b1, b2, b3⟩ := hx
              exact ih h' (by omega) (by omega) b2 b3
            · exact ⟨h, a2, a3, a4, fun h' b1 b2 b3 => hx ⟨h', b1, b2, b3⟩⟩
        exact aux _ h (Nat.le_refl _) a b d
      obtain ⟨h, a1, a2, a3, a4⟩ := hlast
      obtain ⟨p, hp, hph, hpw⟩ := a3
      have hne : i ≠ h := fun e => hni (e ▸ ⟨p, hp, hph, hpw⟩)
      have hld : ld.getD h false = true := (I.hv h ⟨p, hp, hph, hpw⟩).2 a2
      have hx := (E.again ho hp hm hh hph (fun hb => by have := hr.shut I.shut h hp hld hb; rw [hun] at this; cases this) (fun hb => by have := hr.lt i ho hb; omega)).1 (by omega)
      have hH := W.calm (i := h + 1) (c - (h + 1)) (by have := I.cN; omega) (fun h' b1 b2 => a4 h' (by omega) (by omega))
      rw [show h + 1 + (c - (h + 1)) = c by omega] at hH
      refine ⟨_, ?_, hx⟩
      intro b o' e
      rcases joinT_mem _ _ _ b o' e with hb | ⟨j, e1, e2⟩
      · exact I.base b o' (by rw [hH.2]; exact hb)
      · obtain ⟨e3, e4, e5⟩ := (Walk.pd hr W (h + 1) (by have := I.cN; omega)).1 e1
        refine I.ext j b o' (by have := I.cN; omega) (hl j e2) e4 (fun ⟨q, b1, b2, b3⟩ => e5 ⟨q, ?_, b2, b3⟩)
        rcases Nat.lt_or_ge q (h + 1) with hq | hq
        · exact hq
        · exact (a4 q (by omega) b1 b2).elim
    · by_cases h2 : ∃ h, c ≤ h ∧ h < i ∧ Hv ops S h
      · have hfst : ∃ h, c ≤ h ∧ h < i ∧ Hv ops S h ∧ ∀ h', c ≤ h' → h' < h → ¬ Hv ops S h' := by
          obtain ⟨h, a, b, d⟩ := h2
          have aux : ∀ m h, h - c ≤ m → c ≤ h → h < i → Hv ops S h → ∃ h, c ≤ h ∧ h < i ∧ Hv ops S h ∧ ∀ h', c ≤ h' → h' < h → ¬ Hv ops S h' := by
            intro m
            induction m with
            | zero => intro h a1 a2 a3 a4; exact ⟨h, a2, a3, a4, fun h' b1 b2 => by omega⟩
            | succ m ih =>
              intro h a1 a2 a3 a4
              by_cases hx : ∃ h', c ≤ h' ∧ h' < h ∧ Hv ops S h'
              · obtain ⟨h', b1, b2, b3⟩ := hx
                exact ih h' (by omega) b1 (by omega) b3
              · exact ⟨h, a2, a3, a4, fun h' b1 b2 b3 => hx ⟨h', b1, b2, b3⟩⟩
          exact aux _ h (Nat.le_refl _) a b d
        obtain ⟨h, a1, a2, a3, a4⟩ := hfst
        obtain ⟨p, hp, hph, hpw⟩ := a3
        have hx := (E.again ho hp hm hh hph (fun hb => by have := hr.lt h hp hb; omega) (fun hb => by have := (I.hv h ⟨p, hp, hph, hpw⟩).1 (hl h hb); omega)).2 a2
        have hH := W.calm (i := c) (h - c) (by omega) (fun h' b1 b2 => a4 h' b1 (by omega))
        rw [show c + (h - c) = h by omega] at hH
        refine ⟨_, ?_, hx⟩
        intro b o' e
        rcases joinT_mem _ _ _ b o' e with hb | ⟨j, e1, e2⟩
        · rcases joinT_mem _ _ _ b o' hb with hb | ⟨j, e1, e2⟩
          · exact I.base b o' (by rw [← hH.2]; exact hb)
          · obtain ⟨e3, e4, e5⟩ := (Walk.pd hr W h (by omega)).1 e1
            exact I.ext j b o' (by omega) (hl j e2) e4 (fun ⟨q, b1, b2, b3⟩ => e5 ⟨q, by omega, b2, b3⟩)
        · obtain ⟨e3, e4, e5⟩ := (Walk.pd hr W i (by omega)).1 e1
          exact I.ext j b o' (by omega) (hl j e2) e4 (fun ⟨q, b1, b2, b3⟩ => e5 ⟨q, by omega, b2, b3⟩)
      · have hH : (S i).H = (S c).H := by
          rcases Nat.lt_or_ge i c with h | h
          · have hH := W.calm (i := i) (c - i) (by have := I.cN; omega) (fun h' b1 b2 hv => h1 ⟨h', b1, by omega, hv⟩)
            rw [show i + (c - i) = c by omega] at hH
            exact hH.2.symm
          · have hH := W.calm (i := c) (i - c) (by omega) (fun h' b1 b2 hv => h2 ⟨h', b1, by omega, hv⟩)
            rw [show c + (i - c) = i by omega] at hH
            exact hH.2
        refine ⟨_, I.join hr W hi hH ?_ hl, hrd0⟩
        rintro j ⟨h, b1, b2, b3⟩
        rcases Nat.lt_or_ge h i with b4 | b4
        · exact ⟨h, b4, b2, b3⟩
        · exact (h1 ⟨h, b4, b1, b2⟩).elim
end
end Go.Proofs.Ytlpnhikoipkjbaa.Abs
