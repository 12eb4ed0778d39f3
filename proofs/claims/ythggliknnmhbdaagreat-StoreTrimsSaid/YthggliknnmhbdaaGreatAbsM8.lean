/- Several texts in one: Zb Zc Zd Ze Zf. -/
import Derived.Test.YthggliknnmhbdaaGreatAbsM7
import Derived.Test.YthggliknnmhbdaaGreatAbsM5
/- Regions that draw their order, fourth part: each operation keeps what stands. No conditions. -/
section
set_option linter.unusedVariables false
namespace Go.Proofs.YthggliknnmhbdaaGreat.Abs
open Go Go.RowKit
section
variable {P : Program} {call : CallT} {lim : Pos} {ops : Array Oper} {pre : List Nat} {S : Nat → DS} {V : Nat → AV} {ρ0 ρ : Ren} {A0 A : Act} {w0 w : World} {ld : Array Bool} {c : Nat} {G : Hp}
/-- what is asked of the region besides -/
structure Env (P : Program) (lim : Pos) (ops : Array Oper) (pre : List Nat) (S : Nat → DS) (V : Nat → AV) : Prop where
  lim : lim.nat ≤ (S 0).nx.nat
  num : (S 0).n.nat = (S 0).nx.nat + newsL P ops.toList
  again : ∀ {l h : Nat} {o p : Oper}, ops[l]? = some o → ops[h]? = some p → readsMem o.op = true → isHeavy o.op = false → isHeavy p.op = true → ¬ bt pre h l → ¬ bt pre l h →
    (l < h → rdOp P (S l).a o.op (hp (joinT (pre.getD l 0) (S (h + 1)).pd (S (h + 1)).H)) = some (V l)) ∧
    (h < l → rdOp P (S l).a o.op (hp (joinT (pre.getD l 0) (S l).pd (joinT (pre.getD l 0) (S h).pd (S h).H))) = some (V l))
theorem Good.le_num {n n' : Pos} (h : Good ρ n G w) (hn : n.nat ≤ n'.nat) : Good ρ n' G w := ⟨h.rep, h.inj, fun b hb => h.fresh b (by omega)⟩
/-- a heavy one that is next: those before it have run, those after it have not -/
theorem Inv.heavy_c (hr : RegF P ops pre) (I : Inv lim ops pre S V ρ0 A0 w0 ld ρ c G A w) {i : Nat} {o : Oper} (ho : ops[i]? = some o) (hun : ld.getD i false = false) (hl : ∀ j, bt pre i j → ld.getD j false = true) (hv : Hv ops S i) :
    c ≤ i ∧ ∀ h, c ≤ h → h < i → ¬ Hv ops S h := by
  have hc : c ≤ i := by
    rcases Nat.lt_or_ge i c with h | h
    · have := (I.hv i hv).2 h; rw [hun] at this; cases this
    · exact h
  refine ⟨hc, fun h h1 h2 hh => ?_⟩
  obtain ⟨p, hp, hph, _⟩ := hh
  obtain ⟨o', ho', hoh, _⟩ := hv
  have := hl h (hr.hvy hp ho' hph hoh h2)
  have := (I.hv h ⟨p, hp, hph, by assumption⟩).1 this
  omega
theorem Inv.heavy_v (hr : RegF P ops pre) (I : Inv lim ops pre S V ρ0 A0 w0 ld ρ c G A w) (hsz : ld.size = ops.size) {i : Nat} {o : Oper} (ho : ops[i]? = some o) (hun : ld.getD i false = false) (hl : ∀ j, bt pre i j → ld.getD j false = true) (hv : Hv ops S i) :
    ∀ h, Hv ops S h → ((ld.setIfInBounds i true).getD h false = true ↔ h < i + 1) := by
  intro h hh
  have hi : i < ops.size := (Array.getElem?_eq_some_iff.1 ho).1
  by_cases e : h = i
  · subst e; simp [hsz, hi]
  · rw [getD_set_ne false (Ne.symm e)]
    obtain ⟨p, hp, hph, hpw⟩ := hh
    obtain ⟨o', ho', hoh, how⟩ := hv
    constructor
    · intro hlh
      rcases Nat.lt_or_ge h (i + 1) with h1 | h1
      · exact h1
      · have := hr.shut I.shut h hp hlh (hr.hvy ho' hp hoh hph (by omega))
        rw [hun] at this; cases this
    · intro h1
      exact hl h (hr.hvy hp ho' hph hoh (by omega))
theorem Inv.new (hr : RegF P ops pre) (W : Walk P call lim ops pre S V) (E : Env P lim ops pre S V) (I : Inv lim ops pre S V ρ0 A0 w0 ld ρ c G A w) (hsz : ld.size = ops.size) {i : Nat} {o : Oper} (ho : ops[i]? = some o) (hun : ld.getD i false = false)
    (hrd : ∀ e ∈ o.after, Region.binds .any e = true → ld.getD e.on false = true) (hn : ¬ Hv ops S i) {b : Pos} {ao : AO} (ha : Al S i b ao) {m x : Nat} {obj : Obj} {u : Value}
    (hobj : ObjC (ρ.put b (w.heap.size, 0, x)) 0 x ao obj) (hu : conc (ρ.put b (w.heap.size, 0, x)) (V i) = some u) :
    Inv lim ops pre S V ρ0 A0 w0 (ld.setIfInBounds i true) (ρ.put b (w.heap.size, 0, x)) c (G.set b ao) (A.put o.dst u) ((w.drewN m).alloc obj) := by
  have hi : i < ops.size := (Array.getElem?_eq_some_iff.1 ho).1
  have hb := I.free i b ao hi ha hun
  have hG : G b = none := by
    cases hg : G b with
    | none => rfl
    | some o' => obtain ⟨k, d, y, ob, h1, _⟩ := I.good.rep b o' hg; rw [hb] at h1; cases h1
  have hbn : b.nat < (S c).n.nat := by
    have := W.al_le hr hi ha
    have := I.num
    rw [E.num] at this
    omega
  have hb0 : (S 0).nx.nat ≤ b.nat := (W.al_le hr hi ha).1
  have hgd : Good ρ (S c).n G (w.drewN m) := I.good.drew (w.drawn + m)
  have hGle : ∀ q o', G q = some o' → G.set b ao q = some o' := by
    intro q o' e
    show (if q = b then some ao else G q) = some o'
    rw [if_neg (fun e' => by subst e'; rw [hG] at e; cases e)]
    exact e
  refine I.next hr W hsz ho hun hrd hu (Ren.le_put _ hb) I.cN (I.hv_light hn) (hgd.alloc_at hb hbn ao obj x hobj) (fun q o' e => hGle q o' (I.base q o' e)) ?_ ?_ I.bare I.num ?_ I.keep
  · intro j b' ao' hj hl ha' hm
    by_cases e : j = i
    · subst e
      obtain ⟨rfl, _⟩ := W.al hr hj ha
      have h2 := W.al hr hj ha'
      have h3 := h2.1
      subst h3
      obtain ⟨_, e2⟩ := W.al_inj hr hj hj ha ha'
      subst e2
      show (if (S j).nx = (S j).nx then some ao else _) = some ao
      rw [if_pos rfl]
    · rcases hl with hl | hl
      · exact (e hl).elim
      · exact hGle _ _ (I.ext j b' ao' hj hl ha' hm)
  · intro j b' ao' hj ha' hne hl
    have h1 := I.free j b' ao' hj ha' hl
    show (if b' = b then _ else ρ.at_ b') = none
    rw [if_neg (fun e => by subst e; exact hne (W.al_inj hr hj hi ha' ha).1)]
    exact h1
  · exact (Fr.alloc_free (w := w.drewN m) hb hb0 (Nat.le_refl _) ao obj x).drew' (w.drawn + m)
theorem Inv.heavy (hr : RegF P ops pre) (W : Walk P call lim ops pre S V) (E : Env P lim ops pre S V) (I : Inv lim ops pre S V ρ0 A0 w0 ld ρ c G A w) (hsz : ld.size = ops.size) {i : Nat} {o : Oper} (ho : ops[i]? = some o) (hun : ld.getD i false = false)
    (hrd : ∀ e ∈ o.after, Region.binds .any e = true → ld.getD e.on false = true) (hv : Hv ops S i) {ρ' : Ren} {w' : World} {u : Value} (hu : conc ρ' (V i) = some u)
    (hN : Now lim ρ (S i).n (joinT (pre.getD i 0) (S i).pd (S i).H) w ρ' (S (i + 1)).n (S (i + 1)).H w') : ∃ G', Inv lim ops pre S V ρ0 A0 w0 (ld.setIfInBounds i true) ρ' (i + 1) G' (A.put o.dst u) w' := by
  classical
  have hi : i < ops.size := (Array.getElem?_eq_some_iff.1 ho).1
  have hl : ∀ j, bt pre i j → ld.getD j false = true := fun j h => hr.ready I.shut ho hrd h
  obtain ⟨hc, hcalm⟩ := I.heavy_c hr ho hun hl hv
  have hH := W.calm (i := c) (i - c) (by omega) (fun h a b => hcalm h a (by omega))
  rw [show c + (i - c) = i by omega] at hH
  have hsub : Hp.le (hp (joinT (pre.getD i 0) (S i).pd (S i).H)) G := I.join hr W hi hH.2 (fun j ⟨h, a, b⟩ => ⟨h, by omega, b⟩) hl
  have hMg : ∀ j, ¬ Mg ops pre S (i + 1) j → ¬ Mg ops pre S c j ∧ ¬ bt pre i j := fun j h => ⟨fun ⟨k, a, b⟩ => h ⟨k, by omega, b⟩, fun h' => h ⟨i, by omega, hv, h'⟩⟩
  -- nothing of the unjoined ones is in the joined heap
  have hout : ∀ j b ao, j < ops.size → Al S j b ao → ¬ Mg ops pre S (i + 1) j → PT.get b (joinT (pre.getD i 0) (S i).pd (S i).H) = none := by
    intro j b ao hj ha hm
    cases hg : PT.get b (joinT (pre.getD i 0) (S i).pd (S i).H) with
    | none => rfl
    | some o' =>
      rcases joinT_mem _ _ _ b o' hg with h | ⟨j', h1, h2⟩
      · rw [hH.2, I.bare j b ao hj ha (hMg j hm).1] at h; cases h
      · obtain ⟨h3, h4, h5⟩ := (Walk.pd hr W i (by omega)).1 h1
        obtain ⟨e, _⟩ := W.al_inj hr (by omega) hj h4 ha
        subst e
        exact ((hMg j' hm).2 h2).elim
  have hnn : (S 0).n.nat ≤ (S i).n.nat := by rw [hH.1]; exact I.num
  have hlow : ∀ j b ao, j < ops.size → Al S j b ao → b.nat < (S i).n.nat := by
    intro j b ao hj ha
    have := W.al_le hr hj ha
    have := E.num
    omega
  have hbare : ∀ j b ao, j < ops.size → Al S j b ao → ¬ Mg ops pre S (i + 1) j → PT.get b (S (i + 1)).H = none := by
    intro j b ao hj ha hm
    cases hg : PT.get b (S (i + 1)).H with
    | none => rfl
    | some o' =>
      rcases hN.fr.dom b o' hg with ⟨ao0, h⟩ | h
      · have := hout j b ao hj ha hm
        have h' : PT.get b (joinT (pre.getD i 0) (S i).pd (S i).H) = some ao0 := h
        rw [this] at h'; cases h'
      · have := hlow j b ao hj ha; omega
  let X : Pos → AO → Prop := fun b ao => ∃ j, j < ops.size ∧ ld.getD j false = true ∧ Al S j b ao ∧ ¬ Mg ops pre S (i + 1) j
  let G' : Hp := fun b => match PT.get b (S (i + 1)).H with | some o' => some o' | none => if h : ∃ ao, X b ao then some (Classical.choose h) else none
  have hG1 : ∀ b o', PT.get b (S (i + 1)).H = some o' → G' b = some o' := by
    intro b o' h; simp only [G', h]
  have hG3 : ∀ b o', G' b = some o' → PT.get b (S (i + 1)).H = some o' ∨ (PT.get b (S (i + 1)).H = none ∧ X b o') := by
    intro b o' h
    simp only [G'] at h
    split at h
    · rename_i o2 h2; injection h with h; subst h; exact .inl h2
    · rename_i h2
      split at h
      · rename_i h3; injection h with h; subst h; exact .inr ⟨h2, Classical.choose_spec h3⟩
      · cases h
  have hX : ∀ b ao, X b ao → G b = some ao ∧ PT.get b (joinT (pre.getD i 0) (S i).pd (S i).H) = none := by
    rintro b ao ⟨j, h1, h2, h3, h4⟩
    exact ⟨I.ext j b ao h1 h2 h3 (hMg j h4).1, hout j b ao h1 h3 h4⟩
  have hG2 : ∀ j b ao, j < ops.size → ld.getD j false = true → Al S j b ao → ¬ Mg ops pre S (i + 1) j → G' b = some ao := by
    intro j b ao h1 h2 h3 h4
    have hx : ∃ ao, X b ao := ⟨ao, j, h1, h2, h3, h4⟩
    simp only [G', hbare j b ao h1 h3 h4, dif_pos hx]
    obtain ⟨j', a1, a2, a3, a4⟩ := Classical.choose_spec hx
    rw [(W.al_inj hr h1 a1 h3 a3).2]
  -- an unjoined one's block is not turned
  have hXrep : ∀ b ao, X b ao → ∃ k d x ob, ρ.at_ b = some (k, d, x) ∧ ρ'.at_ b = some (k, d, x) ∧ w'.heap[k]? = some ob ∧ ObjC ρ' d x ao ob ∧ k < w.heap.size ∧ ∀ b' ao' d' x', PT.get b' (joinT (pre.getD i 0) (S i).pd (S i).H) = some ao' → ρ.at_ b' ≠ some (k, d', x') := by
    intro b ao hx
    obtain ⟨g1, g2⟩ := hX b ao hx
    obtain ⟨k, d, x, ob, h1, h2, h3⟩ := I.good.rep b ao g1
    have hk : k < w.heap.size := (Array.getElem?_eq_some_iff.1 h2).1
    have hno : ∀ b' ao' d' x', PT.get b' (joinT (pre.getD i 0) (S i).pd (S i).H) = some ao' → ρ.at_ b' ≠ some (k, d', x') := by
      intro b' ao' d' x' e1 e2
      have := I.good.inj b b' ao ao' k d x d' x' g1 (hsub _ _ e1) h1 e2
      subst this
      rw [g2] at e1; cases e1
    exact ⟨k, d, x, ob, h1, hN.fr.le.at_ _ _ h1, (hN.fr.block k hk (fun b' ao' d' x' e => hno b' ao' d' x' e)).trans h2, h3.le hN.fr.le, hk, hno⟩
  refine ⟨G', I.next hr W hsz ho hun hrd hu hN.fr.le (by omega) (I.heavy_v hr hsz ho hun hl hv) ⟨?_, ?_, hN.good.fresh⟩ hG1 ?_ ?_ hbare (Nat.le_trans hnn hN.fr.num) ⟨hN.fr.le, Nat.le_refl _, ?_, hN.fr.os, hN.fr.tape, hN.fr.output, hN.fr.size, ?_, ?_, ?_⟩ ?_⟩
  · intro b ao e
    rcases hG3 b ao e with h | ⟨_, h⟩
    · exact hN.good.rep b ao h
    · obtain ⟨k, d, x, ob, _, h1, h2, h3, _⟩ := hXrep b ao h
      exact ⟨k, d, x, ob, h1, h2, h3⟩
  · have mixed : ∀ b b' ao ao' k d x d' x', PT.get b (S (i + 1)).H = some ao → X b' ao' → ρ'.at_ b = some (k, d, x) → ρ'.at_ b' = some (k, d', x') → False := by
      intro b b' ao ao' k d x d' x' e1 e2 e3 e4
      obtain ⟨k2, d2, x2, ob, h1, h2, h3, h4, h5, h6⟩ := hXrep b' ao' e2
      rw [e4] at h2; injection h2 with h2; injection h2 with h2; subst h2
      rcases hN.fr.new b ao k d x e1 e3 with h | ⟨b0, ao0, d0, x0, a1, a2⟩
      · omega
      · exact h6 b0 ao0 d0 x0 a1 a2
    intro b b' ao ao' k d x d' x' e1 e2 e3 e4
    rcases hG3 b ao e1 with h | ⟨_, h⟩ <;> rcases hG3 b' ao' e2 with h' | ⟨_, h'⟩
    · exact hN.good.inj b b' ao ao' k d x d' x' h h' e3 e4
    · exact (mixed b b' ao ao' k d x d' x' h h' e3 e4).elim
    · exact (mixed b' b ao' ao k d' x' d x h' h e4 e3).elim
    · obtain ⟨k1, d1, x1, _, a1, a2, _⟩ := hXrep b ao h
      obtain ⟨k2, d2, x2, _, c1, c2, _⟩ := hXrep b' ao' h'
      rw [e3] at a2; injection a2 with a2; rw [e4] at c2; injection c2 with c2
      rw [← a2] at a1; rw [← c2] at c1
      exact I.good.inj b b' ao ao' k d x d' x' (hX b ao h).1 (hX b' ao' h').1 a1 c1
  · intro j b ao hj hlj ha hm
    rcases hlj with rfl | hlj
    · exact ((W.al hr hj ha).2.2 hv).elim
    · exact hG2 j b ao hj hlj ha hm
  · intro j b ao hj ha hne hlj
    rw [hN.fr.old b (hlow j b ao hj ha)]
    exact I.free j b ao hj ha hlj
  · intro b hb
    exact hN.fr.old b (by have := E.num; omega)
  · intro k hk hn
    exact hN.fr.block k hk (fun b ao d x e => hn b ao d x (hsub _ _ e))
  · intro b ao k d x e1 e2
    rcases hG3 b ao e1 with h | ⟨_, h⟩
    · rcases hN.fr.new b ao k d x h e2 with h | ⟨b0, ao0, d0, x0, a1, a2⟩
      · exact .inl h
      · exact .inr ⟨b0, ao0, d0, x0, hsub _ _ a1, a2⟩
    · obtain ⟨k1, d1, x1, _, a1, a2, _⟩ := hXrep b ao h
      rw [e2] at a2; injection a2 with a2; rw [← a2] at a1
      exact .inr ⟨b, ao, d, x, (hX b ao h).1, a1⟩
  · intro b ao e
    rcases hG3 b ao e with h | ⟨_, h⟩
    · rcases hN.fr.dom b ao h with ⟨ao0, h1⟩ | h1
      · exact .inl ⟨ao0, hsub _ _ h1⟩
      · exact .inr (by have := E.num; omega)
    · exact .inl ⟨ao, (hX b ao h).1⟩
  · intro q hq
    rw [hN.keep q hq, joinT_not, hH.2, I.keep q hq]
    intro j o' hm
    obtain ⟨h3, h4, _⟩ := (Walk.pd hr W i (by omega)).1 hm
    have := W.al_le hr (by omega) h4
    have := E.lim
    omega
/-- what a light one reads -/
theorem Inv.sees (hr : RegF P ops pre) (W : Walk P call lim ops pre S V) (E : Env P lim ops pre S V) (I : Inv lim ops pre S V ρ0 A0 w0 ld ρ c G A w) {i : Nat} {o : Oper} (ho : ops[i]? = some o) (hun : ld.getD i false = false)
    (hrd : ∀ e ∈ o.after, Region.binds .any e = true → ld.getD e.on false = true) (hh : isHeavy o.op = false)
    (hrd0 : rdOp P (S i).a o.op (hp (joinT (pre.getD i 0) (S i).pd (S i).H)) = some (V i)) : ∃ g, Hp.le g G ∧ rdOp P (S i).a o.op g = some (V i) := by
  have hi : i < ops.size := (Array.getElem?_eq_some_iff.1 ho).1
  have hl : ∀ j, bt pre i j → ld.getD j false = true := fun j h => hr.ready I.shut ho hrd h
  have hni : ¬ Hv ops S i := fun ⟨p, hp, h, _⟩ => by rw [ho] at hp; injection hp with hp; subst hp; rw [hh] at h; cases h
  cases hm : readsMem o.op with
  | false => exact ⟨G, fun _ _ e => e, (rd_pure o.op hm _ _).symm.trans hrd0⟩
  | true =>
    by_cases h1 : ∃ h, i ≤ h ∧ h < c ∧ Hv ops S h
    · -- the last of them
      have hlast : ∃ h, i ≤ h ∧ h < c ∧ Hv ops S h ∧ ∀ h', h < h' → h' < c → ¬ Hv ops S h' := by
        obtain ⟨h, a, b, d⟩ := h1
        have aux : ∀ m h, c - h ≤ m → i ≤ h → h < c → Hv ops S h → ∃ h, i ≤ h ∧ h < c ∧ Hv ops S h ∧ ∀ h', h < h' → h' < c → ¬ Hv ops S h' := by
          intro m
          induction m with
          | zero => intro h a1 a2 a3; omega
          | succ m ih =>
            intro h a1 a2 a3 a4
            by_cases hx : ∃ h', h < h' ∧ h' < c ∧ Hv ops S h'
            · obtain ⟨h', b1, b2, b3⟩ := hx
              exact ih h' (by omega) (by omega) b2 b3
            · exact ⟨h, a2, a3, a4, fun h' b1 b2 b3 => hx ⟨h', b1, b2, b3⟩⟩
        exact aux _ h (Nat.le_refl _) a b d
      obtain ⟨h, a1, a2, a3, a4⟩ := hlast
      obtain ⟨p, hp, hph, hpw⟩ := a3
      have hne : i ≠ h := fun e => hni (e ▸ ⟨p, hp, hph, hpw⟩)
      have hld : ld.getD h false = true := (I.hv h ⟨p, hp, hph, hpw⟩).2 a2
      have hx := (E.again ho hp hm hh hph (fun hb => by have := hr.shut I.shut h hp hld hb; rw [hun] at this; cases this) (fun hb => by have := hr.lt i ho hb; omega)).1 (by omega)
      have hH := W.calm (i := h + 1) (c - (h + 1)) (by have := I.cN; omega) (fun h' b1 b2 => a4 h' (by omega) (by omega))
      rw [show h + 1 + (c - (h + 1)) = c by omega] at hH
      refine ⟨_, ?_, hx⟩
      intro b o' e
      rcases joinT_mem _ _ _ b o' e with hb | ⟨j, e1, e2⟩
      · exact I.base b o' (by rw [hH.2]; exact hb)
      · obtain ⟨e3, e4, e5⟩ := (Walk.pd hr W (h + 1) (by have := I.cN; omega)).1 e1
        refine I.ext j b o' (by have := I.cN; omega) (hl j e2) e4 (fun ⟨q, b1, b2, b3⟩ => e5 ⟨q, ?_, b2, b3⟩)
        rcases Nat.lt_or_ge q (h + 1) with hq | hq
        · exact hq
        · exact (a4 q (by omega) b1 b2).elim
    · by_cases h2 : ∃ h, c ≤ h ∧ h < i ∧ Hv ops S h
      · have hfst : ∃ h, c ≤ h ∧ h < i ∧ Hv ops S h ∧ ∀ h', c ≤ h' → h' < h → ¬ Hv ops S h' := by
          obtain ⟨h, a, b, d⟩ := h2
          have aux : ∀ m h, h - c ≤ m → c ≤ h → h < i → Hv ops S h → ∃ h, c ≤ h ∧ h < i ∧ Hv ops S h ∧ ∀ h', c ≤ h' → h' < h → ¬ Hv ops S h' := by
            intro m
            induction m with
            | zero => intro h a1 a2 a3 a4; exact ⟨h, a2, a3, a4, fun h' b1 b2 => by omega⟩
            | succ m ih =>
              intro h a1 a2 a3 a4
              by_cases hx : ∃ h', c ≤ h' ∧ h' < h ∧ Hv ops S h'
              · obtain ⟨h', b1, b2, b3⟩ := hx
                exact ih h' (by omega) b1 (by omega) b3
              · exact ⟨h, a2, a3, a4, fun h' b1 b2 b3 => hx ⟨h', b1, b2, b3⟩⟩
          exact aux _ h (Nat.le_refl _) a b d
        obtain ⟨h, a1, a2, a3, a4⟩ := hfst
        obtain ⟨p, hp, hph, hpw⟩ := a3
        have hx := (E.again ho hp hm hh hph (fun hb => by have := hr.lt h hp hb; omega) (fun hb => by have := (I.hv h ⟨p, hp, hph, hpw⟩).1 (hl h hb); omega)).2 a2
        have hH := W.calm (i := c) (h - c) (by omega) (fun h' b1 b2 => a4 h' b1 (by omega))
        rw [show c + (h - c) = h by omega] at hH
        refine ⟨_, ?_, hx⟩
        intro b o' e
        rcases joinT_mem _ _ _ b o' e with hb | ⟨j, e1, e2⟩
        · rcases joinT_mem _ _ _ b o' hb with hb | ⟨j, e1, e2⟩
          · exact I.base b o' (by rw [← hH.2]; exact hb)
          · obtain ⟨e3, e4, e5⟩ := (Walk.pd hr W h (by omega)).1 e1
            exact I.ext j b o' (by omega) (hl j e2) e4 (fun ⟨q, b1, b2, b3⟩ => e5 ⟨q, by omega, b2, b3⟩)
        · obtain ⟨e3, e4, e5⟩ := (Walk.pd hr W i (by omega)).1 e1
          exact I.ext j b o' (by omega) (hl j e2) e4 (fun ⟨q, b1, b2, b3⟩ => e5 ⟨q, by omega, b2, b3⟩)
      · have hH : (S i).H = (S c).H := by
          rcases Nat.lt_or_ge i c with h | h
          · have hH := W.calm (i := i) (c - i) (by have := I.cN; omega) (fun h' b1 b2 hv => h1 ⟨h', b1, by omega, hv⟩)
            rw [show i + (c - i) = c by omega] at hH
            exact hH.2.symm
          · have hH := W.calm (i := c) (i - c) (by omega) (fun h' b1 b2 hv => h2 ⟨h', b1, by omega, hv⟩)
            rw [show c + (i - c) = i by omega] at hH
            exact hH.2
        refine ⟨_, I.join hr W hi hH ?_ hl, hrd0⟩
        rintro j ⟨h, b1, b2, b3⟩
        rcases Nat.lt_or_ge h i with b4 | b4
        · exact ⟨h, b4, b2, b3⟩
        · exact (h1 ⟨h, b4, b1, b2⟩).elim
end
end Go.Proofs.YthggliknnmhbdaaGreat.Abs
end
/- Regions that draw their order, last part: every order. No conditions. -/
section
set_option linter.unusedVariables false
namespace Go.Proofs.YthggliknnmhbdaaGreat.Abs
open Go Go.RowKit
section
variable {P : Program} {call : CallT} {lim : Pos} {ops : Array Oper} {pre : List Nat} {S : Nat → DS} {V : Nat → AV} {ρ0 : Ren} {A0 : Act} {w0 : World}
theorem Inv.step {r : Option Nat} (hcall : CallOk P lim call) (hr : RegF P ops pre) (W : Walk P call lim ops pre S V) (E : Env P lim ops pre S V) {ρ : Ren} {A : Act} {w : World} {ld : Array Bool} {c : Nat} {G : Hp} (I : Inv lim ops pre S V ρ0 A0 w0 ld ρ c G A w) (hsz : ld.size = ops.size) {i : Nat} {o : Oper} (ho : ops[i]? = some o) (hun : ld.getD i false = false)
    (hrd : ∀ e ∈ o.after, Region.binds .any e = true → ld.getD e.on false = true) {Q : Exit → Act → World → Prop} {K : Act → World → Prop}
    (hK : ∀ ρ' c' G' A' w', Inv lim ops pre S V ρ0 A0 w0 (ld.setIfInBounds i true) ρ' c' G' A' w' → K A' w') : wpOpIn (Fw r) 0 P ops Q i K A w := by
  have hi : i < ops.size := (Array.getElem?_eq_some_iff.1 ho).1
  have hl : ∀ j, bt pre i j → ld.getD j false = true := fun j h => hr.ready I.shut ho hrd h
  have hs := I.slots hr W ho hun hl
  have hnone : ∀ b ao, (i, b, ao) ∉ (S i).pd := fun b ao e => by have := (Walk.pd hr W i (by omega)).1 e; omega
  have st := W.step i o ho
  generalize hV : V i = v at st
  generalize hS : S (i + 1) = s' at st
  unfold wpOpIn
  simp only [ho]
  cases st with
  | skip a' hw hp =>
    rw [if_neg (by rw [want_conc ((restr_want ops o (S i).a).trans hw) hs]; simp)]
    refine ⟨fun _ _ => trivial, hK _ _ _ _ _ (I.still hr W hsz ho hun hrd ?_ ?_ (by rw [hV]; rfl))⟩
    · rintro ⟨p, hp, _, h⟩
      rw [ho] at hp; injection hp with hp; subst hp
      rw [hw] at h; cases h
    · intro b ao ha
      unfold Al at ha
      rw [hS] at ha
      exact hnone b ao ha
  | heavy v n2 H2 a' hw hh hop hp =>
    have hv : Hv ops S i := ⟨o, ho, hh, hw⟩
    rw [if_pos (want_conc ((restr_want ops o (S i).a).trans hw) hs)]
    obtain ⟨hc, hcalm⟩ := I.heavy_c hr ho hun hl hv
    have hH := W.calm (i := c) (i - c) (by omega) (fun h a b => hcalm h a (by omega))
    rw [show c + (i - c) = i by omega] at hH
    have hsub : Hp.le (Abs.hp (joinT (pre.getD i 0) (S i).pd (S i).H)) G := I.join hr W hi hH.2 (fun j ⟨h, a, b⟩ => ⟨h, by omega, b⟩) hl
    have hg : Good ρ (S i).n (Abs.hp (joinT (pre.getD i 0) (S i).pd (S i).H)) w := by rw [hH.1]; exact I.good.sub hsub
    have hln : lim.nat ≤ (S i).n.nat := by rw [hH.1]; have := I.num; have := E.num; have := E.lim; omega
    rw [← opK_ag o.op (restr_ag ops o (S i).a)] at hop
    refine opK_some hcall hop hln hs hg ?_
    rintro u w1 ⟨v', n', H', L', ρ', h1, h2, h3, h4⟩
    injection h1 with h1
    have h5 := h2 (v', n', H') (by rw [← h1]; simp)
    simp only [List.mem_singleton, Prod.mk.injEq] at h5
    obtain ⟨rfl, rfl, rfl⟩ := h5
    obtain ⟨G', hI⟩ := I.heavy hr W E hsz ho hun hrd hv (u := u) (by rw [hV]; exact h3) (by rw [hS]; exact h4)
    exact hK _ _ _ _ _ hI
  | new ao v a' hw hh hn hm hp =>
    rw [if_pos (want_conc ((restr_want ops o (S i).a).trans hw) hs)]
    have ha : Al S i (S i).nx ao := by unfold Al; rw [hS]; simp
    have hni : ¬ Hv ops S i := by
      rintro ⟨p, hp, h, _⟩
      rw [ho] at hp; injection hp with hp; subst hp
      rw [hh] at h; cases h
    obtain ⟨m, x, obj, u, h1, h2, h3⟩ := hm ρ A hs (I.free i _ ao hi ha hun) w
    exact Oper.wp_value h1 (hK _ _ _ _ _ (I.new hr W E hsz ho hun hrd hni ha h2 (by rw [hV]; exact h3)))
  | read v a' hw hh hn hrv hp =>
    rw [if_pos (want_conc ((restr_want ops o (S i).a).trans hw) hs)]
    have hni : ¬ Hv ops S i := by
      rintro ⟨p, hp, h, _⟩
      rw [ho] at hp; injection hp with hp; subst hp
      rw [hh] at h; cases h
    obtain ⟨g, h1, h2⟩ := I.sees hr W E ho hun hrd hh (by rw [hV]; exact hrv)
    rw [← rdOp_ag o.op (restr_ag ops o (S i).a)] at h2
    obtain ⟨u, h3, h4⟩ := rdOp_run (o := o) (I.good.sub h1) hs h2
    refine Oper.wp_value h4 (hK _ _ _ _ _ (I.still hr W hsz ho hun hrd hni ?_ h3))
    intro b ao ha
    unfold Al at ha
    rw [hS] at ha
    exact hnone b ao ha
theorem count_le_set {l : Array Bool} {i : Nat} {n : Nat} (hi : l.getD i true = false) (h : (l.toList.filter (!·)).length ≤ n + 1) :
    ((l.setIfInBounds i true).toList.filter (!·)).length ≤ n := by
  have hlt : i < l.size := by
    rcases Nat.lt_or_ge i l.size with h' | h'
    · exact h'
    · simp [Array.getElem?_eq_none h'] at hi
  have hx : l.toList[i]? = some false := by
    simp [hlt] at hi
    simp [hlt, hi]
  rw [Array.toList_setIfInBounds]
  generalize l.toList = xs at *
  clear hi hlt
  induction xs generalizing i n with
  | nil => simp at hx
  | cons x xs ih =>
    cases i with
    | zero =>
      simp at hx
      subst hx
      simp at h ⊢
      exact h
    | succ i =>
      simp at hx
      cases x with
      | true =>
        simp at h ⊢
        exact ih h hx
      | false =>
        simp at h ⊢
        cases n with
        | zero =>
          exfalso
          have : xs.filter (!·) = [] := List.eq_nil_of_length_eq_zero (by omega)
          have hm : false ∈ xs := List.mem_of_getElem? hx
          have := List.filter_eq_nil_iff.1 this false hm
          simp at this
        | succ n => exact Nat.succ_le_succ (ih (by omega) hx)
theorem Inv.any {r : Option Nat} (hcall : CallOk P lim call) (hr : RegF P ops pre) (W : Walk P call lim ops pre S V) (E : Env P lim ops pre S V) {Q : Exit → Act → World → Prop}
    (hQ : ∀ ld ρ c G A w, Inv lim ops pre S V ρ0 A0 w0 ld ρ c G A w → (∀ i, i < ops.size → ld.getD i false = true) → Q .normal A w) :
    ∀ (fuel : Nat) (ld : Array Bool) (ρ : Ren) (c : Nat) (G : Hp) (A : Act) (w : World), ld.size = ops.size → (ld.toList.filter (!·)).length ≤ fuel → Inv lim ops pre S V ρ0 A0 w0 ld ρ c G A w → wpAnyIn (Fw r) 0 P .any ops Q fuel ld A w := by
  have hall : ∀ (ld : Array Bool) (ρ : Ren) (c : Nat) (G : Hp) (A : Act) (w : World), ld.size = ops.size → Inv lim ops pre S V ρ0 A0 w0 ld ρ c G A w → Region.ready .any ops ld = [] → Q .normal A w := by
    intro ld ρ c G A w hsz I hrd
    refine hQ ld ρ c G A w I ?_
    intro i
    induction i using Nat.strongRecOn with
    | ind i ih =>
      intro hi
      cases hb : ld.getD i false with
      | true => rfl
      | false =>
        exfalso
        have hm : i ∈ Region.ready .any ops ld := mem_ready.2 ⟨by simp [hsz, hi] at hb ⊢; exact hb, ops[i], by simp [hi], fun e he hbe => by
          have := hr.edge (i := i) (o := ops[i]) (by simp [hi]) he hbe
          exact ih e.on this (by omega)⟩
        rw [hrd] at hm
        cases hm
  intro fuel
  induction fuel with
  | zero =>
    intro ld ρ c G A w hsz hc I
    have hrd : Region.ready .any ops ld = [] := by
      rw [List.eq_nil_iff_forall_not_mem]
      intro j hj
      have h0 := (mem_ready.1 hj).1
      have hlt : j < ld.size := by
        rcases Nat.lt_or_ge j ld.size with h' | h'
        · exact h'
        · simp [Array.getElem?_eq_none h'] at h0
      have hm : false ∈ ld.toList := by
        simp [hlt] at h0
        rw [← h0]
        simp
      have hn := List.eq_nil_of_length_eq_zero (Nat.le_zero.1 hc)
      have := List.filter_eq_nil_iff.1 hn false hm
      simp at this
    exact ⟨hrd, hall ld ρ c G A w hsz I hrd⟩
  | succ fuel ih =>
    intro ld ρ c G A w hsz hc I
    refine ⟨hall ld ρ c G A w hsz I, fun i hi => ?_⟩
    obtain ⟨hun, o, ho, hes⟩ := mem_ready.1 hi
    have hlt : i < ops.size := (Array.getElem?_eq_some_iff.1 ho).1
    have hun' : ld.getD i false = false := by simp [hsz, hlt] at hun ⊢; exact hun
    exact I.step hcall hr W E hsz ho hun' (fun e he hb => hes e (by simpa using he) hb) fun ρ' c' G' A' w' I' => ih _ ρ' c' G' A' w' (by simpa using hsz) (count_le_set hun hc) I'
end
end Go.Proofs.YthggliknnmhbdaaGreat.Abs
end
/- The word on regions that draw their order; the closing theorem. No conditions. -/
section
set_option linter.unusedVariables false
namespace Go.Proofs.YthggliknnmhbdaaGreat.Abs
open Go Go.RowKit
theorem againOk_at {P : Program} {ops : Array Oper} {pre : List Nat} {ms : List Mom} {lpd : Pend} {last : PT AO} : ∀ {u : List (Nat × Nat)}, againOk P ops pre ms lpd last u = true → ∀ {l h : Nat}, (l, h) ∈ u →
    ∃ ml ol mh, ms[l]? = some ml ∧ ops[l]? = some ol ∧ ms[h]? = some mh ∧ (l < h → rdOp P ml.a ol.op (hp (match ms[h + 1]? with | some m2 => joinT (pre.getD l 0) m2.pd m2.H | none => joinT (pre.getD l 0) lpd last)) = some ml.v) ∧
      (h < l → rdOp P ml.a ol.op (hp (joinT (pre.getD l 0) ml.pd (joinT (pre.getD l 0) mh.pd mh.H))) = some ml.v)
  | [], _, _, _, hm => by cases hm
  | (l', h') :: u, hh, l, h, hm => by
    unfold againOk at hh
    rw [Bool.and_eq_true] at hh
    obtain ⟨h1, h2⟩ := hh
    rcases List.mem_cons.1 hm with e | e
    · injection e with e1 e2
      subst e1; subst e2
      split at h1
      · rename_i ml ol mh a1 a2 a3
        have same : ∀ {x : AV} {y : Option AV}, sameV x y = true → y = some x := by
          intro x y hs
          unfold sameV at hs
          split at hs
          · rename_i y'; rw [eqVal_eq _ _ hs]
          · cases hs
        refine ⟨ml, ol, mh, a1, a2, a3, fun hlt => ?_, fun hlt => ?_⟩
        · rw [if_pos (by rw [Nat.blt_eq]; exact hlt)] at h1
          exact same h1
        · rw [if_neg (by rw [Nat.blt_eq]; omega)] at h1
          exact same h1
      · cases h1
    · exact againOk_at h2 e
theorem mem_unordL {ops : Array Oper} {l h : Nat} {o p : Oper} (ho : ops[l]? = some o) (hp : ops[h]? = some p) (hm : readsMem o.op = true) (hh : isHeavy o.op = false) (hph : isHeavy p.op = true) (h1 : ¬ bt (preL ops) h l) (h2 : ¬ bt (preL ops) l h) : (l, h) ∈ unordL ops := by
  unfold unordL
  simp only
  refine List.mem_flatMap.2 ⟨(o, l), mem_zip ho, ?_⟩
  rw [hm, hh]
  simp only [Bool.not_false, Bool.and_self, if_true]
  refine List.mem_map.2 ⟨(p, h), List.mem_filter.2 ⟨mem_zip hp, ?_⟩, rfl⟩
  unfold bt at h1 h2
  rw [Bool.not_eq_true] at h1 h2
  simp only [hph, h1, h2, Bool.not_false, Bool.and_self]
theorem drawOk (P : Program) : DrawOk P := by
  intro lim call ops a n H k L id hcall h hln r ρ A w hs hg
  unfold drawK at h
  split at h
  · rename_i hreg
    have hr := regF hreg
    obtain ⟨ms, t, hch, h⟩ := trK_some _ _ h
    split at h
    · rename_i hag
      rw [addAllK_eq] at h
      rw [List.append_nil, List.reverse_reverse] at hag
      obtain ⟨hlen, h0, hst⟩ := chain_at hch
      have W : Walk P call lim ops (preL ops) (stF ms t) (vF ms) := ⟨fun j o ho => by have := hst j o (by simpa using ho); rwa [Nat.zero_add] at this, by rw [h0]⟩
      have mom : ∀ {j : Nat} {m : Mom}, (ms.map momOf)[j]? = some m → m = ⟨(stF ms t j).a, (stF ms t j).H, (stF ms t j).pd, vF ms j⟩ := by
        intro j m e
        rw [List.getElem?_map] at e
        cases hj : ms[j]? with
        | none => rw [hj] at e; cases e
        | some q =>
          rw [hj] at e
          injection e with e
          rw [← e]
          simp [stF, vF, hj, momOf]
      have E : Env P lim ops (preL ops) (stF ms t) (vF ms) := by
        refine ⟨by rw [h0]; exact hln, by rw [h0]; exact upN_nat _ _, ?_⟩
        intro l h o p ho hp hm hh hph h1 h2
        obtain ⟨ml, ol, mh, a1, a2, a3, a4, a5⟩ := againOk_at hag (mem_unordL ho hp hm hh hph h1 h2)
        rw [ho] at a2; injection a2 with a2; subst a2
        have e1 := mom a1
        have e3 := mom a3
        subst e1; subst e3
        refine ⟨fun hlt => ?_, a5⟩
        have a5 := a4 hlt
        have hH : (match (ms.map momOf)[h + 1]? with | some m2 => joinT ((preL ops).getD l 0) m2.pd m2.H | none => joinT ((preL ops).getD l 0) t.pd t.H) = joinT ((preL ops).getD l 0) (stF ms t (h + 1)).pd (stF ms t (h + 1)).H := by
          cases hj : (ms.map momOf)[h + 1]? with
          | some m2 => rw [mom hj]
          | none =>
            rw [List.getElem?_map] at hj
            cases hj' : ms[h + 1]? with
            | some q => rw [hj'] at hj; cases hj
            | none => simp [stF, hj']
        rw [hH] at a5
        exact a5
      have hN : stF ms t ops.size = t := by
        have : ms[ops.size]? = none := by rw [List.getElem?_eq_none]; simp [hlen]
        simp [stF, this]
      have hlow : ∀ {j : Nat} {b : Pos} {ao : AO}, j < ops.size → Al (stF ms t) j b ao → n.nat ≤ b.nat := by
        intro j b ao hj ha
        have := (W.al_le hr hj ha).1
        rw [h0] at this
        exact this
      have hnH : ∀ b, n.nat ≤ b.nat → PT.get b H = none := by
        intro b hb
        cases hx : PT.get b H with
        | none => rfl
        | some o' =>
          obtain ⟨k', d, x, ob, e1, _⟩ := hg.rep b o' hx
          rw [hg.fresh b hb] at e1; cases e1
      have hnofalse : ∀ i, (Array.replicate ops.size false).getD i false = false := by
        intro i
        simp only [Array.getD_eq_getD_getElem?, Array.getElem?_replicate]
        split <;> rfl
      have I0 : Inv lim ops (preL ops) (stF ms t) (vF ms) ρ A { w with drawn := w.drawn + 1 } (Array.replicate ops.size false) ρ 0 (hp H) A { w with drawn := w.drawn + 1 } := by
        refine ⟨Nat.zero_le _, ?_, ?_, ?_, ?_, ?_, ?_, ?_, Nat.le_refl _, ?_, fun _ _ => rfl, ?_, ?_, rfl⟩
        · intro h hh
          rw [hnofalse]
          simp
        · intro i o e ho hl
          rw [hnofalse] at hl; cases hl
        · rw [h0]
          exact (Good.le_num hg (by rw [upN_nat]; omega)).drew _
        · rw [h0]; exact fun b o e => e
        · intro j b ao hj hl
          rw [hnofalse] at hl; cases hl
        · intro j b ao hj ha _
          exact hg.fresh b (hlow hj ha)
        · intro j b ao hj ha _
          rw [h0]
          exact hnH b (hlow hj ha)
        · rw [h0]
          exact Fr.refl _ _ _ _ hg.ids
        · intro i o t' ho hl
          rw [hnofalse] at hl; cases hl
        · intro t' _ v e
          rw [h0] at e
          exact hs t' v e
      refine wpIn_region_any hr.mixed ?_
      refine Inv.any hcall hr W E ?_ ops.size _ ρ 0 (hp H) A _ (by simp) (by simp) I0
      intro ld ρ' c G A' w' I hall
      refine ⟨rfl, t.a, t.n, addAllT t.pd t.H, L, ρ', h, fun _ hx => hx, ?_, marks0 I.defers, ?_, ?_, ?_⟩
      · intro s v e
        obtain ⟨s1, s2⟩ := Walk.slot hr W (t := s) ops.size (Nat.le_refl _)
        rw [hN] at s1 s2
        by_cases hx : ∃ (j : Nat) (p : Oper), ops[j]? = some p ∧ p.dst = some s
        · obtain ⟨j, p, hp, hd⟩ := hx
          have hj : j < ops.size := (Array.getElem?_eq_some_iff.1 hp).1
          rw [s1 j p hj hp hd] at e
          injection e with e; subst e
          exact I.set j p s hp (hall j hj) hd
        · have hno : ∀ (k : Nat) (q : Oper), ops[k]? = some q → q.dst ≠ some s := fun k q hq hd => hx ⟨k, q, hq, hd⟩
          rw [s2 (fun k q _ hq => hno k q hq)] at e
          exact I.unset s (fun k q hq _ => hno k q hq) v e
      all_goals
        have hcalm := W.calm (i := c) (ops.size - c) (by have := I.cN; omega) (fun h' b1 b2 hv => by
          have hv' := hv; obtain ⟨p, hp, _⟩ := hv'
          have := (I.hv h' hv).1 (hall h' (Array.getElem?_eq_some_iff.1 hp).1)
          omega)
        rw [show c + (ops.size - c) = ops.size by have := I.cN; omega, hN] at hcalm
        have hsub : Hp.le (hp (addAllT t.pd t.H)) G := by
          intro b o e
          rcases addAllT_mem _ _ b o e with h | ⟨j, h1⟩
          · exact I.base b o (by rw [← hcalm.2]; exact h)
          · rw [← hN] at h1
            obtain ⟨h3, h4, h5⟩ := (Walk.pd hr W ops.size (Nat.le_refl _)).1 h1
            exact I.ext j b o h3 (hall j h3) h4 (fun ⟨h, b1, b2⟩ => h5 ⟨h, by have := I.cN; omega, b2⟩)
      · rw [hcalm.1]
        exact I.good.sub hsub
      · have F := I.fr
        rw [h0] at F
        have hnum := I.num
        rw [h0, ← hcalm.1] at hnum
        simp only [upN_nat] at hnum
        have F' : Fr ρ n (hp H) { w with drawn := w.drawn + 1 } ρ' t.n (hp (addAllT t.pd t.H)) w' :=
          ⟨F.le, by omega, F.old, F.os, F.tape, F.output, F.size, F.block, fun b ao k' d x e1 e2 => F.new b ao k' d x (hsub _ _ e1) e2, fun b ao e => F.dom b ao (hsub _ _ e)⟩
        exact F'.drew' (w.drawn + 1)
      · intro q hq
        rw [addAllT_not, hcalm.2, I.keep q hq, h0]
        intro j o' hm
        rw [← hN] at hm
        obtain ⟨h3, h4, _⟩ := (Walk.pd hr W ops.size (Nat.le_refl _)).1 hm
        have := hlow h3 h4
        omega
    · cases h
  · cases h
end Go.Proofs.YthggliknnmhbdaaGreat.Abs
end
/- A closed run that comes to true. No conditions. -/
section
set_option linter.unusedVariables false
namespace Go.Proofs.YthggliknnmhbdaaGreat.Abs
open Go Go.RowKit
noncomputable def kTrue (v : AV) (n : Pos) (H : PT AO) : Res := match v with | .bool b => Bool.rec none (some []) b | _ => none
theorem run_true {P : Program} {J : Plan} (hX : HookOk P J) (fuel : Nat) (f : FuncId) (h : callF P J (execF P J fuel) .h f [] .h .lf kTrue = some []) (w : World) :
    Calls P f #[] w fun e w' => e = .returned (.bool true) ∧ Below w.heap.size w w' := by
  rw [callF_eq, execF_eq] at h
  have hone : ∀ j : Nat, ∀ cs, (fun _ : Nat => Value.bool true) j ≠ .agg cs ∧ (fun _ : Nat => Value.bool true) j ≠ .tuple cs := fun j cs => ⟨(fun e => by cases e), (fun e => by cases e)⟩
  have hg : Good ⟨fun _ => none, fun _ => .bool true, hone⟩ .h (hp .lf) w := ⟨(fun b ao e => by rw [show hp .lf b = none from PT.get_lf b] at e; cases e), (fun b b' ao ao' k d x d' x' e => by rw [show hp .lf b = none from PT.get_lf b] at e; cases e), fun _ _ => rfl⟩
  refine (((callK_ok hX (exec_both hX (drawOk P) fuel).1 .h).1 f [] .h .lf kTrue [] h (Nat.le_refl _)).2 _ w [] hg rfl).mono ?_
  rintro e w' ⟨u, rfl, v, n', H', L', ρ', h1, h2, h3, h4⟩
  have hv : v = .bool true := by
    unfold kTrue at h1
    split at h1
    · rename_i b
      cases b
      · cases h1
      · rfl
    · cases h1
  subst hv
  injection h3 with h3
  subst h3
  refine ⟨rfl, h4.fr.os, h4.fr.tape, h4.fr.output, h4.fr.size, fun k hk => h4.fr.block k hk fun b ao d x e => ?_⟩
  rw [show hp .lf b = none from PT.get_lf b] at e
  cases e
end Go.Proofs.YthggliknnmhbdaaGreat.Abs
end
/- A run that comes to true whatever plain values it is handed; a run that answers a plain value. No conditions. -/
section
set_option linter.unusedVariables false
namespace Go.Proofs.YthggliknnmhbdaaGreat.Abs
open Go Go.RowKit
theorem empty_good {ρ : Ren} (h : ∀ b, ρ.at_ b = none) (w : World) : Good ρ .h (hp .lf) w :=
  ⟨(fun b ao e => by rw [show hp .lf b = none from PT.get_lf b] at e; cases e), (fun b b' ao ao' k d x d' x' e => by rw [show hp .lf b = none from PT.get_lf b] at e; cases e), fun b _ => h b⟩
theorem below_of_now {lim : Pos} {ρ ρ' : Ren} {n' : Pos} {H' : PT AO} {w w' : World} (h : Now lim ρ .h .lf w ρ' n' H' w') : Below w.heap.size w w' := by
  refine ⟨h.fr.os, h.fr.tape, h.fr.output, h.fr.size, fun k hk => h.fr.block k hk fun b ao d x e => ?_⟩
  rw [show hp .lf b = none from PT.get_lf b] at e
  cases e
theorem run_trueN {P : Program} {J : Plan} (hX : HookOk P J) (fuel : Nat) (f : FuncId) {us : List Value} (hne : ∀ u, u ∈ us → ∀ cs, u ≠ .agg cs ∧ u ≠ .tuple cs)
    (h : callF P J (execF P J fuel) .h f ((List.range us.length).map AV.sym) .h .lf kTrue = some []) (w : World) :
    Calls P f us.toArray w fun e w' => e = .returned (.bool true) ∧ Below w.heap.size w w' := by
  rw [callF_eq, execF_eq] at h
  have hone : ∀ j : Nat, ∀ cs, (fun j : Nat => us.getD j (.bool true)) j ≠ .agg cs ∧ (fun j : Nat => us.getD j (.bool true)) j ≠ .tuple cs := by
    intro j cs
    show us.getD j (.bool true) ≠ .agg cs ∧ us.getD j (.bool true) ≠ .tuple cs
    rw [List.getD_eq_getElem?_getD]
    cases hj : us[j]? with
    | none => exact ⟨(fun e => by cases e), (fun e => by cases e)⟩
    | some u => exact hne u (List.mem_of_getElem? hj) cs
  have hc : concs ⟨fun _ => none, fun j : Nat => us.getD j (.bool true), hone⟩ ((List.range us.length).map AV.sym) = some us := by
    refine concs_of (by simp) fun i hi => ?_
    have hi' : i < us.length := by simpa using hi
    refine ⟨.sym i, us[i], by simp [hi'], by simp [hi'], ?_⟩
    show some (us.getD i (.bool true)) = some us[i]
    rw [List.getD_eq_getElem?_getD, List.getElem?_eq_getElem hi']
    rfl
  refine (((callK_ok hX (exec_both hX (drawOk P) fuel).1 .h).1 f _ .h .lf kTrue [] h (Nat.le_refl _)).2 _ w us (empty_good (fun _ => rfl) w) hc).mono ?_
  rintro e w' ⟨u, rfl, v, n', H', L', ρ', e1, h2, h3, h4⟩
  have hv : v = .bool true := by
    unfold kTrue at e1
    split at e1
    · rename_i b
      cases b
      · cases e1
      · rfl
    · cases e1
  subst hv
  injection h3 with h3
  subst h3
  exact ⟨rfl, below_of_now h4⟩
/-- a run that comes to true, whatever plain values it is handed that are as the arguments say -/
theorem run_trueA {P : Program} {J : Plan} (hX : HookOk P J) (fuel : Nat) (f : FuncId) {us : List Value} (hne : ∀ u, u ∈ us → ∀ cs, u ≠ .agg cs ∧ u ≠ .tuple cs) (args : List AV) (hargs : ∀ ρ : Ren, ρ.sy = (fun j : Nat => us.getD j (.bool true)) → concs ρ args = some us)
    (h : callF P J (execF P J fuel) .h f args .h .lf kTrue = some []) (w : World) :
    Calls P f us.toArray w fun e w' => e = .returned (.bool true) ∧ Below w.heap.size w w' := by
  rw [callF_eq, execF_eq] at h
  have hone : ∀ j : Nat, ∀ cs, (fun j : Nat => us.getD j (.bool true)) j ≠ .agg cs ∧ (fun j : Nat => us.getD j (.bool true)) j ≠ .tuple cs := by
    intro j cs
    show us.getD j (.bool true) ≠ .agg cs ∧ us.getD j (.bool true) ≠ .tuple cs
    rw [List.getD_eq_getElem?_getD]
    cases hj : us[j]? with
    | none => exact ⟨(fun e => by cases e), (fun e => by cases e)⟩
    | some u => exact hne u (List.mem_of_getElem? hj) cs
  refine (((callK_ok hX (exec_both hX (drawOk P) fuel).1 .h).1 f _ .h .lf kTrue [] h (Nat.le_refl _)).2 ⟨fun _ => none, fun j : Nat => us.getD j (.bool true), hone⟩ w us (empty_good (fun _ => rfl) w) (hargs _ rfl)).mono ?_
  rintro e w' ⟨u, rfl, v, n', H', L', ρ', e1, h2, h3, h4⟩
  have hv : v = .bool true := by
    unfold kTrue at e1
    split at e1
    · rename_i b
      cases b
      · cases e1
      · rfl
    · cases e1
  subst hv
  injection h3 with h3
  subst h3
  exact ⟨rfl, below_of_now h4⟩
noncomputable def kIs (x v : AV) (n : Pos) (H : PT AO) : Res := Bool.rec none (some []) (eqVal x v)
/-- a run that answers that value, whatever plain values it is handed -/
theorem run_isN {P : Program} {J : Plan} (hX : HookOk P J) (fuel : Nat) (f : FuncId) {us : List Value} (hne : ∀ u, u ∈ us → ∀ cs, u ≠ .agg cs ∧ u ≠ .tuple cs) (args : List AV) (hargs : ∀ ρ : Ren, ρ.sy = (fun j : Nat => us.getD j (.bool true)) → ∃ vs, concs ρ args = some vs ∧ vs = us)
    (x : AV) (u : Value) (hx : ∀ ρ : Ren, ρ.sy = (fun j : Nat => us.getD j (.bool true)) → conc ρ x = some u)
    (h : callF P J (execF P J fuel) .h f args .h .lf (kIs x) = some []) (w : World) :
    Calls P f us.toArray w fun e w' => e = .returned u ∧ Below w.heap.size w w' := by
  rw [callF_eq, execF_eq] at h
  have hone : ∀ j : Nat, ∀ cs, (fun j : Nat => us.getD j (.bool true)) j ≠ .agg cs ∧ (fun j : Nat => us.getD j (.bool true)) j ≠ .tuple cs := by
    intro j cs
    show us.getD j (.bool true) ≠ .agg cs ∧ us.getD j (.bool true) ≠ .tuple cs
    rw [List.getD_eq_getElem?_getD]
    cases hj : us[j]? with
    | none => exact ⟨(fun e => by cases e), (fun e => by cases e)⟩
    | some u => exact hne u (List.mem_of_getElem? hj) cs
  obtain ⟨vs, hc, hvs⟩ := hargs ⟨fun _ => none, fun j : Nat => us.getD j (.bool true), hone⟩ rfl
  subst hvs
  refine (((callK_ok hX (exec_both hX (drawOk P) fuel).1 .h).1 f _ .h .lf (kIs x) [] h (Nat.le_refl _)).2 _ w vs (empty_good (fun _ => rfl) w) hc).mono ?_
  rintro e w' ⟨u', rfl, v, n', H', L', ρ', e1, h2, h3, h4⟩
  have hv : x = v := by
    unfold kIs at e1
    cases hq : eqVal x v with
    | true => exact eqVal_eq _ _ hq
    | false => rw [hq] at e1; cases e1
  subst hv
  rw [hx ρ' h4.fr.le.sy] at h3
  injection h3 with h3
  subst h3
  exact ⟨rfl, below_of_now h4⟩
theorem no_hook {P : Program} {j : FuncId → Bool} : HookOk P ⟨j, fun _ _ => none⟩ := fun f args v h => by cases h
end Go.Proofs.YthggliknnmhbdaaGreat.Abs
end
