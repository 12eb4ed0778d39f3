/- Regions that draw their order, third part: what stands at each moment of each order. No conditions. -/
import Derived.Test.YtlpnhikoipkjbaaAbsZ
set_option linter.unusedVariables false
namespace Go.Proofs.Ytlpnhikoipkjbaa.Abs
open Go Go.RowKit
/-- a new block's step, whatever numbers are reserved -/
theorem Fr.alloc_free {ρ : Ren} {n : Pos} {g : Hp} {w : World} {b : Pos} {n' : Pos} (hb : ρ.at_ b = none) (hbn : n.nat ≤ b.nat) (hn : n.nat ≤ n'.nat) (ao : AO) (o : Obj) (x : Nat) :
    Fr ρ n g w (ρ.put b (w.heap.size, 0, x)) n' (g.set b ao) (w.alloc o) := by
  have hl := Ren.le_put (w.heap.size, 0, x) hb
  refine ⟨hl, hn, fun q hq => ?_, rfl, rfl, rfl, by simp, fun k hk _ => Below.heap_alloc w o k hk, fun q a k d y e1 e2 => ?_, fun q a e => ?_⟩
  · show (if q = b then _ else ρ.at_ q) = _
    rw [if_neg (fun e => by subst e; omega)]
  · simp only [Hp.set] at e1
    split at e1
    · rename_i hq; subst hq
      rw [Ren.put_at] at e2
      injection e2 with e2; injection e2 with e2
      exact .inl (by omega)
    · rename_i hq
      have e2' : ρ.at_ q = some (k, d, y) := by
        have : (if q = b then some (w.heap.size, 0, x) else ρ.at_ q) = some (k, d, y) := e2
        rwa [if_neg hq] at this
      exact .inr ⟨q, a, d, y, e1, e2'⟩
  · simp only [Hp.set] at e
    split at e
    · rename_i hq; subst hq; exact .inr hbn
    · exact .inl ⟨a, e⟩
structure Inv (lim : Pos) (ops : Array Oper) (pre : List Nat) (S : Nat → DS) (V : Nat → AV) (ρ0 : Ren) (A0 : Act) (w0 : World) (ld : Array Bool) (ρ : Ren) (c : Nat) (G : Hp) (A : Act) (w : World) : Prop where
  cN : c ≤ ops.size
  hv : ∀ h, Hv ops S h → (ld.getD h false = true ↔ h < c)
  shut : Shut ops ld
  good : Good ρ (S c).n G w
  base : ∀ b o, PT.get b (S c).H = some o → G b = some o
  ext : ∀ j b ao, j < ops.size → ld.getD j false = true → Al S j b ao → ¬ Mg ops pre S c j → G b = some ao
  free : ∀ j b ao, j < ops.size → Al S j b ao → ld.getD j false = false → ρ.at_ b = none
  bare : ∀ j b ao, j < ops.size → Al S j b ao → ¬ Mg ops pre S c j → PT.get b (S c).H = none
  num : (S 0).n.nat ≤ (S c).n.nat
  fr : Fr ρ0 (S 0).nx (hp (S 0).H) w0 ρ (S 0).nx G w
  keep : ∀ q, q.nat < lim.nat → PT.get q (S c).H = PT.get q (S 0).H
  set : ∀ i o t, ops[i]? = some o → ld.getD i false = true → o.dst = some t → ∃ x, conc ρ (V i) = some x ∧ A.tmps[t]? = some x
  unset : ∀ t, (∀ i o, ops[i]? = some o → ld.getD i false = true → o.dst ≠ some t) → ∀ v, PT.get (pk t) (S 0).a = some v → ∃ x, conc ρ v = some x ∧ A.tmps[t]? = some x
  defers : A.defers = A0.defers
section
variable {P : Program} {call : CallT} {lim : Pos} {ops : Array Oper} {pre : List Nat} {S : Nat → DS} {V : Nat → AV} {ρ0 ρ : Ren} {A0 A : Act} {w0 w : World} {ld : Array Bool} {c : Nat} {G : Hp}
theorem Inv.join (hr : RegF P ops pre) (W : Walk P call lim ops pre S V) (I : Inv lim ops pre S V ρ0 A0 w0 ld ρ c G A w) {i : Nat} (hi : i < ops.size) (hH : (S i).H = (S c).H) (hM : ∀ j, Mg ops pre S c j → Mg ops pre S i j) (hl : ∀ j, bt pre i j → ld.getD j false = true) :
    Hp.le (hp (joinT (pre.getD i 0) (S i).pd (S i).H)) G := by
  intro b o e
  rcases joinT_mem _ _ _ b o e with h | ⟨j, h1, h2⟩
  · exact I.base b o (by rw [← hH]; exact h)
  · obtain ⟨h3, h4, h5⟩ := (Walk.pd hr W i (by omega)).1 h1
    exact I.ext j b o (by omega) (hl j h2) h4 (fun h => h5 (hM j h))
theorem Inv.slots (hr : RegF P ops pre) (W : Walk P call lim ops pre S V) (I : Inv lim ops pre S V ρ0 A0 w0 ld ρ c G A w) {i : Nat} {o : Oper} (ho : ops[i]? = some o) (hun : ld.getD i false = false) (hl : ∀ j, bt pre i j → ld.getD j false = true) :
    Slots ρ (restr (tmpsOf ops o) (S i).a) A := by
  have hi : i < ops.size := (Array.getElem?_eq_some_iff.1 ho).1
  refine restr_slots fun t v ht e => ?_
  obtain ⟨s1, s2⟩ := Walk.slot hr W (t := t) i (by omega)
  by_cases hx : ∃ (j : Nat) (p : Oper), ops[j]? = some p ∧ p.dst = some t
  · obtain ⟨j, p, hp, hd⟩ := hx
    by_cases hij : j = i
    · subst hij
      rw [s2 (fun k q hk hq => hr.dst hp hq (by omega) hd)] at e
      refine I.unset t (fun k q hq hlk => ?_) v e
      by_cases hk : k = j
      · subst hk; rw [hun] at hlk; cases hlk
      · exact hr.dst hp hq (Ne.symm hk) hd
    · rcases hr.look ho hp (Ne.symm hij) ht hd with h | h
      · have hji := hr.lt i ho h
        rw [s1 j p hji hp hd] at e
        injection e with e; subst e
        exact I.set j p t hp (hl j h) hd
      · have hij' := hr.lt j hp h
        rw [s2 (fun k q hk hq => hr.dst hp hq (by omega) hd)] at e
        refine I.unset t (fun k q hq hlk => ?_) v e
        by_cases hk : k = j
        · subst hk
          have := hr.shut I.shut k hp hlk h
          rw [hun] at this; cases this
        · exact hr.dst hp hq (Ne.symm hk) hd
  · have hno : ∀ (k : Nat) (q : Oper), ops[k]? = some q → q.dst ≠ some t := fun k q hq hd => hx ⟨k, q, hq, hd⟩
    rw [s2 (fun k q _ hq => hno k q hq)] at e
    exact I.unset t (fun k q hq _ => hno k q hq) v e
theorem Inv.next (hr : RegF P ops pre) (W : Walk P call lim ops pre S V) (I : Inv lim ops pre S V ρ0 A0 w0 ld ρ c G A w) (hsz : ld.size = ops.size) {i : Nat} {o : Oper} (ho : ops[i]? = some o) (hun : ld.getD i false = false)
    (hrd : ∀ e ∈ o.after, Region.binds .any e = true → ld.getD e.on false = true) {ρ' : Ren} {c' : Nat} {G' : Hp} {w' : World} {u : Value} (hu : conc ρ' (V i) = some u) (hle : ρ.le ρ') (cN : c' ≤ ops.size)
    (hv : ∀ h, Hv ops S h → ((ld.setIfInBounds i true).getD h false = true ↔ h < c')) (good : Good ρ' (S c').n G' w')
    (base : ∀ b o, PT.get b (S c').H = some o → G' b = some o)
    (ext : ∀ j b ao, j < ops.size → (j = i ∨ ld.getD j false = true) → Al S j b ao → ¬ Mg ops pre S c' j → G' b = some ao)
    (free : ∀ j b ao, j < ops.size → Al S j b ao → j ≠ i → ld.getD j false = false → ρ'.at_ b = none)
    (bare : ∀ j b ao, j < ops.size → Al S j b ao → ¬ Mg ops pre S c' j → PT.get b (S c').H = none)
    (num : (S 0).n.nat ≤ (S c').n.nat) (fr : Fr ρ (S 0).nx G w ρ' (S 0).nx G' w') (keep : ∀ q, q.nat < lim.nat → PT.get q (S c').H = PT.get q (S 0).H) :
    Inv lim ops pre S V ρ0 A0 w0 (ld.setIfInBounds i true) ρ' c' G' (A.put o.dst u) w' := by
  have hi : i < ops.size := (Array.getElem?_eq_some_iff.1 ho).1
  have hset : (ld.setIfInBounds i true).getD i false = true := by simp [hsz, hi]
  have hld : ∀ j, (ld.setIfInBounds i true).getD j false = true → j = i ∨ ld.getD j false = true := by
    intro j h
    by_cases e : j = i
    · exact .inl e
    · rw [getD_set_ne false (Ne.symm e)] at h; exact .inr h
  refine ⟨cN, hv, ?_, good, base, ?_, ?_, bare, num, I.fr.trans fr, keep, ?_, ?_, ?_⟩
  · intro j p e hp hl he hb
    rcases hld j hl with h | h
    · subst h
      rw [ho] at hp; injection hp with hp; subst hp
      exact getD_set_true (hrd e he hb)
    · exact getD_set_true (I.shut j p e hp h he hb)
  · intro j b ao hj hl ha hm
    exact ext j b ao hj (hld j hl) ha hm
  · intro j b ao hj ha hl
    have hne : j ≠ i := fun e => by subst e; rw [hset] at hl; cases hl
    rw [getD_set_ne false (Ne.symm hne)] at hl
    exact free j b ao hj ha hne hl
  · intro j p t hp hl hd
    by_cases e : j = i
    · subst e
      rw [ho] at hp; injection hp with hp; subst hp
      obtain ⟨v, hv0⟩ := Walk.had hr W ho hd
      obtain ⟨x, _, hx⟩ := I.unset t (fun k q hq hlk => by
        by_cases hk : k = j
        · subst hk; rw [hun] at hlk; cases hlk
        · exact hr.dst ho hq (Ne.symm hk) hd) v hv0
      have hlt : t < A.tmps.size := (Array.getElem?_eq_some_iff.1 hx).1
      exact ⟨u, hu, by simp [Act.put, hd, hlt]⟩
    · rcases hld j hl with h | h
      · exact (e h).elim
      · obtain ⟨x, h1, h2⟩ := I.set j p t hp h hd
        refine ⟨x, conc_le hle _ h1, ?_⟩
        cases hod : o.dst with
        | none => exact h2
        | some t' =>
          have : t' ≠ t := fun e' => hr.dst hp ho e hd (by rw [hod, e'])
          simp only [Act.put]
          rw [Array.getElem?_setIfInBounds_ne this]
          exact h2
  · intro t hn v hv0
    have hnt : o.dst ≠ some t := hn i o ho hset
    obtain ⟨x, h1, h2⟩ := I.unset t (fun k q hq hlk => hn k q hq (getD_set_true hlk)) v hv0
    refine ⟨x, conc_le hle _ h1, ?_⟩
    cases hod : o.dst with
    | none => exact h2
    | some t' =>
      have : t' ≠ t := fun e' => hnt (by rw [hod, e'])
      simp only [Act.put]
      rw [Array.getElem?_setIfInBounds_ne this]
      exact h2
  · rw [← I.defers]
    cases o.dst <;> rfl
/-- one that is not heavy leaves which heavy ones have run -/
theorem Inv.hv_light (I : Inv lim ops pre S V ρ0 A0 w0 ld ρ c G A w) {i : Nat} (hn : ¬ Hv ops S i) : ∀ h, Hv ops S h → ((ld.setIfInBounds i true).getD h false = true ↔ h < c) := by
  intro h hh
  have : h ≠ i := fun e => hn (e ▸ hh)
  rw [getD_set_ne false (Ne.symm this)]
  exact I.hv h hh
/-- one that leaves the world -/
theorem Inv.still (hr : RegF P ops pre) (W : Walk P call lim ops pre S V) (I : Inv lim ops pre S V ρ0 A0 w0 ld ρ c G A w) (hsz : ld.size = ops.size) {i : Nat} {o : Oper} (ho : ops[i]? = some o) (hun : ld.getD i false = false)
    (hrd : ∀ e ∈ o.after, Region.binds .any e = true → ld.getD e.on false = true) (hn : ¬ Hv ops S i) (hal : ∀ b ao, ¬ Al S i b ao) {u : Value} (hu : conc ρ (V i) = some u) :
    Inv lim ops pre S V ρ0 A0 w0 (ld.setIfInBounds i true) ρ c G (A.put o.dst u) w :=
  I.next hr W hsz ho hun hrd hu (.refl _) I.cN (I.hv_light hn) I.good I.base
    (fun j b ao hj hl ha hm => by rcases hl with rfl | hl; exact (hal _ _ ha).elim; exact I.ext j b ao hj hl ha hm)
    (fun j b ao hj ha _ hl => I.free j b ao hj ha hl) I.bare I.num (Fr.refl _ _ _ _ I.good.ids) I.keep
end
end Go.Proofs.Ytlpnhikoipkjbaa.Abs
