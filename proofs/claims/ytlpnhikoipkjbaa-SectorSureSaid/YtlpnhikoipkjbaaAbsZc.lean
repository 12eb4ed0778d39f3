/- Regions that draw their order, last part: every order. No conditions. -/
import Derived.Test.YtlpnhikoipkjbaaAbsZb
set_option linter.unusedVariables false
namespace Go.Proofs.Ytlpnhikoipkjbaa.Abs
open Go Go.RowKit
section
variable {P : Program} {call : CallT} {lim : Pos} {ops : Array Oper} {pre : List Nat} {S : Nat → DS} {V : Nat → AV} {ρ0 : Ren} {A0 : Act} {w0 : World}
theorem Inv.step {r : Option Nat} (hcall : CallOk P lim call) (hr : RegF P ops pre) (W : Walk P call lim ops pre S V) (E : Env P lim ops pre S V) {ρ : Ren} {A : Act} {w : World} {ld : Array Bool} {c : Nat} {G : Hp} (I : Inv lim ops pre S V ρ0 A0 w0 ld ρ c G A w) (hsz : ld.size = ops.size) {i : Nat} {o : Oper} (ho : ops[i]? = some o) (hun : ld.getD i false = false)
    (hrd : ∀ e ∈ o.after, Region.binds .any e = true → ld.getD e.on false = true) {Q : Exit → Act → World → Prop} {K : Act → World → Prop}
    (hK : ∀ ρ' c' G' A' w', Inv lim ops pre S V ρ0 A0 w0 (ld.setIfInBounds i true) ρ' c' G' A' w' → K A' w') : wpOpIn (Fw r) 0 P ops Q i K A w := by
  have hi : i < ops.size := (Array.getElem?_eq_some_iff.1 ho).1
  have hl : ∀ j, bt pre i j → ld.getD j false = true := fun j h => hr.ready I.shut ho hrd h
  have hs := I.slots hr W ho hun hl
  have hnone : ∀ b ao, (i, b, ao) ∉ (S i).pd := fun b ao e => by have := (Walk.pd hr W i (by omega)).1 e; omega
  have st := W.step i o ho
  generalize hV : V i = v at st
  generalize hS : S (i + 1) = s' at st
  unfold wpOpIn
  simp only [ho]
  cases st with
  | skip a' hw hp =>
    rw [if_neg (by rw [want_conc ((restr_want ops o (S i).a).trans hw) hs]; simp)]
    refine ⟨fun _ _ => trivial, hK _ _ _ _ _ (I.still hr W hsz ho hun hrd ?_ ?_ (by rw [hV]; rfl))⟩
    · rintro ⟨p, hp, _, h⟩
      rw [ho] at hp; injection hp with hp; subst hp
      rw [hw] at h; cases h
    · intro b ao ha
      unfold Al at ha
      rw [hS] at ha
      exact hnone b ao ha
  | heavy v n2 H2 a' hw hh hop hp =>
    have hv : Hv ops S i := ⟨o, ho, hh, hw⟩
    rw [if_pos (want_conc ((restr_want ops o (S i).a).trans hw) hs)]
    obtain ⟨hc, hcalm⟩ := I.heavy_c hr ho hun hl hv
    have hH := W.calm (i := c) (i - c) (by omega) (fun h a b => hcalm h a (by omega))
    rw [show c + (i - c) = i by omega] at hH
    have hsub : Hp.le (Abs.hp (joinT (pre.getD i 0) (S i).pd (S i).H)) G := I.join hr W hi hH.2 (fun j ⟨h, a, b⟩ => ⟨h, by omega, b⟩) hl
    have hg : Good ρ (S i).n (Abs.hp (joinT (pre.getD i 0) (S i).pd (S i).H)) w := by rw [hH.1]; exact I.good.sub hsub
    have hln : lim.nat ≤ (S i).n.nat := by rw [hH.1]; have := I.num; have := E.num; have := E.lim; omega
    rw [← opK_ag o.op (restr_ag ops o (S i).a)] at hop
    refine opK_some hcall hop hln hs hg ?_
    rintro u w1 ⟨v', n', H', L', ρ', h1, h2, h3, h4⟩
    injection h1 with h1
    have h5 := h2 (v', n', H') (by rw [← h1]; simp)
    simp only [List.mem_singleton, Prod.mk.injEq] at h5
    obtain ⟨rfl, rfl, rfl⟩ := h5
    obtain ⟨G', hI⟩ := I.heavy hr W E hsz ho hun hrd hv (u := u) (by rw [hV]; exact h3) (by rw [hS]; exact h4)
    exact hK _ _ _ _ _ hI
  | new ao v a' hw hh hn hm hp =>
    rw [if_pos (want_conc ((restr_want ops o (S i).a).trans hw) hs)]
    have ha : Al S i (S i).nx ao := by unfold Al; rw [hS]; simp
    have hni : ¬ Hv ops S i := by
      rintro ⟨p, hp, h, _⟩
      rw [ho] at hp; injection hp with hp; subst hp
      rw [hh] at h; cases h
    obtain ⟨m, x, obj, u, h1, h2, h3⟩ := hm ρ A hs (I.free i _ ao hi ha hun) w
    exact Oper.wp_value h1 (hK _ _ _ _ _ (I.new hr W E hsz ho hun hrd hni ha h2 (by rw [hV]; exact h3)))
  | read v a' hw hh hn hrv hp =>
    rw [if_pos (want_conc ((restr_want ops o (S i).a).trans hw) hs)]
    have hni : ¬ Hv ops S i := by
      rintro ⟨p, hp, h, _⟩
      rw [ho] at hp; injection hp with hp; subst hp
      rw [hh] at h; cases h
    obtain ⟨g, h1, h2⟩ := I.sees hr W E ho hun hrd hh (by rw [hV]; exact hrv)
    rw [← rdOp_ag o.op (restr_ag ops o (S i).a)] at h2
    obtain ⟨u, h3, h4⟩ := rdOp_run (o := o) (I.good.sub h1) hs h2
    refine Oper.wp_value h4 (hK _ _ _ _ _ (I.still hr W hsz ho hun hrd hni ?_ h3))
    intro b ao ha
    unfold Al at ha
    rw [hS] at ha
    exact hnone b ao ha
theorem count_le_set {l : Array Bool} {i : Nat} {n : Nat} (hi : l.getD i true = false) (h : (l.toList.filter (!·)).length ≤ n + 1) :
    ((l.setIfInBounds i true).toList.filter (!·)).length ≤ n := by
  have hlt : i < l.size := by
    rcases Nat.lt_or_ge i l.size with h' | h'
    · exact h'
    · simp [Array.getElem?_eq_none h'] at hi
  have hx : l.toList[i]? = some false := by
    simp [hlt] at hi
    simp [hlt, hi]
  rw [Array.toList_setIfInBounds]
  generalize l.toList = xs at *
  clear hi hlt
  induction xs generalizing i n with
  | nil => simp at hx
  | cons x xs ih =>
    cases i with
    | zero =>
      simp at hx
      subst hx
      simp at h ⊢
      exact h
    | succ i =>
      simp at hx
      cases x with
      | true =>
        simp at h ⊢
        exact ih h hx
      | false =>
        simp at h ⊢
        cases n with
        | zero =>
          exfalso
          have : xs.filter (!·) = [] := List.eq_nil_of_length_eq_zero (by omega)
          have hm : false ∈ xs := List.mem_of_getElem? hx
          have := List.filter_eq_nil_iff.1 this false hm
          simp at this
        | succ n => exact Nat.succ_le_succ (ih (by omega) hx)
theorem Inv.any {r : Option Nat} (hcall : CallOk P lim call) (hr : RegF P ops pre) (W : Walk P call lim ops pre S V) (E : Env P lim ops pre S V) {Q : Exit → Act → World → Prop}
    (hQ : ∀ ld ρ c G A w, Inv lim ops pre S V ρ0 A0 w0 ld ρ c G A w → (∀ i, i < ops.size → ld.getD i false = true) → Q .normal A w) :
    ∀ (fuel : Nat) (ld : Array Bool) (ρ : Ren) (c : Nat) (G : Hp) (A : Act) (w : World), ld.size = ops.size → (ld.toList.filter (!·)).length ≤ fuel → Inv lim ops pre S V ρ0 A0 w0 ld ρ c G A w → wpAnyIn (Fw r) 0 P .any ops Q fuel ld A w := by
  have hall : ∀ (ld : Array Bool) (ρ : Ren) (c : Nat) (G : Hp) (A : Act) (w : World), ld.size = ops.size → Inv lim ops pre S V ρ0 A0 w0 ld ρ c G A w → Region.ready .any ops ld = [] → Q .normal A w := by
    intro ld ρ c G A w hsz I hrd
    refine hQ ld ρ c G A w I ?_
    intro i
    induction i using Nat.strongRecOn with
    | ind i ih =>
      intro hi
      cases hb : ld.getD i false with
      | true => rfl
      | false =>
        exfalso
        have hm : i ∈ Region.ready .any ops ld := mem_ready.2 ⟨by simp [hsz, hi] at hb ⊢; exact hb, ops[i], by simp [hi], fun e he hbe => by
          have := hr.edge (i := i) (o := ops[i]) (by simp [hi]) he hbe
          exact ih e.on this (by omega)⟩
        rw [hrd] at hm
        cases hm
  intro fuel
  induction fuel with
  | zero =>
    intro ld ρ c G A w hsz hc I
    have hrd : Region.ready .any ops ld = [] := by
      rw [List.eq_nil_iff_forall_not_mem]
      intro j hj
      have h0 := (mem_ready.1 hj).1
      have hlt : j < ld.size := by
        rcases Nat.lt_or_ge j ld.size with h' | h'
        · exact h'
        · simp [Array.getElem?_eq_none h'] at h0
      have hm : false ∈ ld.toList := by
        simp [hlt] at h0
        rw [← h0]
        simp
      have hn := List.eq_nil_of_length_eq_zero (Nat.le_zero.1 hc)
      have := List.filter_eq_nil_iff.1 hn false hm
      simp at this
    exact ⟨hrd, hall ld ρ c G A w hsz I hrd⟩
  | succ fuel ih =>
    intro ld ρ c G A w hsz hc I
    refine ⟨hall ld ρ c G A w hsz I, fun i hi => ?_⟩
    obtain ⟨hun, o, ho, hes⟩ := mem_ready.1 hi
    have hlt : i < ops.size := (Array.getElem?_eq_some_iff.1 ho).1
    have hun' : ld.getD i false = false := by simp [hsz, hlt] at hun ⊢; exact hun
    exact I.step hcall hr W E hsz ho hun' (fun e he hb => hes e (by simpa using he) hb) fun ρ' c' G' A' w' I' => ih _ ρ' c' G' A' w' (by simpa using hsz) (count_le_set hun hc) I'
end
end Go.Proofs.Ytlpnhikoipkjbaa.Abs
