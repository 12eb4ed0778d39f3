/- One outcome of several ways that are alike. No conditions. -/
import Derived.Test.YtlpnhikoipkjbaaAbsU
set_option linter.unusedVariables false
namespace Go.Proofs.Ytlpnhikoipkjbaa.Abs
open Go Go.RowKit
noncomputable def renOf (n0 : Pos) (M : Pairs) (ρ0 ρi : Ren) : Ren :=
  { at_ := fun b => if b.nat < n0.nat then ρ0.at_ b else (match hasKey b M with | some c => ρi.at_ c | none => none), sy := ρ0.sy, one := ρ0.one }
section
variable {n0 : Pos} {M : Pairs} {ρ0 ρi : Ren}
theorem okId_at (hold : ∀ b : Pos, b.nat < n0.nat → ρi.at_ b = ρ0.at_ b) {b c : Pos} (h : okId n0 M b c = true) : (renOf n0 M ρ0 ρi).at_ b = ρi.at_ c := by
  unfold okId at h
  show (if b.nat < n0.nat then ρ0.at_ b else _) = _
  split at h
  · rename_i hb
    rw [Nat.blt_eq] at hb
    have : b = c := by simpa using h
    subst this
    rw [if_pos hb, hold b hb]
  · rename_i hb
    rw [Nat.blt_eq] at hb
    rw [if_neg hb]
    split at h
    · rename_i y hy
      have : y = c := by simpa using h
      subst this
      rw [hy]
    · cases h
mutual
theorem likeV_conc (hold : ∀ b : Pos, b.nat < n0.nat → ρi.at_ b = ρ0.at_ b) : ∀ (x y : AV) {u : Value}, likeV n0 M x y = true → conc ρi y = some u → conc (renOf n0 M ρ0 ρi) x = some u
  | .ptr b o, y, u, h, hy => by
    cases y with
    | ptr c p =>
      simp only [likeV, Bool.and_eq_true, beq_iff_eq] at h
      obtain ⟨h1, rfl⟩ := h
      unfold conc at hy ⊢
      rw [okId_at hold h1]; exact hy
    | _ => simp [likeV, eqVal] at h
  | .slc b o l c e, y, u, h, hy => by
    cases y with
    | slc b' o' l' c' e' =>
      simp only [likeV, Bool.and_eq_true, beq_iff_eq] at h
      obtain ⟨⟨⟨⟨h1, rfl⟩, rfl⟩, rfl⟩, rfl⟩ := h
      unfold conc at hy ⊢
      rw [okId_at hold h1]; exact hy
    | _ => simp [likeV, eqVal] at h
  | .slz b o p, y, u, h, hy => by
    cases y with
    | slz b' o' p' =>
      simp only [likeV, Bool.and_eq_true, beq_iff_eq] at h
      obtain ⟨⟨h1, rfl⟩, rfl⟩ := h
      unfold conc at hy ⊢
      rw [okId_at hold h1]; exact hy
    | _ => simp [likeV, eqVal] at h
  | .map b, y, u, h, hy => by
    cases y with
    | map c =>
      simp only [likeV] at h
      unfold conc at hy ⊢
      rw [okId_at hold h]; exact hy
    | _ => simp [likeV, eqVal] at h
  | .fn f l m, y, u, h, hy => by
    cases y with
    | fn f' l' m' =>
      simp only [likeV, Bool.and_eq_true, beq_iff_eq] at h
      obtain ⟨⟨rfl, h1⟩, h2⟩ := h
      obtain ⟨x, z, e1, e2, rfl⟩ := conc_fn hy
      unfold conc
      rw [likeL_conc hold l l' h1 e1, likeL_conc hold m m' h2 e2]
    | _ => simp [likeV, eqVal] at h
  | .agg l, y, u, h, hy => by
    cases y with
    | agg m =>
      simp only [likeV] at h
      obtain ⟨xs, e1, rfl⟩ := conc_agg hy
      exact agg_conc (likeL_conc hold l m h e1)
    | _ => simp [likeV, eqVal] at h
  | .tup l, y, u, h, hy => by
    cases y with
    | tup m =>
      simp only [likeV] at h
      obtain ⟨xs, e1, rfl⟩ := conc_tup hy
      exact tup_conc (likeL_conc hold l m h e1)
    | _ => simp [likeV, eqVal] at h
  | .int k n, y, u, h, hy => by
    have := eqVal_eq _ _ (show eqVal (.int k n) y = true by cases y <;> simpa [likeV] using h)
    subst this; exact hy
  | .bool b, y, u, h, hy => by
    have := eqVal_eq _ _ (show eqVal (.bool b) y = true by cases y <;> simpa [likeV] using h)
    subst this; exact hy
  | .str l, y, u, h, hy => by
    have := eqVal_eq _ _ (show eqVal (.str l) y = true by cases y <;> simpa [likeV] using h)
    subst this; exact hy
  | .nilp, y, u, h, hy => by
    have := eqVal_eq _ _ (show eqVal .nilp y = true by cases y <;> simpa [likeV] using h)
    subst this; exact hy
  | .nils, y, u, h, hy => by
    have := eqVal_eq _ _ (show eqVal .nils y = true by cases y <;> simpa [likeV] using h)
    subst this; exact hy
  | .nilm, y, u, h, hy => by
    have := eqVal_eq _ _ (show eqVal .nilm y = true by cases y <;> simpa [likeV] using h)
    subst this; exact hy
  | .nilf, y, u, h, hy => by
    have := eqVal_eq _ _ (show eqVal .nilf y = true by cases y <;> simpa [likeV] using h)
    subst this; exact hy
  | .nili, y, u, h, hy => by
    have := eqVal_eq _ _ (show eqVal .nili y = true by cases y <;> simpa [likeV] using h)
    subst this; exact hy
  | .ifc t v, y, u, h, hy => by cases y <;> simp [likeV, eqVal] at h
  | .sym j, y, u, h, hy => by cases y <;> simp [likeV, eqVal] at h
theorem likeL_conc (hold : ∀ b : Pos, b.nat < n0.nat → ρi.at_ b = ρ0.at_ b) : ∀ (l m : List AV) {us : List Value}, likeL n0 M l m = true → concs ρi m = some us → concs (renOf n0 M ρ0 ρi) l = some us
  | [], [], us, _, h => h
  | [], _ :: _, us, h, _ => by simp [likeL] at h
  | _ :: _, [], us, h, _ => by simp [likeL] at h
  | x :: l, y :: m, us, h, hu => by
    simp only [likeL, Bool.and_eq_true] at h
    obtain ⟨z, zs, rfl, h1, h2⟩ := concs_cons hu
    exact concs_mk (likeV_conc hold x y h.1 h1) (likeL_conc hold l m h.2 h2)
end
theorem likeCells_at {cs cs' : PT AV} {d d' : Option AV} : ∀ {n : Nat}, likeCells n0 M cs d cs' d' n = true → ∀ i, i < n → ∃ x y, cellA cs d i = some x ∧ cellA cs' d' i = some y ∧ likeV n0 M x y = true
  | 0, _, i, hi => by omega
  | n + 1, h, i, hi => by
    simp only [likeCells, Bool.and_eq_true] at h
    by_cases e : i = n
    · subst e
      have h1 := h.1
      split at h1
      · rename_i x y hx hy; exact ⟨x, y, hx, hy, h1⟩
      · cases h1
    · exact likeCells_at h.2 i (by omega)
theorem nodup_mem : ∀ {M : Pairs}, nodupM n0 M = true → ∀ {b c : Pos}, (b, c) ∈ M → n0.nat ≤ b.nat ∧ n0.nat ≤ c.nat ∧ hasKey b M = some c
  | [], _, b, c, h => by cases h
  | (x, y) :: M, h, b, c, hm => by
    simp only [nodupM, Bool.and_eq_true] at h
    obtain ⟨⟨⟨h1, h2⟩, h3⟩, h4⟩ := h
    rcases List.mem_cons.1 hm with e | hm
    · injection e with e1 e2
      subst e1; subst e2
      exact ⟨Nat.le_of_ble_eq_true h1, Nat.le_of_ble_eq_true h2, by simp [hasKey]⟩
    · obtain ⟨g1, g2, g3⟩ := nodup_mem h4 hm
      refine ⟨g1, g2, ?_⟩
      have := List.all_eq_true.1 h3 (b, c) hm
      simp only [Bool.and_eq_true, bne_iff_ne] at this
      simp only [hasKey]
      rw [if_neg (fun e => this.1 e.symm)]
      exact g3
theorem nodup_val : ∀ {M : Pairs}, nodupM n0 M = true → ∀ {b b' c : Pos}, (b, c) ∈ M → (b', c) ∈ M → b = b'
  | [], _, b, b', c, h, _ => by cases h
  | (x, y) :: M, h, b, b', c, hm, hm' => by
    simp only [nodupM, Bool.and_eq_true] at h
    obtain ⟨⟨⟨h1, h2⟩, h3⟩, h4⟩ := h
    rcases List.mem_cons.1 hm with e | hm
    · injection e with e1 e2
      rcases List.mem_cons.1 hm' with e' | hm'
      · injection e' with e3 e4; rw [e1, e3]
      · have := List.all_eq_true.1 h3 _ hm'
        simp only [Bool.and_eq_true, bne_iff_ne] at this
        exact absurd e2 this.2
    · rcases List.mem_cons.1 hm' with e' | hm'
      · injection e' with e3 e4
        have := List.all_eq_true.1 h3 _ hm
        simp only [Bool.and_eq_true, bne_iff_ne] at this
        exact absurd e4 this.2
      · exact nodup_val h4 hm hm'
theorem EntC.back (hle : ρ0.le ρi) : ∀ {l : List Ent} {m m' : List MapEntry}, EntC ρ0 l m' → EntC ρi l m → EntC ρ0 l m
  | [], [], _, _, _ => trivial
  | [], _ :: _, _, _, h => h.elim
  | _ :: _, [], _, _, h => h.elim
  | _ :: _, _ :: _, [], h, _ => h.elim
  | (k, v, b) :: l, e :: m, e' :: m', ⟨a1, a2, a3, a4⟩, ⟨b1, b2, b3, b4⟩ => by
    have c1 := conc_le hle _ a1
    have c2 := conc_le hle _ a2
    rw [b1] at c1; injection c1 with c1
    rw [b2] at c2; injection c2 with c2
    exact ⟨by rw [c1]; exact a1, by rw [c2]; exact a2, b3, EntC.back hle a4 b4⟩
theorem ObjC.back (hle : ρ0.le ρi) {d x : Nat} {ao : AO} {o o' : Obj} (h : ObjC ρ0 d x ao o') (k : ObjC ρi d x ao o) : ObjC ρ0 d x ao o := by
  cases ao with
  | loop a ps assign body st pend =>
    cases o' <;> first | exact h.elim | skip
    cases o <;> first | exact k.elim | skip
    refine ⟨k.1, k.2.1, k.2.2.1, k.2.2.2.1, k.2.2.2.2.1, k.2.2.2.2.2.1, fun t v e => ?_⟩
    obtain ⟨u, h1, h2⟩ := h.2.2.2.2.2.2 t v e
    obtain ⟨u', k1, k2⟩ := k.2.2.2.2.2.2 t v e
    have := conc_le hle _ h1
    rw [k1] at this; injection this with this; subst this
    exact ⟨_, h1, k2⟩
  | row cs n df es ty =>
    cases o' <;> first | exact h.elim | skip
    cases o <;> first | exact k.elim | skip
    refine ⟨fun i hi => ?_, k.2⟩
    obtain ⟨v, u, h1, h2, h3, h4⟩ := h.1 i hi
    obtain ⟨v', u', k1, k2, k3, k4⟩ := k.1 i hi
    rw [h1] at k1; injection k1 with k1; subst k1
    have := conc_le hle _ h2
    rw [k2] at this; injection this with this; subst this
    exact ⟨v, u', h1, h2, k3, k4⟩
  | map es c =>
    cases o' <;> first | exact h.elim | skip
    cases o <;> first | exact k.elim | skip
    exact ⟨k.1, EntC.back hle h.2 k.2⟩
  | mit m since seen st =>
    cases o' <;> first | exact h.elim | skip
    cases o <;> first | exact k.elim | skip
    refine ⟨⟨k.1.1, fun b hb => ?_⟩, k.2⟩
    obtain ⟨q, d1, x1, e1, e2⟩ := h.1.2 b hb
    obtain ⟨q', d2, x2, e3, e4⟩ := k.1.2 b hb
    have := hle.at_ _ _ e1
    rw [e3] at this; injection this with this; injection this with t1 t2
    subst t1
    exact ⟨_, d1, x1, e1, e4⟩
end
theorem keepK_some {R : Type} {H1 : PT AO} : ∀ {l : List Pos} {H : PT AO} {k : PT AO → Option R} {r : R}, keepK H1 l H k = some r →
    ∃ Hf, k Hf = some r ∧ (∀ b, b ∈ l → ∃ o, PT.get b H1 = some o ∧ PT.get b Hf = some o) ∧ ∀ b, b ∉ l → PT.get b Hf = PT.get b H
  | [], H, k, r, h => ⟨H, h, (fun b hb => by cases hb), fun _ _ => rfl⟩
  | b :: l, H, k, r, h => by
    unfold keepK at h
    split at h
    · rename_i o ho
      rw [PT.setK_eq] at h
      obtain ⟨Hf, h1, h2, h3⟩ := keepK_some h
      refine ⟨Hf, h1, fun q hq => ?_, fun q hq => ?_⟩
      · by_cases hql : q ∈ l
        · exact h2 q hql
        · rcases List.mem_cons.1 hq with rfl | hq
          · exact ⟨o, ho, by rw [h3 q hql, PT.get_set, if_pos rfl]⟩
          · exact absurd hq hql
      · rw [h3 q (fun e => hq (by simp [e])), PT.get_set, if_neg (fun e => hq (by simp [e]))]
    · cases h
theorem maxP_le (p q : Pos) : p.nat ≤ (maxP p q).nat ∧ q.nat ≤ (maxP p q).nat := by
  unfold maxP
  split
  · rename_i h; exact ⟨Nat.le_refl _, Nat.le_of_ble_eq_true h⟩
  · rename_i h
    refine ⟨?_, Nat.le_refl _⟩
    rcases Nat.lt_or_ge p.nat q.nat with h1 | h1
    · omega
    · exact absurd (Nat.ble_eq_true_of_le h1) h
theorem foldl_max : ∀ (l : List Out) (p : Pos), p.nat ≤ (l.foldl (fun p o => maxP p o.2.1) p).nat ∧ ∀ o ∈ l, o.2.1.nat ≤ (l.foldl (fun p o => maxP p o.2.1) p).nat
  | [], p => ⟨Nat.le_refl _, fun o h => by cases h⟩
  | o :: l, p => by
    obtain ⟨h1, h2⟩ := foldl_max l (maxP p o.2.1)
    obtain ⟨h3, h4⟩ := maxP_le p o.2.1
    refine ⟨Nat.le_trans h3 h1, fun q hq => ?_⟩
    rcases List.mem_cons.1 hq with rfl | hq
    · exact Nat.le_trans h4 h1
    · exact h2 q hq
theorem alikeK_some {n0 lim : Pos} {H0 : PT AO} {L L2 : List Out} {k : AV → Pos → PT AO → Res} (h : alikeK n0 H0 L k = some L2) (hln : lim.nat ≤ n0.nat) {ρ0 ρi : Ren} {w w' : World} {vi : AV} {ni : Pos} {Hi : PT AO} {u : Value} (hg0 : Good ρ0 n0 (hp H0) w)
    (hmem : (vi, ni, Hi) ∈ L) (hu : conc ρi vi = some u) (hN : Now n0 ρ0 n0 H0 w ρi ni Hi w') : Goes lim k L2 ρ0 n0 H0 w u w' := by
  unfold alikeK at h
  split at h
  · cases h
  · rename_i v n H
    rcases List.mem_cons.1 hmem with e | e
    · injection e with e1 e; injection e with e2 e3
      subst e1; subst e2; subst e3
      exact ⟨vi, ni, Hi, L2, ρi, h, fun _ hx => hx, hu, hN.good, hN.fr, fun q hq => hN.keep q (by omega)⟩
    · cases e
  · rename_i v n H rest hne
    rw [forceL_eq] at h
    split at h
    · rename_i hc
      simp only [Bool.and_eq_true] at hc
      obtain ⟨hc1, hc2⟩ := hc
      have hlike := List.all_eq_true.1 hc1 _ hmem
      obtain ⟨Hf, hk, hf1, hf2⟩ := keepK_some h
      clear h
      simp only [likeOne, Bool.and_eq_true, beq_iff_eq] at hlike
      generalize growM n0 H Hi 100000 (pairsV v vi) [] = M at hlike
      obtain ⟨⟨⟨hnd, hv⟩, hall⟩, hkeys⟩ := hlike
      generalize (growM n0 H H 100000 (pairsV v v) []).map (·.1) = keys at *
      have hold : ∀ b : Pos, b.nat < n0.nat → ρi.at_ b = ρ0.at_ b := hN.fr.old
      have hkm : ∀ b, b ∈ keys ↔ ∃ c, (b, c) ∈ M := by
        intro b
        rw [← hkeys]
        constructor
        · intro hb
          obtain ⟨⟨x, c⟩, h1, h2⟩ := List.mem_map.1 hb
          exact ⟨c, by simpa using h2 ▸ h1⟩
        · rintro ⟨c, hc⟩
          exact List.mem_map.2 ⟨(b, c), hc, rfl⟩
      have hmax := foldl_max rest n
      have hnmax : ni.nat ≤ (rest.foldl (fun p o => maxP p o.2.1) n).nat := by
        rcases List.mem_cons.1 hmem with e | e
        · injection e with e1 e; injection e with e2 e3
          subst e2; exact hmax.1
        · exact hmax.2 _ e
      have hrat : ∀ b c, (b, c) ∈ M → (renOf n0 M ρ0 ρi).at_ b = ρi.at_ c := by
        intro b c hbc
        obtain ⟨h1, h2, h3⟩ := nodup_mem hnd hbc
        show (if b.nat < n0.nat then ρ0.at_ b else _) = _
        rw [if_neg (by omega), h3]
      have hrold : ∀ b : Pos, b.nat < n0.nat → (renOf n0 M ρ0 ρi).at_ b = ρ0.at_ b := by
        intro b hb
        show (if b.nat < n0.nat then ρ0.at_ b else _) = _
        rw [if_pos hb]
      have hle : ρ0.le (renOf n0 M ρ0 ρi) := ⟨fun b x e => by
        have hb : b.nat < n0.nat := by
          rcases Nat.lt_or_ge b.nat n0.nat with h1 | h1
          · exact h1
          · rw [hg0.fresh b h1] at e; cases e
        rw [hrold b hb]; exact e, rfl⟩
      have holdH : ∀ b ao, PT.get b H0 = some ao → b.nat < n0.nat := by
        intro b ao e
        obtain ⟨kk, d, x, hx⟩ := hg0.ids b ao e
        rcases Nat.lt_or_ge b.nat n0.nat with h1 | h1
        · exact h1
        · rw [hg0.fresh b h1] at hx; cases hx
      -- each name of the joined heap, and what it stands for in this outcome
      have hstand : ∀ b ao, PT.get b Hf = some ao → ∃ c ao', PT.get c Hi = some ao' ∧ (renOf n0 M ρ0 ρi).at_ b = ρi.at_ c ∧ ((∃ c', (b, c') ∈ M ∧ c = c') ∨ (b ∉ keys ∧ c = b ∧ b.nat < n0.nat ∧ PT.get b H0 = some ao)) := by
        intro b ao e
        by_cases hb : b ∈ keys
        · obtain ⟨c, hbc⟩ := (hkm b).1 hb
          have hl := List.all_eq_true.1 hall _ hbc
          simp only [likeO] at hl
          split at hl
          · rename_i o1 o2 cs m d es ty cs' m' d' es' ty' e1 e2
            exact ⟨c, _, e2, hrat b c hbc, .inl ⟨c, hbc, rfl⟩⟩
          · cases hl
        · rw [hf2 b hb] at e
          have hb0 := holdH b ao e
          have := hN.keep b hb0
          exact ⟨b, ao, by rw [this]; exact e, by rw [hrold b hb0, hold b hb0], .inr ⟨hb, rfl, hb0, e⟩⟩
      have hgi := hN.good
      have hgood : Good (renOf n0 M ρ0 ρi) (rest.foldl (fun p o => maxP p o.2.1) n) (hp Hf) w' := by
        refine ⟨fun b ao e => ?_, fun b b' ao ao' q d x d' x' e1 e2 e3 e4 => ?_, fun b hb => ?_⟩
        · obtain ⟨c, ao', h1, h2, h3⟩ := hstand b ao e
          obtain ⟨q, d, x, o, g1, g2, g3⟩ := hgi.rep c ao' h1
          refine ⟨q, d, x, o, by rw [h2]; exact g1, g2, ?_⟩
          rcases h3 with ⟨c', hbc, rfl⟩ | ⟨hb, rfl, hb0, e0⟩
          · obtain ⟨oo, f1, f2⟩ := hf1 b ((hkm b).2 ⟨_, hbc⟩)
            have e' : PT.get b Hf = some ao := e
            rw [f2] at e'; injection e' with e'; subst e'
            have hl := List.all_eq_true.1 hall _ hbc
            simp only [likeO] at hl
            split at hl
            · rename_i o1 o2 cs m d1 es ty cs' m' d1' es' ty' e1 e2
              rw [f1] at e1; injection e1 with e1
              rw [h1] at e2; injection e2 with e2
              subst e1; subst e2
              simp only [Bool.and_eq_true, beq_iff_eq] at hl
              obtain ⟨⟨⟨rfl, rfl⟩, rfl⟩, hcells⟩ := hl
              cases o <;> first | exact g3.elim | skip
              refine ⟨fun i hi => ?_, g3.2⟩
              obtain ⟨xv, yv, c1, c2, c3⟩ := likeCells_at hcells i hi
              obtain ⟨y', uu, c4, c5, c6, c7⟩ := g3.1 i hi
              rw [c2] at c4; injection c4 with c4; subst c4
              exact ⟨xv, uu, c1, likeV_conc hold xv yv c3 c5, c6, c7⟩
            · cases hl
          · have hk0 := hN.keep c hb0
            have h1' : PT.get c Hi = some ao' := h1
            rw [hk0, e0] at h1'
            injection h1' with h1'; subst h1'
            obtain ⟨q0, d0, x0, o0, r1, r2, r3⟩ := hg0.rep c ao e0
            have := hN.fr.le.at_ _ _ r1
            rw [g1] at this; injection this with this; injection this with t1 t2; injection t2 with t2 t3
            subst t1; subst t2; subst t3
            exact (ObjC.back hN.fr.le r3 g3).le hle
        · obtain ⟨c, a1, h1, h2, h3⟩ := hstand b ao e1
          obtain ⟨c', a2, h1', h2', h3'⟩ := hstand b' ao' e2
          rw [h2] at e3; rw [h2'] at e4
          have hcc := hgi.inj c c' a1 a2 q d x d' x' h1 h1' e3 e4
          subst hcc
          rcases h3 with ⟨c1, hbc, rfl⟩ | ⟨hb, rfl, hb0, _⟩
          · rcases h3' with ⟨c2, hbc', rfl⟩ | ⟨hb', rfl, hb0', _⟩
            · exact nodup_val hnd hbc hbc'
            · have := (nodup_mem hnd hbc).2.1; omega
          · rcases h3' with ⟨c2, hbc', rfl⟩ | ⟨hb', hcb, hb0', _⟩
            · have := (nodup_mem hnd hbc').2.1; omega
            · exact hcb
        · show (if b.nat < n0.nat then ρ0.at_ b else _) = none
          have hn0 := hN.fr.num
          rw [if_neg (by omega)]
          split
          · rename_i c hc
            have hbk : b ∈ keys := by
              have : ∀ {M : Pairs}, hasKey b M = some c → (b, c) ∈ M := by
                intro M
                induction M with
                | nil => intro h; cases h
                | cons p M ih =>
                  obtain ⟨x, y⟩ := p
                  intro h
                  simp only [hasKey] at h
                  split at h
                  · rename_i hx; injection h with h; subst hx; subst h; simp
                  · exact List.mem_cons_of_mem _ (ih h)
              exact (hkm b).2 ⟨c, this hc⟩
            have := List.all_eq_true.1 hc2 b hbk
            rw [Nat.blt_eq] at this
            have := hmax.1
            omega
          · rfl
      refine ⟨v, _, Hf, L2, renOf n0 M ρ0 ρi, hk, fun _ hx => hx, likeV_conc hold v vi hv hu, hgood, ⟨hle, Nat.le_trans hN.fr.num hnmax, hrold, hN.fr.os, hN.fr.tape, hN.fr.output, hN.fr.size, hN.fr.block, fun b ao q d x e1 e2 => ?_, fun b ao e => ?_⟩, fun q hq => ?_⟩
      · obtain ⟨c, a1, h1, h2, _⟩ := hstand b ao e1
        rw [h2] at e2
        exact hN.fr.new c a1 q d x h1 e2
      · by_cases hb : b ∈ keys
        · obtain ⟨c, hbc⟩ := (hkm b).1 hb
          exact .inr (nodup_mem hnd hbc).1
        · have e' : PT.get b Hf = some ao := e
          rw [hf2 b hb] at e'
          exact .inl ⟨ao, e'⟩
      · refine hf2 q (fun hb => ?_)
        obtain ⟨c, hbc⟩ := (hkm q).1 hb
        have := (nodup_mem hnd hbc).1
        omega
    · cases h
end Go.Proofs.Ytlpnhikoipkjbaa.Abs
