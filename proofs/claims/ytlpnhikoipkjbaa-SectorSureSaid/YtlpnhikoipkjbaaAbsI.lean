/- What reading the abstract heap yields: loads, look-ups, lengths of maps. No conditions. -/
import Derived.Test.YtlpnhikoipkjbaaAbsH
import Derived.MapKept
set_option linter.unusedVariables false
namespace Go.Proofs.Ytlpnhikoipkjbaa.Abs
open Go Go.RowKit
noncomputable def rdCells (cs : PT AV) (d : Option AV) : Nat → Nat → Option (List AV)
  | 0, _ => some []
  | n + 1, o => match cellA cs d o, rdCells cs d n (o + 1) with | some v, some l => some (v :: l) | _, _ => none
noncomputable def loadA (P : Program) (t : TypeId) (x : AV) (g : Hp) : Option AV :=
  match x with
  | .ptr b o => (match g b with
    | some (.row cs n df _ _) => (match aggT P t with
      | some true => (match sizeT P t with | some z => if o + z ≤ n then (match rdCells cs df z o with | some l => some (.agg l) | none => none) else none | none => none)
      | some false => if o < n then cellA cs df o else none
      | none => none)
    | _ => none)
  | _ => none
section
variable {P : Program} {ρ : Ren} {n : Pos} {g : Hp} {w : World}
theorem Good.cell (h : Good ρ n g w) {b : Pos} {cs : PT AV} {m : Nat} {df : Option AV} {es : Nat} {ty : Option TypeId} (hb : g b = some (.row cs m df es ty)) :
    ∃ k d x cc t fz, ρ.at_ b = some (k, d, x) ∧ w.heap[k]? = some (.cells cc t fz) ∧ ObjC ρ d x (.row cs m df es ty) (.cells cc t fz) ∧
      ∀ i, i < m → ∃ v u, cellA cs df i = some v ∧ conc ρ v = some u ∧ w.cell? ⟨k, d + i, none⟩ = some u ∧ w.frozen? ⟨k, d + i, none⟩ = false := by
  obtain ⟨k, d, x, o, h1, h2, h3⟩ := h.rep b _ hb
  cases o with
  | cells cc t fz =>
    refine ⟨k, d, x, cc, t, fz, h1, h2, h3, fun i hi => ?_⟩
    obtain ⟨v, u, h4, h5, h6, h7⟩ := h3.1 i hi
    refine ⟨v, u, h4, h5, ?_, ?_⟩
    · simp [World.cell?, h2, h6]
    · simp only [World.frozen?, h2]
      obtain ⟨lo, hi'⟩ := fz
      simp only [Bool.and_eq_false_iff, decide_eq_false_iff_not]
      simp only at h7
      omega
  | _ => exact h3.elim
theorem rdCells_conc {cs : PT AV} {df : Option AV} {k d m : Nat} (hc : ∀ i, i < m → ∃ v u, cellA cs df i = some v ∧ conc ρ v = some u ∧ w.cell? ⟨k, d + i, none⟩ = some u ∧ w.frozen? ⟨k, d + i, none⟩ = false) :
    ∀ (z o : Nat) {l : List AV}, rdCells cs df z o = some l → o + z ≤ m → ∃ us, concs ρ l = some us ∧ us.length = z ∧ ∀ j u, us[j]? = some u → w.cell? ⟨k, d + o + j, none⟩ = some u
  | 0, o, l, h, _ => by injection h with h; subst h; exact ⟨[], rfl, rfl, fun j u e => by simp at e⟩
  | z + 1, o, l, h, hm => by
    unfold rdCells at h
    split at h
    · rename_i v l' hv hl
      injection h with h; subst h
      obtain ⟨us, h1, h2, h3⟩ := rdCells_conc hc z (o + 1) hl (by omega)
      obtain ⟨v', u, h4, h5, h6, _⟩ := hc o (by omega)
      rw [hv] at h4
      injection h4 with h4
      subst h4
      refine ⟨u :: us, concs_mk h5 h1, by simp [h2], fun j y e => ?_⟩
      cases j with
      | zero => simp at e; subst e; exact h6
      | succ j =>
        have := h3 j y (by simpa using e)
        rwa [show d + (o + 1) + j = d + o + (j + 1) by omega] at this
    · cases h
theorem run_loadA {t : TypeId} {x v : AV} {u : Value} (hg : Good ρ n g w) (h : loadA P t x g = some v) (hx : conc ρ x = some u) :
    ∃ y, conc ρ v = some y ∧ (Instr.loadAt t u).run P w = .ok y w := by
  unfold loadA at h
  split at h
  · rename_i b o
    split at h
    · rename_i cs m df es hb
      obtain ⟨k, d, e, cc, ty, fz, h1, _, _, hc⟩ := hg.cell hb
      obtain ⟨k', d', e', h1', rfl⟩ := conc_ptr hx
      rw [h1] at h1'
      injection h1' with h1'; injection h1' with t1 t2; injection t2 with t2 t3
      subst t1; subst t2; subst t3
      split at h
      · rename_i ha
        split at h
        · rename_i z hz
          split at h
          · rename_i hoz
            split at h
            · rename_i l hl
              injection h with h; subst h
              obtain ⟨us, h3, h4, h5⟩ := rdCells_conc hc z o hl hoz
              refine ⟨_, agg_conc h3, ?_⟩
              have hr := run_loadCells_list (P := P) w ⟨k, d + o, none⟩ us (fun j y e => by rw [addr_add]; exact h5 j y e)
              rw [h4] at hr
              simp [Instr.loadAt, Instr.sureAddr, loadVar, run_isAgg ha, run_sizeOf hz, hr]
            · cases h
          · cases h
        · cases h
      · rename_i ha
        split at h
        · rename_i hoz
          obtain ⟨v', u', h4, h5, h6, _⟩ := hc o hoz
          rw [h4] at h
          injection h with h; subst h
          exact ⟨u', h5, by simp [Instr.loadAt, Instr.sureAddr, loadVar, run_isAgg ha, h6]⟩
        · cases h
      · cases h
    · cases h
  · cases h

/-- a key that a map takes -/
def keyOk (P : Program) : Nat → TypeId → AV → Bool
  | 0, _, _ => false
  | d + 1, t, v => match P.underlying t, v with
    | some .bool, _ => true
    | some (.int _), _ => true
    | some .string, _ => true
    | some (.pointer _), _ => true
    | some (.struct _), .agg l => (fieldsA P t).all fun f => match partA P f.type l f.offset with | some a => keyOk P d f.type a | none => false
    | _, _ => false
theorem run_keyOk (em : Bool) : ∀ (d : Nat) {t : TypeId} {v : AV} {u : Value}, keyOk P d t v = true → conc ρ v = some u → ∀ D, d ≤ D → ∀ w, (Instr.checkKey em D t u).run P w = .ok () w
  | 0, _, _, _, h, _, _, _, _ => by cases h
  | d + 1, t, v, u, h, hv, 0, hD, w => by omega
  | d + 1, t, v, u, h, hv, D + 1, hD, w => by
    unfold keyOk at h
    split at h
    · rename_i hu; simp [Instr.checkKey, run_underlying hu]
    · rename_i hu; simp [Instr.checkKey, run_underlying hu]
    · rename_i hu; simp [Instr.checkKey, run_underlying hu]
    · rename_i hu; simp [Instr.checkKey, run_underlying hu]
    · rename_i fs l hu
      obtain ⟨us, hus, rfl⟩ := conc_agg hv
      have hf : P.fieldsOf t = fs := by unfold Program.fieldsOf; simp only [hu]
      unfold fieldsA at h
      rw [hf] at h
      rw [Instr.checkKey]
      simp only [Sem.run_bind, run_underlying hu, Result.andThen_ok]
      rw [← Array.forIn_toList]
      generalize fs.toList = fl at h
      clear hf hu
      induction fl generalizing w with
      | nil => simp
      | cons f fl ih =>
        by_cases hn : f.name = "_"
        · rw [List.filter_cons_of_neg (by simp [hn])] at h
          simp only [List.forIn_cons, Sem.run_bind, hn, ne_eq, not_true_eq_false, if_false, Sem.run_pure, Result.andThen_ok]
          exact ih w h
        · rw [List.filter_cons_of_pos (by simp [hn])] at h
          simp only [List.all_cons, Bool.and_eq_true] at h
          have h1 := h.1
          split at h1
          · rename_i a ha
            obtain ⟨y, hy, hr⟩ := run_part hus ha
            have hk := run_keyOk em d h1 hy D (by omega)
            simp only [List.forIn_cons, Sem.run_bind, ne_eq, hn, not_false_eq_true, if_true, hr, Result.andThen_ok, hk, Sem.run_pure]
            exact ih w h.2
          · cases h1
    · cases h
def findA (P : Program) (kt : TypeId) (k : AV) : List (AV × AV × Nat) → Nat → Option (Option (Nat × AV))
  | [], _ => some none
  | (ek, ev, _) :: l, i => match eqA P 20 kt k ek with | some true => some (some (i, ev)) | some false => findA P kt k l (i + 1) | none => none
def FndC (ρ : Ren) : Option (Nat × AV) → Option (Nat × Value) → Prop
  | none, none => True
  | some (i, v), some (j, u) => j = i ∧ conc ρ v = some u
  | _, _ => False
theorem sameNow_run {kt : TypeId} {kind : TypeDesc} {u v : Value} {b : Bool} (hu : P.underlying kt = some kind) (h : Instr.sameNow kind u v = some b) (w : World) : (Op.equal kt u v).run P w = .ok b w := by
  unfold Instr.sameNow at h
  split at h
  · split at h
    · rename_i hk; subst hk; injection h with h; subst h
      exact run_equalIn_int w 9999 kt _ _ _ _ hu
    · cases h
  · injection h with h; subst h
    rw [beq_toListBytes]
    exact run_equalIn_string w 9999 kt _ _ hu
  · injection h with h; subst h
    exact run_equalIn_bool w 9999 kt _ _ hu
  · cases h
theorem find_run {kt : TypeId} {kind : TypeDesc} (hu : P.underlying kt = some kind) {k : AV} {u : Value} (hk : conc ρ k = some u) : ∀ (l : List (AV × AV × Nat)) (m : List MapEntry) (i : Nat) {r : Option (Nat × AV)}, EntC ρ l m → findA P kt k l i = some r →
    ∃ r', FndC ρ r r' ∧ (∀ w, (Instr.findAsking kt u m i).run P w = .ok r' w) ∧ ∀ r0, Instr.findNow kind u m i = some r0 → r0 = r'
  | [], [], i, r, _, h => by
    injection h with h; subst h
    exact ⟨none, trivial, fun w => by simp [Instr.findAsking], fun r0 e => by unfold Instr.findNow at e; injection e with e; exact e.symm⟩
  | [], _ :: _, _, _, he, _ => he.elim
  | _ :: _, [], _, _, he, _ => he.elim
  | (ek, ev, b) :: l, e :: m, i, r, ⟨h1, h2, h3, h4⟩, h => by
    unfold findA at h
    split at h
    · rename_i heq
      injection h with h; subst h
      have hr := fun w => run_eqA 20 heq hk h1 10000 (by omega) w
      refine ⟨some (i, e.val), ⟨rfl, h2⟩, fun w => ?_, fun r0 e0 => ?_⟩
      · simp [Instr.findAsking, Op.equal, Op.maxDepth, hr]
      · unfold Instr.findNow at e0
        split at e0
        · injection e0 with e0; exact e0.symm
        · rename_i hs
          have := sameNow_run hu hs default
          simp only [Op.equal, Op.maxDepth, hr] at this
          injection this with this; cases this
        · cases e0
    · rename_i heq
      have hr := fun w => run_eqA 20 heq hk h1 10000 (by omega) w
      obtain ⟨r', f1, f2, f3⟩ := find_run hu hk l m (i + 1) h4 h
      refine ⟨r', f1, fun w => ?_, fun r0 e0 => ?_⟩
      · simp [Instr.findAsking, Op.equal, Op.maxDepth, hr, f2]
      · unfold Instr.findNow at e0
        split at e0
        · rename_i hs
          have := sameNow_run hu hs default
          simp only [Op.equal, Op.maxDepth, hr] at this
          injection this with this; cases this
        · exact f3 r0 e0
        · cases e0
    · cases h
theorem run_findA {kt : TypeId} {k : AV} {u : Value} {l : List (AV × AV × Nat)} {m : List MapEntry} {r : Option (Nat × AV)} (hk : conc ρ k = some u) (he : EntC ρ l m) (h : findA P kt k l 0 = some r) (hd : ∃ kind, P.underlying kt = some kind) :
    ∃ r', FndC ρ r r' ∧ ∀ w, (Instr.findKey kt u m).run P w = .ok r' w := by
  obtain ⟨kind, hu⟩ := hd
  obtain ⟨r', f1, f2, f3⟩ := find_run hu hk l m 0 he h
  refine ⟨r', f1, fun w => ?_⟩
  simp only [Instr.findKey, Sem.run_bind, run_underlying hu, Result.andThen_ok]
  split
  · rename_i r0 e0
    rw [f3 r0 e0]
    simp
  · exact f2 w
noncomputable def zeroV (P : Program) (t : TypeId) : Option AV := match P.info? t with | some i => (match i.zero with | some z => ofV 8 z | none => none) | none => none
theorem run_zeroV {t : TypeId} {v : AV} (h : zeroV P t = some v) : ∃ u, conc ρ v = some u ∧ ∀ w, (zeroValue t).run P w = .ok u w := by
  unfold zeroV at h
  split at h
  · rename_i i hi
    split at h
    · rename_i z hz
      exact ⟨z, ofV_conc ρ 8 z h, fun w => by simp [zeroValue, typeInfo, hi, hz]⟩
    · cases h
  · cases h
/-- a map's entries -/
noncomputable def entsA (g : Hp) : AV → Option (List (AV × AV × Nat))
  | .nilm => some []
  | .map b => (match g b with | some (.map es _) => some es | _ => none)
  | _ => none
noncomputable def lookupA (P : Program) (t : TypeId) (m k : AV) (ok : Bool) (g : Hp) : Option AV :=
  match P.underlying t with
  | some (.map kt et) => (match entsA g m with
    | some es => if keyOk P 20 kt k then (match findA P kt k es 0 with
      | some (some (_, v)) => some (if ok then .tup [v, .bool true] else v)
      | some none => (match zeroV P et with | some v => some (if ok then .tup [v, .bool false] else v) | none => none)
      | none => none) else none
    | none => none)
  | _ => none
theorem keyOk_under {d : Nat} {t : TypeId} {v : AV} (h : keyOk P d t v = true) : ∃ kind, P.underlying t = some kind := by
  cases d with
  | zero => cases h
  | succ d =>
    cases hu : P.underlying t with
    | none => unfold keyOk at h; rw [hu] at h; cases h
    | some k => exact ⟨k, rfl⟩
theorem Good.ents (hg : Good ρ n g w) {b : Pos} {es : List (AV × AV × Nat)} {c : Nat} (hb : g b = some (.map es c)) :
    ∃ k d x es', ρ.at_ b = some (k, d, x) ∧ w.heap[k]? = some (.map es' c) ∧ EntC ρ es es'.toList := by
  obtain ⟨k, d, x, o, h1, h2, h3⟩ := hg.rep b _ hb
  cases o with
  | map es' c' => obtain ⟨rfl, h4⟩ := h3; exact ⟨k, d, x, es', h1, h2, h4⟩
  | _ => exact h3.elim
theorem run_getMap {k : Nat} {es : Array MapEntry} {c : Nat} (h : w.heap[k]? = some (.map es c)) : (getObj k).run P w = .ok (.map es c) w := by
  simp [getObj, Sem.run, h]
theorem run_lookupA {t : TypeId} {m k v : AV} {ok : Bool} {um uk : Value} (hg : Good ρ n g w) (h : lookupA P t m k ok g = some v) (hm : conc ρ m = some um) (hk : conc ρ k = some uk) :
    ∃ y, conc ρ v = some y ∧ (Instr.lookup t um uk ok).run P w = .ok y w := by
  unfold lookupA at h
  split at h
  · rename_i kt et hu
    split at h
    · rename_i es hes
      split at h
      · rename_i hko
        have hd := keyOk_under hko
        have core : ∀ (ms : Array MapEntry), EntC ρ es ms.toList → ((um = .map none ∧ ms = #[]) ∨ ∃ kk c, um = .map (some kk) ∧ w.heap[kk]? = some (.map ms c)) →
            ∃ y, conc ρ v = some y ∧ (Instr.lookup t um uk ok).run P w = .ok y w := by
          intro ms hms hform
          have hck := fun em => run_keyOk (P := P) em 20 hko hk 10000 (by omega) w
          split at h
          · rename_i r i v' hf
            injection h with h
            obtain ⟨r', f1, f2⟩ := run_findA hk hms hf hd
            cases r' with
            | none => exact f1.elim
            | some p =>
              obtain ⟨j, y⟩ := p
              obtain ⟨_, f4⟩ := f1
              cases ok with
              | true =>
                subst h
                refine ⟨.tuple #[y, .bool true], tup_conc (concs_mk f4 (concs_mk rfl rfl)), ?_⟩
                rcases hform with ⟨rfl, rfl⟩ | ⟨kk, c, rfl, hh⟩
                · simp [Instr.lookup, run_underlying hu, hck, f2]
                · simp [Instr.lookup, run_underlying hu, run_getMap hh, hck, f2]
              | false =>
                subst h
                refine ⟨y, f4, ?_⟩
                rcases hform with ⟨rfl, rfl⟩ | ⟨kk, c, rfl, hh⟩
                · simp [Instr.lookup, run_underlying hu, hck, f2]
                · simp [Instr.lookup, run_underlying hu, run_getMap hh, hck, f2]
          · rename_i hf
            obtain ⟨r', f1, f2⟩ := run_findA hk hms hf hd
            cases r' with
            | some p => exact f1.elim
            | none =>
              split at h
              · rename_i zv hz
                injection h with h
                obtain ⟨y, f4, f5⟩ := run_zeroV (ρ := ρ) hz
                cases ok with
                | true =>
                  subst h
                  refine ⟨.tuple #[y, .bool false], tup_conc (concs_mk f4 (concs_mk rfl rfl)), ?_⟩
                  rcases hform with ⟨rfl, rfl⟩ | ⟨kk, c, rfl, hh⟩
                  · simp [Instr.lookup, run_underlying hu, hck, f2, f5]
                  · simp [Instr.lookup, run_underlying hu, run_getMap hh, hck, f2, f5]
                | false =>
                  subst h
                  refine ⟨y, f4, ?_⟩
                  rcases hform with ⟨rfl, rfl⟩ | ⟨kk, c, rfl, hh⟩
                  · simp [Instr.lookup, run_underlying hu, hck, f2, f5]
                  · simp [Instr.lookup, run_underlying hu, run_getMap hh, hck, f2, f5]
              · cases h
          · cases h
        unfold entsA at hes
        split at hes
        · injection hes with hes; subst hes
          cases hm
          exact core #[] trivial (.inl ⟨rfl, rfl⟩)
        · rename_i b
          split at hes
          · rename_i es1 c hb
            injection hes with hes; subst hes
            obtain ⟨kk, d, x, es', h1, h2, h3⟩ := hg.ents hb
            obtain ⟨k', d', x', h1', rfl⟩ := conc_map hm
            rw [h1] at h1'
            injection h1' with h1'; injection h1' with t1 t2
            subst t1
            exact core es' h3 (.inr ⟨_, _, rfl, h2⟩)
          · cases hes
        · cases hes
      · cases h
    · cases h
  · cases h
end
end Go.Proofs.Ytlpnhikoipkjbaa.Abs
