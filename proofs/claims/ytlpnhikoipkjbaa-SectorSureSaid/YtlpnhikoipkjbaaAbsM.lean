/- More operations on maps: delete, entries that are turned, ranging; bytes and strings. No conditions. -/
import Derived.Test.YtlpnhikoipkjbaaAbsL
import Derived.Laws.BytesArg
set_option linter.unusedVariables false
namespace Go.Proofs.Ytlpnhikoipkjbaa.Abs
open Go Go.RowKit
noncomputable def delK {R : Type} (P : Program) (t : TypeId) (m k : AV) (H : PT AO) (kont : PT AO → Option R) : Option R :=
  match P.underlying t with
  | some (.map kt _) => if keyOk P 20 kt k then (match m with
      | .nilm => kont H
      | _ => (match mapAt H m with
        | some (b, es, c) => (match findA P kt k es 0 with
          | some (some (i, _)) => PT.setK (.map (delE i es) c) b H kont
          | some none => kont H
          | none => none)
        | none => none)) else none
  | _ => none
/-- 'm[k] op= v', first half: the entry is there, its value and its number -/
noncomputable def entryK {R : Type} (P : Program) (t : TypeId) (m k : AV) (H : PT AO) (kont : AV → PT AO → Option R) : Option R :=
  match P.underlying t, mapAt H m with
  | some (.map kt et), some (b, es, c) => if keyOk P 20 kt k then (match findA P kt k es 0 with
      | some (some (i, v)) => (match es[i]? with | some (ek, _, n) => if eqVal ek k then kont (.tup [v, .int .i64 n]) H else none | none => none)
      | some none => (match zeroV P et with | some z => PT.setK (.map (es ++ [(k, z, c)]) (c + 1)) b H fun H => kont (.tup [z, .int .i64 c]) H | none => none)
      | none => none) else none
  | _, _ => none
def bornAt (n : Int) : List Ent → Nat → Option Nat
  | [], _ => none
  | (_, _, b) :: l, i => if (b : Int) == n then some i else bornAt n l (i + 1)
noncomputable def stampK {R : Type} (m s v : AV) (H : PT AO) (kont : PT AO → Option R) : Option R :=
  match mapAt H m, s with
  | some (b, es, c), .int _ n => (match bornAt n es 0 with | some i => PT.setK (.map (setE v i es) c) b H kont | none => none)
  | _, _ => none
noncomputable def rangeK {R : Type} (P : Program) (t : TypeId) (m : AV) (n : Pos) (H : PT AO) (kont : AV → PT AO → Option R) : Option R :=
  match P.underlying t, m with
  | some (.map _ _), .nilm => PT.setK (.mit none 0 [] 0) n H fun H => kont (.ptr n 0) H
  | some (.map _ _), .map b => (match PT.get b H with | some (.map _ c) => PT.setK (.mit (some b) c [] c) n H fun H => kont (.ptr n 0) H | _ => none)
  | _, _ => none
def hasN (n : Nat) : List Nat → Bool
  | [] => false
  | m :: l => Nat.beq n m || hasN n l
/-- what a round of a map's range may yield: each entry that is left; or that it is over -/
def leftE (seen : List Nat) : List Ent → List Ent
  | [] => []
  | (k, v, b) :: l => if hasN b seen then leftE seen l else (k, v, b) :: leftE seen l
/-- a read that is no load: an entry of a map that is ranged over -/
noncomputable def curA (x : AV) (g : Hp) : Option AV :=
  match x with
  | .ptr b 0 => (match g b with
    | some (.mit (some mb) _ seen st) => (match g mb, seen.getLast? with
      | some (.map es c), some s => if c = st then (match es.find? (fun e => Nat.beq e.2.2 s) with | some (k, v, _) => some (.tup [k, v]) | none => none) else none
      | _, _ => none)
    | _ => none)
  | _ => none
def byteL : List AV → Option (List Nat)
  | [] => some []
  | .int .u8 (.ofNat n) :: l => if n < 256 then (match byteL l with | some r => some (n :: r) | none => none) else none
  | _ => none
/-- bytes as a string -/
noncomputable def bytesA0 (P : Program) (s d : TypeId) (x : AV) (g : Hp) : Option AV :=
  match P.underlying s, P.underlying d with
  | some (.slice e), some .string => (match P.underlying e, x with
    | some (.int .u8), .nils => some (.str [])
    | some (.int .u8), .slz .. => some (.str [])
    | some (.int .u8), .slc _ _ n _ _ => (match firstA 1 n x g with | some l => (match byteL l with | some r => some (.str r) | none => none) | none => none)
    | _, _ => none)
  | _, _ => none
/-- a pointer as an unsafe one, and back -/
noncomputable def unsA (P : Program) (s d : TypeId) (x : AV) (g : Hp) : Option AV :=
  match P.underlying s, P.underlying d, x with
  | some (.pointer t), some .unsafePointer, .ptr b o => (match g b, sizeT P t with
    | some (.row _ n _ _ (some _)), some (_ + 1) => if Nat.blt o n then some (.ptr b o) else none
    | _, _ => none)
  | some .unsafePointer, some (.pointer u), .ptr b o => (match g b, sizeT P u with
    | some (.row _ n _ _ (some e)), some _ => if liesAt P P.depth e (n / P.cellsOf e) o u 1 then some (.ptr b o) else none
    | _, _ => none)
  | _, _, _ => none
/-- bytes as a string; pointers that are unsafe -/
noncomputable def bytesA (P : Program) (s d : TypeId) (x : AV) (g : Hp) : Option AV :=
  match bytesA0 P s d x g with
  | some v => some v
  | none => unsA P s d x g
section
variable {P : Program}
theorem rowAt_mono (fits : TypeId → Bool) : ∀ (d : Nat) (e : TypeId) {c c' o n : Nat}, c ≤ c' → rowAt P fits d e c o n = true → rowAt P fits d e c' o n = true
  | 0, e, c, c', o, n, _, h => by cases h
  | d + 1, e, c, c', o, n, hc, h => by
    unfold rowAt at h ⊢
    simp only at h ⊢
    split at h
    · cases h
    · rename_i hs
      rw [if_neg hs]
      simp only [Bool.or_eq_true, Bool.and_eq_true, decide_eq_true_eq] at h ⊢
      rcases h with ⟨⟨h1, h2⟩, h3⟩ | ⟨h1, h2⟩
      · exact .inl ⟨⟨h1, by omega⟩, h3⟩
      · exact .inr ⟨by omega, h2⟩
theorem liesAt_mono : ∀ (d : Nat) (e : TypeId) {c c' o : Nat} (u : TypeId) (n : Nat), c ≤ c' → liesAt P d e c o u n = true → liesAt P d e c' o u n = true
  | 0, e, c, c', o, u, n, _, h => by cases h
  | d + 1, e, c, c', o, u, n, hc, h => by
    unfold liesAt at h ⊢
    simp only [Bool.or_eq_true] at h ⊢
    rcases h with h | h
    · exact .inl (rowAt_mono _ _ _ hc h)
    · refine .inr ?_
      split at h
      · exact liesAt_mono d e _ _ hc h
      · cases h
end
section
variable {P : Program}
theorem delK_some {R : Type} {t t2 ty : TypeId} {m k : AV} {H : PT AO} {kont : PT AO → Option R} {r : R} (h : delK P t m k H kont = some r) :
    ∃ H', kont H' = some r ∧ Keep m H H' ∧ ∀ {ρ : Ren} {n : Pos} {w : World} {um uk : Value}, Good ρ n (hp H) w → conc ρ m = some um → conc ρ k = some uk →
      ∃ w', (Builtin.delete_ #[t, t2] ty #[um, uk]).run P w = .ok undef w' ∧ Good ρ n (hp H') w' ∧ Fr ρ n (hp H) w ρ n (hp H') w' := by
  unfold delK at h
  split at h
  · rename_i kt et hu
    split at h
    · rename_i hko
      have hd := keyOk_under hko
      split at h
      · refine ⟨_, h, .refl _ _, fun {ρ n w um uk} hg hm hk => ?_⟩
        cases hm
        have hck := fun em w => run_keyOk (P := P) em 20 hko hk 10000 (by omega) w
        refine ⟨w, ?_, hg, Fr.refl _ _ _ _ hg.ids⟩
        simp [Builtin.delete_, run_underlying hu, hck, undef]
      · split at h
        · rename_i b es c hma
          split at h
          · rename_i i v0 hf
            rw [PT.setK_eq] at h
            refine ⟨_, h, keep_set (mapAt_id hma), fun {ρ n w um uk} hg hm hk => ?_⟩
            obtain ⟨hb, kk, d, x, es', h1, rfl, h2, hlt, h3⟩ := mapAt_spec hg hma hm
            have hck := fun em w => run_keyOk (P := P) em 20 hko hk 10000 (by omega) w
            obtain ⟨r', f1, f2⟩ := run_findA hk h3 hf hd
            cases r' with
            | none => exact f1.elim
            | some p =>
              obtain ⟨j, y⟩ := p
              obtain ⟨rfl, f4⟩ := f1
              rw [hp_set]
              obtain ⟨q1, q2⟩ := hg.turnMap (m := w.drawn) (es2 := delE j es) (c2 := c) (m2 := es'.eraseIdxIfInBounds j) hb h1 hlt (by
                have := h3.del j
                rw [Array.toList_eraseIdxIfInBounds]
                exact this)
              refine ⟨_, ?_, q1, q2⟩
              simp [Builtin.delete_, run_underlying hu, run_getMap h2, hck, f2, undef, run_setMap _ h2]
          · rename_i hf
            refine ⟨_, h, .refl _ _, fun {ρ n w um uk} hg hm hk => ?_⟩
            obtain ⟨hb, kk, d, x, es', h1, rfl, h2, hlt, h3⟩ := mapAt_spec hg hma hm
            have hck := fun em w => run_keyOk (P := P) em 20 hko hk 10000 (by omega) w
            obtain ⟨r', f1, f2⟩ := run_findA hk h3 hf hd
            cases r' with
            | some p => exact f1.elim
            | none =>
              have hsame : ({ w with heap := w.heap.setIfInBounds kk (.map es' c) } : World) = w := by
                have : w.heap.setIfInBounds kk (.map es' c) = w.heap := by
                  apply Array.ext_getElem?
                  intro q
                  by_cases hq : q = kk
                  · subst hq; rw [h2]; simp [hlt]
                  · rw [Array.getElem?_setIfInBounds_ne (fun e => hq e.symm)]
                rw [this]
              refine ⟨w, ?_, hg, Fr.refl _ _ _ _ hg.ids⟩
              simp [Builtin.delete_, run_underlying hu, run_getMap h2, hck, f2, undef, run_setMap _ h2, hsame]
          · cases h
        · cases h
    · cases h
  · cases h
theorem entryK_some {R : Type} {t : TypeId} {m k : AV} {H : PT AO} {kont : AV → PT AO → Option R} {r : R} (h : entryK P t m k H kont = some r) :
    ∃ v H', kont v H' = some r ∧ Keep m H H' ∧ ∀ {ρ : Ren} {n : Pos} {w : World} {um uk : Value}, Good ρ n (hp H) w → conc ρ m = some um → conc ρ k = some uk →
      ∃ u w', conc ρ v = some u ∧ (Instr.mapEntry t um uk).run P w = .ok u w' ∧ Good ρ n (hp H') w' ∧ Fr ρ n (hp H) w ρ n (hp H') w' := by
  unfold entryK at h
  split at h
  · rename_i kt et b es c hu hma
    split at h
    · rename_i hko
      have hd := keyOk_under hko
      split at h
      · rename_i i v0 hf
        split at h
        · rename_i ek ev bb hei
          split at h
          · rename_i hek
            refine ⟨_, _, h, .refl _ _, fun {ρ n w um uk} hg hm hk => ?_⟩
            obtain ⟨hb, kk, d, x, es', h1, rfl, h2, hlt, h3⟩ := mapAt_spec hg hma hm
            have hck := fun w => run_keyOk (P := P) false 20 hko hk 10000 (by omega) w
            obtain ⟨r', f1, f2⟩ := run_findA hk h3 hf hd
            have := eqVal_eq _ _ hek
            subst this
            obtain ⟨e, g1, g2, g3, g4⟩ := h3.get hei
            rw [hk] at g2
            injection g2 with g2
            cases r' with
            | none => exact f1.elim
            | some p =>
              obtain ⟨j, y⟩ := p
              obtain ⟨rfl, f4⟩ := f1
              have g1' : es'[j]? = some e := by simpa using g1
              obtain ⟨m0, hks⟩ := run_keyStays (P := P) uk w
              obtain ⟨q1, q2⟩ := hg.turnMap (m := m0) (es2 := es) (c2 := c) (m2 := es'.modify j fun e => { e with key := uk }) hb h1 hlt (by
                rw [Array.toList_modify]
                exact h3.same j _ (fun e' he' => by rw [g1] at he'; injection he' with he'; subst he'; rw [g2]))
              have hsame : (hp H).set b (.map es c) = hp H := by
                funext q
                unfold Hp.set
                split
                · rename_i hq; rw [hq]; exact hb.symm
                · rfl
              rw [hsame] at q1 q2
              refine ⟨.tuple #[y, .int .i64 (bb : Int)], _, tup_conc (concs_mk f4 (concs_mk rfl rfl)), ?_, q1, q2⟩
              have hkey : ((es'[j]?).map (·.key)).getD uk = uk := by rw [g1']; simp [g2]
              have hset := run_setMap (P := P) (w := { w with drawn := m0 }) (.map (es'.modify j fun e => { e with key := uk }) c) h2
              simp only [Instr.mapEntry, Sem.run_bind, run_underlying hu, Result.andThen_ok, run_getMap h2, hck, f2, hkey, hks, hset]
              simp [goInt]
              rw [g1']
              simp [g4]
          · cases h
        · cases h
      · rename_i hf
        split at h
        · rename_i z hz
          rw [PT.setK_eq] at h
          refine ⟨_, _, h, keep_set (mapAt_id hma), fun {ρ n w um uk} hg hm hk => ?_⟩
          obtain ⟨hb, kk, d, x, es', h1, rfl, h2, hlt, h3⟩ := mapAt_spec hg hma hm
          have hck := fun w => run_keyOk (P := P) false 20 hko hk 10000 (by omega) w
          obtain ⟨r', f1, f2⟩ := run_findA hk h3 hf hd
          obtain ⟨uz, hz1, hz2⟩ := run_zeroV (ρ := ρ) hz
          cases r' with
          | some p => exact f1.elim
          | none =>
            rw [hp_set]
            obtain ⟨q1, q2⟩ := hg.turnMap (m := w.drawn) (es2 := es ++ [(k, z, c)]) (c2 := c + 1) (m2 := es'.push { key := uk, val := uz, born := c }) hb h1 hlt (by
              rw [Array.toList_push]
              exact h3.push (e := { key := uk, val := uz, born := c }) hk hz1)
            refine ⟨.tuple #[uz, .int .i64 (c : Int)], _, tup_conc (concs_mk hz1 (concs_mk rfl rfl)), ?_, q1, q2⟩
            simp only [Instr.mapEntry, Sem.run_bind, run_underlying hu, Result.andThen_ok, run_getMap h2, hck, f2, hz2]
            simp [run_setMap _ h2, goInt]
        · cases h
      · cases h
    · cases h
  · cases h
theorem bornAt_spec {ρ : Ren} {s : Int} : ∀ {l : List Ent} {m : List MapEntry} (i : Nat) {j : Nat}, EntC ρ l m → bornAt s l i = some j → i ≤ j ∧ m.findIdx? (fun e => (e.born : Int) == s) = some (j - i)
  | [], _, i, j, _, h => by cases h
  | _ :: _, [], _, _, h, _ => h.elim
  | (k, v, b) :: l, e :: m, i, j, ⟨h1, h2, h3, h4⟩, h => by
    unfold bornAt at h
    split at h
    · rename_i hb
      injection h with h; subst h
      refine ⟨Nat.le_refl _, ?_⟩
      rw [List.findIdx?_cons, h3, hb]
      simp
    · rename_i hb
      obtain ⟨g1, g2⟩ := bornAt_spec (i + 1) h4 h
      refine ⟨by omega, ?_⟩
      rw [List.findIdx?_cons, h3]
      have : ((b : Int) == s) = false := by simpa using hb
      rw [this, g2]
      simp
      omega
theorem stampK_some {R : Type} {t : TypeId} {m s v : AV} {H : PT AO} {kont : PT AO → Option R} {r : R} (h : stampK m s v H kont = some r) :
    ∃ H', kont H' = some r ∧ Keep m H H' ∧ ∀ {ρ : Ren} {n : Pos} {w : World} {um us uv : Value}, Good ρ n (hp H) w → conc ρ m = some um → conc ρ s = some us → conc ρ v = some uv →
      ∃ w', (Instr.entryStore t um us uv).run P w = .ok () w' ∧ Good ρ n (hp H') w' ∧ Fr ρ n (hp H) w ρ n (hp H') w' := by
  unfold stampK at h
  split at h
  · rename_i b es c k n0 hma
    split at h
    · rename_i i hi
      rw [PT.setK_eq] at h
      refine ⟨_, h, keep_set (mapAt_id hma), fun {ρ n w um us uv} hg hm hs hv => ?_⟩
      obtain ⟨hb, kk, d, x, es', h1, rfl, h2, hlt, h3⟩ := mapAt_spec hg hma hm
      cases hs
      have hfi := (bornAt_spec 0 h3 hi).2
      rw [Nat.sub_zero] at hfi
      have hfa : es'.findIdx? (fun e => (e.born : Int) == n0) = some i := by
        rw [← hfi]
        cases es'
        simp
      rw [hp_set]
      obtain ⟨q1, q2⟩ := hg.turnMap (m := w.drawn) (es2 := setE v i es) (c2 := c) (m2 := es'.modify i fun e => { e with val := uv }) hb h1 hlt (by
        rw [Array.toList_modify]
        exact h3.set hv i _ (fun e' he' => ⟨rfl, rfl, rfl⟩))
      refine ⟨_, ?_, q1, q2⟩
      simp only [Instr.entryStore, Sem.run_bind, run_getMap h2, Result.andThen_ok, asInt, asIntOf, Sem.run_pure, hfa]
      rw [run_setMap _ h2]
    · cases h
  · cases h
theorem keep_new {x : AV} {n : Pos} {H : PT AO} (o : AO) : KeepN x n H (PT.set o n H) := fun q _ hq => by
  rw [PT.get_set, if_neg (fun e => by subst e; omega)]
theorem rangeK_some {R : Type} {t : TypeId} {m : AV} {n : Pos} {H : PT AO} {kont : AV → PT AO → Option R} {r : R} (h : rangeK P t m n H kont = some r) :
    ∃ v H', kont v H' = some r ∧ KeepN .nilp n H H' ∧ ∀ {ρ : Ren} {w : World} {um : Value}, Good ρ n (hp H) w → conc ρ m = some um →
      ∃ ρ' u w', conc ρ' v = some u ∧ (Instr.range t um).run P w = .ok u w' ∧ Good ρ' n.succ (hp H') w' ∧ Fr ρ n (hp H) w ρ' n.succ (hp H') w' := by
  unfold rangeK at h
  split at h
  · rename_i kt et hu
    rw [PT.setK_eq] at h
    refine ⟨_, _, h, keep_new _, fun {ρ w um} hg hm => ?_⟩
    cases hm
    rw [hp_set]
    obtain ⟨q1, q2⟩ := hg.alloc (.mit none 0 [] 0) (.mapIter none 0 #[] 0) 0 ⟨⟨fun _ => rfl, (fun b e => by cases e)⟩, rfl, rfl, rfl, rfl⟩
    refine ⟨_, _, _, ptr_conc (Ren.put_at _ _ _), ?_, q1, q2⟩
    simp [Instr.range, run_underlying hu]
  · rename_i kt et b hu
    split at h
    · rename_i es c hb
      rw [PT.setK_eq] at h
      refine ⟨_, _, h, keep_new _, fun {ρ w um} hg hm => ?_⟩
      obtain ⟨k, d, x, es', g1, g2, g3⟩ := hg.ents (b := b) hb
      obtain ⟨k', d', x', g1', rfl⟩ := conc_map hm
      rw [g1] at g1'; injection g1' with g1'; injection g1' with t1 t2
      subst t1
      rw [hp_set]
      have hl := Ren.le_put (ρ := ρ) (w.heap.size, 0, 0) (hg.fresh n (Nat.le_refl _))
      obtain ⟨q1, q2⟩ := hg.alloc (.mit (some b) c [] c) (.mapIter (some k) c #[] c) 0 ⟨⟨(fun e => by cases e), fun b' e => by injection e with e; subst e; exact ⟨k, d, x, hl.at_ _ _ g1, rfl⟩⟩, rfl, rfl, rfl, rfl⟩
      refine ⟨_, _, _, ptr_conc (Ren.put_at _ _ _), ?_, q1, q2⟩
      simp [Instr.range, run_underlying hu, run_getMap g2]
    · cases h
  · cases h
theorem run_getObj {w : World} {k : Nat} {o : Obj} (h : w.heap[k]? = some o) (hn : ∀ c t f, o ≠ .cells c t f) : (getObj k).run P w = .ok o w := by
  cases o <;> first | exact absurd rfl (hn _ _ _) | simp [getObj, Sem.run, h]
theorem Good.mit {ρ : Ren} {n : Pos} {g : Hp} {w : World} (hg : Good ρ n g w) {b : Pos} {m : Option Pos} {since : Nat} {seen : List Nat} {st : Nat} (hb : g b = some (.mit m since seen st)) :
    ∃ k x m', ρ.at_ b = some (k, 0, x) ∧ w.heap[k]? = some (.mapIter m' since seen.toArray st) ∧ (m = none → m' = none) ∧ ∀ b, m = some b → ∃ k d x, ρ.at_ b = some (k, d, x) ∧ m' = some k := by
  obtain ⟨k, d, x, o, h1, h2, h3⟩ := hg.rep b _ hb
  cases o with
  | mapIter m' s' se' st' =>
    obtain ⟨h4, rfl, rfl, rfl, rfl⟩ := h3
    exact ⟨k, x, m', h1, h2, h4.1, h4.2⟩
  | _ => exact h3.elim
theorem find_ent {ρ : Ren} {s : Nat} : ∀ {l : List Ent} {m : List MapEntry} {k v : AV} {b : Nat}, EntC ρ l m → l.find? (fun e => Nat.beq e.2.2 s) = some (k, v, b) → ∃ e, m.find? (fun e => e.born == s) = some e ∧ conc ρ k = some e.key ∧ conc ρ v = some e.val
  | [], m, _, _, _, _, h => by simp at h
  | _ :: _, [], _, _, _, h, _ => h.elim
  | (k0, v0, b0) :: l, e :: m, k, v, b, ⟨h1, h2, h3, h4⟩, h => by
    rw [List.find?_cons] at h
    split at h
    · rename_i hb
      injection h with h; injection h with t1 t2; injection t2 with t2 t3
      subst t1; subst t2; subst t3
      refine ⟨e, ?_, h1, h2⟩
      rw [List.find?_cons]
      have : (e.born == s) = true := by rw [h3]; simpa [Nat.beq_eq] using hb
      rw [this]
    · rename_i hb
      obtain ⟨e', g1, g2, g3⟩ := find_ent h4 h
      refine ⟨e', ?_, g2, g3⟩
      rw [List.find?_cons]
      have : (e.born == s) = false := by
        rw [h3, ← Bool.not_eq_true, beq_iff_eq]
        intro e0
        rw [e0] at hb
        simp at hb
      rw [this, g1]
theorem run_curA {ρ : Ren} {n : Pos} {g : Hp} {w : World} {x v : AV} {u : Value} (hg : Good ρ n g w) (h : curA x g = some v) (hx : conc ρ x = some u) :
    ∃ y, conc ρ v = some y ∧ (Instr.entry u).run P w = .ok y w := by
  unfold curA at h
  split at h
  · rename_i b
    split at h
    · rename_i mb since seen st hb
      split at h
      · rename_i es c s hmb hls
        split at h
        · rename_i hc
          split at h
          · rename_i k v0 b0 hf
            injection h with h; subst h
            subst hc
            obtain ⟨kk, xx, m', g1, g2, _, gm⟩ := hg.mit hb
            obtain ⟨k2, d2, x2, g3, rfl⟩ := gm mb rfl
            obtain ⟨k3, d3, x3, es', g4, g5, g6⟩ := hg.ents hmb
            rw [g3] at g4; injection g4 with g4; injection g4 with t1 t2
            subst t1
            obtain ⟨kk', d', xx', hx1, rfl⟩ := conc_ptr hx
            rw [g1] at hx1; injection hx1 with hx1; injection hx1 with t1 t3; injection t3 with t3 t4
            subst t1; subst t3
            obtain ⟨e, f1, f2, f3⟩ := find_ent g6 hf
            have hlast : seen.toArray.back? = some s := by simpa using hls
            have hfa : es'.find? (fun e => e.born == s) = some e := by rw [← f1]; cases es'; simp
            refine ⟨.tuple #[e.key, e.val], tup_conc (concs_mk f2 (concs_mk f3 rfl)), ?_⟩
            have hge := run_getObj (P := P) g2 (fun c t f e => by cases e)
            simp [Instr.entry, hge, hlast, run_getMap g5, hfa]
          · cases h
        · cases h
      · cases h
    · cases h
  · cases h
theorem byteL_conc {ρ : Ren} : ∀ {l : List AV} {r : List Nat}, byteL l = some r → r.all (· < 256) = true ∧ concs ρ l = some ((r.map Int.ofNat).map (Value.int .u8))
  | [], r, h => by injection h with h; subst h; exact ⟨rfl, rfl⟩
  | a :: l, r, h => by
    unfold byteL at h
    split at h
    · cases ‹_ :: _ = []›
    · rename_i n l' e
      injection e with e1 e2
      subst e1; subst e2
      split at h
      · rename_i hn
        split at h
        · rename_i r' hr
          injection h with h; subst h
          obtain ⟨h1, h2⟩ := byteL_conc (ρ := ρ) hr
          exact ⟨by simp [hn, h1], concs_mk rfl h2⟩
        · cases h
      · cases h
    · cases h
end
end Go.Proofs.Ytlpnhikoipkjbaa.Abs
