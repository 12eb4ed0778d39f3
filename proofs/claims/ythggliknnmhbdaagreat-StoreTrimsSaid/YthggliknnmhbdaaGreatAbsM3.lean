/- Several texts in one: M N O. -/
import Derived.Test.YthggliknnmhbdaaGreatAbsM2
import Derived.Laws.BytesArg
import Derived.Laws.AppendOwn
import Derived.Lib.Builder
import Derived.Lib.UnsafeStr
import Derived.CallsIn
import Derived.OrdersIn
import Derived.LoopNIn
import Derived.RangeFuncSeq
/- More operations on maps: delete, entries that are turned, ranging; bytes and strings. No conditions. -/
section
set_option linter.unusedVariables false
namespace Go.Proofs.YthggliknnmhbdaaGreat.Abs
open Go Go.RowKit
noncomputable def delK {R : Type} (P : Program) (t : TypeId) (m k : AV) (H : PT AO) (kont : PT AO → Option R) : Option R :=
  match P.underlying t with
  | some (.map kt _) => if keyOk P 20 kt k then (match m with
      | .nilm => kont H
      | _ => (match mapAt H m with
        | some (b, es, c) => (match findA P kt k es 0 with
          | some (some (i, _)) => PT.setK (.map (delE i es) c) b H kont
          | some none => kont H
          | none => none)
        | none => none)) else none
  | _ => none
/-- 'm[k] op= v', first half: the entry is there, its value and its number -/
noncomputable def entryK {R : Type} (P : Program) (t : TypeId) (m k : AV) (H : PT AO) (kont : AV → PT AO → Option R) : Option R :=
  match P.underlying t, mapAt H m with
  | some (.map kt et), some (b, es, c) => if keyOk P 20 kt k then (match findA P kt k es 0 with
      | some (some (i, v)) => (match es[i]? with | some (ek, _, n) => if eqVal ek k then kont (.tup [v, .int .i64 n]) H else none | none => none)
      | some none => (match zeroV P et with | some z => PT.setK (.map (es ++ [(k, z, c)]) (c + 1)) b H fun H => kont (.tup [z, .int .i64 c]) H | none => none)
      | none => none) else none
  | _, _ => none
def bornAt (n : Int) : List Ent → Nat → Option Nat
  | [], _ => none
  | (_, _, b) :: l, i => if (b : Int) == n then some i else bornAt n l (i + 1)
noncomputable def stampK {R : Type} (m s v : AV) (H : PT AO) (kont : PT AO → Option R) : Option R :=
  match mapAt H m, s with
  | some (b, es, c), .int _ n => (match bornAt n es 0 with | some i => PT.setK (.map (setE v i es) c) b H kont | none => none)
  | _, _ => none
noncomputable def rangeK {R : Type} (P : Program) (t : TypeId) (m : AV) (n : Pos) (H : PT AO) (kont : AV → PT AO → Option R) : Option R :=
  match P.underlying t, m with
  | some (.map _ _), .nilm => PT.setK (.mit none 0 [] 0) n H fun H => kont (.ptr n 0) H
  | some (.map _ _), .map b => (match PT.get b H with | some (.map _ c) => PT.setK (.mit (some b) c [] c) n H fun H => kont (.ptr n 0) H | _ => none)
  | _, _ => none
def hasN (n : Nat) : List Nat → Bool
  | [] => false
  | m :: l => Nat.beq n m || hasN n l
/-- what a round of a map's range may yield: each entry that is left; or that it is over -/
def leftE (seen : List Nat) : List Ent → List Ent
  | [] => []
  | (k, v, b) :: l => if hasN b seen then leftE seen l else (k, v, b) :: leftE seen l
/-- a read that is no load: an entry of a map that is ranged over -/
noncomputable def curA (x : AV) (g : Hp) : Option AV :=
  match x with
  | .ptr b 0 => (match g b with
    | some (.mit (some mb) _ seen st) => (match g mb, seen.getLast? with
      | some (.map es c), some s => if c = st then (match es.find? (fun e => Nat.beq e.2.2 s) with | some (k, v, _) => some (.tup [k, v]) | none => none) else none
      | _, _ => none)
    | _ => none)
  | _ => none
def byteL : List AV → Option (List Nat)
  | [] => some []
  | .int .u8 (.ofNat n) :: l => if n < 256 then (match byteL l with | some r => some (n :: r) | none => none) else none
  | _ => none
/-- bytes as a string -/
noncomputable def bytesA0 (P : Program) (s d : TypeId) (x : AV) (g : Hp) : Option AV :=
  match P.underlying s, P.underlying d with
  | some (.slice e), some .string => (match P.underlying e, x with
    | some (.int .u8), .nils => some (.str [])
    | some (.int .u8), .slz .. => some (.str [])
    | some (.int .u8), .slc _ _ n _ _ => (match firstA 1 n x g with | some l => (match byteL l with | some r => some (.str r) | none => none) | none => none)
    | _, _ => none)
  | _, _ => none
/-- a pointer as an unsafe one, and back -/
noncomputable def unsA (P : Program) (s d : TypeId) (x : AV) (g : Hp) : Option AV :=
  match P.underlying s, P.underlying d, x with
  | some (.pointer t), some .unsafePointer, .ptr b o => (match g b, sizeT P t with
    | some (.row _ n _ _ (some _)), some (_ + 1) => if Nat.blt o n then some (.ptr b o) else none
    | _, _ => none)
  | some .unsafePointer, some (.pointer u), .ptr b o => (match g b, sizeT P u with
    | some (.row _ n _ _ (some e)), some _ => if liesAt P P.depth e (n / P.cellsOf e) o u 1 then some (.ptr b o) else none
    | _, _ => none)
  | _, _, _ => none
/-- bytes as a string; pointers that are unsafe -/
noncomputable def bytesA (P : Program) (s d : TypeId) (x : AV) (g : Hp) : Option AV :=
  match bytesA0 P s d x g with
  | some v => some v
  | none => unsA P s d x g
section
variable {P : Program}
theorem rowAt_mono (fits : TypeId → Bool) : ∀ (d : Nat) (e : TypeId) {c c' o n : Nat}, c ≤ c' → rowAt P fits d e c o n = true → rowAt P fits d e c' o n = true
  | 0, e, c, c', o, n, _, h => by cases h
  | d + 1, e, c, c', o, n, hc, h => by
    unfold rowAt at h ⊢
    simp only at h ⊢
    split at h
    · cases h
    · rename_i hs
      rw [if_neg hs]
      simp only [Bool.or_eq_true, Bool.and_eq_true, decide_eq_true_eq] at h ⊢
      rcases h with ⟨⟨h1, h2⟩, h3⟩ | ⟨h1, h2⟩
      · exact .inl ⟨⟨h1, by omega⟩, h3⟩
      · exact .inr ⟨by omega, h2⟩
theorem liesAt_mono : ∀ (d : Nat) (e : TypeId) {c c' o : Nat} (u : TypeId) (n : Nat), c ≤ c' → liesAt P d e c o u n = true → liesAt P d e c' o u n = true
  | 0, e, c, c', o, u, n, _, h => by cases h
  | d + 1, e, c, c', o, u, n, hc, h => by
    unfold liesAt at h ⊢
    simp only [Bool.or_eq_true] at h ⊢
    rcases h with h | h
    · exact .inl (rowAt_mono _ _ _ hc h)
    · refine .inr ?_
      split at h
      · exact liesAt_mono d e _ _ hc h
      · cases h
end
section
variable {P : Program}
theorem delK_some {R : Type} {t t2 ty : TypeId} {m k : AV} {H : PT AO} {kont : PT AO → Option R} {r : R} (h : delK P t m k H kont = some r) :
    ∃ H', kont H' = some r ∧ Keep m H H' ∧ ∀ {ρ : Ren} {n : Pos} {w : World} {um uk : Value}, Good ρ n (hp H) w → conc ρ m = some um → conc ρ k = some uk →
      ∃ w', (Builtin.delete_ #[t, t2] ty #[um, uk]).run P w = .ok undef w' ∧ Good ρ n (hp H') w' ∧ Fr ρ n (hp H) w ρ n (hp H') w' := by
  unfold delK at h
  split at h
  · rename_i kt et hu
    split at h
    · rename_i hko
      have hd := keyOk_under hko
      split at h
      · refine ⟨_, h, .refl _ _, fun {ρ n w um uk} hg hm hk => ?_⟩
        cases hm
        have hck := fun em w => run_keyOk (P := P) em 20 hko hk 10000 (by omega) w
        refine ⟨w, ?_, hg, Fr.refl _ _ _ _ hg.ids⟩
        simp [Builtin.delete_, run_underlying hu, hck, undef]
      · split at h
        · rename_i b es c hma
          split at h
          · rename_i i v0 hf
            rw [PT.setK_eq] at h
            refine ⟨_, h, keep_set (mapAt_id hma), fun {ρ n w um uk} hg hm hk => ?_⟩
            obtain ⟨hb, kk, d, x, es', h1, rfl, h2, hlt, h3⟩ := mapAt_spec hg hma hm
            have hck := fun em w => run_keyOk (P := P) em 20 hko hk 10000 (by omega) w
            obtain ⟨r', f1, f2⟩ := run_findA hk h3 hf hd
            cases r' with
            | none => exact f1.elim
            | some p =>
              obtain ⟨j, y⟩ := p
              obtain ⟨rfl, f4⟩ := f1
              rw [hp_set]
              obtain ⟨q1, q2⟩ := hg.turnMap (m := w.drawn) (es2 := delE j es) (c2 := c) (m2 := es'.eraseIdxIfInBounds j) hb h1 hlt (by
                have := h3.del j
                rw [Array.toList_eraseIdxIfInBounds]
                exact this)
              refine ⟨_, ?_, q1, q2⟩
              simp [Builtin.delete_, run_underlying hu, run_getMap h2, hck, f2, undef, run_setMap _ h2]
          · rename_i hf
            refine ⟨_, h, .refl _ _, fun {ρ n w um uk} hg hm hk => ?_⟩
            obtain ⟨hb, kk, d, x, es', h1, rfl, h2, hlt, h3⟩ := mapAt_spec hg hma hm
            have hck := fun em w => run_keyOk (P := P) em 20 hko hk 10000 (by omega) w
            obtain ⟨r', f1, f2⟩ := run_findA hk h3 hf hd
            cases r' with
            | some p => exact f1.elim
            | none =>
              have hsame : ({ w with heap := w.heap.setIfInBounds kk (.map es' c) } : World) = w := by
                have : w.heap.setIfInBounds kk (.map es' c) = w.heap := by
                  apply Array.ext_getElem?
                  intro q
                  by_cases hq : q = kk
                  · subst hq; rw [h2]; simp [hlt]
                  · rw [Array.getElem?_setIfInBounds_ne (fun e => hq e.symm)]
                rw [this]
              refine ⟨w, ?_, hg, Fr.refl _ _ _ _ hg.ids⟩
              simp [Builtin.delete_, run_underlying hu, run_getMap h2, hck, f2, undef, run_setMap _ h2, hsame]
          · cases h
        · cases h
    · cases h
  · cases h
theorem entryK_some {R : Type} {t : TypeId} {m k : AV} {H : PT AO} {kont : AV → PT AO → Option R} {r : R} (h : entryK P t m k H kont = some r) :
    ∃ v H', kont v H' = some r ∧ Keep m H H' ∧ ∀ {ρ : Ren} {n : Pos} {w : World} {um uk : Value}, Good ρ n (hp H) w → conc ρ m = some um → conc ρ k = some uk →
      ∃ u w', conc ρ v = some u ∧ (Instr.mapEntry t um uk).run P w = .ok u w' ∧ Good ρ n (hp H') w' ∧ Fr ρ n (hp H) w ρ n (hp H') w' := by
  unfold entryK at h
  split at h
  · rename_i kt et b es c hu hma
    split at h
    · rename_i hko
      have hd := keyOk_under hko
      split at h
      · rename_i i v0 hf
        split at h
        · rename_i ek ev bb hei
          split at h
          · rename_i hek
            refine ⟨_, _, h, .refl _ _, fun {ρ n w um uk} hg hm hk => ?_⟩
            obtain ⟨hb, kk, d, x, es', h1, rfl, h2, hlt, h3⟩ := mapAt_spec hg hma hm
            have hck := fun w => run_keyOk (P := P) false 20 hko hk 10000 (by omega) w
            obtain ⟨r', f1, f2⟩ := run_findA hk h3 hf hd
            have := eqVal_eq _ _ hek
            subst this
            obtain ⟨e, g1, g2, g3, g4⟩ := h3.get hei
            rw [hk] at g2
            injection g2 with g2
            cases r' with
            | none => exact f1.elim
            | some p =>
              obtain ⟨j, y⟩ := p
              obtain ⟨rfl, f4⟩ := f1
              have g1' : es'[j]? = some e := by simpa using g1
              obtain ⟨m0, hks⟩ := run_keyStays (P := P) uk w
              obtain ⟨q1, q2⟩ := hg.turnMap (m := m0) (es2 := es) (c2 := c) (m2 := es'.modify j fun e => { e with key := uk }) hb h1 hlt (by
                rw [Array.toList_modify]
                exact h3.same j _ (fun e' he' => by rw [g1] at he'; injection he' with he'; subst he'; rw [g2]))
              have hsame : (hp H).set b (.map es c) = hp H := by
                funext q
                unfold Hp.set
                split
                · rename_i hq; rw [hq]; exact hb.symm
                · rfl
              rw [hsame] at q1 q2
              refine ⟨.tuple #[y, .int .i64 (bb : Int)], _, tup_conc (concs_mk f4 (concs_mk rfl rfl)), ?_, q1, q2⟩
              have hkey : ((es'[j]?).map (·.key)).getD uk = uk := by rw [g1']; simp [g2]
              have hset := run_setMap (P := P) (w := { w with drawn := m0 }) (.map (es'.modify j fun e => { e with key := uk }) c) h2
              simp only [Instr.mapEntry, Sem.run_bind, run_underlying hu, Result.andThen_ok, run_getMap h2, hck, f2, hkey, hks, hset]
              simp [goInt]
              rw [g1']
              simp [g4]
          · cases h
        · cases h
      · rename_i hf
        split at h
        · rename_i z hz
          rw [PT.setK_eq] at h
          refine ⟨_, _, h, keep_set (mapAt_id hma), fun {ρ n w um uk} hg hm hk => ?_⟩
          obtain ⟨hb, kk, d, x, es', h1, rfl, h2, hlt, h3⟩ := mapAt_spec hg hma hm
          have hck := fun w => run_keyOk (P := P) false 20 hko hk 10000 (by omega) w
          obtain ⟨r', f1, f2⟩ := run_findA hk h3 hf hd
          obtain ⟨uz, hz1, hz2⟩ := run_zeroV (ρ := ρ) hz
          cases r' with
          | some p => exact f1.elim
          | none =>
            rw [hp_set]
            obtain ⟨q1, q2⟩ := hg.turnMap (m := w.drawn) (es2 := es ++ [(k, z, c)]) (c2 := c + 1) (m2 := es'.push { key := uk, val := uz, born := c }) hb h1 hlt (by
              rw [Array.toList_push]
              exact h3.push (e := { key := uk, val := uz, born := c }) hk hz1)
            refine ⟨.tuple #[uz, .int .i64 (c : Int)], _, tup_conc (concs_mk hz1 (concs_mk rfl rfl)), ?_, q1, q2⟩
            simp only [Instr.mapEntry, Sem.run_bind, run_underlying hu, Result.andThen_ok, run_getMap h2, hck, f2, hz2]
            simp [run_setMap _ h2, goInt]
        · cases h
      · cases h
    · cases h
  · cases h
theorem bornAt_spec {ρ : Ren} {s : Int} : ∀ {l : List Ent} {m : List MapEntry} (i : Nat) {j : Nat}, EntC ρ l m → bornAt s l i = some j → i ≤ j ∧ m.findIdx? (fun e => (e.born : Int) == s) = some (j - i)
  | [], _, i, j, _, h => by cases h
  | _ :: _, [], _, _, h, _ => h.elim
  | (k, v, b) :: l, e :: m, i, j, ⟨h1, h2, h3, h4⟩, h => by
    unfold bornAt at h
    split at h
    · rename_i hb
      injection h with h; subst h
      refine ⟨Nat.le_refl _, ?_⟩
      rw [List.findIdx?_cons, h3, hb]
      simp
    · rename_i hb
      obtain ⟨g1, g2⟩ := bornAt_spec (i + 1) h4 h
      refine ⟨by omega, ?_⟩
      rw [List.findIdx?_cons, h3]
      have : ((b : Int) == s) = false := by simpa using hb
      rw [this, g2]
      simp
      omega
theorem stampK_some {R : Type} {t : TypeId} {m s v : AV} {H : PT AO} {kont : PT AO → Option R} {r : R} (h : stampK m s v H kont = some r) :
    ∃ H', kont H' = some r ∧ Keep m H H' ∧ ∀ {ρ : Ren} {n : Pos} {w : World} {um us uv : Value}, Good ρ n (hp H) w → conc ρ m = some um → conc ρ s = some us → conc ρ v = some uv →
      ∃ w', (Instr.entryStore t um us uv).run P w = .ok () w' ∧ Good ρ n (hp H') w' ∧ Fr ρ n (hp H) w ρ n (hp H') w' := by
  unfold stampK at h
  split at h
  · rename_i b es c k n0 hma
    split at h
    · rename_i i hi
      rw [PT.setK_eq] at h
      refine ⟨_, h, keep_set (mapAt_id hma), fun {ρ n w um us uv} hg hm hs hv => ?_⟩
      obtain ⟨hb, kk, d, x, es', h1, rfl, h2, hlt, h3⟩ := mapAt_spec hg hma hm
      cases hs
      have hfi := (bornAt_spec 0 h3 hi).2
      rw [Nat.sub_zero] at hfi
      have hfa : es'.findIdx? (fun e => (e.born : Int) == n0) = some i := by
        rw [← hfi]
        cases es'
        simp
      rw [hp_set]
      obtain ⟨q1, q2⟩ := hg.turnMap (m := w.drawn) (es2 := setE v i es) (c2 := c) (m2 := es'.modify i fun e => { e with val := uv }) hb h1 hlt (by
        rw [Array.toList_modify]
        exact h3.set hv i _ (fun e' he' => ⟨rfl, rfl, rfl⟩))
      refine ⟨_, ?_, q1, q2⟩
      simp only [Instr.entryStore, Sem.run_bind, run_getMap h2, Result.andThen_ok, asInt, asIntOf, Sem.run_pure, hfa]
      rw [run_setMap _ h2]
    · cases h
  · cases h
theorem keep_new {x : AV} {n : Pos} {H : PT AO} (o : AO) : KeepN x n H (PT.set o n H) := fun q _ hq => by
  rw [PT.get_set, if_neg (fun e => by subst e; omega)]
theorem rangeK_some {R : Type} {t : TypeId} {m : AV} {n : Pos} {H : PT AO} {kont : AV → PT AO → Option R} {r : R} (h : rangeK P t m n H kont = some r) :
    ∃ v H', kont v H' = some r ∧ KeepN .nilp n H H' ∧ ∀ {ρ : Ren} {w : World} {um : Value}, Good ρ n (hp H) w → conc ρ m = some um →
      ∃ ρ' u w', conc ρ' v = some u ∧ (Instr.range t um).run P w = .ok u w' ∧ Good ρ' n.succ (hp H') w' ∧ Fr ρ n (hp H) w ρ' n.succ (hp H') w' := by
  unfold rangeK at h
  split at h
  · rename_i kt et hu
    rw [PT.setK_eq] at h
    refine ⟨_, _, h, keep_new _, fun {ρ w um} hg hm => ?_⟩
    cases hm
    rw [hp_set]
    obtain ⟨q1, q2⟩ := hg.alloc (.mit none 0 [] 0) (.mapIter none 0 #[] 0) 0 ⟨⟨fun _ => rfl, (fun b e => by cases e)⟩, rfl, rfl, rfl, rfl⟩
    refine ⟨_, _, _, ptr_conc (Ren.put_at _ _ _), ?_, q1, q2⟩
    simp [Instr.range, run_underlying hu]
  · rename_i kt et b hu
    split at h
    · rename_i es c hb
      rw [PT.setK_eq] at h
      refine ⟨_, _, h, keep_new _, fun {ρ w um} hg hm => ?_⟩
      obtain ⟨k, d, x, es', g1, g2, g3⟩ := hg.ents (b := b) hb
      obtain ⟨k', d', x', g1', rfl⟩ := conc_map hm
      rw [g1] at g1'; injection g1' with g1'; injection g1' with t1 t2
      subst t1
      rw [hp_set]
      have hl := Ren.le_put (ρ := ρ) (w.heap.size, 0, 0) (hg.fresh n (Nat.le_refl _))
      obtain ⟨q1, q2⟩ := hg.alloc (.mit (some b) c [] c) (.mapIter (some k) c #[] c) 0 ⟨⟨(fun e => by cases e), fun b' e => by injection e with e; subst e; exact ⟨k, d, x, hl.at_ _ _ g1, rfl⟩⟩, rfl, rfl, rfl, rfl⟩
      refine ⟨_, _, _, ptr_conc (Ren.put_at _ _ _), ?_, q1, q2⟩
      simp [Instr.range, run_underlying hu, run_getMap g2]
    · cases h
  · cases h
theorem run_getObj {w : World} {k : Nat} {o : Obj} (h : w.heap[k]? = some o) (hn : ∀ c t f, o ≠ .cells c t f) : (getObj k).run P w = .ok o w := by
  cases o <;> first | exact absurd rfl (hn _ _ _) | simp [getObj, Sem.run, h]
theorem Good.mit {ρ : Ren} {n : Pos} {g : Hp} {w : World} (hg : Good ρ n g w) {b : Pos} {m : Option Pos} {since : Nat} {seen : List Nat} {st : Nat} (hb : g b = some (.mit m since seen st)) :
    ∃ k x m', ρ.at_ b = some (k, 0, x) ∧ w.heap[k]? = some (.mapIter m' since seen.toArray st) ∧ (m = none → m' = none) ∧ ∀ b, m = some b → ∃ k d x, ρ.at_ b = some (k, d, x) ∧ m' = some k := by
  obtain ⟨k, d, x, o, h1, h2, h3⟩ := hg.rep b _ hb
  cases o with
  | mapIter m' s' se' st' =>
    obtain ⟨h4, rfl, rfl, rfl, rfl⟩ := h3
    exact ⟨k, x, m', h1, h2, h4.1, h4.2⟩
  | _ => exact h3.elim
theorem find_ent {ρ : Ren} {s : Nat} : ∀ {l : List Ent} {m : List MapEntry} {k v : AV} {b : Nat}, EntC ρ l m → l.find? (fun e => Nat.beq e.2.2 s) = some (k, v, b) → ∃ e, m.find? (fun e => e.born == s) = some e ∧ conc ρ k = some e.key ∧ conc ρ v = some e.val
  | [], m, _, _, _, _, h => by simp at h
  | _ :: _, [], _, _, _, h, _ => h.elim
  | (k0, v0, b0) :: l, e :: m, k, v, b, ⟨h1, h2, h3, h4⟩, h => by
    rw [List.find?_cons] at h
    split at h
    · rename_i hb
      injection h with h; injection h with t1 t2; injection t2 with t2 t3
      subst t1; subst t2; subst t3
      refine ⟨e, ?_, h1, h2⟩
      rw [List.find?_cons]
      have : (e.born == s) = true := by rw [h3]; simpa [Nat.beq_eq] using hb
      rw [this]
    · rename_i hb
      obtain ⟨e', g1, g2, g3⟩ := find_ent h4 h
      refine ⟨e', ?_, g2, g3⟩
      rw [List.find?_cons]
      have : (e.born == s) = false := by
        rw [h3, ← Bool.not_eq_true, beq_iff_eq]
        intro e0
        rw [e0] at hb
        simp at hb
      rw [this, g1]
theorem run_curA {ρ : Ren} {n : Pos} {g : Hp} {w : World} {x v : AV} {u : Value} (hg : Good ρ n g w) (h : curA x g = some v) (hx : conc ρ x = some u) :
    ∃ y, conc ρ v = some y ∧ (Instr.entry u).run P w = .ok y w := by
  unfold curA at h
  split at h
  · rename_i b
    split at h
    · rename_i mb since seen st hb
      split at h
      · rename_i es c s hmb hls
        split at h
        · rename_i hc
          split at h
          · rename_i k v0 b0 hf
            injection h with h; subst h
            subst hc
            obtain ⟨kk, xx, m', g1, g2, _, gm⟩ := hg.mit hb
            obtain ⟨k2, d2, x2, g3, rfl⟩ := gm mb rfl
            obtain ⟨k3, d3, x3, es', g4, g5, g6⟩ := hg.ents hmb
            rw [g3] at g4; injection g4 with g4; injection g4 with t1 t2
            subst t1
            obtain ⟨kk', d', xx', hx1, rfl⟩ := conc_ptr hx
            rw [g1] at hx1; injection hx1 with hx1; injection hx1 with t1 t3; injection t3 with t3 t4
            subst t1; subst t3
            obtain ⟨e, f1, f2, f3⟩ := find_ent g6 hf
            have hlast : seen.toArray.back? = some s := by simpa using hls
            have hfa : es'.find? (fun e => e.born == s) = some e := by rw [← f1]; cases es'; simp
            refine ⟨.tuple #[e.key, e.val], tup_conc (concs_mk f2 (concs_mk f3 rfl)), ?_⟩
            have hge := run_getObj (P := P) g2 (fun c t f e => by cases e)
            simp [Instr.entry, hge, hlast, run_getMap g5, hfa]
          · cases h
        · cases h
      · cases h
    · cases h
  · cases h
theorem byteL_conc {ρ : Ren} : ∀ {l : List AV} {r : List Nat}, byteL l = some r → r.all (· < 256) = true ∧ concs ρ l = some ((r.map Int.ofNat).map (Value.int .u8))
  | [], r, h => by injection h with h; subst h; exact ⟨rfl, rfl⟩
  | a :: l, r, h => by
    unfold byteL at h
    split at h
    · cases ‹_ :: _ = []›
    · rename_i n l' e
      injection e with e1 e2
      subst e1; subst e2
      split at h
      · rename_i hn
        split at h
        · rename_i r' hr
          injection h with h; subst h
          obtain ⟨h1, h2⟩ := byteL_conc (ρ := ρ) hr
          exact ⟨by simp [hn, h1], concs_mk rfl h2⟩
        · cases h
      · cases h
    · cases h
end
end Go.Proofs.YthggliknnmhbdaaGreat.Abs
end
/- Appends to slices; bytes as a string. No conditions. -/
section
set_option linter.unusedVariables false
namespace Go.Proofs.YthggliknnmhbdaaGreat.Abs
open Go Go.RowKit
section
variable {P : Program} {ρ : Ren}
theorem run_bytesA0 {n : Pos} {g : Hp} {w : World} {s d : TypeId} {x v : AV} {u : Value} (hg : Good ρ n g w) (h : bytesA0 P s d x g = some v) (hx : conc ρ x = some u) :
    ∃ y, conc ρ v = some y ∧ (convert s d u).run P w = .ok y w := by
  unfold bytesA0 at h
  split at h
  · rename_i e hs hd
    split at h
    · rename_i he
      injection h with h; subst h
      cases hx
      refine ⟨_, str_conc rfl, ?_⟩
      rw [run_convert_bytes_string w s d e _ 0 0 hs he hd]
      simp [Conv.bytesToString]
      rfl
    · rename_i he
      injection h with h; subst h
      obtain ⟨a, c, rfl⟩ := conc_slz' hx
      refine ⟨_, str_conc rfl, ?_⟩
      rw [run_convert_bytes_string w s d e _ 0 c hs he hd]
      rw [run_bytesToString w a 0 c [] (by simp [loadCells, loadCellsFrom])]
      rfl
    · rename_i b o ln c ex he
      split at h
      · rename_i l hl
        split at h
        · rename_i r hr
          injection h with h; subst h
          obtain ⟨us, h1, h2⟩ := run_firstA (P := P) hg hl hx
          obtain ⟨k, dd, xx, hb, rfl⟩ := conc_slc hx
          obtain ⟨h3, h4⟩ := byteL_conc (ρ := ρ) hr
          rw [h1] at h4
          injection h4 with h4
          subst h4
          refine ⟨_, str_conc h3, ?_⟩
          simp only [Builtin.firstCells, Nat.mul_one] at h2
          rw [run_convert_bytes_string w s d e _ ln _ hs he hd, run_bytesToString w _ ln _ _ h2, foldl_push_bytes]
          have e1 : (ByteArray.empty.data ++ (List.map (fun n : Int => UInt8.ofNat n.toNat) (List.map Int.ofNat r)).toArray) = (r.map UInt8.ofNat).toArray := by
            have e2 : ByteArray.empty.data = #[] := rfl
            rw [e2]
            simp [Function.comp_def]
          rw [e1]
          rfl
        · cases h
      · cases h
    · cases h
  · cases h
theorem run_unsA {n : Pos} {g : Hp} {w : World} {s d : TypeId} {x v : AV} {u : Value} (hg : Good ρ n g w) (h : unsA P s d x g = some v) (hx : conc ρ x = some u) :
    ∃ y, conc ρ v = some y ∧ (convert s d u).run P w = .ok y w := by
  have size_of : ∀ {t z}, sizeT P t = some z → ∃ j, P.info? t = some j ∧ j.size = z := fun {t z} hz => by
    unfold sizeT at hz
    split at hz
    · rename_i i hi; injection hz with hz; exact ⟨i, hi, hz⟩
    · cases hz
  unfold unsA at h
  split at h
  · rename_i t b o hs hd
    split at h
    · rename_i cs m df es e z hb hz
      split at h
      · rename_i ho
        injection h with h; subst h
        rw [Nat.blt_eq] at ho
        obtain ⟨kk, dd, xx, cc, ty, fz, h1, h2, h3, h4⟩ := hg.cell hb
        obtain ⟨k', d', x', h1', rfl⟩ := conc_ptr hx
        rw [h1] at h1'; injection h1' with h1'; injection h1' with t1 t2; injection t2 with t2 t3
        subst t1; subst t2
        obtain ⟨j, hj, hjz⟩ := size_of hz
        obtain ⟨v', y', f1, f2, f3, f4⟩ := h3.1 o ho
        have hlt := (Array.getElem?_eq_some_iff.1 f3).1
        exact ⟨_, hx, Lib.run_to_unsafe w ⟨kk, dd + o, none⟩ hs hd hj (by omega) (show w.shape? kk = some (ty, cc.size) by simp [World.shape?, h2]) hlt⟩
      · cases h
    · cases h
  · rename_i t b o hs hd
    split at h
    · rename_i cs m df es e z hb hz
      split at h
      · rename_i ho
        injection h with h; subst h
        obtain ⟨kk, dd, xx, cc, ty, fz, h1, h2, h3, h4⟩ := hg.cell hb
        obtain ⟨k', d', x', h1', rfl⟩ := conc_ptr hx
        rw [h1] at h1'; injection h1' with h1'; injection h1' with t1 t2; injection t2 with t2 t3
        subst t1; subst t2
        obtain ⟨j, hj, hjz⟩ := size_of hz
        obtain ⟨rfl, rfl⟩ := h3.2.2 e rfl
        have hm : m ≤ cc.size := by
          rcases Nat.lt_or_ge cc.size m with hlt | hge
          · obtain ⟨v', y', f1, f2, f3, f4⟩ := h3.1 cc.size hlt
            have := (Array.getElem?_eq_some_iff.1 f3).1
            omega
          · exact hge
        refine ⟨_, hx, Lib.run_from_unsafe w ⟨kk, 0 + o, none⟩ hs hd hj (show w.shape? kk = some (ty, cc.size) by simp [World.shape?, h2]) ?_⟩
        simp only [Nat.zero_add]
        exact liesAt_mono _ _ _ _ (Nat.div_le_div_right hm) ho
      · cases h
    · cases h
  · cases h
theorem run_bytesA {n : Pos} {g : Hp} {w : World} {s d : TypeId} {x v : AV} {u : Value} (hg : Good ρ n g w) (h : bytesA P s d x g = some v) (hx : conc ρ x = some u) :
    ∃ y, conc ρ v = some y ∧ (convert s d u).run P w = .ok y w := by
  unfold bytesA at h
  split at h
  · rename_i v' hv; rw [h] at hv; exact run_bytesA0 hg hv hx
  · exact run_unsA hg h hx
def notInt (P : Program) (t : TypeId) : Bool := match P.underlying t with | some (.int _) => false | some _ => true | none => false
theorem run_notInt {t : TypeId} (h : notInt P t = true) : ∃ d, P.underlying t = some d ∧ ∀ k, d ≠ .int k := by
  unfold notInt at h
  split at h
  · cases h
  · rename_i d h2 hd; exact ⟨d, hd, fun k e => h2 k e⟩
  · cases h
/-- what is appended: the cells of a slice, of a string; or so many zeros -/
def SrcOk (P : Program) (u : TypeId) (i : TypeInfo) (m : Nat) (ux : Value) (news : Array Value) (w : World) : Prop :=
  (notInt P u = true ∧ (∀ w, (Builtin.lenOf ux).run P w = .ok m w) ∧ (Builtin.firstCells i.size m ux).run P w = .ok news w) ∨
  ∃ kk kd zv, P.underlying u = some (.int kk) ∧ ux = .int kd (m : Int) ∧ m ≤ 1048576 ∧ (m : Int) * i.bytes ≤ 281474976710656 ∧ i.zero = some zv ∧ zv.cells.size = i.size ∧ news = Builtin.zeroCells zv.cells m
theorem wrap_small {m : Nat} (h : m ≤ 1048576) : IntKind.i64.wrap (m : Int) = m := by
  rw [IntKind.wrap_i64]; omega
theorem app_room {t u ty e : TypeId} {i : TypeInfo} {sLen sCap m : Nat} {a : Addr} {ux : Value} {news : Array Value} {w w' : World} (hu : P.underlying t = some (.slice e)) (hi : P.info? e = some i)
    (hs : SrcOk P u i m ux news w) (hc : sLen + m ≤ sCap) (hst : (storeCells (a.add (sLen * i.size)) news.toList).run P w = .ok () w') :
    (Builtin.append_ #[t, u] ty #[.slice (some a) sLen sCap, ux]).run P w = .ok (.slice (some a) (sLen + m) sCap) w' := by
  rcases hs with ⟨hn, hl, hf⟩ | ⟨kk, kd, zv, hd, rfl, hm, hby, hzv, hzs, rfl⟩
  · obtain ⟨d, hd, hk⟩ := run_notInt hn
    simp [Builtin.append_, run_underlying hu, run_underlying hd, sizeOf, typeInfo, hi, hl, hc, hf, hst]
  · have h1 : ¬ (281474976710656 < (m : Int) * (i.bytes : Int)) := by omega
    have h2 : ¬ ((m : Int) < 0) := by omega
    have hst' : (storeCells (a.add (sLen * i.size)) (Builtin.zeroCells zv.cells m).toList).run P w = .ok () w' := hst
    by_cases h0 : m * i.size = 0
    · have hz : (Builtin.zeroCells zv.cells m).toList = [] := by
        apply List.eq_nil_of_length_eq_zero
        simp [Builtin.zeroCells, hzs, h0]
      rw [hz] at hst'
      simp [Builtin.append_, run_underlying hu, run_underlying hd, sizeOf, typeInfo, hi, hc, asInt, asIntOf, wrap_small hm, h1, h2, h0, hst']
    · simp [Builtin.append_, run_underlying hu, run_underlying hd, sizeOf, typeInfo, hi, hc, asInt, asIntOf, wrap_small hm, h1, h2, h0, zeroValue, hzv, hst']
theorem app_nothing {t u ty e : TypeId} {i : TypeInfo} {sLen sCap : Nat} {a : Option Addr} {ux : Value} {w : World} (hu : P.underlying t = some (.slice e)) (hi : P.info? e = some i)
    (hs : SrcOk P u i 0 ux #[] w) (hc : sLen ≤ sCap) :
    (Builtin.append_ #[t, u] ty #[.slice a sLen sCap, ux]).run P w = .ok (.slice a sLen sCap) w := by
  rcases hs with ⟨hn, hl, hf⟩ | ⟨kk, kd, zv, hd, rfl, hm, hby, hzv, hzs, _⟩
  · obtain ⟨d, hd, hk⟩ := run_notInt hn
    cases a <;> simp [Builtin.append_, run_underlying hu, run_underlying hd, sizeOf, typeInfo, hi, hl, hc, hf, storeCells]
  · have hw : IntKind.i64.wrap 0 = 0 := by decide
    cases a <;> simp [Builtin.append_, run_underlying hu, run_underlying hd, sizeOf, typeInfo, hi, hc, asInt, asIntOf, hw, storeCells]
theorem app_grow {t u ty e : TypeId} {i : TypeInfo} {zv : Value} {sLen sCap m : Nat} {a : Option Addr} {ux : Value} {olds news : Array Value} {w : World} (hu : P.underlying t = some (.slice e)) (hi : P.info? e = some i) (hzv : i.zero = some zv)
    (hs : SrcOk P u i m ux news w.drew) (hc : sCap < sLen + m) (hb : (sLen + m) * i.bytes ≤ 140737488355328) (h63 : sLen + m ≤ 9223372036854775807)
    (ho : (Builtin.firstCells i.size sLen (.slice a sLen sCap)).run P w.drew = .ok olds w.drew) :
    (Builtin.append_ #[t, u] ty #[.slice a sLen sCap, ux]).run P w =
      .ok (.slice (some ⟨w.heap.size, 0, none⟩) (sLen + m) (grownCap w (sLen + m) sCap e)) (w.drew.alloc (.cells (olds ++ news ++ Builtin.zeroCells zv.cells (grownCap w (sLen + m) sCap e - (sLen + m))) e)) := by
  have h1 : ¬ (sLen + m ≤ sCap) := by omega
  have h2 : ¬ (281474976710656 < Builtin.nextslicecap (sLen + m) sCap * i.bytes) := by have := growslice_fits hc hb; omega
  have h3 : ¬ (9223372036854775807 < ((sLen : Int) + (m : Int))) := by omega
  rcases hs with ⟨hn, hl, hf⟩ | ⟨kk, kd, zv', hd, rfl, hm, hby, hzv', hzs, rfl⟩
  · obtain ⟨d, hd, hk⟩ := run_notInt hn
    simp [Builtin.append_, run_underlying hu, run_underlying hd, sizeOf, typeInfo, zeroValue, hi, hzv, hl, h1, h2, h3, Question.forced, ho, hf, newRow, grownCap]
  · rw [hzv] at hzv'; injection hzv' with hzv'; subst hzv'
    have h4 : ¬ (281474976710656 < (m : Int) * (i.bytes : Int)) := by omega
    have h5 : ¬ ((m : Int) < 0) := by omega
    by_cases h0 : m * i.size = 0
    · have hz : Builtin.zeroCells zv.cells m = #[] := by
        apply Array.eq_empty_of_size_eq_zero
        simp [Builtin.zeroCells, hzs, h0]
      simp [Builtin.append_, run_underlying hu, run_underlying hd, sizeOf, typeInfo, zeroValue, hi, hzv, asInt, asIntOf, wrap_small hm, h1, h2, h3, h4, h5, hz, Question.forced, ho, newRow, grownCap]
    · simp [Builtin.append_, run_underlying hu, run_underlying hd, sizeOf, typeInfo, zeroValue, hi, hzv, asInt, asIntOf, wrap_small hm, h1, h2, h3, h4, h5, h0, Question.forced, ho, newRow, grownCap]
def srcN (P : Program) (u : TypeId) (x : AV) : Option Nat :=
  match notInt P u with
  | true => lenL x
  | false => (match P.underlying u, x with | some (.int _), .int _ (.ofNat m) => if m ≤ 1048576 then some m else none | _, _ => none)
noncomputable def srcL (P : Program) (u e : TypeId) (i : TypeInfo) (m : Nat) (x : AV) (g : Hp) : Option (List AV) :=
  match notInt P u with
  | true => firstA i.size m x g
  | false => (match zeroA P e with | some (z :: zs) => some (cycA (z :: zs) (m * i.size)) | _ => none)
theorem src_ok {n : Pos} {g : Hp} {w : World} {u e : TypeId} {i : TypeInfo} {zv : Value} {m : Nat} {x : AV} {ux : Value} {news : List AV} (hg : Good ρ n g w) (hi : P.info? e = some i) (hzv : i.zero = some zv) (hzs : zv.cells.size = i.size) (hby : (m : Int) * i.bytes ≤ 281474976710656)
    (hm : srcN P u x = some m) (h : srcL P u e i m x g = some news) (hx : conc ρ x = some ux) : ∃ xs, concs ρ news = some xs ∧ SrcOk P u i m ux xs.toArray w ∧ SrcOk P u i m ux xs.toArray w.drew := by
  unfold srcN at hm
  unfold srcL at h
  split at hm
  · rename_i hn
    rw [hn] at h
    simp only at h
    obtain ⟨us, h1, h2⟩ := run_firstA (P := P) hg h hx
    obtain ⟨us', h3, h4⟩ := run_firstA (P := P) (hg.drew (w.drawn + 1)) h hx
    rw [h1] at h3
    injection h3 with h3
    subst h3
    exact ⟨us, h1, .inl ⟨hn, run_lenL hm hx, h2⟩, .inl ⟨hn, run_lenL hm hx, h4⟩⟩
  · rename_i hn
    rw [hn] at h
    simp only at h
    split at hm
    · rename_i kk kd m' hu
      split at hm
      · rename_i hle
        injection hm with hm; subst hm
        split at h
        · rename_i z zs hz
          injection h with h; subst h
          obtain ⟨i', zv', hi', hzv', hc⟩ := zeroA_conc (ρ := ρ) hz
          rw [hi] at hi'; injection hi' with hi'; subst hi'
          rw [hzv] at hzv'; injection hzv' with hzv'; subst hzv'
          have hcc := cycA_conc hc (by simp) (m' * i.size)
          have hx' := conc_int hx
          have he : (madeCells zv.cells (m' * i.size)).toList.toArray = Builtin.zeroCells zv.cells m' := by
            rw [Array.toArray_toList]
            unfold madeCells Builtin.zeroCells
            rw [hzs]
          refine ⟨_, hcc, ?_⟩
          rw [he]
          exact ⟨.inr ⟨kk, kd, zv, hu, hx', hle, hby, hzv, hzs, rfl⟩, .inr ⟨kk, kd, zv, hu, hx', hle, hby, hzv, hzs, rfl⟩⟩
        · cases h
      · cases hm
    · cases hm
theorem src_none {n : Pos} {g : Hp} {w : World} {u e : TypeId} {i : TypeInfo} {zv : Value} {x : AV} {ux : Value} (hg : Good ρ n g w) (hi : P.info? e = some i) (hzv : i.zero = some zv) (hzs : zv.cells.size = i.size)
    (hm : srcN P u x = some 0) (hx : conc ρ x = some ux) : SrcOk P u i 0 ux #[] w := by
  unfold srcN at hm
  split at hm
  · rename_i hn
    exact .inl ⟨hn, run_lenL hm hx, firstA_zero (g := g) hm w hx⟩
  · split at hm
    · rename_i kk kd m' hu
      split at hm
      · injection hm with hm; subst hm
        have hx' := conc_int hx
        exact .inr ⟨kk, kd, zv, hu, hx', by omega, by simp, hzv, hzs, by simp [Builtin.zeroCells, Array.range]⟩
      · cases hm
    · cases hm
/-- the heap where an old name gives way to a new one of the same block -/
theorem Good.rename {n : Pos} {g : Hp} {w w' : World} (hg : Good ρ n g w) {b : Pos} {ao ao' : AO} {k d x d' x' : Nat} {o : Obj} (hb : g b = some ao) (hk : ρ.at_ b = some (k, d, x))
    (hw : w'.heap[k]? = some o) (hrest : ∀ q, q ≠ k → w'.heap[q]? = w.heap[q]?) (hsz : w'.heap.size = w.heap.size) (hos : w'.os = w.os) (htp : w'.tape = w.tape) (hout : w'.output = w.output)
    (ho : ObjC (ρ.put n (k, d', x')) d' x' ao' o) : Good (ρ.put n (k, d', x')) n.succ ((g.del b).set n ao') w' ∧ Fr ρ n g w (ρ.put n (k, d', x')) n.succ ((g.del b).set n ao') w' := by
  have hl := Ren.le_put (k, d', x') (hg.fresh n (Nat.le_refl _))
  have old : ∀ q a, q ≠ n → ((g.del b).set n ao') q = some a → q ≠ b ∧ g q = some a ∧ ∀ y, (ρ.put n (k, d', x')).at_ q = some y → ρ.at_ q = some y := by
    intro q a hq e
    simp only [Hp.set, if_neg hq, Hp.del] at e
    split at e
    · cases e
    · rename_i hqb
      exact ⟨hqb, e, fun y ey => by simpa [Ren.put, hq] using ey⟩
  refine ⟨⟨fun q a e => ?_, fun q q' a a' k1 d1 y1 d2 y2 e1 e2 e3 e4 => ?_, fun q hq => ?_⟩, ⟨hl, by rw [Pos.nat_succ]; omega, fun q hq => ?_, hos, htp, hout, by omega, fun q hq hn => hrest q (fun e => ?_), fun q a k1 d1 y1 e1 e2 => ?_, fun q a e => ?_⟩⟩
  · by_cases hq : q = n
    · subst hq
      simp only [Hp.set, if_pos] at e
      injection e with e; subst e
      exact ⟨k, d', x', o, Ren.put_at _ _ _, hw, ho⟩
    · obtain ⟨hqb, e', _⟩ := old q a hq e
      obtain ⟨k1, d1, y1, ob, h1, h2, h3⟩ := hg.rep q a e'
      refine ⟨k1, d1, y1, ob, hl.at_ _ _ h1, ?_, h3.le hl⟩
      rw [hrest k1 (fun e0 => hqb (by subst e0; exact hg.inj q b a ao k1 d1 y1 d x e' hb h1 hk))]
      exact h2
  · by_cases hq : q = n
    · by_cases hq' : q' = n
      · rw [hq, hq']
      · obtain ⟨hqb, e', ey⟩ := old q' a' hq' e2
        rw [hq, Ren.put_at] at e3
        injection e3 with e3; injection e3 with e3
        subst e3
        exact absurd (hg.inj q' b a' ao k d2 y2 d x e' hb (ey _ e4) hk) hqb
    · obtain ⟨hqb, e', ey⟩ := old q a hq e1
      by_cases hq' : q' = n
      · rw [hq', Ren.put_at] at e4
        injection e4 with e4; injection e4 with e4
        subst e4
        exact absurd (hg.inj q b a ao k d1 y1 d x e' hb (ey _ e3) hk) hqb
      · obtain ⟨hqb', e'', ey'⟩ := old q' a' hq' e2
        exact hg.inj q q' a a' k1 d1 y1 d2 y2 e' e'' (ey _ e3) (ey' _ e4)
  · rw [Pos.nat_succ] at hq
    show (if q = n then _ else ρ.at_ q) = none
    rw [if_neg (fun e => by subst e; omega)]
    exact hg.fresh q (by omega)
  · show (if q = n then _ else ρ.at_ q) = _
    rw [if_neg (fun e => by subst e; omega)]
  · subst e; exact hn b ao d x hb hk
  · by_cases hq : q = n
    · subst hq
      rw [Ren.put_at] at e2
      injection e2 with e2; injection e2 with e2
      exact .inr ⟨b, ao, d, x, hb, by rw [← e2]; exact hk⟩
    · obtain ⟨hqb, e', ey⟩ := old q a hq e1
      exact .inr ⟨q, a, d1, y1, e', ey _ e2⟩
  · by_cases hq : q = n
    · exact .inr (by rw [hq]; exact Nat.le_refl _)
    · obtain ⟨hqb, e', _⟩ := old q a hq e
      exact .inl ⟨a, e'⟩
theorem Hp.del_le (g : Hp) (b : Pos) : Hp.le (g.del b) g := by
  intro q o e
  simp only [Hp.del] at e
  split at e
  · cases e
  · exact e
theorem Fr.sub {ρ' : Ren} {n n' : Pos} {g g0 g' : Hp} {w w' : World} (h : Fr ρ n g0 w ρ' n' g' w') (hl : Hp.le g0 g) : Fr ρ n g w ρ' n' g' w' :=
  ⟨h.le, h.num, h.old, h.os, h.tape, h.output, h.size, fun k hk hn => h.block k hk (fun b ao d x hb hx => hn b ao d x (hl _ _ hb) hx), fun b ao k d x e1 e2 => by
    rcases h.new b ao k d x e1 e2 with h1 | ⟨b0, ao0, d0, x0, h1, h2⟩
    · exact .inl h1
    · exact .inr ⟨b0, ao0, d0, x0, hl _ _ h1, h2⟩, fun b ao e => by
    rcases h.dom b ao e with ⟨ao0, h1⟩ | h1
    · exact .inl ⟨ao0, hl _ _ h1⟩
    · exact .inr h1⟩
/-- a new row that has more room than is known -/
theorem objC_open {ρ' : Ren} {cs : PT AV} {df : Option AV} {l : List AV} {xs : List Value} {cc : Array Value} {t : TypeId} {z x : Nat} (h : concs ρ' l = some xs) (hcell : ∀ i, i < l.length → cellA cs df i = l[i]?)
    (hcc : ∀ i, i < l.length → cc[i]? = xs[i]?) (hsz : l.length + x * z ≤ cc.size) {ty : Option TypeId} (hty : ty = some t ∨ ty = none) : ObjC ρ' 0 x (.row cs l.length df z ty) (.cells cc t (0, 0)) := by
  refine ⟨fun i hi => ?_, fun i hi => ⟨by omega, by simp⟩, fun e he => ⟨by rcases hty with h | h <;> rw [h] at he <;> cases he; rfl, rfl⟩⟩
  obtain ⟨u, h1, h2⟩ := concs_get h (List.getElem?_eq_getElem hi)
  exact ⟨l[i], u, by rw [hcell i hi, List.getElem?_eq_getElem hi], h2, by rw [Nat.zero_add, hcc i hi]; exact h1, by simp⟩
end
/-- a long row of one value, all of it -/
noncomputable def uniA (P : Program) (u : TypeId) (z m : Nat) (x : AV) (g : Hp) : Option AV :=
  match Nat.blt 256 m with
  | false => none
  | true => (match notInt P u, x with
    | true, .slc b o _ _ _ => (match g b with
      | some (.row .lf n (some v) _ _) => if Nat.ble (o + m * z) n && oneA v then some v else none
      | _ => none)
    | _, _ => none)
/-- what is known of a block's type behind an append in place -/
def tyIf (e : TypeId) : Option TypeId → Option TypeId
  | some t => if Nat.beq t e then some e else none
  | none => none
noncomputable def appendK {R : Type} (P : Program) (t u : TypeId) (s x : AV) (n : Pos) (H : PT AO) (k : AV → Pos → PT AO → Option R) : Option R :=
  match P.underlying t with
  | some (.slice e) => (match P.info? e, lenL s, srcN P u x with
    | some i, some sl, some m =>
      (match i.zero with
      | none => none
      | some zv => if zv.cells.size = i.size ∧ 0 < i.size then
        (if m = 0 then (match s with
          | .nils => k s n H
          | .slc b o len cap ex => if len ≤ cap then k (.slc b o len cap ex) n H else none
          | .slz b o p => k (.slz b o p) n H
          | _ => none)
        else if (sl + m) * i.bytes ≤ 1073741824 ∧ sl + m ≤ 1073741824 then
          (match uniA P u i.size m x (hp H), s with
          | some v, .slc b o len cap false => (match PT.get b H with
            | some (.row cs rn df es _) => if es = i.size ∧ len = cap ∧ o + cap * i.size = rn then (match rdCells cs df (len * i.size) o with
              | some olds => PT.delK b H fun H => rowK olds 0 .lf fun cs c => forceN (c + m * i.size) fun c => PT.setK (.row cs c (some v) i.size none) n H fun H => forceN (len + m) fun q => k (.slc n 0 q q false) n.succ H
              | none => none) else none
            | _ => none)
          | _, _ => (match srcL P u e i m x (hp H) with
          | none => none
          | some news => if news.all oneA = true ∧ news.length = m * i.size then
            (match s with
            | .nils => rowK news 0 .lf fun cs c => PT.setK (.row cs c none i.size (some e)) n H fun H => forceN m fun m => k (.slc n 0 m m false) n.succ H
            | .slc b o len cap true => if len + m ≤ cap then putK (.ptr b (o + len * i.size)) news H fun H => forceN (len + m) fun q => k (.slc b o q cap true) n H else
                (match firstA i.size len s (hp H) with
                | some olds => rowK (olds ++ news) 0 .lf fun cs c => PT.setK (.row cs c none i.size (some e)) n H fun H => forceN (len + m) fun q => k (.slc n 0 q q false) n.succ H
                | none => none)
            | .slc b o len cap false => (match PT.get b H with
                | some (.row cs rn df es ty) => if es = i.size ∧ len = cap ∧ o + cap * i.size = rn then
                    (if o = 0 then PT.delK b H fun H => wrK news rn cs fun cs => forceN (rn + news.length) fun rn => PT.setK (.row cs rn df es (tyIf e ty)) n H fun H => forceN (len + m) fun q => k (.slc n 0 q q false) n.succ H
                    else (match rdCells cs df (len * i.size) o with
                      | some olds => PT.delK b H fun H => rowK (olds ++ news) 0 .lf fun cs c => PT.setK (.row cs c none i.size none) n H fun H => forceN (len + m) fun q => k (.slc n 0 q q false) n.succ H
                      | none => none)) else none
                | _ => none)
            | .slz b o p => (match PT.get b H with
                | some (.row cs rn df es ty) => if es = i.size ∧ o = rn then
                    PT.delK b H fun H => rowK news 0 .lf fun cs c => PT.setK (.row cs c none i.size none) n H fun H => forceN m fun m => k (.slc n 0 m m false) n.succ H else none
                | _ => none)
            | _ => none) else none))
        else none) else none)
    | _, _, _ => none)
  | _ => none
section
variable {P : Program} {ρ : Ren}
theorem rdCells_len {cs : PT AV} {df : Option AV} : ∀ {z o : Nat} {l : List AV}, rdCells cs df z o = some l → l.length = z ∧ ∀ j, j < z → l[j]? = cellA cs df (o + j)
  | 0, o, l, h => by injection h with h; subst h; exact ⟨rfl, fun j hj => by omega⟩
  | z + 1, o, l, h => by
    unfold rdCells at h
    split at h
    · rename_i v l' hv hl
      injection h with h; subst h
      obtain ⟨h1, h2⟩ := rdCells_len hl
      refine ⟨by simp [h1], fun j hj => ?_⟩
      cases j with
      | zero => simpa using hv.symm
      | succ j => rw [List.getElem?_cons_succ, h2 j (by omega), show o + 1 + j = o + (j + 1) by omega]
    · cases h
theorem size_zero (z : Array Value) (n : Nat) : (Builtin.zeroCells z n).size = n * z.size := by simp [Builtin.zeroCells]
/-- the slice grows into a new row -/
theorem grow_case {n : Pos} {g g0 : Hp} {w : World} (hg : Good ρ n g w) (hl0 : Hp.le g0 g) {t u ty e : TypeId} {i : TypeInfo} {zv : Value} {sl sc m : Nat} {a : Option Addr} {ux : Value} {l0 l1 : List AV} {xs0 xs1 : List Value}
    (hu : P.underlying t = some (.slice e)) (hi : P.info? e = some i) (hzv : i.zero = some zv) (hzs : zv.cells.size = i.size)
    (hs : SrcOk P u i m ux xs1.toArray w.drew) (hc : sc < sl + m) (hb : (sl + m) * i.bytes ≤ 1073741824) (hsm : sl + m ≤ 1073741824)
    (ho : (Builtin.firstCells i.size sl (.slice a sl sc)).run P w.drew = .ok xs0.toArray w.drew)
    (h0 : concs ρ l0 = some xs0) (h1 : concs ρ l1 = some xs1) {cs : PT AV} {df : Option AV} (hcell : ∀ j, j < (l0 ++ l1).length → cellA cs df j = (l0 ++ l1)[j]?) {c : Nat} (hcl : c = (l0 ++ l1).length) {tt : Option TypeId} (htt : tt = some e ∨ tt = none) :
    ∃ ρ' y w', conc ρ' (.slc n 0 (sl + m) (sl + m) false) = some y ∧ (Builtin.append_ #[t, u] ty #[.slice a sl sc, ux]).run P w = .ok y w' ∧
      Good ρ' n.succ (g0.set n (.row cs c df i.size tt)) w' ∧ Fr ρ n g w ρ' n.succ (g0.set n (.row cs c df i.size tt)) w' := by
  have hr := app_grow (ty := ty) hu hi hzv hs hc (by omega) (by omega) ho
  have hge := grownCap_ge w (sl + m) sc e
  have hgd : Good ρ n g0 w.drew := (hg.sub hl0).drew (w.drawn + 1)
  have hls := Ren.le_put (w.heap.size, 0, grownCap w (sl + m) sc e - (sl + m)) (hg.fresh n (Nat.le_refl _))
  have hlen := concs_len (concs_app h0 h1)
  obtain ⟨q1, q2⟩ := hgd.alloc (.row cs c df i.size tt) (.cells (xs0.toArray ++ xs1.toArray ++ Builtin.zeroCells zv.cells (grownCap w (sl + m) sc e - (sl + m))) e) (grownCap w (sl + m) sc e - (sl + m)) (by
    subst hcl
    refine objC_open (concs_le hls _ (concs_app h0 h1)) hcell (fun j hj => ?_) ?_ htt
    · rw [Array.getElem?_append_left (by simp only [Array.size_append, List.size_toArray]; rw [← List.length_append, hlen]; exact hj)]
      simp
    · simp only [Array.size_append, List.size_toArray, size_zero, hzs]
      rw [← List.length_append, hlen]
      exact Nat.le_refl _)
  refine ⟨_, _, _, slc_conc (Ren.put_at _ _ _), ?_, q1, (q2.drew' (w.drawn + 1)).sub hl0⟩
  rw [hr]
  simp only [Bool.false_eq_true, if_false, Nat.zero_add]
  rw [show sl + m + (grownCap w (sl + m) sc e - (sl + m)) = grownCap w (sl + m) sc e by omega]
  rfl
/-- the slice goes on in its own row, which nobody else knows any more -/
theorem room_case {n : Pos} {g : Hp} {w : World} (hg : Good ρ n g w) {t u ty e : TypeId} {i : TypeInfo} {sl m b0 : Nat} {ux : Value} {l1 : List AV} {xs1 : List Value} {b : Pos} {cs0 cs : PT AV} {df0 df : Option AV} {rn o kk d x c : Nat} {l0 : List AV}
    (hu : P.underlying t = some (.slice e)) (hi : P.info? e = some i)
    (hs : SrcOk P u i m ux xs1.toArray w) {tt0 tt : Option TypeId} (hbb : g b = some (.row cs0 rn df0 i.size tt0)) (htt : tt = none ∨ (o = 0 ∧ tt = tt0)) (hk : ρ.at_ b = some (kk, d, x)) (hmx : m ≤ x) (horn : o + sl * i.size = rn)
    (h1 : concs ρ l1 = some xs1) (hone : l1.all oneA = true) (hlen1 : l1.length = m * i.size)
    (hl0 : l0.length = sl * i.size) (hl0c : ∀ j, j < sl * i.size → l0[j]? = cellA cs0 df0 (o + j))
    (hcell : ∀ j, j < (l0 ++ l1).length → cellA cs df j = (l0 ++ l1)[j]?) (hcl : c = (l0 ++ l1).length) :
    ∃ ρ' y w', conc ρ' (.slc n 0 (sl + m) (sl + m) false) = some y ∧ (Builtin.append_ #[t, u] ty #[.slice (some ⟨kk, d + o, none⟩) sl (sl + x), ux]).run P w = .ok y w' ∧
      Good ρ' n.succ ((g.del b).set n (.row cs c df i.size tt)) w' ∧ Fr ρ n g w ρ' n.succ ((g.del b).set n (.row cs c df i.size tt)) w' := by
  obtain ⟨kk', d', x', cc, ty', fz, g1, g2, g3, g4⟩ := hg.cell hbb
  rw [hk] at g1; injection g1 with g1; injection g1 with t1 t2; injection t2 with t2 t3
  subst t1; subst t2; subst t3
  have hlx := concs_len h1
  have hmz : m * i.size ≤ x * i.size := Nat.mul_le_mul_right _ hmx
  obtain ⟨w', cc', e1, e2, e3, e4, e5, e6, e7, e8, e9⟩ := run_storeRow (P := P) kk ty' fz (d + o + sl * i.size) xs1 0 w cc g2 (fun j hj => by
    have := g3.2.1 j (by omega)
    rw [show d + rn + j = d + o + sl * i.size + 0 + j by omega] at this
    exact this) (allOne hone h1)
  simp only [Nat.add_zero] at e4
  have hr := app_room (ty := ty) (sLen := sl) (m := m) (sCap := sl + x) (a := ⟨kk, d + o, none⟩) hu hi hs (by omega) (by rw [addr_add]; simpa using e1)
  have hls := Ren.le_put (kk, d + o, x - m) (hg.fresh n (Nat.le_refl _))
  have hxm : (x - m) * i.size + m * i.size = x * i.size := by rw [← Nat.add_mul]; congr 1; omega
  obtain ⟨q1, q2⟩ := hg.rename (d' := d + o) (x' := x - m) (ao' := .row cs c df i.size tt) hbb hk e2 e5 e6 e7 e8 e9 (by
    subst hcl
    refine ⟨fun j hj => ?_, fun j hj => ?_, ?_⟩
    · rw [List.length_append] at hj
      by_cases hjs : j < sl * i.size
      · obtain ⟨v, y, f1, f2, f3, f4⟩ := g3.1 (o + j) (by omega)
        refine ⟨v, y, ?_, conc_le hls _ f2, ?_, ?_⟩
        · rw [hcell j (by rw [List.length_append]; exact hj), List.getElem?_append_left (by omega), hl0c j hjs, f1]
        · rw [e4, if_neg (by omega), ← f3]
          congr 1
          omega
        · rw [show d + o + j = d + (o + j) by omega]; exact f4
      · have hj1 : j - l0.length < l1.length := by omega
        obtain ⟨y, f1, f2⟩ := concs_get h1 (List.getElem?_eq_getElem hj1)
        refine ⟨l1[j - l0.length], y, ?_, conc_le hls _ f2, ?_, ?_⟩
        · rw [hcell j (by rw [List.length_append]; exact hj), List.getElem?_append_right (by omega), List.getElem?_eq_getElem hj1]
        · rw [e4, if_pos (by omega), ← f1]
          congr 1
          omega
        · have := g3.2.1 (j - l0.length) (by omega)
          rw [show d + rn + (j - l0.length) = d + o + j by omega] at this
          exact this.2
    · rw [List.length_append]
      have := g3.2.1 (m * i.size + j) (by omega)
      rw [show d + o + (l0.length + l1.length) + j = d + rn + (m * i.size + j) by omega]
      exact ⟨by rw [e3]; exact this.1, this.2⟩
    · intro e2 he2
      rcases htt with h | ⟨h, h'⟩
      · rw [h] at he2; cases he2
      · have := g3.2.2 e2 (by rw [← h']; exact he2)
        exact ⟨this.1, by omega⟩)
  refine ⟨_, _, w', slc_conc (Ren.put_at _ _ _), ?_, q1, q2⟩
  rw [hr]
  simp only [Bool.false_eq_true, if_false, Nat.add_zero]
  rw [show sl + m + (x - m) = sl + x by omega]
theorem firstA_drew {n : Pos} {g : Hp} {w : World} {z m : Nat} {x : AV} {u : Value} {l : List AV} {xs : List Value} (hg : Good ρ n g w) (h : firstA z m x g = some l) (hx : conc ρ x = some u) (hc : concs ρ l = some xs) :
    (Builtin.firstCells z m u).run P w = .ok xs.toArray w ∧ (Builtin.firstCells z m u).run P w.drew = .ok xs.toArray w.drew := by
  obtain ⟨us, h1, h2⟩ := run_firstA (P := P) hg h hx
  obtain ⟨us', h3, h4⟩ := run_firstA (P := P) (hg.drew (w.drawn + 1)) h hx
  rw [hc] at h1 h3
  injection h1 with h1; injection h3 with h3
  subst h1; subst h3
  exact ⟨h2, h4⟩
theorem tyIf_room {e : TypeId} {tt tt0 : Option TypeId} {o : Nat} (h : tt = none ∨ (o = 0 ∧ tt = tyIf e tt0)) : tt = none ∨ (o = 0 ∧ tt = tt0) := by
  rcases h with h | ⟨h1, h2⟩
  · exact .inl h
  · cases tt0 with
    | none => exact .inl h2
    | some t =>
      simp only [tyIf] at h2
      split at h2
      · rename_i h3; rw [Nat.eq_of_beq_eq_true h3]; exact .inr ⟨h1, h2⟩
      · exact .inl h2
theorem tyIf_grow {e : TypeId} {tt tt0 : Option TypeId} {o : Nat} (h : tt = none ∨ (o = 0 ∧ tt = tyIf e tt0)) : tt = some e ∨ tt = none := by
  rcases h with h | ⟨h1, h2⟩
  · exact .inr h
  · cases tt0 with
    | none => exact .inr h2
    | some t =>
      simp only [tyIf] at h2
      split at h2
      · exact .inl h2
      · exact .inr h2
theorem keep_del {x : AV} {n b : Pos} {H : PT AO} (h : idOf x = some b) (o : AO) : KeepN x n H (PT.set o n (PT.del b H)) := fun q e hq => by
  rw [PT.get_set, if_neg (fun e => by subst e; omega), PT.get_del, if_neg (fun e' => e (by rw [e']; exact h))]
theorem uniA_src {u e : TypeId} {i : TypeInfo} {m : Nat} {x v : AV} {g : Hp} (h : uniA P u i.size m x g = some v) : srcL P u e i m x g = some (List.replicate (m * i.size) v) ∧ oneA v = true := by
  unfold uniA at h
  cases hm : Nat.blt 256 m with
  | false => rw [hm] at h; cases h
  | true =>
    rw [hm] at h
    dsimp only at h
    split at h
    · rename_i b o ln c ex hn
      split at h
      · rename_i n v' es ty hb
        split at h
        · rename_i hc
          simp only [Bool.and_eq_true] at hc
          injection h with h; subst h
          refine ⟨?_, hc.2⟩
          unfold srcL
          rw [hn]
          simp only [firstA, hb]
          rw [if_pos (Nat.le_of_ble_eq_true hc.1)]
          have : ∀ (z o : Nat), rdCells .lf (some v') z o = some (List.replicate z v') := by
            intro z
            induction z with
            | zero => intro o; rfl
            | succ z ih =>
              intro o
              have hcell : cellA .lf (some v') o = some v' := by simp [cellA, PT.get_lf]
              simp only [rdCells, hcell, ih, List.replicate_succ]
          exact this _ _
        · cases h
      · cases h
    · cases h
theorem app_both {n : Pos} {H : PT AO} {t u ty e : TypeId} {i : TypeInfo} {zv : Value} {len m : Nat} {x : AV} {news : List AV} {b : Pos} {o rn : Nat} {cs : PT AV} {df : Option AV} {tt0 : Option TypeId}
    (hu : P.underlying t = some (.slice e)) (hi : P.info? e = some i) (hzv : i.zero = some zv) (hz : zv.cells.size = i.size ∧ 0 < i.size) (hbd : (len + m) * i.bytes ≤ 1073741824 ∧ len + m ≤ 1073741824)
    (hm0 : ¬ m = 0) (hone : news.all oneA = true ∧ news.length = m * i.size)
    (hsrc : ∀ {ρ : Ren} {ux : Value} {w : World}, Good ρ n (hp H) w → conc ρ x = some ux → ∃ xs, concs ρ news = some xs ∧ SrcOk P u i m ux xs.toArray w ∧ SrcOk P u i m ux xs.toArray w.drew)
    (hb : PT.get b H = some (.row cs rn df i.size tt0)) (hrn : o + len * i.size = rn)
    (l0 : List AV) (cs' : PT AV) (df' : Option AV) (c : Nat) (tt : Option TypeId) (htt : tt = none ∨ (o = 0 ∧ tt = tyIf e tt0)) (a1 : l0.length = len * i.size) (a2 : ∀ j, j < len * i.size → l0[j]? = cellA cs df (o + j))
    (a3 : ∀ j, j < (l0 ++ news).length → cellA cs' df' j = (l0 ++ news)[j]?) (a4 : c = (l0 ++ news).length)
    {ρ : Ren} {w : World} {us ux : Value} (hg : Good ρ n (hp H) w) (hs : conc ρ (.slc b o len len false) = some us) (hx : conc ρ x = some ux) :
    ∃ ρ' y w', conc ρ' (.slc n 0 (len + m) (len + m) false) = some y ∧ (Builtin.append_ #[t, u] ty #[us, ux]).run P w = .ok y w' ∧ Good ρ' n.succ (((hp H).del b).set n (.row cs' c df' i.size tt)) w' ∧ Fr ρ n (hp H) w ρ' n.succ (((hp H).del b).set n (.row cs' c df' i.size tt)) w' := by
  obtain ⟨xs, h1, h2, h3⟩ := hsrc hg hx
  obtain ⟨kk, d, xx, hb', rfl⟩ := conc_slc hs
  by_cases hroom : m ≤ xx
  · exact room_case (ty := ty) hg hu hi h2 (b0 := 0) hb (tyIf_room htt) hb' hroom hrn h1 hone.1 hone.2 a1 a2 a3 a4
  · have hol : firstA i.size len (.slc b o len len false) (hp H) = rdCells cs df (len * i.size) o := by
      have hb2 : hp H b = some (.row cs rn df i.size tt0) := hb
      simp only [firstA, hb2]
      rw [if_pos (by omega)]
    have hex : ∃ l, rdCells cs df (len * i.size) o = some l := by
      obtain ⟨_, _, _, _, _, _, _, _, _, hcell⟩ := hg.cell hb
      have : ∀ z o', o' + z ≤ rn → ∃ l, rdCells cs df z o' = some l := by
        intro z
        induction z with
        | zero => intro o' _; exact ⟨[], rfl⟩
        | succ z ih =>
          intro o' ho'
          obtain ⟨l, hl⟩ := ih (o' + 1) (by omega)
          obtain ⟨v, _, hv, _⟩ := hcell o' (by omega)
          exact ⟨v :: l, by simp only [rdCells, hv, hl]⟩
      exact this _ _ (by omega)
    obtain ⟨l, hl⟩ := hex
    obtain ⟨b1, b2⟩ := rdCells_len hl
    have hll : l = l0 := by
      apply List.ext_getElem?
      intro j
      by_cases hj : j < len * i.size
      · rw [b2 j hj, a2 j hj]
      · rw [List.getElem?_eq_none (by omega), List.getElem?_eq_none (by omega)]
    subst hll
    rw [hl] at hol
    obtain ⟨xs0, h4, _⟩ := run_firstA (P := P) hg hol hs
    obtain ⟨h5, h6⟩ := firstA_drew (P := P) hg hol hs h4
    exact grow_case (ty := ty) hg (Hp.del_le _ b) (l0 := l) (l1 := news) hu hi hzv hz.1 h3 (by simp; omega) hbd.1 hbd.2 h6 h4 h1 a3 a4 (tyIf_grow htt)
theorem appendK_some {R : Type} {t u ty : TypeId} {s x : AV} {n : Pos} {H : PT AO} {k : AV → Pos → PT AO → Option R} {r : R} (h : appendK P t u s x n H k = some r) :
    ∃ v n' H', k v n' H' = some r ∧ KeepN s n H H' ∧ ∀ {ρ : Ren} {w : World} {us ux : Value}, Good ρ n (hp H) w → conc ρ s = some us → conc ρ x = some ux →
      ∃ ρ' y w', conc ρ' v = some y ∧ (Builtin.append_ #[t, u] ty #[us, ux]).run P w = .ok y w' ∧ Good ρ' n' (hp H') w' ∧ Fr ρ n (hp H) w ρ' n' (hp H') w' := by
  unfold appendK at h
  split at h
  case h_2 => cases h
  rename_i e hu
  split at h
  case h_2 => cases h
  rename_i i sl m hi hsl hm
  split at h
  case h_1 => cases h
  rename_i zv hzv
  split at h
  case isFalse => cases h
  rename_i hz
  split at h
  · rename_i h0
    subst h0
    have hf0 := fun {ρ : Ren} {ux : Value} {w : World} (hg : Good ρ n (hp H) w) (hx : conc ρ x = some ux) => src_none (P := P) hg hi hzv hz.1 hm hx
    split at h
    · refine ⟨_, _, _, h, (Keep.refl _ _).n n, fun {ρ w us ux} hg hs hx => ⟨ρ, us, w, hs, ?_, hg, Fr.refl _ _ _ _ hg.ids⟩⟩
      cases hs
      exact app_nothing hu hi (hf0 hg hx) (Nat.le_refl _)
    · rename_i b o len cap ex
      split at h
      · rename_i hc
        refine ⟨_, _, _, h, (Keep.refl _ _).n n, fun {ρ w us ux} hg hs hx => ⟨ρ, us, w, hs, ?_, hg, Fr.refl _ _ _ _ hg.ids⟩⟩
        obtain ⟨kk, d, xx, hb, rfl⟩ := conc_slc hs
        exact app_nothing hu hi (hf0 hg hx) (by split <;> omega)
      · cases h
    · refine ⟨_, _, _, h, (Keep.refl _ _).n n, fun {ρ w us ux} hg hs hx => ⟨ρ, us, w, hs, ?_, hg, Fr.refl _ _ _ _ hg.ids⟩⟩
      obtain ⟨a, c, rfl⟩ := conc_slz' hs
      exact app_nothing hu hi (hf0 hg hx) (Nat.zero_le _)
    · cases h
  · rename_i hm0
    split at h
    case isFalse => cases h
    rename_i hbd
    have hmb : (m : Int) * i.bytes ≤ 281474976710656 := by
      have h1 := hbd.1
      have h2 : m * i.bytes ≤ (sl + m) * i.bytes := Nat.mul_le_mul_right _ (by omega)
      have h3 : ((m * i.bytes : Nat) : Int) ≤ 281474976710656 := by omega
      simpa using h3
    split at h
    · rename_i v b o len cap huni
      injection hsl with hsl; subst hsl
      obtain ⟨hnews, hv1⟩ := uniA_src (e := e) huni
      have hone : (List.replicate (m * i.size) v).all oneA = true ∧ (List.replicate (m * i.size) v).length = m * i.size := ⟨by rw [List.all_eq_true]; intro y hy; rw [(List.mem_replicate.1 hy).2]; exact hv1, by simp⟩
      split at h
      · rename_i cs rn df es tt0 hb
        split at h
        case isFalse => cases h
        rename_i hc
        obtain ⟨rfl, rfl, hrn⟩ := hc
        split at h
        · rename_i olds hol
          rw [PT.delK_eq, rowK_eq, forceN_eq, PT.setK_eq, forceN_eq] at h
          obtain ⟨b1, b2⟩ := rdCells_len hol
          refine ⟨_, _, _, h, keep_del rfl _, fun {ρ w us ux} hg hs hx => ?_⟩
          rw [hp_set, hp_del]
          refine app_both (ty := ty) hu hi hzv hz hbd hm0 hone (fun hg hx => src_ok (P := P) hg hi hzv hz.1 hmb hm hnews hx) hb hrn olds _ _ _ _ (.inl rfl) b1 b2 (fun j hj => ?_) (by simp) hg hs hx
          unfold cellA
          rw [fillT_get]
          by_cases hj1 : j < olds.length
          · rw [if_pos (by omega), List.getElem?_append_left hj1, Nat.sub_zero, List.getElem?_eq_getElem hj1]
          · rw [if_neg (by omega), PT.get_lf, List.getElem?_append_right (by omega), List.getElem?_replicate, if_pos (by simp at hj; omega)]
        · cases h
      · cases h
    rename_i hne
    clear hne
    split at h
    · cases h
    · rename_i news hnews
      split at h
      case isFalse => cases h
      rename_i hone
      have hsrc := fun {ρ : Ren} {ux : Value} {w : World} (hg : Good ρ n (hp H) w) (hx : conc ρ x = some ux) => src_ok (P := P) hg hi hzv hz.1 hmb hm hnews hx
      split at h
      · -- nil
        rw [rowK_eq, PT.setK_eq, forceN_eq] at h
        refine ⟨_, _, _, h, keep_new _, fun {ρ w us ux} hg hs hx => ?_⟩
        cases hs
        injection hsl with hsl; subst hsl
        obtain ⟨xs, h1, h2, h3⟩ := hsrc hg hx
        obtain ⟨ρ', y, w', q1, q2, q3, q4⟩ := grow_case (ty := ty) hg (g0 := hp H) (fun _ _ e => e) (sl := 0) (sc := 0) (a := none) (l0 := []) (l1 := news) (xs0 := []) (xs1 := xs) (cs := fillT news 0 .lf) (df := none) (c := 0 + news.length) hu hi hzv hz.1 h3 (by omega) hbd.1 hbd.2 (by simp [Builtin.firstCells]) rfl h1 (fun j hj => fillT_cell _ _ _ hj) (by simp) (.inl rfl)
        rw [hp_set]
        rw [Nat.zero_add] at q1
        exact ⟨ρ', y, w', q1, q2, q3, q4⟩
      · -- exact
        rename_i b o len cap
        injection hsl with hsl; subst hsl
        split at h
        · rename_i hc
          obtain ⟨H', hk, hkp, hspec⟩ := putK_some (P := P) h
          rw [forceN_eq] at hk
          refine ⟨_, _, _, hk, fun q e _ => hkp q e, fun {ρ w us ux} hg hs hx => ?_⟩
          obtain ⟨xs, h1, h2, h3⟩ := hsrc hg hx
          obtain ⟨kk, d, xx, hb, rfl⟩ := conc_slc hs
          obtain ⟨a, w', e0, e1, e2, e3⟩ := hspec hg h1 (ptr_conc hb)
          injection e0 with e0; injection e0 with e0
          subst e0
          refine ⟨ρ, _, w', slc_conc hb, ?_, e2, e3⟩
          simp only [if_true]
          exact app_room hu hi h2 hc (by rw [addr_add]; simpa [Nat.add_assoc] using e1)
        · rename_i hc
          split at h
          · rename_i olds hol
            rw [rowK_eq, PT.setK_eq, forceN_eq] at h
            refine ⟨_, _, _, h, keep_new _, fun {ρ w us ux} hg hs hx => ?_⟩
            obtain ⟨xs, h1, h2, h3⟩ := hsrc hg hx
            obtain ⟨xs0, h4, _⟩ := run_firstA (P := P) hg hol hs
            obtain ⟨h5, h6⟩ := firstA_drew (P := P) hg hol hs h4
            obtain ⟨kk, d, xx, hb, rfl⟩ := conc_slc hs
            rw [hp_set]
            exact grow_case (ty := ty) hg (g0 := hp H) (fun _ _ e => e) (l0 := olds) (l1 := news) (cs := fillT (olds ++ news) 0 .lf) (df := none) (c := 0 + (olds ++ news).length) hu hi hzv hz.1 h3 (by simp; omega) hbd.1 hbd.2 h6 h4 h1 (fun j hj => fillT_cell _ _ _ hj) (by simp) (.inl rfl)
          · cases h
      · -- not exact
        rename_i b o len cap
        injection hsl with hsl; subst hsl
        split at h
        · rename_i cs rn df es tt0 hb
          split at h
          case isFalse => cases h
          rename_i hc
          obtain ⟨rfl, rfl, hrn⟩ := hc
          have both := fun (l0 : List AV) (cs' : PT AV) (df' : Option AV) (c : Nat) (tt : Option TypeId) (htt : tt = none ∨ (o = 0 ∧ tt = tyIf e tt0)) (a1 : l0.length = len * i.size) (a2 : ∀ j, j < len * i.size → l0[j]? = cellA cs df (o + j))
              (a3 : ∀ j, j < (l0 ++ news).length → cellA cs' df' j = (l0 ++ news)[j]?) (a4 : c = (l0 ++ news).length) {ρ : Ren} {w : World} {us ux : Value} (hg : Good ρ n (hp H) w) (hs : conc ρ (.slc b o len len false) = some us) (hx : conc ρ x = some ux) =>
            app_both (ty := ty) hu hi hzv hz hbd hm0 hone hsrc hb hrn l0 cs' df' c tt htt a1 a2 a3 a4 hg hs hx
          split at h
          · rename_i ho
            subst ho
            rw [PT.delK_eq, wrK_eq, forceN_eq, PT.setK_eq, forceN_eq] at h
            refine ⟨_, _, _, h, keep_del rfl _, fun {ρ w us ux} hg hs hx => ?_⟩
            rw [hp_set, hp_del]
            rw [Nat.zero_add] at hrn
            obtain ⟨_, _, _, _, _, _, _, _, _, hcell⟩ := hg.cell hb
            have hex : ∃ l, rdCells cs df (len * i.size) 0 = some l := by
              have : ∀ z o', o' + z ≤ rn → ∃ l, rdCells cs df z o' = some l := by
                intro z
                induction z with
                | zero => intro o' _; exact ⟨[], rfl⟩
                | succ z ih =>
                  intro o' ho'
                  obtain ⟨l, hl⟩ := ih (o' + 1) (by omega)
                  obtain ⟨v, _, hv, _⟩ := hcell o' (by omega)
                  exact ⟨v :: l, by simp only [rdCells, hv, hl]⟩
              exact this _ _ (by omega)
            obtain ⟨l, hl⟩ := hex
            obtain ⟨b1, b2⟩ := rdCells_len hl
            refine both l _ df _ _ (.inr ⟨rfl, rfl⟩) b1 b2 (fun j hj => ?_) (by rw [List.length_append, b1, hrn]) hg hs hx
            rw [List.length_append] at hj
            unfold cellA
            rw [fillT_get]
            by_cases hj1 : j < len * i.size
            · rw [if_neg (by omega), List.getElem?_append_left (by omega), b2 j hj1, Nat.zero_add]
              rfl
            · rw [if_pos (by omega), List.getElem?_append_right (by omega), b1, hrn, List.getElem?_eq_getElem (by omega)]
          · split at h
            · rename_i olds hol
              rw [PT.delK_eq, rowK_eq, PT.setK_eq, forceN_eq] at h
              obtain ⟨b1, b2⟩ := rdCells_len hol
              refine ⟨_, _, _, h, keep_del rfl _, fun {ρ w us ux} hg hs hx => ?_⟩
              rw [hp_set, hp_del]
              exact both olds _ none _ _ (.inl rfl) b1 b2 (fun j hj => fillT_cell _ _ _ hj) (by simp) hg hs hx
            · cases h
        · cases h
      · -- at the end of a row
        rename_i b o p
        injection hsl with hsl; subst hsl
        split at h
        · rename_i cs rn df es tt0 hb
          split at h
          case isFalse => cases h
          rename_i hc
          obtain ⟨rfl, rfl⟩ := hc
          rw [PT.delK_eq, rowK_eq, PT.setK_eq, forceN_eq] at h
          refine ⟨_, _, _, h, keep_del rfl _, fun {ρ w us ux} hg hs hx => ?_⟩
          rw [hp_set, hp_del]
          obtain ⟨xs, h1, h2, h3⟩ := hsrc hg hx
          obtain ⟨kk, d, xx, hb', rfl⟩ := conc_slz hs
          by_cases hroom : m ≤ xx
          · have := room_case (ty := ty) hg hu hi h2 (b0 := 0) (tt := none) hb (.inl rfl) hb' hroom (o := o) (sl := 0) (by simp) h1 hone.1 hone.2 (l0 := []) (by simp) (fun j hj => by simp at hj) (cs := fillT news 0 .lf) (df := none) (c := 0 + news.length) (fun j hj => fillT_cell _ _ _ hj) (by simp)
            rw [if_neg (by omega)]
            simpa using this
          · have key : ∀ a sc, (if xx = 0 then Value.slice (some ⟨kk, d + p, none⟩) 0 0 else .slice (some ⟨kk, d + o, none⟩) 0 xx) = .slice (some a) 0 sc → sc < m →
                ∃ ρ' y w', conc ρ' (.slc n 0 m m false) = some y ∧ (Builtin.append_ #[t, u] ty #[.slice (some a) 0 sc, ux]).run P w = .ok y w' ∧ Good ρ' n.succ (((hp H).del b).set n (.row (fillT news 0 .lf) (0 + news.length) none i.size none)) w' ∧ Fr ρ n (hp H) w ρ' n.succ (((hp H).del b).set n (.row (fillT news 0 .lf) (0 + news.length) none i.size none)) w' := by
              intro a sc _ hsc
              have := grow_case (ty := ty) hg (Hp.del_le _ b) (sl := 0) (sc := sc) (a := some a) (l0 := []) (l1 := news) (xs0 := []) (xs1 := xs) (cs := fillT news 0 .lf) (df := none) (c := 0 + news.length) hu hi hzv hz.1 h3 (by omega) hbd.1 hbd.2 (by simp [Builtin.firstCells, loadCells, loadCellsFrom]) rfl h1 (fun j hj => fillT_cell _ _ _ hj) (by simp) (.inr rfl)
              simpa using this
            by_cases hx0 : xx = 0
            · rw [if_pos hx0]
              exact key _ _ (by rw [if_pos hx0]) (by omega)
            · rw [if_neg hx0]
              exact key _ _ (by rw [if_neg hx0]) (by omega)
        · cases h
      · cases h
end
end Go.Proofs.YthggliknnmhbdaaGreat.Abs
end
/- The interpreter: each operation, in sequence. No conditions. -/
section
set_option linter.unusedVariables false
namespace Go.Proofs.YthggliknnmhbdaaGreat.Abs
open Go Go.RowKit
abbrev Out := AV × Pos × PT AO
abbrev Res := Option (List Out)
section force
variable {R : Type}
noncomputable def forceI (n : Int) (k : Int → R) : R := Int.rec (motive := fun _ => R) (fun m => forceN m fun m => k (.ofNat m)) (fun m => forceN m fun m => k (.negSucc m)) n
noncomputable def forceB (b : Bool) (k : Bool → R) : R := Bool.rec (motive := fun _ => R) (k false) (k true) b
noncomputable def forceL {α : Type} (l : List α) : (List α → R) → R := List.rec (motive := fun _ => (List α → R) → R) (fun k => k []) (fun x _ ih k => ih fun l => k (x :: l)) l
noncomputable def forceNL (l : List Nat) : (List Nat → R) → R := List.rec (motive := fun _ => (List Nat → R) → R) (fun k => k []) (fun x _ ih k => forceN x fun x => ih fun l => k (x :: l)) l
theorem forceI_eq (n : Int) (k : Int → R) : forceI n k = k n := by
  cases n with
  | ofNat m => exact forceN_eq m (fun m => k (.ofNat m))
  | negSucc m => exact forceN_eq m (fun m => k (.negSucc m))
theorem forceB_eq (b : Bool) (k : Bool → R) : forceB b k = k b := by cases b <;> rfl
theorem forceL_eq {α : Type} : ∀ (l : List α) (k : List α → R), forceL l k = k l
  | [], k => rfl
  | x :: l, k => forceL_eq l fun l => k (x :: l)
theorem forceNL_eq : ∀ (l : List Nat) (k : List Nat → R), forceNL l k = k l
  | [], k => rfl
  | x :: l, k => (forceN_eq x (fun x => forceNL l fun l => k (x :: l))).trans (forceNL_eq l fun l => k (x :: l))
noncomputable def forceV (v : AV) (k : AV → R) : R :=
  match v with
  | .int kd n => forceI n fun n => k (.int kd n)
  | .bool b => forceB b fun b => k (.bool b)
  | .str l => forceNL l fun l => k (.str l)
  | .ptr b o => forceN o fun o => k (.ptr b o)
  | .slc b o len cap ex => forceN o fun o => forceN len fun len => forceN cap fun cap => k (.slc b o len cap ex)
  | .slz b o p => forceN o fun o => forceN p fun p => k (.slz b o p)
  | .agg l => forceL l fun l => k (.agg l)
  | .tup l => forceL l fun l => k (.tup l)
  | v => k v
theorem forceV_eq (v : AV) (k : AV → R) : forceV v k = k v := by
  cases v <;> simp only [forceV, forceI_eq, forceB_eq, forceNL_eq, forceN_eq, forceL_eq]
end force
def okLim (lim : Pos) (x : AV) : Bool := match idOf x with | some b => Nat.ble lim.nat b.nat | none => true
theorem okLim_keep {lim : Pos} {x : AV} {H H' : PT AO} (h : okLim lim x = true) (hk : Keep x H H') : ∀ q, q.nat < lim.nat → PT.get q H' = PT.get q H := by
  intro q hq
  refine hk q fun e => ?_
  unfold okLim at h
  rw [e] at h
  have := Nat.le_of_ble_eq_true h
  omega
theorem okLim_keepN {lim n : Pos} {x : AV} {H H' : PT AO} (h : okLim lim x = true) (hn : lim.nat ≤ n.nat) (hk : KeepN x n H H') : ∀ q, q.nat < lim.nat → PT.get q H' = PT.get q H := by
  intro q hq
  refine hk q (fun e => ?_) (by omega)
  unfold okLim at h
  rw [e] at h
  have := Nat.le_of_ble_eq_true h
  omega
def both (x y : Res) : Res := match x, y with | some l, some m => some (l ++ m) | _, _ => none
/-- each way on through a map -/
noncomputable def waysK (b : Pos) (m : Option Pos) (since : Nat) (seen : List Nat) (c : Nat) (n : Pos) (H : PT AO) (k : AV → Pos → PT AO → Res) : List Ent → Res
  | [] => some []
  | (key, v, born) :: l => both (forceL (seen ++ [born]) fun seen => PT.setK (.mit m since seen c) b H fun H => k (.tup [.bool true, key, v]) n H) (waysK b m since seen c n H k l)
def allNew (last : Nat) (es : List Ent) : Bool := es.all fun e => Nat.ble last e.2.2
noncomputable def nextK (lim : Pos) (x : AV) (n : Pos) (H : PT AO) (k : AV → Pos → PT AO → Res) : Res :=
  match x with
  | .ptr b 0 => if Nat.ble lim.nat b.nat then (match PT.get b H with
    | some (.mit none _ _ _) => k (.tup [.bool false]) n H
    | some (.mit (some mb) since seen st) => (match PT.get mb H with
      | some (.map es c) => if (!seen.isEmpty && !es.isEmpty && allNew st es) then none else
          (match leftE seen es with
          | [] => k (.tup [.bool false]) n H
          | l => if l.all (fun e => Nat.blt e.2.2 since) then waysK b (some mb) since seen c n H k l else none)
      | _ => none)
    | _ => none) else none
  | _ => none
/-- the bytes at a pointer as a string: the row has no name any more -/
noncomputable def ustrK (P : Program) (lim : Pos) (pt : TypeId) (x : AV) (m : Int) (n : Pos) (H : PT AO) (k : AV → Pos → PT AO → Res) : Res :=
  match m with
  | .ofNat 0 => (match x with | .nilp => k (.str []) n H | .ptr _ _ => k (.str []) n H | _ => none)
  | .ofNat (z + 1) => (match x with
    | .ptr b 0 => (match P.underlying pt, PT.get b H with
      | some (.pointer e), some (.row cs rn df _ (some e')) => if Nat.beq e e' && Nat.beq (P.cellsOf e) 1 && Nat.ble (z + 1) rn && Nat.blt (z + 1) 2147483648 && Nat.ble lim.nat b.nat then
          (match rdCells cs df (z + 1) 0 with
          | some l => (match byteL l with
            | some r => forceNL r fun r => PT.delK b H fun H => k (.str r) n H
            | none => none)
          | none => none) else none
      | _, _ => none)
    | _ => none)
  | _ => none
noncomputable def builtK (P : Program) (lim : Pos) (b : Builtin) (ts : Array TypeId) (xs : List AV) (n : Pos) (H : PT AO) (k : AV → Pos → PT AO → Res) : Res :=
  match b, ts.toList, xs with
  | .append, [t, u], [s, x] => if okLim lim s then appendK P t u s x n H k else none
  | .copy, [t, _], [d, s] => if okLim lim d then copyK P t d s H fun v H => k v n H else none
  | .delete, [t, _], [m, x] => if okLim lim m then delK P t m x H fun H => k (.tup []) n H else none
  | .unsafeString, [pt, _], [x, .int .i64 m] => ustrK P lim pt x m n H k
  | .len, [t], [.map m] => (match P.underlying t, PT.get m H with | some (.map _ _), some (.map es _) => forceN es.length fun q => k (.int .i64 q) n H | _, _ => none)
  | b, _, xs => (match pureCall P b ts xs with | some v => forceV v fun v => k v n H | none => none)
/-- what is called: a function, or a range's yield -/
inductive Tgt where
  | fn (f : FuncId) | yld (b : Pos)
/-- a function of the platform that hands its argument back -/
def noEsc (fn : Func) : Bool := fn.name == "internal/abi.NoEscape" && fn.origin == ""
abbrev CallT := Tgt → List AV → Pos → PT AO → (AV → Pos → PT AO → Res) → Res
noncomputable def callE (P : Program) (call : CallT) (f : FuncId) (xs : List AV) (n : Pos) (H : PT AO) (k : AV → Pos → PT AO → Res) : Res :=
  match P.funcs[f]? with
  | some fn => (match fn.body with
    | some _ => call (.fn f) xs n H k
    | none => if noEsc fn then (match xs with | [v] => k v n H | _ => none) else none)
  | none => none
noncomputable def opK (P : Program) (call : CallT) (lim : Pos) (a : PT AV) (op : Op) (n : Pos) (H : PT AO) (k : AV → Pos → PT AO → Res) : Res :=
  match op with
  | .move x => (match ev a x with | some v => k v n H | none => none)
  | .assign x => (match ev a x with | some v => k v n H | none => none)
  | .load t x => (match ev a x with | some x => (match loadA P t x (hp H) with | some v => k v n H | none => none) | none => none)
  | .store t x v => (match ev a x, ev a v with | some x, some v => if okLim lim x then storeK P t x v H fun H => k (.tup []) n H else none | _, _ => none)
  | .lookup t m x ok => (match ev a m, ev a x with | some m, some x => (match lookupA P t m x ok (hp H) with | some v => k v n H | none => none) | _, _ => none)
  | .mapUpdate t m x v => (match ev a m, ev a x, ev a v with | some m, some x, some v => if okLim lim m then updK P t m x v H fun H => k (.tup []) n H else none | _, _, _ => none)
  | .mapEntry t m x => (match ev a m, ev a x with | some m, some x => if okLim lim m then entryK P t m x H fun v H => k v n H else none | _, _ => none)
  | .entryStore _ m s v => (match ev a m, ev a s, ev a v with | some m, some s, some v => if okLim lim m then stampK m s v H fun H => k (.tup []) n H else none | _, _, _ => none)
  | .range t x => (match ev a x with | some x => rangeK P t x n H fun v H => k v n.succ H | none => none)
  | .next x s => if s then none else (match ev a x with | some x => nextK lim x n H k | none => none)
  | .entry x => (match ev a x with | some x => (match curA x (hp H) with | some v => k v n H | none => none) | none => none)
  | .convert s d x => (match ev a x with
    | some v => (match convA P s d v with
      | some v => forceV v fun v => k v n H
      | none => (match bytesA P s d v (hp H) with
        | some v => forceV v fun v => k v n H
        | none => allocK P a (.convert s d x) n fun ao v => PT.setK ao n H fun H => k v n.succ H))
    | none => none)
  | .alloc t => allocK P a (.alloc t) n fun ao v => PT.setK ao n H fun H => k v n.succ H
  | .box t x => allocK P a (.box t x) n fun ao v => PT.setK ao n H fun H => k v n.succ H
  | .buildSlice t l ps => allocK P a (.buildSlice t l ps) n fun ao v => PT.setK ao n H fun H => k v n.succ H
  | .makeMap t r => allocK P a (.makeMap t r) n fun ao v => PT.setK ao n H fun H => k v n.succ H
  | .makeSlice t l c => allocK P a (.makeSlice t l c) n fun ao v => PT.setK ao n H fun H => k v n.succ H
  | .call c => (match c.callee with
    | .value f => (match ev a f, evAll a c.args.toList with | some (.fn f first cap), some args => callE P call f (first ++ args ++ cap) n H k | some (.yld b), some args => call (.yld b) args n H k | _, _ => none)
    | .builtin b => (match evAll a c.args.toList with | some xs => builtK P lim b c.argTypes xs n H k | none => none)
    | .invoke _ _ => none)
  | op => (match pureOp P a op with | some v => forceV v fun v => k v n H | none => none)
/-- a block turns, and has no name any more -/
theorem Good.gone {ρ : Ren} {n : Pos} {g : Hp} {w w' : World} (h : Good ρ n g w) {b : Pos} {ao : AO} {k d x : Nat} (hb : g b = some ao) (hk : ρ.at_ b = some (k, d, x))
    (hrest : ∀ q, q ≠ k → w'.heap[q]? = w.heap[q]?) (hsz : w'.heap.size = w.heap.size) (hos : w'.os = w.os) (htp : w'.tape = w.tape) (hout : w'.output = w.output) : Good ρ n (g.del b) w' ∧ Fr ρ n g w ρ n (g.del b) w' := by
  have key : ∀ q a, (g.del b) q = some a → g q = some a ∧ q ≠ b := by
    intro q a e
    simp only [Hp.del] at e
    split at e
    · cases e
    · rename_i hq; exact ⟨e, hq⟩
  refine ⟨⟨fun q a e => ?_, fun q q' a a' k1 d1 y1 d2 y2 e1 e2 e3 e4 => ?_, h.fresh⟩, ⟨.refl _, Nat.le_refl _, fun _ _ => rfl, hos, htp, hout, by omega, fun q hq hn => hrest q (fun e => ?_), fun q a k1 d1 y1 e1 e2 => ?_, fun q a e => .inl ⟨a, (key q a e).1⟩⟩⟩
  · obtain ⟨f1, f2⟩ := key q a e
    obtain ⟨k1, d1, y1, ob, h1, h2, h3⟩ := h.rep q a f1
    exact ⟨k1, d1, y1, ob, h1, (hrest k1 (fun e' => f2 (by subst e'; exact h.inj q b a ao k1 d1 y1 d x f1 hb h1 hk))).trans h2, h3⟩
  · exact h.inj q q' a a' k1 d1 y1 d2 y2 (key q a e1).1 (key q' a' e2).1 e3 e4
  · subst e; exact hn b ao d x hb hk
  · exact .inr ⟨q, a, d1, y1, (key q a e1).1, e2⟩
/-- from one moment to a later one -/
structure Now (lim : Pos) (ρ : Ren) (n : Pos) (H : PT AO) (w : World) (ρ' : Ren) (n' : Pos) (H' : PT AO) (w' : World) : Prop where
  good : Good ρ' n' (hp H') w'
  fr : Fr ρ n (hp H) w ρ' n' (hp H') w'
  keep : ∀ q, q.nat < lim.nat → PT.get q H' = PT.get q H
theorem Now.refl {lim : Pos} {ρ : Ren} {n : Pos} {H : PT AO} {w : World} (h : Good ρ n (hp H) w) : Now lim ρ n H w ρ n H w := ⟨h, Fr.refl _ _ _ _ h.ids, fun _ _ => rfl⟩
theorem Now.trans {lim : Pos} {ρ ρ1 ρ2 : Ren} {n n1 n2 : Pos} {H H1 H2 : PT AO} {w w1 w2 : World} (h : Now lim ρ n H w ρ1 n1 H1 w1) (k : Now lim ρ1 n1 H1 w1 ρ2 n2 H2 w2) : Now lim ρ n H w ρ2 n2 H2 w2 :=
  ⟨k.good, h.fr.trans k.fr, fun q hq => (k.keep q hq).trans (h.keep q hq)⟩
/-- what comes of a step -/
def Goes (lim : Pos) (k : AV → Pos → PT AO → Res) (L : List Out) (ρ : Ren) (n : Pos) (H : PT AO) (w : World) (u : Value) (w' : World) : Prop :=
  ∃ v n' H' L' ρ', k v n' H' = some L' ∧ (∀ x ∈ L', x ∈ L) ∧ conc ρ' v = some u ∧ Now lim ρ n H w ρ' n' H' w'
/-- the wide fence, in a round or not -/
abbrev Fw (r : Option Nat) : Fence := { Fence.wide with round := r }
/-- what a call does -/
def CallOk (P : Program) (lim : Pos) (call : CallT) : Prop :=
  (∀ f args n H k L, call (.fn f) args n H k = some L → lim.nat ≤ n.nat → (∃ fn, P.funcs[f]? = some fn ∧ (fn.name == "runtime.NumGoroutine") = false ∧ fn.body.isNone = false) ∧
    ∀ ρ w us, Good ρ n (hp H) w → concs ρ args = some us → Calls P f us.toArray w fun e w' => ∃ u, e = .returned u ∧ Goes lim k L ρ n H w u w') ∧
  (∀ b args n H k L, call (.yld b) args n H k = some L → lim.nat ≤ n.nat → ∀ r ρ w us, Good ρ n (hp H) w → concs ρ args = some us →
    ∃ kk d x, ρ.at_ b = some (kk, d, x) ∧ YieldAt (Fw r) 0 P kk us.toArray w fun e w' => ∃ u, e = .returned u ∧ Goes lim k L ρ n H w u w')
section
variable {P : Program}
theorem no_defer {o : Oper} {A : Act} {w w' : World} {x : Next} (h : (execOp A.eval o).run P w = .ok x w') (hx : ∀ d, x ≠ .defer d) : ∀ c, o.op ≠ .defer c := by
  intro c hc
  unfold execOp at h
  rw [hc] at h
  simp only [Sem.run_bind] at h
  cases hr : (resolve A.eval c o.type).run P w with
  | ok d w1 =>
    rw [hr] at h
    simp only [Result.andThen_ok] at h
    first
      | (simp only [Sem.run_pure] at h; injection h with h; exact hx d h.symm)
      | (split at h <;> simp at h <;> exact hx _ h.1.symm)
      | (simp at h; exact hx _ h.1.symm)
  | halt => rw [hr] at h; cases h
theorem callsIn_fw {r : Option Nat} {n : Nat} {f : FuncId} {us : Array Value} {w : World} {R : Ending → World → Prop} (h : Calls P f us w R) : CallsIn (Fw r) n P f us w R := (callsIn_wide.2 h : CallsIn Fence.wide n P f us w R)
theorem Oper.wp_value {r : Option Nat} {o : Oper} {A : Act} {w w' : World} {next : Act → World → Prop} {Q : Exit → Act → World → Prop} {u : Value} (h : (execOp A.eval o).run P w = .ok (.value u) w') (hn : next (A.put o.dst u) w') : o.wpIn (Fw r) 0 P A w next Q := by
  refine ⟨fun _ _ => trivial, ?_⟩
  rw [Oper.semAt_eq _ _ _ (no_defer h (fun d e => by cases e)), h]
  exact hn
theorem Oper.wp_skip {r : Option Nat} {o : Oper} {A : Act} {w w' : World} {next : Act → World → Prop} {Q : Exit → Act → World → Prop} (h : (execOp A.eval o).run P w = .ok .skip w') (hn : next (A.put o.dst undef) w') : o.wpIn (Fw r) 0 P A w next Q := by
  refine ⟨fun _ _ => trivial, ?_⟩
  rw [Oper.semAt_eq _ _ _ (no_defer h (fun d e => by cases e)), h]
  exact hn
theorem ways_mem {b : Pos} {m : Option Pos} {since : Nat} {seen : List Nat} {c : Nat} {n : Pos} {H : PT AO} {k : AV → Pos → PT AO → Res} : ∀ {l : List Ent} {L : List Out}, waysK b m since seen c n H k l = some L → ∀ e ∈ l,
    ∃ L', k (.tup [.bool true, e.1, e.2.1]) n (PT.set (.mit m since (seen ++ [e.2.2]) c) b H) = some L' ∧ ∀ x ∈ L', x ∈ L
  | [], _, _, e, he => by cases he
  | (key, v, born) :: l, L, h, e, he => by
    unfold waysK both at h
    split at h
    · rename_i l1 l2 h1 h2
      injection h with h; subst h
      rw [forceL_eq, PT.setK_eq] at h1
      rcases List.mem_cons.1 he with rfl | he
      · exact ⟨l1, h1, fun x hx => List.mem_append.2 (.inl hx)⟩
      · obtain ⟨L', h3, h4⟩ := ways_mem h2 e he
        exact ⟨L', h3, fun x hx => List.mem_append.2 (.inr (h4 x hx))⟩
    · cases h
end
end Go.Proofs.YthggliknnmhbdaaGreat.Abs
end
