/- Maps that are written; ranging over them; bytes and strings. No conditions. -/
import Derived.Test.YtlpnhikoipkjbaaAbsK
import Derived.Laws.BytesString
set_option linter.unusedVariables false
namespace Go.Proofs.Ytlpnhikoipkjbaa.Abs
open Go Go.RowKit
mutual
/-- the same value, for sure -/
def eqVal : AV → AV → Bool
  | .int j a, .int k b => j == k && a == b
  | .bool a, .bool b => a == b
  | .str a, .str b => eqL a b
  | .nilp, .nilp => true
  | .nils, .nils => true
  | .nilm, .nilm => true
  | .nilf, .nilf => true
  | .nili, .nili => true
  | .ptr b o, .ptr c p => decide (b = c) && o == p
  | .slc b o l c e, .slc b' o' l' c' e' => decide (b = b') && o == o' && l == l' && c == c' && e == e'
  | .slz b o p, .slz b' o' p' => decide (b = b') && o == o' && p == p'
  | .map b, .map c => decide (b = c)
  | .fn f l m, .fn f' l' m' => f == f' && eqVals l l' && eqVals m m'
  | .agg l, .agg m => eqVals l m
  | .tup l, .tup m => eqVals l m
  | .sym a, .sym b => Nat.beq a b
  | _, _ => false
def eqVals : List AV → List AV → Bool
  | [], [] => true
  | x :: l, y :: m => eqVal x y && eqVals l m
  | _, _ => false
end
mutual
theorem eqVal_eq : ∀ (x y : AV), eqVal x y = true → x = y
  | .agg l, y, h => by
    cases y with
    | agg m => simp only [eqVal] at h; rw [eqVals_eq l m h]
    | _ => simp [eqVal] at h
  | .tup l, y, h => by
    cases y with
    | tup m => simp only [eqVal] at h; rw [eqVals_eq l m h]
    | _ => simp [eqVal] at h
  | .fn f l m, y, h => by
    cases y with
    | fn f' l' m' =>
      simp only [eqVal, Bool.and_eq_true, beq_iff_eq] at h
      rw [h.1.1, eqVals_eq l l' h.1.2, eqVals_eq m m' h.2]
    | _ => simp [eqVal] at h
  | .int .., y, h => by cases y <;> simp_all [eqVal]
  | .bool _, y, h => by cases y <;> simp_all [eqVal]
  | .str _, y, h => by cases y <;> simp_all [eqVal, eqL_eq]
  | .nilp, y, h => by cases y <;> simp_all [eqVal]
  | .nils, y, h => by cases y <;> simp_all [eqVal]
  | .nilm, y, h => by cases y <;> simp_all [eqVal]
  | .nilf, y, h => by cases y <;> simp_all [eqVal]
  | .nili, y, h => by cases y <;> simp_all [eqVal]
  | .ptr .., y, h => by cases y <;> simp_all [eqVal]
  | .slc .., y, h => by cases y <;> simp_all [eqVal]
  | .slz .., y, h => by cases y <;> simp_all [eqVal]
  | .map .., y, h => by cases y <;> simp_all [eqVal]
  | .ifc .., y, h => by cases y <;> simp [eqVal] at h
  | .sym .., y, h => by cases y <;> simp_all [eqVal]
theorem eqVals_eq : ∀ (l m : List AV), eqVals l m = true → l = m
  | [], [], _ => rfl
  | [], _ :: _, h => by simp [eqVals] at h
  | _ :: _, [], h => by simp [eqVals] at h
  | x :: l, y :: m, h => by
    simp only [eqVals, Bool.and_eq_true] at h
    rw [eqVal_eq x y h.1, eqVals_eq l m h.2]
end
abbrev Ent := AV × AV × Nat
def setE (v : AV) : Nat → List Ent → List Ent
  | _, [] => []
  | 0, (k, _, b) :: l => (k, v, b) :: l
  | i + 1, e :: l => e :: setE v i l
def delE : Nat → List Ent → List Ent
  | _, [] => []
  | 0, _ :: l => l
  | i + 1, e :: l => e :: delE i l
section
variable {P : Program} {ρ : Ren}
theorem EntC.get : ∀ {l : List Ent} {m : List MapEntry} {i : Nat} {k v : AV} {b : Nat}, EntC ρ l m → l[i]? = some (k, v, b) → ∃ e, m[i]? = some e ∧ conc ρ k = some e.key ∧ conc ρ v = some e.val ∧ e.born = b
  | [], m, i, k, v, b, _, h => by simp at h
  | _ :: _, [], _, _, _, _, h, _ => h.elim
  | (k, v, b) :: l, e :: m, 0, k', v', b', ⟨h1, h2, h3, h4⟩, h => by
    simp at h
    obtain ⟨rfl, rfl, rfl⟩ := h
    exact ⟨e, rfl, h1, h2, h3⟩
  | (k, v, b) :: l, e :: m, i + 1, k', v', b', ⟨h1, h2, h3, h4⟩, h => by
    obtain ⟨e', g1, g2⟩ := EntC.get h4 (by simpa using h)
    exact ⟨e', by simpa using g1, g2⟩
theorem EntC.set {u : Value} {v : AV} (hv : conc ρ v = some u) : ∀ {l : List Ent} {m : List MapEntry} (i : Nat) (f : MapEntry → MapEntry), EntC ρ l m → (∀ e, m[i]? = some e → (f e).key = e.key ∧ (f e).val = u ∧ (f e).born = e.born) → EntC ρ (setE v i l) (m.modify i f)
  | [], [], i, f, _, _ => by cases i <;> simp [setE, EntC]
  | [], _ :: _, _, _, h, _ => h.elim
  | _ :: _, [], _, _, h, _ => h.elim
  | (k, w, b) :: l, e :: m, 0, f, ⟨h1, h2, h3, h4⟩, hf => by
    obtain ⟨f1, f2, f3⟩ := hf e (by simp)
    simp only [setE, List.modify_zero_cons]
    exact ⟨by rw [f1]; exact h1, by rw [f2]; exact hv, by rw [f3]; exact h3, h4⟩
  | (k, w, b) :: l, e :: m, i + 1, f, ⟨h1, h2, h3, h4⟩, hf => by
    simp only [setE, List.modify_succ_cons]
    exact ⟨h1, h2, h3, EntC.set hv i f h4 (fun e' he => hf e' (by simpa using he))⟩
theorem EntC.same : ∀ {l : List Ent} {m : List MapEntry} (i : Nat) (f : MapEntry → MapEntry), EntC ρ l m → (∀ e, m[i]? = some e → f e = e) → EntC ρ l (m.modify i f)
  | [], [], i, f, _, _ => by cases i <;> simp [EntC]
  | [], _ :: _, _, _, h, _ => h.elim
  | _ :: _, [], _, _, h, _ => h.elim
  | (k, w, b) :: l, e :: m, 0, f, h, hf => by
    simp only [List.modify_zero_cons, hf e (by simp)]
    exact h
  | (k, w, b) :: l, e :: m, i + 1, f, ⟨h1, h2, h3, h4⟩, hf => by
    simp only [List.modify_succ_cons]
    exact ⟨h1, h2, h3, EntC.same i f h4 (fun e' he => hf e' (by simpa using he))⟩
theorem EntC.push {k v : AV} {e : MapEntry} (hk : conc ρ k = some e.key) (hv : conc ρ v = some e.val) : ∀ {l : List Ent} {m : List MapEntry}, EntC ρ l m → EntC ρ (l ++ [(k, v, e.born)]) (m ++ [e])
  | [], [], _ => ⟨hk, hv, rfl, trivial⟩
  | [], _ :: _, h => h.elim
  | _ :: _, [], h => h.elim
  | (k', w, b) :: l, e' :: m, ⟨h1, h2, h3, h4⟩ => ⟨h1, h2, h3, EntC.push hk hv h4⟩
theorem EntC.del : ∀ {l : List Ent} {m : List MapEntry} (i : Nat), EntC ρ l m → EntC ρ (delE i l) (m.eraseIdx i)
  | [], [], i, _ => by cases i <;> simp [delE, EntC]
  | [], _ :: _, _, h => h.elim
  | _ :: _, [], _, h => h.elim
  | (k, w, b) :: l, e :: m, 0, ⟨h1, h2, h3, h4⟩ => by simpa [delE] using h4
  | (k, w, b) :: l, e :: m, i + 1, ⟨h1, h2, h3, h4⟩ => by
    simp only [delE, List.eraseIdx_cons_succ]
    exact ⟨h1, h2, h3, EntC.del i h4⟩
theorem EntC.len : ∀ {l : List Ent} {m : List MapEntry}, EntC ρ l m → m.length = l.length
  | [], [], _ => rfl
  | [], _ :: _, h => h.elim
  | _ :: _, [], h => h.elim
  | _ :: l, _ :: m, ⟨_, _, _, h⟩ => by simp [EntC.len h]
theorem run_setMap {w : World} {k : Nat} {es : Array MapEntry} {c : Nat} (o : Obj) (h : w.heap[k]? = some (.map es c)) : (setObj k o).run P w = .ok () { w with heap := w.heap.setIfInBounds k o } := by
  simp [setObj, Sem.run, h]
theorem Good.turnMap {n : Pos} {g : Hp} {w : World} (hg : Good ρ n g w) {b : Pos} {es es2 : List Ent} {c c2 k d x : Nat} {m2 : Array MapEntry} {m : Nat} (hb : g b = some (.map es c)) (hk : ρ.at_ b = some (k, d, x)) (hlt : k < w.heap.size)
    (he : EntC ρ es2 m2.toList) :
    Good ρ n (g.set b (.map es2 c2)) { w with heap := w.heap.setIfInBounds k (.map m2 c2), drawn := m } ∧ Fr ρ n g w ρ n (g.set b (.map es2 c2)) { w with heap := w.heap.setIfInBounds k (.map m2 c2), drawn := m } := by
  refine hg.turn hb hk (o := .map m2 c2) (by simp [hlt]) (fun q hq => ?_) (by simp) rfl rfl rfl ⟨rfl, he⟩
  show (w.heap.setIfInBounds k _)[q]? = _
  rw [Array.getElem?_setIfInBounds_ne (fun e => hq e.symm)]
/-- a map and its entries, for writing -/
noncomputable def mapAt (H : PT AO) : AV → Option (Pos × List Ent × Nat)
  | .map b => (match PT.get b H with | some (.map es c) => some (b, es, c) | _ => none)
  | _ => none
theorem mapAt_spec {n : Pos} {w : World} {H : PT AO} {m : AV} {b : Pos} {es : List Ent} {c : Nat} {u : Value} (hg : Good ρ n (hp H) w) (h : mapAt H m = some (b, es, c)) (hm : conc ρ m = some u) :
    hp H b = some (.map es c) ∧ ∃ k d x es', ρ.at_ b = some (k, d, x) ∧ u = .map (some k) ∧ w.heap[k]? = some (.map es' c) ∧ k < w.heap.size ∧ EntC ρ es es'.toList := by
  unfold mapAt at h
  split at h
  · rename_i b'
    split at h
    · rename_i es1 c1 hb
      injection h with h; injection h with h1 h2; injection h2 with h2 h3
      subst h1; subst h2; subst h3
      obtain ⟨k, d, x, es', g1, g2, g3⟩ := hg.ents (b := b') hb
      obtain ⟨k', d', x', g1', rfl⟩ := conc_map hm
      rw [g1] at g1'; injection g1' with g1'; injection g1' with t1 t2
      subst t1
      exact ⟨hb, k, d, x, es', g1, rfl, g2, (Array.getElem?_eq_some_iff.1 g2).1, g3⟩
    · cases h
  · cases h
theorem mapAt_id {H : PT AO} {m : AV} {b : Pos} {es : List Ent} {c : Nat} (h : mapAt H m = some (b, es, c)) : idOf m = some b := by
  unfold mapAt at h
  split at h
  · split at h
    · injection h with h; injection h with h1 _; rw [← h1]; rfl
    · cases h
  · cases h
noncomputable def updK {R : Type} (P : Program) (t : TypeId) (m k v : AV) (H : PT AO) (kont : PT AO → Option R) : Option R :=
  match P.underlying t, mapAt H m with
  | some (.map kt _), some (b, es, c) => if keyOk P 20 kt k then (match findA P kt k es 0 with
      | some (some (i, _)) => (match es[i]? with | some (ek, _, _) => if eqVal ek k then PT.setK (.map (setE v i es) c) b H kont else none | none => none)
      | some none => PT.setK (.map (es ++ [(k, v, c)]) (c + 1)) b H kont
      | none => none) else none
  | _, _ => none
theorem run_keyStays (old : Value) (w : World) : ∃ m, (Instr.keyThatStays old old).run P w = .ok old { w with drawn := m } := by
  unfold Instr.keyThatStays
  split
  · exact ⟨w.drawn, rfl⟩
  · refine ⟨w.drawn + 1, ?_⟩
    simp [choose, Sem.run, Question.forced]
theorem updK_some {R : Type} {t : TypeId} {m k v : AV} {H : PT AO} {kont : PT AO → Option R} {r : R} (h : updK P t m k v H kont = some r) :
    ∃ H', kont H' = some r ∧ Keep m H H' ∧ ∀ {ρ : Ren} {n : Pos} {w : World} {um uk uv : Value}, Good ρ n (hp H) w → conc ρ m = some um → conc ρ k = some uk → conc ρ v = some uv →
      ∃ w', (Instr.mapUpdate t um uk uv).run P w = .ok () w' ∧ Good ρ n (hp H') w' ∧ Fr ρ n (hp H) w ρ n (hp H') w' := by
  unfold updK at h
  split at h
  · rename_i kt et b es c hu hma
    split at h
    · rename_i hko
      have hd := keyOk_under hko
      split at h
      · rename_i i v0 hf
        split at h
        · rename_i ek ev bb hei
          split at h
          · rename_i hek
            rw [PT.setK_eq] at h
            refine ⟨_, h, keep_set (mapAt_id hma), fun {ρ n w um uk uv} hg hm hk hv => ?_⟩
            obtain ⟨hb, kk, d, x, es', h1, rfl, h2, hlt, h3⟩ := mapAt_spec hg hma hm
            have hck := fun w => run_keyOk (P := P) false 20 hko hk 10000 (by omega) w
            obtain ⟨r', f1, f2⟩ := run_findA hk h3 hf hd
            have := eqVal_eq _ _ hek
            subst this
            obtain ⟨e, g1, g2, g3, g4⟩ := h3.get hei
            rw [hk] at g2
            injection g2 with g2
            cases r' with
            | none => exact f1.elim
            | some p =>
              obtain ⟨j, y⟩ := p
              obtain ⟨rfl, f4⟩ := f1
              have g1' : es'[j]? = some e := by simpa using g1
              obtain ⟨m0, hks⟩ := run_keyStays (P := P) uk w
              rw [hp_set]
              obtain ⟨q1, q2⟩ := hg.turnMap (m := m0) (es2 := setE v j es) (c2 := c) (m2 := es'.modify j fun e => { e with key := uk, val := uv }) hb h1 hlt (by
                rw [Array.toList_modify]
                exact h3.set hv j _ (fun e' he' => by rw [g1] at he'; injection he' with he'; subst he'; exact ⟨g2, rfl, rfl⟩))
              refine ⟨_, ?_, q1, q2⟩
              have hkey : ((es'[j]?).map (·.key)).getD uk = uk := by rw [g1']; simp [g2]
              simp only [Instr.mapUpdate, Sem.run_bind, run_underlying hu, Result.andThen_ok, run_getMap h2, hck, f2]
              simp only [hkey, hks, Result.andThen_ok]
              rw [run_setMap (w := { w with drawn := m0 }) _ h2]
          · cases h
        · cases h
      · rename_i hf
        rw [PT.setK_eq] at h
        refine ⟨_, h, keep_set (mapAt_id hma), fun {ρ n w um uk uv} hg hm hk hv => ?_⟩
        obtain ⟨hb, kk, d, x, es', h1, rfl, h2, hlt, h3⟩ := mapAt_spec hg hma hm
        have hck := fun w => run_keyOk (P := P) false 20 hko hk 10000 (by omega) w
        obtain ⟨r', f1, f2⟩ := run_findA hk h3 hf hd
        cases r' with
        | some p => exact f1.elim
        | none =>
          rw [hp_set]
          obtain ⟨q1, q2⟩ := hg.turnMap (m := w.drawn) (es2 := es ++ [(k, v, c)]) (c2 := c + 1) (m2 := es'.push { key := uk, val := uv, born := c }) hb h1 hlt (by
            rw [Array.toList_push]
            exact h3.push (e := { key := uk, val := uv, born := c }) hk hv)
          refine ⟨_, ?_, q1, q2⟩
          simp only [Instr.mapUpdate, Sem.run_bind, run_underlying hu, Result.andThen_ok, run_getMap h2, hck, f2]
          rw [run_setMap _ h2]
      · cases h
    · cases h
  · cases h
end
end Go.Proofs.Ytlpnhikoipkjbaa.Abs
