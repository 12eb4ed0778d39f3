/- Several texts in one: Pq R. -/
import Derived.Test.YthggliknnmhbdaaGreatAbsM3
import Derived.Laws.Externs
/- The interpreter's operations are the model's. No conditions. -/
section
set_option linter.unusedVariables false
namespace Go.Proofs.YthggliknnmhbdaaGreat.Abs
open Go Go.RowKit
section
variable {P : Program} {r : Option Nat} {ρ : Ren} {n : Pos} {H : PT AO} {w : World} {lim : Pos} {a : PT AV} {A : Act} {o : Oper} {k : AV → Pos → PT AO → Res} {L : List Out}
theorem goes_same {v : AV} {u : Value} (hg : Good ρ n (hp H) w) (h : k v n H = some L) (hv : conc ρ v = some u) : Goes lim k L ρ n H w u w := ⟨v, n, H, L, ρ, h, fun _ hx => hx, hv, Now.refl hg⟩
/-- it yields something, and goes on -/
def Does (P : Program) (lim : Pos) (A : Act) (o : Oper) (k : AV → Pos → PT AO → Res) (L : List Out) (ρ : Ren) (n : Pos) (H : PT AO) (w : World) : Prop :=
  ∃ u w', Yields ((execOp A.eval o).run P w) u w' ∧ Goes lim k L ρ n H w u w'
theorem Does.wp (h : Does P lim A o k L ρ n H w) {next : Act → World → Prop} {Q : Exit → Act → World → Prop} (hn : ∀ u w', Goes lim k L ρ n H w u w' → next (A.put o.dst u) w') : o.wpIn (Fw r) 0 P A w next Q := by
  obtain ⟨u, w', hy, hgo⟩ := h
  rcases hy with h1 | ⟨h1, rfl⟩
  · exact Oper.wp_value h1 (hn u w' hgo)
  · exact Oper.wp_skip h1 (hn _ w' hgo)
theorem alloc_does (h : allocK P a o.op n (fun ao v => PT.setK ao n H fun H => k v n.succ H) = some L) (hln : lim.nat ≤ n.nat) (hs : Slots ρ a A) (hg : Good ρ n (hp H) w) : Does P lim A o k L ρ n H w := by
  obtain ⟨ao, v, h1, h2⟩ := allocK_some h
  rw [PT.setK_eq] at h1
  obtain ⟨m, x, obj, u, h3, h4, h5⟩ := h2 ρ A hs (hg.fresh n (Nat.le_refl _)) w
  have hgd : Good ρ n (hp H) (w.drewN m) := hg.drew (w.drawn + m)
  obtain ⟨q1, q2⟩ := hgd.alloc ao obj x h4
  refine ⟨u, _, .inl h3, v, n.succ, _, L, _, h1, fun _ hx => hx, h5, by rw [hp_set]; exact q1, by rw [hp_set]; exact q2.drew' (w.drawn + m), fun q hq => ?_⟩
  rw [PT.get_set, if_neg (fun e => by subst e; omega)]
theorem pure_does {v : AV} (h : pureOp P a o.op = some v) (hk : k v n H = some L) (hs : Slots ρ a A) (hg : Good ρ n (hp H) w) : Does P lim A o k L ρ n H w := by
  obtain ⟨u, h1, h2⟩ := pureOp_run h hs
  exact ⟨u, w, .inl (h2 w), goes_same hg hk h1⟩
theorem leftE_mem {ρ : Ren} {seen : List Nat} : ∀ {es : List Ent} {ms : List MapEntry}, EntC ρ es ms → EntC ρ (leftE seen es) (ms.filter fun e => !seen.contains e.born)
  | [], [], _ => trivial
  | [], _ :: _, h => h.elim
  | _ :: _, [], h => h.elim
  | (key, v, b) :: l, e :: m, ⟨h1, h2, h3, h4⟩ => by
    have hh : ∀ l : List Nat, hasN b l = l.contains b := by
      intro l
      induction l with
      | nil => rfl
      | cons x l ih =>
        simp only [hasN, List.contains_cons, ih]
        congr 1
        rw [Bool.eq_iff_iff, Nat.beq_eq, beq_iff_eq]
    unfold leftE
    rw [List.filter_cons, h3, hh]
    cases hc : seen.contains b with
    | true => simpa using leftE_mem h4
    | false => exact ⟨h1, h2, h3, leftE_mem h4⟩
theorem allNew_conc {ρ : Ren} {last : Nat} : ∀ {es : List Ent} {ms : List MapEntry}, EntC ρ es ms → ms.all (fun e => decide (e.born ≥ last)) = allNew last es
  | [], [], _ => rfl
  | [], _ :: _, h => h.elim
  | _ :: _, [], h => h.elim
  | (key, v, b) :: l, e :: m, ⟨h1, h2, h3, h4⟩ => by
    have ih := allNew_conc (last := last) h4
    unfold allNew at ih ⊢
    simp only [List.all_cons, ih, h3]
    congr 1
    cases hb : Nat.ble last b with
    | true => simpa using Nat.le_of_ble_eq_true hb
    | false =>
      simp only [decide_eq_false_iff_not, Nat.not_le, ge_iff_le]
      rcases Nat.lt_or_ge b last with h | h
      · exact h
      · rw [Nat.ble_eq_true_of_le h] at hb; cases hb
theorem EntC.nil_iff {ρ : Ren} {es : List Ent} {ms : List MapEntry} (h : EntC ρ es ms) : es.isEmpty = ms.isEmpty := by
  cases es <;> cases ms <;> first | rfl | exact h.elim
theorem EntC.get' {ρ : Ren} : ∀ {l : List Ent} {m : List MapEntry} {i : Nat} {e : MapEntry}, EntC ρ l m → m[i]? = some e → ∃ k v b, (k, v, b) ∈ l ∧ conc ρ k = some e.key ∧ conc ρ v = some e.val ∧ e.born = b
  | [], [], _, _, _, h => by simp at h
  | [], _ :: _, _, _, h, _ => h.elim
  | _ :: _, [], _, _, h, _ => h.elim
  | (k, v, b) :: l, e0 :: m, 0, e, ⟨h1, h2, h3, h4⟩, h => by
    simp at h; subst h
    exact ⟨k, v, b, by simp, h1, h2, h3⟩
  | (k, v, b) :: l, e0 :: m, i + 1, e, ⟨h1, h2, h3, h4⟩, h => by
    obtain ⟨k', v', b', g1, g2⟩ := EntC.get' h4 (by simpa using h)
    exact ⟨k', v', b', by simp [g1], g2⟩
theorem filter_new {ρ : Ren} {since : Nat} : ∀ {es : List Ent} {ms : List MapEntry}, EntC ρ es ms → es.all (fun e => Nat.blt e.2.2 since) = true → ms.filter (fun e => decide (e.born < since)) = ms ∧ ms.filter (fun e => decide (e.born ≥ since)) = []
  | [], [], _, _ => ⟨rfl, rfl⟩
  | [], _ :: _, h, _ => h.elim
  | _ :: _, [], h, _ => h.elim
  | (key, v, b) :: l, e :: m, ⟨h1, h2, h3, h4⟩, h => by
    simp only [List.all_cons, Bool.and_eq_true] at h
    obtain ⟨f1, f2⟩ := filter_new h4 h.2
    have hb : b < since := by
      have := h.1
      rw [Nat.blt_eq] at this
      exact this
    constructor
    · rw [List.filter_cons_of_pos (by simp [h3, hb]), f1]
    · rw [List.filter_cons_of_neg (by simp [h3, hb]), f2]
theorem choose_next {w : World} {N : Nat} (h : 0 < N) : ∃ j m, j < N ∧ (choose (.mapNext N)).run P w = .ok j { w with drawn := m } := by
  by_cases h1 : N ≤ 1
  · exact ⟨0, w.drawn, h, by simp [choose, Sem.run, Question.forced, h1]⟩
  · refine ⟨(Question.mapNext N).cut (w.tape w.drawn (.mapNext N)), w.drawn + 1, by simp [Question.cut]; exact Nat.mod_lt _ h, ?_⟩
    simp [choose, Sem.run, Question.forced, h1]
theorem next_does {x : Operand} {xv : AV} (ho : o.op = .next x false) (hx : ev a x = some xv) (h : nextK lim xv n H k = some L) (hln : lim.nat ≤ n.nat) (hs : Slots ρ a A) (hg : Good ρ n (hp H) w) : Does P lim A o k L ρ n H w := by
  obtain ⟨u, h1, h2⟩ := ev_conc hs hx
  unfold nextK at h
  split at h
  · rename_i b
    split at h
    · rename_i hlb
      obtain ⟨kk, d, xx, hb, rfl⟩ := conc_ptr h1
      split at h
      · rename_i since seen st hmit
        obtain ⟨k1, x1, m', g1, g2, gn, _⟩ := hg.mit (b := b) hmit
        rw [hb] at g1; injection g1 with g1; injection g1 with t1 t2; injection t2 with t2 t3
        subst t1; subst t2
        have := gn rfl
        subst this
        have hgo := run_getObj (P := P) g2 (fun c t f e => by cases e)
        refine ⟨.tuple #[.bool false], w, .inl ?_, goes_same hg h (tup_conc (concs_mk rfl rfl))⟩
        simp [execOp, ho, h2, Instr.next, hgo]
      · rename_i mb since seen st hmit
        split at h
        · rename_i es c hmb
          obtain ⟨k1, x1, m', g1, g2, _, gm⟩ := hg.mit (b := b) hmit
          rw [hb] at g1; injection g1 with g1; injection g1 with t1 t2; injection t2 with t2 t3
          subst t1; subst t2
          obtain ⟨k2, d2, x2, g3, rfl⟩ := gm mb rfl
          obtain ⟨k3, d3, x3, es', g4, g5, g6⟩ := hg.ents (b := mb) hmb
          rw [g3] at g4; injection g4 with g4; injection g4 with t1 t2
          subst t1
          have hgo := run_getObj (P := P) g2 (fun c t f e => by cases e)
          have hgm := run_getMap (P := P) g5
          split at h
          · cases h
          · rename_i hcond
            have hseen : seen.toArray.isEmpty = seen.isEmpty := by cases seen <;> rfl
            have hes : es'.isEmpty = es.isEmpty := by rw [EntC.nil_iff g6]; cases es'; simp
            have hall : es'.all (fun e => decide (e.born ≥ st)) = allNew st es := by rw [← allNew_conc g6]; cases es'; simp
            have hc' : ¬ ((!seen.toArray.isEmpty && !es'.isEmpty && es'.all (fun e => decide (e.born ≥ st))) = true) := by rw [hseen, hes, hall]; exact hcond
            have hleft := leftE_mem (seen := seen) g6
            have hlf : es'.filter (fun e => !seen.toArray.contains e.born) = (es'.toList.filter fun e => !seen.contains e.born).toArray := by
              cases es'; simp
            split at h
            · rename_i hl
              rw [hl] at hleft
              have hnil : es'.toList.filter (fun e => !seen.contains e.born) = [] := by
                cases hq : es'.toList.filter (fun e => !seen.contains e.born) with
                | nil => rfl
                | cons x l => rw [hq] at hleft; exact hleft.elim
              rw [hnil] at hlf
              refine ⟨.tuple #[.bool false], w, .inl ?_, goes_same hg h (tup_conc (concs_mk rfl rfl))⟩
              simp only [execOp, ho, h2, Instr.next, Sem.run_bind, hgo, Result.andThen_ok, hgm, Nat.zero_add]
              rw [if_neg hc']
              simp only [hlf]
              simp [choose, Question.forced, Sem.run]
            · rename_i hne
              split at h
              · rename_i hold
                obtain ⟨f1, f2⟩ := filter_new hleft hold
                have hpos : 0 < (es'.toList.filter fun e => !seen.contains e.born).length := by
                  rw [EntC.len hleft]; exact List.length_pos_iff.2 hne
                obtain ⟨j, m, hj, hch⟩ := choose_next (P := P) (w := w) hpos
                have hje := List.getElem?_eq_getElem hj
                obtain ⟨key, v, b0, hmem, hk1, hk2, hk3⟩ := hleft.get' hje
                obtain ⟨L', hL1, hL2⟩ := ways_mem h (key, v, b0) hmem
                have hold1 : (es'.toList.filter fun e => !seen.contains e.born).toArray.filter (fun e => decide (e.born < since)) = (es'.toList.filter fun e => !seen.contains e.born).toArray := by
                  rw [List.filter_toArray, f1]
                have hnew1 : (es'.toList.filter fun e => !seen.contains e.born).toArray.filter (fun e => decide (e.born ≥ since)) = #[] := by
                  rw [List.filter_toArray, f2]
                generalize (es'.toList.filter fun e => !seen.contains e.born) = lf at *
                have hemp : lf.toArray.isEmpty = false := by cases lf with
                  | nil => simp at hpos
                  | cons _ _ => rfl
                have hcand : ((if lf.toArray.isEmpty = true then #[none] else #[]) ++ Array.map some (lf.toArray ++ #[]) : Array (Option MapEntry)) = (lf.map some).toArray := by
                  rw [hemp]; simp
                have hset : ∀ o, (setObj kk o).run P { w with drawn := m } = .ok () { w with drawn := m, heap := w.heap.setIfInBounds kk o } := by
                  intro o
                  simp [setObj, Sem.run, g2]
                refine ⟨.tuple #[.bool true, lf[j].key, lf[j].val], { w with drawn := m, heap := w.heap.setIfInBounds kk (.mapIter (some k2) since (seen.toArray.push lf[j].born) c) }, .inl ?_, ?_⟩
                · simp only [execOp, ho, h2, Instr.next, Sem.run_bind, hgo, Result.andThen_ok, hgm, Nat.zero_add]
                  rw [if_neg hc']
                  simp only [hlf, hold1, hnew1, hcand]
                  simp only [List.size_toArray, List.length_map, Sem.run_bind, Sem.run_pure, Result.andThen_ok, hch]
                  simp only [List.getElem?_toArray, List.getElem?_map, hje, Option.map_some]
                  simp [hset]
                · have hlt : kk < w.heap.size := (Array.getElem?_eq_some_iff.1 g2).1
                  obtain ⟨q1, q2⟩ := hg.turn (g := hp H) (b := b) (w' := { w with drawn := m, heap := w.heap.setIfInBounds kk (.mapIter (some k2) since (seen.toArray.push lf[j].born) c) }) (ao' := .mit (some mb) since (seen ++ [b0]) c) hmit hb (o := .mapIter (some k2) since (seen.toArray.push lf[j].born) c) (by simp [hlt]) (fun q hq => by
                    show (w.heap.setIfInBounds kk _)[q]? = _
                    rw [Array.getElem?_setIfInBounds_ne (fun e => hq e.symm)]) (by simp) rfl rfl rfl
                    ⟨⟨(fun e => by cases e), (fun b' e => by injection e with e; subst e; exact ⟨k2, d2, x2, g3, rfl⟩)⟩, rfl, rfl, by rw [hk3]; simp, rfl⟩
                  refine ⟨_, n, _, L', ρ, hL1, hL2, tup_conc (concs_mk rfl (concs_mk hk1 (concs_mk hk2 rfl))), by rw [hp_set]; exact q1, by rw [hp_set]; exact q2, fun q hq => ?_⟩
                  rw [PT.get_set, if_neg (fun e => by subst e; have := Nat.le_of_ble_eq_true hlb; omega)]
              · cases h
        · cases h
      · cases h
    · cases h
  · cases h
theorem goes_put {v : AV} {u : Value} {n' : Pos} {H' : PT AO} {w' : World} {ρ' : Ren} (h : k v n' H' = some L) (hv : conc ρ' v = some u) (hn : Now lim ρ n H w ρ' n' H' w') : Goes lim k L ρ n H w u w' := ⟨v, n', H', L, ρ', h, fun _ hx => hx, hv, hn⟩
theorem freeze_facts (w : World) (a : Addr) (m : Nat) : (∀ q, q ≠ a.block → (w.freeze a m).heap[q]? = w.heap[q]?) ∧ (w.freeze a m).heap.size = w.heap.size ∧ (w.freeze a m).os = w.os ∧ (w.freeze a m).tape = w.tape ∧ (w.freeze a m).output = w.output := by
  unfold World.freeze
  split
  · exact ⟨fun _ _ => rfl, rfl, rfl, rfl, rfl⟩
  · exact ⟨fun q hq => by simp only [Array.getElem?_modify]; rw [if_neg (fun e => hq e.symm)], by simp, rfl, rfl, rfl⟩
theorem built_does {b : Builtin} {ts : Array TypeId} {ty : TypeId} {xs : List AV} {us : List Value} (h : builtK P lim b ts xs n H k = some L) (hln : lim.nat ≤ n.nat) (hg : Good ρ n (hp H) w) (hx : concs ρ xs = some us) :
    ∃ u w', (∀ cs, (builtin b ts ty cs us.toArray).run P w = .ok (.value u) w') ∧ Goes lim k L ρ n H w u w' := by
  have two : ∀ {x y : AV}, concs ρ [x, y] = some us → ∃ u v, us = [u, v] ∧ conc ρ x = some u ∧ conc ρ y = some v := by
    intro x y h
    obtain ⟨u, r, rfl, h1, h2⟩ := concs_cons h
    obtain ⟨v, r, rfl, h3, h4⟩ := concs_cons h2
    cases h4
    exact ⟨u, v, rfl, h1, h3⟩
  have tsl : ∀ {l : List TypeId}, ts.toList = l → ts = l.toArray := fun e => by rw [← e]
  unfold builtK at h
  split at h
  · rename_i t u s x hts
    split at h
    · rename_i hlim
      obtain ⟨us', ux, rfl, h1, h2⟩ := two hx
      obtain ⟨v, n', H', hk, hkp, hspec⟩ := appendK_some (ty := ty) h
      obtain ⟨ρ', y, w', q1, q2, q3, q4⟩ := hspec hg h1 h2
      rw [tsl hts]
      exact ⟨y, w', fun cs => by simp [builtin, q2], goes_put hk q1 ⟨q3, q4, okLim_keepN hlim hln hkp⟩⟩
    · cases h
  · rename_i t t2 d s hts
    split at h
    · rename_i hlim
      obtain ⟨us', ux, rfl, h1, h2⟩ := two hx
      obtain ⟨v, H', hk, hkp, hspec⟩ := copyK_some (P := P) (t2 := t2) (ty := ty) h
      obtain ⟨y, w', q1, q2, q3, q4⟩ := hspec hg h1 h2
      rw [tsl hts]
      exact ⟨y, w', fun cs => by simp [builtin, q2], goes_put hk q1 ⟨q3, q4, okLim_keep hlim hkp⟩⟩
    · cases h
  · rename_i t t2 m x hts
    split at h
    · rename_i hlim
      obtain ⟨us', ux, rfl, h1, h2⟩ := two hx
      obtain ⟨H', hk, hkp, hspec⟩ := delK_some (P := P) (t2 := t2) (ty := ty) h
      obtain ⟨w', q2, q3, q4⟩ := hspec hg h1 h2
      rw [tsl hts]
      exact ⟨undef, w', fun cs => by simp [builtin, q2], goes_put hk rfl ⟨q3, q4, okLim_keep hlim hkp⟩⟩
    · cases h
  · rename_i pt it x m hts
    obtain ⟨ux, um, rfl, h1, h2⟩ := two hx
    cases h2
    have hcal : ∀ cs v w1 w2, (Builtin.unsafeString_ #[pt, it] ty #[ux, .int .i64 m]).run P w1 = .ok v w2 → (builtin .unsafeString ts ty cs #[ux, .int .i64 m]).run P w1 = .ok (.value v) w2 := by
      intro cs v w1 w2 e
      rw [tsl hts]
      simp only [builtin, Sem.run_bind]
      rw [e]
      rfl
    unfold ustrK at h
    split at h
    · have hp : ∃ q, ux = Value.pointer q ∧ k (.str []) n H = some L := by
        split at h
        · cases h1; exact ⟨none, rfl, h⟩
        · obtain ⟨k', d', x', _, rfl⟩ := conc_ptr h1; exact ⟨_, rfl, h⟩
        · cases h
      obtain ⟨q, rfl, h⟩ := hp
      exact ⟨.string .empty, w, fun cs => hcal cs _ _ _ (Lib.run_unsafeString_none w pt it ty q), goes_same hg h rfl⟩
    · rename_i z
      split at h
      · rename_i b
        split at h
        · rename_i e cs rn df es e' hu hb
          split at h
          · rename_i hc
            simp only [Bool.and_eq_true] at hc
            obtain ⟨⟨⟨⟨c1, c2⟩, c3⟩, c4⟩, c5⟩ := hc
            have c1 := Nat.eq_of_beq_eq_true c1
            have c2 := Nat.eq_of_beq_eq_true c2
            have c3 := Nat.le_of_ble_eq_true c3
            rw [Nat.blt_eq] at c4
            have c5 := Nat.le_of_ble_eq_true c5
            subst c1
            split at h
            · rename_i l hl
              split at h
              · rename_i r hr
                rw [forceNL_eq, PT.delK_eq] at h
                obtain ⟨kk, d, xx, cc, t, fz, g1, g2, g3, g4⟩ := hg.cell (g := hp H) hb
                obtain ⟨k', d', x', g1', rfl⟩ := conc_ptr h1
                rw [g1] at g1'; injection g1' with g1'; injection g1' with t1 t2; injection t2 with t2 t3
                subst t1; subst t2
                obtain ⟨rfl, rfl⟩ := g3.2.2 e rfl
                obtain ⟨b1, b2⟩ := rdCells_len hl
                obtain ⟨r1, r2⟩ := byteL_conc (ρ := ρ) hr
                have hrl : r.length = z + 1 := by
                  have := concs_len r2
                  simp at this; omega
                have hsz : z + 1 ≤ cc.size := by
                  obtain ⟨v', y', f1, f2, f3, f4⟩ := g3.1 z (by omega)
                  have := (Array.getElem?_eq_some_iff.1 f3).1
                  omega
                have hrun := Lib.run_unsafeString_row (P := P) w pt it ty t hu c2 kk cc.size (by simp [World.shape?, g2]) (r.map UInt8.ofNat) (by intro e; have := congrArg List.length e; simp [hrl] at this) (by simp; omega) (by simp; omega) (fun j u hj => by
                  simp only [List.getElem?_map, Option.map_eq_some_iff] at hj
                  obtain ⟨q, hq, rfl⟩ := hj
                  have hjl : j < z + 1 := by rw [← hrl]; exact (List.getElem?_eq_some_iff.1 hq).1
                  obtain ⟨v', y', f1, f2, f3, f4⟩ := g3.1 j (by omega)
                  have e1 : l[j]? = some v' := by rw [b2 j hjl, Nat.zero_add]; exact f1
                  obtain ⟨y2, e2, e3⟩ := concs_get r2 e1
                  rw [f2] at e3; injection e3 with e3; subst e3
                  simp [hq] at e2
                  have hq256 : q < 256 := by
                    have := List.all_eq_true.1 r1 q (List.mem_of_getElem? hq)
                    simpa using this
                  have hc : w.cell? ⟨kk, j, none⟩ = some y' := by
                    rw [Nat.zero_add] at f3
                    simp [World.cell?, g2, f3]
                  rw [addr_add, Nat.zero_add, hc, ← e2]
                  simp [UInt8.toNat_ofNat', Nat.mod_eq_of_lt hq256])
                have hlen : (r.map UInt8.ofNat).length = z + 1 := by simp [hrl]
                rw [hlen] at hrun
                obtain ⟨f1, f2, f3, f4, f5⟩ := freeze_facts w ⟨kk, 0, none⟩ (z + 1)
                obtain ⟨q1, q2⟩ := hg.gone (g := hp H) hb g1 f1 f2 f3 f4 f5
                rw [← hp_del] at q1 q2
                refine ⟨_, _, fun cs => hcal cs _ _ _ hrun, .str r, n, _, L, ρ, h, fun _ hx => hx, ?_, q1, q2, fun q hq => ?_⟩
                · rw [str_conc r1]; rfl
                · rw [PT.get_del, if_neg (fun e => by subst e; omega)]
              · cases h
            · cases h
          · cases h
        · cases h
      · cases h
    · cases h
  · rename_i t m hts
    split at h
    · rename_i kt et es c hu hm
      rw [forceN_eq] at h
      obtain ⟨u, r, rfl, h1, h2⟩ := concs_cons hx
      cases h2
      obtain ⟨kk, d, x, es', g1, g2, g3⟩ := hg.ents (b := m) hm
      obtain ⟨k', d', x', g1', rfl⟩ := conc_map h1
      rw [g1] at g1'; injection g1' with g1'; injection g1' with t1 t2
      subst t1
      have hsz : es'.size = es.length := by rw [← g3.len]; simp
      rw [tsl hts]
      exact ⟨_, w, fun cs => by simp [builtin, Builtin.len_, run_underlying hu, run_getMap g2, goInt, hsz], goes_same hg h rfl⟩
    · cases h
  · split at h
    · rename_i v hv
      rw [forceV_eq] at h
      obtain ⟨y, h1, h2⟩ := run_pureCall (P := P) (ty := ty) hv hx
      exact ⟨y, w, fun cs => h2 cs w, goes_same hg h h1⟩
    · cases h
theorem ext_noEsc {fn : Func} (h : noEsc fn = true) : (fn.name == "runtime.NumGoroutine") = false ∧ Extern.findNext fn = none ∧ Extern.find fn = some Extern.AbiNoEscape.same := by
  unfold noEsc at h
  simp only [Bool.and_eq_true, beq_iff_eq] at h
  obtain ⟨h1, h2⟩ := h
  refine ⟨by rw [h1]; decide +kernel, ?_, ?_⟩
  · unfold Extern.findNext
    rw [h1, h2]
    rfl
  · unfold Extern.find
    rw [h1, h2]
    rfl
theorem run_callFunc_noEsc {P : Program} {f : FuncId} {fn : Func} (hf : P.funcs[f]? = some fn) (hb : fn.body = none) (h : noEsc fn = true) (u : Value) (w : World) : (callFunc f [u].toArray).run P w = .ok (.value u) w := by
  obtain ⟨h1, h2, h3⟩ := ext_noEsc h
  rw [run_callFunc_extern hf h1 (by rw [hb]; rfl) h2 h3]
  rfl
theorem opK_some {call : CallT} (hcall : CallOk P lim call) (h : opK P call lim a o.op n H k = some L) (hln : lim.nat ≤ n.nat) (hs : Slots ρ a A) (hg : Good ρ n (hp H) w)
    {next : Act → World → Prop} {Q : Exit → Act → World → Prop} (hn : ∀ u w', Goes lim k L ρ n H w u w' → next (A.put o.dst u) w') : o.wpIn (Fw r) 0 P A w next Q := by
  unfold opK at h
  split at h
  · rename_i x ho
    split at h
    · rename_i v hv
      exact (pure_does (o := o) (by unfold pureOp; rw [ho]; exact hv) h hs hg).wp hn
    · cases h
  · rename_i x ho
    split at h
    · rename_i v hv
      exact (pure_does (o := o) (by unfold pureOp; rw [ho]; exact hv) h hs hg).wp hn
    · cases h
  · rename_i t x ho
    split at h
    · rename_i xv hx
      split at h
      · rename_i v hv
        obtain ⟨u, h1, h2⟩ := ev_conc hs hx
        obtain ⟨y, h3, h4⟩ := run_loadA (P := P) hg hv h1
        exact (Does.wp ⟨y, w, .inl (by simp [execOp, ho, h2, h4]), goes_same hg h h3⟩ hn)
      · cases h
    · cases h
  · rename_i t x v ho
    split at h
    · rename_i xv vv hx hv
      split at h
      · rename_i hlim
        obtain ⟨ux, h1, h2⟩ := ev_conc hs hx
        obtain ⟨uv, h3, h4⟩ := ev_conc hs hv
        obtain ⟨H', hk, hkp, hspec⟩ := storeK_some (P := P) h
        obtain ⟨w', q2, q3, q4⟩ := hspec hg h3 h1
        exact (Does.wp ⟨undef, w', .inr ⟨by simp [execOp, ho, h2, h4, q2], rfl⟩, goes_put hk rfl ⟨q3, q4, okLim_keep hlim hkp⟩⟩ hn)
      · cases h
    · cases h
  · rename_i t m x ok ho
    split at h
    · rename_i mv xv hm hx
      split at h
      · rename_i v hv
        obtain ⟨um, h1, h2⟩ := ev_conc hs hm
        obtain ⟨ux, h3, h4⟩ := ev_conc hs hx
        obtain ⟨y, h5, h6⟩ := run_lookupA (P := P) hg hv h1 h3
        exact (Does.wp ⟨y, w, .inl (by simp [execOp, ho, h2, h4, h6]), goes_same hg h h5⟩ hn)
      · cases h
    · cases h
  · rename_i t m x v ho
    split at h
    · rename_i mv xv vv hm hx hv
      split at h
      · rename_i hlim
        obtain ⟨um, h1, h2⟩ := ev_conc hs hm
        obtain ⟨ux, h3, h4⟩ := ev_conc hs hx
        obtain ⟨uv, h5, h6⟩ := ev_conc hs hv
        obtain ⟨H', hk, hkp, hspec⟩ := updK_some (P := P) h
        obtain ⟨w', q2, q3, q4⟩ := hspec hg h1 h3 h5
        exact (Does.wp ⟨undef, w', .inr ⟨by simp [execOp, ho, h2, h4, h6, q2], rfl⟩, goes_put hk rfl ⟨q3, q4, okLim_keep hlim hkp⟩⟩ hn)
      · cases h
    · cases h
  · rename_i t m x ho
    split at h
    · rename_i mv xv hm hx
      split at h
      · rename_i hlim
        obtain ⟨um, h1, h2⟩ := ev_conc hs hm
        obtain ⟨ux, h3, h4⟩ := ev_conc hs hx
        obtain ⟨v, H', hk, hkp, hspec⟩ := entryK_some (P := P) h
        obtain ⟨u, w', q1, q2, q3, q4⟩ := hspec hg h1 h3
        exact (Does.wp ⟨u, w', .inl (by simp [execOp, ho, h2, h4, q2]), goes_put hk q1 ⟨q3, q4, okLim_keep hlim hkp⟩⟩ hn)
      · cases h
    · cases h
  · rename_i t m s v ho
    split at h
    · rename_i mv sv vv hm hx hv
      split at h
      · rename_i hlim
        obtain ⟨um, h1, h2⟩ := ev_conc hs hm
        obtain ⟨ux, h3, h4⟩ := ev_conc hs hx
        obtain ⟨uv, h5, h6⟩ := ev_conc hs hv
        obtain ⟨H', hk, hkp, hspec⟩ := stampK_some (P := P) (t := t) h
        obtain ⟨w', q2, q3, q4⟩ := hspec hg h1 h3 h5
        exact (Does.wp ⟨undef, w', .inr ⟨by simp [execOp, ho, h2, h4, h6, q2], rfl⟩, goes_put hk rfl ⟨q3, q4, okLim_keep hlim hkp⟩⟩ hn)
      · cases h
    · cases h
  · rename_i t x ho
    split at h
    · rename_i xv hx
      obtain ⟨ux, h1, h2⟩ := ev_conc hs hx
      obtain ⟨v, H', hk, hkp, hspec⟩ := rangeK_some (P := P) h
      obtain ⟨ρ', u, w', q1, q2, q3, q4⟩ := hspec hg h1
      refine (Does.wp ⟨u, w', .inl (by simp [execOp, ho, h2, q2]), goes_put hk q1 ⟨q3, q4, fun q hq => ?_⟩⟩ hn)
      exact hkp q (by simp [idOf]) (by omega)
    · cases h
  · rename_i x sflag ho
    split at h
    · cases h
    · rename_i hsf
      split at h
      · rename_i xv hx
        have ho' : o.op = .next x false := by rw [ho]; cases sflag <;> simp_all
        exact (next_does ho' hx h hln hs hg).wp hn
      · cases h
  · rename_i x ho
    split at h
    · rename_i xv hx
      split at h
      · rename_i v hv
        obtain ⟨ux, h1, h2⟩ := ev_conc hs hx
        obtain ⟨y, h5, h6⟩ := run_curA (P := P) hg hv h1
        exact (Does.wp ⟨y, w, .inl (by simp [execOp, ho, h2, h6]), goes_same hg h h5⟩ hn)
      · cases h
    · cases h
  · rename_i s d x ho
    split at h
    · rename_i xv hx
      obtain ⟨ux, h1, h2⟩ := ev_conc hs hx
      split at h
      · rename_i v hv
        rw [forceV_eq] at h
        obtain ⟨y, h3, h4⟩ := run_convA (P := P) hv h1
        exact (Does.wp ⟨y, w, .inl (by simp [execOp, ho, h2, h4]), goes_same hg h h3⟩ hn)
      · split at h
        · rename_i v hv
          rw [forceV_eq] at h
          obtain ⟨y, h3, h4⟩ := run_bytesA (P := P) hg hv h1
          exact (Does.wp ⟨y, w, .inl (by simp [execOp, ho, h2, h4]), goes_same hg h h3⟩ hn)
        · exact (alloc_does (o := o) (by rw [ho]; exact h) hln hs hg).wp hn
    · cases h
  · rename_i t ho; exact (alloc_does (o := o) (by rw [ho]; exact h) hln hs hg).wp hn
  · rename_i t x ho; exact (alloc_does (o := o) (by rw [ho]; exact h) hln hs hg).wp hn
  · rename_i t l ps ho; exact (alloc_does (o := o) (by rw [ho]; exact h) hln hs hg).wp hn
  · rename_i t r ho; exact (alloc_does (o := o) (by rw [ho]; exact h) hln hs hg).wp hn
  · rename_i t l c ho; exact (alloc_does (o := o) (by rw [ho]; exact h) hln hs hg).wp hn
  · rename_i c ho
    split at h
    · rename_i f hcf
      split at h
      · rename_i ff first cap args hf ha
        obtain ⟨uf, h1, h2⟩ := ev_conc hs hf
        obtain ⟨x, y, h3, h4, rfl⟩ := conc_fn h1
        have h5 := evAll_conc hs _ ha
        have hxs := concs_app (concs_app h3 h5) h4
        have harr : (x ++ c.args.toList.map A.eval ++ y).toArray = x.toArray ++ c.args.map A.eval ++ y.toArray := by
          rw [← arr_map]; simp
        unfold callE at h
        split at h
        case h_2 => cases h
        rename_i fn0 hfn0
        split at h
        case h_2 =>
          rename_i hb0
          split at h
          case isFalse => cases h
          rename_i hne
          split at h
          case h_2 => cases h
          rename_i v hv
          rw [hv] at hxs
          obtain ⟨uv, r, hur, hu1, hu2⟩ := concs_cons hxs
          cases hu2
          have hrun : (execOp A.eval o).run P w = .ok (.value uv) w := by
            simp only [execOp, ho, resolve, hcf, h2, Deferred.ofValue, invoke, Sem.run_bind, Sem.run_pure, Result.andThen_ok]
            rw [← harr, hur, run_callFunc_noEsc hfn0 hb0 hne]
          exact Oper.wp_value hrun (hn uv w (goes_same hg h hu1))
        obtain ⟨⟨fn, e1, e2, e3⟩, hc⟩ := hcall.1 _ _ _ _ _ _ h hln
        have hcs := hc ρ w _ hg hxs
        have hrun : (execOp A.eval o).run P w = .ok (.enter ff (x.toArray ++ c.args.map A.eval ++ y.toArray)) w := by
          have e2' : ¬ fn.name = "runtime.NumGoroutine" := by simpa using e2
          have e3' : ¬ fn.body = none := fun e => by rw [e] at e3; cases e3
          simp [execOp, ho, resolve, hcf, h2, Deferred.ofValue, invoke, callFunc, run_program, e1, e2', e3']
        rw [harr] at hcs
        refine ⟨fun _ _ => trivial, ?_⟩
        rw [Oper.semAt_eq _ _ _ (no_defer hrun (fun d e => by cases e)), hrun, Oper.uponIn_enter]
        refine ⟨(fun e => by cases e), CallsIn.mono (callsIn_fw hcs) ?_⟩
        rintro e w' ⟨u, rfl, hgo⟩
        exact hn u w' hgo
      · rename_i b args hf ha
        obtain ⟨uf, h1, h2⟩ := ev_conc hs hf
        have h5 := evAll_conc hs _ ha
        obtain ⟨kk, d, x, hb, fn, tmps, assign, body, hy, hR⟩ := hcall.2 _ _ _ _ _ _ h hln r ρ w _ hg h5
        unfold conc at h1
        rw [hb] at h1
        injection h1 with h1
        subst h1
        rw [arr_map] at hy
        have hrun : (execOp A.eval o).run P w = .ok (.round kk fn tmps assign body) w := by
          simp [execOp, ho, resolve, hcf, h2, Deferred.ofValue, invoke, hy]
        refine ⟨fun _ _ => trivial, ?_⟩
        rw [Oper.semAt_eq _ _ _ (no_defer hrun (fun d e => by cases e)), hrun, Oper.uponIn_round]
        refine ⟨(fun e => by cases e), RoundIn.mono hR ?_⟩
        rintro e w' ⟨u, rfl, hgo⟩
        exact hn u w' hgo
      · cases h
    · rename_i b hcf
      split at h
      · rename_i xs hx
        obtain ⟨u, w', q1, q2⟩ := built_does (P := P) (ty := o.type) h hln hg (evAll_conc hs _ hx)
        rw [arr_map] at q1
        refine Does.wp ⟨u, w', .inl ?_, q2⟩ hn
        simp only [execOp, ho, resolve, hcf, Sem.run_bind, Sem.run_pure, Result.andThen_ok, invoke, q1]
      · cases h
    · cases h
  · split at h
    · rename_i v hv
      rw [forceV_eq] at h
      exact (pure_does hv h hs hg).wp hn
    · cases h
end
end Go.Proofs.YthggliknnmhbdaaGreat.Abs
end
/- The interpreter: regions, code, calls. Definitions. No conditions. -/
section
set_option linter.unusedVariables false
namespace Go.Proofs.YthggliknnmhbdaaGreat.Abs
open Go Go.RowKit
inductive Ex where
  | nrm | exit (id : Nat) | ret
noncomputable def putA {R : Type} (dst : Option Tmp) (v : AV) (a : PT AV) (k : PT AV → Option R) : Option R :=
  match dst with
  | none => k a
  | some d => PT.updK v (pk d) a k
/-- is the operation wanted? its guard's word -/
noncomputable def wantA (ops : List Oper) (a : PT AV) (o : Oper) : Option Bool :=
  match o.guard with
  | none => some true
  | some (j, want) => (match ops[j]? with
    | some oj => (match oj.dst with | some t => (match PT.get (pk t) a with | some (.bool b) => some (b == want) | some (.tup []) => some false | _ => none) | none => none)
    | none => none)
noncomputable def seqK (P : Program) (call : CallT) (lim : Pos) (ops : List Oper) : List Oper → PT AV → Pos → PT AO → (PT AV → Pos → PT AO → Res) → Res
  | [], a, n, H, k => k a n H
  | o :: os, a, n, H, k => (match wantA ops a o with
    | some true => opK P call lim a o.op n H fun v n H => putA o.dst v a fun a => seqK P call lim ops os a n H k
    | some false => putA o.dst (.tup []) a fun a => seqK P call lim ops os a n H k
    | none => none)
/-! regions that draw their order -/
def isHeavy : Op → Bool
  | .store .. => true | .mapUpdate .. => true | .mapEntry .. => true | .entryStore .. => true | .range .. => true | .next .. => true | .entry _ => true | .insert .. => true
  | .call c => (match c.callee with | .builtin .len => false | .builtin .min => false | .builtin .max => false | _ => true)
  | _ => false
def isNew (P : Program) : Op → Bool
  | .alloc _ => true | .box .. => true | .buildSlice .. => true | .makeMap .. => true | .makeSlice .. => true
  | .convert s d _ => (match P.underlying s, P.underlying d with | some .string, some (.slice _) => true | _, _ => false)
  | _ => false
/-- what only reads -/
noncomputable def rdOp (P : Program) (a : PT AV) (op : Op) (g : Hp) : Option AV :=
  match op with
  | .load t x => (match ev a x with | some x => loadA P t x g | none => none)
  | .lookup t m x ok => (match ev a m, ev a x with | some m, some x => lookupA P t m x ok g | _, _ => none)
  | .convert s d x => (match ev a x with | some v => (match convA P s d v with | some v => some v | none => bytesA P s d v g) | none => none)
  | .call c => (match c.callee with
    | .builtin b => (match evAll a c.args.toList with
      | some xs => (match b, c.argTypes.toList, xs with
        | .len, [t], [.map m] => (match P.underlying t, g m with | some (.map _ _), some (.map es _) => some (.int .i64 es.length) | _, _ => none)
        | b, _, xs => pureCall P b c.argTypes xs)
      | none => none)
    | _ => none)
  | op => pureOp P a op
def readsMem : Op → Bool
  | .load .. => true | .lookup .. => true | .convert .. => true | .call _ => true
  | _ => false
abbrev Pend := List (Nat × Pos × AO)
/-- those that stand ahead of it join -/
noncomputable def joinK {R : Type} (m : Nat) : Pend → PT AO → (PT AO → R) → R
  | [], H, k => k H
  | (j, b, o) :: l, H, k => if Nat.testBit m j then PT.setK o b H fun H => joinK m l H k else joinK m l H k
def restP (m : Nat) (l : Pend) : Pend := l.filter fun x => !Nat.testBit m x.1
noncomputable def addAllK {R : Type} : Pend → PT AO → (PT AO → R) → R
  | [], H, k => k H
  | (_, b, o) :: l, H, k => PT.setK o b H fun H => addAllK l H k
/-- a moment: slots, numbers, heap, what it yields then -/
structure Mom where
  a : PT AV
  H : PT AO
  pd : Pend
  v : AV
noncomputable def joinT (m : Nat) : Pend → PT AO → PT AO
  | [], H => H
  | (j, b, o) :: l, H => if Nat.testBit m j then joinT m l (PT.set o b H) else joinT m l H
noncomputable def trK (P : Program) (call : CallT) (lim : Pos) (ops : List Oper) (pre : List Nat) : List Oper → Nat → PT AV → Pos → PT AO → Pend → Pos → List Mom → (List Mom → PT AV → Pos → PT AO → Pend → Res) → Res
  | [], i, a, n, H, pd, nx, acc, k => k acc a n H pd
  | o :: os, i, a, n, H, pd, nx, acc, k => (match wantA ops a o with
    | none => none
    | some false => putA o.dst (.tup []) a fun a' => trK P call lim ops pre os (Nat.succ i) a' n H pd nx (⟨a, H, pd, .tup []⟩ :: acc) k
    | some true =>
      if isHeavy o.op then
        joinK (pre.getD i 0) pd H fun H1 => (match opK P call lim a o.op n H1 (fun v n H => some [(v, n, H)]) with
          | some [(v, n2, H2)] => putA o.dst v a fun a' => trK P call lim ops pre os (Nat.succ i) a' n2 H2 (restP (pre.getD i 0) pd) nx (⟨a, H, pd, v⟩ :: acc) k
          | _ => none)
      else if isNew P o.op then
        allocK P a o.op nx fun ao v => putA o.dst v a fun a' => trK P call lim ops pre os (Nat.succ i) a' n H ((i, nx, ao) :: pd) nx.succ (⟨a, H, pd, v⟩ :: acc) k
      else
        joinK (pre.getD i 0) pd H fun H1 => (match rdOp P a o.op (hp H1) with
          | some v => forceV v fun v => putA o.dst v a fun a' => trK P call lim ops pre os (Nat.succ i) a' n H pd nx (⟨a, H, pd, v⟩ :: acc) k
          | none => none))
/-- ahead of the i-th operation, by all edges -/
def preL (ops : Array Oper) : List Nat := (Region.before ops).toList
/-- a reading operation and a heavy one, in no order -/
def unordL (ops : Array Oper) : List (Nat × Nat) :=
  let pre := preL ops
  ops.toList.zipIdx.flatMap fun (o, l) => if readsMem o.op && !isHeavy o.op then
    (ops.toList.zipIdx.filter fun (h, i) => isHeavy h.op && !(Nat.testBit (pre.getD i 0) l) && !(Nat.testBit (pre.getD l 0) i)).map fun (_, i) => (l, i) else []
def tmpsOf (ops : Array Oper) (o : Oper) : List Tmp :=
  (o.op.operands.toList.filterMap fun | .tmp t => some t | _ => none) ++ (match o.guard with | some (j, _) => ((ops[j]?).bind (·.dst)).toList | none => [])
/-- what stands ahead, by these edges -/
def edgeF (pre : List Nat) (es : List Edge) : Nat := es.foldr (fun e s => bif Region.binds .any e then Nat.lor s (Nat.lor (2 ^ e.on) (pre.getD e.on 0)) else s) 0
def dstNe (t : Nat) : Option Tmp → Bool
  | none => true
  | some d => !Nat.beq d t
noncomputable def allF {α : Type} (l : List α) (p : Nat → α → Bool) : Nat → Bool := List.rec (motive := fun _ => Nat → Bool) (fun _ => true) (fun x _ ih i => p i x && ih (Nat.succ i)) l
theorem allF_at {α : Type} {p : Nat → α → Bool} : ∀ {l : List α} {k : Nat}, allF l p k = true → ∀ {i : Nat} {x : α}, l[i]? = some x → p (k + i) x = true
  | [], _, _, i, x, e => by simp at e
  | y :: l, k, h, i, x, e => by
    have h' : (p k y && allF l p (Nat.succ k)) = true := h
    rw [Bool.and_eq_true] at h'
    cases i with
    | zero => simp at e; subst e; exact h'.1
    | succ i =>
      have := allF_at h'.2 (i := i) (x := x) (by simpa using e)
      rwa [show Nat.succ k + i = k + (i + 1) by omega] at this
/-- what the walk in one order needs of the region's text -/
noncomputable def regOk (P : Program) (ops : Array Oper) : Bool :=
  P.follows .mixedOrders && forceNL (preL ops) fun pre => allF ops.toList (fun i o =>
    allF o.after.toList (fun _ e => !Region.binds .any e || Nat.blt e.on i) 0 && Nat.beq (pre.getD i 0) (edgeF pre o.after.toList) &&
    (match o.dst with | none => true | some t => allF ops.toList (fun j p => dstNe t p.dst || Nat.beq i j) 0) &&
    (!isHeavy o.op || allF ops.toList (fun j p => !isHeavy p.op || !Nat.blt i j || Nat.testBit (pre.getD j 0) i) 0) &&
    allF (tmpsOf ops o) (fun _ t => allF ops.toList (fun j p => dstNe t p.dst || Nat.beq i j || Nat.testBit (pre.getD i 0) j || Nat.testBit (pre.getD j 0) i) 0) 0) 0
def newsOf (P : Program) (ops : Array Oper) : Nat := (ops.toList.filter fun o => isNew P o.op && !isHeavy o.op).length
noncomputable def upN : Nat → Pos → Pos
  | 0, n => n
  | m + 1, n => upN m n.succ
noncomputable def sameV (x : AV) : Option AV → Bool
  | some y => eqVal x y
  | none => false
/-- what is read where other heavy ones have run, or have not yet: the same -/
noncomputable def againOk (P : Program) (ops : Array Oper) (pre : List Nat) (ms : List Mom) (lpd : Pend) (last : PT AO) : List (Nat × Nat) → Bool
  | [] => true
  | (l, h) :: u => (match ms[l]?, ops[l]?, ms[h]? with
      | some ml, some ol, some mh => if Nat.blt l h then sameV ml.v (rdOp P ml.a ol.op (hp (match ms[h + 1]? with | some m2 => joinT (pre.getD l 0) m2.pd m2.H | none => joinT (pre.getD l 0) lpd last)))
          else sameV ml.v (rdOp P ml.a ol.op (hp (joinT (pre.getD l 0) ml.pd (joinT (pre.getD l 0) mh.pd mh.H))))
      | _, _, _ => false) && againOk P ops pre ms lpd last u
noncomputable def drawK (P : Program) (call : CallT) (lim : Pos) (ops : Array Oper) (a : PT AV) (n : Pos) (H : PT AO) (k : PT AV → Pos → PT AO → Res) : Res :=
  if regOk P ops then
    trK P call lim ops.toList (preL ops) ops.toList 0 a (upN (newsOf P ops) n) H [] n [] fun acc a n H pd =>
      if againOk P ops (preL ops) acc.reverse pd H (unordL ops) then addAllK pd H fun H => k a n H else none
  else none
abbrev ExecT := Pos → Code → PT AV → Pos → PT AO → (Ex → PT AV → Pos → PT AO → Res) → Res
noncomputable def resA (P : Program) (a : PT AV) (H : PT AO) : List ResultVar → Option (List AV)
  | [] => some []
  | .tmp t :: l => (match PT.get (pk t) a, resA P a H l with | some v, some r => some (v :: r) | _, _ => none)
  | .cell t ty :: l => (match PT.get (pk t) a with
    | some x => (match loadA P ty x (hp H), resA P a H l with | some v, some r => some (v :: r) | _, _ => none)
    | none => none)
noncomputable def initF (n : Nat) : PT AV := rowK (List.replicate n (AV.tup [])) 0 .lf fun t _ => t
noncomputable def retK (P : Program) (fn : Func) (k : AV → Pos → PT AO → Res) (e : Ex) (a : PT AV) (n : Pos) (H : PT AO) : Res :=
  match e with
  | .exit _ => none
  | _ => (match resA P a H fn.results.toList with
    | some [v] => k v n H
    | some l => forceL l fun l => k (.tup l) n H
    | none => none)
/-! one outcome of several ways: they are alike, but for the names of new blocks -/
abbrev Pairs := List (Pos × Pos)
mutual
/-- which names would have to stand for which -/
def pairsV : AV → AV → Pairs
  | .ptr b _, .ptr c _ => [(b, c)]
  | .slc b _ _ _ _, .slc c _ _ _ _ => [(b, c)]
  | .slz b _ _, .slz c _ _ => [(b, c)]
  | .map b, .map c => [(b, c)]
  | .fn _ l m, .fn _ l' m' => pairsL l l' ++ pairsL m m'
  | .agg l, .agg m => pairsL l m
  | .tup l, .tup m => pairsL l m
  | _, _ => []
def pairsL : List AV → List AV → Pairs
  | v :: l, w :: m => pairsV v w ++ pairsL l m
  | _, _ => []
end
noncomputable def pairsR (cs : PT AV) (d : Option AV) (cs' : PT AV) (d' : Option AV) : Nat → Pairs
  | 0 => []
  | n + 1 => (match cellA cs d n, cellA cs' d' n with | some v, some w => pairsV v w | _, _ => []) ++ pairsR cs d cs' d' n
def hasKey (b : Pos) : Pairs → Option Pos
  | [] => none
  | (x, y) :: l => if x = b then some y else hasKey b l
noncomputable def growM (n0 : Pos) (H H' : PT AO) : Nat → Pairs → Pairs → Pairs
  | 0, _, M => M
  | _ + 1, [], M => M
  | f + 1, (b, c) :: r, M => if Nat.blt b.nat n0.nat then growM n0 H H' f r M else
      (match hasKey b M with
      | some _ => growM n0 H H' f r M
      | none => (match PT.get b H, PT.get c H' with
        | some (.row cs n d _ _), some (.row cs' _ d' _ _) => growM n0 H H' f (pairsR cs d cs' d' n ++ r) ((b, c) :: M)
        | _, _ => M))
def okId (n0 : Pos) (M : Pairs) (b c : Pos) : Bool := if Nat.blt b.nat n0.nat then decide (b = c) else (match hasKey b M with | some y => decide (y = c) | none => false)
mutual
def likeV (n0 : Pos) (M : Pairs) : AV → AV → Bool
  | .ptr b o, .ptr c p => okId n0 M b c && o == p
  | .slc b o l c e, .slc b' o' l' c' e' => okId n0 M b b' && o == o' && l == l' && c == c' && e == e'
  | .slz b o p, .slz b' o' p' => okId n0 M b b' && o == o' && p == p'
  | .map b, .map c => okId n0 M b c
  | .fn f l m, .fn f' l' m' => f == f' && likeL n0 M l l' && likeL n0 M m m'
  | .agg l, .agg m => likeL n0 M l m
  | .tup l, .tup m => likeL n0 M l m
  | .sym _, .sym _ => false
  | x, y => eqVal x y
def likeL (n0 : Pos) (M : Pairs) : List AV → List AV → Bool
  | [], [] => true
  | x :: l, y :: m => likeV n0 M x y && likeL n0 M l m
  | _, _ => false
end
noncomputable def likeCells (n0 : Pos) (M : Pairs) (cs : PT AV) (d : Option AV) (cs' : PT AV) (d' : Option AV) : Nat → Bool
  | 0 => true
  | n + 1 => (match cellA cs d n, cellA cs' d' n with | some x, some y => likeV n0 M x y | _, _ => false) && likeCells n0 M cs d cs' d' n
noncomputable def likeO (n0 : Pos) (M : Pairs) : Option AO → Option AO → Bool
  | some (.row cs n d es ty), some (.row cs' n' d' es' ty') => n == n' && es == es' && ty == ty' && likeCells n0 M cs d cs' d' n
  | _, _ => false
def nodupM (n0 : Pos) : Pairs → Bool
  | [] => true
  | (b, c) :: l => Nat.ble n0.nat b.nat && Nat.ble n0.nat c.nat && l.all (fun x => x.1 != b && x.2 != c) && nodupM n0 l
/-- the names of the first outcome that count -/
noncomputable def likeOne (n0 : Pos) (keys : List Pos) (v : AV) (H : PT AO) (o : Out) : Bool :=
  let M := growM n0 H o.2.2 100000 (pairsV v o.1) []
  nodupM n0 M && likeV n0 M v o.1 && M.all (fun x => likeO n0 M (PT.get x.1 H) (PT.get x.2 o.2.2)) && (M.map (·.1) == keys)
noncomputable def keepK {R : Type} (H1 : PT AO) : List Pos → PT AO → (PT AO → Option R) → Option R
  | [], H, k => k H
  | b :: l, H, k => match PT.get b H1 with | some o => PT.setK o b H fun H => keepK H1 l H k | none => none
def maxP (p q : Pos) : Pos := if Nat.ble q.nat p.nat then p else q
noncomputable def alikeK (n0 : Pos) (H0 : PT AO) (L : List Out) (k : AV → Pos → PT AO → Res) : Res :=
  match L with
  | [] => none
  | [(v, n, H)] => k v n H
  | (v, n, H) :: rest =>
    forceL ((growM n0 H H 100000 (pairsV v v) []).map (·.1)) fun keys =>
    if ((v, n, H) :: rest).all (likeOne n0 keys v H) && keys.all (fun b => Nat.blt b.nat n.nat) then keepK H keys H0 fun H => k v (rest.foldl (fun p o => maxP p o.2.1) n) H else none
/-- which calls join their ways; which ones are answered by a law of their own -/
structure Plan where
  join : FuncId → Bool
  hook : FuncId → List AV → Option AV
noncomputable def callK (P : Program) (J : Plan) (ex : ExecT) (lim : Pos) (f : FuncId) (args : List AV) (n : Pos) (H : PT AO) (k : AV → Pos → PT AO → Res) : Res :=
  match P.funcs[f]? with
  | some fn => (match fn.body with
    | some c => if fn.name == "runtime.NumGoroutine" then none else
        (match J.hook f args with
        | some v => forceV v fun v => k v n H
        | none =>
        if J.join f then
          (match wrK args 0 (initF fn.ntmps) (fun a => ex n c a n H (retK P fn fun v n H => some [(v, n, H)])) with
          | some L => alikeK n H L k
          | none => none)
        else wrK args 0 (initF fn.ntmps) fun a => ex lim c a n H (retK P fn k))
    | none => none)
  | none => none
/-- no range over a function stands in it -/
def noRF : Code → Bool
  | .rangeFunc .. => false
  | .seq x y => noRF x && noRF y
  | .cond _ x y => noRF x && noRF y
  | .block _ b => noRF b
  | .loop b => noRF b
  | .scope b => noRF b
  | _ => true
/-- the params laid, one by one -/
noncomputable def layK : List Nat → List AV → PT AV → (PT AV → Res) → Res
  | [], [], a, k => k a
  | t :: ps, v :: vs, a, k => PT.updK v (pk t) a fun a => layK ps vs a k
  | _, _, _, _ => none
noncomputable def endK (b : Pos) (a : PT AV) (ps : List Nat) (assign body : Code) (k : AV → Pos → PT AO → Res) (e : Ex) (_ : PT AV) (n : Pos) (H : PT AO) : Res :=
  match e with
  | .nrm => PT.setK (.loop a ps assign body true none) b H fun H => k (.bool true) n H
  | .ret => PT.setK (.loop a ps assign body false (some none)) b H fun H => k (.bool false) n H
  | .exit i => PT.setK (.loop a ps assign body false (some (some i))) b H fun H => k (.bool false) n H
/-- a round of a range over a function: its record has no name meanwhile -/
noncomputable def yieldK (P : Program) (ex : ExecT) (lim : Pos) (b : Pos) (args : List AV) (n : Pos) (H : PT AO) (k : AV → Pos → PT AO → Res) : Res :=
  match PT.get b H with
  | some (.loop a ps assign body true _) => if Nat.ble lim.nat b.nat && noRF assign && noRF body then
      PT.delK b H fun H => layK ps args a fun a1 => ex lim assign a1 n H fun e a2 n H => (match e with
        | .nrm => ex lim body a2 n H (endK b a ps assign body k)
        | _ => none)
    else none
  | _ => none
/-- behind the iterator -/
noncomputable def doneK (b : Pos) (a : PT AV) (k : Ex → PT AV → Pos → PT AO → Res) (_ : AV) (n : Pos) (H : PT AO) : Res :=
  match PT.get b H with
  | some (.loop _ _ _ _ _ pend) => PT.delK b H fun H => (match pend with
      | none => k .nrm a n H
      | some none => k .ret a n H
      | some (some i) => k (.exit i) a n H)
  | _ => none
noncomputable def tgtK (P : Program) (J : Plan) (ex : ExecT) (lim : Pos) : CallT := fun t => match t with
  | .fn f => callK P J ex lim f
  | .yld b => yieldK P ex lim b
noncomputable def rangeFK (call : CallT) (g : Operand) (ps : List Nat) (assign body : Code) (a : PT AV) (n : Pos) (H : PT AO) (k : Ex → PT AV → Pos → PT AO → Res) : Res :=
  match ev a g with
  | some (.fn f [] cap) => PT.setK (.loop a ps assign body true none) n H fun H => call (.fn f) (.yld n :: cap) n.succ H (doneK n a k)
  | _ => none
noncomputable def execStep (P : Program) (J : Plan) (ex : ExecT) : ExecT := fun lim c a n H k =>
  match c with
  | .skip => k .nrm a n H
  | .seq x y => ex lim x a n H fun e a n H => (match e with | .nrm => ex lim y a n H k | e => k e a n H)
  | .cond c x y => (match ev a c with | some (.bool true) => ex lim x a n H k | some (.bool false) => ex lim y a n H k | _ => none)
  | .block id b => ex lim b a n H fun e a n H => (match e with | .exit j => if Nat.beq j id then k .nrm a n H else k (.exit j) a n H | e => k e a n H)
  | .loop b => ex lim b a n H fun e a n H => (match e with | .nrm => ex lim (.loop b) a n H k | e => k e a n H)
  | .exit id => k (.exit id) a n H
  | .scope b => ex lim b a n H k
  | .label _ => k .nrm a n H
  | .ret => k .ret a n H
  | .region _ ops draw => (match draw with
    | false => seqK P (tgtK P J ex lim) lim ops.toList ops.toList a n H fun a n H => k .nrm a n H
    | true => drawK P (tgtK P J ex lim) lim ops a n H fun a n H => k .nrm a n H)
  | .rangeFunc g ps assign body => rangeFK (tgtK P J ex lim) g ps.toList assign body a n H k
  | _ => none
noncomputable def exec (P : Program) (J : Plan) (fuel : Nat) : ExecT :=
  Nat.rec (motive := fun _ => ExecT) (fun _ _ _ _ _ _ => none) (fun _ ih => execStep P J ih) fuel
end Go.Proofs.YthggliknnmhbdaaGreat.Abs
end
