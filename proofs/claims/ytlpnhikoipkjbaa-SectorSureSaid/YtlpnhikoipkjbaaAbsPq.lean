/- The interpreter's operations are the model's. No conditions. -/
import Derived.Test.YtlpnhikoipkjbaaAbsO
import Derived.Laws.Externs
set_option linter.unusedVariables false
namespace Go.Proofs.Ytlpnhikoipkjbaa.Abs
open Go Go.RowKit
section
variable {P : Program} {r : Option Nat} {ρ : Ren} {n : Pos} {H : PT AO} {w : World} {lim : Pos} {a : PT AV} {A : Act} {o : Oper} {k : AV → Pos → PT AO → Res} {L : List Out}
theorem goes_same {v : AV} {u : Value} (hg : Good ρ n (hp H) w) (h : k v n H = some L) (hv : conc ρ v = some u) : Goes lim k L ρ n H w u w := ⟨v, n, H, L, ρ, h, fun _ hx => hx, hv, Now.refl hg⟩
/-- it yields something, and goes on -/
def Does (P : Program) (lim : Pos) (A : Act) (o : Oper) (k : AV → Pos → PT AO → Res) (L : List Out) (ρ : Ren) (n : Pos) (H : PT AO) (w : World) : Prop :=
  ∃ u w', Yields ((execOp A.eval o).run P w) u w' ∧ Goes lim k L ρ n H w u w'
theorem Does.wp (h : Does P lim A o k L ρ n H w) {next : Act → World → Prop} {Q : Exit → Act → World → Prop} (hn : ∀ u w', Goes lim k L ρ n H w u w' → next (A.put o.dst u) w') : o.wpIn (Fw r) 0 P A w next Q := by
  obtain ⟨u, w', hy, hgo⟩ := h
  rcases hy with h1 | ⟨h1, rfl⟩
  · exact Oper.wp_value h1 (hn u w' hgo)
  · exact Oper.wp_skip h1 (hn _ w' hgo)
theorem alloc_does (h : allocK P a o.op n (fun ao v => PT.setK ao n H fun H => k v n.succ H) = some L) (hln : lim.nat ≤ n.nat) (hs : Slots ρ a A) (hg : Good ρ n (hp H) w) : Does P lim A o k L ρ n H w := by
  obtain ⟨ao, v, h1, h2⟩ := allocK_some h
  rw [PT.setK_eq] at h1
  obtain ⟨m, x, obj, u, h3, h4, h5⟩ := h2 ρ A hs (hg.fresh n (Nat.le_refl _)) w
  have hgd : Good ρ n (hp H) (w.drewN m) := hg.drew (w.drawn + m)
  obtain ⟨q1, q2⟩ := hgd.alloc ao obj x h4
  refine ⟨u, _, .inl h3, v, n.succ, _, L, _, h1, fun _ hx => hx, h5, by rw [hp_set]; exact q1, by rw [hp_set]; exact q2.drew' (w.drawn + m), fun q hq => ?_⟩
  rw [PT.get_set, if_neg (fun e => by subst e; omega)]
theorem pure_does {v : AV} (h : pureOp P a o.op = some v) (hk : k v n H = some L) (hs : Slots ρ a A) (hg : Good ρ n (hp H) w) : Does P lim A o k L ρ n H w := by
  obtain ⟨u, h1, h2⟩ := pureOp_run h hs
  exact ⟨u, w, .inl (h2 w), goes_same hg hk h1⟩
theorem leftE_mem {ρ : Ren} {seen : List Nat} : ∀ {es : List Ent} {ms : List MapEntry}, EntC ρ es ms → EntC ρ (leftE seen es) (ms.filter fun e => !seen.contains e.born)
  | [], [], _ => trivial
  | [], _ :: _, h => h.elim
  | _ :: _, [], h => h.elim
  | (key, v, b) :: l, e :: m, ⟨h1, h2, h3, h4⟩ => by
    have hh : ∀ l : List Nat, hasN b l = l.contains b := by
      intro l
      induction l with
      | nil => rfl
      | cons x l ih =>
        simp only [hasN, List.contains_cons, ih]
        congr 1
        rw [Bool.eq_iff_iff, Nat.beq_eq, beq_iff_eq]
    unfold leftE
    rw [List.filter_cons, h3, hh]
    cases hc : seen.contains b with
    | true => simpa using leftE_mem h4
    | false => exact ⟨h1, h2, h3, leftE_mem h4⟩
theorem allNew_conc {ρ : Ren} {last : Nat} : ∀ {es : List Ent} {ms : List MapEntry}, EntC ρ es ms → ms.all (fun e => decide (e.born ≥ last)) = allNew last es
  | [], [], _ => rfl
  | [], _ :: _, h => h.elim
  | _ :: _, [], h => h.elim
  | (key, v, b) :: l, e :: m, ⟨h1, h2, h3, h4⟩ => by
    have ih := allNew_conc (last := last) h4
    unfold allNew at ih ⊢
    simp only [List.all_cons, ih, h3]
    congr 1
    cases hb : Nat.ble last b with
    | true => simpa using Nat.le_of_ble_eq_true hb
    | false =>
      simp only [decide_eq_false_iff_not, Nat.not_le, ge_iff_le]
      rcases Nat.lt_or_ge b last with h | h
      · exact h
      · rw [Nat.ble_eq_true_of_le h] at hb; cases hb
theorem EntC.nil_iff {ρ : Ren} {es : List Ent} {ms : List MapEntry} (h : EntC ρ es ms) : es.isEmpty = ms.isEmpty := by
  cases es <;> cases ms <;> first | rfl | exact h.elim
theorem EntC.get' {ρ : Ren} : ∀ {l : List Ent} {m : List MapEntry} {i : Nat} {e : MapEntry}, EntC ρ l m → m[i]? = some e → ∃ k v b, (k, v, b) ∈ l ∧ conc ρ k = some e.key ∧ conc ρ v = some e.val ∧ e.born = b
  | [], [], _, _, _, h => by simp at h
  | [], _ :: _, _, _, h, _ => h.elim
  | _ :: _, [], _, _, h, _ => h.elim
  | (k, v, b) :: l, e0 :: m, 0, e, ⟨h1, h2, h3, h4⟩, h => by
    simp at h; subst h
    exact ⟨k, v, b, by simp, h1, h2, h3⟩
  | (k, v, b) :: l, e0 :: m, i + 1, e, ⟨h1, h2, h3, h4⟩, h => by
    obtain ⟨k', v', b', g1, g2⟩ := EntC.get' h4 (by simpa using h)
    exact ⟨k', v', b', by simp [g1], g2⟩
theorem filter_new {ρ : Ren} {since : Nat} : ∀ {es : List Ent} {ms : List MapEntry}, EntC ρ es ms → es.all (fun e => Nat.blt e.2.2 since) = true → ms.filter (fun e => decide (e.born < since)) = ms ∧ ms.filter (fun e => decide (e.born ≥ since)) = []
  | [], [], _, _ => ⟨rfl, rfl⟩
  | [], _ :: _, h, _ => h.elim
  | _ :: _, [], h, _ => h.elim
  | (key, v, b) :: l, e :: m, ⟨h1, h2, h3, h4⟩, h => by
    simp only [List.all_cons, Bool.and_eq_true] at h
    obtain ⟨f1, f2⟩ := filter_new h4 h.2
    have hb : b < since := by
      have := h.1
      rw [Nat.blt_eq] at this
      exact this
    constructor
    · rw [List.filter_cons_of_pos (by simp [h3, hb]), f1]
    · rw [List.filter_cons_of_neg (by simp [h3, hb]), f2]
theorem choose_next {w : World} {N : Nat} (h : 0 < N) : ∃ j m, j < N ∧ (choose (.mapNext N)).run P w = .ok j { w with drawn := m } := by
  by_cases h1 : N ≤ 1
  · exact ⟨0, w.drawn, h, by simp [choose, Sem.run, Question.forced, h1]⟩
  · refine ⟨(Question.mapNext N).cut (w.tape w.drawn (.mapNext N)), w.drawn + 1, by simp [Question.cut]; exact Nat.mod_lt _ h, ?_⟩
    simp [choose, Sem.run, Question.forced, h1]
theorem next_does {x : Operand} {xv : AV} (ho : o.op = .next x false) (hx : ev a x = some xv) (h : nextK lim xv n H k = some L) (hln : lim.nat ≤ n.nat) (hs : Slots ρ a A) (hg : Good ρ n (hp H) w) : Does P lim A o k L ρ n H w := by
  obtain ⟨u, h1, h2⟩ := ev_conc hs hx
  unfold nextK at h
  split at h
  · rename_i b
    split at h
    · rename_i hlb
      obtain ⟨kk, d, xx, hb, rfl⟩ := conc_ptr h1
      split at h
      · rename_i since seen st hmit
        obtain ⟨k1, x1, m', g1, g2, gn, _⟩ := hg.mit (b := b) hmit
        rw [hb] at g1; injection g1 with g1; injection g1 with t1 t2; injection t2 with t2 t3
        subst t1; subst t2
        have := gn rfl
        subst this
        have hgo := run_getObj (P := P) g2 (fun c t f e => by cases e)
        refine ⟨.tuple #[.bool false], w, .inl ?_, goes_same hg h (tup_conc (concs_mk rfl rfl))⟩
        simp [execOp, ho, h2, Instr.next, hgo]
      · rename_i mb since seen st hmit
        split at h
        · rename_i es c hmb
          obtain ⟨k1, x1, m', g1, g2, _, gm⟩ := hg.mit (b := b) hmit
          rw [hb] at g1; injection g1 with g1; injection g1 with t1 t2; injection t2 with t2 t3
          subst t1; subst t2
          obtain ⟨k2, d2, x2, g3, rfl⟩ := gm mb rfl
          obtain ⟨k3, d3, x3, es', g4, g5, g6⟩ := hg.ents (b := mb) hmb
          rw [g3] at g4; injection g4 with g4; injection g4 with t1 t2
          subst t1
          have hgo := run_getObj (P := P) g2 (fun c t f e => by cases e)
          have hgm := run_getMap (P := P) g5
          split at h
          · cases h
          · rename_i hcond
            have hseen : seen.toArray.isEmpty = seen.isEmpty := by cases seen <;> rfl
            have hes : es'.isEmpty = es.isEmpty := by rw [EntC.nil_iff g6]; cases es'; simp
            have hall : es'.all (fun e => decide (e.born ≥ st)) = allNew st es := by rw [← allNew_conc g6]; cases es'; simp
            have hc' : ¬ ((!seen.toArray.isEmpty && !es'.isEmpty && es'.all (fun e => decide (e.born ≥ st))) = true) := by rw [hseen, hes, hall]; exact hcond
            have hleft := leftE_mem (seen := seen) g6
            have hlf : es'.filter (fun e => !seen.toArray.contains e.born) = (es'.toList.filter fun e => !seen.contains e.born).toArray := by
              cases es'; simp
            split at h
            · rename_i hl
              rw [hl] at hleft
              have hnil : es'.toList.filter (fun e => !seen.contains e.born) = [] := by
                cases hq : es'.toList.filter (fun e => !seen.contains e.born) with
                | nil => rfl
                | cons x l => rw [hq] at hleft; exact hleft.elim
              rw [hnil] at hlf
              refine ⟨.tuple #[.bool false], w, .inl ?_, goes_same hg h (tup_conc (concs_mk rfl rfl))⟩
              simp only [execOp, ho, h2, Instr.next, Sem.run_bind, hgo, Result.andThen_ok, hgm, Nat.zero_add]
              rw [if_neg hc']
              simp only [hlf]
              simp [choose, Question.forced, Sem.run]
            · rename_i hne
              split at h
              · rename_i hold
                obtain ⟨f1, f2⟩ := filter_new hleft hold
                have hpos : 0 < (es'.toList.filter fun e => !seen.contains e.born).length := by
                  rw [EntC.len hleft]; exact List.length_pos_iff.2 hne
                obtain ⟨j, m, hj, hch⟩ := choose_next (P := P) (w := w) hpos
                have hje := List.getElem?_eq_getElem hj
                obtain ⟨key, v, b0, hmem, hk1, hk2, hk3⟩ := hleft.get' hje
                obtain ⟨L', hL1, hL2⟩ := ways_mem h (key, v, b0) hmem
                have hold1 : (es'.toList.filter fun e => !seen.contains e.born).toArray.filter (fun e => decide (e.born < since)) = (es'.toList.filter fun e => !seen.contains e.born).toArray := by
                  rw [List.filter_toArray, f1]
                have hnew1 : (es'.toList.filter fun e => !seen.contains e.born).toArray.filter (fun e => decide (e.born ≥ since)) = #[] := by
                  rw [List.filter_toArray, f2]
                generalize (es'.toList.filter fun e => !seen.contains e.born) = lf at *
                have hemp : lf.toArray.isEmpty = false := by cases lf with
                  | nil => simp at hpos
                  | cons _ _ => rfl
                have hcand : ((if lf.toArray.isEmpty = true then #[none] else #[]) ++ Array.map some (lf.toArray ++ #[]) : Array (Option MapEntry)) = (lf.map some).toArray := by
                  rw [hemp]; simp
                have hset : ∀ o, (setObj kk o).run P { w with drawn := m } = .ok () { w with drawn := m, heap := w.heap.setIfInBounds kk o } := by
                  intro o
                  simp [setObj, Sem.run, g2]
                refine ⟨.tuple #[.bool true, lf[j].key, lf[j].val], { w with drawn := m, heap := w.heap.setIfInBounds kk (.mapIter (some k2) since (seen.toArray.push lf[j].born) c) }, .inl ?_, ?_⟩
                · simp only [execOp, ho, h2, Instr.next, Sem.run_bind, hgo, Result.andThen_ok, hgm, Nat.zero_add]
                  rw [if_neg hc']
                  simp only [hlf, hold1, hnew1, hcand]
                  simp only [List.size_toArray, List.length_map, Sem.run_bind, Sem.run_pure, Result.andThen_ok, hch]
                  simp only [List.getElem?_toArray, List.getElem?_map, hje, Option.map_some]
                  simp [hset]
                · have hlt : kk < w.heap.size := (Array.getElem?_eq_some_iff.1 g2).1
                  obtain ⟨q1, q2⟩ := hg.turn (g := hp H) (b := b) (w' := { w with drawn := m, heap := w.heap.setIfInBounds kk (.mapIter (some k2) since (seen.toArray.push lf[j].born) c) }) (ao' := .mit (some mb) since (seen ++ [b0]) c) hmit hb (o := .mapIter (some k2) since (seen.toArray.push lf[j].born) c) (by simp [hlt]) (fun q hq => by
                    show (w.heap.setIfInBounds kk _)[q]? = _
                    rw [Array.getElem?_setIfInBounds_ne (fun e => hq e.symm)]) (by simp) rfl rfl rfl
                    ⟨⟨(fun e => by cases e), (fun b' e => by injection e with e; subst e; exact ⟨k2, d2, x2, g3, rfl⟩)⟩, rfl, rfl, by rw [hk3]; simp, rfl⟩
                  refine ⟨_, n, _, L', ρ, hL1, hL2, tup_conc (concs_mk rfl (concs_mk hk1 (concs_mk hk2 rfl))), by rw [hp_set]; exact q1, by rw [hp_set]; exact q2, fun q hq => ?_⟩
                  rw [PT.get_set, if_neg (fun e => by subst e; have := Nat.le_of_ble_eq_true hlb; omega)]
              · cases h
        · cases h
      · cases h
    · cases h
  · cases h
theorem goes_put {v : AV} {u : Value} {n' : Pos} {H' : PT AO} {w' : World} {ρ' : Ren} (h : k v n' H' = some L) (hv : conc ρ' v = some u) (hn : Now lim ρ n H w ρ' n' H' w') : Goes lim k L ρ n H w u w' := ⟨v, n', H', L, ρ', h, fun _ hx => hx, hv, hn⟩
theorem freeze_facts (w : World) (a : Addr) (m : Nat) : (∀ q, q ≠ a.block → (w.freeze a m).heap[q]? = w.heap[q]?) ∧ (w.freeze a m).heap.size = w.heap.size ∧ (w.freeze a m).os = w.os ∧ (w.freeze a m).tape = w.tape ∧ (w.freeze a m).output = w.output := by
  unfold World.freeze
  split
  · exact ⟨fun _ _ => rfl, rfl, rfl, rfl, rfl⟩
  · exact ⟨fun q hq => by simp only [Array.getElem?_modify]; rw [if_neg (fun e => hq e.symm)], by simp, rfl, rfl, rfl⟩
theorem built_does {b : Builtin} {ts : Array TypeId} {ty : TypeId} {xs : List AV} {us : List Value} (h : builtK P lim b ts xs n H k = some L) (hln : lim.nat ≤ n.nat) (hg : Good ρ n (hp H) w) (hx : concs ρ xs = some us) :
    ∃ u w', (∀ cs, (builtin b ts ty cs us.toArray).run P w = .ok (.value u) w') ∧ Goes lim k L ρ n H w u w' := by
  have two : ∀ {x y : AV}, concs ρ [x, y] = some us → ∃ u v, us = [u, v] ∧ conc ρ x = some u ∧ conc ρ y = some v := by
    intro x y h
    obtain ⟨u, r, rfl, h1, h2⟩ := concs_cons h
    obtain ⟨v, r, rfl, h3, h4⟩ := concs_cons h2
    cases h4
    exact ⟨u, v, rfl, h1, h3⟩
  have tsl : ∀ {l : List TypeId}, ts.toList = l → ts = l.toArray := fun e => by rw [← e]
  unfold builtK at h
  split at h
  · rename_i t u s x hts
    split at h
    · rename_i hlim
      obtain ⟨us', ux, rfl, h1, h2⟩ := two hx
      obtain ⟨v, n', H', hk, hkp, hspec⟩ := appendK_some (ty := ty) h
      obtain ⟨ρ', y, w', q1, q2, q3, q4⟩ := hspec hg h1 h2
      rw [tsl hts]
      exact ⟨y, w', fun cs => by simp [builtin, q2], goes_put hk q1 ⟨q3, q4, okLim_keepN hlim hln hkp⟩⟩
    · cases h
  · rename_i t t2 d s hts
    split at h
    · rename_i hlim
      obtain ⟨us', ux, rfl, h1, h2⟩ := two hx
      obtain ⟨v, H', hk, hkp, hspec⟩ := copyK_some (P := P) (t2 := t2) (ty := ty) h
      obtain ⟨y, w', q1, q2, q3, q4⟩ := hspec hg h1 h2
      rw [tsl hts]
      exact ⟨y, w', fun cs => by simp [builtin, q2], goes_put hk q1 ⟨q3, q4, okLim_keep hlim hkp⟩⟩
    · cases h
  · rename_i t t2 m x hts
    split at h
    · rename_i hlim
      obtain ⟨us', ux, rfl, h1, h2⟩ := two hx
      obtain ⟨H', hk, hkp, hspec⟩ := delK_some (P := P) (t2 := t2) (ty := ty) h
      obtain ⟨w', q2, q3, q4⟩ := hspec hg h1 h2
      rw [tsl hts]
      exact ⟨undef, w', fun cs => by simp [builtin, q2], goes_put hk rfl ⟨q3, q4, okLim_keep hlim hkp⟩⟩
    · cases h
  · rename_i pt it x m hts
    obtain ⟨ux, um, rfl, h1, h2⟩ := two hx
    cases h2
    have hcal : ∀ cs v w1 w2, (Builtin.unsafeString_ #[pt, it] ty #[ux, .int .i64 m]).run P w1 = .ok v w2 → (builtin .unsafeString ts ty cs #[ux, .int .i64 m]).run P w1 = .ok (.value v) w2 := by
      intro cs v w1 w2 e
      rw [tsl hts]
      simp only [builtin, Sem.run_bind]
      rw [e]
      rfl
    unfold ustrK at h
    split at h
    · have hp : ∃ q, ux = Value.pointer q ∧ k (.str []) n H = some L := by
        split at h
        · cases h1; exact ⟨none, rfl, h⟩
        · obtain ⟨k', d', x', _, rfl⟩ := conc_ptr h1; exact ⟨_, rfl, h⟩
        · cases h
      obtain ⟨q, rfl, h⟩ := hp
      exact ⟨.string .empty, w, fun cs => hcal cs _ _ _ (Lib.run_unsafeString_none w pt it ty q), goes_same hg h rfl⟩
    · rename_i z
      split at h
      · rename_i b
        split at h
        · rename_i e cs rn df es e' hu hb
          split at h
          · rename_i hc
            simp only [Bool.and_eq_true] at hc
            obtain ⟨⟨⟨⟨c1, c2⟩, c3⟩, c4⟩, c5⟩ := hc
            have c1 := Nat.eq_of_beq_eq_true c1
            have c2 := Nat.eq_of_beq_eq_true c2
            have c3 := Nat.le_of_ble_eq_true c3
            rw [Nat.blt_eq] at c4
            have c5 := Nat.le_of_ble_eq_true c5
            subst c1
            split at h
            · rename_i l hl
              split at h
              · rename_i r hr
                rw [forceNL_eq, PT.delK_eq] at h
                obtain ⟨kk, d, xx, cc, t, fz, g1, g2, g3, g4⟩ := hg.cell (g := hp H) hb
                obtain ⟨k', d', x', g1', rfl⟩ := conc_ptr h1
                rw [g1] at g1'; injection g1' with g1'; injection g1' with t1 t2; injection t2 with t2 t3
                subst t1; subst t2
                obtain ⟨rfl, rfl⟩ := g3.2.2 e rfl
                obtain ⟨b1, b2⟩ := rdCells_len hl
                obtain ⟨r1, r2⟩ := byteL_conc (ρ := ρ) hr
                have hrl : r.length = z + 1 := by
                  have := concs_len r2
                  simp at this; omega
                have hsz : z + 1 ≤ cc.size := by
                  obtain ⟨v', y', f1, f2, f3, f4⟩ := g3.1 z (by omega)
                  have := (Array.getElem?_eq_some_iff.1 f3).1
                  omega
                have hrun := Lib.run_unsafeString_row (P := P) w pt it ty t hu c2 kk cc.size (by simp [World.shape?, g2]) (r.map UInt8.ofNat) (by intro e; have := congrArg List.length e; simp [hrl] at this) (by simp; omega) (by simp; omega) (fun j u hj => by
                  simp only [List.getElem?_map, Option.map_eq_some_iff] at hj
                  obtain ⟨q, hq, rfl⟩ := hj
                  have hjl : j < z + 1 := by rw [← hrl]; exact (List.getElem?_eq_some_iff.1 hq).1
                  obtain ⟨v', y', f1, f2, f3, f4⟩ := g3.1 j (by omega)
                  have e1 : l[j]? = some v' := by rw [b2 j hjl, Nat.zero_add]; exact f1
                  obtain ⟨y2, e2, e3⟩ := concs_get r2 e1
                  rw [f2] at e3; injection e3 with e3; subst e3
                  simp [hq] at e2
                  have hq256 : q < 256 := by
                    have := List.all_eq_true.1 r1 q (List.mem_of_getElem? hq)
                    simpa using this
                  have hc : w.cell? ⟨kk, j, none⟩ = some y' := by
                    rw [Nat.zero_add] at f3
                    simp [World.cell?, g2, f3]
                  rw [addr_add, Nat.zero_add, hc, ← e2]
                  simp [UInt8.toNat_ofNat', Nat.mod_eq_of_lt hq256])
                have hlen : (r.map UInt8.ofNat).length = z + 1 := by simp [hrl]
                rw [hlen] at hrun
                obtain ⟨f1, f2, f3, f4, f5⟩ := freeze_facts w ⟨kk, 0, none⟩ (z + 1)
                obtain ⟨q1, q2⟩ := hg.gone (g := hp H) hb g1 f1 f2 f3 f4 f5
                rw [← hp_del] at q1 q2
                refine ⟨_, _, fun cs => hcal cs _ _ _ hrun, .str r, n, _, L, ρ, h, fun _ hx => hx, ?_, q1, q2, fun q hq => ?_⟩
                · rw [str_conc r1]; rfl
                · rw [PT.get_del, if_neg (fun e => by subst e; omega)]
              · cases h
            · cases h
          · cases h
        · cases h
      · cases h
    · cases h
  · rename_i t m hts
    split at h
    · rename_i kt et es c hu hm
      rw [forceN_eq] at h
      obtain ⟨u, r, rfl, h1, h2⟩ := concs_cons hx
      cases h2
      obtain ⟨kk, d, x, es', g1, g2, g3⟩ := hg.ents (b := m) hm
      obtain ⟨k', d', x', g1', rfl⟩ := conc_map h1
      rw [g1] at g1'; injection g1' with g1'; injection g1' with t1 t2
      subst t1
      have hsz : es'.size = es.length := by rw [← g3.len]; simp
      rw [tsl hts]
      exact ⟨_, w, fun cs => by simp [builtin, Builtin.len_, run_underlying hu, run_getMap g2, goInt, hsz], goes_same hg h rfl⟩
    · cases h
  · split at h
    · rename_i v hv
      rw [forceV_eq] at h
      obtain ⟨y, h1, h2⟩ := run_pureCall (P := P) (ty := ty) hv hx
      exact ⟨y, w, fun cs => h2 cs w, goes_same hg h h1⟩
    · cases h
theorem ext_noEsc {fn : Func} (h : noEsc fn = true) : (fn.name == "runtime.NumGoroutine") = false ∧ Extern.findNext fn = none ∧ Extern.find fn = some Extern.AbiNoEscape.same := by
  unfold noEsc at h
  simp only [Bool.and_eq_true, beq_iff_eq] at h
  obtain ⟨h1, h2⟩ := h
  refine ⟨by rw [h1]; decide +kernel, ?_, ?_⟩
  · unfold Extern.findNext
    rw [h1, h2]
    rfl
  · unfold Extern.find
    rw [h1, h2]
    rfl
theorem run_callFunc_noEsc {P : Program} {f : FuncId} {fn : Func} (hf : P.funcs[f]? = some fn) (hb : fn.body = none) (h : noEsc fn = true) (u : Value) (w : World) : (callFunc f [u].toArray).run P w = .ok (.value u) w := by
  obtain ⟨h1, h2, h3⟩ := ext_noEsc h
  rw [run_callFunc_extern hf h1 (by rw [hb]; rfl) h2 h3]
  rfl
theorem opK_some {call : CallT} (hcall : CallOk P lim call) (h : opK P call lim a o.op n H k = some L) (hln : lim.nat ≤ n.nat) (hs : Slots ρ a A) (hg : Good ρ n (hp H) w)
    {next : Act → World → Prop} {Q : Exit → Act → World → Prop} (hn : ∀ u w', Goes lim k L ρ n H w u w' → next (A.put o.dst u) w') : o.wpIn (Fw r) 0 P A w next Q := by
  unfold opK at h
  split at h
  · rename_i x ho
    split at h
    · rename_i v hv
      exact (pure_does (o := o) (by unfold pureOp; rw [ho]; exact hv) h hs hg).wp hn
    · cases h
  · rename_i x ho
    split at h
    · rename_i v hv
      exact (pure_does (o := o) (by unfold pureOp; rw [ho]; exact hv) h hs hg).wp hn
    · cases h
  · rename_i t x ho
    split at h
    · rename_i xv hx
      split at h
      · rename_i v hv
        obtain ⟨u, h1, h2⟩ := ev_conc hs hx
        obtain ⟨y, h3, h4⟩ := run_loadA (P := P) hg hv h1
        exact (Does.wp ⟨y, w, .inl (by simp [execOp, ho, h2, h4]), goes_same hg h h3⟩ hn)
      · cases h
    · cases h
  · rename_i t x v ho
    split at h
    · rename_i xv vv hx hv
      split at h
      · rename_i hlim
        obtain ⟨ux, h1, h2⟩ := ev_conc hs hx
        obtain ⟨uv, h3, h4⟩ := ev_conc hs hv
        obtain ⟨H', hk, hkp, hspec⟩ := storeK_some (P := P) h
        obtain ⟨w', q2, q3, q4⟩ := hspec hg h3 h1
        exact (Does.wp ⟨undef, w', .inr ⟨by simp [execOp, ho, h2, h4, q2], rfl⟩, goes_put hk rfl ⟨q3, q4, okLim_keep hlim hkp⟩⟩ hn)
      · cases h
    · cases h
  · rename_i t m x ok ho
    split at h
    · rename_i mv xv hm hx
      split at h
      · rename_i v hv
        obtain ⟨um, h1, h2⟩ := ev_conc hs hm
        obtain ⟨ux, h3, h4⟩ := ev_conc hs hx
        obtain ⟨y, h5, h6⟩ := run_lookupA (P := P) hg hv h1 h3
        exact (Does.wp ⟨y, w, .inl (by simp [execOp, ho, h2, h4, h6]), goes_same hg h h5⟩ hn)
      · cases h
    · cases h
  · rename_i t m x v ho
    split at h
    · rename_i mv xv vv hm hx hv
      split at h
      · rename_i hlim
        obtain ⟨um, h1, h2⟩ := ev_conc hs hm
        obtain ⟨ux, h3, h4⟩ := ev_conc hs hx
        obtain ⟨uv, h5, h6⟩ := ev_conc hs hv
        obtain ⟨H', hk, hkp, hspec⟩ := updK_some (P := P) h
        obtain ⟨w', q2, q3, q4⟩ := hspec hg h1 h3 h5
        exact (Does.wp ⟨undef, w', .inr ⟨by simp [execOp, ho, h2, h4, h6, q2], rfl⟩, goes_put hk rfl ⟨q3, q4, okLim_keep hlim hkp⟩⟩ hn)
      · cases h
    · cases h
  · rename_i t m x ho
    split at h
    · rename_i mv xv hm hx
      split at h
      · rename_i hlim
        obtain ⟨um, h1, h2⟩ := ev_conc hs hm
        obtain ⟨ux, h3, h4⟩ := ev_conc hs hx
        obtain ⟨v, H', hk, hkp, hspec⟩ := entryK_some (P := P) h
        obtain ⟨u, w', q1, q2, q3, q4⟩ := hspec hg h1 h3
        exact (Does.wp ⟨u, w', .inl (by simp [execOp, ho, h2, h4, q2]), goes_put hk q1 ⟨q3, q4, okLim_keep hlim hkp⟩⟩ hn)
      · cases h
    · cases h
  · rename_i t m s v ho
    split at h
    · rename_i mv sv vv hm hx hv
      split at h
      · rename_i hlim
        obtain ⟨um, h1, h2⟩ := ev_conc hs hm
        obtain ⟨ux, h3, h4⟩ := ev_conc hs hx
        obtain ⟨uv, h5, h6⟩ := ev_conc hs hv
        obtain ⟨H', hk, hkp, hspec⟩ := stampK_some (P := P) (t := t) h
        obtain ⟨w', q2, q3, q4⟩ := hspec hg h1 h3 h5
        exact (Does.wp ⟨undef, w', .inr ⟨by simp [execOp, ho, h2, h4, h6, q2], rfl⟩, goes_put hk rfl ⟨q3, q4, okLim_keep hlim hkp⟩⟩ hn)
      · cases h
    · cases h
  · rename_i t x ho
    split at h
    · rename_i xv hx
      obtain ⟨ux, h1, h2⟩ := ev_conc hs hx
      obtain ⟨v, H', hk, hkp, hspec⟩ := rangeK_some (P := P) h
      obtain ⟨ρ', u, w', q1, q2, q3, q4⟩ := hspec hg h1
      refine (Does.wp ⟨u, w', .inl (by simp [execOp, ho, h2, q2]), goes_put hk q1 ⟨q3, q4, fun q hq => ?_⟩⟩ hn)
      exact hkp q (by simp [idOf]) (by omega)
    · cases h
  · rename_i x sflag ho
    split at h
    · cases h
    · rename_i hsf
      split at h
      · rename_i xv hx
        have ho' : o.op = .next x false := by rw [ho]; cases sflag <;> simp_all
        exact (next_does ho' hx h hln hs hg).wp hn
      · cases h
  · rename_i x ho
    split at h
    · rename_i xv hx
      split at h
      · rename_i v hv
        obtain ⟨ux, h1, h2⟩ := ev_conc hs hx
        obtain ⟨y, h5, h6⟩ := run_curA (P := P) hg hv h1
        exact (Does.wp ⟨y, w, .inl (by simp [execOp, ho, h2, h6]), goes_same hg h h5⟩ hn)
      · cases h
    · cases h
  · rename_i s d x ho
    split at h
    · rename_i xv hx
      obtain ⟨ux, h1, h2⟩ := ev_conc hs hx
      split at h
      · rename_i v hv
        rw [forceV_eq] at h
        obtain ⟨y, h3, h4⟩ := run_convA (P := P) hv h1
        exact (Does.wp ⟨y, w, .inl (by simp [execOp, ho, h2, h4]), goes_same hg h h3⟩ hn)
      · split at h
        · rename_i v hv
          rw [forceV_eq] at h
          obtain ⟨y, h3, h4⟩ := run_bytesA (P := P) hg hv h1
          exact (Does.wp ⟨y, w, .inl (by simp [execOp, ho, h2, h4]), goes_same hg h h3⟩ hn)
        · exact (alloc_does (o := o) (by rw [ho]; exact h) hln hs hg).wp hn
    · cases h
  · rename_i t ho; exact (alloc_does (o := o) (by rw [ho]; exact h) hln hs hg).wp hn
  · rename_i t x ho; exact (alloc_does (o := o) (by rw [ho]; exact h) hln hs hg).wp hn
  · rename_i t l ps ho; exact (alloc_does (o := o) (by rw [ho]; exact h) hln hs hg).wp hn
  · rename_i t r ho; exact (alloc_does (o := o) (by rw [ho]; exact h) hln hs hg).wp hn
  · rename_i t l c ho; exact (alloc_does (o := o) (by rw [ho]; exact h) hln hs hg).wp hn
  · rename_i c ho
    split at h
    · rename_i f hcf
      split at h
      · rename_i ff first cap args hf ha
        obtain ⟨uf, h1, h2⟩ := ev_conc hs hf
        obtain ⟨x, y, h3, h4, rfl⟩ := conc_fn h1
        have h5 := evAll_conc hs _ ha
        have hxs := concs_app (concs_app h3 h5) h4
        have harr : (x ++ c.args.toList.map A.eval ++ y).toArray = x.toArray ++ c.args.map A.eval ++ y.toArray := by
          rw [← arr_map]; simp
        unfold callE at h
        split at h
        case h_2 => cases h
        rename_i fn0 hfn0
        split at h
        case h_2 =>
          rename_i hb0
          split at h
          case isFalse => cases h
          rename_i hne
          split at h
          case h_2 => cases h
          rename_i v hv
          rw [hv] at hxs
          obtain ⟨uv, r, hur, hu1, hu2⟩ := concs_cons hxs
          cases hu2
          have hrun : (execOp A.eval o).run P w = .ok (.value uv) w := by
            simp only [execOp, ho, resolve, hcf, h2, Deferred.ofValue, invoke, Sem.run_bind, Sem.run_pure, Result.andThen_ok]
            rw [← harr, hur, run_callFunc_noEsc hfn0 hb0 hne]
          exact Oper.wp_value hrun (hn uv w (goes_same hg h hu1))
        obtain ⟨⟨fn, e1, e2, e3⟩, hc⟩ := hcall.1 _ _ _ _ _ _ h hln
        have hcs := hc ρ w _ hg hxs
        have hrun : (execOp A.eval o).run P w = .ok (.enter ff (x.toArray ++ c.args.map A.eval ++ y.toArray)) w := by
          have e2' : ¬ fn.name = "runtime.NumGoroutine" := by simpa using e2
          have e3' : ¬ fn.body = none := fun e => by rw [e] at e3; cases e3
          simp [execOp, ho, resolve, hcf, h2, Deferred.ofValue, invoke, callFunc, run_program, e1, e2', e3']
        rw [harr] at hcs
        refine ⟨fun _ _ => trivial, ?_⟩
        rw [Oper.semAt_eq _ _ _ (no_defer hrun (fun d e => by cases e)), hrun, Oper.uponIn_enter]
        refine ⟨(fun e => by cases e), CallsIn.mono (callsIn_fw hcs) ?_⟩
        rintro e w' ⟨u, rfl, hgo⟩
        exact hn u w' hgo
      · rename_i b args hf ha
        obtain ⟨uf, h1, h2⟩ := ev_conc hs hf
        have h5 := evAll_conc hs _ ha
        obtain ⟨kk, d, x, hb, fn, tmps, assign, body, hy, hR⟩ := hcall.2 _ _ _ _ _ _ h hln r ρ w _ hg h5
        unfold conc at h1
        rw [hb] at h1
        injection h1 with h1
        subst h1
        rw [arr_map] at hy
        have hrun : (execOp A.eval o).run P w = .ok (.round kk fn tmps assign body) w := by
          simp [execOp, ho, resolve, hcf, h2, Deferred.ofValue, invoke, hy]
        refine ⟨fun _ _ => trivial, ?_⟩
        rw [Oper.semAt_eq _ _ _ (no_defer hrun (fun d e => by cases e)), hrun, Oper.uponIn_round]
        refine ⟨(fun e => by cases e), RoundIn.mono hR ?_⟩
        rintro e w' ⟨u, rfl, hgo⟩
        exact hn u w' hgo
      · cases h
    · rename_i b hcf
      split at h
      · rename_i xs hx
        obtain ⟨u, w', q1, q2⟩ := built_does (P := P) (ty := o.type) h hln hg (evAll_conc hs _ hx)
        rw [arr_map] at q1
        refine Does.wp ⟨u, w', .inl ?_, q2⟩ hn
        simp only [execOp, ho, resolve, hcf, Sem.run_bind, Sem.run_pure, Result.andThen_ok, invoke, q1]
      · cases h
    · cases h
  · split at h
    · rename_i v hv
      rw [forceV_eq] at h
      exact (pure_does hv h hs hg).wp hn
    · cases h
end
end Go.Proofs.Ytlpnhikoipkjbaa.Abs
