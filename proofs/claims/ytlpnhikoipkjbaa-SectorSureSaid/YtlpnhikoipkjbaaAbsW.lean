/- The interpreter's runs are the model's: calls and code, all together (regions that draw their order: a hypothesis). No conditions. -/
import Derived.Test.YtlpnhikoipkjbaaAbsVa
import Derived.LoopNIn
set_option linter.unusedVariables false
namespace Go.Proofs.Ytlpnhikoipkjbaa.Abs
open Go Go.RowKit
section
variable {P : Program} {J : Plan}
theorem wrK_init (args : List AV) (nt : Nat) (k : PT AV → Res) : wrK args 0 (initF nt) k = k (fillT args 0 (initF nt)) := wrK_eq args 0 (initF nt) k
/-- a block that no abstract one names may turn -/
theorem Now.putD {lim : Pos} {ρ ρ' : Ren} {n n' : Pos} {H H' : PT AO} {w w' : World} {d : Nat} {o : Obj} (h : Now lim ρ n H w ρ' n' H' w') (hd : w.heap.size ≤ d) (hu : ∀ b ao d' x, hp H' b = some ao → ρ'.at_ b ≠ some (d, d', x)) : Now lim ρ n H w ρ' n' H' (w'.putObj d o) := by
  have hk : ∀ k, k ≠ d → (w'.putObj d o).heap[k]? = w'.heap[k]? := fun k hk => World.putObj_heap_other hk
  refine ⟨⟨fun b ao e => ?_, h.good.inj, h.good.fresh⟩, ⟨h.fr.le, h.fr.num, h.fr.old, h.fr.os, h.fr.tape, h.fr.output, by rw [World.putObj_size]; exact h.fr.size, fun k hlt hn => (hk k (by omega)).trans (h.fr.block k hlt hn), h.fr.new, h.fr.dom⟩, h.keep⟩
  obtain ⟨k, d', x, ob, h1, h2, h3⟩ := h.good.rep b ao e
  exact ⟨k, d', x, ob, h1, (hk k (fun e' => hu b ao d' x e (by rw [← e']; exact h1))).trans h2, h3⟩
theorem MarksOk.putD {ρ : Ren} {g : Hp} {w : World} {sz d : Nat} {o : Obj} : ∀ {ms : List Deferred}, MarksOk ρ g w sz ms → (∀ e, ({ target := .collected e, args := #[] } : Deferred) ∈ ms → e ≠ d) → MarksOk ρ g (w.putObj d o) sz ms
  | [], _, _ => trivial
  | m :: ms, ⟨⟨e, h1, h2, h3, h4, h5⟩, h6⟩, hne => ⟨⟨e, h1, h2, (World.putObj_heap_other (hne e (by rw [h1]; simp))).trans h3, h4, h5⟩, h6.putD (fun e' he' => hne e' (by simp [he']))⟩
theorem leaves_marks {lim : Pos} {fn : Func} {tmps : Array Value} {R : Ending → World → Prop} {ρ ρ' : Ren} {n n' : Pos} {H H' : PT AO} {w : World} (hR : ∀ w', Now lim ρ n H w ρ' n' H' w' → ∃ v, (results fn tmps).run P w' = .ok v w' ∧ R (.returned v) w') :
    ∀ (ms : List Deferred) (w' : World), Now lim ρ n H w ρ' n' H' w' → MarksOk ρ' (hp H') w' w.heap.size ms → LeavesInM (Fw none) 0 P fn tmps R ms .returning w'
  | [], w', hN, _ => hR w' hN
  | m :: ms, w', hN, ⟨⟨d, h1, h2, h3, h4, h5⟩, h6⟩ => ⟨(fun e => by cases e), .inl ⟨d, w'.putObj d (.deferred none), by rw [h1], run_takeDeferred h3, leaves_marks hR ms _ (hN.putD h2 h4) (h6.putD h5)⟩⟩
/-- what a body leaves as a call's outcome -/
theorem body_out {lim : Pos} {fn : Func} {k : AV → Pos → PT AO → Res} {L : List Out} {ρ : Ren} {n : Pos} {H : PT AO} {w : World} {A : Act} {R : Ending → World → Prop} (hd : A.defers = [])
    (hR : ∀ u w', Goes lim k L ρ n H w u w' → R (.returned u) w') {e : Exit} {A' : Act} {w' : World} (h : GoesE lim (retK P fn k) L ρ n H w A e A' w') : bodyPostM (Fw none) 0 P fn R e A' w' := by
  obtain ⟨e', rfl, a', n', H', L', ρ', h1, h2, h3, ⟨ms, h4, h6⟩, h5⟩ := h
  have main : ∀ l, resA P a' H' fn.results.toList = some l → (match l with | [v] => k v n' H' | l => forceL l fun l => k (.tup l) n' H') = some L' → LeavesInM (Fw none) 0 P fn A'.tmps R A'.defers .returning w' := by
    intro l hl hk
    rw [h4, hd, List.append_nil]
    refine leaves_marks ?_ ms w' h5 h6
    intro w2 h5
    obtain ⟨us, g1, g2⟩ := results_run h3 h5.good hl
    refine ⟨_, g2, hR _ _ ?_⟩
    match l, us, g1, hk with
    | [], us, g1, hk => cases g1; exact ⟨.tup [], n', H', L', ρ', hk, h2, rfl, h5⟩
    | [v], us, g1, hk =>
      obtain ⟨y, ys, rfl, f1, f2⟩ := concs_cons g1
      cases f2
      exact ⟨v, n', H', L', ρ', hk, h2, f1, h5⟩
    | v :: v2 :: r, us, g1, hk =>
      obtain ⟨y, ys, rfl, f1, f2⟩ := concs_cons g1
      obtain ⟨y2, ys2, rfl, f3, f4⟩ := concs_cons f2
      have hk : forceL (v :: v2 :: r) (fun l => k (.tup l) n' H') = some L' := hk
      rw [forceL_eq] at hk
      exact ⟨.tup (v :: v2 :: r), n', H', L', ρ', hk, h2, tup_conc g1, h5⟩
  unfold retK at h1
  cases e' with
  | exit id => cases h1
  | nrm =>
    simp only at h1
    split at h1
    · rename_i v hv; exact main _ hv h1
    · rename_i l hne hl
      refine main l hl ?_
      match l, hne with
      | [], _ => exact h1
      | [v], hne => exact (hne v rfl).elim
      | v :: v2 :: r, _ => exact h1
    · cases h1
  | ret =>
    simp only at h1
    split at h1
    · rename_i v hv; exact main _ hv h1
    · rename_i l hne hl
      refine main l hl ?_
      match l, hne with
      | [], _ => exact h1
      | [v], hne => exact (hne v rfl).elim
      | v :: v2 :: r, _ => exact h1
    · cases h1
/-- a round -/
theorem yield_ok {ex : ExecT} (hex : ExecOk P ex) (lim : Pos) (b : Pos) (args : List AV) (n : Pos) (H : PT AO) (k : AV → Pos → PT AO → Res) (L : List Out) (h : yieldK P ex lim b args n H k = some L) (hln : lim.nat ≤ n.nat)
    (r : Option Nat) (ρ : Ren) (w : World) (us : List Value) (hg : Good ρ n (hp H) w) (hus : concs ρ args = some us) :
    ∃ kk d x, ρ.at_ b = some (kk, d, x) ∧ YieldAt (Fw r) 0 P kk us.toArray w fun e w' => ∃ u, e = .returned u ∧ Goes lim k L ρ n H w u w' := by
  unfold yieldK at h
  split at h
  · rename_i a ps assign body pend hb
    split at h
    · rename_i hc
      simp only [Bool.and_eq_true] at hc
      obtain ⟨⟨hlb, hna⟩, hnb⟩ := hc
      have hlb := Nat.le_of_ble_eq_true hlb
      have hb' : hp H b = some (.loop a ps assign body true pend) := hb
      obtain ⟨kk, d, x, o, h1, h2, h3⟩ := hg.rep b _ hb'
      cases o with
      | loop rec =>
        obtain ⟨rfl, r1, r2, r3, r4, r5, r6⟩ := h3
        rw [PT.delK_eq] at h
        have hsl : Slots ρ a { tmps := rec.tmps, defers := [] } := r6
        obtain ⟨hlen, a1, h4, h5⟩ := layK_some h hus hsl
        have hgd : Good ρ n (hp (PT.del b H)) w := by rw [hp_del]; exact hg.unname b
        have hund : ∀ b' ao' d' x', hp (PT.del b H) b' = some ao' → ρ.at_ b' ≠ some (kk, d', x') := by rw [hp_del]; exact hg.unnamed hb' h1
        have hle : Hp.le (hp (PT.del b H)) (hp H) := by rw [hp_del]; exact del_le _ _
        have hrst : rec.state = .ready := r4
        have hps : us.toArray.size = rec.params.size := by
          rw [← Array.length_toList, ← Array.length_toList, r1]; simpa using hlen.symm
        refine ⟨kk, 0, x, h1, rec.fn, _, rec.assign, rec.body, run_yield h2 hps, roundIn_of_wpIn trivial ?_⟩
        have htm : (rec.params.zip us.toArray).foldl (fun tmps (t, a) => tmps.setIfInBounds t a) rec.tmps = (ps.zip us).foldl (fun tmps x => tmps.setIfInBounds x.1 x.2) rec.tmps := by
          rw [← Array.foldl_toList, Array.toList_zip, r1]
        rw [htm, r2, r3]
        refine wpIn_mono (hex lim assign a1 n _ _ L h4 hln (some kk) (.inr hna) ρ _ w h5 hgd) ?_
        rintro e A' w' ⟨e', rfl, a', n', H', L', ρ', g1, g2, g3, ⟨ms, g4, g5⟩, g6⟩
        cases e' with
        | exit i => cases g1
        | ret => cases g1
        | nrm =>
          obtain ⟨u1, u2⟩ := g6.fr.unnamed h2 hund
          have hlt := (Array.getElem?_eq_some_iff.1 u1).1
          refine ⟨_, run_beginRound u1 hrst, ?_⟩
          have hw2 := World.putObj_heap_same (w := w') (o := .loop { rec with state := .busy }) hlt
          have hg2 := g6.good.putU (.loop { rec with state := .busy }) u2
          have hF2 : Fr ρ n (hp H) w ρ' n' (hp H') (w'.putObj kk (.loop { rec with state := .busy })) := (g6.fr.widen hle).put _ (.inr ⟨b, _, 0, x, hb', h1⟩)
          generalize w'.putObj kk (.loop { rec with state := .busy }) = w2 at hw2 hg2 hF2
          have g1 : ex lim body a' n' H' (endK b a ps assign body k) = some L' := g1
          refine wpIn_mono (hex lim body a' n' H' _ L' g1 (Nat.le_trans hln g6.fr.num) (some kk) (.inr hnb) ρ' A' w2 g3 hg2) ?_
          rintro e A2 w3 ⟨e2, rfl, a2, n3, H3, L3, ρ3, f1, f2, f3, f4, f5⟩
          obtain ⟨v1, v2⟩ := f5.fr.unnamed hw2 u2
          have hlt3 := (Array.getElem?_eq_some_iff.1 v1).1
          have hat : ρ3.at_ b = some (kk, 0, x) := f5.fr.le.at_ _ _ (g6.fr.le.at_ _ _ h1)
          have fin : ∀ (jump : Option Code) (st : Bool) (pd : Option (Option Nat)) (bv : Bool), jump = pendC pd → (if jump.isNone then LoopState.ready else .done) = (if st then .ready else .done) → jump.isNone = bv → PT.setK (.loop a ps assign body st pd) b H3 (fun H => k (.bool bv) n3 H) = some L3 →
              ∃ v w4, (Instr.endRound kk jump).run P w3 = .ok v w4 ∧ ∃ u, Ending.returned v = .returned u ∧ Goes lim k L ρ n H w u w4 := by
            intro jump st pd bv hj hst hbv hk
            rw [PT.setK_eq] at hk
            refine ⟨_, _, run_endRound jump v1, _, rfl, .bool bv, n3, _, L3, ρ3, hk, fun y hy => g2 y (f2 y hy), by rw [hbv]; rfl, ?_, ?_, fun q hq => ?_⟩
            · rw [hp_set]
              refine (f5.good.putU _ v2).name hat (World.putObj_heap_same hlt3) v2 ⟨rfl, r1, r2, r3, hst, hj, ?_⟩
              exact fun t v e => let ⟨y, e1, e2⟩ := r6 t v e; ⟨y, conc_le (g6.fr.le.trans f5.fr.le) _ e1, e2⟩
            · rw [hp_set]
              exact ((hF2.trans f5.fr).put _ (.inr ⟨b, _, 0, x, hb', h1⟩)).name hb' h1
            · rw [PT.get_set, if_neg (fun e => by subst e; omega), f5.keep q hq, g6.keep q hq, PT.get_del, if_neg (fun e => by subst e; omega)]
          cases e2 with
          | nrm => exact fin none true none true rfl rfl rfl f1
          | ret => exact fin (some .ret) false (some none) false rfl rfl rfl f1
          | exit i => exact fin (some (.exit i)) false (some (some i)) false rfl rfl rfl f1
      | _ => exact h3.elim
    · cases h
  · cases h
/-- the laws that answer calls hold -/
def HookOk (P : Program) (J : Plan) : Prop :=
  ∀ f args v, J.hook f args = some v → ∀ (ρ : Ren) (us : List Value) (w : World), concs ρ args = some us → ∃ u, conc ρ v = some u ∧ Calls P f us.toArray w fun e w' => e = .returned u ∧ Below w.heap.size w w'
theorem Good.below {ρ : Ren} {n : Pos} {g : Hp} {w w' : World} (h : Good ρ n g w) (hb : Below w.heap.size w w') : Good ρ n g w' ∧ Fr ρ n g w ρ n g w' := by
  refine ⟨⟨fun b ao e => ?_, h.inj, h.fresh⟩, ⟨.refl _, Nat.le_refl _, fun _ _ => rfl, hb.os, hb.tape, hb.output, hb.size, fun k hk _ => hb.block k hk, fun b ao k d x e1 e2 => .inr ⟨b, ao, d, x, e1, e2⟩, fun b ao e => .inl ⟨ao, e⟩⟩⟩
  obtain ⟨k, d, x, o, h1, h2, h3⟩ := h.rep b ao e
  exact ⟨k, d, x, o, h1, (hb.block k (Array.getElem?_eq_some_iff.1 h2).1).trans h2, h3⟩
theorem callK_ok (hX : HookOk P J) {ex : ExecT} (hex : ExecOk P ex) (lim : Pos) : CallOk P lim (tgtK P J ex lim) := by
  refine ⟨?_, fun b args n H k L h hln r ρ w us hg hus => yield_ok hex lim b args n H k L h hln r ρ w us hg hus⟩
  intro f args n H k L h hln
  change callK P J ex lim f args n H k = some L at h
  unfold callK at h
  split at h
  · rename_i fn hf
    split at h
    · rename_i c hb
      split at h
      · cases h
      · rename_i hnm
        refine ⟨⟨fn, hf, by simpa using hnm, by rw [hb]; rfl⟩, fun ρ w us hg hus => ?_⟩
        split at h
        · rename_i v hv
          rw [forceV_eq] at h
          obtain ⟨u, h1, h2⟩ := hX f args v hv ρ us w hus
          refine h2.mono ?_
          rintro e w' ⟨rfl, hbl⟩
          obtain ⟨q1, q2⟩ := hg.below hbl
          exact ⟨u, rfl, v, n, H, L, ρ, h, fun _ hx => hx, h1, q1, q2, fun _ _ => rfl⟩
        have hs := initF_slots (nt := fn.ntmps) hus
        split at h
        · rw [wrK_init] at h
          split at h
          · rename_i L0 hL0
            refine (callsIn_wide (n := 0)).1 (callsIn_of_wp_marks (F := Fw none) hf hb trivial (wpIn_mono (hex n c _ n H _ L0 hL0 (Nat.le_refl _) none (.inl rfl) ρ _ w hs hg) ?_) rfl)
            intro e A' w' hgo
            refine body_out rfl ?_ hgo
            rintro u w2 ⟨v, n', H', L', ρ', h1, h2, h3, h4⟩
            injection h1 with h1
            refine ⟨u, rfl, alikeK_some h hln hg (h2 (v, n', H') (by rw [← h1]; simp)) h3 h4⟩
          · cases h
        · rw [wrK_init] at h
          refine (callsIn_wide (n := 0)).1 (callsIn_of_wp_marks (F := Fw none) hf hb trivial (wpIn_mono (hex lim c _ n H _ L h hln none (.inl rfl) ρ _ w hs hg) ?_) rfl)
          intro e A' w' hgo
          exact body_out rfl (fun u w2 hgo => ⟨u, rfl, hgo⟩) hgo
    · cases h
  · cases h
theorem range_ok (hX : HookOk P J) {ex : ExecT} (hex : ExecOk P ex) {lim : Pos} {g : Operand} {ps : Array Tmp} {assign body : Code} {a : PT AV} {n : Pos} {H : PT AO} {k : Ex → PT AV → Pos → PT AO → Res} {L : List Out}
    (h : rangeFK (tgtK P J ex lim) g ps.toList assign body a n H k = some L) (hln : lim.nat ≤ n.nat) {ρ : Ren} {A : Act} {w : World} (hs : Slots ρ a A) (hg : Good ρ n (hp H) w) :
    (Code.rangeFunc g ps assign body).wpIn (Fw none) 0 P (GoesE lim k L ρ n H w A) A w := by
  unfold rangeFK at h
  split at h
  · rename_i f cap hf
    obtain ⟨uf, e1, e2⟩ := ev_conc hs hf
    obtain ⟨x, y, e3, e4, rfl⟩ := conc_fn e1
    cases e3
    rw [PT.setK_eq] at h
    have hD := World.alloc_heap_new w (.deferred (some []))
    have hgD := hg.allocU (.deferred (some []))
    have hnD := hg.newU
    have hFD := (Fr.refl ρ n (hp H) w hg.ids).allocU (.deferred (some []))
    have hzD : (w.alloc (.deferred (some []))).heap.size = w.heap.size + 1 := by simp
    refine wpIn_rangeFunc ?_
    intro fn _
    obtain ⟨rec, hrec⟩ : ∃ rec : Loop, rec = { state := .ready, pending := none, fn := fn, tmps := A.tmps, params := ps, assign, body, defers := w.heap.size } := ⟨_, rfl⟩
    have he : (Instr.enterLoop fn A.tmps ps assign body none).run P w = .ok (w.heap.size + 1, [{ target := .collected w.heap.size, args := #[] }]) ((w.alloc (.deferred (some []))).alloc (.loop rec)) := by
      rw [hrec]; exact run_enterLoop_outer _ _ _ _ _
    generalize hwD : w.alloc (.deferred (some [])) = wD at *
    have hle := Ren.le_put (wD.heap.size, 0, 0) (hgD.fresh n (Nat.le_refl _))
    have hobj : ObjC (ρ.put n (wD.heap.size, 0, 0)) 0 0 (.loop a ps.toList assign body true none) (.loop rec) := by
      rw [hrec]
      exact ⟨rfl, rfl, rfl, rfl, rfl, rfl, (hs.le hle)⟩
    obtain ⟨hg1, hF1⟩ := hgD.alloc (.loop a ps.toList assign body true none) (.loop rec) 0 hobj
    have hat1 : (ρ.put n (wD.heap.size, 0, 0)).at_ n = some (wD.heap.size, 0, 0) := Ren.put_at _ _ _
    have hF01 := hFD.trans hF1
    have hD1 := hF1.unnamed hD hnD
    generalize ρ.put n (wD.heap.size, 0, 0) = ρ1 at *
    generalize hw1 : wD.alloc (.loop rec) = w1 at *
    rw [← hp_set] at hg1 hF1 hF01 hD1
    have hln1 : lim.nat ≤ n.succ.nat := Nat.le_trans hln (Nat.le_of_lt (Pos.lt_succ n))
    obtain ⟨⟨fn', q1, q2, q3⟩, hc⟩ := (callK_ok hX hex lim).1 f _ _ _ _ L h hln1
    have harg : concs ρ1 (.yld n :: cap) = some (.func (.yield (w.heap.size + 1)) #[] #[] :: y) := by
      refine concs_mk ?_ (concs_le hle _ e4)
      unfold conc
      rw [hat1, hzD]
    have hcs := hc ρ1 w1 _ hg1 harg
    have enters : (callFunc f (.func (.yield (w.heap.size + 1)) #[] #[] :: y).toArray).run P w1 = .ok (.enter f (.func (.yield (w.heap.size + 1)) #[] #[] :: y).toArray) w1 := by
      have e2' : ¬ fn'.name = "runtime.NumGoroutine" := by simpa using q2
      have e3' : ¬ fn'.body = none := fun e => by rw [e] at q3; cases q3
      simp [callFunc, run_program, q1, e2', e3']
    refine ⟨w.heap.size + 1, [{ target := .collected w.heap.size, args := #[] }], w1, { target := .fn (.func f) y.toArray, args := #[.func (.yield (w.heap.size + 1)) #[] #[]] }, w1, f, (.func (.yield (w.heap.size + 1)) #[] #[] :: y).toArray, w1, ?a1, ?a2, ?a3, ?a4, ?a5, ?a6⟩
    case a1 => exact he
    case a2 =>
      simp only [resolve, e2]
      simp [go_sem]
    case a3 =>
      intro _ _
      trivial
    case a4 =>
      have : (#[Value.func (.yield (w.heap.size + 1)) #[] #[]] ++ y.toArray) = (.func (.yield (w.heap.size + 1)) #[] #[] :: y).toArray := by simp
      simp only [invoke, this, enters]
    case a5 => intro h; cases h
    case a6 =>
      refine CallsIn.mono (callsIn_fw hcs) ?_
      rintro e w2 ⟨u, rfl, v, n', H', L', ρ', g1, g2, g3, g4⟩
      have hat2 : ρ'.at_ n = some (w.heap.size + 1, 0, 0) := by rw [← hzD]; exact g4.fr.le.at_ _ _ hat1
      obtain ⟨hD2, hD3⟩ := g4.fr.unnamed hD1.1 hD1.2
      unfold doneK at g1
      split at g1
      · rename_i a0 ps0 as0 bd0 st pend hb
        obtain ⟨kk, d, x, o, h1, h2, h3⟩ := g4.good.rep n _ hb
        rw [hat2] at h1
        injection h1 with h1; injection h1 with h1 h1'
        subst h1
        cases o with
        | loop r2 =>
          obtain ⟨_, r1, r2', r3, r4, r5, r6⟩ := h3
          have hbusy : r2.state ≠ .busy := by rw [r4]; cases st <;> simp
          have hund := g4.good.unnamed hb hat2
          rw [← hp_del] at hund
          have hle2 : Hp.le (hp (PT.del n H')) (hp H') := by rw [hp_del]; exact del_le _ _
          rw [PT.delK_eq] at g1
          have hN : Now lim ρ n H w ρ' n' (PT.del n H') (w2.putObj (w.heap.size + 1) (.loop { r2 with state := .exhausted })) := by
            refine ⟨(g4.good.sub hle2).putU _ hund, ((hF01.trans g4.fr).less hle2).put _ (.inl (by omega)), fun q hq => ?_⟩
            rw [PT.get_del, if_neg (fun e => by subst e; omega), g4.keep q hq, PT.get_set, if_neg (fun e => by subst e; omega)]
          have hMk : ∃ ms, ({ A with defers := [{ target := .collected w.heap.size, args := #[] }] ++ A.defers } : Act).defers = ms ++ A.defers ∧ MarksOk ρ' (hp (PT.del n H')) (w2.putObj (w.heap.size + 1) (.loop { r2 with state := .exhausted })) w.heap.size ms :=
            ⟨[{ target := .collected w.heap.size, args := #[] }], rfl, ⟨w.heap.size, rfl, Nat.le_refl _, (World.putObj_heap_other (by omega)).trans hD2, fun b ao d' x e => hD3 b ao d' x (hle2 _ _ e), fun e he => by cases he⟩, trivial⟩
          have hs2 : Slots ρ' a { A with defers := [{ target := .collected w.heap.size, args := #[] }] ++ A.defers } := hs.le (hF01.trans g4.fr).le
          refine ⟨r2.pending, _, run_endLoop h2 hbusy, ?_⟩
          generalize w2.putObj (w.heap.size + 1) (.loop { r2 with state := .exhausted }) = w3 at hN hMk ⊢
          rw [r5]
          cases pend with
          | none => exact ⟨.nrm, rfl, a, n', _, L', ρ', g1, g2, hs2, hMk, hN⟩
          | some c =>
            cases c with
            | none => exact wpIn_ret ⟨.ret, rfl, a, n', _, L', ρ', g1, g2, hs2, hMk, hN⟩
            | some i => exact wpIn_exit ⟨.exit i, rfl, a, n', _, L', ρ', g1, g2, hs2, hMk, hN⟩
        | _ => exact h3.elim
      · cases g1
  · cases h
theorem exec_both (hX : HookOk P J) (hD : DrawOk P) : ∀ f, ExecOk P (exec P J f) ∧
    ∀ lim b a n H k L, exec P J f lim (.loop b) a n H k = some L → lim.nat ≤ n.nat → ∀ (r : Option Nat), r = none ∨ noRF b = true → ∀ (ρ : Ren) (A : Act) (w : World), Slots ρ a A → Good ρ n (hp H) w → ∀ Q : Exit → Act → World → Prop, (∀ e A' w', GoesE lim k L ρ n H w A e A' w' → Q e A' w') → Code.roundsIn (Fw r) 0 P b Q f A w
  | 0 => ⟨(fun lim c a n H k L h => by cases h), (fun lim b a n H k L h => by cases h)⟩
  | f + 1 => by
    obtain ⟨ihA, ihB⟩ := exec_both hX hD f
    have hB : ∀ lim b a n H k L, exec P J (f + 1) lim (.loop b) a n H k = some L → lim.nat ≤ n.nat → ∀ (r : Option Nat), r = none ∨ noRF b = true → ∀ (ρ : Ren) (A : Act) (w : World), Slots ρ a A → Good ρ n (hp H) w → ∀ Q : Exit → Act → World → Prop, (∀ e A' w', GoesE lim k L ρ n H w A e A' w' → Q e A' w') → Code.roundsIn (Fw r) 0 P b Q (f + 1) A w := by
      intro lim b a n H k L h hln r hr ρ A w hs hg Q hQ
      have h' : exec P J f lim b a n H (fun e a n H => (match e with | .nrm => exec P J f lim (.loop b) a n H k | e => k e a n H)) = some L := h
      refine wpIn_mono (ihA lim b a n H _ L h' hln r hr ρ A w hs hg) ?_
      rintro e A' w' ⟨e', rfl, a', n', H', L', ρ', h1, h2, h3, h4, h5⟩
      cases e' with
      | nrm =>
        refine ihB lim b a' n' H' k L' h1 (Nat.le_trans hln h5.fr.num) r hr ρ' A' w' h3 h5.good Q ?_
        intro e A2 w2 hgo
        exact hQ e A2 w2 (hgo.step h5 h4 h2)
      | exit id => exact hQ _ A' w' ⟨.exit id, rfl, a', n', H', L', ρ', h1, h2, h3, h4, h5⟩
      | ret => exact hQ _ A' w' ⟨.ret, rfl, a', n', H', L', ρ', h1, h2, h3, h4, h5⟩
    refine ⟨?_, hB⟩
    intro lim c a n H k L h hln r hr ρ A w hs hg
    cases c with
    | skip => exact wpIn_skip ⟨.nrm, rfl, a, n, H, L, ρ, h, fun _ hx => hx, hs, marks0 rfl, Now.refl hg⟩
    | exit id => exact wpIn_exit ⟨.exit id, rfl, a, n, H, L, ρ, h, fun _ hx => hx, hs, marks0 rfl, Now.refl hg⟩
    | ret => exact wpIn_ret ⟨.ret, rfl, a, n, H, L, ρ, h, fun _ hx => hx, hs, marks0 rfl, Now.refl hg⟩
    | label l => exact wpIn_label ⟨.nrm, rfl, a, n, H, L, ρ, h, fun _ hx => hx, hs, marks0 rfl, Now.refl hg⟩
    | scope b =>
      refine wpIn_scope (wpIn_mono (ihA lim b a n H k L h hln r (hr.imp (fun e => e) fun e => e) ρ A w hs hg) ?_)
      intro e A' w' hgo
      refine ⟨fun l hl => ?_, hgo⟩
      obtain ⟨e', h1, _⟩ := hgo
      rw [h1] at hl
      cases e' <;> cases hl
    | seq x y =>
      have hrx : r = none ∨ noRF x = true := hr.imp id (fun e => by simp only [noRF, Bool.and_eq_true] at e; exact e.1)
      have hry : r = none ∨ noRF y = true := hr.imp id (fun e => by simp only [noRF, Bool.and_eq_true] at e; exact e.2)
      have h' : exec P J f lim x a n H (fun e a n H => (match e with | .nrm => exec P J f lim y a n H k | e => k e a n H)) = some L := h
      refine wpIn_seq (wpIn_mono (ihA lim x a n H _ L h' hln r hrx ρ A w hs hg) ?_)
      rintro e A' w' ⟨e', rfl, a', n', H', L', ρ', h1, h2, h3, h4, h5⟩
      cases e' with
      | nrm =>
        refine wpIn_mono (ihA lim y a' n' H' k L' h1 (Nat.le_trans hln h5.fr.num) r hry ρ' A' w' h3 h5.good) ?_
        intro e A2 w2 hgo
        exact hgo.step h5 h4 h2
      | exit id => exact ⟨.exit id, rfl, a', n', H', L', ρ', h1, h2, h3, h4, h5⟩
      | ret => exact ⟨.ret, rfl, a', n', H', L', ρ', h1, h2, h3, h4, h5⟩
    | cond c x y =>
      have hrx : r = none ∨ noRF x = true := hr.imp id (fun e => by simp only [noRF, Bool.and_eq_true] at e; exact e.1)
      have hry : r = none ∨ noRF y = true := hr.imp id (fun e => by simp only [noRF, Bool.and_eq_true] at e; exact e.2)
      have h' : (match ev a c with | some (.bool true) => exec P J f lim x a n H k | some (.bool false) => exec P J f lim y a n H k | _ => none) = some L := h
      split at h'
      · rename_i hc
        obtain ⟨u, e1, e2⟩ := ev_conc hs hc
        cases e1
        exact wpIn_cond_true e2 (ihA lim x a n H k L h' hln r hrx ρ A w hs hg)
      · rename_i hc
        obtain ⟨u, e1, e2⟩ := ev_conc hs hc
        cases e1
        exact wpIn_cond_false e2 (ihA lim y a n H k L h' hln r hry ρ A w hs hg)
      · cases h'
    | block id b =>
      have h' : exec P J f lim b a n H (fun e a n H => (match e with | .exit j => if Nat.beq j id then k .nrm a n H else k (.exit j) a n H | e => k e a n H)) = some L := h
      refine wpIn_block (wpIn_mono (ihA lim b a n H _ L h' hln r (hr.imp (fun e => e) fun e => e) ρ A w hs hg) ?_)
      rintro e A' w' ⟨e', rfl, a', n', H', L', ρ', h1, h2, h3, h4, h5⟩
      cases e' with
      | nrm => exact ⟨.nrm, rfl, a', n', H', L', ρ', h1, h2, h3, h4, h5⟩
      | ret => exact ⟨.ret, rfl, a', n', H', L', ρ', h1, h2, h3, h4, h5⟩
      | exit j =>
        show (if j = id then _ else _)
        simp only at h1
        split at h1
        · rename_i hj
          rw [if_pos (Nat.eq_of_beq_eq_true hj)]
          exact ⟨.nrm, rfl, a', n', H', L', ρ', h1, h2, h3, h4, h5⟩
        · rename_i hj
          rw [if_neg (fun e => hj (by rw [e]; exact Nat.beq_refl id))]
          exact ⟨.exit j, rfl, a', n', H', L', ρ', h1, h2, h3, h4, h5⟩
    | loop b => exact wpIn_loop_rounds (f + 1) (hB lim b a n H k L h hln r (hr.imp (fun e => e) fun e => e) ρ A w hs hg _ (fun _ _ _ hh => hh))
    | region id ops draw =>
      cases draw with
      | false =>
        have h' : seqK P (tgtK P J (exec P J f) lim) lim ops.toList ops.toList a n H (fun a n H => k .nrm a n H) = some L := h
        refine wpIn_region ?_
        have := seqK_some (r := r) (callK_ok hX ihA lim) (ops := ops) (Q := GoesE lim k L ρ n H w A) ops.toList 0 rfl h' hln hs hg (fun A' w' hgo => ⟨.nrm, rfl, hgo⟩)
        rwa [← List.range_eq_range', Array.length_toList] at this
      | true =>
        have h' : drawK P (tgtK P J (exec P J f) lim) lim ops a n H (fun a n H => k .nrm a n H) = some L := h
        refine wpIn_mono (hD lim _ ops a n H _ L id (callK_ok hX ihA lim) h' hln r ρ A w hs hg) ?_
        rintro e A' w' ⟨rfl, hgo⟩
        exact ⟨.nrm, rfl, hgo⟩
    | rangeFunc g ps assign body =>
      have hr : r = none := hr.elim id (fun e => by cases e)
      subst hr
      exact range_ok hX ihA h hln hs hg
    | _ => cases h
/-- one outcome -/
noncomputable def oneK (v : AV) (n : Pos) (H : PT AO) : Res := some [(v, n, H)]
/-- a closed run -/
theorem run_closed (hX : HookOk P J) (hD : DrawOk P) (fuel : Nat) (f : FuncId) (args : List AV) (L : List Out) (h : callK P J (exec P J fuel) .h f args .h .lf oneK = some L) (sy : Nat → Value) (hone : ∀ j, ∀ cs, sy j ≠ .agg cs ∧ sy j ≠ .tuple cs)
    (us : List Value) (hus : concs ⟨fun _ => none, sy, hone⟩ args = some us) (w : World) : Calls P f us.toArray w fun e w' => ∃ u, e = .returned u ∧ Below w.heap.size w w' ∧ ∃ o ∈ L, ∃ ρ' : Ren, conc ρ' o.1 = some u ∧ ρ'.sy = sy ∧ Good ρ' o.2.1 (hp o.2.2) w' := by
  have hg : Good ⟨fun _ => none, sy, hone⟩ .h (hp .lf) w := ⟨(fun b ao e => by rw [show hp .lf b = none from PT.get_lf b] at e; cases e), (fun b b' ao ao' k d x d' x' e => by rw [show hp .lf b = none from PT.get_lf b] at e; cases e), fun _ _ => rfl⟩
  refine (((callK_ok hX (exec_both hX hD fuel).1 .h).1 f args .h .lf oneK L h (Nat.le_refl _)).2 _ w us hg hus).mono ?_
  rintro e w' ⟨u, rfl, v, n', H', L', ρ', h1, h2, h3, h4⟩
  injection h1 with h1
  refine ⟨u, rfl, ⟨h4.fr.os, h4.fr.tape, h4.fr.output, h4.fr.size, fun k hk => h4.fr.block k hk fun b ao d x e => ?_⟩, (v, n', H'), h2 _ (by rw [← h1]; simp), ρ', h3, h4.fr.le.sy, h4.good⟩
  rw [show hp .lf b = none from PT.get_lf b] at e
  cases e
end
end Go.Proofs.Ytlpnhikoipkjbaa.Abs
