/- The walk of frame.Scan. -/
import Derived.Test.YtpnjcgpnannjaaaFrV
namespace Go.Proofs.Ytpnjcgpnannjaaa
open Go.RowKit
set_option linter.unusedVariables false
attribute [local go_sem] Oper.semAt_some

theorem frames_any (s : ByteArray) (most : Int) (a : Addr) (w : World) :
    Calls Try.prog 29 #[.string s, .int .i64 most, .pointer (some a)] w fun e w' =>
      e = .returned (.func (.func 43) #[] #[.pointer (some ⟨w.heap.size, 0, none⟩), .pointer (some ⟨w.heap.size + 1, 0, none⟩), .pointer (some ⟨w.heap.size + 2, 0, none⟩)]) ∧
      w' = ((w.alloc (.cells #[.string s] 9)).alloc (.cells #[.int .i64 most] 3)).alloc (.cells #[.pointer (some a)] 68) := by
  go_enter Try.func29, Try.ntmps29
  go_wp2
  go_ret
  exact ⟨rfl, rfl⟩

/-- A range over a function, at a call of its own (in the wide fence). -/
theorem wp_rangeFunc_wide {P : Program} {n : Nat} {g : Operand} {ps : Array Tmp} {assign body : Code} {Q : Exit → Act → World → Prop} {a : Act} {w : World} {gf : Nat} {lb : Array Value}
    (hg : a.eval g = .func (.func gf) #[] lb) (eg : ∀ args w, (callFunc gf args).run P w = .ok (.enter gf args) w)
    (h : ∀ rec : Loop, rec.state = .ready → rec.pending = none → rec.tmps = a.tmps → rec.params = ps → rec.assign = assign → rec.body = body →
      CallsIn Fence.wide (n - 1) P gf (#[.func (.yield (w.heap.size + 1)) #[] #[]] ++ lb) ((w.alloc (.deferred (some []))).alloc (.loop rec))
        (rangePost Fence.wide n P (w.heap.size + 1) Q { a with defers := [{ target := .collected w.heap.size, args := #[] }] ++ a.defers })) :
    (Code.rangeFunc g ps assign body).wpIn Fence.wide n P Q a w := by
  refine wpIn_rangeFunc ?_
  intro fn _
  obtain ⟨rec, hrec⟩ : ∃ rec : Loop, rec = { state := .ready, pending := none, fn := fn, tmps := a.tmps, params := ps, assign, body, defers := w.heap.size } := ⟨_, rfl⟩
  have hc := h rec (by rw [hrec]) (by rw [hrec]) (by rw [hrec]) (by rw [hrec]) (by rw [hrec]) (by rw [hrec])
  clear h
  have he : (Instr.enterLoop fn a.tmps ps assign body none).run P w = .ok (w.heap.size + 1, [{ target := .collected w.heap.size, args := #[] }]) ((w.alloc (.deferred (some []))).alloc (.loop rec)) := by
    rw [hrec]
    exact run_enterLoop_outer _ _ _ _ _
  clear hrec
  generalize (w.alloc (.deferred (some []))).alloc (.loop rec) = W1 at *
  refine ⟨w.heap.size + 1, [{ target := .collected w.heap.size, args := #[] }], W1, { target := .fn (.func gf) lb, args := #[.func (.yield (w.heap.size + 1)) #[] #[]] }, W1, gf, #[.func (.yield (w.heap.size + 1)) #[] #[]] ++ lb, W1, ?a1, ?a2, ?a3, ?a4, ?a5, ?a6⟩
  case a1 => exact he
  case a2 =>
    simp only [resolve, hg]
    simp [go_sem]
  case a3 =>
    intro _ _
    trivial
  case a4 =>
    simp [invoke, go_sem, eg]
  case a5 => intro h; cases h
  case a6 => exact hc
theorem only_put (W : World) (r : Nat) (o : Obj) : Only (fun k => k = r) W (W.putObj r o) := ⟨rfl, rfl, rfl, by simp, fun k _ h => World.putObj_heap_other h⟩
section
variable {w : World} {s : ByteArray} {most : Int} {rec : Loop} {pre : List (Nat × ByteArray)} {p ev : Nat} {W : World}
theorem FJ.putR (h : FJ w s most rec pre p ev W) (rec' : Loop) : FJ w s most rec' pre p ev (W.putObj (w.heap.size + 7) (.loop rec')) := by
  obtain ⟨v, hv, ho⟩ := h.l
  have hO := only_put W (w.heap.size + 7) (.loop rec')
  refine ⟨h.below.trans (hO.below (fun i hi => by omega) h.below.size), ⟨v, hO.blk hv (by omega), hO.owns ho ?_⟩, hO.blk h.g (by omega), hO.blk h.e (by omega), hO.blk h.bs (by omega), hO.blk h.bm (by omega), hO.blk h.be (by omega),
    (hO.block _ (Array.getElem?_eq_some_iff.1 h.d).1 (by omega)).trans h.d, World.putObj_heap_same (Array.getElem?_eq_some_iff.1 h.r).1⟩
  intro k hk he
  have := (ho.lt k hk).1
  omega
theorem FJ.appended (h : FJ w s most rec pre p ev W) {v v' : Value} {w3 : World} {tag : Nat} {text : ByteArray} (p' : Nat) (hv : Blk W w.heap.size 36 #[v]) (ho : W.ownsRow (w.heap.size + 8) 31 2 v pre.length (fcells pre))
    (hg : W.grownBy w3 v.ownBlock) (hn : w3.ownsRow (w.heap.size + 8) 31 2 v' (pre.length + 1) (fcells pre ++ [.int .u8 tag, .string text])) :
    Blk w3 w.heap.size 36 #[v] ∧ Blk w3 (w.heap.size + 1) 3 #[.int .i64 p] ∧ FJ w s most rec (pre ++ [(tag, text)]) p' ev ((w3.setCell ⟨w.heap.size, 0, none⟩ v').setCell ⟨w.heap.size + 1, 0, none⟩ (.int .i64 p')) := by
  have hlo : ∀ k, v.ownBlock = some k → w.heap.size + 8 ≤ k := fun k hk => (ho.lt k hk).1
  have hO : Only (fun k => v.ownBlock = some k) W w3 := (Only.refl _ W).grown hg (fun k hk => .inl hk)
  have hnot : ∀ k, k < w.heap.size + 8 → ¬ v.ownBlock = some k := fun k hk he => by have := hlo k he; omega
  have b1 := hO.blk hv (hnot _ (by omega))
  have b2 := hO.blk h.g (hnot _ (by omega))
  have hO2 : Only (fun k => k = w.heap.size ∨ k = w.heap.size + 1) w3 ((w3.setCell ⟨w.heap.size, 0, none⟩ v').setCell ⟨w.heap.size + 1, 0, none⟩ (.int .i64 p')) :=
    ((Only.refl (fun k => k = w.heap.size ∨ k = w.heap.size + 1) w3).setCell (p := ⟨w.heap.size, 0, none⟩) (.inl (.inl rfl)) _).setCell (p := ⟨w.heap.size + 1, 0, none⟩) (.inl (.inr rfl)) _
  refine ⟨b1, b2, ?_, ⟨v', (b1.set_ 0 v').far (p := ⟨w.heap.size + 1, 0, none⟩) (by simp) _, ?_⟩, (b2.far (p := ⟨w.heap.size, 0, none⟩) (by simp) _).set_ 0 _, hO2.blk (hO.blk h.e (hnot _ (by omega))) (by omega), hO2.blk (hO.blk h.bs (hnot _ (by omega))) (by omega),
    hO2.blk (hO.blk h.bm (hnot _ (by omega))) (by omega), hO2.blk (hO.blk h.be (hnot _ (by omega))) (by omega), ?_, ?_⟩
  · exact ((h.below.trans (hO.below (fun i hi => by have := hlo i hi; omega) h.below.size)).setCell (by simp) _).setCell (by simp) _
  · rw [fcells_snoc, List.length_append]
    exact hO2.owns hn (fun k hk => by have := (hn.lt k hk).1; omega)
  · have h1 := hO.block _ (Array.getElem?_eq_some_iff.1 h.d).1 (hnot _ (by omega))
    have h2 := h1.trans h.d
    exact (hO2.block _ (Array.getElem?_eq_some_iff.1 h2).1 (by omega)).trans h2
  · have h1 := hO.block _ (Array.getElem?_eq_some_iff.1 h.r).1 (hnot _ (by omega))
    have h2 := h1.trans h.r
    exact (hO2.block _ (Array.getElem?_eq_some_iff.1 h2).1 (by omega)).trans h2
end

theorem owns_base {w : World} {base base' : Nat} {e : TypeId} {size n : Nat} {v : Value} {xs : List Value} (h : w.ownsRow base e size v n xs) (hb : base' ≤ base) : w.ownsRow base' e size v n xs :=
  ⟨h.1, h.2.imp id (fun ⟨g, cap, cur, e1, e2, rest⟩ => ⟨g, cap, cur, e1, Nat.le_trans hb e2, rest⟩)⟩
theorem results_scan {fn : Func} {tmps : Array Value} {w : World} {a b c : Nat} {x y z : Value} (h : fn.results = #[.cell 4 36, .cell 5 3, .cell 6 24])
    (h4 : tmps.getD 4 undef = .pointer (some ⟨a, 0, none⟩)) (h5 : tmps.getD 5 undef = .pointer (some ⟨b, 0, none⟩)) (h6 : tmps.getD 6 undef = .pointer (some ⟨c, 0, none⟩))
    (ha : w.cell? ⟨a, 0, none⟩ = some x) (hb : w.cell? ⟨b, 0, none⟩ = some y) (hc : w.cell? ⟨c, 0, none⟩ = some z) :
    (results fn tmps).run Try.prog w = .ok (.tuple #[x, y, z]) w := by
  have h4' : tmps[4]?.getD undef = .pointer (some ⟨a, 0, none⟩) := by simpa using h4
  have h5' : tmps[5]?.getD undef = .pointer (some ⟨b, 0, none⟩) := by simpa using h5
  have h6' : tmps[6]?.getD undef = .pointer (some ⟨c, 0, none⟩) := by simpa using h6
  simp [results, h, h4', h5', h6', go_sem, ha, hb, hc, loadVar]

set_option maxHeartbeats 3000000 in
set_option maxRecDepth 100000 in
theorem scan_any (s : ByteArray) (most : Int) (w : World) (hs : s.size ≤ 17179869184) (hm1 : -9223372036854775808 ≤ most) (hm2 : most ≤ 9223372036854775807) :
    Calls Try.prog 14 #[.string s, .int .i64 most] w (FScan s most w) := by
  refine (callsIn_wide (n := 3)).1 ?_
  refine callsIn_of_wp_marks Try.func14 rfl trivial ?_ rfl
  simp only [Try.ntmps14, List.size_toArray, List.length_cons, List.length_nil, Nat.reduceAdd, Nat.reduceSub, Array.replicate_succ, Array.replicate_zero, List.push_toArray, List.append_toArray, List.nil_append, List.cons_append]
  refine wpIn_wide.2 ?_
  go_wp2_with fail
  refine (frames_any _ _ _ _).mono ?_
  rintro e w1 ⟨rfl, rfl⟩
  go_wp2_with fail
  simp only [Nat.add_assoc, Nat.reduceAdd]
  obtain ⟨W0, hW0⟩ : ∃ W0 : World, W0 = ((((((w.alloc (.cells #[.slice none 0 0] 36)).alloc (.cells #[.int .i64 0] 3)).alloc (.cells #[.int .i64 0] 24)).alloc (.cells #[.string s] 9)).alloc (.cells #[.int .i64 most] 3)).alloc (.cells #[.pointer (some ⟨w.heap.size + 2, 0, none⟩)] 68)) := ⟨_, rfl⟩
  rw [← hW0]
  have hz : W0.heap.size = w.heap.size + 6 := by rw [hW0]; simp
  have k0 : Blk W0 w.heap.size 36 #[.slice none 0 0] := by rw [hW0]; exact (((((Blk.new w _ _).alloc _).alloc _).alloc _).alloc _).alloc _
  have k1 : Blk W0 (w.heap.size + 1) 3 #[.int .i64 ((0 : Nat) : Int)] := by
    have := (((((Blk.new (w.alloc (.cells #[.slice none 0 0] 36)) 3 #[.int .i64 ((0 : Nat) : Int)]).alloc (.cells #[.int .i64 0] 24)).alloc (.cells #[.string s] 9)).alloc (.cells #[.int .i64 most] 3)).alloc (.cells #[.pointer (some ⟨w.heap.size + 2, 0, none⟩)] 68))
    rw [World.size_alloc] at this
    rw [hW0]
    exact this
  have k2 : Blk W0 (w.heap.size + 2) 24 #[.int .i64 ((0 : Nat) : Int)] := by
    have := ((((Blk.new ((w.alloc (.cells #[.slice none 0 0] 36)).alloc (.cells #[.int .i64 0] 3)) 24 #[.int .i64 ((0 : Nat) : Int)]).alloc (.cells #[.string s] 9)).alloc (.cells #[.int .i64 most] 3)).alloc (.cells #[.pointer (some ⟨w.heap.size + 2, 0, none⟩)] 68))
    simp only [World.size_alloc, Nat.add_assoc, Nat.reduceAdd] at this
    rw [hW0]
    exact this
  have k3 : Blk W0 (w.heap.size + 3) 9 #[.string s] := by
    have := (((Blk.new (((w.alloc (.cells #[.slice none 0 0] 36)).alloc (.cells #[.int .i64 0] 3)).alloc (.cells #[.int .i64 0] 24)) 9 #[.string s]).alloc (.cells #[.int .i64 most] 3)).alloc (.cells #[.pointer (some ⟨w.heap.size + 2, 0, none⟩)] 68))
    simp only [World.size_alloc, Nat.add_assoc, Nat.reduceAdd] at this
    rw [hW0]
    exact this
  have k4 : Blk W0 (w.heap.size + 4) 3 #[.int .i64 most] := by
    have := ((Blk.new ((((w.alloc (.cells #[.slice none 0 0] 36)).alloc (.cells #[.int .i64 0] 3)).alloc (.cells #[.int .i64 0] 24)).alloc (.cells #[.string s] 9)) 3 #[.int .i64 most]).alloc (.cells #[.pointer (some ⟨w.heap.size + 2, 0, none⟩)] 68))
    simp only [World.size_alloc, Nat.add_assoc, Nat.reduceAdd] at this
    rw [hW0]
    exact this
  have k5 : Blk W0 (w.heap.size + 5) 68 #[.pointer (some ⟨w.heap.size + 2, 0, none⟩)] := by
    have := (Blk.new (((((w.alloc (.cells #[.slice none 0 0] 36)).alloc (.cells #[.int .i64 0] 3)).alloc (.cells #[.int .i64 0] 24)).alloc (.cells #[.string s] 9)).alloc (.cells #[.int .i64 most] 3)) 68 #[.pointer (some ⟨w.heap.size + 2, 0, none⟩)])
    simp only [World.size_alloc, Nat.add_assoc, Nat.reduceAdd] at this
    rw [hW0]
    exact this
  have kb : Below w.heap.size w W0 := by
    rw [hW0]
    exact ((((((Below.refl _ w).alloc (by simp) _).alloc (by simp) _).alloc (by simp; omega) _).alloc (by simp; omega) _).alloc (by simp; omega) _).alloc (by simp; omega) _
  clear hW0
  have hF : ∀ X : Loop, FJ w s most X [] 0 0 ((W0.alloc (.deferred (some []))).alloc (.loop X)) := fun X => by
    refine ⟨(kb.alloc kb.size _).alloc (by simp; omega) _, ⟨_, (k0.alloc _).alloc _, World.ownsRow_nil _ _ _ _⟩, (k1.alloc _).alloc _, (k2.alloc _).alloc _, (k3.alloc _).alloc _, (k4.alloc _).alloc _, (k5.alloc _).alloc _, ?_, ?_⟩
    · have := World.alloc_heap_new W0 (.deferred (some []))
      rw [hz] at this
      exact (Below.heap_alloc _ _ _ (by simp; omega)).trans this
    · have := World.alloc_heap_new (W0.alloc (.deferred (some []))) (.loop X)
      rw [World.size_alloc, hz] at this
      exact this
  clear k0 k1 k2 k3 k4 k5 kb
  refine (wpIn_wide (n := 3)).1 (wp_rangeFunc_wide (gf := 43) (lb := #[.pointer (some ⟨w.heap.size + 3, 0, none⟩), .pointer (some ⟨w.heap.size + 4, 0, none⟩), .pointer (some ⟨w.heap.size + 5, 0, none⟩)]) rfl (enters_of Try.func43 (by kernel_rfl) rfl) ?_)
  intro rec r1 r2 r3 r4 r5 r6
  rw [hz]
  refine (frames1_any w s most rec hs hm1 hm2 2 ?hY _ (hF rec)).mono ?fin
  case hY =>
    intro pre p p' W1 tag text hJ hp hp'
    have HJ := Lib.hid hJ
    refine ⟨_, _, _, _, run_yield hJ.r (by rw [r4]; rfl), roundIn_of_wpIn trivial ?_⟩
    rw [r3, r4, r5, r6]
    clear r3 r4 r5 r6 hJ
    gi_wp2
    have hJa := HJ.out.grows (Grows.alloc W1 (.cells #[.int .u8 tag, .string text] 31))
    refine ⟨_, run_beginRound hJa.r r1, ?_⟩
    have hJb := hJa.putR { rec with state := .busy }
    have hne : W1.heap.size ≠ w.heap.size + 7 := by have := (Array.getElem?_eq_some_iff.1 HJ.out.r).1; omega
    have hBb := (only_put (W1.alloc (.cells #[.int .u8 tag, .string text] 31)) (w.heap.size + 7) (.loop { rec with state := .busy })).blk (Blk.new W1 31 #[.int .u8 tag, .string text]) hne
    generalize W1.heap.size = g at *
    generalize (W1.alloc (.cells #[.int .u8 tag, .string text] 31)).putObj (w.heap.size + 7) (.loop { rec with state := .busy }) = W2 at *
    clear hJa hne HJ
    obtain ⟨v, hv, ho⟩ := hJb.l
    have HJb := Lib.hid hJb
    have HV := Lib.hid hv
    have HO := Lib.hid ho
    have c0 : W2.cell? ⟨w.heap.size, 0, none⟩ = some v := hv.cell 0
    have c1 : W2.cell? ⟨g, 0, none⟩ = some (.int .u8 tag) := hBb.cell 0
    have c2 : W2.cell? ⟨g, 1, none⟩ = some (.string text) := hBb.cell 1
    have hsz : w.heap.size + 8 ≤ W2.heap.size := by have := (Array.getElem?_eq_some_iff.1 hJb.r).1; omega
    clear hJb hv ho hBb
    obtain ⟨i0, hi, hz0, hz1, hz2⟩ := info_parts frame_info
    gi_wp2_with (gi_at_builtin; refine wpListIn_append_own _ rfl (.tmp 14) (.tmp 16) 36 rfl (w.heap.size + 8) 31 i0 (.agg #[.int .u8 0, .string ⟨#[]⟩]) 2 24 Try.underlying36 hi hz0 hz1 hz2 rfl (by decide) v pre.length (fcells pre) rfl (HO.out.alloc _) ⟨W2.heap.size, 0, none⟩ 1 1 [.int .u8 tag, .string text] rfl rfl ?d1 ?d2 ?d3 ?d4 ?d5 ?_)
    case d1 =>
      intro j u hu
      match j, hu with
      | 0, hu => simp at hu; subst hu; simp [Addr.add]
      | 1, hu => simp at hu; subst hu; simp [Addr.add]
    case d2 => intro u hu; simp at hu; rcases hu with rfl | rfl <;> rfl
    case d3 => unfold maxLen; omega
    case d4 => omega
    case d5 => simp; omega
    intro v' w3 hown' hgrow _
    obtain ⟨b1, b2, hJn⟩ := (HJb.out.grows (Grows.alloc W2 (.cells #[.int .u8 tag, .string text] 31))).appended p' (HV.out.alloc _) (HO.out.alloc _) hgrow hown'
    have HJn := Lib.hid hJn
    clear hJn
    obtain ⟨g', cap', rfl⟩ := ownsRow_succ hown'
    have e0 : w3.cell? ⟨w.heap.size, 0, none⟩ = some v := b1.cell 0
    have e1 : w3.frozen? ⟨w.heap.size, 0, none⟩ = false := b1.frozen 0
    have e2 : w3.cell? ⟨w.heap.size + 1, 0, none⟩ = some (.int .i64 p) := b2.cell 0
    have e3 : w3.frozen? ⟨w.heap.size + 1, 0, none⟩ = false := b2.frozen 0
    clear b1 b2 hgrow hown' c0 c1 c2
    gi_wp2
    refine ⟨_, _, run_endRound none HJn.out.r, rfl, ?_⟩
    have hr : ({ ({ rec with state := .busy } : Loop) with state := if (none : Option Code).isNone = true then .ready else .done, pending := none } : Loop) = rec := by cases rec; simp_all
    rw [hr]
    exact HJn.out.putR rec
  case fin =>
    rintro e W2 ⟨⟨v, rfl⟩, hJ⟩
    have hend := run_endLoop (P := Try.prog) hJ.r (by rw [r1]; simp)
    have hend' : (Instr.endLoop (w.heap.size + 7)).run Try.prog W2 = .ok none (W2.putObj (w.heap.size + 7) (.loop { rec with state := .exhausted })) := hend.trans (by rw [r2])
    refine ⟨none, _, hend', ?_⟩
    clear hend'
    have hJ3 := hJ.putR { rec with state := .exhausted }
    generalize W2.putObj (w.heap.size + 7) (.loop { rec with state := .exhausted }) = W3 at *
    clear hJ hend r1 r2 r3 r4 r5 r6
    obtain ⟨v', hv, ho⟩ := hJ3.l
    have HJ3 := Lib.hid hJ3
    have HO := Lib.hid ho
    have e0 : W3.cell? ⟨w.heap.size, 0, none⟩ = some v' := hv.cell 0
    have e1 : W3.frozen? ⟨w.heap.size, 0, none⟩ = false := hv.frozen 0
    have e2 : W3.cell? ⟨w.heap.size + 1, 0, none⟩ = some (.int .i64 (scanFrom s most 0).2.1) := hJ3.g.cell 0
    have e3 : W3.frozen? ⟨w.heap.size + 1, 0, none⟩ = false := hJ3.g.frozen 0
    have e4 : W3.cell? ⟨w.heap.size + 2, 0, none⟩ = some (.int .i64 (scanFrom s most 0).2.2) := hJ3.e.cell 0
    have e5 : W3.frozen? ⟨w.heap.size + 2, 0, none⟩ = false := hJ3.e.frozen 0
    have HV0 := Lib.hid hv
    clear hJ3 hv ho
    have hvs : ∃ A len cap, v' = .slice A len cap := by
      rcases owns_form HO.out with ⟨rfl, _⟩ | ⟨g, cap, rfl, _⟩
      · exact ⟨_, _, _, rfl⟩
      · exact ⟨_, _, _, rfl⟩
    obtain ⟨A, len, cap, rfl⟩ := hvs
    go_wp2_with fail
    go_region
    have hO : Only (fun k => k = w.heap.size ∨ k = w.heap.size + 1 ∨ k = w.heap.size + 2) W3 (((W3.setCell ⟨w.heap.size, 0, none⟩ (.slice A len cap)).setCell ⟨w.heap.size + 1, 0, none⟩ (.int .i64 (scanFrom s most 0).2.1)).setCell ⟨w.heap.size + 2, 0, none⟩ (.int .i64 (scanFrom s most 0).2.2)).drew :=
      (((Only.refl (fun k => k = w.heap.size ∨ k = w.heap.size + 1 ∨ k = w.heap.size + 2) W3).setCell (p := ⟨w.heap.size, 0, none⟩) (.inl (.inl rfl)) _).setCell (p := ⟨w.heap.size + 1, 0, none⟩) (.inl (.inr (.inl rfl))) _).setCell (p := ⟨w.heap.size + 2, 0, none⟩) (.inl (.inr (.inr rfl))) _ |>.drew
    have r0 : (((W3.setCell ⟨w.heap.size, 0, none⟩ (.slice A len cap)).setCell ⟨w.heap.size + 1, 0, none⟩ (.int .i64 (scanFrom s most 0).2.1)).setCell ⟨w.heap.size + 2, 0, none⟩ (.int .i64 (scanFrom s most 0).2.2)).drew.cell? ⟨w.heap.size, 0, none⟩ = some (.slice A len cap) := ((((HV0.out.set_ 0 _).far (p := ⟨w.heap.size + 1, 0, none⟩) (by simp) _).far (p := ⟨w.heap.size + 2, 0, none⟩) (by simp) _).drew).cell 0
    have r1 : (((W3.setCell ⟨w.heap.size, 0, none⟩ (.slice A len cap)).setCell ⟨w.heap.size + 1, 0, none⟩ (.int .i64 (scanFrom s most 0).2.1)).setCell ⟨w.heap.size + 2, 0, none⟩ (.int .i64 (scanFrom s most 0).2.2)).drew.cell? ⟨w.heap.size + 1, 0, none⟩ = some (.int .i64 (scanFrom s most 0).2.1) := ((((HJ3.out.g.far (p := ⟨w.heap.size, 0, none⟩) (by simp) _).set_ 0 _).far (p := ⟨w.heap.size + 2, 0, none⟩) (by simp) _).drew).cell 0
    have r2 : (((W3.setCell ⟨w.heap.size, 0, none⟩ (.slice A len cap)).setCell ⟨w.heap.size + 1, 0, none⟩ (.int .i64 (scanFrom s most 0).2.1)).setCell ⟨w.heap.size + 2, 0, none⟩ (.int .i64 (scanFrom s most 0).2.2)).drew.cell? ⟨w.heap.size + 2, 0, none⟩ = some (.int .i64 (scanFrom s most 0).2.2) := ((((HJ3.out.e.far (p := ⟨w.heap.size, 0, none⟩) (by simp) _).far (p := ⟨w.heap.size + 1, 0, none⟩) (by simp) _).set_ 0 _).drew).cell 0
    generalize (((W3.setCell ⟨w.heap.size, 0, none⟩ (.slice A len cap)).setCell ⟨w.heap.size + 1, 0, none⟩ (.int .i64 (scanFrom s most 0).2.1)).setCell ⟨w.heap.size + 2, 0, none⟩ (.int .i64 (scanFrom s most 0).2.2)).drew = W4 at *
    clear e0 e1 e2 e3 e4 e5
    have HD := Lib.hid ((hO.block _ (Array.getElem?_eq_some_iff.1 HJ3.out.d).1 (by omega)).trans HJ3.out.d)
    have HO4 := Lib.hid (hO.owns HO.out (fun k hk => by have := (HO.out.lt k hk).1; omega))
    have HB4 := Lib.hid (HJ3.out.below.trans (hO.below (fun i hi => by omega) HJ3.out.below.size))
    have HP := Lib.hid (only_put W4 (w.heap.size + 6) (.deferred none))
    clear hO
    have hs4 : w.heap.size + 6 < W4.heap.size := (Array.getElem?_eq_some_iff.1 HD.out).1
    have ho4 : ∀ k, (Value.slice A len cap).ownBlock = some k → ¬ k = w.heap.size + 6 := fun k hk => by have := (HO4.out.lt k hk).1; omega
    have HS4 := Lib.hid hs4
    have HH4 := Lib.hid ho4
    clear hs4 ho4
    go_wp2_with fail
    refine ⟨by simp, .inl ⟨_, _, rfl, run_takeDeferred HD.out, ?_⟩⟩
    refine ⟨_, results_scan Try.results14 rfl rfl rfl ((HP.out.cell (p := ⟨w.heap.size, 0, none⟩) (Nat.lt_of_le_of_lt (Nat.le_add_right _ 6) HS4.out) (by simp)).trans r0) ((HP.out.cell (p := ⟨w.heap.size + 1, 0, none⟩) (Nat.lt_trans (by simp) HS4.out) (by simp)).trans r1) ((HP.out.cell (p := ⟨w.heap.size + 2, 0, none⟩) (Nat.lt_trans (by simp) HS4.out) (by simp)).trans r2), _, rfl, owns_base (HP.out.owns HO4.out HH4.out) (Nat.le_add_right _ 8), HB4.out.trans (HP.out.below (fun i hi => by omega) HB4.out.size)⟩
end Go.Proofs.Ytpnjcgpnannjaaa
