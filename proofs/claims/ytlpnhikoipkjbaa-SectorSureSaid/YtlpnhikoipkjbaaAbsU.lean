/- The interpreter's runs are the model's: sequences, code, calls (regions that draw their order: a hypothesis here). No conditions. -/
import Derived.Test.YtlpnhikoipkjbaaAbsR
import Derived.RangeFuncLeaves
import Derived.RangeFuncRecord
set_option linter.unusedVariables false
namespace Go.Proofs.Ytlpnhikoipkjbaa.Abs
open Go Go.RowKit
/-- marks that ranges over functions have left: blocks that no abstract one names -/
def MarksOk (ρ : Ren) (g : Hp) (w : World) (sz : Nat) : List Deferred → Prop
  | [] => True
  | m :: ms => (∃ d, m = { target := .collected d, args := #[] } ∧ sz ≤ d ∧ w.heap[d]? = some (.deferred (some [])) ∧ (∀ b ao d' x, g b = some ao → ρ.at_ b ≠ some (d, d', x)) ∧ ∀ e, ({ target := .collected e, args := #[] } : Deferred) ∈ ms → e ≠ d) ∧ MarksOk ρ g w sz ms
theorem MarksOk.step {ρ ρ' : Ren} {n n' : Pos} {g g' : Hp} {w w' : World} {sz : Nat} (hF : Fr ρ n g w ρ' n' g' w') : ∀ {ms : List Deferred}, MarksOk ρ g w sz ms → MarksOk ρ' g' w' sz ms
  | [], _ => trivial
  | m :: ms, ⟨⟨d, h1, h2, h3, h4, h5⟩, h6⟩ => by
    have hd : d < w.heap.size := (Array.getElem?_eq_some_iff.1 h3).1
    refine ⟨⟨d, h1, h2, (hF.block d hd (fun b ao d' x e => h4 b ao d' x e)).trans h3, fun b ao d' x e1 e2 => ?_, h5⟩, h6.step hF⟩
    rcases hF.new b ao d d' x e1 e2 with h | ⟨b0, ao0, d0, x0, a1, a2⟩
    · omega
    · exact h4 b0 ao0 d0 x0 a1 a2
theorem MarksOk.lt {ρ : Ren} {g : Hp} {w : World} {sz : Nat} : ∀ {ms : List Deferred}, MarksOk ρ g w sz ms → ∀ e, ({ target := .collected e, args := #[] } : Deferred) ∈ ms → e < w.heap.size
  | [], _, e, he => by cases he
  | m :: ms, ⟨⟨d, h1, h2, h3, h4, h5⟩, h6⟩, e, he => by
    rcases List.mem_cons.1 he with h | h
    · rw [h1] at h
      injection h with h
      injection h with h
      rw [h]; exact (Array.getElem?_eq_some_iff.1 h3).1
    · exact h6.lt e h
theorem MarksOk.app {ρ : Ren} {g : Hp} {w : World} {sz sz1 : Nat} {ms1 : List Deferred} (k : MarksOk ρ g w sz ms1) (hz : sz ≤ sz1) (hlt : ∀ e, ({ target := .collected e, args := #[] } : Deferred) ∈ ms1 → e < sz1) : ∀ {ms2 : List Deferred}, MarksOk ρ g w sz1 ms2 → MarksOk ρ g w sz (ms2 ++ ms1)
  | [], _ => k
  | m :: ms, ⟨⟨d, h1, h2, h3, h4, h5⟩, h6⟩ => ⟨⟨d, h1, Nat.le_trans hz h2, h3, h4, fun e he => by
      rcases List.mem_append.1 he with h | h
      · exact h5 e h
      · have := hlt e h; omega⟩, k.app hz hlt h6⟩
/-- what comes of a piece of code -/
def GoesA (lim : Pos) (k : PT AV → Pos → PT AO → Res) (L : List Out) (ρ : Ren) (n : Pos) (H : PT AO) (w : World) (A A' : Act) (w' : World) : Prop :=
  ∃ a' n' H' L' ρ', k a' n' H' = some L' ∧ (∀ x ∈ L', x ∈ L) ∧ Slots ρ' a' A' ∧ (∃ ms, A'.defers = ms ++ A.defers ∧ MarksOk ρ' (hp H') w' w.heap.size ms) ∧ Now lim ρ n H w ρ' n' H' w'
theorem marks0 {ρ : Ren} {g : Hp} {w : World} {sz : Nat} {A A' : Act} (h : A'.defers = A.defers) : ∃ ms, A'.defers = ms ++ A.defers ∧ MarksOk ρ g w sz ms := ⟨[], h, trivial⟩
def toExit : Ex → Exit
  | .nrm => .normal
  | .exit id => .exit id
  | .ret => .ret
def GoesE (lim : Pos) (k : Ex → PT AV → Pos → PT AO → Res) (L : List Out) (ρ : Ren) (n : Pos) (H : PT AO) (w : World) (A : Act) (e : Exit) (A' : Act) (w' : World) : Prop :=
  ∃ e', e = toExit e' ∧ GoesA lim (k e') L ρ n H w A A' w'
/-- the word on regions that draw their order -/
def DrawOk (P : Program) : Prop :=
  ∀ (lim : Pos) (call : CallT) (ops : Array Oper) (a : PT AV) (n : Pos) (H : PT AO) (k : PT AV → Pos → PT AO → Res) (L : List Out) (id : Nat), CallOk P lim call → drawK P call lim ops a n H k = some L → lim.nat ≤ n.nat →
    ∀ (r : Option Nat) (ρ : Ren) (A : Act) (w : World), Slots ρ a A → Good ρ n (hp H) w → (Code.region id ops true).wpIn (Fw r) 0 P (fun e A' w' => e = .normal ∧ GoesA lim k L ρ n H w A A' w') A w
section
variable {P : Program}
theorem GoesA.step {lim : Pos} {k : PT AV → Pos → PT AO → Res} {L L1 : List Out} {ρ ρ1 : Ren} {n n1 : Pos} {H H1 : PT AO} {w w1 : World} {A A1 A' : Act} {w' : World} (hN : Now lim ρ n H w ρ1 n1 H1 w1) (hd : ∃ ms, A1.defers = ms ++ A.defers ∧ MarksOk ρ1 (hp H1) w1 w.heap.size ms) (hL : ∀ x ∈ L1, x ∈ L)
    (h : GoesA lim k L1 ρ1 n1 H1 w1 A1 A' w') : GoesA lim k L ρ n H w A A' w' := by
  obtain ⟨a', n', H', L', ρ', h1, h2, h3, h4, h5⟩ := h
  obtain ⟨ms1, d1, d2⟩ := hd
  obtain ⟨ms2, d3, d4⟩ := h4
  exact ⟨a', n', H', L', ρ', h1, fun x hx => hL x (h2 x hx), h3, ⟨ms2 ++ ms1, by rw [d3, d1, List.append_assoc], (d2.step h5.fr).app hN.fr.size d2.lt d4⟩, hN.trans h5⟩
theorem GoesE.step {lim : Pos} {k : Ex → PT AV → Pos → PT AO → Res} {L L1 : List Out} {ρ ρ1 : Ren} {n n1 : Pos} {H H1 : PT AO} {w w1 : World} {A A1 A' : Act} {w' : World} {e : Exit} (hN : Now lim ρ n H w ρ1 n1 H1 w1) (hd : ∃ ms, A1.defers = ms ++ A.defers ∧ MarksOk ρ1 (hp H1) w1 w.heap.size ms) (hL : ∀ x ∈ L1, x ∈ L)
    (h : GoesE lim k L1 ρ1 n1 H1 w1 A1 e A' w') : GoesE lim k L ρ n H w A e A' w' := by
  obtain ⟨e', h1, h2⟩ := h
  exact ⟨e', h1, h2.step hN hd hL⟩
theorem putA_some {R : Type} {dst : Option Tmp} {v : AV} {a : PT AV} {k : PT AV → Option R} {r : R} (h : putA dst v a k = some r) {ρ : Ren} {A : Act} {u : Value} (hs : Slots ρ a A) (hv : conc ρ v = some u) :
    ∃ a', k a' = some r ∧ Slots ρ a' (A.put dst u) ∧ (A.put dst u).defers = A.defers := by
  unfold putA at h
  split at h
  · exact ⟨a, h, hs, rfl⟩
  · rename_i d
    obtain ⟨h1, h2⟩ := PT.updK_some _ _ _ _ _ h
    exact ⟨_, h2, hs.put hv h1, rfl⟩
theorem want_conc {ops : Array Oper} {a : PT AV} {o : Oper} {b : Bool} {ρ : Ren} {A : Act} (h : wantA ops.toList a o = some b) (hs : Slots ρ a A) : Region.wanted o (yielded ops A.tmps) = b := by
  unfold wantA at h
  unfold Region.wanted
  split at h
  · rename_i hg
    injection h with h; subst h
    simp [hg]
  · rename_i j want hg
    split at h
    · rename_i oj hj
      split at h
      · rename_i t ht
        split at h
        · rename_i b' hb
          injection h with h; subst h
          obtain ⟨x, h1, h2⟩ := hs t _ hb
          cases h1
          have hj' : ops[j]? = some oj := by simpa using hj
          simp only [hg, yielded, hj', Option.bind_some, ht, h2]
          cases b' <;> cases want <;> rfl
        · rename_i hb
          injection h with h; subst h
          obtain ⟨x, h1, h2⟩ := hs t _ hb
          cases h1
          have hj' : ops[j]? = some oj := by simpa using hj
          simp only [hg, yielded, hj', Option.bind_some, ht, h2]
          cases want <;> rfl
        · cases h
      · cases h
    · cases h
theorem seqK_some {r : Option Nat} {call : CallT} {lim : Pos} (hcall : CallOk P lim call) {ops : Array Oper} {Q : Exit → Act → World → Prop} : ∀ (l : List Oper) (i : Nat), ops.toList.drop i = l → ∀ {a : PT AV} {n : Pos} {H : PT AO} {k : PT AV → Pos → PT AO → Res} {L : List Out} {ρ : Ren} {A : Act} {w : World},
    seqK P call lim ops.toList l a n H k = some L → lim.nat ≤ n.nat → Slots ρ a A → Good ρ n (hp H) w → (∀ A' w', GoesA lim k L ρ n H w A A' w' → Q .normal A' w') → wpOpsIn (Fw r) 0 P ops Q (List.range' i l.length) A w
  | [], i, hi, a, n, H, k, L, ρ, A, w, h, hln, hs, hg, hQ => by
    show Q .normal A w
    exact hQ A w ⟨a, n, H, L, ρ, h, fun _ hx => hx, hs, marks0 rfl, Now.refl hg⟩
  | o :: l, i, hi, a, n, H, k, L, ρ, A, w, h, hln, hs, hg, hQ => by
    have ho : ops[i]? = some o := by
      have h1 : ops.toList[i]? = some o := by
        have := List.getElem?_drop (xs := ops.toList) (i := i) (j := 0)
        rw [hi] at this
        simpa using this.symm
      simpa using h1
    have hi' : ops.toList.drop (i + 1) = l := by
      rw [← List.drop_drop, hi]; rfl
    rw [List.length_cons, List.range'_succ]
    unfold wpOpsIn
    simp only [ho]
    unfold seqK at h
    split at h
    · rename_i hw
      rw [if_pos (want_conc hw hs)]
      refine opK_some hcall h hln hs hg ?_
      rintro u w1 ⟨v, n1, H1, L1, ρ1, h1, h2, h3, h4⟩
      obtain ⟨a1, h5, h6, h7⟩ := putA_some h1 (hs.le h4.fr.le) h3
      refine seqK_some hcall l (i + 1) hi' h5 (Nat.le_trans hln h4.fr.num) h6 h4.good ?_
      intro A' w' hgo
      exact hQ A' w' (hgo.step h4 (marks0 h7) h2)
    · rename_i hw
      rw [if_neg (by rw [want_conc hw hs]; simp)]
      obtain ⟨a1, h5, h6, h7⟩ := putA_some h hs (u := undef) rfl
      refine ⟨fun _ _ => trivial, seqK_some hcall l (i + 1) hi' h5 hln h6 hg ?_⟩
      intro A' w' hgo
      exact hQ A' w' (hgo.step (Now.refl hg) (marks0 h7) (fun _ hx => hx))
    · cases h
def ExecOk (P : Program) (ex : ExecT) : Prop :=
  ∀ lim c a n H k L, ex lim c a n H k = some L → lim.nat ≤ n.nat → ∀ (r : Option Nat), r = none ∨ noRF c = true → ∀ (ρ : Ren) (A : Act) (w : World), Slots ρ a A → Good ρ n (hp H) w → c.wpIn (Fw r) 0 P (GoesE lim k L ρ n H w A) A w
def resOf (tmps : Array Value) : ResultVar → Sem Value
  | .tmp t => pure (tmps.getD t undef)
  | .cell a t => do loadVar t (← asAddr (tmps.getD a undef))
theorem results_eq (fn : Func) (tmps : Array Value) : results fn tmps = (do let vs ← fn.results.mapM (resOf tmps); pure (if h : vs.size = 1 then vs[0] else .tuple vs)) := by
  unfold results
  congr 1
theorem resA_run {ρ : Ren} {n : Pos} {H : PT AO} {w : World} {a : PT AV} {A : Act} (hs : Slots ρ a A) (hg : Good ρ n (hp H) w) : ∀ (rs : List ResultVar) {l : List AV}, resA P a H rs = some l →
    ∃ us, concs ρ l = some us ∧ (rs.mapM (resOf A.tmps)).run P w = .ok us w
  | [], l, h => by injection h with h; subst h; exact ⟨[], rfl, rfl⟩
  | .tmp t :: rs, l, h => by
    unfold resA at h
    split at h
    · rename_i v r hv hr
      injection h with h; subst h
      obtain ⟨us, h1, h2⟩ := resA_run hs hg rs hr
      obtain ⟨x, h3, h4⟩ := hs t v hv
      refine ⟨x :: us, concs_mk h3 h1, ?_⟩
      have e1 : A.tmps.getD t undef = x := by simp [Array.getD_eq_getD_getElem?, h4]
      simp only [List.mapM_cons, resOf, e1, Sem.run_bind, Sem.run_pure, Result.andThen_ok]
      rw [show (List.mapM (resOf A.tmps) rs).run P w = .ok us w from h2]
      rfl
    · cases h
  | .cell t ty :: rs, l, h => by
    unfold resA at h
    split at h
    · rename_i xv hx
      split at h
      · rename_i v r hv hr
        injection h with h; subst h
        obtain ⟨us, h1, h2⟩ := resA_run hs hg rs hr
        obtain ⟨x, h3, h4⟩ := hs t xv hx
        obtain ⟨y, h5, h6⟩ := run_loadA (P := P) hg hv h3
        have hptr : ∃ ad, x = .pointer (some ad) := by
          unfold loadA at hv
          split at hv
          · obtain ⟨k, d, e, _, rfl⟩ := conc_ptr h3; exact ⟨_, rfl⟩
          · cases hv
        obtain ⟨ad, rfl⟩ := hptr
        refine ⟨y :: us, concs_mk h5 h1, ?_⟩
        have h7 : (loadVar ty ad).run P w = .ok y w := by simpa [Instr.loadAt, Instr.sureAddr] using h6
        have e1 : A.tmps.getD t undef = .pointer (some ad) := by simp [Array.getD_eq_getD_getElem?, h4]
        have e2 : asAddr (.pointer (some ad)) = pure ad := rfl
        simp only [List.mapM_cons, resOf, e1, e2, Sem.run_bind, Sem.run_pure, Result.andThen_ok, h7]
        rw [show (List.mapM (resOf A.tmps) rs).run P w = .ok us w from h2]
        rfl
      · cases h
    · cases h
theorem results_run {fn : Func} {ρ : Ren} {n : Pos} {H : PT AO} {w : World} {a : PT AV} {A : Act} {l : List AV} (hs : Slots ρ a A) (hg : Good ρ n (hp H) w) (h : resA P a H fn.results.toList = some l) :
    ∃ us, concs ρ l = some us ∧ (results fn A.tmps).run P w = .ok (match us with | [u] => u | us => .tuple us.toArray) w := by
  obtain ⟨us, h1, h2⟩ := resA_run hs hg _ h
  refine ⟨us, h1, ?_⟩
  have h3 : (fn.results.mapM (resOf A.tmps)).run P w = .ok us.toArray w := by
    rw [Array.mapM_eq_mapM_toList, Sem.run_map, h2]
    rfl
  rw [results_eq]
  simp only [Sem.run_bind, h3, Result.andThen_ok, Sem.run_pure]
  match us with
  | [] => simp
  | [u] => simp
  | u :: v :: r => simp
theorem initF_slots {ρ : Ren} {args : List AV} {us : List Value} {nt : Nat} (h : concs ρ args = some us) : Slots ρ (fillT args 0 (initF nt)) { tmps := us.toArray ++ Array.replicate (nt - us.toArray.size) undef, defers := [] } := by
  intro t v e
  have hl := concs_len h
  rw [fillT_get] at e
  by_cases ht : t < args.length
  · rw [if_pos (by omega), Nat.sub_zero] at e
    obtain ⟨y, h1, h2⟩ := concs_get h e
    refine ⟨y, h2, ?_⟩
    simp only
    rw [Array.getElem?_append_left (by simp; omega)]
    simpa using h1
  · rw [if_neg (by omega)] at e
    unfold initF at e
    rw [rowK_eq, fillT_get] at e
    by_cases hn : t < nt
    · rw [if_pos (by simp; omega)] at e
      simp [hn] at e
      subst e
      refine ⟨undef, rfl, ?_⟩
      simp only
      rw [Array.getElem?_append_right (by simp; omega), Array.getElem?_replicate, if_pos (by simp only [List.size_toArray]; omega)]
    · rw [if_neg (by simp; omega), PT.get_lf] at e
      cases e
end
end Go.Proofs.Ytlpnhikoipkjbaa.Abs
