/- Several texts in one: U V Va W. -/
import Derived.Test.YthggliknnmhbdaaGreatAbsM4
import Derived.RangeFuncLeaves
import Derived.RangeFuncRecord
import Derived.RangeFuncIn
import Derived.LoopNIn
/- The interpreter's runs are the model's: sequences, code, calls (regions that draw their order: a hypothesis here). No conditions. -/
section
set_option linter.unusedVariables false
namespace Go.Proofs.YthggliknnmhbdaaGreat.Abs
open Go Go.RowKit
/-- marks that ranges over functions have left: blocks that no abstract one names -/
def MarksOk (ρ : Ren) (g : Hp) (w : World) (sz : Nat) : List Deferred → Prop
  | [] => True
  | m :: ms => (∃ d, m = { target := .collected d, args := #[] } ∧ sz ≤ d ∧ w.heap[d]? = some (.deferred (some [])) ∧ (∀ b ao d' x, g b = some ao → ρ.at_ b ≠ some (d, d', x)) ∧ ∀ e, ({ target := .collected e, args := #[] } : Deferred) ∈ ms → e ≠ d) ∧ MarksOk ρ g w sz ms
theorem MarksOk.step {ρ ρ' : Ren} {n n' : Pos} {g g' : Hp} {w w' : World} {sz : Nat} (hF : Fr ρ n g w ρ' n' g' w') : ∀ {ms : List Deferred}, MarksOk ρ g w sz ms → MarksOk ρ' g' w' sz ms
  | [], _ => trivial
  | m :: ms, ⟨⟨d, h1, h2, h3, h4, h5⟩, h6⟩ => by
    have hd : d < w.heap.size := (Array.getElem?_eq_some_iff.1 h3).1
    refine ⟨⟨d, h1, h2, (hF.block d hd (fun b ao d' x e => h4 b ao d' x e)).trans h3, fun b ao d' x e1 e2 => ?_, h5⟩, h6.step hF⟩
    rcases hF.new b ao d d' x e1 e2 with h | ⟨b0, ao0, d0, x0, a1, a2⟩
    · omega
    · exact h4 b0 ao0 d0 x0 a1 a2
theorem MarksOk.lt {ρ : Ren} {g : Hp} {w : World} {sz : Nat} : ∀ {ms : List Deferred}, MarksOk ρ g w sz ms → ∀ e, ({ target := .collected e, args := #[] } : Deferred) ∈ ms → e < w.heap.size
  | [], _, e, he => by cases he
  | m :: ms, ⟨⟨d, h1, h2, h3, h4, h5⟩, h6⟩, e, he => by
    rcases List.mem_cons.1 he with h | h
    · rw [h1] at h
      injection h with h
      injection h with h
      rw [h]; exact (Array.getElem?_eq_some_iff.1 h3).1
    · exact h6.lt e h
theorem MarksOk.app {ρ : Ren} {g : Hp} {w : World} {sz sz1 : Nat} {ms1 : List Deferred} (k : MarksOk ρ g w sz ms1) (hz : sz ≤ sz1) (hlt : ∀ e, ({ target := .collected e, args := #[] } : Deferred) ∈ ms1 → e < sz1) : ∀ {ms2 : List Deferred}, MarksOk ρ g w sz1 ms2 → MarksOk ρ g w sz (ms2 ++ ms1)
  | [], _ => k
  | m :: ms, ⟨⟨d, h1, h2, h3, h4, h5⟩, h6⟩ => ⟨⟨d, h1, Nat.le_trans hz h2, h3, h4, fun e he => by
      rcases List.mem_append.1 he with h | h
      · exact h5 e h
      · have := hlt e h; omega⟩, k.app hz hlt h6⟩
/-- what comes of a piece of code -/
def GoesA (lim : Pos) (k : PT AV → Pos → PT AO → Res) (L : List Out) (ρ : Ren) (n : Pos) (H : PT AO) (w : World) (A A' : Act) (w' : World) : Prop :=
  ∃ a' n' H' L' ρ', k a' n' H' = some L' ∧ (∀ x ∈ L', x ∈ L) ∧ Slots ρ' a' A' ∧ (∃ ms, A'.defers = ms ++ A.defers ∧ MarksOk ρ' (hp H') w' w.heap.size ms) ∧ Now lim ρ n H w ρ' n' H' w'
theorem marks0 {ρ : Ren} {g : Hp} {w : World} {sz : Nat} {A A' : Act} (h : A'.defers = A.defers) : ∃ ms, A'.defers = ms ++ A.defers ∧ MarksOk ρ g w sz ms := ⟨[], h, trivial⟩
def toExit : Ex → Exit
  | .nrm => .normal
  | .exit id => .exit id
  | .ret => .ret
def GoesE (lim : Pos) (k : Ex → PT AV → Pos → PT AO → Res) (L : List Out) (ρ : Ren) (n : Pos) (H : PT AO) (w : World) (A : Act) (e : Exit) (A' : Act) (w' : World) : Prop :=
  ∃ e', e = toExit e' ∧ GoesA lim (k e') L ρ n H w A A' w'
/-- the word on regions that draw their order -/
def DrawOk (P : Program) : Prop :=
  ∀ (lim : Pos) (call : CallT) (ops : Array Oper) (a : PT AV) (n : Pos) (H : PT AO) (k : PT AV → Pos → PT AO → Res) (L : List Out) (id : Nat), CallOk P lim call → drawK P call lim ops a n H k = some L → lim.nat ≤ n.nat →
    ∀ (r : Option Nat) (ρ : Ren) (A : Act) (w : World), Slots ρ a A → Good ρ n (hp H) w → (Code.region id ops true).wpIn (Fw r) 0 P (fun e A' w' => e = .normal ∧ GoesA lim k L ρ n H w A A' w') A w
section
variable {P : Program}
theorem GoesA.step {lim : Pos} {k : PT AV → Pos → PT AO → Res} {L L1 : List Out} {ρ ρ1 : Ren} {n n1 : Pos} {H H1 : PT AO} {w w1 : World} {A A1 A' : Act} {w' : World} (hN : Now lim ρ n H w ρ1 n1 H1 w1) (hd : ∃ ms, A1.defers = ms ++ A.defers ∧ MarksOk ρ1 (hp H1) w1 w.heap.size ms) (hL : ∀ x ∈ L1, x ∈ L)
    (h : GoesA lim k L1 ρ1 n1 H1 w1 A1 A' w') : GoesA lim k L ρ n H w A A' w' := by
  obtain ⟨a', n', H', L', ρ', h1, h2, h3, h4, h5⟩ := h
  obtain ⟨ms1, d1, d2⟩ := hd
  obtain ⟨ms2, d3, d4⟩ := h4
  exact ⟨a', n', H', L', ρ', h1, fun x hx => hL x (h2 x hx), h3, ⟨ms2 ++ ms1, by rw [d3, d1, List.append_assoc], (d2.step h5.fr).app hN.fr.size d2.lt d4⟩, hN.trans h5⟩
theorem GoesE.step {lim : Pos} {k : Ex → PT AV → Pos → PT AO → Res} {L L1 : List Out} {ρ ρ1 : Ren} {n n1 : Pos} {H H1 : PT AO} {w w1 : World} {A A1 A' : Act} {w' : World} {e : Exit} (hN : Now lim ρ n H w ρ1 n1 H1 w1) (hd : ∃ ms, A1.defers = ms ++ A.defers ∧ MarksOk ρ1 (hp H1) w1 w.heap.size ms) (hL : ∀ x ∈ L1, x ∈ L)
    (h : GoesE lim k L1 ρ1 n1 H1 w1 A1 e A' w') : GoesE lim k L ρ n H w A e A' w' := by
  obtain ⟨e', h1, h2⟩ := h
  exact ⟨e', h1, h2.step hN hd hL⟩
theorem putA_some {R : Type} {dst : Option Tmp} {v : AV} {a : PT AV} {k : PT AV → Option R} {r : R} (h : putA dst v a k = some r) {ρ : Ren} {A : Act} {u : Value} (hs : Slots ρ a A) (hv : conc ρ v = some u) :
    ∃ a', k a' = some r ∧ Slots ρ a' (A.put dst u) ∧ (A.put dst u).defers = A.defers := by
  unfold putA at h
  split at h
  · exact ⟨a, h, hs, rfl⟩
  · rename_i d
    obtain ⟨h1, h2⟩ := PT.updK_some _ _ _ _ _ h
    exact ⟨_, h2, hs.put hv h1, rfl⟩
theorem want_conc {ops : Array Oper} {a : PT AV} {o : Oper} {b : Bool} {ρ : Ren} {A : Act} (h : wantA ops.toList a o = some b) (hs : Slots ρ a A) : Region.wanted o (yielded ops A.tmps) = b := by
  unfold wantA at h
  unfold Region.wanted
  split at h
  · rename_i hg
    injection h with h; subst h
    simp [hg]
  · rename_i j want hg
    split at h
    · rename_i oj hj
      split at h
      · rename_i t ht
        split at h
        · rename_i b' hb
          injection h with h; subst h
          obtain ⟨x, h1, h2⟩ := hs t _ hb
          cases h1
          have hj' : ops[j]? = some oj := by simpa using hj
          simp only [hg, yielded, hj', Option.bind_some, ht, h2]
          cases b' <;> cases want <;> rfl
        · rename_i hb
          injection h with h; subst h
          obtain ⟨x, h1, h2⟩ := hs t _ hb
          cases h1
          have hj' : ops[j]? = some oj := by simpa using hj
          simp only [hg, yielded, hj', Option.bind_some, ht, h2]
          cases want <;> rfl
        · cases h
      · cases h
    · cases h
theorem seqK_some {r : Option Nat} {call : CallT} {lim : Pos} (hcall : CallOk P lim call) {ops : Array Oper} {Q : Exit → Act → World → Prop} : ∀ (l : List Oper) (i : Nat), ops.toList.drop i = l → ∀ {a : PT AV} {n : Pos} {H : PT AO} {k : PT AV → Pos → PT AO → Res} {L : List Out} {ρ : Ren} {A : Act} {w : World},
    seqK P call lim ops.toList l a n H k = some L → lim.nat ≤ n.nat → Slots ρ a A → Good ρ n (hp H) w → (∀ A' w', GoesA lim k L ρ n H w A A' w' → Q .normal A' w') → wpOpsIn (Fw r) 0 P ops Q (List.range' i l.length) A w
  | [], i, hi, a, n, H, k, L, ρ, A, w, h, hln, hs, hg, hQ => by
    show Q .normal A w
    exact hQ A w ⟨a, n, H, L, ρ, h, fun _ hx => hx, hs, marks0 rfl, Now.refl hg⟩
  | o :: l, i, hi, a, n, H, k, L, ρ, A, w, h, hln, hs, hg, hQ => by
    have ho : ops[i]? = some o := by
      have h1 : ops.toList[i]? = some o := by
        have := List.getElem?_drop (xs := ops.toList) (i := i) (j := 0)
        rw [hi] at this
        simpa using this.symm
      simpa using h1
    have hi' : ops.toList.drop (i + 1) = l := by
      rw [← List.drop_drop, hi]; rfl
    rw [List.length_cons, List.range'_succ]
    unfold wpOpsIn
    simp only [ho]
    unfold seqK at h
    split at h
    · rename_i hw
      rw [if_pos (want_conc hw hs)]
      refine opK_some hcall h hln hs hg ?_
      rintro u w1 ⟨v, n1, H1, L1, ρ1, h1, h2, h3, h4⟩
      obtain ⟨a1, h5, h6, h7⟩ := putA_some h1 (hs.le h4.fr.le) h3
      refine seqK_some hcall l (i + 1) hi' h5 (Nat.le_trans hln h4.fr.num) h6 h4.good ?_
      intro A' w' hgo
      exact hQ A' w' (hgo.step h4 (marks0 h7) h2)
    · rename_i hw
      rw [if_neg (by rw [want_conc hw hs]; simp)]
      obtain ⟨a1, h5, h6, h7⟩ := putA_some h hs (u := undef) rfl
      refine ⟨fun _ _ => trivial, seqK_some hcall l (i + 1) hi' h5 hln h6 hg ?_⟩
      intro A' w' hgo
      exact hQ A' w' (hgo.step (Now.refl hg) (marks0 h7) (fun _ hx => hx))
    · cases h
def ExecOk (P : Program) (ex : ExecT) : Prop :=
  ∀ lim c a n H k L, ex lim c a n H k = some L → lim.nat ≤ n.nat → ∀ (r : Option Nat), r = none ∨ noRF c = true → ∀ (ρ : Ren) (A : Act) (w : World), Slots ρ a A → Good ρ n (hp H) w → c.wpIn (Fw r) 0 P (GoesE lim k L ρ n H w A) A w
def resOf (tmps : Array Value) : ResultVar → Sem Value
  | .tmp t => pure (tmps.getD t undef)
  | .cell a t => do loadVar t (← asAddr (tmps.getD a undef))
theorem results_eq (fn : Func) (tmps : Array Value) : results fn tmps = (do let vs ← fn.results.mapM (resOf tmps); pure (if h : vs.size = 1 then vs[0] else .tuple vs)) := by
  unfold results
  congr 1
theorem resA_run {ρ : Ren} {n : Pos} {H : PT AO} {w : World} {a : PT AV} {A : Act} (hs : Slots ρ a A) (hg : Good ρ n (hp H) w) : ∀ (rs : List ResultVar) {l : List AV}, resA P a H rs = some l →
    ∃ us, concs ρ l = some us ∧ (rs.mapM (resOf A.tmps)).run P w = .ok us w
  | [], l, h => by injection h with h; subst h; exact ⟨[], rfl, rfl⟩
  | .tmp t :: rs, l, h => by
    unfold resA at h
    split at h
    · rename_i v r hv hr
      injection h with h; subst h
      obtain ⟨us, h1, h2⟩ := resA_run hs hg rs hr
      obtain ⟨x, h3, h4⟩ := hs t v hv
      refine ⟨x :: us, concs_mk h3 h1, ?_⟩
      have e1 : A.tmps.getD t undef = x := by simp [Array.getD_eq_getD_getElem?, h4]
      simp only [List.mapM_cons, resOf, e1, Sem.run_bind, Sem.run_pure, Result.andThen_ok]
      rw [show (List.mapM (resOf A.tmps) rs).run P w = .ok us w from h2]
      rfl
    · cases h
  | .cell t ty :: rs, l, h => by
    unfold resA at h
    split at h
    · rename_i xv hx
      split at h
      · rename_i v r hv hr
        injection h with h; subst h
        obtain ⟨us, h1, h2⟩ := resA_run hs hg rs hr
        obtain ⟨x, h3, h4⟩ := hs t xv hx
        obtain ⟨y, h5, h6⟩ := run_loadA (P := P) hg hv h3
        have hptr : ∃ ad, x = .pointer (some ad) := by
          unfold loadA at hv
          split at hv
          · obtain ⟨k, d, e, _, rfl⟩ := conc_ptr h3; exact ⟨_, rfl⟩
          · cases hv
        obtain ⟨ad, rfl⟩ := hptr
        refine ⟨y :: us, concs_mk h5 h1, ?_⟩
        have h7 : (loadVar ty ad).run P w = .ok y w := by simpa [Instr.loadAt, Instr.sureAddr] using h6
        have e1 : A.tmps.getD t undef = .pointer (some ad) := by simp [Array.getD_eq_getD_getElem?, h4]
        have e2 : asAddr (.pointer (some ad)) = pure ad := rfl
        simp only [List.mapM_cons, resOf, e1, e2, Sem.run_bind, Sem.run_pure, Result.andThen_ok, h7]
        rw [show (List.mapM (resOf A.tmps) rs).run P w = .ok us w from h2]
        rfl
      · cases h
    · cases h
theorem results_run {fn : Func} {ρ : Ren} {n : Pos} {H : PT AO} {w : World} {a : PT AV} {A : Act} {l : List AV} (hs : Slots ρ a A) (hg : Good ρ n (hp H) w) (h : resA P a H fn.results.toList = some l) :
    ∃ us, concs ρ l = some us ∧ (results fn A.tmps).run P w = .ok (match us with | [u] => u | us => .tuple us.toArray) w := by
  obtain ⟨us, h1, h2⟩ := resA_run hs hg _ h
  refine ⟨us, h1, ?_⟩
  have h3 : (fn.results.mapM (resOf A.tmps)).run P w = .ok us.toArray w := by
    rw [Array.mapM_eq_mapM_toList, Sem.run_map, h2]
    rfl
  rw [results_eq]
  simp only [Sem.run_bind, h3, Result.andThen_ok, Sem.run_pure]
  match us with
  | [] => simp
  | [u] => simp
  | u :: v :: r => simp
theorem initF_slots {ρ : Ren} {args : List AV} {us : List Value} {nt : Nat} (h : concs ρ args = some us) : Slots ρ (fillT args 0 (initF nt)) { tmps := us.toArray ++ Array.replicate (nt - us.toArray.size) undef, defers := [] } := by
  intro t v e
  have hl := concs_len h
  rw [fillT_get] at e
  by_cases ht : t < args.length
  · rw [if_pos (by omega), Nat.sub_zero] at e
    obtain ⟨y, h1, h2⟩ := concs_get h e
    refine ⟨y, h2, ?_⟩
    simp only
    rw [Array.getElem?_append_left (by simp; omega)]
    simpa using h1
  · rw [if_neg (by omega)] at e
    unfold initF at e
    rw [rowK_eq, fillT_get] at e
    by_cases hn : t < nt
    · rw [if_pos (by simp; omega)] at e
      simp [hn] at e
      subst e
      refine ⟨undef, rfl, ?_⟩
      simp only
      rw [Array.getElem?_append_right (by simp; omega), Array.getElem?_replicate, if_pos (by simp only [List.size_toArray]; omega)]
    · rw [if_neg (by simp; omega), PT.get_lf] at e
      cases e
end
end Go.Proofs.YthggliknnmhbdaaGreat.Abs
end
/- One outcome of several ways that are alike. No conditions. -/
section
set_option linter.unusedVariables false
namespace Go.Proofs.YthggliknnmhbdaaGreat.Abs
open Go Go.RowKit
noncomputable def renOf (n0 : Pos) (M : Pairs) (ρ0 ρi : Ren) : Ren :=
  { at_ := fun b => if b.nat < n0.nat then ρ0.at_ b else (match hasKey b M with | some c => ρi.at_ c | none => none), sy := ρ0.sy, one := ρ0.one }
section
variable {n0 : Pos} {M : Pairs} {ρ0 ρi : Ren}
theorem okId_at (hold : ∀ b : Pos, b.nat < n0.nat → ρi.at_ b = ρ0.at_ b) {b c : Pos} (h : okId n0 M b c = true) : (renOf n0 M ρ0 ρi).at_ b = ρi.at_ c := by
  unfold okId at h
  show (if b.nat < n0.nat then ρ0.at_ b else _) = _
  split at h
  · rename_i hb
    rw [Nat.blt_eq] at hb
    have : b = c := by simpa using h
    subst this
    rw [if_pos hb, hold b hb]
  · rename_i hb
    rw [Nat.blt_eq] at hb
    rw [if_neg hb]
    split at h
    · rename_i y hy
      have : y = c := by simpa using h
      subst this
      rw [hy]
    · cases h
mutual
theorem likeV_conc (hold : ∀ b : Pos, b.nat < n0.nat → ρi.at_ b = ρ0.at_ b) : ∀ (x y : AV) {u : Value}, likeV n0 M x y = true → conc ρi y = some u → conc (renOf n0 M ρ0 ρi) x = some u
  | .ptr b o, y, u, h, hy => by
    cases y with
    | ptr c p =>
      simp only [likeV, Bool.and_eq_true, beq_iff_eq] at h
      obtain ⟨h1, rfl⟩ := h
      unfold conc at hy ⊢
      rw [okId_at hold h1]; exact hy
    | _ => simp [likeV, eqVal] at h
  | .slc b o l c e, y, u, h, hy => by
    cases y with
    | slc b' o' l' c' e' =>
      simp only [likeV, Bool.and_eq_true, beq_iff_eq] at h
      obtain ⟨⟨⟨⟨h1, rfl⟩, rfl⟩, rfl⟩, rfl⟩ := h
      unfold conc at hy ⊢
      rw [okId_at hold h1]; exact hy
    | _ => simp [likeV, eqVal] at h
  | .slz b o p, y, u, h, hy => by
    cases y with
    | slz b' o' p' =>
      simp only [likeV, Bool.and_eq_true, beq_iff_eq] at h
      obtain ⟨⟨h1, rfl⟩, rfl⟩ := h
      unfold conc at hy ⊢
      rw [okId_at hold h1]; exact hy
    | _ => simp [likeV, eqVal] at h
  | .map b, y, u, h, hy => by
    cases y with
    | map c =>
      simp only [likeV] at h
      unfold conc at hy ⊢
      rw [okId_at hold h]; exact hy
    | _ => simp [likeV, eqVal] at h
  | .fn f l m, y, u, h, hy => by
    cases y with
    | fn f' l' m' =>
      simp only [likeV, Bool.and_eq_true, beq_iff_eq] at h
      obtain ⟨⟨rfl, h1⟩, h2⟩ := h
      obtain ⟨x, z, e1, e2, rfl⟩ := conc_fn hy
      unfold conc
      rw [likeL_conc hold l l' h1 e1, likeL_conc hold m m' h2 e2]
    | _ => simp [likeV, eqVal] at h
  | .agg l, y, u, h, hy => by
    cases y with
    | agg m =>
      simp only [likeV] at h
      obtain ⟨xs, e1, rfl⟩ := conc_agg hy
      exact agg_conc (likeL_conc hold l m h e1)
    | _ => simp [likeV, eqVal] at h
  | .tup l, y, u, h, hy => by
    cases y with
    | tup m =>
      simp only [likeV] at h
      obtain ⟨xs, e1, rfl⟩ := conc_tup hy
      exact tup_conc (likeL_conc hold l m h e1)
    | _ => simp [likeV, eqVal] at h
  | .int k n, y, u, h, hy => by
    have := eqVal_eq _ _ (show eqVal (.int k n) y = true by cases y <;> simpa [likeV] using h)
    subst this; exact hy
  | .bool b, y, u, h, hy => by
    have := eqVal_eq _ _ (show eqVal (.bool b) y = true by cases y <;> simpa [likeV] using h)
    subst this; exact hy
  | .str l, y, u, h, hy => by
    have := eqVal_eq _ _ (show eqVal (.str l) y = true by cases y <;> simpa [likeV] using h)
    subst this; exact hy
  | .nilp, y, u, h, hy => by
    have := eqVal_eq _ _ (show eqVal .nilp y = true by cases y <;> simpa [likeV] using h)
    subst this; exact hy
  | .nils, y, u, h, hy => by
    have := eqVal_eq _ _ (show eqVal .nils y = true by cases y <;> simpa [likeV] using h)
    subst this; exact hy
  | .nilm, y, u, h, hy => by
    have := eqVal_eq _ _ (show eqVal .nilm y = true by cases y <;> simpa [likeV] using h)
    subst this; exact hy
  | .nilf, y, u, h, hy => by
    have := eqVal_eq _ _ (show eqVal .nilf y = true by cases y <;> simpa [likeV] using h)
    subst this; exact hy
  | .nili, y, u, h, hy => by
    have := eqVal_eq _ _ (show eqVal .nili y = true by cases y <;> simpa [likeV] using h)
    subst this; exact hy
  | .ifc t v, y, u, h, hy => by cases y <;> simp [likeV, eqVal] at h
  | .sym j, y, u, h, hy => by cases y <;> simp [likeV, eqVal] at h
theorem likeL_conc (hold : ∀ b : Pos, b.nat < n0.nat → ρi.at_ b = ρ0.at_ b) : ∀ (l m : List AV) {us : List Value}, likeL n0 M l m = true → concs ρi m = some us → concs (renOf n0 M ρ0 ρi) l = some us
  | [], [], us, _, h => h
  | [], _ :: _, us, h, _ => by simp [likeL] at h
  | _ :: _, [], us, h, _ => by simp [likeL] at h
  | x :: l, y :: m, us, h, hu => by
    simp only [likeL, Bool.and_eq_true] at h
    obtain ⟨z, zs, rfl, h1, h2⟩ := concs_cons hu
    exact concs_mk (likeV_conc hold x y h.1 h1) (likeL_conc hold l m h.2 h2)
end
theorem likeCells_at {cs cs' : PT AV} {d d' : Option AV} : ∀ {n : Nat}, likeCells n0 M cs d cs' d' n = true → ∀ i, i < n → ∃ x y, cellA cs d i = some x ∧ cellA cs' d' i = some y ∧ likeV n0 M x y = true
  | 0, _, i, hi => by omega
  | n + 1, h, i, hi => by
    simp only [likeCells, Bool.and_eq_true] at h
    by_cases e : i = n
    · subst e
      have h1 := h.1
      split at h1
      · rename_i x y hx hy; exact ⟨x, y, hx, hy, h1⟩
      · cases h1
    · exact likeCells_at h.2 i (by omega)
theorem nodup_mem : ∀ {M : Pairs}, nodupM n0 M = true → ∀ {b c : Pos}, (b, c) ∈ M → n0.nat ≤ b.nat ∧ n0.nat ≤ c.nat ∧ hasKey b M = some c
  | [], _, b, c, h => by cases h
  | (x, y) :: M, h, b, c, hm => by
    simp only [nodupM, Bool.and_eq_true] at h
    obtain ⟨⟨⟨h1, h2⟩, h3⟩, h4⟩ := h
    rcases List.mem_cons.1 hm with e | hm
    · injection e with e1 e2
      subst e1; subst e2
      exact ⟨Nat.le_of_ble_eq_true h1, Nat.le_of_ble_eq_true h2, by simp [hasKey]⟩
    · obtain ⟨g1, g2, g3⟩ := nodup_mem h4 hm
      refine ⟨g1, g2, ?_⟩
      have := List.all_eq_true.1 h3 (b, c) hm
      simp only [Bool.and_eq_true, bne_iff_ne] at this
      simp only [hasKey]
      rw [if_neg (fun e => this.1 e.symm)]
      exact g3
theorem nodup_val : ∀ {M : Pairs}, nodupM n0 M = true → ∀ {b b' c : Pos}, (b, c) ∈ M → (b', c) ∈ M → b = b'
  | [], _, b, b', c, h, _ => by cases h
  | (x, y) :: M, h, b, b', c, hm, hm' => by
    simp only [nodupM, Bool.and_eq_true] at h
    obtain ⟨⟨⟨h1, h2⟩, h3⟩, h4⟩ := h
    rcases List.mem_cons.1 hm with e | hm
    · injection e with e1 e2
      rcases List.mem_cons.1 hm' with e' | hm'
      · injection e' with e3 e4; rw [e1, e3]
      · have := List.all_eq_true.1 h3 _ hm'
        simp only [Bool.and_eq_true, bne_iff_ne] at this
        exact absurd e2 this.2
    · rcases List.mem_cons.1 hm' with e' | hm'
      · injection e' with e3 e4
        have := List.all_eq_true.1 h3 _ hm
        simp only [Bool.and_eq_true, bne_iff_ne] at this
        exact absurd e4 this.2
      · exact nodup_val h4 hm hm'
theorem EntC.back (hle : ρ0.le ρi) : ∀ {l : List Ent} {m m' : List MapEntry}, EntC ρ0 l m' → EntC ρi l m → EntC ρ0 l m
  | [], [], _, _, _ => trivial
  | [], _ :: _, _, _, h => h.elim
  | _ :: _, [], _, _, h => h.elim
  | _ :: _, _ :: _, [], h, _ => h.elim
  | (k, v, b) :: l, e :: m, e' :: m', ⟨a1, a2, a3, a4⟩, ⟨b1, b2, b3, b4⟩ => by
    have c1 := conc_le hle _ a1
    have c2 := conc_le hle _ a2
    rw [b1] at c1; injection c1 with c1
    rw [b2] at c2; injection c2 with c2
    exact ⟨by rw [c1]; exact a1, by rw [c2]; exact a2, b3, EntC.back hle a4 b4⟩
theorem ObjC.back (hle : ρ0.le ρi) {d x : Nat} {ao : AO} {o o' : Obj} (h : ObjC ρ0 d x ao o') (k : ObjC ρi d x ao o) : ObjC ρ0 d x ao o := by
  cases ao with
  | loop a ps assign body st pend =>
    cases o' <;> first | exact h.elim | skip
    cases o <;> first | exact k.elim | skip
    refine ⟨k.1, k.2.1, k.2.2.1, k.2.2.2.1, k.2.2.2.2.1, k.2.2.2.2.2.1, fun t v e => ?_⟩
    obtain ⟨u, h1, h2⟩ := h.2.2.2.2.2.2 t v e
    obtain ⟨u', k1, k2⟩ := k.2.2.2.2.2.2 t v e
    have := conc_le hle _ h1
    rw [k1] at this; injection this with this; subst this
    exact ⟨_, h1, k2⟩
  | row cs n df es ty =>
    cases o' <;> first | exact h.elim | skip
    cases o <;> first | exact k.elim | skip
    refine ⟨fun i hi => ?_, k.2⟩
    obtain ⟨v, u, h1, h2, h3, h4⟩ := h.1 i hi
    obtain ⟨v', u', k1, k2, k3, k4⟩ := k.1 i hi
    rw [h1] at k1; injection k1 with k1; subst k1
    have := conc_le hle _ h2
    rw [k2] at this; injection this with this; subst this
    exact ⟨v, u', h1, h2, k3, k4⟩
  | map es c =>
    cases o' <;> first | exact h.elim | skip
    cases o <;> first | exact k.elim | skip
    exact ⟨k.1, EntC.back hle h.2 k.2⟩
  | mit m since seen st =>
    cases o' <;> first | exact h.elim | skip
    cases o <;> first | exact k.elim | skip
    refine ⟨⟨k.1.1, fun b hb => ?_⟩, k.2⟩
    obtain ⟨q, d1, x1, e1, e2⟩ := h.1.2 b hb
    obtain ⟨q', d2, x2, e3, e4⟩ := k.1.2 b hb
    have := hle.at_ _ _ e1
    rw [e3] at this; injection this with this; injection this with t1 t2
    subst t1
    exact ⟨_, d1, x1, e1, e4⟩
end
theorem keepK_some {R : Type} {H1 : PT AO} : ∀ {l : List Pos} {H : PT AO} {k : PT AO → Option R} {r : R}, keepK H1 l H k = some r →
    ∃ Hf, k Hf = some r ∧ (∀ b, b ∈ l → ∃ o, PT.get b H1 = some o ∧ PT.get b Hf = some o) ∧ ∀ b, b ∉ l → PT.get b Hf = PT.get b H
  | [], H, k, r, h => ⟨H, h, (fun b hb => by cases hb), fun _ _ => rfl⟩
  | b :: l, H, k, r, h => by
    unfold keepK at h
    split at h
    · rename_i o ho
      rw [PT.setK_eq] at h
      obtain ⟨Hf, h1, h2, h3⟩ := keepK_some h
      refine ⟨Hf, h1, fun q hq => ?_, fun q hq => ?_⟩
      · by_cases hql : q ∈ l
        · exact h2 q hql
        · rcases List.mem_cons.1 hq with rfl | hq
          · exact ⟨o, ho, by rw [h3 q hql, PT.get_set, if_pos rfl]⟩
          · exact absurd hq hql
      · rw [h3 q (fun e => hq (by simp [e])), PT.get_set, if_neg (fun e => hq (by simp [e]))]
    · cases h
theorem maxP_le (p q : Pos) : p.nat ≤ (maxP p q).nat ∧ q.nat ≤ (maxP p q).nat := by
  unfold maxP
  split
  · rename_i h; exact ⟨Nat.le_refl _, Nat.le_of_ble_eq_true h⟩
  · rename_i h
    refine ⟨?_, Nat.le_refl _⟩
    rcases Nat.lt_or_ge p.nat q.nat with h1 | h1
    · omega
    · exact absurd (Nat.ble_eq_true_of_le h1) h
theorem foldl_max : ∀ (l : List Out) (p : Pos), p.nat ≤ (l.foldl (fun p o => maxP p o.2.1) p).nat ∧ ∀ o ∈ l, o.2.1.nat ≤ (l.foldl (fun p o => maxP p o.2.1) p).nat
  | [], p => ⟨Nat.le_refl _, fun o h => by cases h⟩
  | o :: l, p => by
    obtain ⟨h1, h2⟩ := foldl_max l (maxP p o.2.1)
    obtain ⟨h3, h4⟩ := maxP_le p o.2.1
    refine ⟨Nat.le_trans h3 h1, fun q hq => ?_⟩
    rcases List.mem_cons.1 hq with rfl | hq
    · exact Nat.le_trans h4 h1
    · exact h2 q hq
theorem alikeK_some {n0 lim : Pos} {H0 : PT AO} {L L2 : List Out} {k : AV → Pos → PT AO → Res} (h : alikeK n0 H0 L k = some L2) (hln : lim.nat ≤ n0.nat) {ρ0 ρi : Ren} {w w' : World} {vi : AV} {ni : Pos} {Hi : PT AO} {u : Value} (hg0 : Good ρ0 n0 (hp H0) w)
    (hmem : (vi, ni, Hi) ∈ L) (hu : conc ρi vi = some u) (hN : Now n0 ρ0 n0 H0 w ρi ni Hi w') : Goes lim k L2 ρ0 n0 H0 w u w' := by
  unfold alikeK at h
  split at h
  · cases h
  · rename_i v n H
    rcases List.mem_cons.1 hmem with e | e
    · injection e with e1 e; injection e with e2 e3
      subst e1; subst e2; subst e3
      exact ⟨vi, ni, Hi, L2, ρi, h, fun _ hx => hx, hu, hN.good, hN.fr, fun q hq => hN.keep q (by omega)⟩
    · cases e
  · rename_i v n H rest hne
    rw [forceL_eq] at h
    split at h
    · rename_i hc
      simp only [Bool.and_eq_true] at hc
      obtain ⟨hc1, hc2⟩ := hc
      have hlike := List.all_eq_true.1 hc1 _ hmem
      obtain ⟨Hf, hk, hf1, hf2⟩ := keepK_some h
      clear h
      simp only [likeOne, Bool.and_eq_true, beq_iff_eq] at hlike
      generalize growM n0 H Hi 100000 (pairsV v vi) [] = M at hlike
      obtain ⟨⟨⟨hnd, hv⟩, hall⟩, hkeys⟩ := hlike
      generalize (growM n0 H H 100000 (pairsV v v) []).map (·.1) = keys at *
      have hold : ∀ b : Pos, b.nat < n0.nat → ρi.at_ b = ρ0.at_ b := hN.fr.old
      have hkm : ∀ b, b ∈ keys ↔ ∃ c, (b, c) ∈ M := by
        intro b
        rw [← hkeys]
        constructor
        · intro hb
          obtain ⟨⟨x, c⟩, h1, h2⟩ := List.mem_map.1 hb
          exact ⟨c, by simpa using h2 ▸ h1⟩
        · rintro ⟨c, hc⟩
          exact List.mem_map.2 ⟨(b, c), hc, rfl⟩
      have hmax := foldl_max rest n
      have hnmax : ni.nat ≤ (rest.foldl (fun p o => maxP p o.2.1) n).nat := by
        rcases List.mem_cons.1 hmem with e | e
        · injection e with e1 e; injection e with e2 e3
          subst e2; exact hmax.1
        · exact hmax.2 _ e
      have hrat : ∀ b c, (b, c) ∈ M → (renOf n0 M ρ0 ρi).at_ b = ρi.at_ c := by
        intro b c hbc
        obtain ⟨h1, h2, h3⟩ := nodup_mem hnd hbc
        show (if b.nat < n0.nat then ρ0.at_ b else _) = _
        rw [if_neg (by omega), h3]
      have hrold : ∀ b : Pos, b.nat < n0.nat → (renOf n0 M ρ0 ρi).at_ b = ρ0.at_ b := by
        intro b hb
        show (if b.nat < n0.nat then ρ0.at_ b else _) = _
        rw [if_pos hb]
      have hle : ρ0.le (renOf n0 M ρ0 ρi) := ⟨fun b x e => by
        have hb : b.nat < n0.nat := by
          rcases Nat.lt_or_ge b.nat n0.nat with h1 | h1
          · exact h1
          · rw [hg0.fresh b h1] at e; cases e
        rw [hrold b hb]; exact e, rfl⟩
      have holdH : ∀ b ao, PT.get b H0 = some ao → b.nat < n0.nat := by
        intro b ao e
        obtain ⟨kk, d, x, hx⟩ := hg0.ids b ao e
        rcases Nat.lt_or_ge b.nat n0.nat with h1 | h1
        · exact h1
        · rw [hg0.fresh b h1] at hx; cases hx
      -- each name of the joined heap, and what it stands for in this outcome
      have hstand : ∀ b ao, PT.get b Hf = some ao → ∃ c ao', PT.get c Hi = some ao' ∧ (renOf n0 M ρ0 ρi).at_ b = ρi.at_ c ∧ ((∃ c', (b, c') ∈ M ∧ c = c') ∨ (b ∉ keys ∧ c = b ∧ b.nat < n0.nat ∧ PT.get b H0 = some ao)) := by
        intro b ao e
        by_cases hb : b ∈ keys
        · obtain ⟨c, hbc⟩ := (hkm b).1 hb
          have hl := List.all_eq_true.1 hall _ hbc
          simp only [likeO] at hl
          split at hl
          · rename_i o1 o2 cs m d es ty cs' m' d' es' ty' e1 e2
            exact ⟨c, _, e2, hrat b c hbc, .inl ⟨c, hbc, rfl⟩⟩
          · cases hl
        · rw [hf2 b hb] at e
          have hb0 := holdH b ao e
          have := hN.keep b hb0
          exact ⟨b, ao, by rw [this]; exact e, by rw [hrold b hb0, hold b hb0], .inr ⟨hb, rfl, hb0, e⟩⟩
      have hgi := hN.good
      have hgood : Good (renOf n0 M ρ0 ρi) (rest.foldl (fun p o => maxP p o.2.1) n) (hp Hf) w' := by
        refine ⟨fun b ao e => ?_, fun b b' ao ao' q d x d' x' e1 e2 e3 e4 => ?_, fun b hb => ?_⟩
        · obtain ⟨c, ao', h1, h2, h3⟩ := hstand b ao e
          obtain ⟨q, d, x, o, g1, g2, g3⟩ := hgi.rep c ao' h1
          refine ⟨q, d, x, o, by rw [h2]; exact g1, g2, ?_⟩
          rcases h3 with ⟨c', hbc, rfl⟩ | ⟨hb, rfl, hb0, e0⟩
          · obtain ⟨oo, f1, f2⟩ := hf1 b ((hkm b).2 ⟨_, hbc⟩)
            have e' : PT.get b Hf = some ao := e
            rw [f2] at e'; injection e' with e'; subst e'
            have hl := List.all_eq_true.1 hall _ hbc
            simp only [likeO] at hl
            split at hl
            · rename_i o1 o2 cs m d1 es ty cs' m' d1' es' ty' e1 e2
              rw [f1] at e1; injection e1 with e1
              rw [h1] at e2; injection e2 with e2
              subst e1; subst e2
              simp only [Bool.and_eq_true, beq_iff_eq] at hl
              obtain ⟨⟨⟨rfl, rfl⟩, rfl⟩, hcells⟩ := hl
              cases o <;> first | exact g3.elim | skip
              refine ⟨fun i hi => ?_, g3.2⟩
              obtain ⟨xv, yv, c1, c2, c3⟩ := likeCells_at hcells i hi
              obtain ⟨y', uu, c4, c5, c6, c7⟩ := g3.1 i hi
              rw [c2] at c4; injection c4 with c4; subst c4
              exact ⟨xv, uu, c1, likeV_conc hold xv yv c3 c5, c6, c7⟩
            · cases hl
          · have hk0 := hN.keep c hb0
            have h1' : PT.get c Hi = some ao' := h1
            rw [hk0, e0] at h1'
            injection h1' with h1'; subst h1'
            obtain ⟨q0, d0, x0, o0, r1, r2, r3⟩ := hg0.rep c ao e0
            have := hN.fr.le.at_ _ _ r1
            rw [g1] at this; injection this with this; injection this with t1 t2; injection t2 with t2 t3
            subst t1; subst t2; subst t3
            exact (ObjC.back hN.fr.le r3 g3).le hle
        · obtain ⟨c, a1, h1, h2, h3⟩ := hstand b ao e1
          obtain ⟨c', a2, h1', h2', h3'⟩ := hstand b' ao' e2
          rw [h2] at e3; rw [h2'] at e4
          have hcc := hgi.inj c c' a1 a2 q d x d' x' h1 h1' e3 e4
          subst hcc
          rcases h3 with ⟨c1, hbc, rfl⟩ | ⟨hb, rfl, hb0, _⟩
          · rcases h3' with ⟨c2, hbc', rfl⟩ | ⟨hb', rfl, hb0', _⟩
            · exact nodup_val hnd hbc hbc'
            · have := (nodup_mem hnd hbc).2.1; omega
          · rcases h3' with ⟨c2, hbc', rfl⟩ | ⟨hb', hcb, hb0', _⟩
            · have := (nodup_mem hnd hbc').2.1; omega
            · exact hcb
        · show (if b.nat < n0.nat then ρ0.at_ b else _) = none
          have hn0 := hN.fr.num
          rw [if_neg (by omega)]
          split
          · rename_i c hc
            have hbk : b ∈ keys := by
              have : ∀ {M : Pairs}, hasKey b M = some c → (b, c) ∈ M := by
                intro M
                induction M with
                | nil => intro h; cases h
                | cons p M ih =>
                  obtain ⟨x, y⟩ := p
                  intro h
                  simp only [hasKey] at h
                  split at h
                  · rename_i hx; injection h with h; subst hx; subst h; simp
                  · exact List.mem_cons_of_mem _ (ih h)
              exact (hkm b).2 ⟨c, this hc⟩
            have := List.all_eq_true.1 hc2 b hbk
            rw [Nat.blt_eq] at this
            have := hmax.1
            omega
          · rfl
      refine ⟨v, _, Hf, L2, renOf n0 M ρ0 ρi, hk, fun _ hx => hx, likeV_conc hold v vi hv hu, hgood, ⟨hle, Nat.le_trans hN.fr.num hnmax, hrold, hN.fr.os, hN.fr.tape, hN.fr.output, hN.fr.size, hN.fr.block, fun b ao q d x e1 e2 => ?_, fun b ao e => ?_⟩, fun q hq => ?_⟩
      · obtain ⟨c, a1, h1, h2, _⟩ := hstand b ao e1
        rw [h2] at e2
        exact hN.fr.new c a1 q d x h1 e2
      · by_cases hb : b ∈ keys
        · obtain ⟨c, hbc⟩ := (hkm b).1 hb
          exact .inr (nodup_mem hnd hbc).1
        · have e' : PT.get b Hf = some ao := e
          rw [hf2 b hb] at e'
          exact .inl ⟨ao, e'⟩
      · refine hf2 q (fun hb => ?_)
        obtain ⟨c, hbc⟩ := (hkm q).1 hb
        have := (nodup_mem hnd hbc).1
        omega
    · cases h
end Go.Proofs.YthggliknnmhbdaaGreat.Abs
end
/- Small words for ranges over functions: a block that is named again; the params laid. No conditions. -/
section
set_option linter.unusedVariables false
namespace Go.Proofs.YthggliknnmhbdaaGreat.Abs
open Go Go.RowKit
section
variable {F : Fence} {m : Nat} {P : Program} {b : Frame} {a : Act} {k : List Item} {cs : List Frame} {w : World} {Q : Exit → Act → World → Prop}
theorem stepR_scope {c : Code} : step P (lone (b.atR a (.code (.scope c) :: k)) cs w) = .next (lone (b.atR a (.code c :: .inScope c :: k)) cs w) :=
  step_lone_go (by simp [stepG, stepG.exec, Frame.atR])
theorem stepR_inScope {c : Code} : step P (lone (b.atR a (.inScope c :: k)) cs w) = .next (lone (b.atR a k) cs w) :=
  step_lone_go (by simp [stepG, stepG.exec, Frame.atR])
/-- a scope through which the run goes without a goto -/
theorem wpIn_scope {c : Code} (h : c.wpIn F m P (fun e a w => (∀ l, e ≠ .goto l) ∧ Q e a w) a w) : (Code.scope c).wpIn F m P Q a w := by
  intro b k cs hro hb hr
  have h0 : (lone (b.atR a (.code (.scope c) :: k)) cs w).fenced P F := fenced_calm hb hr rfl
  obtain ⟨e, a₁, w₁, hq, harr⟩ := h b (.inScope c :: k) cs hro hb hr
  cases e with
  | normal => exact ⟨.normal, a₁, w₁, hq.2, .head h0 stepR_scope (StepsIn.trans harr (.one (fenced_calm hb hr rfl) stepR_inScope))⟩
  | exit id =>
    have hx : exitTo id (.inScope c :: k) = exitTo id k := by simp [exitTo]
    exact ⟨.exit id, a₁, w₁, hq.2, fun k' hk => .head h0 stepR_scope (harr.1 k' (by rw [hx]; exact hk)),
      fun hr' hk => let ⟨k₁, h1, h2⟩ := harr.2 hr' (by rw [hx]; exact hk); ⟨k₁, h1, .head h0 stepR_scope h2⟩⟩
  | goto l => exact (hq.1 l rfl).elim
  | ret => exact ⟨_, a₁, w₁, hq.2, .of_steps (.one h0 stepR_scope) harr⟩
  | panic ch => exact ⟨_, a₁, w₁, hq.2, .of_steps (.one h0 stepR_scope) harr⟩
  | outgrown => exact ⟨_, a₁, w₁, hq.2, .of_steps (.one h0 stepR_scope) harr⟩
end
/-- a block without a name is named -/
theorem Good.name {ρ : Ren} {n : Pos} {g : Hp} {w : World} (h : Good ρ n g w) {b : Pos} {k d x : Nat} {ao : AO} {o : Obj} (hb : ρ.at_ b = some (k, d, x)) (hk : w.heap[k]? = some o)
    (hu : ∀ b' ao' d' x', g b' = some ao' → ρ.at_ b' ≠ some (k, d', x')) (ho : ObjC ρ d x ao o) : Good ρ n (g.set b ao) w := by
  refine ⟨fun q a e => ?_, fun q q' a a' k1 d1 x1 d2 x2 e1 e2 e3 e4 => ?_, h.fresh⟩
  · simp only [Hp.set] at e
    split at e
    · rename_i hq; subst hq
      injection e with e; subst e
      exact ⟨k, d, x, o, hb, hk, ho⟩
    · exact h.rep q a e
  · simp only [Hp.set] at e1 e2
    by_cases hq : q = b
    · by_cases hq' : q' = b
      · rw [hq, hq']
      · rw [if_neg hq'] at e2
        rw [hq, hb] at e3
        injection e3 with e3; injection e3 with e3; subst e3
        exact (hu q' a' d2 x2 e2 e4).elim
    · rw [if_neg hq] at e1
      by_cases hq' : q' = b
      · rw [hq', hb] at e4
        injection e4 with e4; injection e4 with e4; subst e4
        exact (hu q a d1 x1 e1 e3).elim
      · rw [if_neg hq'] at e2
        exact h.inj q q' a a' k1 d1 x1 d2 x2 e1 e2 e3 e4
/-- a name is taken away -/
theorem Good.unname {ρ : Ren} {n : Pos} {g : Hp} {w : World} (h : Good ρ n g w) (b : Pos) : Good ρ n (g.del b) w := h.sub (fun q a e => by
  simp only [Hp.del] at e
  split at e
  · cases e
  · exact e)
theorem Good.unnamed {ρ : Ren} {n : Pos} {g : Hp} {w : World} (h : Good ρ n g w) {b : Pos} {ao : AO} {k d x : Nat} (hb : g b = some ao) (hk : ρ.at_ b = some (k, d, x)) : ∀ b' ao' d' x', g.del b b' = some ao' → ρ.at_ b' ≠ some (k, d', x') := by
  intro b' ao' d' x' e e'
  simp only [Hp.del] at e
  split at e
  · cases e
  · rename_i hne
    exact hne (h.inj b' b ao' ao k d' x' d x e hb e' hk)
/-- an unnamed block stays as it is, and without a name -/
theorem Fr.unnamed {ρ ρ' : Ren} {n n' : Pos} {g g' : Hp} {w w' : World} (hF : Fr ρ n g w ρ' n' g' w') {k : Nat} {o : Obj} (hk : w.heap[k]? = some o) (hu : ∀ b' ao' d' x', g b' = some ao' → ρ.at_ b' ≠ some (k, d', x')) :
    w'.heap[k]? = some o ∧ ∀ b' ao' d' x', g' b' = some ao' → ρ'.at_ b' ≠ some (k, d', x') := by
  have hlt : k < w.heap.size := (Array.getElem?_eq_some_iff.1 hk).1
  refine ⟨(hF.block k hlt (fun b ao d x e => hu b ao d x e)).trans hk, fun b ao d x e1 e2 => ?_⟩
  rcases hF.new b ao k d x e1 e2 with h | ⟨b0, ao0, d0, x0, a1, a2⟩
  · omega
  · exact hu b0 ao0 d0 x0 a1 a2
theorem layK_some {ρ : Ren} {k : PT AV → Res} {L : List Out} : ∀ {ps : List Nat} {vs : List AV} {us : List Value} {a : PT AV} {A : Act}, layK ps vs a k = some L → concs ρ vs = some us → Slots ρ a A →
    ps.length = us.length ∧ ∃ a', k a' = some L ∧ Slots ρ a' { A with tmps := (ps.zip us).foldl (fun tmps x => tmps.setIfInBounds x.1 x.2) A.tmps }
  | [], [], us, a, A, h, hu, hs => by cases hu; exact ⟨rfl, a, h, hs⟩
  | [], _ :: _, us, a, A, h, hu, hs => by cases h
  | _ :: _, [], us, a, A, h, hu, hs => by cases h
  | t :: ps, v :: vs, us, a, A, h, hu, hs => by
    obtain ⟨y, ys, rfl, h1, h2⟩ := concs_cons hu
    unfold layK at h
    obtain ⟨g1, g2⟩ := PT.updK_some _ _ _ _ _ h
    obtain ⟨e1, a', e2, e3⟩ := layK_some g2 h2 (hs.put h1 g1)
    exact ⟨by simp [e1], a', e2, e3⟩
/-- a block that no abstract one names may turn -/
theorem Good.putU {ρ : Ren} {n : Pos} {g : Hp} {w : World} (h : Good ρ n g w) {d : Nat} (o : Obj) (hu : ∀ b ao d' x, g b = some ao → ρ.at_ b ≠ some (d, d', x)) : Good ρ n g (w.putObj d o) := by
  refine ⟨fun b ao e => ?_, h.inj, h.fresh⟩
  obtain ⟨k, d', x, ob, h1, h2, h3⟩ := h.rep b ao e
  exact ⟨k, d', x, ob, h1, (World.putObj_heap_other (fun e' => hu b ao d' x e (by rw [← e']; exact h1))).trans h2, h3⟩
theorem Good.allocU {ρ : Ren} {n : Pos} {g : Hp} {w : World} (h : Good ρ n g w) (o : Obj) : Good ρ n g (w.alloc o) := by
  refine ⟨fun b ao e => ?_, h.inj, h.fresh⟩
  obtain ⟨k, d', x, ob, h1, h2, h3⟩ := h.rep b ao e
  exact ⟨k, d', x, ob, h1, (Below.heap_alloc w o k (Array.getElem?_eq_some_iff.1 h2).1).trans h2, h3⟩
theorem Good.newU {ρ : Ren} {n : Pos} {g : Hp} {w : World} (h : Good ρ n g w) : ∀ b ao d x, g b = some ao → ρ.at_ b ≠ some (w.heap.size, d, x) := by
  intro b ao d x e e'
  obtain ⟨k, d', x', ob, h1, h2, h3⟩ := h.rep b ao e
  rw [e'] at h1
  injection h1 with h1; injection h1 with h1
  have := (Array.getElem?_eq_some_iff.1 h2).1
  omega
theorem Fr.allocU {ρ ρ' : Ren} {n n' : Pos} {g g' : Hp} {w w' : World} (h : Fr ρ n g w ρ' n' g' w') (o : Obj) : Fr ρ n g w ρ' n' g' (w'.alloc o) :=
  ⟨h.le, h.num, h.old, h.os, h.tape, h.output, by have := h.size; simp; omega, fun k hk hn => (Below.heap_alloc w' o k (Nat.lt_of_lt_of_le hk h.size)).trans (h.block k hk hn), h.new, h.dom⟩
/-- seen from a heap with more names -/
theorem Fr.widen {ρ ρ' : Ren} {n n' : Pos} {g0 g g' : Hp} {w w' : World} (h : Fr ρ n g0 w ρ' n' g' w') (hl : Hp.le g0 g) : Fr ρ n g w ρ' n' g' w' :=
  ⟨h.le, h.num, h.old, h.os, h.tape, h.output, h.size, fun k hk hn => h.block k hk (fun b ao d x e => hn b ao d x (hl b ao e)),
    (fun b ao k d x e1 e2 => by
      rcases h.new b ao k d x e1 e2 with h1 | ⟨b0, ao0, d0, x0, a1, a2⟩
      · exact .inl h1
      · exact .inr ⟨b0, ao0, d0, x0, hl _ _ a1, a2⟩),
    fun b ao e => by
      rcases h.dom b ao e with ⟨ao0, h1⟩ | h1
      · exact .inl ⟨ao0, hl _ _ h1⟩
      · exact .inr h1⟩
/-- a block that was named at the start, or is new, may turn -/
theorem Fr.put {ρ ρ' : Ren} {n n' : Pos} {g g' : Hp} {w w' : World} (h : Fr ρ n g w ρ' n' g' w') {d : Nat} (o : Obj) (hd : w.heap.size ≤ d ∨ ∃ b ao d0 x, g b = some ao ∧ ρ.at_ b = some (d, d0, x)) : Fr ρ n g w ρ' n' g' (w'.putObj d o) := by
  refine ⟨h.le, h.num, h.old, h.os, h.tape, h.output, by rw [World.putObj_size]; exact h.size, fun k hk hn => ?_, h.new, h.dom⟩
  refine (World.putObj_heap_other (fun e => ?_)).trans (h.block k hk hn)
  subst e
  rcases hd with h1 | ⟨b, ao, d0, x, h1, h2⟩
  · omega
  · exact hn b ao d0 x h1 h2
/-- fewer names at the end -/
theorem Fr.less {ρ ρ' : Ren} {n n' : Pos} {g g' g2 : Hp} {w w' : World} (h : Fr ρ n g w ρ' n' g' w') (hl : Hp.le g2 g') : Fr ρ n g w ρ' n' g2 w' :=
  ⟨h.le, h.num, h.old, h.os, h.tape, h.output, h.size, h.block, fun b ao k d x e => h.new b ao k d x (hl _ _ e), fun b ao e => h.dom b ao (hl _ _ e)⟩
/-- a name is given again -/
theorem Fr.name {ρ ρ' : Ren} {n n' : Pos} {g g' : Hp} {w w' : World} (h : Fr ρ n g w ρ' n' g' w') {b : Pos} {k d x : Nat} {ao0 ao : AO} (hb : g b = some ao0) (hk : ρ.at_ b = some (k, d, x)) : Fr ρ n g w ρ' n' (g'.set b ao) w' := by
  refine ⟨h.le, h.num, h.old, h.os, h.tape, h.output, h.size, h.block, fun q a k1 d1 x1 e1 e2 => ?_, fun q a e => ?_⟩
  · simp only [Hp.set] at e1
    split at e1
    · rename_i hq; subst hq
      have := h.le.at_ _ _ hk
      rw [e2] at this
      injection this with this; injection this with this; subst this
      exact .inr ⟨_, ao0, d, x, hb, hk⟩
    · exact h.new q a k1 d1 x1 e1 e2
  · simp only [Hp.set] at e
    split at e
    · rename_i hq; subst hq; exact .inl ⟨ao0, hb⟩
    · exact h.dom q a e
theorem del_le (g : Hp) (b : Pos) : Hp.le (g.del b) g := fun q a e => by
  simp only [Hp.del] at e
  split at e
  · cases e
  · exact e
end Go.Proofs.YthggliknnmhbdaaGreat.Abs
end
/- The interpreter's runs are the model's: calls and code, all together (regions that draw their order: a hypothesis). No conditions. -/
section
set_option linter.unusedVariables false
namespace Go.Proofs.YthggliknnmhbdaaGreat.Abs
open Go Go.RowKit
section
variable {P : Program} {J : Plan}
theorem wrK_init (args : List AV) (nt : Nat) (k : PT AV → Res) : wrK args 0 (initF nt) k = k (fillT args 0 (initF nt)) := wrK_eq args 0 (initF nt) k
/-- a block that no abstract one names may turn -/
theorem Now.putD {lim : Pos} {ρ ρ' : Ren} {n n' : Pos} {H H' : PT AO} {w w' : World} {d : Nat} {o : Obj} (h : Now lim ρ n H w ρ' n' H' w') (hd : w.heap.size ≤ d) (hu : ∀ b ao d' x, hp H' b = some ao → ρ'.at_ b ≠ some (d, d', x)) : Now lim ρ n H w ρ' n' H' (w'.putObj d o) := by
  have hk : ∀ k, k ≠ d → (w'.putObj d o).heap[k]? = w'.heap[k]? := fun k hk => World.putObj_heap_other hk
  refine ⟨⟨fun b ao e => ?_, h.good.inj, h.good.fresh⟩, ⟨h.fr.le, h.fr.num, h.fr.old, h.fr.os, h.fr.tape, h.fr.output, by rw [World.putObj_size]; exact h.fr.size, fun k hlt hn => (hk k (by omega)).trans (h.fr.block k hlt hn), h.fr.new, h.fr.dom⟩, h.keep⟩
  obtain ⟨k, d', x, ob, h1, h2, h3⟩ := h.good.rep b ao e
  exact ⟨k, d', x, ob, h1, (hk k (fun e' => hu b ao d' x e (by rw [← e']; exact h1))).trans h2, h3⟩
theorem MarksOk.putD {ρ : Ren} {g : Hp} {w : World} {sz d : Nat} {o : Obj} : ∀ {ms : List Deferred}, MarksOk ρ g w sz ms → (∀ e, ({ target := .collected e, args := #[] } : Deferred) ∈ ms → e ≠ d) → MarksOk ρ g (w.putObj d o) sz ms
  | [], _, _ => trivial
  | m :: ms, ⟨⟨e, h1, h2, h3, h4, h5⟩, h6⟩, hne => ⟨⟨e, h1, h2, (World.putObj_heap_other (hne e (by rw [h1]; simp))).trans h3, h4, h5⟩, h6.putD (fun e' he' => hne e' (by simp [he']))⟩
theorem leaves_marks {lim : Pos} {fn : Func} {tmps : Array Value} {R : Ending → World → Prop} {ρ ρ' : Ren} {n n' : Pos} {H H' : PT AO} {w : World} (hR : ∀ w', Now lim ρ n H w ρ' n' H' w' → ∃ v, (results fn tmps).run P w' = .ok v w' ∧ R (.returned v) w') :
    ∀ (ms : List Deferred) (w' : World), Now lim ρ n H w ρ' n' H' w' → MarksOk ρ' (hp H') w' w.heap.size ms → LeavesInM (Fw none) 0 P fn tmps R ms .returning w'
  | [], w', hN, _ => hR w' hN
  | m :: ms, w', hN, ⟨⟨d, h1, h2, h3, h4, h5⟩, h6⟩ => ⟨(fun e => by cases e), .inl ⟨d, w'.putObj d (.deferred none), by rw [h1], run_takeDeferred h3, leaves_marks hR ms _ (hN.putD h2 h4) (h6.putD h5)⟩⟩
/-- what a body leaves as a call's outcome -/
theorem body_out {lim : Pos} {fn : Func} {k : AV → Pos → PT AO → Res} {L : List Out} {ρ : Ren} {n : Pos} {H : PT AO} {w : World} {A : Act} {R : Ending → World → Prop} (hd : A.defers = [])
    (hR : ∀ u w', Goes lim k L ρ n H w u w' → R (.returned u) w') {e : Exit} {A' : Act} {w' : World} (h : GoesE lim (retK P fn k) L ρ n H w A e A' w') : bodyPostM (Fw none) 0 P fn R e A' w' := by
  obtain ⟨e', rfl, a', n', H', L', ρ', h1, h2, h3, ⟨ms, h4, h6⟩, h5⟩ := h
  have main : ∀ l, resA P a' H' fn.results.toList = some l → (match l with | [v] => k v n' H' | l => forceL l fun l => k (.tup l) n' H') = some L' → LeavesInM (Fw none) 0 P fn A'.tmps R A'.defers .returning w' := by
    intro l hl hk
    rw [h4, hd, List.append_nil]
    refine leaves_marks ?_ ms w' h5 h6
    intro w2 h5
    obtain ⟨us, g1, g2⟩ := results_run h3 h5.good hl
    refine ⟨_, g2, hR _ _ ?_⟩
    match l, us, g1, hk with
    | [], us, g1, hk => cases g1; exact ⟨.tup [], n', H', L', ρ', hk, h2, rfl, h5⟩
    | [v], us, g1, hk =>
      obtain ⟨y, ys, rfl, f1, f2⟩ := concs_cons g1
      cases f2
      exact ⟨v, n', H', L', ρ', hk, h2, f1, h5⟩
    | v :: v2 :: r, us, g1, hk =>
      obtain ⟨y, ys, rfl, f1, f2⟩ := concs_cons g1
      obtain ⟨y2, ys2, rfl, f3, f4⟩ := concs_cons f2
      have hk : forceL (v :: v2 :: r) (fun l => k (.tup l) n' H') = some L' := hk
      rw [forceL_eq] at hk
      exact ⟨.tup (v :: v2 :: r), n', H', L', ρ', hk, h2, tup_conc g1, h5⟩
  unfold retK at h1
  cases e' with
  | exit id => cases h1
  | nrm =>
    simp only at h1
    split at h1
    · rename_i v hv; exact main _ hv h1
    · rename_i l hne hl
      refine main l hl ?_
      match l, hne with
      | [], _ => exact h1
      | [v], hne => exact (hne v rfl).elim
      | v :: v2 :: r, _ => exact h1
    · cases h1
  | ret =>
    simp only at h1
    split at h1
    · rename_i v hv; exact main _ hv h1
    · rename_i l hne hl
      refine main l hl ?_
      match l, hne with
      | [], _ => exact h1
      | [v], hne => exact (hne v rfl).elim
      | v :: v2 :: r, _ => exact h1
    · cases h1
/-- a round -/
theorem yield_ok {ex : ExecT} (hex : ExecOk P ex) (lim : Pos) (b : Pos) (args : List AV) (n : Pos) (H : PT AO) (k : AV → Pos → PT AO → Res) (L : List Out) (h : yieldK P ex lim b args n H k = some L) (hln : lim.nat ≤ n.nat)
    (r : Option Nat) (ρ : Ren) (w : World) (us : List Value) (hg : Good ρ n (hp H) w) (hus : concs ρ args = some us) :
    ∃ kk d x, ρ.at_ b = some (kk, d, x) ∧ YieldAt (Fw r) 0 P kk us.toArray w fun e w' => ∃ u, e = .returned u ∧ Goes lim k L ρ n H w u w' := by
  unfold yieldK at h
  split at h
  · rename_i a ps assign body pend hb
    split at h
    · rename_i hc
      simp only [Bool.and_eq_true] at hc
      obtain ⟨⟨hlb, hna⟩, hnb⟩ := hc
      have hlb := Nat.le_of_ble_eq_true hlb
      have hb' : hp H b = some (.loop a ps assign body true pend) := hb
      obtain ⟨kk, d, x, o, h1, h2, h3⟩ := hg.rep b _ hb'
      cases o with
      | loop rec =>
        obtain ⟨rfl, r1, r2, r3, r4, r5, r6⟩ := h3
        rw [PT.delK_eq] at h
        have hsl : Slots ρ a { tmps := rec.tmps, defers := [] } := r6
        obtain ⟨hlen, a1, h4, h5⟩ := layK_some h hus hsl
        have hgd : Good ρ n (hp (PT.del b H)) w := by rw [hp_del]; exact hg.unname b
        have hund : ∀ b' ao' d' x', hp (PT.del b H) b' = some ao' → ρ.at_ b' ≠ some (kk, d', x') := by rw [hp_del]; exact hg.unnamed hb' h1
        have hle : Hp.le (hp (PT.del b H)) (hp H) := by rw [hp_del]; exact del_le _ _
        have hrst : rec.state = .ready := r4
        have hps : us.toArray.size = rec.params.size := by
          rw [← Array.length_toList, ← Array.length_toList, r1]; simpa using hlen.symm
        refine ⟨kk, 0, x, h1, rec.fn, _, rec.assign, rec.body, run_yield h2 hps, roundIn_of_wpIn trivial ?_⟩
        have htm : (rec.params.zip us.toArray).foldl (fun tmps (t, a) => tmps.setIfInBounds t a) rec.tmps = (ps.zip us).foldl (fun tmps x => tmps.setIfInBounds x.1 x.2) rec.tmps := by
          rw [← Array.foldl_toList, Array.toList_zip, r1]
        rw [htm, r2, r3]
        refine wpIn_mono (hex lim assign a1 n _ _ L h4 hln (some kk) (.inr hna) ρ _ w h5 hgd) ?_
        rintro e A' w' ⟨e', rfl, a', n', H', L', ρ', g1, g2, g3, ⟨ms, g4, g5⟩, g6⟩
        cases e' with
        | exit i => cases g1
        | ret => cases g1
        | nrm =>
          obtain ⟨u1, u2⟩ := g6.fr.unnamed h2 hund
          have hlt := (Array.getElem?_eq_some_iff.1 u1).1
          refine ⟨_, run_beginRound u1 hrst, ?_⟩
          have hw2 := World.putObj_heap_same (w := w') (o := .loop { rec with state := .busy }) hlt
          have hg2 := g6.good.putU (.loop { rec with state := .busy }) u2
          have hF2 : Fr ρ n (hp H) w ρ' n' (hp H') (w'.putObj kk (.loop { rec with state := .busy })) := (g6.fr.widen hle).put _ (.inr ⟨b, _, 0, x, hb', h1⟩)
          generalize w'.putObj kk (.loop { rec with state := .busy }) = w2 at hw2 hg2 hF2
          have g1 : ex lim body a' n' H' (endK b a ps assign body k) = some L' := g1
          refine wpIn_mono (hex lim body a' n' H' _ L' g1 (Nat.le_trans hln g6.fr.num) (some kk) (.inr hnb) ρ' A' w2 g3 hg2) ?_
          rintro e A2 w3 ⟨e2, rfl, a2, n3, H3, L3, ρ3, f1, f2, f3, f4, f5⟩
          obtain ⟨v1, v2⟩ := f5.fr.unnamed hw2 u2
          have hlt3 := (Array.getElem?_eq_some_iff.1 v1).1
          have hat : ρ3.at_ b = some (kk, 0, x) := f5.fr.le.at_ _ _ (g6.fr.le.at_ _ _ h1)
          have fin : ∀ (jump : Option Code) (st : Bool) (pd : Option (Option Nat)) (bv : Bool), jump = pendC pd → (if jump.isNone then LoopState.ready else .done) = (if st then .ready else .done) → jump.isNone = bv → PT.setK (.loop a ps assign body st pd) b H3 (fun H => k (.bool bv) n3 H) = some L3 →
              ∃ v w4, (Instr.endRound kk jump).run P w3 = .ok v w4 ∧ ∃ u, Ending.returned v = .returned u ∧ Goes lim k L ρ n H w u w4 := by
            intro jump st pd bv hj hst hbv hk
            rw [PT.setK_eq] at hk
            refine ⟨_, _, run_endRound jump v1, _, rfl, .bool bv, n3, _, L3, ρ3, hk, fun y hy => g2 y (f2 y hy), by rw [hbv]; rfl, ?_, ?_, fun q hq => ?_⟩
            · rw [hp_set]
              refine (f5.good.putU _ v2).name hat (World.putObj_heap_same hlt3) v2 ⟨rfl, r1, r2, r3, hst, hj, ?_⟩
              exact fun t v e => let ⟨y, e1, e2⟩ := r6 t v e; ⟨y, conc_le (g6.fr.le.trans f5.fr.le) _ e1, e2⟩
            · rw [hp_set]
              exact ((hF2.trans f5.fr).put _ (.inr ⟨b, _, 0, x, hb', h1⟩)).name hb' h1
            · rw [PT.get_set, if_neg (fun e => by subst e; omega), f5.keep q hq, g6.keep q hq, PT.get_del, if_neg (fun e => by subst e; omega)]
          cases e2 with
          | nrm => exact fin none true none true rfl rfl rfl f1
          | ret => exact fin (some .ret) false (some none) false rfl rfl rfl f1
          | exit i => exact fin (some (.exit i)) false (some (some i)) false rfl rfl rfl f1
      | _ => exact h3.elim
    · cases h
  · cases h
/-- the laws that answer calls hold -/
def HookOk (P : Program) (J : Plan) : Prop :=
  ∀ f args v, J.hook f args = some v → ∀ (ρ : Ren) (us : List Value) (w : World), concs ρ args = some us → ∃ u, conc ρ v = some u ∧ Calls P f us.toArray w fun e w' => e = .returned u ∧ Below w.heap.size w w'
theorem Good.below {ρ : Ren} {n : Pos} {g : Hp} {w w' : World} (h : Good ρ n g w) (hb : Below w.heap.size w w') : Good ρ n g w' ∧ Fr ρ n g w ρ n g w' := by
  refine ⟨⟨fun b ao e => ?_, h.inj, h.fresh⟩, ⟨.refl _, Nat.le_refl _, fun _ _ => rfl, hb.os, hb.tape, hb.output, hb.size, fun k hk _ => hb.block k hk, fun b ao k d x e1 e2 => .inr ⟨b, ao, d, x, e1, e2⟩, fun b ao e => .inl ⟨ao, e⟩⟩⟩
  obtain ⟨k, d, x, o, h1, h2, h3⟩ := h.rep b ao e
  exact ⟨k, d, x, o, h1, (hb.block k (Array.getElem?_eq_some_iff.1 h2).1).trans h2, h3⟩
theorem callK_ok (hX : HookOk P J) {ex : ExecT} (hex : ExecOk P ex) (lim : Pos) : CallOk P lim (tgtK P J ex lim) := by
  refine ⟨?_, fun b args n H k L h hln r ρ w us hg hus => yield_ok hex lim b args n H k L h hln r ρ w us hg hus⟩
  intro f args n H k L h hln
  change callK P J ex lim f args n H k = some L at h
  unfold callK at h
  split at h
  · rename_i fn hf
    split at h
    · rename_i c hb
      split at h
      · cases h
      · rename_i hnm
        refine ⟨⟨fn, hf, by simpa using hnm, by rw [hb]; rfl⟩, fun ρ w us hg hus => ?_⟩
        split at h
        · rename_i v hv
          rw [forceV_eq] at h
          obtain ⟨u, h1, h2⟩ := hX f args v hv ρ us w hus
          refine h2.mono ?_
          rintro e w' ⟨rfl, hbl⟩
          obtain ⟨q1, q2⟩ := hg.below hbl
          exact ⟨u, rfl, v, n, H, L, ρ, h, fun _ hx => hx, h1, q1, q2, fun _ _ => rfl⟩
        have hs := initF_slots (nt := fn.ntmps) hus
        split at h
        · rw [wrK_init] at h
          split at h
          · rename_i L0 hL0
            refine (callsIn_wide (n := 0)).1 (callsIn_of_wp_marks (F := Fw none) hf hb trivial (wpIn_mono (hex n c _ n H _ L0 hL0 (Nat.le_refl _) none (.inl rfl) ρ _ w hs hg) ?_) rfl)
            intro e A' w' hgo
            refine body_out rfl ?_ hgo
            rintro u w2 ⟨v, n', H', L', ρ', h1, h2, h3, h4⟩
            injection h1 with h1
            refine ⟨u, rfl, alikeK_some h hln hg (h2 (v, n', H') (by rw [← h1]; simp)) h3 h4⟩
          · cases h
        · rw [wrK_init] at h
          refine (callsIn_wide (n := 0)).1 (callsIn_of_wp_marks (F := Fw none) hf hb trivial (wpIn_mono (hex lim c _ n H _ L h hln none (.inl rfl) ρ _ w hs hg) ?_) rfl)
          intro e A' w' hgo
          exact body_out rfl (fun u w2 hgo => ⟨u, rfl, hgo⟩) hgo
    · cases h
  · cases h
theorem range_ok (hX : HookOk P J) {ex : ExecT} (hex : ExecOk P ex) {lim : Pos} {g : Operand} {ps : Array Tmp} {assign body : Code} {a : PT AV} {n : Pos} {H : PT AO} {k : Ex → PT AV → Pos → PT AO → Res} {L : List Out}
    (h : rangeFK (tgtK P J ex lim) g ps.toList assign body a n H k = some L) (hln : lim.nat ≤ n.nat) {ρ : Ren} {A : Act} {w : World} (hs : Slots ρ a A) (hg : Good ρ n (hp H) w) :
    (Code.rangeFunc g ps assign body).wpIn (Fw none) 0 P (GoesE lim k L ρ n H w A) A w := by
  unfold rangeFK at h
  split at h
  · rename_i f cap hf
    obtain ⟨uf, e1, e2⟩ := ev_conc hs hf
    obtain ⟨x, y, e3, e4, rfl⟩ := conc_fn e1
    cases e3
    rw [PT.setK_eq] at h
    have hD := World.alloc_heap_new w (.deferred (some []))
    have hgD := hg.allocU (.deferred (some []))
    have hnD := hg.newU
    have hFD := (Fr.refl ρ n (hp H) w hg.ids).allocU (.deferred (some []))
    have hzD : (w.alloc (.deferred (some []))).heap.size = w.heap.size + 1 := by simp
    refine wpIn_rangeFunc ?_
    intro fn _
    obtain ⟨rec, hrec⟩ : ∃ rec : Loop, rec = { state := .ready, pending := none, fn := fn, tmps := A.tmps, params := ps, assign, body, defers := w.heap.size } := ⟨_, rfl⟩
    have he : (Instr.enterLoop fn A.tmps ps assign body none).run P w = .ok (w.heap.size + 1, [{ target := .collected w.heap.size, args := #[] }]) ((w.alloc (.deferred (some []))).alloc (.loop rec)) := by
      rw [hrec]; exact run_enterLoop_outer _ _ _ _ _
    generalize hwD : w.alloc (.deferred (some [])) = wD at *
    have hle := Ren.le_put (wD.heap.size, 0, 0) (hgD.fresh n (Nat.le_refl _))
    have hobj : ObjC (ρ.put n (wD.heap.size, 0, 0)) 0 0 (.loop a ps.toList assign body true none) (.loop rec) := by
      rw [hrec]
      exact ⟨rfl, rfl, rfl, rfl, rfl, rfl, (hs.le hle)⟩
    obtain ⟨hg1, hF1⟩ := hgD.alloc (.loop a ps.toList assign body true none) (.loop rec) 0 hobj
    have hat1 : (ρ.put n (wD.heap.size, 0, 0)).at_ n = some (wD.heap.size, 0, 0) := Ren.put_at _ _ _
    have hF01 := hFD.trans hF1
    have hD1 := hF1.unnamed hD hnD
    generalize ρ.put n (wD.heap.size, 0, 0) = ρ1 at *
    generalize hw1 : wD.alloc (.loop rec) = w1 at *
    rw [← hp_set] at hg1 hF1 hF01 hD1
    have hln1 : lim.nat ≤ n.succ.nat := Nat.le_trans hln (Nat.le_of_lt (Pos.lt_succ n))
    obtain ⟨⟨fn', q1, q2, q3⟩, hc⟩ := (callK_ok hX hex lim).1 f _ _ _ _ L h hln1
    have harg : concs ρ1 (.yld n :: cap) = some (.func (.yield (w.heap.size + 1)) #[] #[] :: y) := by
      refine concs_mk ?_ (concs_le hle _ e4)
      unfold conc
      rw [hat1, hzD]
    have hcs := hc ρ1 w1 _ hg1 harg
    have enters : (callFunc f (.func (.yield (w.heap.size + 1)) #[] #[] :: y).toArray).run P w1 = .ok (.enter f (.func (.yield (w.heap.size + 1)) #[] #[] :: y).toArray) w1 := by
      have e2' : ¬ fn'.name = "runtime.NumGoroutine" := by simpa using q2
      have e3' : ¬ fn'.body = none := fun e => by rw [e] at q3; cases q3
      simp [callFunc, run_program, q1, e2', e3']
    refine ⟨w.heap.size + 1, [{ target := .collected w.heap.size, args := #[] }], w1, { target := .fn (.func f) y.toArray, args := #[.func (.yield (w.heap.size + 1)) #[] #[]] }, w1, f, (.func (.yield (w.heap.size + 1)) #[] #[] :: y).toArray, w1, ?a1, ?a2, ?a3, ?a4, ?a5, ?a6⟩
    case a1 => exact he
    case a2 =>
      simp only [resolve, e2]
      simp [go_sem]
    case a3 =>
      intro _ _
      trivial
    case a4 =>
      have : (#[Value.func (.yield (w.heap.size + 1)) #[] #[]] ++ y.toArray) = (.func (.yield (w.heap.size + 1)) #[] #[] :: y).toArray := by simp
      simp only [invoke, this, enters]
    case a5 => intro h; cases h
    case a6 =>
      refine CallsIn.mono (callsIn_fw hcs) ?_
      rintro e w2 ⟨u, rfl, v, n', H', L', ρ', g1, g2, g3, g4⟩
      have hat2 : ρ'.at_ n = some (w.heap.size + 1, 0, 0) := by rw [← hzD]; exact g4.fr.le.at_ _ _ hat1
      obtain ⟨hD2, hD3⟩ := g4.fr.unnamed hD1.1 hD1.2
      unfold doneK at g1
      split at g1
      · rename_i a0 ps0 as0 bd0 st pend hb
        obtain ⟨kk, d, x, o, h1, h2, h3⟩ := g4.good.rep n _ hb
        rw [hat2] at h1
        injection h1 with h1; injection h1 with h1 h1'
        subst h1
        cases o with
        | loop r2 =>
          obtain ⟨_, r1, r2', r3, r4, r5, r6⟩ := h3
          have hbusy : r2.state ≠ .busy := by rw [r4]; cases st <;> simp
          have hund := g4.good.unnamed hb hat2
          rw [← hp_del] at hund
          have hle2 : Hp.le (hp (PT.del n H')) (hp H') := by rw [hp_del]; exact del_le _ _
          rw [PT.delK_eq] at g1
          have hN : Now lim ρ n H w ρ' n' (PT.del n H') (w2.putObj (w.heap.size + 1) (.loop { r2 with state := .exhausted })) := by
            refine ⟨(g4.good.sub hle2).putU _ hund, ((hF01.trans g4.fr).less hle2).put _ (.inl (by omega)), fun q hq => ?_⟩
            rw [PT.get_del, if_neg (fun e => by subst e; omega), g4.keep q hq, PT.get_set, if_neg (fun e => by subst e; omega)]
          have hMk : ∃ ms, ({ A with defers := [{ target := .collected w.heap.size, args := #[] }] ++ A.defers } : Act).defers = ms ++ A.defers ∧ MarksOk ρ' (hp (PT.del n H')) (w2.putObj (w.heap.size + 1) (.loop { r2 with state := .exhausted })) w.heap.size ms :=
            ⟨[{ target := .collected w.heap.size, args := #[] }], rfl, ⟨w.heap.size, rfl, Nat.le_refl _, (World.putObj_heap_other (by omega)).trans hD2, fun b ao d' x e => hD3 b ao d' x (hle2 _ _ e), fun e he => by cases he⟩, trivial⟩
          have hs2 : Slots ρ' a { A with defers := [{ target := .collected w.heap.size, args := #[] }] ++ A.defers } := hs.le (hF01.trans g4.fr).le
          refine ⟨r2.pending, _, run_endLoop h2 hbusy, ?_⟩
          generalize w2.putObj (w.heap.size + 1) (.loop { r2 with state := .exhausted }) = w3 at hN hMk ⊢
          rw [r5]
          cases pend with
          | none => exact ⟨.nrm, rfl, a, n', _, L', ρ', g1, g2, hs2, hMk, hN⟩
          | some c =>
            cases c with
            | none => exact wpIn_ret ⟨.ret, rfl, a, n', _, L', ρ', g1, g2, hs2, hMk, hN⟩
            | some i => exact wpIn_exit ⟨.exit i, rfl, a, n', _, L', ρ', g1, g2, hs2, hMk, hN⟩
        | _ => exact h3.elim
      · cases g1
  · cases h
theorem exec_both (hX : HookOk P J) (hD : DrawOk P) : ∀ f, ExecOk P (exec P J f) ∧
    ∀ lim b a n H k L, exec P J f lim (.loop b) a n H k = some L → lim.nat ≤ n.nat → ∀ (r : Option Nat), r = none ∨ noRF b = true → ∀ (ρ : Ren) (A : Act) (w : World), Slots ρ a A → Good ρ n (hp H) w → ∀ Q : Exit → Act → World → Prop, (∀ e A' w', GoesE lim k L ρ n H w A e A' w' → Q e A' w') → Code.roundsIn (Fw r) 0 P b Q f A w
  | 0 => ⟨(fun lim c a n H k L h => by cases h), (fun lim b a n H k L h => by cases h)⟩
  | f + 1 => by
    obtain ⟨ihA, ihB⟩ := exec_both hX hD f
    have hB : ∀ lim b a n H k L, exec P J (f + 1) lim (.loop b) a n H k = some L → lim.nat ≤ n.nat → ∀ (r : Option Nat), r = none ∨ noRF b = true → ∀ (ρ : Ren) (A : Act) (w : World), Slots ρ a A → Good ρ n (hp H) w → ∀ Q : Exit → Act → World → Prop, (∀ e A' w', GoesE lim k L ρ n H w A e A' w' → Q e A' w') → Code.roundsIn (Fw r) 0 P b Q (f + 1) A w := by
      intro lim b a n H k L h hln r hr ρ A w hs hg Q hQ
      have h' : exec P J f lim b a n H (fun e a n H => (match e with | .nrm => exec P J f lim (.loop b) a n H k | e => k e a n H)) = some L := h
      refine wpIn_mono (ihA lim b a n H _ L h' hln r hr ρ A w hs hg) ?_
      rintro e A' w' ⟨e', rfl, a', n', H', L', ρ', h1, h2, h3, h4, h5⟩
      cases e' with
      | nrm =>
        refine ihB lim b a' n' H' k L' h1 (Nat.le_trans hln h5.fr.num) r hr ρ' A' w' h3 h5.good Q ?_
        intro e A2 w2 hgo
        exact hQ e A2 w2 (hgo.step h5 h4 h2)
      | exit id => exact hQ _ A' w' ⟨.exit id, rfl, a', n', H', L', ρ', h1, h2, h3, h4, h5⟩
      | ret => exact hQ _ A' w' ⟨.ret, rfl, a', n', H', L', ρ', h1, h2, h3, h4, h5⟩
    refine ⟨?_, hB⟩
    intro lim c a n H k L h hln r hr ρ A w hs hg
    cases c with
    | skip => exact wpIn_skip ⟨.nrm, rfl, a, n, H, L, ρ, h, fun _ hx => hx, hs, marks0 rfl, Now.refl hg⟩
    | exit id => exact wpIn_exit ⟨.exit id, rfl, a, n, H, L, ρ, h, fun _ hx => hx, hs, marks0 rfl, Now.refl hg⟩
    | ret => exact wpIn_ret ⟨.ret, rfl, a, n, H, L, ρ, h, fun _ hx => hx, hs, marks0 rfl, Now.refl hg⟩
    | label l => exact wpIn_label ⟨.nrm, rfl, a, n, H, L, ρ, h, fun _ hx => hx, hs, marks0 rfl, Now.refl hg⟩
    | scope b =>
      refine wpIn_scope (wpIn_mono (ihA lim b a n H k L h hln r (hr.imp (fun e => e) fun e => e) ρ A w hs hg) ?_)
      intro e A' w' hgo
      refine ⟨fun l hl => ?_, hgo⟩
      obtain ⟨e', h1, _⟩ := hgo
      rw [h1] at hl
      cases e' <;> cases hl
    | seq x y =>
      have hrx : r = none ∨ noRF x = true := hr.imp id (fun e => by simp only [noRF, Bool.and_eq_true] at e; exact e.1)
      have hry : r = none ∨ noRF y = true := hr.imp id (fun e => by simp only [noRF, Bool.and_eq_true] at e; exact e.2)
      have h' : exec P J f lim x a n H (fun e a n H => (match e with | .nrm => exec P J f lim y a n H k | e => k e a n H)) = some L := h
      refine wpIn_seq (wpIn_mono (ihA lim x a n H _ L h' hln r hrx ρ A w hs hg) ?_)
      rintro e A' w' ⟨e', rfl, a', n', H', L', ρ', h1, h2, h3, h4, h5⟩
      cases e' with
      | nrm =>
        refine wpIn_mono (ihA lim y a' n' H' k L' h1 (Nat.le_trans hln h5.fr.num) r hry ρ' A' w' h3 h5.good) ?_
        intro e A2 w2 hgo
        exact hgo.step h5 h4 h2
      | exit id => exact ⟨.exit id, rfl, a', n', H', L', ρ', h1, h2, h3, h4, h5⟩
      | ret => exact ⟨.ret, rfl, a', n', H', L', ρ', h1, h2, h3, h4, h5⟩
    | cond c x y =>
      have hrx : r = none ∨ noRF x = true := hr.imp id (fun e => by simp only [noRF, Bool.and_eq_true] at e; exact e.1)
      have hry : r = none ∨ noRF y = true := hr.imp id (fun e => by simp only [noRF, Bool.and_eq_true] at e; exact e.2)
      have h' : (match ev a c with | some (.bool true) => exec P J f lim x a n H k | some (.bool false) => exec P J f lim y a n H k | _ => none) = some L := h
      split at h'
      · rename_i hc
        obtain ⟨u, e1, e2⟩ := ev_conc hs hc
        cases e1
        exact wpIn_cond_true e2 (ihA lim x a n H k L h' hln r hrx ρ A w hs hg)
      · rename_i hc
        obtain ⟨u, e1, e2⟩ := ev_conc hs hc
        cases e1
        exact wpIn_cond_false e2 (ihA lim y a n H k L h' hln r hry ρ A w hs hg)
      · cases h'
    | block id b =>
      have h' : exec P J f lim b a n H (fun e a n H => (match e with | .exit j => if Nat.beq j id then k .nrm a n H else k (.exit j) a n H | e => k e a n H)) = some L := h
      refine wpIn_block (wpIn_mono (ihA lim b a n H _ L h' hln r (hr.imp (fun e => e) fun e => e) ρ A w hs hg) ?_)
      rintro e A' w' ⟨e', rfl, a', n', H', L', ρ', h1, h2, h3, h4, h5⟩
      cases e' with
      | nrm => exact ⟨.nrm, rfl, a', n', H', L', ρ', h1, h2, h3, h4, h5⟩
      | ret => exact ⟨.ret, rfl, a', n', H', L', ρ', h1, h2, h3, h4, h5⟩
      | exit j =>
        show (if j = id then _ else _)
        simp only at h1
        split at h1
        · rename_i hj
          rw [if_pos (Nat.eq_of_beq_eq_true hj)]
          exact ⟨.nrm, rfl, a', n', H', L', ρ', h1, h2, h3, h4, h5⟩
        · rename_i hj
          rw [if_neg (fun e => hj (by rw [e]; exact Nat.beq_refl id))]
          exact ⟨.exit j, rfl, a', n', H', L', ρ', h1, h2, h3, h4, h5⟩
    | loop b => exact wpIn_loop_rounds (f + 1) (hB lim b a n H k L h hln r (hr.imp (fun e => e) fun e => e) ρ A w hs hg _ (fun _ _ _ hh => hh))
    | region id ops draw =>
      cases draw with
      | false =>
        have h' : seqK P (tgtK P J (exec P J f) lim) lim ops.toList ops.toList a n H (fun a n H => k .nrm a n H) = some L := h
        refine wpIn_region ?_
        have := seqK_some (r := r) (callK_ok hX ihA lim) (ops := ops) (Q := GoesE lim k L ρ n H w A) ops.toList 0 rfl h' hln hs hg (fun A' w' hgo => ⟨.nrm, rfl, hgo⟩)
        rwa [← List.range_eq_range', Array.length_toList] at this
      | true =>
        have h' : drawK P (tgtK P J (exec P J f) lim) lim ops a n H (fun a n H => k .nrm a n H) = some L := h
        refine wpIn_mono (hD lim _ ops a n H _ L id (callK_ok hX ihA lim) h' hln r ρ A w hs hg) ?_
        rintro e A' w' ⟨rfl, hgo⟩
        exact ⟨.nrm, rfl, hgo⟩
    | rangeFunc g ps assign body =>
      have hr : r = none := hr.elim id (fun e => by cases e)
      subst hr
      exact range_ok hX ihA h hln hs hg
    | _ => cases h
/-- one outcome -/
noncomputable def oneK (v : AV) (n : Pos) (H : PT AO) : Res := some [(v, n, H)]
/-- a closed run -/
theorem run_closed (hX : HookOk P J) (hD : DrawOk P) (fuel : Nat) (f : FuncId) (args : List AV) (L : List Out) (h : callK P J (exec P J fuel) .h f args .h .lf oneK = some L) (sy : Nat → Value) (hone : ∀ j, ∀ cs, sy j ≠ .agg cs ∧ sy j ≠ .tuple cs)
    (us : List Value) (hus : concs ⟨fun _ => none, sy, hone⟩ args = some us) (w : World) : Calls P f us.toArray w fun e w' => ∃ u, e = .returned u ∧ Below w.heap.size w w' ∧ ∃ o ∈ L, ∃ ρ' : Ren, conc ρ' o.1 = some u ∧ ρ'.sy = sy ∧ Good ρ' o.2.1 (hp o.2.2) w' := by
  have hg : Good ⟨fun _ => none, sy, hone⟩ .h (hp .lf) w := ⟨(fun b ao e => by rw [show hp .lf b = none from PT.get_lf b] at e; cases e), (fun b b' ao ao' k d x d' x' e => by rw [show hp .lf b = none from PT.get_lf b] at e; cases e), fun _ _ => rfl⟩
  refine (((callK_ok hX (exec_both hX hD fuel).1 .h).1 f args .h .lf oneK L h (Nat.le_refl _)).2 _ w us hg hus).mono ?_
  rintro e w' ⟨u, rfl, v, n', H', L', ρ', h1, h2, h3, h4⟩
  injection h1 with h1
  refine ⟨u, rfl, ⟨h4.fr.os, h4.fr.tape, h4.fr.output, h4.fr.size, fun k hk => h4.fr.block k hk fun b ao d x e => ?_⟩, (v, n', H'), h2 _ (by rw [← h1]; simp), ρ', h3, h4.fr.le.sy, h4.good⟩
  rw [show hp .lf b = none from PT.get_lf b] at e
  cases e
end
end Go.Proofs.YthggliknnmhbdaaGreat.Abs
end
