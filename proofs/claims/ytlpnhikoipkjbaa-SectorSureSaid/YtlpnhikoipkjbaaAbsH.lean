/- The abstract heap, and when a world is what it says; what reading it yields. No conditions. -/
import Derived.Test.YtlpnhikoipkjbaaAbsG
import Derived.Below
set_option linter.unusedVariables false
namespace Go.Proofs.Ytlpnhikoipkjbaa.Abs
open Go Go.RowKit
inductive AO where
  | row (cs : PT AV) (n : Nat) (d : Option AV) (es : Nat) (ty : Option TypeId)
  | map (es : List (AV × AV × Nat)) (clock : Nat)
  | mit (m : Option Pos) (since : Nat) (seen : List Nat) (stepped : Nat)
  | loop (a : PT AV) (ps : List Nat) (assign body : Code) (st : Bool) (pend : Option (Option Nat))
noncomputable def cellA (cs : PT AV) (d : Option AV) (i : Nat) : Option AV := match PT.get (pk i) cs with | some v => some v | none => d
def EntC (ρ : Ren) : List (AV × AV × Nat) → List MapEntry → Prop
  | [], [] => True
  | (k, v, b) :: l, e :: m => conc ρ k = some e.key ∧ conc ρ v = some e.val ∧ e.born = b ∧ EntC ρ l m
  | _, _ => False
def pendC : Option (Option Nat) → Option Code
  | none => none
  | some none => some .ret
  | some (some i) => some (.exit i)
def ObjC (ρ : Ren) (d x : Nat) : AO → Obj → Prop
  | .row cs n df es ty, .cells cc t fz =>
    (∀ i, i < n → ∃ v u, cellA cs df i = some v ∧ conc ρ v = some u ∧ cc[d + i]? = some u ∧ ¬ (fz.1 ≤ d + i ∧ d + i < fz.2)) ∧
    (∀ i, i < x * es → d + n + i < cc.size ∧ ¬ (fz.1 ≤ d + n + i ∧ d + n + i < fz.2)) ∧ (∀ e, ty = some e → t = e ∧ d = 0)
  | .map es c, .map es' c' => c' = c ∧ EntC ρ es es'.toList
  | .mit m since seen stepped, .mapIter m' since' seen' stepped' =>
    ((m = none → m' = none) ∧ ∀ b, m = some b → ∃ k d x, ρ.at_ b = some (k, d, x) ∧ m' = some k) ∧ d = 0 ∧ since' = since ∧ seen' = seen.toArray ∧ stepped' = stepped
  | .loop a ps assign body st pend, .loop r => d = 0 ∧ r.params.toList = ps ∧ r.assign = assign ∧ r.body = body ∧ r.state = (if st then .ready else .done) ∧ r.pending = pendC pend ∧ ∀ t v, PT.get (pk t) a = some v → ∃ x, conc ρ v = some x ∧ r.tmps[t]? = some x
  | _, _ => False
theorem EntC.le {ρ ρ' : Ren} (hl : ρ.le ρ') : ∀ {l : List (AV × AV × Nat)} {m : List MapEntry}, EntC ρ l m → EntC ρ' l m
  | [], [], _ => trivial
  | [], _ :: _, h => h.elim
  | _ :: _, [], h => h.elim
  | (k, v, b) :: l, e :: m, ⟨h1, h2, h3, h4⟩ => ⟨conc_le hl _ h1, conc_le hl _ h2, h3, h4.le hl⟩
theorem ObjC.le {ρ ρ' : Ren} (hl : ρ.le ρ') {d x : Nat} {ao : AO} {o : Obj} (h : ObjC ρ d x ao o) : ObjC ρ' d x ao o := by
  cases ao with
  | row cs n df es ty =>
    cases o <;> first | exact h.elim | skip
    exact ⟨fun i hi => let ⟨v, u, h1, h2, h3⟩ := h.1 i hi; ⟨v, u, h1, conc_le hl _ h2, h3⟩, h.2⟩
  | map es c =>
    cases o <;> first | exact h.elim | skip
    exact ⟨h.1, h.2.le hl⟩
  | loop a ps assign body st pend =>
    cases o <;> first | exact h.elim | skip
    exact ⟨h.1, h.2.1, h.2.2.1, h.2.2.2.1, h.2.2.2.2.1, h.2.2.2.2.2.1, fun t v e => let ⟨x, h1, h2⟩ := h.2.2.2.2.2.2 t v e; ⟨x, conc_le hl _ h1, h2⟩⟩
  | mit m since seen stepped =>
    cases o <;> first | exact h.elim | skip
    exact ⟨⟨h.1.1, fun b hb => let ⟨k, d, x, h2, h3⟩ := h.1.2 b hb; ⟨k, d, x, hl.at_ _ _ h2, h3⟩⟩, h.2⟩
abbrev Hp := Pos → Option AO
def Hp.le (g g' : Hp) : Prop := ∀ b o, g b = some o → g' b = some o
structure Good (ρ : Ren) (n : Pos) (g : Hp) (w : World) : Prop where
  rep : ∀ b ao, g b = some ao → ∃ k d x o, ρ.at_ b = some (k, d, x) ∧ w.heap[k]? = some o ∧ ObjC ρ d x ao o
  inj : ∀ b b' ao ao' k d x d' x', g b = some ao → g b' = some ao' → ρ.at_ b = some (k, d, x) → ρ.at_ b' = some (k, d', x') → b = b'
  fresh : ∀ b, n.nat ≤ b.nat → ρ.at_ b = none
/-- What a step leaves: only blocks that the heap names have turned, and new ones. -/
structure Fr (ρ : Ren) (n : Pos) (g : Hp) (w : World) (ρ' : Ren) (n' : Pos) (g' : Hp) (w' : World) : Prop where
  le : ρ.le ρ'
  num : n.nat ≤ n'.nat
  old : ∀ b, b.nat < n.nat → ρ'.at_ b = ρ.at_ b
  os : w'.os = w.os
  tape : w'.tape = w.tape
  output : w'.output = w.output
  size : w.heap.size ≤ w'.heap.size
  block : ∀ k, k < w.heap.size → (∀ b ao d x, g b = some ao → ρ.at_ b ≠ some (k, d, x)) → w'.heap[k]? = w.heap[k]?
  new : ∀ b ao k d x, g' b = some ao → ρ'.at_ b = some (k, d, x) → w.heap.size ≤ k ∨ ∃ b0 ao0 d0 x0, g b0 = some ao0 ∧ ρ.at_ b0 = some (k, d0, x0)
  dom : ∀ b ao, g' b = some ao → (∃ ao0, g b = some ao0) ∨ n.nat ≤ b.nat
theorem Fr.refl (ρ : Ren) (n : Pos) (g : Hp) (w : World) (hr : ∀ b ao, g b = some ao → ∃ k d x, ρ.at_ b = some (k, d, x)) : Fr ρ n g w ρ n g w :=
  ⟨.refl _, Nat.le_refl _, fun _ _ => rfl, rfl, rfl, rfl, Nat.le_refl _, fun _ _ _ => rfl, fun b ao k d x h1 h2 => .inr ⟨b, ao, d, x, h1, h2⟩, fun b ao h => .inl ⟨ao, h⟩⟩
theorem Fr.trans {ρ ρ1 ρ2 : Ren} {n n1 n2 : Pos} {g g1 g2 : Hp} {w w1 w2 : World} (h : Fr ρ n g w ρ1 n1 g1 w1) (k : Fr ρ1 n1 g1 w1 ρ2 n2 g2 w2) : Fr ρ n g w ρ2 n2 g2 w2 := by
  refine ⟨h.le.trans k.le, Nat.le_trans h.num k.num, fun b hb => (k.old b (Nat.lt_of_lt_of_le hb h.num)).trans (h.old b hb), k.os.trans h.os, k.tape.trans h.tape, k.output.trans h.output, Nat.le_trans h.size k.size, ?_, ?_, ?_⟩
  · intro q hq hn
    have e1 := h.block q hq hn
    rw [← e1]
    refine k.block q (Nat.lt_of_lt_of_le hq h.size) (fun b ao d x hb hbx => ?_)
    rcases h.new b ao q d x hb hbx with h1 | ⟨b0, ao0, d0, x0, h1, h2⟩
    · omega
    · exact hn b0 ao0 d0 x0 h1 h2
  · intro b ao q d x hb hbx
    rcases k.new b ao q d x hb hbx with h1 | ⟨b0, ao0, d0, x0, h1, h2⟩
    · exact .inl (Nat.le_trans h.size h1)
    · exact h.new b0 ao0 q d0 x0 h1 h2
  · intro b ao hb
    rcases k.dom b ao hb with ⟨ao0, h1⟩ | h1
    · exact h.dom b ao0 h1
    · exact .inr (Nat.le_trans h.num h1)
theorem Good.sub {ρ : Ren} {n : Pos} {g g' : Hp} {w : World} (h : Good ρ n g w) (hl : Hp.le g' g) : Good ρ n g' w :=
  ⟨fun b ao e => h.rep b ao (hl b ao e), fun b b' ao ao' k d x d' x' e1 e2 => h.inj b b' ao ao' k d x d' x' (hl _ _ e1) (hl _ _ e2), h.fresh⟩
theorem Good.ids {ρ : Ren} {n : Pos} {g : Hp} {w : World} (h : Good ρ n g w) : ∀ b ao, g b = some ao → ∃ k d x, ρ.at_ b = some (k, d, x) :=
  fun b ao e => let ⟨k, d, x, _, h1, _⟩ := h.rep b ao e; ⟨k, d, x, h1⟩
theorem Good.drew {ρ : Ren} {n : Pos} {g : Hp} {w : World} (h : Good ρ n g w) (m : Nat) : Good ρ n g { w with drawn := m } := ⟨h.rep, h.inj, h.fresh⟩
theorem Fr.drew {ρ ρ' : Ren} {n n' : Pos} {g g' : Hp} {w w' : World} (h : Fr ρ n g w ρ' n' g' w') (m : Nat) : Fr ρ n g w ρ' n' g' { w' with drawn := m } :=
  ⟨h.le, h.num, h.old, h.os, h.tape, h.output, h.size, h.block, h.new, h.dom⟩
theorem Fr.drew' {ρ ρ' : Ren} {n n' : Pos} {g g' : Hp} {w w' : World} (m : Nat) (h : Fr ρ n g { w with drawn := m } ρ' n' g' w') : Fr ρ n g w ρ' n' g' w' :=
  ⟨h.le, h.num, h.old, h.os, h.tape, h.output, h.size, h.block, h.new, h.dom⟩
/-- the heap with one more -/
def Hp.set (g : Hp) (b : Pos) (o : AO) : Hp := fun q => if q = b then some o else g q
def Hp.del (g : Hp) (b : Pos) : Hp := fun q => if q = b then none else g q
/-- ρ with one more -/
def Ren.put (ρ : Ren) (b : Pos) (y : Nat × Nat × Nat) : Ren := { ρ with at_ := fun q => if q = b then some y else ρ.at_ q }
theorem Ren.le_put {ρ : Ren} {b : Pos} (y : Nat × Nat × Nat) (h : ρ.at_ b = none) : ρ.le (ρ.put b y) :=
  ⟨fun q x e => by
    show (if q = b then some y else ρ.at_ q) = some x
    rw [if_neg (fun e' => by subst e'; rw [h] at e; cases e)]
    exact e, rfl⟩
theorem Ren.put_at (ρ : Ren) (b : Pos) (y : Nat × Nat × Nat) : (ρ.put b y).at_ b = some y := by simp [Ren.put]
/-- a new block under an id that is free -/
theorem Good.alloc_at {ρ : Ren} {n : Pos} {g : Hp} {w : World} (h : Good ρ n g w) {b : Pos} (hb : ρ.at_ b = none) (hbn : b.nat < n.nat) (ao : AO) (o : Obj) (x : Nat)
    (ho : ObjC (ρ.put b (w.heap.size, 0, x)) 0 x ao o) : Good (ρ.put b (w.heap.size, 0, x)) n (g.set b ao) (w.alloc o) := by
  have hl := Ren.le_put (w.heap.size, 0, x) hb
  have hold : ∀ k ob, w.heap[k]? = some ob → (w.alloc o).heap[k]? = some ob := fun k ob e => (Below.heap_alloc w o k (Array.getElem?_eq_some_iff.1 e).1).trans e
  refine ⟨fun q a e => ?_, fun q q' a a' k d y d' y' e1 e2 e3 e4 => ?_, fun q hq => ?_⟩
  · simp only [Hp.set] at e
    split at e
    · rename_i hq; subst hq
      injection e with e; subst e
      exact ⟨_, _, _, o, Ren.put_at _ _ _, heap_alloc_new w o, ho⟩
    · obtain ⟨k, d, y, ob, h1, h2, h3⟩ := h.rep q a e
      exact ⟨k, d, y, ob, hl.at_ _ _ h1, hold _ _ h2, h3.le hl⟩
  · have lt : ∀ q a k d y, g q = some a → (ρ.put b (w.heap.size, 0, x)).at_ q = some (k, d, y) → q ≠ b → k < w.heap.size ∧ ρ.at_ q = some (k, d, y) := by
      intro q a k d y e e' hq
      obtain ⟨k1, d1, y1, ob, h1, h2, _⟩ := h.rep q a e
      have := hl.at_ _ _ h1
      rw [e'] at this
      injection this with this
      injection this with t1 t2
      injection t2 with t2 t3
      subst t1; subst t2; subst t3
      exact ⟨(Array.getElem?_eq_some_iff.1 h2).1, h1⟩
    simp only [Hp.set] at e1 e2
    by_cases hq : q = b
    · by_cases hq' : q' = b
      · rw [hq, hq']
      · rw [if_neg hq'] at e2
        obtain ⟨h1, _⟩ := lt q' a' k d' y' e2 e4 hq'
        rw [hq, Ren.put_at] at e3
        injection e3 with e3; injection e3 with e3; omega
    · rw [if_neg hq] at e1
      obtain ⟨h1, h2⟩ := lt q a k d y e1 e3 hq
      by_cases hq' : q' = b
      · rw [hq', Ren.put_at] at e4
        injection e4 with e4; injection e4 with e4; omega
      · rw [if_neg hq'] at e2
        obtain ⟨h3, h4⟩ := lt q' a' k d' y' e2 e4 hq'
        exact h.inj q q' a a' k d y d' y' e1 e2 h2 h4
  · show (if q = b then _ else ρ.at_ q) = none
    rw [if_neg (fun e => by subst e; omega)]
    exact h.fresh q hq
theorem Pos.lt_succ (n : Pos) : n.nat < n.succ.nat := by rw [Pos.nat_succ]; omega
theorem Good.succ {ρ : Ren} {n : Pos} {g : Hp} {w : World} (h : Good ρ n g w) : Good ρ n.succ g w := ⟨h.rep, h.inj, fun b hb => h.fresh b (by have := Pos.lt_succ n; omega)⟩
theorem Fr.alloc_at {ρ : Ren} {n : Pos} {g : Hp} {w : World} (h : Good ρ n g w) {b : Pos} {n' : Pos} (hb : ρ.at_ b = none) (hbn : n.nat ≤ b.nat) (hn : n.nat ≤ n'.nat) (ao : AO) (o : Obj) (x : Nat) :
    Fr ρ n g w (ρ.put b (w.heap.size, 0, x)) n' (g.set b ao) (w.alloc o) := by
  have hl := Ren.le_put (w.heap.size, 0, x) hb
  refine ⟨hl, hn, fun q hq => ?_, rfl, rfl, rfl, by simp, fun k hk _ => Below.heap_alloc w o k hk, fun q a k d y e1 e2 => ?_, fun q a e => ?_⟩
  · show (if q = b then _ else ρ.at_ q) = _
    rw [if_neg (fun e => by subst e; omega)]
  · simp only [Hp.set] at e1
    split at e1
    · rename_i hq; subst hq
      rw [Ren.put_at] at e2
      injection e2 with e2; injection e2 with e2
      exact .inl (by omega)
    · rename_i hq
      have e2' : ρ.at_ q = some (k, d, y) := by
        have : (if q = b then some (w.heap.size, 0, x) else ρ.at_ q) = some (k, d, y) := e2
        rwa [if_neg hq] at this
      exact .inr ⟨q, a, d, y, e1, e2'⟩
  · simp only [Hp.set] at e
    split at e
    · rename_i hq; subst hq; exact .inr hbn
    · exact .inl ⟨a, e⟩
/-- a new block under the next id -/
theorem Good.alloc {ρ : Ren} {n : Pos} {g : Hp} {w : World} (h : Good ρ n g w) (ao : AO) (o : Obj) (x : Nat)
    (ho : ObjC (ρ.put n (w.heap.size, 0, x)) 0 x ao o) : Good (ρ.put n (w.heap.size, 0, x)) n.succ (g.set n ao) (w.alloc o) ∧ Fr ρ n g w (ρ.put n (w.heap.size, 0, x)) n.succ (g.set n ao) (w.alloc o) :=
  ⟨h.succ.alloc_at (h.fresh n (Nat.le_refl _)) (Pos.lt_succ n) ao o x ho, Fr.alloc_at h (h.fresh n (Nat.le_refl _)) (Nat.le_refl _) (Nat.le_of_lt (Pos.lt_succ n)) ao o x⟩
/-- a block that the heap names is another one -/
theorem Good.turn {ρ : Ren} {n : Pos} {g : Hp} {w w' : World} (h : Good ρ n g w) {b : Pos} {ao ao' : AO} {k d x : Nat} {o : Obj} (hb : g b = some ao) (hk : ρ.at_ b = some (k, d, x))
    (hw : w'.heap[k]? = some o) (hrest : ∀ q, q ≠ k → w'.heap[q]? = w.heap[q]?) (hsz : w'.heap.size = w.heap.size) (hos : w'.os = w.os) (htp : w'.tape = w.tape) (hout : w'.output = w.output)
    (ho : ObjC ρ d x ao' o) : Good ρ n (g.set b ao') w' ∧ Fr ρ n g w ρ n (g.set b ao') w' := by
  have key : ∀ q a, (g.set b ao') q = some a → ∃ a0, g q = some a0 := by
    intro q a e
    simp only [Hp.set] at e
    split at e
    · rename_i hq; subst hq; exact ⟨ao, hb⟩
    · exact ⟨a, e⟩
  refine ⟨⟨fun q a e => ?_, fun q q' a a' k1 d1 y1 d2 y2 e1 e2 e3 e4 => ?_, h.fresh⟩, ⟨.refl _, Nat.le_refl _, fun _ _ => rfl, hos, htp, hout, by omega, fun q hq hn => hrest q (fun e => ?_), fun q a k1 d1 y1 e1 e2 => ?_, fun q a e => .inl (key q a e)⟩⟩
  · simp only [Hp.set] at e
    split at e
    · rename_i hq; subst hq
      injection e with e; subst e
      exact ⟨k, d, x, o, hk, hw, ho⟩
    · rename_i hq
      obtain ⟨k1, d1, y1, ob, h1, h2, h3⟩ := h.rep q a e
      refine ⟨k1, d1, y1, ob, h1, ?_, h3⟩
      rw [hrest k1 (fun e' => hq (by subst e'; exact h.inj q b a ao k1 d1 y1 d x e hb h1 hk))]
      exact h2
  · obtain ⟨a1, f1⟩ := key q a e1
    obtain ⟨a2, f2⟩ := key q' a' e2
    exact h.inj q q' a1 a2 k1 d1 y1 d2 y2 f1 f2 e3 e4
  · subst e; exact hn b ao d x hb hk
  · obtain ⟨a1, f1⟩ := key q a e1
    exact .inr ⟨q, a1, d1, y1, f1, e2⟩
end Go.Proofs.Ytlpnhikoipkjbaa.Abs
