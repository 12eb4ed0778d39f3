/- Several texts in one: H I J K L. -/
import Derived.Test.YthggliknnmhbdaaGreatAbsM1
import Derived.Below
import Derived.MapKept
import Derived.Laws.MakeOwn
import Derived.Deep.Draws
import Derived.Laws.Sem
import Derived.Laws.BytesString
/- The abstract heap, and when a world is what it says; what reading it yields. No conditions. -/
section
set_option linter.unusedVariables false
namespace Go.Proofs.YthggliknnmhbdaaGreat.Abs
open Go Go.RowKit
inductive AO where
  | row (cs : PT AV) (n : Nat) (d : Option AV) (es : Nat) (ty : Option TypeId)
  | map (es : List (AV × AV × Nat)) (clock : Nat)
  | mit (m : Option Pos) (since : Nat) (seen : List Nat) (stepped : Nat)
  | loop (a : PT AV) (ps : List Nat) (assign body : Code) (st : Bool) (pend : Option (Option Nat))
noncomputable def cellA (cs : PT AV) (d : Option AV) (i : Nat) : Option AV := match PT.get (pk i) cs with | some v => some v | none => d
def EntC (ρ : Ren) : List (AV × AV × Nat) → List MapEntry → Prop
  | [], [] => True
  | (k, v, b) :: l, e :: m => conc ρ k = some e.key ∧ conc ρ v = some e.val ∧ e.born = b ∧ EntC ρ l m
  | _, _ => False
def pendC : Option (Option Nat) → Option Code
  | none => none
  | some none => some .ret
  | some (some i) => some (.exit i)
def ObjC (ρ : Ren) (d x : Nat) : AO → Obj → Prop
  | .row cs n df es ty, .cells cc t fz =>
    (∀ i, i < n → ∃ v u, cellA cs df i = some v ∧ conc ρ v = some u ∧ cc[d + i]? = some u ∧ ¬ (fz.1 ≤ d + i ∧ d + i < fz.2)) ∧
    (∀ i, i < x * es → d + n + i < cc.size ∧ ¬ (fz.1 ≤ d + n + i ∧ d + n + i < fz.2)) ∧ (∀ e, ty = some e → t = e ∧ d = 0)
  | .map es c, .map es' c' => c' = c ∧ EntC ρ es es'.toList
  | .mit m since seen stepped, .mapIter m' since' seen' stepped' =>
    ((m = none → m' = none) ∧ ∀ b, m = some b → ∃ k d x, ρ.at_ b = some (k, d, x) ∧ m' = some k) ∧ d = 0 ∧ since' = since ∧ seen' = seen.toArray ∧ stepped' = stepped
  | .loop a ps assign body st pend, .loop r => d = 0 ∧ r.params.toList = ps ∧ r.assign = assign ∧ r.body = body ∧ r.state = (if st then .ready else .done) ∧ r.pending = pendC pend ∧ ∀ t v, PT.get (pk t) a = some v → ∃ x, conc ρ v = some x ∧ r.tmps[t]? = some x
  | _, _ => False
theorem EntC.le {ρ ρ' : Ren} (hl : ρ.le ρ') : ∀ {l : List (AV × AV × Nat)} {m : List MapEntry}, EntC ρ l m → EntC ρ' l m
  | [], [], _ => trivial
  | [], _ :: _, h => h.elim
  | _ :: _, [], h => h.elim
  | (k, v, b) :: l, e :: m, ⟨h1, h2, h3, h4⟩ => ⟨conc_le hl _ h1, conc_le hl _ h2, h3, h4.le hl⟩
theorem ObjC.le {ρ ρ' : Ren} (hl : ρ.le ρ') {d x : Nat} {ao : AO} {o : Obj} (h : ObjC ρ d x ao o) : ObjC ρ' d x ao o := by
  cases ao with
  | row cs n df es ty =>
    cases o <;> first | exact h.elim | skip
    exact ⟨fun i hi => let ⟨v, u, h1, h2, h3⟩ := h.1 i hi; ⟨v, u, h1, conc_le hl _ h2, h3⟩, h.2⟩
  | map es c =>
    cases o <;> first | exact h.elim | skip
    exact ⟨h.1, h.2.le hl⟩
  | loop a ps assign body st pend =>
    cases o <;> first | exact h.elim | skip
    exact ⟨h.1, h.2.1, h.2.2.1, h.2.2.2.1, h.2.2.2.2.1, h.2.2.2.2.2.1, fun t v e => let ⟨x, h1, h2⟩ := h.2.2.2.2.2.2 t v e; ⟨x, conc_le hl _ h1, h2⟩⟩
  | mit m since seen stepped =>
    cases o <;> first | exact h.elim | skip
    exact ⟨⟨h.1.1, fun b hb => let ⟨k, d, x, h2, h3⟩ := h.1.2 b hb; ⟨k, d, x, hl.at_ _ _ h2, h3⟩⟩, h.2⟩
abbrev Hp := Pos → Option AO
def Hp.le (g g' : Hp) : Prop := ∀ b o, g b = some o → g' b = some o
structure Good (ρ : Ren) (n : Pos) (g : Hp) (w : World) : Prop where
  rep : ∀ b ao, g b = some ao → ∃ k d x o, ρ.at_ b = some (k, d, x) ∧ w.heap[k]? = some o ∧ ObjC ρ d x ao o
  inj : ∀ b b' ao ao' k d x d' x', g b = some ao → g b' = some ao' → ρ.at_ b = some (k, d, x) → ρ.at_ b' = some (k, d', x') → b = b'
  fresh : ∀ b, n.nat ≤ b.nat → ρ.at_ b = none
/-- What a step leaves: only blocks that the heap names have turned, and new ones. -/
structure Fr (ρ : Ren) (n : Pos) (g : Hp) (w : World) (ρ' : Ren) (n' : Pos) (g' : Hp) (w' : World) : Prop where
  le : ρ.le ρ'
  num : n.nat ≤ n'.nat
  old : ∀ b, b.nat < n.nat → ρ'.at_ b = ρ.at_ b
  os : w'.os = w.os
  tape : w'.tape = w.tape
  output : w'.output = w.output
  size : w.heap.size ≤ w'.heap.size
  block : ∀ k, k < w.heap.size → (∀ b ao d x, g b = some ao → ρ.at_ b ≠ some (k, d, x)) → w'.heap[k]? = w.heap[k]?
  new : ∀ b ao k d x, g' b = some ao → ρ'.at_ b = some (k, d, x) → w.heap.size ≤ k ∨ ∃ b0 ao0 d0 x0, g b0 = some ao0 ∧ ρ.at_ b0 = some (k, d0, x0)
  dom : ∀ b ao, g' b = some ao → (∃ ao0, g b = some ao0) ∨ n.nat ≤ b.nat
theorem Fr.refl (ρ : Ren) (n : Pos) (g : Hp) (w : World) (hr : ∀ b ao, g b = some ao → ∃ k d x, ρ.at_ b = some (k, d, x)) : Fr ρ n g w ρ n g w :=
  ⟨.refl _, Nat.le_refl _, fun _ _ => rfl, rfl, rfl, rfl, Nat.le_refl _, fun _ _ _ => rfl, fun b ao k d x h1 h2 => .inr ⟨b, ao, d, x, h1, h2⟩, fun b ao h => .inl ⟨ao, h⟩⟩
theorem Fr.trans {ρ ρ1 ρ2 : Ren} {n n1 n2 : Pos} {g g1 g2 : Hp} {w w1 w2 : World} (h : Fr ρ n g w ρ1 n1 g1 w1) (k : Fr ρ1 n1 g1 w1 ρ2 n2 g2 w2) : Fr ρ n g w ρ2 n2 g2 w2 := by
  refine ⟨h.le.trans k.le, Nat.le_trans h.num k.num, fun b hb => (k.old b (Nat.lt_of_lt_of_le hb h.num)).trans (h.old b hb), k.os.trans h.os, k.tape.trans h.tape, k.output.trans h.output, Nat.le_trans h.size k.size, ?_, ?_, ?_⟩
  · intro q hq hn
    have e1 := h.block q hq hn
    rw [← e1]
    refine k.block q (Nat.lt_of_lt_of_le hq h.size) (fun b ao d x hb hbx => ?_)
    rcases h.new b ao q d x hb hbx with h1 | ⟨b0, ao0, d0, x0, h1, h2⟩
    · omega
    · exact hn b0 ao0 d0 x0 h1 h2
  · intro b ao q d x hb hbx
    rcases k.new b ao q d x hb hbx with h1 | ⟨b0, ao0, d0, x0, h1, h2⟩
    · exact .inl (Nat.le_trans h.size h1)
    · exact h.new b0 ao0 q d0 x0 h1 h2
  · intro b ao hb
    rcases k.dom b ao hb with ⟨ao0, h1⟩ | h1
    · exact h.dom b ao0 h1
    · exact .inr (Nat.le_trans h.num h1)
theorem Good.sub {ρ : Ren} {n : Pos} {g g' : Hp} {w : World} (h : Good ρ n g w) (hl : Hp.le g' g) : Good ρ n g' w :=
  ⟨fun b ao e => h.rep b ao (hl b ao e), fun b b' ao ao' k d x d' x' e1 e2 => h.inj b b' ao ao' k d x d' x' (hl _ _ e1) (hl _ _ e2), h.fresh⟩
theorem Good.ids {ρ : Ren} {n : Pos} {g : Hp} {w : World} (h : Good ρ n g w) : ∀ b ao, g b = some ao → ∃ k d x, ρ.at_ b = some (k, d, x) :=
  fun b ao e => let ⟨k, d, x, _, h1, _⟩ := h.rep b ao e; ⟨k, d, x, h1⟩
theorem Good.drew {ρ : Ren} {n : Pos} {g : Hp} {w : World} (h : Good ρ n g w) (m : Nat) : Good ρ n g { w with drawn := m } := ⟨h.rep, h.inj, h.fresh⟩
theorem Fr.drew {ρ ρ' : Ren} {n n' : Pos} {g g' : Hp} {w w' : World} (h : Fr ρ n g w ρ' n' g' w') (m : Nat) : Fr ρ n g w ρ' n' g' { w' with drawn := m } :=
  ⟨h.le, h.num, h.old, h.os, h.tape, h.output, h.size, h.block, h.new, h.dom⟩
theorem Fr.drew' {ρ ρ' : Ren} {n n' : Pos} {g g' : Hp} {w w' : World} (m : Nat) (h : Fr ρ n g { w with drawn := m } ρ' n' g' w') : Fr ρ n g w ρ' n' g' w' :=
  ⟨h.le, h.num, h.old, h.os, h.tape, h.output, h.size, h.block, h.new, h.dom⟩
/-- the heap with one more -/
def Hp.set (g : Hp) (b : Pos) (o : AO) : Hp := fun q => if q = b then some o else g q
def Hp.del (g : Hp) (b : Pos) : Hp := fun q => if q = b then none else g q
/-- ρ with one more -/
def Ren.put (ρ : Ren) (b : Pos) (y : Nat × Nat × Nat) : Ren := { ρ with at_ := fun q => if q = b then some y else ρ.at_ q }
theorem Ren.le_put {ρ : Ren} {b : Pos} (y : Nat × Nat × Nat) (h : ρ.at_ b = none) : ρ.le (ρ.put b y) :=
  ⟨fun q x e => by
    show (if q = b then some y else ρ.at_ q) = some x
    rw [if_neg (fun e' => by subst e'; rw [h] at e; cases e)]
    exact e, rfl⟩
theorem Ren.put_at (ρ : Ren) (b : Pos) (y : Nat × Nat × Nat) : (ρ.put b y).at_ b = some y := by simp [Ren.put]
/-- a new block under an id that is free -/
theorem Good.alloc_at {ρ : Ren} {n : Pos} {g : Hp} {w : World} (h : Good ρ n g w) {b : Pos} (hb : ρ.at_ b = none) (hbn : b.nat < n.nat) (ao : AO) (o : Obj) (x : Nat)
    (ho : ObjC (ρ.put b (w.heap.size, 0, x)) 0 x ao o) : Good (ρ.put b (w.heap.size, 0, x)) n (g.set b ao) (w.alloc o) := by
  have hl := Ren.le_put (w.heap.size, 0, x) hb
  have hold : ∀ k ob, w.heap[k]? = some ob → (w.alloc o).heap[k]? = some ob := fun k ob e => (Below.heap_alloc w o k (Array.getElem?_eq_some_iff.1 e).1).trans e
  refine ⟨fun q a e => ?_, fun q q' a a' k d y d' y' e1 e2 e3 e4 => ?_, fun q hq => ?_⟩
  · simp only [Hp.set] at e
    split at e
    · rename_i hq; subst hq
      injection e with e; subst e
      exact ⟨_, _, _, o, Ren.put_at _ _ _, heap_alloc_new w o, ho⟩
    · obtain ⟨k, d, y, ob, h1, h2, h3⟩ := h.rep q a e
      exact ⟨k, d, y, ob, hl.at_ _ _ h1, hold _ _ h2, h3.le hl⟩
  · have lt : ∀ q a k d y, g q = some a → (ρ.put b (w.heap.size, 0, x)).at_ q = some (k, d, y) → q ≠ b → k < w.heap.size ∧ ρ.at_ q = some (k, d, y) := by
      intro q a k d y e e' hq
      obtain ⟨k1, d1, y1, ob, h1, h2, _⟩ := h.rep q a e
      have := hl.at_ _ _ h1
      rw [e'] at this
      injection this with this
      injection this with t1 t2
      injection t2 with t2 t3
      subst t1; subst t2; subst t3
      exact ⟨(Array.getElem?_eq_some_iff.1 h2).1, h1⟩
    simp only [Hp.set] at e1 e2
    by_cases hq : q = b
    · by_cases hq' : q' = b
      · rw [hq, hq']
      · rw [if_neg hq'] at e2
        obtain ⟨h1, _⟩ := lt q' a' k d' y' e2 e4 hq'
        rw [hq, Ren.put_at] at e3
        injection e3 with e3; injection e3 with e3; omega
    · rw [if_neg hq] at e1
      obtain ⟨h1, h2⟩ := lt q a k d y e1 e3 hq
      by_cases hq' : q' = b
      · rw [hq', Ren.put_at] at e4
        injection e4 with e4; injection e4 with e4; omega
      · rw [if_neg hq'] at e2
        obtain ⟨h3, h4⟩ := lt q' a' k d' y' e2 e4 hq'
        exact h.inj q q' a a' k d y d' y' e1 e2 h2 h4
  · show (if q = b then _ else ρ.at_ q) = none
    rw [if_neg (fun e => by subst e; omega)]
    exact h.fresh q hq
theorem Pos.lt_succ (n : Pos) : n.nat < n.succ.nat := by rw [Pos.nat_succ]; omega
theorem Good.succ {ρ : Ren} {n : Pos} {g : Hp} {w : World} (h : Good ρ n g w) : Good ρ n.succ g w := ⟨h.rep, h.inj, fun b hb => h.fresh b (by have := Pos.lt_succ n; omega)⟩
theorem Fr.alloc_at {ρ : Ren} {n : Pos} {g : Hp} {w : World} (h : Good ρ n g w) {b : Pos} {n' : Pos} (hb : ρ.at_ b = none) (hbn : n.nat ≤ b.nat) (hn : n.nat ≤ n'.nat) (ao : AO) (o : Obj) (x : Nat) :
    Fr ρ n g w (ρ.put b (w.heap.size, 0, x)) n' (g.set b ao) (w.alloc o) := by
  have hl := Ren.le_put (w.heap.size, 0, x) hb
  refine ⟨hl, hn, fun q hq => ?_, rfl, rfl, rfl, by simp, fun k hk _ => Below.heap_alloc w o k hk, fun q a k d y e1 e2 => ?_, fun q a e => ?_⟩
  · show (if q = b then _ else ρ.at_ q) = _
    rw [if_neg (fun e => by subst e; omega)]
  · simp only [Hp.set] at e1
    split at e1
    · rename_i hq; subst hq
      rw [Ren.put_at] at e2
      injection e2 with e2; injection e2 with e2
      exact .inl (by omega)
    · rename_i hq
      have e2' : ρ.at_ q = some (k, d, y) := by
        have : (if q = b then some (w.heap.size, 0, x) else ρ.at_ q) = some (k, d, y) := e2
        rwa [if_neg hq] at this
      exact .inr ⟨q, a, d, y, e1, e2'⟩
  · simp only [Hp.set] at e
    split at e
    · rename_i hq; subst hq; exact .inr hbn
    · exact .inl ⟨a, e⟩
/-- a new block under the next id -/
theorem Good.alloc {ρ : Ren} {n : Pos} {g : Hp} {w : World} (h : Good ρ n g w) (ao : AO) (o : Obj) (x : Nat)
    (ho : ObjC (ρ.put n (w.heap.size, 0, x)) 0 x ao o) : Good (ρ.put n (w.heap.size, 0, x)) n.succ (g.set n ao) (w.alloc o) ∧ Fr ρ n g w (ρ.put n (w.heap.size, 0, x)) n.succ (g.set n ao) (w.alloc o) :=
  ⟨h.succ.alloc_at (h.fresh n (Nat.le_refl _)) (Pos.lt_succ n) ao o x ho, Fr.alloc_at h (h.fresh n (Nat.le_refl _)) (Nat.le_refl _) (Nat.le_of_lt (Pos.lt_succ n)) ao o x⟩
/-- a block that the heap names is another one -/
theorem Good.turn {ρ : Ren} {n : Pos} {g : Hp} {w w' : World} (h : Good ρ n g w) {b : Pos} {ao ao' : AO} {k d x : Nat} {o : Obj} (hb : g b = some ao) (hk : ρ.at_ b = some (k, d, x))
    (hw : w'.heap[k]? = some o) (hrest : ∀ q, q ≠ k → w'.heap[q]? = w.heap[q]?) (hsz : w'.heap.size = w.heap.size) (hos : w'.os = w.os) (htp : w'.tape = w.tape) (hout : w'.output = w.output)
    (ho : ObjC ρ d x ao' o) : Good ρ n (g.set b ao') w' ∧ Fr ρ n g w ρ n (g.set b ao') w' := by
  have key : ∀ q a, (g.set b ao') q = some a → ∃ a0, g q = some a0 := by
    intro q a e
    simp only [Hp.set] at e
    split at e
    · rename_i hq; subst hq; exact ⟨ao, hb⟩
    · exact ⟨a, e⟩
  refine ⟨⟨fun q a e => ?_, fun q q' a a' k1 d1 y1 d2 y2 e1 e2 e3 e4 => ?_, h.fresh⟩, ⟨.refl _, Nat.le_refl _, fun _ _ => rfl, hos, htp, hout, by omega, fun q hq hn => hrest q (fun e => ?_), fun q a k1 d1 y1 e1 e2 => ?_, fun q a e => .inl (key q a e)⟩⟩
  · simp only [Hp.set] at e
    split at e
    · rename_i hq; subst hq
      injection e with e; subst e
      exact ⟨k, d, x, o, hk, hw, ho⟩
    · rename_i hq
      obtain ⟨k1, d1, y1, ob, h1, h2, h3⟩ := h.rep q a e
      refine ⟨k1, d1, y1, ob, h1, ?_, h3⟩
      rw [hrest k1 (fun e' => hq (by subst e'; exact h.inj q b a ao k1 d1 y1 d x e hb h1 hk))]
      exact h2
  · obtain ⟨a1, f1⟩ := key q a e1
    obtain ⟨a2, f2⟩ := key q' a' e2
    exact h.inj q q' a1 a2 k1 d1 y1 d2 y2 f1 f2 e3 e4
  · subst e; exact hn b ao d x hb hk
  · obtain ⟨a1, f1⟩ := key q a e1
    exact .inr ⟨q, a1, d1, y1, f1, e2⟩
end Go.Proofs.YthggliknnmhbdaaGreat.Abs
end
/- What reading the abstract heap yields: loads, look-ups, lengths of maps. No conditions. -/
section
set_option linter.unusedVariables false
namespace Go.Proofs.YthggliknnmhbdaaGreat.Abs
open Go Go.RowKit
noncomputable def rdCells (cs : PT AV) (d : Option AV) : Nat → Nat → Option (List AV)
  | 0, _ => some []
  | n + 1, o => match cellA cs d o, rdCells cs d n (o + 1) with | some v, some l => some (v :: l) | _, _ => none
noncomputable def loadA (P : Program) (t : TypeId) (x : AV) (g : Hp) : Option AV :=
  match x with
  | .ptr b o => (match g b with
    | some (.row cs n df _ _) => (match aggT P t with
      | some true => (match sizeT P t with | some z => if o + z ≤ n then (match rdCells cs df z o with | some l => some (.agg l) | none => none) else none | none => none)
      | some false => if o < n then cellA cs df o else none
      | none => none)
    | _ => none)
  | _ => none
section
variable {P : Program} {ρ : Ren} {n : Pos} {g : Hp} {w : World}
theorem Good.cell (h : Good ρ n g w) {b : Pos} {cs : PT AV} {m : Nat} {df : Option AV} {es : Nat} {ty : Option TypeId} (hb : g b = some (.row cs m df es ty)) :
    ∃ k d x cc t fz, ρ.at_ b = some (k, d, x) ∧ w.heap[k]? = some (.cells cc t fz) ∧ ObjC ρ d x (.row cs m df es ty) (.cells cc t fz) ∧
      ∀ i, i < m → ∃ v u, cellA cs df i = some v ∧ conc ρ v = some u ∧ w.cell? ⟨k, d + i, none⟩ = some u ∧ w.frozen? ⟨k, d + i, none⟩ = false := by
  obtain ⟨k, d, x, o, h1, h2, h3⟩ := h.rep b _ hb
  cases o with
  | cells cc t fz =>
    refine ⟨k, d, x, cc, t, fz, h1, h2, h3, fun i hi => ?_⟩
    obtain ⟨v, u, h4, h5, h6, h7⟩ := h3.1 i hi
    refine ⟨v, u, h4, h5, ?_, ?_⟩
    · simp [World.cell?, h2, h6]
    · simp only [World.frozen?, h2]
      obtain ⟨lo, hi'⟩ := fz
      simp only [Bool.and_eq_false_iff, decide_eq_false_iff_not]
      simp only at h7
      omega
  | _ => exact h3.elim
theorem rdCells_conc {cs : PT AV} {df : Option AV} {k d m : Nat} (hc : ∀ i, i < m → ∃ v u, cellA cs df i = some v ∧ conc ρ v = some u ∧ w.cell? ⟨k, d + i, none⟩ = some u ∧ w.frozen? ⟨k, d + i, none⟩ = false) :
    ∀ (z o : Nat) {l : List AV}, rdCells cs df z o = some l → o + z ≤ m → ∃ us, concs ρ l = some us ∧ us.length = z ∧ ∀ j u, us[j]? = some u → w.cell? ⟨k, d + o + j, none⟩ = some u
  | 0, o, l, h, _ => by injection h with h; subst h; exact ⟨[], rfl, rfl, fun j u e => by simp at e⟩
  | z + 1, o, l, h, hm => by
    unfold rdCells at h
    split at h
    · rename_i v l' hv hl
      injection h with h; subst h
      obtain ⟨us, h1, h2, h3⟩ := rdCells_conc hc z (o + 1) hl (by omega)
      obtain ⟨v', u, h4, h5, h6, _⟩ := hc o (by omega)
      rw [hv] at h4
      injection h4 with h4
      subst h4
      refine ⟨u :: us, concs_mk h5 h1, by simp [h2], fun j y e => ?_⟩
      cases j with
      | zero => simp at e; subst e; exact h6
      | succ j =>
        have := h3 j y (by simpa using e)
        rwa [show d + (o + 1) + j = d + o + (j + 1) by omega] at this
    · cases h
theorem run_loadA {t : TypeId} {x v : AV} {u : Value} (hg : Good ρ n g w) (h : loadA P t x g = some v) (hx : conc ρ x = some u) :
    ∃ y, conc ρ v = some y ∧ (Instr.loadAt t u).run P w = .ok y w := by
  unfold loadA at h
  split at h
  · rename_i b o
    split at h
    · rename_i cs m df es hb
      obtain ⟨k, d, e, cc, ty, fz, h1, _, _, hc⟩ := hg.cell hb
      obtain ⟨k', d', e', h1', rfl⟩ := conc_ptr hx
      rw [h1] at h1'
      injection h1' with h1'; injection h1' with t1 t2; injection t2 with t2 t3
      subst t1; subst t2; subst t3
      split at h
      · rename_i ha
        split at h
        · rename_i z hz
          split at h
          · rename_i hoz
            split at h
            · rename_i l hl
              injection h with h; subst h
              obtain ⟨us, h3, h4, h5⟩ := rdCells_conc hc z o hl hoz
              refine ⟨_, agg_conc h3, ?_⟩
              have hr := run_loadCells_list (P := P) w ⟨k, d + o, none⟩ us (fun j y e => by rw [addr_add]; exact h5 j y e)
              rw [h4] at hr
              simp [Instr.loadAt, Instr.sureAddr, loadVar, run_isAgg ha, run_sizeOf hz, hr]
            · cases h
          · cases h
        · cases h
      · rename_i ha
        split at h
        · rename_i hoz
          obtain ⟨v', u', h4, h5, h6, _⟩ := hc o hoz
          rw [h4] at h
          injection h with h; subst h
          exact ⟨u', h5, by simp [Instr.loadAt, Instr.sureAddr, loadVar, run_isAgg ha, h6]⟩
        · cases h
      · cases h
    · cases h
  · cases h

/-- a key that a map takes -/
def keyOk (P : Program) : Nat → TypeId → AV → Bool
  | 0, _, _ => false
  | d + 1, t, v => match P.underlying t, v with
    | some .bool, _ => true
    | some (.int _), _ => true
    | some .string, _ => true
    | some (.pointer _), _ => true
    | some (.struct _), .agg l => (fieldsA P t).all fun f => match partA P f.type l f.offset with | some a => keyOk P d f.type a | none => false
    | _, _ => false
theorem run_keyOk (em : Bool) : ∀ (d : Nat) {t : TypeId} {v : AV} {u : Value}, keyOk P d t v = true → conc ρ v = some u → ∀ D, d ≤ D → ∀ w, (Instr.checkKey em D t u).run P w = .ok () w
  | 0, _, _, _, h, _, _, _, _ => by cases h
  | d + 1, t, v, u, h, hv, 0, hD, w => by omega
  | d + 1, t, v, u, h, hv, D + 1, hD, w => by
    unfold keyOk at h
    split at h
    · rename_i hu; simp [Instr.checkKey, run_underlying hu]
    · rename_i hu; simp [Instr.checkKey, run_underlying hu]
    · rename_i hu; simp [Instr.checkKey, run_underlying hu]
    · rename_i hu; simp [Instr.checkKey, run_underlying hu]
    · rename_i fs l hu
      obtain ⟨us, hus, rfl⟩ := conc_agg hv
      have hf : P.fieldsOf t = fs := by unfold Program.fieldsOf; simp only [hu]
      unfold fieldsA at h
      rw [hf] at h
      rw [Instr.checkKey]
      simp only [Sem.run_bind, run_underlying hu, Result.andThen_ok]
      rw [← Array.forIn_toList]
      generalize fs.toList = fl at h
      clear hf hu
      induction fl generalizing w with
      | nil => simp
      | cons f fl ih =>
        by_cases hn : f.name = "_"
        · rw [List.filter_cons_of_neg (by simp [hn])] at h
          simp only [List.forIn_cons, Sem.run_bind, hn, ne_eq, not_true_eq_false, if_false, Sem.run_pure, Result.andThen_ok]
          exact ih w h
        · rw [List.filter_cons_of_pos (by simp [hn])] at h
          simp only [List.all_cons, Bool.and_eq_true] at h
          have h1 := h.1
          split at h1
          · rename_i a ha
            obtain ⟨y, hy, hr⟩ := run_part hus ha
            have hk := run_keyOk em d h1 hy D (by omega)
            simp only [List.forIn_cons, Sem.run_bind, ne_eq, hn, not_false_eq_true, if_true, hr, Result.andThen_ok, hk, Sem.run_pure]
            exact ih w h.2
          · cases h1
    · cases h
def findA (P : Program) (kt : TypeId) (k : AV) : List (AV × AV × Nat) → Nat → Option (Option (Nat × AV))
  | [], _ => some none
  | (ek, ev, _) :: l, i => match eqA P 20 kt k ek with | some true => some (some (i, ev)) | some false => findA P kt k l (i + 1) | none => none
def FndC (ρ : Ren) : Option (Nat × AV) → Option (Nat × Value) → Prop
  | none, none => True
  | some (i, v), some (j, u) => j = i ∧ conc ρ v = some u
  | _, _ => False
theorem sameNow_run {kt : TypeId} {kind : TypeDesc} {u v : Value} {b : Bool} (hu : P.underlying kt = some kind) (h : Instr.sameNow kind u v = some b) (w : World) : (Op.equal kt u v).run P w = .ok b w := by
  unfold Instr.sameNow at h
  split at h
  · split at h
    · rename_i hk; subst hk; injection h with h; subst h
      exact run_equalIn_int w 9999 kt _ _ _ _ hu
    · cases h
  · injection h with h; subst h
    rw [beq_toListBytes]
    exact run_equalIn_string w 9999 kt _ _ hu
  · injection h with h; subst h
    exact run_equalIn_bool w 9999 kt _ _ hu
  · cases h
theorem find_run {kt : TypeId} {kind : TypeDesc} (hu : P.underlying kt = some kind) {k : AV} {u : Value} (hk : conc ρ k = some u) : ∀ (l : List (AV × AV × Nat)) (m : List MapEntry) (i : Nat) {r : Option (Nat × AV)}, EntC ρ l m → findA P kt k l i = some r →
    ∃ r', FndC ρ r r' ∧ (∀ w, (Instr.findAsking kt u m i).run P w = .ok r' w) ∧ ∀ r0, Instr.findNow kind u m i = some r0 → r0 = r'
  | [], [], i, r, _, h => by
    injection h with h; subst h
    exact ⟨none, trivial, fun w => by simp [Instr.findAsking], fun r0 e => by unfold Instr.findNow at e; injection e with e; exact e.symm⟩
  | [], _ :: _, _, _, he, _ => he.elim
  | _ :: _, [], _, _, he, _ => he.elim
  | (ek, ev, b) :: l, e :: m, i, r, ⟨h1, h2, h3, h4⟩, h => by
    unfold findA at h
    split at h
    · rename_i heq
      injection h with h; subst h
      have hr := fun w => run_eqA 20 heq hk h1 10000 (by omega) w
      refine ⟨some (i, e.val), ⟨rfl, h2⟩, fun w => ?_, fun r0 e0 => ?_⟩
      · simp [Instr.findAsking, Op.equal, Op.maxDepth, hr]
      · unfold Instr.findNow at e0
        split at e0
        · injection e0 with e0; exact e0.symm
        · rename_i hs
          have := sameNow_run hu hs default
          simp only [Op.equal, Op.maxDepth, hr] at this
          injection this with this; cases this
        · cases e0
    · rename_i heq
      have hr := fun w => run_eqA 20 heq hk h1 10000 (by omega) w
      obtain ⟨r', f1, f2, f3⟩ := find_run hu hk l m (i + 1) h4 h
      refine ⟨r', f1, fun w => ?_, fun r0 e0 => ?_⟩
      · simp [Instr.findAsking, Op.equal, Op.maxDepth, hr, f2]
      · unfold Instr.findNow at e0
        split at e0
        · rename_i hs
          have := sameNow_run hu hs default
          simp only [Op.equal, Op.maxDepth, hr] at this
          injection this with this; cases this
        · exact f3 r0 e0
        · cases e0
    · cases h
theorem run_findA {kt : TypeId} {k : AV} {u : Value} {l : List (AV × AV × Nat)} {m : List MapEntry} {r : Option (Nat × AV)} (hk : conc ρ k = some u) (he : EntC ρ l m) (h : findA P kt k l 0 = some r) (hd : ∃ kind, P.underlying kt = some kind) :
    ∃ r', FndC ρ r r' ∧ ∀ w, (Instr.findKey kt u m).run P w = .ok r' w := by
  obtain ⟨kind, hu⟩ := hd
  obtain ⟨r', f1, f2, f3⟩ := find_run hu hk l m 0 he h
  refine ⟨r', f1, fun w => ?_⟩
  simp only [Instr.findKey, Sem.run_bind, run_underlying hu, Result.andThen_ok]
  split
  · rename_i r0 e0
    rw [f3 r0 e0]
    simp
  · exact f2 w
noncomputable def zeroV (P : Program) (t : TypeId) : Option AV := match P.info? t with | some i => (match i.zero with | some z => ofV 8 z | none => none) | none => none
theorem run_zeroV {t : TypeId} {v : AV} (h : zeroV P t = some v) : ∃ u, conc ρ v = some u ∧ ∀ w, (zeroValue t).run P w = .ok u w := by
  unfold zeroV at h
  split at h
  · rename_i i hi
    split at h
    · rename_i z hz
      exact ⟨z, ofV_conc ρ 8 z h, fun w => by simp [zeroValue, typeInfo, hi, hz]⟩
    · cases h
  · cases h
/-- a map's entries -/
noncomputable def entsA (g : Hp) : AV → Option (List (AV × AV × Nat))
  | .nilm => some []
  | .map b => (match g b with | some (.map es _) => some es | _ => none)
  | _ => none
noncomputable def lookupA (P : Program) (t : TypeId) (m k : AV) (ok : Bool) (g : Hp) : Option AV :=
  match P.underlying t with
  | some (.map kt et) => (match entsA g m with
    | some es => if keyOk P 20 kt k then (match findA P kt k es 0 with
      | some (some (_, v)) => some (if ok then .tup [v, .bool true] else v)
      | some none => (match zeroV P et with | some v => some (if ok then .tup [v, .bool false] else v) | none => none)
      | none => none) else none
    | none => none)
  | _ => none
theorem keyOk_under {d : Nat} {t : TypeId} {v : AV} (h : keyOk P d t v = true) : ∃ kind, P.underlying t = some kind := by
  cases d with
  | zero => cases h
  | succ d =>
    cases hu : P.underlying t with
    | none => unfold keyOk at h; rw [hu] at h; cases h
    | some k => exact ⟨k, rfl⟩
theorem Good.ents (hg : Good ρ n g w) {b : Pos} {es : List (AV × AV × Nat)} {c : Nat} (hb : g b = some (.map es c)) :
    ∃ k d x es', ρ.at_ b = some (k, d, x) ∧ w.heap[k]? = some (.map es' c) ∧ EntC ρ es es'.toList := by
  obtain ⟨k, d, x, o, h1, h2, h3⟩ := hg.rep b _ hb
  cases o with
  | map es' c' => obtain ⟨rfl, h4⟩ := h3; exact ⟨k, d, x, es', h1, h2, h4⟩
  | _ => exact h3.elim
theorem run_getMap {k : Nat} {es : Array MapEntry} {c : Nat} (h : w.heap[k]? = some (.map es c)) : (getObj k).run P w = .ok (.map es c) w := by
  simp [getObj, Sem.run, h]
theorem run_lookupA {t : TypeId} {m k v : AV} {ok : Bool} {um uk : Value} (hg : Good ρ n g w) (h : lookupA P t m k ok g = some v) (hm : conc ρ m = some um) (hk : conc ρ k = some uk) :
    ∃ y, conc ρ v = some y ∧ (Instr.lookup t um uk ok).run P w = .ok y w := by
  unfold lookupA at h
  split at h
  · rename_i kt et hu
    split at h
    · rename_i es hes
      split at h
      · rename_i hko
        have hd := keyOk_under hko
        have core : ∀ (ms : Array MapEntry), EntC ρ es ms.toList → ((um = .map none ∧ ms = #[]) ∨ ∃ kk c, um = .map (some kk) ∧ w.heap[kk]? = some (.map ms c)) →
            ∃ y, conc ρ v = some y ∧ (Instr.lookup t um uk ok).run P w = .ok y w := by
          intro ms hms hform
          have hck := fun em => run_keyOk (P := P) em 20 hko hk 10000 (by omega) w
          split at h
          · rename_i r i v' hf
            injection h with h
            obtain ⟨r', f1, f2⟩ := run_findA hk hms hf hd
            cases r' with
            | none => exact f1.elim
            | some p =>
              obtain ⟨j, y⟩ := p
              obtain ⟨_, f4⟩ := f1
              cases ok with
              | true =>
                subst h
                refine ⟨.tuple #[y, .bool true], tup_conc (concs_mk f4 (concs_mk rfl rfl)), ?_⟩
                rcases hform with ⟨rfl, rfl⟩ | ⟨kk, c, rfl, hh⟩
                · simp [Instr.lookup, run_underlying hu, hck, f2]
                · simp [Instr.lookup, run_underlying hu, run_getMap hh, hck, f2]
              | false =>
                subst h
                refine ⟨y, f4, ?_⟩
                rcases hform with ⟨rfl, rfl⟩ | ⟨kk, c, rfl, hh⟩
                · simp [Instr.lookup, run_underlying hu, hck, f2]
                · simp [Instr.lookup, run_underlying hu, run_getMap hh, hck, f2]
          · rename_i hf
            obtain ⟨r', f1, f2⟩ := run_findA hk hms hf hd
            cases r' with
            | some p => exact f1.elim
            | none =>
              split at h
              · rename_i zv hz
                injection h with h
                obtain ⟨y, f4, f5⟩ := run_zeroV (ρ := ρ) hz
                cases ok with
                | true =>
                  subst h
                  refine ⟨.tuple #[y, .bool false], tup_conc (concs_mk f4 (concs_mk rfl rfl)), ?_⟩
                  rcases hform with ⟨rfl, rfl⟩ | ⟨kk, c, rfl, hh⟩
                  · simp [Instr.lookup, run_underlying hu, hck, f2, f5]
                  · simp [Instr.lookup, run_underlying hu, run_getMap hh, hck, f2, f5]
                | false =>
                  subst h
                  refine ⟨y, f4, ?_⟩
                  rcases hform with ⟨rfl, rfl⟩ | ⟨kk, c, rfl, hh⟩
                  · simp [Instr.lookup, run_underlying hu, hck, f2, f5]
                  · simp [Instr.lookup, run_underlying hu, run_getMap hh, hck, f2, f5]
              · cases h
          · cases h
        unfold entsA at hes
        split at hes
        · injection hes with hes; subst hes
          cases hm
          exact core #[] trivial (.inl ⟨rfl, rfl⟩)
        · rename_i b
          split at hes
          · rename_i es1 c hb
            injection hes with hes; subst hes
            obtain ⟨kk, d, x, es', h1, h2, h3⟩ := hg.ents hb
            obtain ⟨k', d', x', h1', rfl⟩ := conc_map hm
            rw [h1] at h1'
            injection h1' with h1'; injection h1' with t1 t2
            subst t1
            exact core es' h3 (.inr ⟨_, _, rfl, h2⟩)
          · cases hes
        · cases hes
      · cases h
    · cases h
  · cases h
end
end Go.Proofs.YthggliknnmhbdaaGreat.Abs
end
/- Operations that make one new block. No conditions. -/
section
set_option linter.unusedVariables false
namespace Go.Proofs.YthggliknnmhbdaaGreat.Abs
open Go Go.RowKit
/-- strict: a number, written out -/
noncomputable def forceN {R : Type} (n : Nat) (k : Nat → R) : R := Nat.rec (motive := fun _ => R) (k 0) (fun m _ => k (Nat.succ m)) n
theorem forceN_eq {R : Type} (n : Nat) (k : Nat → R) : forceN n k = k n := by cases n <;> rfl
noncomputable def fillT : List AV → Nat → PT AV → PT AV
  | [], _, t => t
  | v :: l, i, t => fillT l (i + 1) (PT.set v (pk i) t)
noncomputable def rowK {R : Type} : List AV → Nat → PT AV → (PT AV → Nat → R) → R
  | [], i, t, k => forceN i fun i => k t i
  | v :: l, i, t, k => PT.setK v (pk i) t fun t => rowK l (i + 1) t k
theorem rowK_eq {R : Type} : ∀ (l : List AV) (i : Nat) (t : PT AV) (k : PT AV → Nat → R), rowK l i t k = k (fillT l i t) (i + l.length)
  | [], i, t, k => by simp [rowK, forceN_eq, fillT]
  | v :: l, i, t, k => by
    simp only [rowK, PT.setK_eq, fillT]
    rw [rowK_eq l (i + 1)]
    simp [Nat.add_assoc, Nat.add_comm 1]
theorem fillT_get : ∀ (l : List AV) (i : Nat) (t : PT AV) (j : Nat), PT.get (pk j) (fillT l i t) = if i ≤ j ∧ j < i + l.length then l[j - i]? else PT.get (pk j) t
  | [], i, t, j => by
    simp only [fillT, List.length_nil]
    rw [if_neg (by omega)]
  | v :: l, i, t, j => by
    rw [fillT, fillT_get l (i + 1), PT.get_set]
    by_cases h1 : i + 1 ≤ j ∧ j < i + 1 + l.length
    · rw [if_pos h1, if_pos (by simp only [List.length_cons]; omega)]
      rw [show j - i = (j - (i + 1)) + 1 by omega]
      simp
    · rw [if_neg h1]
      by_cases h2 : j = i
      · subst h2
        rw [if_pos rfl, if_pos (by simp only [List.length_cons]; omega)]
        simp
      · rw [if_neg (fun e => h2 (pk_inj e)), if_neg (by simp only [List.length_cons]; omega)]
theorem fillT_cell (l : List AV) (d : Option AV) (j : Nat) (h : j < l.length) : cellA (fillT l 0 .lf) d j = l[j]? := by
  unfold cellA
  rw [fillT_get, if_pos (by omega), Nat.sub_zero, List.getElem?_eq_getElem h]
theorem objC_row {ρ : Ren} {l : List AV} {xs : List Value} (h : concs ρ l = some xs) (x : Nat) (t : TypeId) : ObjC ρ 0 x (.row (fillT l 0 .lf) l.length none 0 (some t)) (.cells xs.toArray t (0, 0)) := by
  refine ⟨fun i hi => ?_, fun i hi => by simp at hi, fun e he => ⟨by cases he; rfl, rfl⟩⟩
  obtain ⟨u, h1, h2⟩ := concs_get h (List.getElem?_eq_getElem hi)
  exact ⟨l[i], u, by rw [fillT_cell l none i hi, List.getElem?_eq_getElem hi], h2, by simpa using h1, by simp⟩
/-- one value again and again -/
def sameA : AV → AV → Bool
  | .int j a, .int k b => j == k && a == b
  | .bool a, .bool b => a == b
  | .nilp, .nilp => true
  | .nils, .nils => true
  | .nilm, .nilm => true
  | .nilf, .nilf => true
  | .nili, .nili => true
  | .str [], .str [] => true
  | _, _ => false
theorem sameA_eq {x y : AV} (h : sameA x y = true) : x = y := by
  unfold sameA at h
  split at h
  · simp only [Bool.and_eq_true, beq_iff_eq] at h; rw [h.1, h.2]
  · simp only [beq_iff_eq] at h; rw [h]
  all_goals first | rfl | (cases h; done)
noncomputable def zuni (P : Program) (t : TypeId) : Option (AV × Nat) :=
  match zeroA P t with
  | some (z :: l) => if l.all (sameA z) then some (z, l.length + 1) else none
  | _ => none
noncomputable def cycA (zs : List AV) (m : Nat) : List AV := (List.range m).map fun i => (zs[i % zs.length]?).getD .nilp
theorem zeroA_conc {P : Program} {ρ : Ren} {t : TypeId} {zs : List AV} (h : zeroA P t = some zs) : ∃ i z, P.info? t = some i ∧ i.zero = some z ∧ concs ρ zs = some z.cells.toList := by
  unfold zeroA at h
  split at h
  · rename_i i hi
    split at h
    · rename_i z hz
      exact ⟨i, z, hi, hz, mapM_concs (ofV_conc ρ 8) _ h⟩
    · cases h
  · cases h
theorem concs_of {ρ : Ren} : ∀ {l : List AV} {xs : List Value}, l.length = xs.length → (∀ i, i < l.length → ∃ v u, l[i]? = some v ∧ xs[i]? = some u ∧ conc ρ v = some u) → concs ρ l = some xs
  | [], [], _, _ => rfl
  | [], _ :: _, h, _ => by simp at h
  | _ :: _, [], h, _ => by simp at h
  | v :: l, x :: xs, h, k => by
    obtain ⟨v', u, h1, h2, h3⟩ := k 0 (by simp)
    simp at h1 h2
    subst h1; subst h2
    refine concs_mk h3 (concs_of (by simpa using h) fun i hi => ?_)
    obtain ⟨v', u, h1, h2, h3⟩ := k (i + 1) (by simpa using hi)
    exact ⟨v', u, by simpa using h1, by simpa using h2, h3⟩
theorem cycA_conc {ρ : Ren} {zs : List AV} {z : Array Value} (h : concs ρ zs = some z.toList) (hne : zs ≠ []) (m : Nat) : concs ρ (cycA zs m) = some (madeCells z m).toList := by
  have hl := concs_len h
  have hpos : 0 < zs.length := List.length_pos_iff.2 hne
  simp only [Array.length_toList] at hl
  refine concs_of (by simp [cycA, madeCells]) fun i hi => ?_
  have him : i < m := by simpa [cycA] using hi
  have hmod : i % zs.length < zs.length := Nat.mod_lt _ hpos
  obtain ⟨u, h1, h2⟩ := concs_get h (List.getElem?_eq_getElem hmod)
  refine ⟨zs[i % zs.length], u, ?_, ?_, h2⟩
  · simp [cycA, him, List.getElem?_eq_getElem hmod]
  · have h3 : i % z.size < z.size := by rw [hl]; exact hmod
    have h4 : z[i % z.size]? = some u := by
      rw [hl]; simpa using h1
    simp [madeCells, him, Array.getElem!_eq_getD, Array.getD_eq_getD_getElem?, h4]
/-- one new block, under the id b -/
noncomputable def allocK {R : Type} (P : Program) (a : PT AV) (op : Op) (b : Pos) (k : AO → AV → Option R) : Option R :=
  match op with
  | .box t x => (match ev a x with | some v => rowK (cellsA v) 0 .lf fun cs n => k (.row cs n none 0 (some t)) (.ptr b 0) | none => none)
  | .alloc t => (match zuni P t with
    | some (z, n) => k (.row .lf n (some z) 0 (some t)) (.ptr b 0)
    | none => (match zeroA P t with | some zs => rowK zs 0 .lf fun cs n => k (.row cs n none 0 (some t)) (.ptr b 0) | none => none))
  | .buildSlice t len parts => (match P.underlying t with
    | some (.slice e) => (match sizeT P e, zeroA P e, evParts a parts.toList with
      | some z, some zs, some ps => if 0 < z ∧ zs.length = z ∧ len * z < 16777216 then
          (match fillA (fun i => some (i * z, z)) (cycA zs (len * z)) ps with | some r => rowK r 0 .lf fun cs n => k (.row cs n none 0 (some e)) (.slc b 0 len len true) | none => none) else none
      | _, _, _ => none)
    | _ => none)
  | .makeMap t none => k (.map [] 0) (.map b)
  | .makeSlice t l c => (match P.underlying t, ev a l, ev a c with
    | some (.slice e), some (.int _ l), some (.int _ c) => (match sizeT P e, (P.info? e).map (·.bytes) with
      | some z, some by_ => if 0 ≤ l ∧ l ≤ c ∧ (by_ : Int) * c ≤ 1048576 ∧ c ≤ 1048576 then
          forceN l.toNat fun l => forceN c.toNat fun c =>
          (match zuni P e with
          | some (v, _) => forceN (c * z) fun m => k (.row .lf m (some v) 0 (some e)) (.slc b 0 l c true)
          | none => (match zeroA P e with | some (v :: zs) => rowK (cycA (v :: zs) (c * z)) 0 .lf fun cs n => k (.row cs n none 0 (some e)) (.slc b 0 l c true) | _ => none)) else none
      | _, _ => none)
    | _, _, _ => none)
  | .convert s d x => (match P.underlying s, P.underlying d, ev a x with
    | some .string, some (.slice e), some (.str l) => (match P.underlying e with
      | some (.int .u8) => rowK (l.map fun (c : Nat) => AV.int .u8 (Int.ofNat c)) 0 .lf fun cs n => k (.row cs n none 1 (some e)) (.slc b 0 n n false)
      | _ => none)
    | _, _, _ => none)
  | _ => none
section
variable {P : Program} {ρ : Ren}
/-- what a new block is -/
def Made (P : Program) (o : Oper) (ρ : Ren) (A : Act) (b : Pos) (ao : AO) (v : AV) : Prop :=
  ∀ w : World, ∃ m x obj u, (execOp A.eval o).run P w = .ok (.value u) ((w.drewN m).alloc obj) ∧ ObjC (ρ.put b (w.heap.size, 0, x)) 0 x ao obj ∧ conc (ρ.put b (w.heap.size, 0, x)) v = some u
theorem made_row {o : Oper} {A : Act} {b : Pos} {l : List AV} {xs : List Value} {t : TypeId} (hb : ρ.at_ b = none) (hl : concs ρ l = some xs)
    (hr : ∀ w, (execOp A.eval o).run P w = .ok (.value (.pointer (some ⟨w.heap.size, 0, none⟩))) (w.alloc (.cells xs.toArray t))) : Made P o ρ A b (.row (fillT l 0 .lf) (0 + l.length) none 0 (some t)) (.ptr b 0) :=
  fun w => ⟨0, 0, _, _, hr w, by rw [Nat.zero_add]; exact objC_row (concs_le (Ren.le_put _ hb) _ hl) 0 t, by rw [ptr_conc (Ren.put_at _ _ _)]⟩
theorem made_slc {o : Oper} {A : Act} {b : Pos} {l : List AV} {xs : List Value} {t : TypeId} {n c : Nat} (hb : ρ.at_ b = none) (hl : concs ρ l = some xs)
    (hr : ∀ w, (execOp A.eval o).run P w = .ok (.value (.slice (some ⟨w.heap.size, 0, none⟩) n c)) (w.alloc (.cells xs.toArray t))) : Made P o ρ A b (.row (fillT l 0 .lf) (0 + l.length) none 0 (some t)) (.slc b 0 n c true) :=
  fun w => ⟨0, 0, _, _, hr w, by rw [Nat.zero_add]; exact objC_row (concs_le (Ren.le_put _ hb) _ hl) 0 t, by rw [slc_conc (Ren.put_at _ _ _)]; rfl⟩
theorem run_zero {t : TypeId} {i : TypeInfo} {z : Value} (hi : P.info? t = some i) (hz : i.zero = some z) (w : World) : (zeroValue t).run P w = .ok z w := by simp [zeroValue, typeInfo, hi, hz]
theorem run_newVar {t : TypeId} {v : Value} (w : World) : (newVar t v).run P w = .ok ⟨w.heap.size, 0, none⟩ (w.alloc (.cells v.cells t)) := by
  simp [newVar, newRow]
theorem zuni_cells {t : TypeId} {z : AV} {n : Nat} (h : zuni P t = some (z, n)) : ∃ i v, P.info? t = some i ∧ i.zero = some v ∧ n = v.cells.size ∧ 0 < n ∧ ∀ (ρ : Ren), ∃ u, conc ρ z = some u ∧ ∀ j, j < n → v.cells[j]? = some u := by
  unfold zuni at h
  split at h
  · rename_i z0 l hz
    split at h
    · rename_i hall
      injection h with h
      injection h with h h'
      subst h
      obtain ⟨i, v, h1, h2, _⟩ := zeroA_conc (ρ := ⟨fun _ => none, fun _ => .bool true, by simp⟩) hz
      have key : ∀ (ρ : Ren), concs ρ (z0 :: l) = some v.cells.toList := fun ρ => by
        obtain ⟨i', v', h1', h2', h3'⟩ := zeroA_conc (ρ := ρ) hz
        rw [h1] at h1'; injection h1' with h1'; subst h1'
        rw [h2] at h2'; injection h2' with h2'; subst h2'
        exact h3'
      have hlen := concs_len (key ⟨fun _ => none, fun _ => .bool true, by simp⟩)
      simp only [Array.length_toList, List.length_cons] at hlen
      refine ⟨i, v, h1, h2, by omega, by omega, fun ρ => ?_⟩
      obtain ⟨u, us, hus, h4, h5⟩ := concs_cons (key ρ)
      refine ⟨u, h4, fun j hj => ?_⟩
      have hj' : j < (z0 :: l).length := by simp; omega
      obtain ⟨u', h6, h7⟩ := concs_get (key ρ) (List.getElem?_eq_getElem hj')
      have he : (z0 :: l)[j] = z0 := by
        cases j with
        | zero => rfl
        | succ j =>
          have hm : (z0 :: l)[j + 1] ∈ l := by simp
          exact (sameA_eq (List.all_eq_true.1 hall _ hm)).symm
      rw [he, h4] at h7
      injection h7 with h7
      subst h7
      simpa using h6
    · cases h
  · cases h
theorem objC_uni {ρ : Ren} {z : AV} {u : Value} (h : conc ρ z = some u) {cc : Array Value} {n : Nat} (hc : ∀ j, j < n → cc[j]? = some u) (x : Nat) (t : TypeId) : ObjC ρ 0 x (.row .lf n (some z) 0 (some t)) (.cells cc t (0, 0)) :=
  ⟨fun i hi => ⟨z, u, by simp [cellA, PT.get_lf], h, by simpa using hc i hi, by simp⟩, fun i hi => by simp at hi, fun e he => ⟨by cases he; rfl, rfl⟩⟩
theorem range_map_get {α : Type} (f : Nat → α) (n i : Nat) (h : i < n) : ((List.range n).map f)[i]? = some (f i) := by simp [h]
theorem allocK_some {R : Type} {a : PT AV} {o : Oper} {b : Pos} {k : AO → AV → Option R} {r : R} (h : allocK P a o.op b k = some r) :
    ∃ ao v, k ao v = some r ∧ ∀ (ρ : Ren) (A : Act), Slots ρ a A → ρ.at_ b = none → Made P o ρ A b ao v := by
  unfold allocK at h
  split at h
  · rename_i t x ho
    split at h
    · rename_i v hv
      rw [rowK_eq] at h
      refine ⟨_, _, h, fun ρ A hs hb => ?_⟩
      obtain ⟨u, h1, h2⟩ := ev_conc hs hv
      refine made_row hb (cells_conc h1) (t := t) fun w => ?_
      simp [execOp, ho, h2, Instr.box, run_newVar]
    · cases h
  · rename_i t ho
    have small : ∀ zs, zeroA P t = some zs → rowK zs 0 .lf (fun cs n => k (.row cs n none 0 (some t)) (.ptr b 0)) = some r → ∃ ao v, k ao v = some r ∧ ∀ (ρ : Ren) (A : Act), Slots ρ a A → ρ.at_ b = none → Made P o ρ A b ao v := by
      intro zs hz h
      rw [rowK_eq] at h
      refine ⟨_, _, h, fun ρ A hs hb => ?_⟩
      obtain ⟨i, z, hi, hzz, hc⟩ := zeroA_conc (ρ := ρ) hz
      refine made_row hb hc (t := t) fun w => ?_
      simp [execOp, ho, Instr.alloc, run_zero hi hzz, run_newVar]
    split at h
    · rename_i z n hz
      obtain ⟨i, v, hi, hv, hn, hpos, hall⟩ := zuni_cells hz
      refine ⟨_, _, h, fun ρ A hs hb w => ?_⟩
      obtain ⟨u, h1, h2⟩ := hall ρ
      refine ⟨0, 0, .cells v.cells t, .pointer (some ⟨w.heap.size, 0, none⟩), ?_, objC_uni (conc_le (Ren.le_put _ hb) _ h1) h2 0 t, by rw [ptr_conc (Ren.put_at _ _ _)]⟩
      simp [execOp, ho, Instr.alloc, run_zero hi hv, run_newVar]
      rfl
    · split at h
      · rename_i zs hzs; exact small zs hzs h
      · cases h
  · rename_i t len parts ho
    split at h
    · rename_i e hu
      split at h
      · rename_i z zs ps hz hzs hps
        split at h
        · rename_i hc
          split at h
          · rename_i rr hr
            rw [rowK_eq] at h
            refine ⟨_, _, h, fun ρ A hs hb => ?_⟩
            obtain ⟨i, zv, hi, hzz, hcz⟩ := zeroA_conc (ρ := ρ) hzs
            have hne : zs ≠ [] := fun e => by subst e; simp at hc; omega
            obtain ⟨ys, h1, h2⟩ := fill_conc ps (evParts_conc hs _ hps) (cycA_conc hcz hne (len * z)) hr
            refine made_slc hb h1 (t := e) fun w => ?_
            have e1 : ¬ (2 ^ 24 < len * z) := by have := hc.2.2; omega
            have hsz := run_sizeOf (P := P) (w := w) hz
            unfold sizeT at hz
            rw [hi] at hz
            simp only [Option.some.injEq] at hz
            have hfl : Instr.fill (fun i => some (i * z, z)) (madeCells zv.cells (len * z)) (parts.toList.map fun p => (p.1, A.eval p.2)) = some ys.toArray := by simpa using h2
            by_cases h0 : len * z = 0
            · have hm : madeCells zv.cells (len * z) = #[] := by rw [h0]; simp [madeCells]
              rw [hm] at hfl
              have hr0 : Array.range 0 = #[] := by simp [Array.range]
              simp [execOp, ho, Instr.buildSlice, run_underlying hu, hsz, h0, newRow, hr0, hfl]
            · simp only [madeCells] at hfl
              simp [execOp, ho, Instr.buildSlice, run_underlying hu, hsz, e1, h0, newRow, run_zero hi hzz, hfl]
          · cases h
        · cases h
      · cases h
    · cases h
  · rename_i t ho
    refine ⟨_, _, h, fun ρ A hs hb w => ⟨0, 0, .map #[] 0, .map (some w.heap.size), ?_, ⟨rfl, trivial⟩, ?_⟩⟩
    · simp [execOp, ho, Instr.makeMap]; rfl
    · simp only [conc, Ren.put_at]
  · rename_i t l c ho
    split at h
    · rename_i e kl li kc ci hu hl hcv
      split at h
      · rename_i z by_ hz hby
        split at h
        · rename_i hc
          rw [forceN_eq, forceN_eq] at h
          obtain ⟨i, hi, hbi⟩ := Option.map_eq_some_iff.1 hby
          have hzi : i.size = z := by unfold sizeT at hz; rw [hi] at hz; simpa using hz
          have core : ∀ (ρ : Ren) (A : Act) zv, Slots ρ a A → i.zero = some zv → ∀ w, (execOp A.eval o).run P w = .ok (.value (.slice (some ⟨w.heap.size, 0, none⟩) li.toNat ci.toNat)) (w.alloc (.cells (madeCells zv.cells (ci.toNat * z)) e)) := by
            intro ρ A zv hs hzv w
            obtain ⟨u, h3, h4⟩ := ev_conc hs hl
            obtain ⟨u2, h5, h6⟩ := ev_conc hs hcv
            cases h3; cases h5
            have := run_make (P := P) w t e i zv hu hi hzv kl kc li ci hc.1 hc.2.1 (by rw [hbi]; omega) (by omega)
            rw [hzi] at this
            simp [execOp, ho, h4, h6, this]
          split at h
          · rename_i v vn hv
            rw [forceN_eq] at h
            obtain ⟨i', zv, hi', hzv, hn, hpos, hall⟩ := zuni_cells hv
            rw [hi] at hi'; injection hi' with hi'; subst hi'
            refine ⟨_, _, h, fun ρ A hs hb w => ?_⟩
            obtain ⟨u, h1, h2⟩ := hall ρ
            refine ⟨0, 0, _, _, core ρ A zv hs hzv w, objC_uni (u := u) (conc_le (Ren.le_put _ hb) _ h1) (fun j hj => ?_) 0 e, by rw [slc_conc (Ren.put_at _ _ _)]; rfl⟩
            have hm : j % zv.cells.size < vn := by rw [hn]; exact Nat.mod_lt _ (by omega)
            have h3 := h2 _ hm
            simp [madeCells, hj, Array.getElem!_eq_getD, Array.getD_eq_getD_getElem?, h3]
          · split at h
            · rename_i v zs hzs
              rw [rowK_eq] at h
              refine ⟨_, _, h, fun ρ A hs hb => ?_⟩
              obtain ⟨i', zv, hi', hzv, hcz⟩ := zeroA_conc (ρ := ρ) hzs
              rw [hi] at hi'; injection hi' with hi'; subst hi'
              exact made_slc hb (cycA_conc hcz (by simp) _) (t := e) (fun w => by simpa using core ρ A zv hs hzv w)
            · cases h
        · cases h
      · cases h
    · cases h
  · rename_i s d x ho
    split at h
    · rename_i e l hs0 hd hx
      split at h
      · rename_i he
        rw [rowK_eq] at h
        refine ⟨_, _, h, fun ρ A hs hb w => ?_⟩
        obtain ⟨u, h3, h4⟩ := ev_conc hs hx
        obtain ⟨hl, rfl⟩ := conc_str h3
        have hge := grownCap_ge w (strOf l).size 0 e
        have hrun := run_bytes_of_string (P := P) w s d e (strOf l) hs0 hd he
        rw [strOf_size] at hge
        have hbr : ∀ j, j < l.length → ∃ c, l[j]? = some c ∧ (bytesRow (strOf l) (grownCap w (strOf l).size 0 e))[j]? = some (.int .u8 (c : Int)) := fun j hj => by
          refine ⟨l[j], List.getElem?_eq_getElem hj, ?_⟩
          have hsz : j < (strOf l).data.size := by simpa [strOf] using hj
          have hlt : l[j] < 256 := by simpa using List.all_eq_true.1 hl l[j] (List.getElem_mem hj)
          unfold bytesRow
          rw [Array.getElem?_append_left (by simpa using hsz)]
          simp [strOf, hj, UInt8.toNat_ofNat', Nat.mod_eq_of_lt hlt]
        have hbs : (bytesRow (strOf l) (grownCap w (strOf l).size 0 e)).size = grownCap w (strOf l).size 0 e := by
          unfold bytesRow
          have := strOf_size l
          have h2 : (strOf l).data.size = l.length := by simp [strOf]
          simp only [Array.size_append, Array.size_map, Array.size_replicate, h2]
          rw [this]
          omega
        have hlen : (List.map (fun (c : Nat) => AV.int .u8 (Int.ofNat c)) l).length = l.length := by simp
        refine ⟨1, grownCap w (strOf l).size 0 e - l.length, .cells (bytesRow (strOf l) (grownCap w (strOf l).size 0 e)) e ((bytesRow (strOf l) (grownCap w (strOf l).size 0 e)).size, (bytesRow (strOf l) (grownCap w (strOf l).size 0 e)).size + 1), .slice (some ⟨w.heap.size, 0, none⟩) (strOf l).size (grownCap w (strOf l).size 0 e), ?_, ?_, ?_⟩
        · simp only [execOp, ho, h4, Sem.run_bind, hrun, Result.andThen_ok, Sem.run_pure]
          rfl
        · rw [strOf_size] at hbs hbr ⊢
          refine ⟨fun i hi => ?_, fun i hi => ?_, fun e he => ⟨by cases he; rfl, rfl⟩⟩
          · have hi' : i < l.length := by simpa using hi
            obtain ⟨c, h5, h6⟩ := hbr i hi'
            refine ⟨.int .u8 (Int.ofNat c), .int .u8 (c : Int), ?_, rfl, by simpa using h6, by simp only [hbs]; omega⟩
            rw [fillT_cell _ _ _ (by simpa using hi')]
            simp [h5]
          · simp only [hbs]
            simp only [hlen, Nat.zero_add, Nat.mul_one] at hi ⊢
            omega
        · rw [slc_conc (Ren.put_at _ _ _)]
          rw [strOf_size]
          simp only [hlen, Nat.zero_add]
          rw [show l.length + (grownCap w l.length 0 e - l.length) = grownCap w l.length 0 e by omega]
          simp
      · cases h
    · cases h
  · cases h
end
end Go.Proofs.YthggliknnmhbdaaGreat.Abs
end
/- Operations that write: stores, copies. No conditions. -/
section
set_option linter.unusedVariables false
namespace Go.Proofs.YthggliknnmhbdaaGreat.Abs
open Go Go.RowKit
noncomputable abbrev hp (H : PT AO) : Hp := fun b => PT.get b H
theorem hp_set (H : PT AO) (b : Pos) (o : AO) : hp (PT.set o b H) = (hp H).set b o := by
  funext q
  simp only [hp, Hp.set, PT.get_set]
theorem hp_del (H : PT AO) (b : Pos) : hp (PT.del b H) = (hp H).del b := by
  funext q
  simp only [hp, Hp.del, PT.get_del]
noncomputable def wrK {R : Type} : List AV → Nat → PT AV → (PT AV → R) → R
  | [], _, t, k => k t
  | v :: l, i, t, k => PT.setK v (pk i) t fun t => wrK l (i + 1) t k
theorem wrK_eq {R : Type} : ∀ (l : List AV) (i : Nat) (t : PT AV) (k : PT AV → R), wrK l i t k = k (fillT l i t)
  | [], i, t, k => rfl
  | v :: l, i, t, k => by simp only [wrK, PT.setK_eq, fillT]; rw [wrK_eq l (i + 1)]
/-- the value of one cell -/
def oneA : AV → Bool
  | .agg _ => false
  | .tup _ => false
  | _ => true
theorem oneA_conc {ρ : Ren} {v : AV} {u : Value} (h : oneA v = true) (hv : conc ρ v = some u) : u.oneCell' = true := by
  have key : (∀ cs, u ≠ .agg cs) → (∀ cs, u ≠ .tuple cs) → u.oneCell' = true := by
    intro h1 h2
    cases u <;> first | rfl | exact absurd rfl (h1 _) | exact absurd rfl (h2 _)
  cases v <;> first
    | (cases h; done)
    | (unfold conc at hv; injection hv with hv; subst hv; exact key (fun cs => (ρ.one _ cs).1) (fun cs => (ρ.one _ cs).2))
    | (unfold conc at hv; injection hv with hv; subst hv; rfl)
    | (unfold conc at hv; split at hv <;> first | (cases hv; done) | (split at hv <;> first | (cases hv; done) | (injection hv with hv; subst hv; rfl)) | (injection hv with hv; subst hv; first | rfl | (split <;> rfl)))
/-- which block a value leads to -/
def idOf : AV → Option Pos
  | .ptr b _ => some b
  | .slc b _ _ _ _ => some b
  | .slz b _ _ => some b
  | .map b => some b
  | _ => none
/-- nothing but what x leads to has turned -/
def Keep (x : AV) (H H' : PT AO) : Prop := ∀ q, idOf x ≠ some q → PT.get q H' = PT.get q H
def KeepN (x : AV) (n : Pos) (H H' : PT AO) : Prop := ∀ q, idOf x ≠ some q → q.nat < n.nat → PT.get q H' = PT.get q H
theorem Keep.refl (x : AV) (H : PT AO) : Keep x H H := fun _ _ => rfl
theorem Keep.n {x : AV} {H H' : PT AO} (h : Keep x H H') (n : Pos) : KeepN x n H H' := fun q e _ => h q e
theorem keep_set {x : AV} {H : PT AO} {b : Pos} {o : AO} (h : idOf x = some b) : Keep x H (PT.set o b H) := fun q e => by
  rw [PT.get_set, if_neg (fun e' => e (by rw [e']; exact h))]
/-- what a step yields -/
def Yields (r : Result Next) (u : Value) (w : World) : Prop := r = .ok (.value u) w ∨ (r = .ok .skip w ∧ u = undef)
section
variable {P : Program}
theorem run_storeRow (k : Nat) (t : TypeId) (fz : Nat × Nat) (off : Nat) : ∀ (vs : List Value) (i : Nat) (w : World) (cc : Array Value), w.heap[k]? = some (.cells cc t fz) →
    (∀ j, j < vs.length → off + i + j < cc.size ∧ ¬ (fz.1 ≤ off + i + j ∧ off + i + j < fz.2)) → (∀ v ∈ vs, v.oneCell' = true) →
    ∃ w' cc', (storeCells ⟨k, off, none⟩ vs i).run P w = .ok () w' ∧ w'.heap[k]? = some (.cells cc' t fz) ∧ cc'.size = cc.size ∧
      (∀ j, cc'[j]? = if off + i ≤ j ∧ j < off + i + vs.length then vs[j - (off + i)]? else cc[j]?) ∧ (∀ q, q ≠ k → w'.heap[q]? = w.heap[q]?) ∧
      w'.heap.size = w.heap.size ∧ w'.os = w.os ∧ w'.tape = w.tape ∧ w'.output = w.output
  | [], i, w, cc, hk, _, _ => ⟨w, cc, rfl, hk, rfl, fun j => by simp; omega, fun _ _ => rfl, rfl, rfl, rfl, rfl⟩
  | v :: vs, i, w, cc, hk, hc, h1 => by
    have h0 := hc 0 (by simp)
    simp only [Nat.add_zero] at h0
    have hcell : w.cell? ⟨k, off + i, none⟩ = some (cc[off + i]'h0.1) := by simp [World.cell?, hk, h0.1]
    have hfz : w.frozen? ⟨k, off + i, none⟩ = false := by
      obtain ⟨lo, hi⟩ := fz
      simp only [World.frozen?, hk, Bool.and_eq_false_iff, decide_eq_false_iff_not]
      have := h0.2
      simp only at this
      omega
    have hst : (store ((⟨k, off, none⟩ : Addr).add i) v).run P w = .ok () (w.setCell ⟨k, off + i, none⟩ v) := by
      rw [addr_add, run_store P w _ v _ (h1 v (by simp))]
      simp [hcell, hfz]
    have hk' : (w.setCell ⟨k, off + i, none⟩ v).heap[k]? = some (.cells (cc.setIfInBounds (off + i) v) t fz) := by
      simp [World.setCell, Array.getElem?_modify, hk]
    obtain ⟨w', cc', e1, e2, e3, e4, e5, e6, e7, e8, e9⟩ := run_storeRow k t fz off vs (i + 1) _ _ hk' (fun j hj => by
      have := hc (j + 1) (by simpa using hj)
      rw [show off + i + (j + 1) = off + (i + 1) + j by omega] at this
      simpa using this) (fun u hu => h1 u (by simp [hu]))
    refine ⟨w', cc', by simp only [storeCells, Sem.run_bind, hst, Result.andThen_ok, e1], e2, by rw [e3]; simp, fun j => ?_, fun q hq => ?_, by rw [e6]; simp [World.setCell], e7, e8, e9⟩
    · rw [e4]
      by_cases ha : off + (i + 1) ≤ j ∧ j < off + (i + 1) + vs.length
      · rw [if_pos ha, if_pos (by simp only [List.length_cons]; omega), show j - (off + i) = (j - (off + (i + 1))) + 1 by omega]
        simp
      · rw [if_neg ha]
        by_cases hb : j = off + i
        · subst hb
          rw [if_pos (by simp only [List.length_cons]; omega)]
          simp [h0.1]
        · rw [if_neg (by simp only [List.length_cons]; omega), Array.getElem?_setIfInBounds_ne (fun e => hb e.symm)]
    · rw [e5 q hq]
      exact Below.heap_setCell w ⟨k, off + i, none⟩ v q (fun e => hq e)
/-- cells that are written into a row -/
noncomputable def putK {R : Type} (x : AV) (vs : List AV) (H : PT AO) (k : PT AO → Option R) : Option R :=
  match x with
  | .ptr b o => (match PT.get b H with
    | some (.row cs n df es ty) => if o + vs.length ≤ n ∧ vs.all oneA = true then wrK vs o cs fun cs => PT.setK (.row cs n df es ty) b H k else none
    | _ => none)
  | _ => none
theorem allOne {ρ : Ren} : ∀ {l : List AV} {us : List Value}, l.all oneA = true → concs ρ l = some us → ∀ u ∈ us, u.oneCell' = true
  | [], us, _, h => by cases h; simp
  | v :: l, us, ha, h => by
    obtain ⟨y, ys, rfl, h1, h2⟩ := concs_cons h
    simp only [List.all_cons, Bool.and_eq_true] at ha
    intro u hu
    rcases List.mem_cons.1 hu with rfl | hu
    · exact oneA_conc ha.1 h1
    · exact allOne ha.2 h2 u hu
theorem putK_some {R : Type} {x : AV} {vs : List AV} {H : PT AO} {k : PT AO → Option R} {r : R} (h : putK x vs H k = some r) :
    ∃ H', k H' = some r ∧ Keep x H H' ∧ ∀ {ρ : Ren} {n : Pos} {w : World} {us : List Value} {u : Value}, Good ρ n (hp H) w → concs ρ vs = some us → conc ρ x = some u →
      ∃ a w', u = .pointer (some a) ∧ (storeCells a us).run P w = .ok () w' ∧ Good ρ n (hp H') w' ∧ Fr ρ n (hp H) w ρ n (hp H') w' := by
  unfold putK at h
  split at h
  · rename_i b o
    split at h
    · rename_i cs m df es hb
      split at h
      · rename_i hc
        rw [wrK_eq, PT.setK_eq] at h
        refine ⟨_, h, keep_set rfl, fun {ρ n w us u} hg hus hx => ?_⟩
        obtain ⟨kk, d, e, cc, t, fz, h1, h2, h3, h4⟩ := hg.cell hb
        obtain ⟨k', d', e', h1', rfl⟩ := conc_ptr hx
        rw [h1] at h1'; injection h1' with h1'; injection h1' with t1 t2; injection t2 with t2 t3
        subst t1; subst t2; subst t3
        have hlen := concs_len hus
        obtain ⟨w', cc', e1, e2, e3, e4, e5, e6, e7, e8, e9⟩ := run_storeRow (P := P) kk t fz (d + o) us 0 w cc h2 (fun j hj => by
          obtain ⟨v, y, _, _, f3, f4⟩ := h3.1 (o + j) (by omega)
          have := (Array.getElem?_eq_some_iff.1 f3).1
          rw [show d + (o + j) = d + o + 0 + j by omega] at this f4
          exact ⟨this, f4⟩) (allOne hc.2 hus)
        rw [hp_set]
        refine ⟨_, w', rfl, e1, hg.turn (g := hp H) hb h1 e2 e5 e6 e7 e8 e9 ⟨fun i hi => ?_, fun i hi => ?_, h3.2.2⟩⟩
        · obtain ⟨v, y, f1, f2, f3, f4⟩ := h3.1 i hi
          simp only [Nat.add_zero] at e4
          by_cases hio : o ≤ i ∧ i < o + vs.length
          · have hj : i - o < vs.length := by omega
            obtain ⟨y', g1, g2⟩ := concs_get hus (List.getElem?_eq_getElem hj)
            refine ⟨vs[i - o], y', ?_, g2, ?_, f4⟩
            · unfold cellA
              rw [fillT_get, if_pos hio, List.getElem?_eq_getElem hj]
            · rw [e4, if_pos (by omega), show d + i - (d + o) = i - o by omega]
              exact g1
          · refine ⟨v, y, ?_, f2, ?_, f4⟩
            · unfold cellA at f1 ⊢
              rw [fillT_get, if_neg hio]
              exact f1
            · rw [e4, if_neg (by omega)]
              exact f3
        · have := h3.2.1 i hi
          exact ⟨by rw [e3]; exact this.1, this.2⟩
      · cases h
    · cases h
  · cases h
noncomputable def storeK {R : Type} (P : Program) (t : TypeId) (x v : AV) (H : PT AO) (k : PT AO → Option R) : Option R :=
  match sizeT P t with
  | some z => if (cellsA v).length = z then putK x (cellsA v) H k else none
  | none => none
theorem storeK_some {R : Type} {t : TypeId} {x v : AV} {H : PT AO} {k : PT AO → Option R} {r : R} (h : storeK P t x v H k = some r) :
    ∃ H', k H' = some r ∧ Keep x H H' ∧ ∀ {ρ : Ren} {n : Pos} {w : World} {u ux : Value}, Good ρ n (hp H) w → conc ρ v = some u → conc ρ x = some ux →
      ∃ w', (Instr.storeAt t ux u).run P w = .ok () w' ∧ Good ρ n (hp H') w' ∧ Fr ρ n (hp H) w ρ n (hp H') w' := by
  unfold storeK at h
  split at h
  · rename_i z hz
    split at h
    · rename_i hl
      obtain ⟨H', h1, hkp, h2⟩ := putK_some (P := P) h
      refine ⟨H', h1, hkp, fun {ρ n w u ux} hg hv hx => ?_⟩
      have hc := cells_conc hv
      obtain ⟨a, w', rfl, e1, e2, e3⟩ := h2 hg hc hx
      refine ⟨w', ?_, e2, e3⟩
      have hlen := concs_len hc
      simp only [Array.length_toList] at hlen
      simp [Instr.storeAt, Instr.sureAddr, storeVar, run_sizeOf hz, hlen, hl, e1]
    · cases h
  · cases h
/-- the first cells of a slice or a string -/
noncomputable def firstA (z n : Nat) (x : AV) (g : Hp) : Option (List AV) :=
  match x with
  | .slc b o _ _ _ => (match g b with | some (.row cs m df _ _) => if o + n * z ≤ m then rdCells cs df (n * z) o else none | _ => none)
  | .slz .. => if n * z = 0 then some [] else none
  | .nils => some []
  | .str l => some ((l.take n).map fun (c : Nat) => AV.int .u8 (Int.ofNat c))
  | _ => none
theorem run_firstA {ρ : Ren} {n : Pos} {g : Hp} {w : World} {z m : Nat} {x : AV} {u : Value} {l : List AV} (hg : Good ρ n g w) (h : firstA z m x g = some l) (hx : conc ρ x = some u) :
    ∃ us, concs ρ l = some us ∧ (Builtin.firstCells z m u).run P w = .ok us.toArray w := by
  unfold firstA at h
  split at h
  · rename_i b o ln c e
    split at h
    · rename_i cs mm df es hb
      split at h
      · rename_i hc
        obtain ⟨kk, d, e', cc, t, fz, h1, h2, h3, h4⟩ := hg.cell hb
        obtain ⟨k', d', e'', h1', rfl⟩ := conc_slc hx
        rw [h1] at h1'; injection h1' with h1'; injection h1' with t1 t2; injection t2 with t2 t3
        subst t1; subst t2; subst t3
        obtain ⟨us, h5, h6, h7⟩ := rdCells_conc h4 (m * z) o h hc
        refine ⟨us, h5, ?_⟩
        have hr := run_loadCells_list (P := P) w ⟨kk, d + o, none⟩ us (fun j y e => by rw [addr_add]; exact h7 j y e)
        rw [h6] at hr
        exact hr
      · cases h
    · cases h
  · split at h
    · rename_i h0
      injection h with h; subst h
      obtain ⟨a, c, rfl⟩ := conc_slz' hx
      exact ⟨[], rfl, by simp [Builtin.firstCells, h0, loadCells, loadCellsFrom]⟩
    · cases h
  · injection h with h; subst h
    cases hx
    exact ⟨[], rfl, by simp [Builtin.firstCells]⟩
  · rename_i s
    injection h with h; subst h
    obtain ⟨hl, rfl⟩ := conc_str hx
    refine ⟨(s.take m).map fun (c : Nat) => Value.int .u8 (Int.ofNat c), ?_, ?_⟩
    · refine concs_of (by simp) fun i hi => ?_
      have hi' : i < (s.take m).length := by simpa using hi
      exact ⟨.int .u8 (Int.ofNat (s.take m)[i]), .int .u8 (Int.ofNat (s.take m)[i]), by rw [List.getElem?_map, List.getElem?_eq_getElem hi']; rfl, by rw [List.getElem?_map, List.getElem?_eq_getElem hi']; rfl, rfl⟩
    · have hd : ((strOf s).extract 0 m).data = ((s.take m).map UInt8.ofNat).toArray := by
        rw [strOf_cut]; simp [strOf]
      simp only [Builtin.firstCells, hd, Sem.run_pure]
      congr 1
      apply Array.ext'
      simp only [Array.toList_map, List.map_map]
      apply List.map_congr_left
      intro c hc
      have : c < 256 := by simpa using List.all_eq_true.1 hl c (List.mem_of_mem_take hc)
      simp [UInt8.toNat_ofNat', Nat.mod_eq_of_lt this]
  · cases h
def lenL : AV → Option Nat
  | .slc _ _ n _ _ => some n
  | .slz .. => some 0
  | .nils => some 0
  | .str l => some l.length
  | _ => none
theorem run_lenL {ρ : Ren} {x : AV} {u : Value} {n : Nat} (h : lenL x = some n) (hx : conc ρ x = some u) (w : World) : (Builtin.lenOf u).run P w = .ok n w := by
  unfold lenL at h
  split at h
  · injection h with h; subst h; obtain ⟨_, _, _, _, rfl⟩ := conc_slc hx; simp [Builtin.lenOf]
  · injection h with h; subst h; obtain ⟨_, _, rfl⟩ := conc_slz' hx; simp [Builtin.lenOf]
  · injection h with h; subst h; cases hx; simp [Builtin.lenOf]
  · injection h with h; subst h; obtain ⟨_, rfl⟩ := conc_str hx; simp [Builtin.lenOf, strOf_size]
  · cases h
def headA : AV → Option AV
  | .slc b o _ _ _ => some (.ptr b o)
  | _ => none
noncomputable def copyK {R : Type} (P : Program) (t : TypeId) (d s : AV) (H : PT AO) (k : AV → PT AO → Option R) : Option R :=
  match P.underlying t with
  | some (.slice e) => (match sizeT P e, lenL d, lenL s with
    | some z, some nd, some ns => forceN (Nat.min ns nd) fun n => (if n = 0 then (match d with | .str _ => none | _ => k (.int .i64 0) H) else
        (match firstA z n s (hp H), headA d with | some l, some x => putK x l H fun H => k (.int .i64 n) H | _, _ => none))
    | _, _, _ => none)
  | _ => none
theorem lenL_slice {ρ : Ren} {x : AV} {u : Value} {n : Nat} (h : lenL x = some n) (hs : ∀ l, x ≠ .str l) (hx : conc ρ x = some u) : ∃ a c, u = .slice a n c := by
  unfold lenL at h
  split at h
  · injection h with h; subst h; obtain ⟨_, _, _, _, rfl⟩ := conc_slc hx; exact ⟨_, _, rfl⟩
  · injection h with h; subst h; obtain ⟨_, _, rfl⟩ := conc_slz' hx; exact ⟨_, _, rfl⟩
  · injection h with h; subst h; cases hx; exact ⟨_, _, rfl⟩
  · exact (hs _ rfl).elim
  · cases h
theorem firstA_zero {z : Nat} {x : AV} {g : Hp} {n : Nat} (h : lenL x = some n) : ∀ {ρ : Ren} {u : Value} (w : World), conc ρ x = some u → (Builtin.firstCells z 0 u).run P w = .ok #[] w := by
  intro ρ u w hx
  unfold lenL at h
  split at h
  · obtain ⟨_, _, _, _, rfl⟩ := conc_slc hx; simp [Builtin.firstCells, loadCells, loadCellsFrom]
  · obtain ⟨_, _, rfl⟩ := conc_slz' hx; simp [Builtin.firstCells, loadCells, loadCellsFrom]
  · cases hx; simp [Builtin.firstCells]
  · obtain ⟨_, rfl⟩ := conc_str hx
    simp [Builtin.firstCells]
  · cases h
theorem copyK_some {R : Type} {t t2 ty : TypeId} {d s : AV} {H : PT AO} {k : AV → PT AO → Option R} {r : R} (h : copyK P t d s H k = some r) :
    ∃ v H', k v H' = some r ∧ Keep d H H' ∧ ∀ {ρ : Ren} {n : Pos} {w : World} {ud us : Value}, Good ρ n (hp H) w → conc ρ d = some ud → conc ρ s = some us →
      ∃ u w', conc ρ v = some u ∧ (Builtin.copy_ #[t, t2] ty #[ud, us]).run P w = .ok u w' ∧ Good ρ n (hp H') w' ∧ Fr ρ n (hp H) w ρ n (hp H') w' := by
  unfold copyK at h
  split at h
  · rename_i e hu
    split at h
    · rename_i z nd ns hz hnd hns
      rw [forceN_eq] at h
      split at h
      · rename_i h0
        split at h
        · cases h
        · rename_i hnot
          refine ⟨_, _, h, .refl _ _, fun {ρ n w ud us} hg hd hs => ?_⟩
          obtain ⟨a, c, rfl⟩ := lenL_slice hnd (fun l e => hnot l e) hd
          refine ⟨_, w, rfl, ?_, hg, Fr.refl _ _ _ _ hg.ids⟩
          have h1 := run_lenL (P := P) hns hs w
          have h2 := firstA_zero (P := P) (z := z) (g := hp H) hns w hs
          simp only [Builtin.copy_]
          cases a <;> simp [run_underlying hu, h1, h0, run_sizeOf hz, h2, storeCells, goInt]
      · rename_i h0
        split at h
        · rename_i l x hl hx
          obtain ⟨H', h1, hkp, h2⟩ := putK_some (P := P) h
          have hsl : ∃ b o ln c ex, d = .slc b o ln c ex ∧ x = .ptr b o := by
            unfold headA at hx
            split at hx
            · injection hx with hx; exact ⟨_, _, _, _, _, rfl, hx.symm⟩
            · cases hx
          obtain ⟨b, o, ln, c, ex, rfl, rfl⟩ := hsl
          refine ⟨_, _, h1, hkp, fun {ρ n w ud us} hg hd hs => ?_⟩
          obtain ⟨vs, h3, h4⟩ := run_firstA (P := P) hg hl hs
          obtain ⟨kk, dd, xx, hb, rfl⟩ := conc_slc hd
          obtain ⟨a, w', e0, e1, e2, e3⟩ := h2 hg h3 (ptr_conc hb)
          injection e0 with e0; injection e0 with e0
          subst e0
          injection hnd with hnd
          subst hnd
          have h5 := run_lenL (P := P) hns hs w
          refine ⟨_, w', rfl, ?_, e2, e3⟩
          simp [Builtin.copy_, run_underlying hu, h5, run_sizeOf hz, h4, e1, goInt]
        · cases h
    · cases h
  · cases h
end
end Go.Proofs.YthggliknnmhbdaaGreat.Abs
end
/- Maps that are written; ranging over them; bytes and strings. No conditions. -/
section
set_option linter.unusedVariables false
namespace Go.Proofs.YthggliknnmhbdaaGreat.Abs
open Go Go.RowKit
mutual
/-- the same value, for sure -/
def eqVal : AV → AV → Bool
  | .int j a, .int k b => j == k && a == b
  | .bool a, .bool b => a == b
  | .str a, .str b => eqL a b
  | .nilp, .nilp => true
  | .nils, .nils => true
  | .nilm, .nilm => true
  | .nilf, .nilf => true
  | .nili, .nili => true
  | .ptr b o, .ptr c p => decide (b = c) && o == p
  | .slc b o l c e, .slc b' o' l' c' e' => decide (b = b') && o == o' && l == l' && c == c' && e == e'
  | .slz b o p, .slz b' o' p' => decide (b = b') && o == o' && p == p'
  | .map b, .map c => decide (b = c)
  | .fn f l m, .fn f' l' m' => f == f' && eqVals l l' && eqVals m m'
  | .agg l, .agg m => eqVals l m
  | .tup l, .tup m => eqVals l m
  | .sym a, .sym b => Nat.beq a b
  | _, _ => false
def eqVals : List AV → List AV → Bool
  | [], [] => true
  | x :: l, y :: m => eqVal x y && eqVals l m
  | _, _ => false
end
mutual
theorem eqVal_eq : ∀ (x y : AV), eqVal x y = true → x = y
  | .agg l, y, h => by
    cases y with
    | agg m => simp only [eqVal] at h; rw [eqVals_eq l m h]
    | _ => simp [eqVal] at h
  | .tup l, y, h => by
    cases y with
    | tup m => simp only [eqVal] at h; rw [eqVals_eq l m h]
    | _ => simp [eqVal] at h
  | .fn f l m, y, h => by
    cases y with
    | fn f' l' m' =>
      simp only [eqVal, Bool.and_eq_true, beq_iff_eq] at h
      rw [h.1.1, eqVals_eq l l' h.1.2, eqVals_eq m m' h.2]
    | _ => simp [eqVal] at h
  | .int .., y, h => by cases y <;> simp_all [eqVal]
  | .bool _, y, h => by cases y <;> simp_all [eqVal]
  | .str _, y, h => by cases y <;> simp_all [eqVal, eqL_eq]
  | .nilp, y, h => by cases y <;> simp_all [eqVal]
  | .nils, y, h => by cases y <;> simp_all [eqVal]
  | .nilm, y, h => by cases y <;> simp_all [eqVal]
  | .nilf, y, h => by cases y <;> simp_all [eqVal]
  | .nili, y, h => by cases y <;> simp_all [eqVal]
  | .ptr .., y, h => by cases y <;> simp_all [eqVal]
  | .slc .., y, h => by cases y <;> simp_all [eqVal]
  | .slz .., y, h => by cases y <;> simp_all [eqVal]
  | .map .., y, h => by cases y <;> simp_all [eqVal]
  | .ifc .., y, h => by cases y <;> simp [eqVal] at h
  | .sym .., y, h => by cases y <;> simp_all [eqVal]
theorem eqVals_eq : ∀ (l m : List AV), eqVals l m = true → l = m
  | [], [], _ => rfl
  | [], _ :: _, h => by simp [eqVals] at h
  | _ :: _, [], h => by simp [eqVals] at h
  | x :: l, y :: m, h => by
    simp only [eqVals, Bool.and_eq_true] at h
    rw [eqVal_eq x y h.1, eqVals_eq l m h.2]
end
abbrev Ent := AV × AV × Nat
def setE (v : AV) : Nat → List Ent → List Ent
  | _, [] => []
  | 0, (k, _, b) :: l => (k, v, b) :: l
  | i + 1, e :: l => e :: setE v i l
def delE : Nat → List Ent → List Ent
  | _, [] => []
  | 0, _ :: l => l
  | i + 1, e :: l => e :: delE i l
section
variable {P : Program} {ρ : Ren}
theorem EntC.get : ∀ {l : List Ent} {m : List MapEntry} {i : Nat} {k v : AV} {b : Nat}, EntC ρ l m → l[i]? = some (k, v, b) → ∃ e, m[i]? = some e ∧ conc ρ k = some e.key ∧ conc ρ v = some e.val ∧ e.born = b
  | [], m, i, k, v, b, _, h => by simp at h
  | _ :: _, [], _, _, _, _, h, _ => h.elim
  | (k, v, b) :: l, e :: m, 0, k', v', b', ⟨h1, h2, h3, h4⟩, h => by
    simp at h
    obtain ⟨rfl, rfl, rfl⟩ := h
    exact ⟨e, rfl, h1, h2, h3⟩
  | (k, v, b) :: l, e :: m, i + 1, k', v', b', ⟨h1, h2, h3, h4⟩, h => by
    obtain ⟨e', g1, g2⟩ := EntC.get h4 (by simpa using h)
    exact ⟨e', by simpa using g1, g2⟩
theorem EntC.set {u : Value} {v : AV} (hv : conc ρ v = some u) : ∀ {l : List Ent} {m : List MapEntry} (i : Nat) (f : MapEntry → MapEntry), EntC ρ l m → (∀ e, m[i]? = some e → (f e).key = e.key ∧ (f e).val = u ∧ (f e).born = e.born) → EntC ρ (setE v i l) (m.modify i f)
  | [], [], i, f, _, _ => by cases i <;> simp [setE, EntC]
  | [], _ :: _, _, _, h, _ => h.elim
  | _ :: _, [], _, _, h, _ => h.elim
  | (k, w, b) :: l, e :: m, 0, f, ⟨h1, h2, h3, h4⟩, hf => by
    obtain ⟨f1, f2, f3⟩ := hf e (by simp)
    simp only [setE, List.modify_zero_cons]
    exact ⟨by rw [f1]; exact h1, by rw [f2]; exact hv, by rw [f3]; exact h3, h4⟩
  | (k, w, b) :: l, e :: m, i + 1, f, ⟨h1, h2, h3, h4⟩, hf => by
    simp only [setE, List.modify_succ_cons]
    exact ⟨h1, h2, h3, EntC.set hv i f h4 (fun e' he => hf e' (by simpa using he))⟩
theorem EntC.same : ∀ {l : List Ent} {m : List MapEntry} (i : Nat) (f : MapEntry → MapEntry), EntC ρ l m → (∀ e, m[i]? = some e → f e = e) → EntC ρ l (m.modify i f)
  | [], [], i, f, _, _ => by cases i <;> simp [EntC]
  | [], _ :: _, _, _, h, _ => h.elim
  | _ :: _, [], _, _, h, _ => h.elim
  | (k, w, b) :: l, e :: m, 0, f, h, hf => by
    simp only [List.modify_zero_cons, hf e (by simp)]
    exact h
  | (k, w, b) :: l, e :: m, i + 1, f, ⟨h1, h2, h3, h4⟩, hf => by
    simp only [List.modify_succ_cons]
    exact ⟨h1, h2, h3, EntC.same i f h4 (fun e' he => hf e' (by simpa using he))⟩
theorem EntC.push {k v : AV} {e : MapEntry} (hk : conc ρ k = some e.key) (hv : conc ρ v = some e.val) : ∀ {l : List Ent} {m : List MapEntry}, EntC ρ l m → EntC ρ (l ++ [(k, v, e.born)]) (m ++ [e])
  | [], [], _ => ⟨hk, hv, rfl, trivial⟩
  | [], _ :: _, h => h.elim
  | _ :: _, [], h => h.elim
  | (k', w, b) :: l, e' :: m, ⟨h1, h2, h3, h4⟩ => ⟨h1, h2, h3, EntC.push hk hv h4⟩
theorem EntC.del : ∀ {l : List Ent} {m : List MapEntry} (i : Nat), EntC ρ l m → EntC ρ (delE i l) (m.eraseIdx i)
  | [], [], i, _ => by cases i <;> simp [delE, EntC]
  | [], _ :: _, _, h => h.elim
  | _ :: _, [], _, h => h.elim
  | (k, w, b) :: l, e :: m, 0, ⟨h1, h2, h3, h4⟩ => by simpa [delE] using h4
  | (k, w, b) :: l, e :: m, i + 1, ⟨h1, h2, h3, h4⟩ => by
    simp only [delE, List.eraseIdx_cons_succ]
    exact ⟨h1, h2, h3, EntC.del i h4⟩
theorem EntC.len : ∀ {l : List Ent} {m : List MapEntry}, EntC ρ l m → m.length = l.length
  | [], [], _ => rfl
  | [], _ :: _, h => h.elim
  | _ :: _, [], h => h.elim
  | _ :: l, _ :: m, ⟨_, _, _, h⟩ => by simp [EntC.len h]
theorem run_setMap {w : World} {k : Nat} {es : Array MapEntry} {c : Nat} (o : Obj) (h : w.heap[k]? = some (.map es c)) : (setObj k o).run P w = .ok () { w with heap := w.heap.setIfInBounds k o } := by
  simp [setObj, Sem.run, h]
theorem Good.turnMap {n : Pos} {g : Hp} {w : World} (hg : Good ρ n g w) {b : Pos} {es es2 : List Ent} {c c2 k d x : Nat} {m2 : Array MapEntry} {m : Nat} (hb : g b = some (.map es c)) (hk : ρ.at_ b = some (k, d, x)) (hlt : k < w.heap.size)
    (he : EntC ρ es2 m2.toList) :
    Good ρ n (g.set b (.map es2 c2)) { w with heap := w.heap.setIfInBounds k (.map m2 c2), drawn := m } ∧ Fr ρ n g w ρ n (g.set b (.map es2 c2)) { w with heap := w.heap.setIfInBounds k (.map m2 c2), drawn := m } := by
  refine hg.turn hb hk (o := .map m2 c2) (by simp [hlt]) (fun q hq => ?_) (by simp) rfl rfl rfl ⟨rfl, he⟩
  show (w.heap.setIfInBounds k _)[q]? = _
  rw [Array.getElem?_setIfInBounds_ne (fun e => hq e.symm)]
/-- a map and its entries, for writing -/
noncomputable def mapAt (H : PT AO) : AV → Option (Pos × List Ent × Nat)
  | .map b => (match PT.get b H with | some (.map es c) => some (b, es, c) | _ => none)
  | _ => none
theorem mapAt_spec {n : Pos} {w : World} {H : PT AO} {m : AV} {b : Pos} {es : List Ent} {c : Nat} {u : Value} (hg : Good ρ n (hp H) w) (h : mapAt H m = some (b, es, c)) (hm : conc ρ m = some u) :
    hp H b = some (.map es c) ∧ ∃ k d x es', ρ.at_ b = some (k, d, x) ∧ u = .map (some k) ∧ w.heap[k]? = some (.map es' c) ∧ k < w.heap.size ∧ EntC ρ es es'.toList := by
  unfold mapAt at h
  split at h
  · rename_i b'
    split at h
    · rename_i es1 c1 hb
      injection h with h; injection h with h1 h2; injection h2 with h2 h3
      subst h1; subst h2; subst h3
      obtain ⟨k, d, x, es', g1, g2, g3⟩ := hg.ents (b := b') hb
      obtain ⟨k', d', x', g1', rfl⟩ := conc_map hm
      rw [g1] at g1'; injection g1' with g1'; injection g1' with t1 t2
      subst t1
      exact ⟨hb, k, d, x, es', g1, rfl, g2, (Array.getElem?_eq_some_iff.1 g2).1, g3⟩
    · cases h
  · cases h
theorem mapAt_id {H : PT AO} {m : AV} {b : Pos} {es : List Ent} {c : Nat} (h : mapAt H m = some (b, es, c)) : idOf m = some b := by
  unfold mapAt at h
  split at h
  · split at h
    · injection h with h; injection h with h1 _; rw [← h1]; rfl
    · cases h
  · cases h
noncomputable def updK {R : Type} (P : Program) (t : TypeId) (m k v : AV) (H : PT AO) (kont : PT AO → Option R) : Option R :=
  match P.underlying t, mapAt H m with
  | some (.map kt _), some (b, es, c) => if keyOk P 20 kt k then (match findA P kt k es 0 with
      | some (some (i, _)) => (match es[i]? with | some (ek, _, _) => if eqVal ek k then PT.setK (.map (setE v i es) c) b H kont else none | none => none)
      | some none => PT.setK (.map (es ++ [(k, v, c)]) (c + 1)) b H kont
      | none => none) else none
  | _, _ => none
theorem run_keyStays (old : Value) (w : World) : ∃ m, (Instr.keyThatStays old old).run P w = .ok old { w with drawn := m } := by
  unfold Instr.keyThatStays
  split
  · exact ⟨w.drawn, rfl⟩
  · refine ⟨w.drawn + 1, ?_⟩
    simp [choose, Sem.run, Question.forced]
theorem updK_some {R : Type} {t : TypeId} {m k v : AV} {H : PT AO} {kont : PT AO → Option R} {r : R} (h : updK P t m k v H kont = some r) :
    ∃ H', kont H' = some r ∧ Keep m H H' ∧ ∀ {ρ : Ren} {n : Pos} {w : World} {um uk uv : Value}, Good ρ n (hp H) w → conc ρ m = some um → conc ρ k = some uk → conc ρ v = some uv →
      ∃ w', (Instr.mapUpdate t um uk uv).run P w = .ok () w' ∧ Good ρ n (hp H') w' ∧ Fr ρ n (hp H) w ρ n (hp H') w' := by
  unfold updK at h
  split at h
  · rename_i kt et b es c hu hma
    split at h
    · rename_i hko
      have hd := keyOk_under hko
      split at h
      · rename_i i v0 hf
        split at h
        · rename_i ek ev bb hei
          split at h
          · rename_i hek
            rw [PT.setK_eq] at h
            refine ⟨_, h, keep_set (mapAt_id hma), fun {ρ n w um uk uv} hg hm hk hv => ?_⟩
            obtain ⟨hb, kk, d, x, es', h1, rfl, h2, hlt, h3⟩ := mapAt_spec hg hma hm
            have hck := fun w => run_keyOk (P := P) false 20 hko hk 10000 (by omega) w
            obtain ⟨r', f1, f2⟩ := run_findA hk h3 hf hd
            have := eqVal_eq _ _ hek
            subst this
            obtain ⟨e, g1, g2, g3, g4⟩ := h3.get hei
            rw [hk] at g2
            injection g2 with g2
            cases r' with
            | none => exact f1.elim
            | some p =>
              obtain ⟨j, y⟩ := p
              obtain ⟨rfl, f4⟩ := f1
              have g1' : es'[j]? = some e := by simpa using g1
              obtain ⟨m0, hks⟩ := run_keyStays (P := P) uk w
              rw [hp_set]
              obtain ⟨q1, q2⟩ := hg.turnMap (m := m0) (es2 := setE v j es) (c2 := c) (m2 := es'.modify j fun e => { e with key := uk, val := uv }) hb h1 hlt (by
                rw [Array.toList_modify]
                exact h3.set hv j _ (fun e' he' => by rw [g1] at he'; injection he' with he'; subst he'; exact ⟨g2, rfl, rfl⟩))
              refine ⟨_, ?_, q1, q2⟩
              have hkey : ((es'[j]?).map (·.key)).getD uk = uk := by rw [g1']; simp [g2]
              simp only [Instr.mapUpdate, Sem.run_bind, run_underlying hu, Result.andThen_ok, run_getMap h2, hck, f2]
              simp only [hkey, hks, Result.andThen_ok]
              rw [run_setMap (w := { w with drawn := m0 }) _ h2]
          · cases h
        · cases h
      · rename_i hf
        rw [PT.setK_eq] at h
        refine ⟨_, h, keep_set (mapAt_id hma), fun {ρ n w um uk uv} hg hm hk hv => ?_⟩
        obtain ⟨hb, kk, d, x, es', h1, rfl, h2, hlt, h3⟩ := mapAt_spec hg hma hm
        have hck := fun w => run_keyOk (P := P) false 20 hko hk 10000 (by omega) w
        obtain ⟨r', f1, f2⟩ := run_findA hk h3 hf hd
        cases r' with
        | some p => exact f1.elim
        | none =>
          rw [hp_set]
          obtain ⟨q1, q2⟩ := hg.turnMap (m := w.drawn) (es2 := es ++ [(k, v, c)]) (c2 := c + 1) (m2 := es'.push { key := uk, val := uv, born := c }) hb h1 hlt (by
            rw [Array.toList_push]
            exact h3.push (e := { key := uk, val := uv, born := c }) hk hv)
          refine ⟨_, ?_, q1, q2⟩
          simp only [Instr.mapUpdate, Sem.run_bind, run_underlying hu, Result.andThen_ok, run_getMap h2, hck, f2]
          rw [run_setMap _ h2]
      · cases h
    · cases h
  · cases h
end
end Go.Proofs.YthggliknnmhbdaaGreat.Abs
end
