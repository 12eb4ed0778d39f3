/- The interpreter: each operation, in sequence. No conditions. -/
import Derived.Test.YtlpnhikoipkjbaaAbsN
import Derived.CallsIn
import Derived.OrdersIn
import Derived.LoopNIn
import Derived.RangeFuncSeq
set_option linter.unusedVariables false
namespace Go.Proofs.Ytlpnhikoipkjbaa.Abs
open Go Go.RowKit
abbrev Out := AV × Pos × PT AO
abbrev Res := Option (List Out)
section force
variable {R : Type}
noncomputable def forceI (n : Int) (k : Int → R) : R := Int.rec (motive := fun _ => R) (fun m => forceN m fun m => k (.ofNat m)) (fun m => forceN m fun m => k (.negSucc m)) n
noncomputable def forceB (b : Bool) (k : Bool → R) : R := Bool.rec (motive := fun _ => R) (k false) (k true) b
noncomputable def forceL {α : Type} (l : List α) : (List α → R) → R := List.rec (motive := fun _ => (List α → R) → R) (fun k => k []) (fun x _ ih k => ih fun l => k (x :: l)) l
noncomputable def forceNL (l : List Nat) : (List Nat → R) → R := List.rec (motive := fun _ => (List Nat → R) → R) (fun k => k []) (fun x _ ih k => forceN x fun x => ih fun l => k (x :: l)) l
theorem forceI_eq (n : Int) (k : Int → R) : forceI n k = k n := by
  cases n with
  | ofNat m => exact forceN_eq m (fun m => k (.ofNat m))
  | negSucc m => exact forceN_eq m (fun m => k (.negSucc m))
theorem forceB_eq (b : Bool) (k : Bool → R) : forceB b k = k b := by cases b <;> rfl
theorem forceL_eq {α : Type} : ∀ (l : List α) (k : List α → R), forceL l k = k l
  | [], k => rfl
  | x :: l, k => forceL_eq l fun l => k (x :: l)
theorem forceNL_eq : ∀ (l : List Nat) (k : List Nat → R), forceNL l k = k l
  | [], k => rfl
  | x :: l, k => (forceN_eq x (fun x => forceNL l fun l => k (x :: l))).trans (forceNL_eq l fun l => k (x :: l))
noncomputable def forceV (v : AV) (k : AV → R) : R :=
  match v with
  | .int kd n => forceI n fun n => k (.int kd n)
  | .bool b => forceB b fun b => k (.bool b)
  | .str l => forceNL l fun l => k (.str l)
  | .ptr b o => forceN o fun o => k (.ptr b o)
  | .slc b o len cap ex => forceN o fun o => forceN len fun len => forceN cap fun cap => k (.slc b o len cap ex)
  | .slz b o p => forceN o fun o => forceN p fun p => k (.slz b o p)
  | .agg l => forceL l fun l => k (.agg l)
  | .tup l => forceL l fun l => k (.tup l)
  | v => k v
theorem forceV_eq (v : AV) (k : AV → R) : forceV v k = k v := by
  cases v <;> simp only [forceV, forceI_eq, forceB_eq, forceNL_eq, forceN_eq, forceL_eq]
end force
def okLim (lim : Pos) (x : AV) : Bool := match idOf x with | some b => Nat.ble lim.nat b.nat | none => true
theorem okLim_keep {lim : Pos} {x : AV} {H H' : PT AO} (h : okLim lim x = true) (hk : Keep x H H') : ∀ q, q.nat < lim.nat → PT.get q H' = PT.get q H := by
  intro q hq
  refine hk q fun e => ?_
  unfold okLim at h
  rw [e] at h
  have := Nat.le_of_ble_eq_true h
  omega
theorem okLim_keepN {lim n : Pos} {x : AV} {H H' : PT AO} (h : okLim lim x = true) (hn : lim.nat ≤ n.nat) (hk : KeepN x n H H') : ∀ q, q.nat < lim.nat → PT.get q H' = PT.get q H := by
  intro q hq
  refine hk q (fun e => ?_) (by omega)
  unfold okLim at h
  rw [e] at h
  have := Nat.le_of_ble_eq_true h
  omega
def both (x y : Res) : Res := match x, y with | some l, some m => some (l ++ m) | _, _ => none
/-- each way on through a map -/
noncomputable def waysK (b : Pos) (m : Option Pos) (since : Nat) (seen : List Nat) (c : Nat) (n : Pos) (H : PT AO) (k : AV → Pos → PT AO → Res) : List Ent → Res
  | [] => some []
  | (key, v, born) :: l => both (forceL (seen ++ [born]) fun seen => PT.setK (.mit m since seen c) b H fun H => k (.tup [.bool true, key, v]) n H) (waysK b m since seen c n H k l)
def allNew (last : Nat) (es : List Ent) : Bool := es.all fun e => Nat.ble last e.2.2
noncomputable def nextK (lim : Pos) (x : AV) (n : Pos) (H : PT AO) (k : AV → Pos → PT AO → Res) : Res :=
  match x with
  | .ptr b 0 => if Nat.ble lim.nat b.nat then (match PT.get b H with
    | some (.mit none _ _ _) => k (.tup [.bool false]) n H
    | some (.mit (some mb) since seen st) => (match PT.get mb H with
      | some (.map es c) => if (!seen.isEmpty && !es.isEmpty && allNew st es) then none else
          (match leftE seen es with
          | [] => k (.tup [.bool false]) n H
          | l => if l.all (fun e => Nat.blt e.2.2 since) then waysK b (some mb) since seen c n H k l else none)
      | _ => none)
    | _ => none) else none
  | _ => none
/-- the bytes at a pointer as a string: the row has no name any more -/
noncomputable def ustrK (P : Program) (lim : Pos) (pt : TypeId) (x : AV) (m : Int) (n : Pos) (H : PT AO) (k : AV → Pos → PT AO → Res) : Res :=
  match m with
  | .ofNat 0 => (match x with | .nilp => k (.str []) n H | .ptr _ _ => k (.str []) n H | _ => none)
  | .ofNat (z + 1) => (match x with
    | .ptr b 0 => (match P.underlying pt, PT.get b H with
      | some (.pointer e), some (.row cs rn df _ (some e')) => if Nat.beq e e' && Nat.beq (P.cellsOf e) 1 && Nat.ble (z + 1) rn && Nat.blt (z + 1) 2147483648 && Nat.ble lim.nat b.nat then
          (match rdCells cs df (z + 1) 0 with
          | some l => (match byteL l with
            | some r => forceNL r fun r => PT.delK b H fun H => k (.str r) n H
            | none => none)
          | none => none) else none
      | _, _ => none)
    | _ => none)
  | _ => none
noncomputable def builtK (P : Program) (lim : Pos) (b : Builtin) (ts : Array TypeId) (xs : List AV) (n : Pos) (H : PT AO) (k : AV → Pos → PT AO → Res) : Res :=
  match b, ts.toList, xs with
  | .append, [t, u], [s, x] => if okLim lim s then appendK P t u s x n H k else none
  | .copy, [t, _], [d, s] => if okLim lim d then copyK P t d s H fun v H => k v n H else none
  | .delete, [t, _], [m, x] => if okLim lim m then delK P t m x H fun H => k (.tup []) n H else none
  | .unsafeString, [pt, _], [x, .int .i64 m] => ustrK P lim pt x m n H k
  | .len, [t], [.map m] => (match P.underlying t, PT.get m H with | some (.map _ _), some (.map es _) => forceN es.length fun q => k (.int .i64 q) n H | _, _ => none)
  | b, _, xs => (match pureCall P b ts xs with | some v => forceV v fun v => k v n H | none => none)
/-- what is called: a function, or a range's yield -/
inductive Tgt where
  | fn (f : FuncId) | yld (b : Pos)
/-- a function of the platform that hands its argument back -/
def noEsc (fn : Func) : Bool := fn.name == "internal/abi.NoEscape" && fn.origin == ""
abbrev CallT := Tgt → List AV → Pos → PT AO → (AV → Pos → PT AO → Res) → Res
noncomputable def callE (P : Program) (call : CallT) (f : FuncId) (xs : List AV) (n : Pos) (H : PT AO) (k : AV → Pos → PT AO → Res) : Res :=
  match P.funcs[f]? with
  | some fn => (match fn.body with
    | some _ => call (.fn f) xs n H k
    | none => if noEsc fn then (match xs with | [v] => k v n H | _ => none) else none)
  | none => none
noncomputable def opK (P : Program) (call : CallT) (lim : Pos) (a : PT AV) (op : Op) (n : Pos) (H : PT AO) (k : AV → Pos → PT AO → Res) : Res :=
  match op with
  | .move x => (match ev a x with | some v => k v n H | none => none)
  | .assign x => (match ev a x with | some v => k v n H | none => none)
  | .load t x => (match ev a x with | some x => (match loadA P t x (hp H) with | some v => k v n H | none => none) | none => none)
  | .store t x v => (match ev a x, ev a v with | some x, some v => if okLim lim x then storeK P t x v H fun H => k (.tup []) n H else none | _, _ => none)
  | .lookup t m x ok => (match ev a m, ev a x with | some m, some x => (match lookupA P t m x ok (hp H) with | some v => k v n H | none => none) | _, _ => none)
  | .mapUpdate t m x v => (match ev a m, ev a x, ev a v with | some m, some x, some v => if okLim lim m then updK P t m x v H fun H => k (.tup []) n H else none | _, _, _ => none)
  | .mapEntry t m x => (match ev a m, ev a x with | some m, some x => if okLim lim m then entryK P t m x H fun v H => k v n H else none | _, _ => none)
  | .entryStore _ m s v => (match ev a m, ev a s, ev a v with | some m, some s, some v => if okLim lim m then stampK m s v H fun H => k (.tup []) n H else none | _, _, _ => none)
  | .range t x => (match ev a x with | some x => rangeK P t x n H fun v H => k v n.succ H | none => none)
  | .next x s => if s then none else (match ev a x with | some x => nextK lim x n H k | none => none)
  | .entry x => (match ev a x with | some x => (match curA x (hp H) with | some v => k v n H | none => none) | none => none)
  | .convert s d x => (match ev a x with
    | some v => (match convA P s d v with
      | some v => forceV v fun v => k v n H
      | none => (match bytesA P s d v (hp H) with
        | some v => forceV v fun v => k v n H
        | none => allocK P a (.convert s d x) n fun ao v => PT.setK ao n H fun H => k v n.succ H))
    | none => none)
  | .alloc t => allocK P a (.alloc t) n fun ao v => PT.setK ao n H fun H => k v n.succ H
  | .box t x => allocK P a (.box t x) n fun ao v => PT.setK ao n H fun H => k v n.succ H
  | .buildSlice t l ps => allocK P a (.buildSlice t l ps) n fun ao v => PT.setK ao n H fun H => k v n.succ H
  | .makeMap t r => allocK P a (.makeMap t r) n fun ao v => PT.setK ao n H fun H => k v n.succ H
  | .makeSlice t l c => allocK P a (.makeSlice t l c) n fun ao v => PT.setK ao n H fun H => k v n.succ H
  | .call c => (match c.callee with
    | .value f => (match ev a f, evAll a c.args.toList with | some (.fn f first cap), some args => callE P call f (first ++ args ++ cap) n H k | some (.yld b), some args => call (.yld b) args n H k | _, _ => none)
    | .builtin b => (match evAll a c.args.toList with | some xs => builtK P lim b c.argTypes xs n H k | none => none)
    | .invoke _ _ => none)
  | op => (match pureOp P a op with | some v => forceV v fun v => k v n H | none => none)
/-- a block turns, and has no name any more -/
theorem Good.gone {ρ : Ren} {n : Pos} {g : Hp} {w w' : World} (h : Good ρ n g w) {b : Pos} {ao : AO} {k d x : Nat} (hb : g b = some ao) (hk : ρ.at_ b = some (k, d, x))
    (hrest : ∀ q, q ≠ k → w'.heap[q]? = w.heap[q]?) (hsz : w'.heap.size = w.heap.size) (hos : w'.os = w.os) (htp : w'.tape = w.tape) (hout : w'.output = w.output) : Good ρ n (g.del b) w' ∧ Fr ρ n g w ρ n (g.del b) w' := by
  have key : ∀ q a, (g.del b) q = some a → g q = some a ∧ q ≠ b := by
    intro q a e
    simp only [Hp.del] at e
    split at e
    · cases e
    · rename_i hq; exact ⟨e, hq⟩
  refine ⟨⟨fun q a e => ?_, fun q q' a a' k1 d1 y1 d2 y2 e1 e2 e3 e4 => ?_, h.fresh⟩, ⟨.refl _, Nat.le_refl _, fun _ _ => rfl, hos, htp, hout, by omega, fun q hq hn => hrest q (fun e => ?_), fun q a k1 d1 y1 e1 e2 => ?_, fun q a e => .inl ⟨a, (key q a e).1⟩⟩⟩
  · obtain ⟨f1, f2⟩ := key q a e
    obtain ⟨k1, d1, y1, ob, h1, h2, h3⟩ := h.rep q a f1
    exact ⟨k1, d1, y1, ob, h1, (hrest k1 (fun e' => f2 (by subst e'; exact h.inj q b a ao k1 d1 y1 d x f1 hb h1 hk))).trans h2, h3⟩
  · exact h.inj q q' a a' k1 d1 y1 d2 y2 (key q a e1).1 (key q' a' e2).1 e3 e4
  · subst e; exact hn b ao d x hb hk
  · exact .inr ⟨q, a, d1, y1, (key q a e1).1, e2⟩
/-- from one moment to a later one -/
structure Now (lim : Pos) (ρ : Ren) (n : Pos) (H : PT AO) (w : World) (ρ' : Ren) (n' : Pos) (H' : PT AO) (w' : World) : Prop where
  good : Good ρ' n' (hp H') w'
  fr : Fr ρ n (hp H) w ρ' n' (hp H') w'
  keep : ∀ q, q.nat < lim.nat → PT.get q H' = PT.get q H
theorem Now.refl {lim : Pos} {ρ : Ren} {n : Pos} {H : PT AO} {w : World} (h : Good ρ n (hp H) w) : Now lim ρ n H w ρ n H w := ⟨h, Fr.refl _ _ _ _ h.ids, fun _ _ => rfl⟩
theorem Now.trans {lim : Pos} {ρ ρ1 ρ2 : Ren} {n n1 n2 : Pos} {H H1 H2 : PT AO} {w w1 w2 : World} (h : Now lim ρ n H w ρ1 n1 H1 w1) (k : Now lim ρ1 n1 H1 w1 ρ2 n2 H2 w2) : Now lim ρ n H w ρ2 n2 H2 w2 :=
  ⟨k.good, h.fr.trans k.fr, fun q hq => (k.keep q hq).trans (h.keep q hq)⟩
/-- what comes of a step -/
def Goes (lim : Pos) (k : AV → Pos → PT AO → Res) (L : List Out) (ρ : Ren) (n : Pos) (H : PT AO) (w : World) (u : Value) (w' : World) : Prop :=
  ∃ v n' H' L' ρ', k v n' H' = some L' ∧ (∀ x ∈ L', x ∈ L) ∧ conc ρ' v = some u ∧ Now lim ρ n H w ρ' n' H' w'
/-- the wide fence, in a round or not -/
abbrev Fw (r : Option Nat) : Fence := { Fence.wide with round := r }
/-- what a call does -/
def CallOk (P : Program) (lim : Pos) (call : CallT) : Prop :=
  (∀ f args n H k L, call (.fn f) args n H k = some L → lim.nat ≤ n.nat → (∃ fn, P.funcs[f]? = some fn ∧ (fn.name == "runtime.NumGoroutine") = false ∧ fn.body.isNone = false) ∧
    ∀ ρ w us, Good ρ n (hp H) w → concs ρ args = some us → Calls P f us.toArray w fun e w' => ∃ u, e = .returned u ∧ Goes lim k L ρ n H w u w') ∧
  (∀ b args n H k L, call (.yld b) args n H k = some L → lim.nat ≤ n.nat → ∀ r ρ w us, Good ρ n (hp H) w → concs ρ args = some us →
    ∃ kk d x, ρ.at_ b = some (kk, d, x) ∧ YieldAt (Fw r) 0 P kk us.toArray w fun e w' => ∃ u, e = .returned u ∧ Goes lim k L ρ n H w u w')
section
variable {P : Program}
theorem no_defer {o : Oper} {A : Act} {w w' : World} {x : Next} (h : (execOp A.eval o).run P w = .ok x w') (hx : ∀ d, x ≠ .defer d) : ∀ c, o.op ≠ .defer c := by
  intro c hc
  unfold execOp at h
  rw [hc] at h
  simp only [Sem.run_bind] at h
  cases hr : (resolve A.eval c o.type).run P w with
  | ok d w1 =>
    rw [hr] at h
    simp only [Result.andThen_ok] at h
    first
      | (simp only [Sem.run_pure] at h; injection h with h; exact hx d h.symm)
      | (split at h <;> simp at h <;> exact hx _ h.1.symm)
      | (simp at h; exact hx _ h.1.symm)
  | halt => rw [hr] at h; cases h
theorem callsIn_fw {r : Option Nat} {n : Nat} {f : FuncId} {us : Array Value} {w : World} {R : Ending → World → Prop} (h : Calls P f us w R) : CallsIn (Fw r) n P f us w R := (callsIn_wide.2 h : CallsIn Fence.wide n P f us w R)
theorem Oper.wp_value {r : Option Nat} {o : Oper} {A : Act} {w w' : World} {next : Act → World → Prop} {Q : Exit → Act → World → Prop} {u : Value} (h : (execOp A.eval o).run P w = .ok (.value u) w') (hn : next (A.put o.dst u) w') : o.wpIn (Fw r) 0 P A w next Q := by
  refine ⟨fun _ _ => trivial, ?_⟩
  rw [Oper.semAt_eq _ _ _ (no_defer h (fun d e => by cases e)), h]
  exact hn
theorem Oper.wp_skip {r : Option Nat} {o : Oper} {A : Act} {w w' : World} {next : Act → World → Prop} {Q : Exit → Act → World → Prop} (h : (execOp A.eval o).run P w = .ok .skip w') (hn : next (A.put o.dst undef) w') : o.wpIn (Fw r) 0 P A w next Q := by
  refine ⟨fun _ _ => trivial, ?_⟩
  rw [Oper.semAt_eq _ _ _ (no_defer h (fun d e => by cases e)), h]
  exact hn
theorem ways_mem {b : Pos} {m : Option Pos} {since : Nat} {seen : List Nat} {c : Nat} {n : Pos} {H : PT AO} {k : AV → Pos → PT AO → Res} : ∀ {l : List Ent} {L : List Out}, waysK b m since seen c n H k l = some L → ∀ e ∈ l,
    ∃ L', k (.tup [.bool true, e.1, e.2.1]) n (PT.set (.mit m since (seen ++ [e.2.2]) c) b H) = some L' ∧ ∀ x ∈ L', x ∈ L
  | [], _, _, e, he => by cases he
  | (key, v, born) :: l, L, h, e, he => by
    unfold waysK both at h
    split at h
    · rename_i l1 l2 h1 h2
      injection h with h; subst h
      rw [forceL_eq, PT.setK_eq] at h1
      rcases List.mem_cons.1 he with rfl | he
      · exact ⟨l1, h1, fun x hx => List.mem_append.2 (.inl hx)⟩
      · obtain ⟨L', h3, h4⟩ := ways_mem h2 e he
        exact ⟨L', h3, fun x hx => List.mem_append.2 (.inr (h4 x hx))⟩
    · cases h
end
end Go.Proofs.Ytlpnhikoipkjbaa.Abs
