/- Several texts in one: S. -/
import Derived.Test.YthggliknnmhbdaaGreatAbsM4
/- The interpreter again, laid out so that the kernel is quick at it; it is the same. No conditions. -/
section
set_option linter.unusedVariables false
namespace Go.Proofs.YthggliknnmhbdaaGreat.Abs
open Go Go.RowKit
abbrev KV := AV → Pos → PT AO → Res
abbrev KA := PT AV → Pos → PT AO → Res
abbrev KE := Ex → PT AV → Pos → PT AO → Res
section
variable {R : Type}
/-- an operand's value, handed on -/
noncomputable def evK (x : Operand) : PT AV → (AV → Option R) → Option R :=
  Operand.casesOn (motive := fun _ => PT AV → (AV → Option R) → Option R) x
    (fun t a k => Option.rec none k (PT.get (pk t) a))
    (fun v a k => Option.rec none k (ofV 8 v))
    (fun _ _ _ => none)
    (fun f a k => k (.fn f [] []))
theorem evK_eq (x : Operand) (a : PT AV) (k : AV → Option R) : evK x a k = (match ev a x with | some v => k v | none => none) := by
  cases x with
  | tmp t => show Option.rec none k (PT.get (pk t) a) = (match PT.get (pk t) a with | some v => k v | none => none); cases PT.get (pk t) a <;> rfl
  | const v => show Option.rec none k (ofV 8 v) = (match ofV 8 v with | some v => k v | none => none); cases ofV 8 v <;> rfl
  | global g => rfl
  | func f => rfl
noncomputable def optK (x : Option AV) (k : AV → Option R) : Option R := Option.rec none k x
noncomputable def optF (x : Option AV) (k : AV → Option R) : Option R := Option.rec none (fun v => forceV v k) x
theorem optK_eq (x : Option AV) (k : AV → Option R) : optK x k = (match x with | some v => k v | none => none) := by cases x <;> rfl
theorem optF_eq (x : Option AV) (k : AV → Option R) : optF x k = (match x with | some v => forceV v k | none => none) := by cases x <;> rfl
noncomputable def putF (dst : Option Tmp) : AV → PT AV → (PT AV → Option R) → Option R :=
  Option.rec (motive := fun _ => AV → PT AV → (PT AV → Option R) → Option R) (fun _ a k => k a) (fun d v a k => PT.updK v (pk d) a k) dst
theorem putF_eq (dst : Option Tmp) (v : AV) (a : PT AV) (k : PT AV → Option R) : putF dst v a k = putA dst v a k := by cases dst <;> rfl
end
/-! integers -/
def limK : IntKind → Nat
  | .i8 => 128 | .i16 => 32768 | .i32 => 2147483648 | .i64 => 9223372036854775808 | .u8 => 256 | .u16 => 65536 | .u32 => 4294967296 | .u64 => 18446744073709551616
noncomputable def wrapF (k : IntKind) (n : Int) : Int :=
  Int.rec (motive := fun _ => Int) (fun m => Bool.rec (motive := fun _ => Int) (k.wrap (.ofNat m)) (.ofNat m) (Nat.blt m (limK k))) (fun m => k.wrap (.negSucc m)) n
theorem wrapF_eq (k : IntKind) (n : Int) : wrapF k n = k.wrap n := by
  cases n with
  | negSucc m => rfl
  | ofNat m =>
    show Bool.rec (motive := fun _ => Int) (k.wrap (.ofNat m)) (.ofNat m) (Nat.blt m (limK k)) = k.wrap (.ofNat m)
    cases h : Nat.blt m (limK k) with
    | false => rfl
    | true =>
      rw [Nat.blt_eq] at h
      show Int.ofNat m = k.wrap (Int.ofNat m)
      cases k <;> simp only [limK] at h <;> simp only [IntKind.wrap, IntKind.bits, IntKind.signed] <;> simp <;> omega
noncomputable def addI (x y : Int) : Int := Int.rec (motive := fun _ => Int) (fun a => Int.rec (motive := fun _ => Int) (fun b => .ofNat (Nat.add a b)) (fun b => .ofNat a + .negSucc b) y) (fun a => .negSucc a + y) x
theorem addI_eq (x y : Int) : addI x y = x + y := by cases x <;> cases y <;> rfl
noncomputable def eqI (x y : Int) : Bool := Int.rec (motive := fun _ => Bool) (fun a => Int.rec (motive := fun _ => Bool) (fun b => Nat.beq a b) (fun b => false) y) (fun a => Int.rec (motive := fun _ => Bool) (fun b => false) (fun b => Nat.beq a b) y) x
theorem eqI_eq (x y : Int) : eqI x y = (x == y) := by
  cases x with
  | ofNat a => cases y with
    | ofNat b =>
      show Nat.beq a b = _
      rw [Bool.eq_iff_iff, Nat.beq_eq, beq_iff_eq]
      exact ⟨fun h => by rw [h], fun h => by injection h⟩
    | negSucc b => show false = _; symm; rw [← Bool.not_eq_true, beq_iff_eq]; intro h; cases h
  | negSucc a => cases y with
    | ofNat b => show false = _; symm; rw [← Bool.not_eq_true, beq_iff_eq]; intro h; cases h
    | negSucc b =>
      show Nat.beq a b = _
      rw [Bool.eq_iff_iff, Nat.beq_eq, beq_iff_eq]
      exact ⟨fun h => by rw [h], fun h => by injection h⟩
noncomputable def ltI (x y : Int) : Bool := Int.rec (motive := fun _ => Bool) (fun a => Int.rec (motive := fun _ => Bool) (fun b => Nat.blt a b) (fun b => false) y) (fun a => Int.rec (motive := fun _ => Bool) (fun b => true) (fun b => Nat.blt b a) y) x
theorem ltI_eq (x y : Int) : ltI x y = decide (x < y) := by
  cases x with
  | ofNat a => cases y with
    | ofNat b =>
      show Nat.blt a b = _
      rw [Bool.eq_iff_iff, Nat.blt_eq, decide_eq_true_eq]
      show a < b ↔ (a : Int) < (b : Int)
      omega
    | negSucc b => show false = _; symm; rw [← Bool.not_eq_true, decide_eq_true_eq]; show ¬ ((a : Int) < Int.negSucc b); omega
  | negSucc a => cases y with
    | ofNat b => show true = _; symm; rw [decide_eq_true_eq]; show Int.negSucc a < (b : Int); omega
    | negSucc b =>
      show Nat.blt b a = _
      rw [Bool.eq_iff_iff, Nat.blt_eq, decide_eq_true_eq]
      omega
noncomputable def sameK (f : IntKind → Int → Int → Option AV) (k j : IntKind) (a b : Int) : Option AV := Bool.rec (motive := fun _ => Option AV) none (f k a b) (Nat.beq (limK k) (limK j))
theorem sameK_eq (f : IntKind → Int → Int → Option AV) (k j : IntKind) (a b : Int) : sameK f k j a b = if k = j then f k a b else none := by cases k <;> cases j <;> rfl
noncomputable def iAdd (k : IntKind) (x y : Int) : Option AV := some (.int k (wrapF k (addI x y)))
noncomputable def iSub (k : IntKind) (x y : Int) : Option AV := some (.int k (wrapF k (x - y)))
noncomputable def iEq (k : IntKind) (x y : Int) : Option AV := some (.bool (eqI x y))
noncomputable def iNe (k : IntKind) (x y : Int) : Option AV := some (.bool (!eqI x y))
noncomputable def iLt (k : IntKind) (x y : Int) : Option AV := some (.bool (ltI x y))
noncomputable def iLe (k : IntKind) (x y : Int) : Option AV := some (.bool (!ltI y x))
noncomputable def iGt (k : IntKind) (x y : Int) : Option AV := some (.bool (ltI y x))
noncomputable def iGe (k : IntKind) (x y : Int) : Option AV := some (.bool (!ltI x y))
noncomputable def shl' (k j : IntKind) (x y : Int) : Option AV := shI .shl k x y
noncomputable def shr' (k j : IntKind) (x y : Int) : Option AV := shI .shr k x y
noncomputable def binF (op : BinOp) : IntKind → IntKind → Int → Int → Option AV :=
  BinOp.casesOn (motive := fun _ => IntKind → IntKind → Int → Int → Option AV) op (sameK iAdd) (sameK iSub) (sameK (binI .mul)) (sameK (binI .quo)) (sameK (binI .rem)) (sameK (binI .and)) (sameK (binI .or)) (sameK (binI .xor))
    shl' shr' (sameK (binI .andNot)) (sameK iEq) (sameK iNe) (sameK iLt) (sameK iLe) (sameK iGt) (sameK iGe)
noncomputable def binC (P : Program) (op : BinOp) (t : TypeId) (x y : AV) : Option AV :=
  match x, y with
  | .int k a, .int j b => binF op k j a b
  | x, y => binA P op t x y
theorem binC_eq (P : Program) (op : BinOp) (t : TypeId) (x y : AV) : binC P op t x y = binA P op t x y := by
  unfold binC
  split
  · rename_i k a j b
    cases op <;> simp only [binF, sameK_eq, binA, iAdd, iSub, iEq, iNe, iLt, iLe, iGt, iGe, shl', shr', binI, wrapF_eq, addI_eq, eqI_eq, ltI_eq, bne]
    · have : (!decide (b < a)) = decide (a ≤ b) := by rw [Bool.eq_iff_iff]; simp
      rw [this]
    · have : (!decide (a < b)) = decide (a ≥ b) := by rw [Bool.eq_iff_iff]; simp
      rw [this]
  · rfl
/-! the operations, each in a piece of its own -/
noncomputable def kv (n : Pos) (H : PT AO) (k : KV) (v : AV) : Res := k v n H
noncomputable def fMove (x : Operand) (a : PT AV) (n : Pos) (H : PT AO) (k : KV) : Res := evK x a (kv n H k)
section
variable (P : Program) (call : CallT) (lim : Pos)
noncomputable def cLoad (t : TypeId) (n : Pos) (H : PT AO) (k : KV) (x : AV) : Res := optK (loadA P t x (hp H)) (kv n H k)
noncomputable def fLoad (t : TypeId) (x : Operand) (a : PT AV) (n : Pos) (H : PT AO) (k : KV) : Res := evK x a (cLoad P t n H k)
noncomputable def cFld (s : TypeId) (f : Nat) (n : Pos) (H : PT AO) (k : KV) (x : AV) : Res :=
  match x with
  | .ptr b o => Option.rec none (fun off => forceN (Nat.add o off) fun o => k (.ptr b o) n H) (fldOff P s f)
  | _ => none
noncomputable def fFld (s : TypeId) (x : Operand) (f : Nat) (a : PT AV) (n : Pos) (H : PT AO) (k : KV) : Res := evK x a (cFld P s f n H k)
noncomputable def cNil (n : Pos) (H : PT AO) (k : KV) (x : AV) : Res :=
  match x with
  | .ptr b o => k (.ptr b o) n H
  | .fn f l m => k (.fn f l m) n H
  | _ => none
noncomputable def fNil (x : Operand) (a : PT AV) (n : Pos) (H : PT AO) (k : KV) : Res := evK x a (cNil n H k)
noncomputable def cBin2 (op : BinOp) (t : TypeId) (n : Pos) (H : PT AO) (k : KV) (x y : AV) : Res := optF (binC P op t x y) (kv n H k)
noncomputable def cBin (op : BinOp) (t : TypeId) (y : Operand) (a : PT AV) (n : Pos) (H : PT AO) (k : KV) (x : AV) : Res := evK y a (cBin2 P op t n H k x)
noncomputable def fBin (op : BinOp) (t : TypeId) (x y : Operand) (a : PT AV) (n : Pos) (H : PT AO) (k : KV) : Res := evK x a (cBin P op t y a n H k)
noncomputable def cIdx2 (t : TypeId) (n : Pos) (H : PT AO) (k : KV) (x i : AV) : Res := match i with | .int _ i => optF (idxA P t x i) (kv n H k) | _ => none
noncomputable def cIdx (t : TypeId) (y : Operand) (a : PT AV) (n : Pos) (H : PT AO) (k : KV) (x : AV) : Res := evK y a (cIdx2 P t n H k x)
noncomputable def fIdx (t : TypeId) (x y : Operand) (a : PT AV) (n : Pos) (H : PT AO) (k : KV) : Res := evK x a (cIdx P t y a n H k)
noncomputable def cPick (x y : Operand) (a : PT AV) (n : Pos) (H : PT AO) (k : KV) (c : AV) : Res := match c with | .bool b => Bool.rec (evK y a (kv n H k)) (evK x a (kv n H k)) b | _ => none
noncomputable def fPick (c x y : Operand) (a : PT AV) (n : Pos) (H : PT AO) (k : KV) : Res := evK c a (cPick x y a n H k)
noncomputable def cExt (i : Nat) (n : Pos) (H : PT AO) (k : KV) (x : AV) : Res := match x with | .tup l => optK l[i]? (kv n H k) | _ => none
noncomputable def fExt (x : Operand) (i : Nat) (a : PT AV) (n : Pos) (H : PT AO) (k : KV) : Res := evK x a (cExt i n H k)
noncomputable def kh (v : AV) (n : Pos) (k : KV) (H : PT AO) : Res := k v n H
noncomputable def cSto2 (t : TypeId) (n : Pos) (H : PT AO) (k : KV) (x v : AV) : Res := Bool.rec none (storeK P t x v H (kh (.tup []) n k)) (okLim lim x)
noncomputable def cSto (t : TypeId) (y : Operand) (a : PT AV) (n : Pos) (H : PT AO) (k : KV) (x : AV) : Res := evK y a (cSto2 P lim t n H k x)
noncomputable def fSto (t : TypeId) (x y : Operand) (a : PT AV) (n : Pos) (H : PT AO) (k : KV) : Res := evK x a (cSto P lim t y a n H k)
noncomputable def cNew (n : Pos) (H : PT AO) (k : KV) (ao : AO) (v : AV) : Res := PT.setK ao n H (kh v n.succ k)
noncomputable def cBox (t : TypeId) (n : Pos) (H : PT AO) (k : KV) (v : AV) : Res := rowK (cellsA v) 0 .lf fun cs c => cNew n H k (.row cs c none 0 (some t)) (.ptr n 0)
noncomputable def fBox (t : TypeId) (x : Operand) (a : PT AV) (n : Pos) (H : PT AO) (k : KV) : Res := evK x a (cBox t n H k)
noncomputable def fNew (op : Op) (a : PT AV) (n : Pos) (H : PT AO) (k : KV) : Res := allocK P a op n (cNew n H k)
noncomputable def fBuild (t : TypeId) (parts : Array (Nat × Operand)) (a : PT AV) (n : Pos) (H : PT AO) (k : KV) : Res := Option.rec none (fun ps => optF (buildA P t ps) (kv n H k)) (evParts a parts.toList)
noncomputable def fSlow (op : Op) (a : PT AV) (n : Pos) (H : PT AO) (k : KV) : Res := opK P call lim a op n H k
noncomputable def cCall2 (first cap : List AV) (f : FuncId) (n : Pos) (H : PT AO) (k : KV) (args : List AV) : Res := callE P call f (first ++ args ++ cap) n H k
noncomputable def cYld (b : Pos) (n : Pos) (H : PT AO) (k : KV) (args : List AV) : Res := call (.yld b) args n H k
noncomputable def cCall (args : List Operand) (a : PT AV) (n : Pos) (H : PT AO) (k : KV) (x : AV) : Res := match x with | .fn f first cap => Option.rec none (cCall2 P call first cap f n H k) (evAll a args) | .yld b => Option.rec none (cYld call b n H k) (evAll a args) | _ => none
noncomputable def cBui (b : Builtin) (ts : Array TypeId) (n : Pos) (H : PT AO) (k : KV) (xs : List AV) : Res := builtK P lim b ts xs n H k
noncomputable def fCall (c : Call) (a : PT AV) (n : Pos) (H : PT AO) (k : KV) : Res :=
  match c.callee with
  | .value f => evK f a (cCall P call c.args.toList a n H k)
  | .builtin b => Option.rec none (cBui P lim b c.argTypes n H k) (evAll a c.args.toList)
  | .invoke _ _ => none
noncomputable def opF (op : Op) : PT AV → Pos → PT AO → KV → Res :=
  match op with
  | .move x => fMove x
  | .assign x => fMove x
  | .load t x => fLoad P t x
  | .binOp op t x y _ => fBin P op t x y
  | .fieldAddr s x f => fFld P s x f
  | .nilCheck x => fNil x
  | .indexAddr t x i => fIdx P t x i
  | .store t x y => fSto P lim t x y
  | .extract x i => fExt x i
  | .pick c x y => fPick c x y
  | .box t x => fBox t x
  | .alloc t => fNew P (.alloc t)
  | .build t ps => fBuild P t ps
  | .call c => fCall P call lim c
  | op => fSlow P call lim op
end
theorem opF_eq (P : Program) (call : CallT) (lim : Pos) (op : Op) (a : PT AV) (n : Pos) (H : PT AO) (k : KV) : opF P call lim op a n H k = opK P call lim a op n H k := by
  unfold opF
  split
  · rename_i x; simp only [fMove, opK, evK_eq, kv]; cases ev a x <;> rfl
  · rename_i x; simp only [fMove, opK, evK_eq, kv]; cases ev a x <;> rfl
  · rename_i t x; simp only [fLoad, cLoad, opK, evK_eq, optK_eq, kv]
    cases ev a x with
    | none => rfl
    | some v => cases h : loadA P t v (hp H) <;> simp only [h]
  · rename_i op t x y yt
    simp only [fBin, cBin, cBin2, opK, evK_eq, optF_eq, binC_eq, pureOp]
    cases ev a x <;> cases ev a y <;> rfl
  · rename_i s x f
    simp only [fFld, opK, evK_eq, pureOp]
    cases ev a x with
    | none => rfl
    | some v =>
      cases v <;> first | rfl | skip
      simp only [cFld]
      cases fldOff P s f <;> simp [forceV_eq, forceN_eq]
  · rename_i x
    simp only [fNil, opK, evK_eq, pureOp]
    cases ev a x with
    | none => rfl
    | some v => cases v <;> simp [cNil, forceV_eq]
  · rename_i t x i
    simp only [fIdx, cIdx, opK, evK_eq, pureOp]
    cases ev a x with
    | none => rfl
    | some v =>
      cases ev a i with
      | none => rfl
      | some u => cases u <;> first | rfl | (rename_i kk ii; simp only [cIdx2, optF_eq]; cases idxA P t v ii <;> rfl)
  · rename_i t x y
    simp only [fSto, cSto, cSto2, opK, evK_eq]
    cases ev a x <;> cases ev a y <;> first | rfl | skip
    rename_i v u
    simp only
    cases okLim lim v <;> rfl
  · rename_i x i
    simp only [fExt, opK, evK_eq, pureOp]
    cases ev a x with
    | none => rfl
    | some v =>
      cases v <;> first | rfl | skip
      rename_i l
      simp only [cExt, optK_eq, kv]
      cases l[i]? <;> simp [forceV_eq]
  · rename_i c x y
    simp only [fPick, opK, evK_eq, pureOp]
    cases ev a c with
    | none => rfl
    | some v =>
      cases v <;> first | rfl | skip
      rename_i b
      simp only [cPick, evK_eq, kv]
      cases b
      · cases ev a y <;> simp [forceV_eq]
      · cases ev a x <;> simp [forceV_eq]
  · rename_i t x
    simp only [fBox, opK, evK_eq, allocK]
    cases ev a x <;> rfl
  · rename_i t; rfl
  · rename_i t ps
    simp only [fBuild, opK, pureOp]
    cases evParts a ps.toList with
    | none => rfl
    | some ps => simp only [optF_eq]; cases buildA P t ps <;> rfl
  · rename_i c
    simp only [fCall, opK]
    cases c.callee with
    | value f =>
      simp only [evK_eq]
      cases ev a f with
      | none => rfl
      | some v =>
        cases v <;> first | rfl | skip
        all_goals
          simp only [cCall]
          cases evAll a c.args.toList <;> rfl
    | invoke _ _ => rfl
    | builtin b => cases evAll a c.args.toList <;> rfl
  · rfl
/-! sequences, code, calls -/
abbrev OpsT := PT AV → Pos → PT AO → KA → Res
noncomputable def ka (ih : OpsT) (n : Pos) (H : PT AO) (k : KA) (a : PT AV) : Res := ih a n H k
noncomputable def after (dst : Option Tmp) (ih : OpsT) (k : KA) (a : PT AV) (v : AV) (n : Pos) (H : PT AO) : Res := putF dst v a (ka ih n H k)
noncomputable def guarded (P : Program) (call : CallT) (lim : Pos) (ops : List Oper) (o : Oper) (ih : OpsT) (a : PT AV) (n : Pos) (H : PT AO) (k : KA) : Res :=
  match wantA ops a o with
  | some true => opF P call lim o.op a n H (after o.dst ih k a)
  | some false => after o.dst ih k a (.tup []) n H
  | none => none
noncomputable def seqStep (P : Program) (call : CallT) (lim : Pos) (ops : List Oper) (o : Oper) (ih : OpsT) (a : PT AV) (n : Pos) (H : PT AO) (k : KA) : Res :=
  Option.rec (opF P call lim o.op a n H (after o.dst ih k a)) (fun _ => guarded P call lim ops o ih a n H k) o.guard
noncomputable def seqNil (a : PT AV) (n : Pos) (H : PT AO) (k : KA) : Res := k a n H
noncomputable def seqF (P : Program) (call : CallT) (lim : Pos) (ops : List Oper) (l : List Oper) : OpsT :=
  List.rec (motive := fun _ => OpsT) seqNil (fun o _ ih => seqStep P call lim ops o ih) l
theorem seqF_eq (P : Program) (call : CallT) (lim : Pos) (ops : List Oper) : ∀ (l : List Oper) (a : PT AV) (n : Pos) (H : PT AO) (k : KA), seqF P call lim ops l a n H k = seqK P call lim ops l a n H k
  | [], a, n, H, k => rfl
  | o :: l, a, n, H, k => by
    have ih : seqF P call lim ops l = seqK P call lim ops l := by
      funext a n H k; exact seqF_eq P call lim ops l a n H k
    show seqStep P call lim ops o (seqF P call lim ops l) a n H k = _
    rw [ih]
    have hafter : ∀ a, after o.dst (seqK P call lim ops l) k a = fun v n H => putA o.dst v a fun a => seqK P call lim ops l a n H k := by
      intro a; funext v n H; simp only [after, putF_eq]; rfl
    unfold seqStep seqK
    cases hg : o.guard with
    | none =>
      simp only [wantA, hg, opF_eq, hafter]
    | some g =>
      simp only [guarded, opF_eq, hafter]
      cases wantA ops a o with
      | none => rfl
      | some b => cases b <;> rfl
noncomputable def retF (P : Program) (fn : Func) (k : KV) (e : Ex) (a : PT AV) (n : Pos) (H : PT AO) : Res := retK P fn k e a n H
noncomputable def fnInfo (P : Program) (f : FuncId) : Option (Func × Code) :=
  match P.funcs[f]? with
  | some fn => (match fn.body with | some c => if fn.name == "runtime.NumGoroutine" then none else some (fn, c) | none => none)
  | none => none
noncomputable def kOut (v : AV) (n : Pos) (H : PT AO) : Res := some [(v, n, H)]
noncomputable def start (ex : ExecT) (lim : Pos) (c : Code) (n : Pos) (H : PT AO) (k : KE) (a : PT AV) : Res := ex lim c a n H k
noncomputable def joined (P : Program) (ex : ExecT) (fn : Func) (c : Code) (args : List AV) (n : Pos) (H : PT AO) (k : KV) : Res :=
  match wrK args 0 (initF fn.ntmps) (start ex n c n H (retK P fn kOut)) with | some L => alikeK n H L k | none => none
noncomputable def hooked (n : Pos) (H : PT AO) (k : KV) (v : AV) : Res := forceV v (kv n H k)
noncomputable def callF (P : Program) (J : Plan) (ex : ExecT) (lim : Pos) (f : FuncId) (args : List AV) (n : Pos) (H : PT AO) (k : KV) : Res :=
  Option.rec none (fun p => Option.rec (Bool.rec (wrK args 0 (initF p.1.ntmps) (start ex lim p.2 n H (retK P p.1 k))) (joined P ex p.1 p.2 args n H k) (J.join f)) (hooked n H k) (J.hook f args)) (fnInfo P f)
theorem callF_eq (P : Program) (J : Plan) (ex : ExecT) (lim : Pos) : callF P J ex lim = callK P J ex lim := by
  funext f args n H k
  unfold callF fnInfo callK
  cases P.funcs[f]? with
  | none => rfl
  | some fn =>
    cases hb : fn.body with
    | none => simp only [hb]
    | some c =>
      simp only [hb]
      cases hn : fn.name == "runtime.NumGoroutine" with
      | true => simp
      | false =>
        simp only [Bool.false_eq_true, if_false]
        cases J.hook f args with
        | some v => rfl
        | none =>
        simp only
        cases J.join f with
        | true => simp only [if_true]; rfl
        | false => simp only [Bool.false_eq_true, if_false]; rfl
abbrev CodeT := PT AV → Pos → PT AO → KE → Res
noncomputable def kSeq (go : CodeT) (k : KE) (e : Ex) (a : PT AV) (n : Pos) (H : PT AO) : Res :=
  Ex.rec (motive := fun _ => Res) (go a n H k) (fun id => k (.exit id) a n H) (k .ret a n H) e
noncomputable def kBlk (id : Nat) (k : KE) (e : Ex) (a : PT AV) (n : Pos) (H : PT AO) : Res :=
  Ex.rec (motive := fun _ => Res) (k .nrm a n H) (fun j => Bool.rec (k (.exit j) a n H) (k .nrm a n H) (Nat.beq j id)) (k .ret a n H) e
noncomputable def xSkip (e : Ex) (a : PT AV) (n : Pos) (H : PT AO) (k : KE) : Res := k e a n H
noncomputable def xSeq (go go2 : CodeT) (a : PT AV) (n : Pos) (H : PT AO) (k : KE) : Res := go a n H (kSeq go2 k)
noncomputable def xBlk (id : Nat) (go : CodeT) (a : PT AV) (n : Pos) (H : PT AO) (k : KE) : Res := go a n H (kBlk id k)
noncomputable def cCond (go go2 : CodeT) (a : PT AV) (n : Pos) (H : PT AO) (k : KE) (v : AV) : Res :=
  match v with | .bool b => Bool.rec (go2 a n H k) (go a n H k) b | _ => none
noncomputable def xCond (c : Operand) (go go2 : CodeT) (a : PT AV) (n : Pos) (H : PT AO) (k : KE) : Res := evK c a (cCond go go2 a n H k)
noncomputable def kn (k : KE) (a : PT AV) (n : Pos) (H : PT AO) : Res := k .nrm a n H
noncomputable def xSeqOps (P : Program) (call : CallT) (lim : Pos) (ops : Array Oper) (a : PT AV) (n : Pos) (H : PT AO) (k : KE) : Res := seqF P call lim ops.toList ops.toList a n H (kn k)
noncomputable def xDraw (P : Program) (call : CallT) (lim : Pos) (ops : Array Oper) (a : PT AV) (n : Pos) (H : PT AO) (k : KE) : Res := drawK P call lim ops a n H (kn k)
noncomputable def xReg (P : Program) (call : CallT) (lim : Pos) (ops : Array Oper) (d : Bool) : CodeT := Bool.rec (motive := fun _ => CodeT) (xSeqOps P call lim ops) (xDraw P call lim ops) d
noncomputable def xNone (a : PT AV) (n : Pos) (H : PT AO) (k : KE) : Res := none
noncomputable def tgtF (P : Program) (J : Plan) (ex : ExecT) (lim : Pos) : CallT := fun t => match t with
  | .fn f => callF P J ex lim f
  | .yld b => yieldK P ex lim b
theorem tgtF_eq (P : Program) (J : Plan) (ex : ExecT) (lim : Pos) : tgtF P J ex lim = tgtK P J ex lim := by
  funext t
  cases t with
  | fn f => simp only [tgtF, tgtK, callF_eq]
  | yld b => rfl
noncomputable def xRange (P : Program) (J : Plan) (ex : ExecT) (lim : Pos) (c : Code) (a : PT AV) (n : Pos) (H : PT AO) (k : KE) : Res := execStep P J ex lim c a n H k
noncomputable def stepF (P : Program) (J : Plan) (ex : ExecT) (lim : Pos) (c : Code) : CodeT :=
  match c with
  | .skip => xSkip .nrm
  | .seq x y => xSeq (ex lim x) (ex lim y)
  | .cond c x y => xCond c (ex lim x) (ex lim y)
  | .block id b => xBlk id (ex lim b)
  | .loop b => xSeq (ex lim b) (ex lim (.loop b))
  | .exit id => xSkip (.exit id)
  | .scope b => ex lim b
  | .label _ => xSkip .nrm
  | .ret => xSkip .ret
  | .region _ ops d => xReg P (tgtF P J ex lim) lim ops d
  | .rangeFunc g ps assign body => xRange P J ex lim (.rangeFunc g ps assign body)
  | _ => xNone
theorem stepF_eq (P : Program) (J : Plan) (ex : ExecT) : stepF P J ex = execStep P J ex := by
  funext lim c a n H k
  have hk : ∀ (go : CodeT), kSeq go k = fun e a n H => (match e with | .nrm => go a n H k | e => k e a n H) := by
    intro go; funext e a n H; cases e <;> rfl
  have hb : ∀ id, kBlk id k = fun e a n H => (match e with | .exit j => if Nat.beq j id then k .nrm a n H else k (.exit j) a n H | e => k e a n H) := by
    intro id; funext e a n H
    cases e with
    | exit j => simp only [kBlk]; cases Nat.beq j id <;> rfl
    | _ => rfl
  cases c with
  | skip => rfl
  | seq x y => simp only [stepF, execStep, xSeq, hk]; congr 1
  | cond c x y =>
    simp only [stepF, execStep, xCond, evK_eq]
    cases ev a c with
    | none => rfl
    | some v =>
      cases v <;> first | rfl | skip
      rename_i b
      cases b <;> rfl
  | block id b => simp only [stepF, execStep, xBlk, hb]; congr 1
  | loop b => simp only [stepF, execStep, xSeq, hk]; congr 1
  | exit id => rfl
  | scope b => rfl
  | label l => rfl
  | ret => rfl
  | region id ops d =>
    cases d with
    | false => show xSeqOps P _ lim ops a n H k = _; simp only [xSeqOps, seqF_eq, tgtF_eq]; rfl
    | true => show xDraw P _ lim ops a n H k = _; simp only [xDraw, tgtF_eq]; rfl
  | _ => rfl
noncomputable def execF (P : Program) (J : Plan) (fuel : Nat) : ExecT :=
  Nat.rec (motive := fun _ => ExecT) (fun _ _ _ _ _ _ => none) (fun _ ih => stepF P J ih) fuel
theorem execF_eq (P : Program) (J : Plan) : ∀ fuel, execF P J fuel = exec P J fuel
  | 0 => rfl
  | n + 1 => by
    show stepF P J (execF P J n) = execStep P J (exec P J n)
    rw [execF_eq P J n, stepF_eq]
end Go.Proofs.YthggliknnmhbdaaGreat.Abs
end
