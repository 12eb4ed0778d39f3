/- The interpreter: regions, code, calls. Definitions. No conditions. -/
import Derived.Test.YtlpnhikoipkjbaaAbsPq
set_option linter.unusedVariables false
namespace Go.Proofs.Ytlpnhikoipkjbaa.Abs
open Go Go.RowKit
inductive Ex where
  | nrm | exit (id : Nat) | ret
noncomputable def putA {R : Type} (dst : Option Tmp) (v : AV) (a : PT AV) (k : PT AV → Option R) : Option R :=
  match dst with
  | none => k a
  | some d => PT.updK v (pk d) a k
/-- is the operation wanted? its guard's word -/
noncomputable def wantA (ops : List Oper) (a : PT AV) (o : Oper) : Option Bool :=
  match o.guard with
  | none => some true
  | some (j, want) => (match ops[j]? with
    | some oj => (match oj.dst with | some t => (match PT.get (pk t) a with | some (.bool b) => some (b == want) | some (.tup []) => some false | _ => none) | none => none)
    | none => none)
noncomputable def seqK (P : Program) (call : CallT) (lim : Pos) (ops : List Oper) : List Oper → PT AV → Pos → PT AO → (PT AV → Pos → PT AO → Res) → Res
  | [], a, n, H, k => k a n H
  | o :: os, a, n, H, k => (match wantA ops a o with
    | some true => opK P call lim a o.op n H fun v n H => putA o.dst v a fun a => seqK P call lim ops os a n H k
    | some false => putA o.dst (.tup []) a fun a => seqK P call lim ops os a n H k
    | none => none)
/-! regions that draw their order -/
def isHeavy : Op → Bool
  | .store .. => true | .mapUpdate .. => true | .mapEntry .. => true | .entryStore .. => true | .range .. => true | .next .. => true | .entry _ => true | .insert .. => true
  | .call c => (match c.callee with | .builtin .len => false | .builtin .min => false | .builtin .max => false | _ => true)
  | _ => false
def isNew (P : Program) : Op → Bool
  | .alloc _ => true | .box .. => true | .buildSlice .. => true | .makeMap .. => true | .makeSlice .. => true
  | .convert s d _ => (match P.underlying s, P.underlying d with | some .string, some (.slice _) => true | _, _ => false)
  | _ => false
/-- what only reads -/
noncomputable def rdOp (P : Program) (a : PT AV) (op : Op) (g : Hp) : Option AV :=
  match op with
  | .load t x => (match ev a x with | some x => loadA P t x g | none => none)
  | .lookup t m x ok => (match ev a m, ev a x with | some m, some x => lookupA P t m x ok g | _, _ => none)
  | .convert s d x => (match ev a x with | some v => (match convA P s d v with | some v => some v | none => bytesA P s d v g) | none => none)
  | .call c => (match c.callee with
    | .builtin b => (match evAll a c.args.toList with
      | some xs => (match b, c.argTypes.toList, xs with
        | .len, [t], [.map m] => (match P.underlying t, g m with | some (.map _ _), some (.map es _) => some (.int .i64 es.length) | _, _ => none)
        | b, _, xs => pureCall P b c.argTypes xs)
      | none => none)
    | _ => none)
  | op => pureOp P a op
def readsMem : Op → Bool
  | .load .. => true | .lookup .. => true | .convert .. => true | .call _ => true
  | _ => false
abbrev Pend := List (Nat × Pos × AO)
/-- those that stand ahead of it join -/
noncomputable def joinK {R : Type} (m : Nat) : Pend → PT AO → (PT AO → R) → R
  | [], H, k => k H
  | (j, b, o) :: l, H, k => if Nat.testBit m j then PT.setK o b H fun H => joinK m l H k else joinK m l H k
def restP (m : Nat) (l : Pend) : Pend := l.filter fun x => !Nat.testBit m x.1
noncomputable def addAllK {R : Type} : Pend → PT AO → (PT AO → R) → R
  | [], H, k => k H
  | (_, b, o) :: l, H, k => PT.setK o b H fun H => addAllK l H k
/-- a moment: slots, numbers, heap, what it yields then -/
structure Mom where
  a : PT AV
  H : PT AO
  pd : Pend
  v : AV
noncomputable def joinT (m : Nat) : Pend → PT AO → PT AO
  | [], H => H
  | (j, b, o) :: l, H => if Nat.testBit m j then joinT m l (PT.set o b H) else joinT m l H
noncomputable def trK (P : Program) (call : CallT) (lim : Pos) (ops : List Oper) (pre : List Nat) : List Oper → Nat → PT AV → Pos → PT AO → Pend → Pos → List Mom → (List Mom → PT AV → Pos → PT AO → Pend → Res) → Res
  | [], i, a, n, H, pd, nx, acc, k => k acc a n H pd
  | o :: os, i, a, n, H, pd, nx, acc, k => (match wantA ops a o with
    | none => none
    | some false => putA o.dst (.tup []) a fun a' => trK P call lim ops pre os (Nat.succ i) a' n H pd nx (⟨a, H, pd, .tup []⟩ :: acc) k
    | some true =>
      if isHeavy o.op then
        joinK (pre.getD i 0) pd H fun H1 => (match opK P call lim a o.op n H1 (fun v n H => some [(v, n, H)]) with
          | some [(v, n2, H2)] => putA o.dst v a fun a' => trK P call lim ops pre os (Nat.succ i) a' n2 H2 (restP (pre.getD i 0) pd) nx (⟨a, H, pd, v⟩ :: acc) k
          | _ => none)
      else if isNew P o.op then
        allocK P a o.op nx fun ao v => putA o.dst v a fun a' => trK P call lim ops pre os (Nat.succ i) a' n H ((i, nx, ao) :: pd) nx.succ (⟨a, H, pd, v⟩ :: acc) k
      else
        joinK (pre.getD i 0) pd H fun H1 => (match rdOp P a o.op (hp H1) with
          | some v => forceV v fun v => putA o.dst v a fun a' => trK P call lim ops pre os (Nat.succ i) a' n H pd nx (⟨a, H, pd, v⟩ :: acc) k
          | none => none))
/-- ahead of the i-th operation, by all edges -/
def preL (ops : Array Oper) : List Nat := (Region.before ops).toList
/-- a reading operation and a heavy one, in no order -/
def unordL (ops : Array Oper) : List (Nat × Nat) :=
  let pre := preL ops
  ops.toList.zipIdx.flatMap fun (o, l) => if readsMem o.op && !isHeavy o.op then
    (ops.toList.zipIdx.filter fun (h, i) => isHeavy h.op && !(Nat.testBit (pre.getD i 0) l) && !(Nat.testBit (pre.getD l 0) i)).map fun (_, i) => (l, i) else []
def tmpsOf (ops : Array Oper) (o : Oper) : List Tmp :=
  (o.op.operands.toList.filterMap fun | .tmp t => some t | _ => none) ++ (match o.guard with | some (j, _) => ((ops[j]?).bind (·.dst)).toList | none => [])
/-- what stands ahead, by these edges -/
def edgeF (pre : List Nat) (es : List Edge) : Nat := es.foldr (fun e s => bif Region.binds .any e then Nat.lor s (Nat.lor (2 ^ e.on) (pre.getD e.on 0)) else s) 0
def dstNe (t : Nat) : Option Tmp → Bool
  | none => true
  | some d => !Nat.beq d t
noncomputable def allF {α : Type} (l : List α) (p : Nat → α → Bool) : Nat → Bool := List.rec (motive := fun _ => Nat → Bool) (fun _ => true) (fun x _ ih i => p i x && ih (Nat.succ i)) l
theorem allF_at {α : Type} {p : Nat → α → Bool} : ∀ {l : List α} {k : Nat}, allF l p k = true → ∀ {i : Nat} {x : α}, l[i]? = some x → p (k + i) x = true
  | [], _, _, i, x, e => by simp at e
  | y :: l, k, h, i, x, e => by
    have h' : (p k y && allF l p (Nat.succ k)) = true := h
    rw [Bool.and_eq_true] at h'
    cases i with
    | zero => simp at e; subst e; exact h'.1
    | succ i =>
      have := allF_at h'.2 (i := i) (x := x) (by simpa using e)
      rwa [show Nat.succ k + i = k + (i + 1) by omega] at this
/-- what the walk in one order needs of the region's text -/
noncomputable def regOk (P : Program) (ops : Array Oper) : Bool :=
  P.follows .mixedOrders && forceNL (preL ops) fun pre => allF ops.toList (fun i o =>
    allF o.after.toList (fun _ e => !Region.binds .any e || Nat.blt e.on i) 0 && Nat.beq (pre.getD i 0) (edgeF pre o.after.toList) &&
    (match o.dst with | none => true | some t => allF ops.toList (fun j p => dstNe t p.dst || Nat.beq i j) 0) &&
    (!isHeavy o.op || allF ops.toList (fun j p => !isHeavy p.op || !Nat.blt i j || Nat.testBit (pre.getD j 0) i) 0) &&
    allF (tmpsOf ops o) (fun _ t => allF ops.toList (fun j p => dstNe t p.dst || Nat.beq i j || Nat.testBit (pre.getD i 0) j || Nat.testBit (pre.getD j 0) i) 0) 0) 0
def newsOf (P : Program) (ops : Array Oper) : Nat := (ops.toList.filter fun o => isNew P o.op && !isHeavy o.op).length
noncomputable def upN : Nat → Pos → Pos
  | 0, n => n
  | m + 1, n => upN m n.succ
noncomputable def sameV (x : AV) : Option AV → Bool
  | some y => eqVal x y
  | none => false
/-- what is read where other heavy ones have run, or have not yet: the same -/
noncomputable def againOk (P : Program) (ops : Array Oper) (pre : List Nat) (ms : List Mom) (lpd : Pend) (last : PT AO) : List (Nat × Nat) → Bool
  | [] => true
  | (l, h) :: u => (match ms[l]?, ops[l]?, ms[h]? with
      | some ml, some ol, some mh => if Nat.blt l h then sameV ml.v (rdOp P ml.a ol.op (hp (match ms[h + 1]? with | some m2 => joinT (pre.getD l 0) m2.pd m2.H | none => joinT (pre.getD l 0) lpd last)))
          else sameV ml.v (rdOp P ml.a ol.op (hp (joinT (pre.getD l 0) ml.pd (joinT (pre.getD l 0) mh.pd mh.H))))
      | _, _, _ => false) && againOk P ops pre ms lpd last u
noncomputable def drawK (P : Program) (call : CallT) (lim : Pos) (ops : Array Oper) (a : PT AV) (n : Pos) (H : PT AO) (k : PT AV → Pos → PT AO → Res) : Res :=
  if regOk P ops then
    trK P call lim ops.toList (preL ops) ops.toList 0 a (upN (newsOf P ops) n) H [] n [] fun acc a n H pd =>
      if againOk P ops (preL ops) acc.reverse pd H (unordL ops) then addAllK pd H fun H => k a n H else none
  else none
abbrev ExecT := Pos → Code → PT AV → Pos → PT AO → (Ex → PT AV → Pos → PT AO → Res) → Res
noncomputable def resA (P : Program) (a : PT AV) (H : PT AO) : List ResultVar → Option (List AV)
  | [] => some []
  | .tmp t :: l => (match PT.get (pk t) a, resA P a H l with | some v, some r => some (v :: r) | _, _ => none)
  | .cell t ty :: l => (match PT.get (pk t) a with
    | some x => (match loadA P ty x (hp H), resA P a H l with | some v, some r => some (v :: r) | _, _ => none)
    | none => none)
noncomputable def initF (n : Nat) : PT AV := rowK (List.replicate n (AV.tup [])) 0 .lf fun t _ => t
noncomputable def retK (P : Program) (fn : Func) (k : AV → Pos → PT AO → Res) (e : Ex) (a : PT AV) (n : Pos) (H : PT AO) : Res :=
  match e with
  | .exit _ => none
  | _ => (match resA P a H fn.results.toList with
    | some [v] => k v n H
    | some l => forceL l fun l => k (.tup l) n H
    | none => none)
/-! one outcome of several ways: they are alike, but for the names of new blocks -/
abbrev Pairs := List (Pos × Pos)
mutual
/-- which names would have to stand for which -/
def pairsV : AV → AV → Pairs
  | .ptr b _, .ptr c _ => [(b, c)]
  | .slc b _ _ _ _, .slc c _ _ _ _ => [(b, c)]
  | .slz b _ _, .slz c _ _ => [(b, c)]
  | .map b, .map c => [(b, c)]
  | .fn _ l m, .fn _ l' m' => pairsL l l' ++ pairsL m m'
  | .agg l, .agg m => pairsL l m
  | .tup l, .tup m => pairsL l m
  | _, _ => []
def pairsL : List AV → List AV → Pairs
  | v :: l, w :: m => pairsV v w ++ pairsL l m
  | _, _ => []
end
noncomputable def pairsR (cs : PT AV) (d : Option AV) (cs' : PT AV) (d' : Option AV) : Nat → Pairs
  | 0 => []
  | n + 1 => (match cellA cs d n, cellA cs' d' n with | some v, some w => pairsV v w | _, _ => []) ++ pairsR cs d cs' d' n
def hasKey (b : Pos) : Pairs → Option Pos
  | [] => none
  | (x, y) :: l => if x = b then some y else hasKey b l
noncomputable def growM (n0 : Pos) (H H' : PT AO) : Nat → Pairs → Pairs → Pairs
  | 0, _, M => M
  | _ + 1, [], M => M
  | f + 1, (b, c) :: r, M => if Nat.blt b.nat n0.nat then growM n0 H H' f r M else
      (match hasKey b M with
      | some _ => growM n0 H H' f r M
      | none => (match PT.get b H, PT.get c H' with
        | some (.row cs n d _ _), some (.row cs' _ d' _ _) => growM n0 H H' f (pairsR cs d cs' d' n ++ r) ((b, c) :: M)
        | _, _ => M))
def okId (n0 : Pos) (M : Pairs) (b c : Pos) : Bool := if Nat.blt b.nat n0.nat then decide (b = c) else (match hasKey b M with | some y => decide (y = c) | none => false)
mutual
def likeV (n0 : Pos) (M : Pairs) : AV → AV → Bool
  | .ptr b o, .ptr c p => okId n0 M b c && o == p
  | .slc b o l c e, .slc b' o' l' c' e' => okId n0 M b b' && o == o' && l == l' && c == c' && e == e'
  | .slz b o p, .slz b' o' p' => okId n0 M b b' && o == o' && p == p'
  | .map b, .map c => okId n0 M b c
  | .fn f l m, .fn f' l' m' => f == f' && likeL n0 M l l' && likeL n0 M m m'
  | .agg l, .agg m => likeL n0 M l m
  | .tup l, .tup m => likeL n0 M l m
  | .sym _, .sym _ => false
  | x, y => eqVal x y
def likeL (n0 : Pos) (M : Pairs) : List AV → List AV → Bool
  | [], [] => true
  | x :: l, y :: m => likeV n0 M x y && likeL n0 M l m
  | _, _ => false
end
noncomputable def likeCells (n0 : Pos) (M : Pairs) (cs : PT AV) (d : Option AV) (cs' : PT AV) (d' : Option AV) : Nat → Bool
  | 0 => true
  | n + 1 => (match cellA cs d n, cellA cs' d' n with | some x, some y => likeV n0 M x y | _, _ => false) && likeCells n0 M cs d cs' d' n
noncomputable def likeO (n0 : Pos) (M : Pairs) : Option AO → Option AO → Bool
  | some (.row cs n d es ty), some (.row cs' n' d' es' ty') => n == n' && es == es' && ty == ty' && likeCells n0 M cs d cs' d' n
  | _, _ => false
def nodupM (n0 : Pos) : Pairs → Bool
  | [] => true
  | (b, c) :: l => Nat.ble n0.nat b.nat && Nat.ble n0.nat c.nat && l.all (fun x => x.1 != b && x.2 != c) && nodupM n0 l
/-- the names of the first outcome that count -/
noncomputable def likeOne (n0 : Pos) (keys : List Pos) (v : AV) (H : PT AO) (o : Out) : Bool :=
  let M := growM n0 H o.2.2 100000 (pairsV v o.1) []
  nodupM n0 M && likeV n0 M v o.1 && M.all (fun x => likeO n0 M (PT.get x.1 H) (PT.get x.2 o.2.2)) && (M.map (·.1) == keys)
noncomputable def keepK {R : Type} (H1 : PT AO) : List Pos → PT AO → (PT AO → Option R) → Option R
  | [], H, k => k H
  | b :: l, H, k => match PT.get b H1 with | some o => PT.setK o b H fun H => keepK H1 l H k | none => none
def maxP (p q : Pos) : Pos := if Nat.ble q.nat p.nat then p else q
noncomputable def alikeK (n0 : Pos) (H0 : PT AO) (L : List Out) (k : AV → Pos → PT AO → Res) : Res :=
  match L with
  | [] => none
  | [(v, n, H)] => k v n H
  | (v, n, H) :: rest =>
    forceL ((growM n0 H H 100000 (pairsV v v) []).map (·.1)) fun keys =>
    if ((v, n, H) :: rest).all (likeOne n0 keys v H) && keys.all (fun b => Nat.blt b.nat n.nat) then keepK H keys H0 fun H => k v (rest.foldl (fun p o => maxP p o.2.1) n) H else none
/-- which calls join their ways; which ones are answered by a law of their own -/
structure Plan where
  join : FuncId → Bool
  hook : FuncId → List AV → Option AV
noncomputable def callK (P : Program) (J : Plan) (ex : ExecT) (lim : Pos) (f : FuncId) (args : List AV) (n : Pos) (H : PT AO) (k : AV → Pos → PT AO → Res) : Res :=
  match P.funcs[f]? with
  | some fn => (match fn.body with
    | some c => if fn.name == "runtime.NumGoroutine" then none else
        (match J.hook f args with
        | some v => forceV v fun v => k v n H
        | none =>
        if J.join f then
          (match wrK args 0 (initF fn.ntmps) (fun a => ex n c a n H (retK P fn fun v n H => some [(v, n, H)])) with
          | some L => alikeK n H L k
          | none => none)
        else wrK args 0 (initF fn.ntmps) fun a => ex lim c a n H (retK P fn k))
    | none => none)
  | none => none
/-- no range over a function stands in it -/
def noRF : Code → Bool
  | .rangeFunc .. => false
  | .seq x y => noRF x && noRF y
  | .cond _ x y => noRF x && noRF y
  | .block _ b => noRF b
  | .loop b => noRF b
  | .scope b => noRF b
  | _ => true
/-- the params laid, one by one -/
noncomputable def layK : List Nat → List AV → PT AV → (PT AV → Res) → Res
  | [], [], a, k => k a
  | t :: ps, v :: vs, a, k => PT.updK v (pk t) a fun a => layK ps vs a k
  | _, _, _, _ => none
noncomputable def endK (b : Pos) (a : PT AV) (ps : List Nat) (assign body : Code) (k : AV → Pos → PT AO → Res) (e : Ex) (_ : PT AV) (n : Pos) (H : PT AO) : Res :=
  match e with
  | .nrm => PT.setK (.loop a ps assign body true none) b H fun H => k (.bool true) n H
  | .ret => PT.setK (.loop a ps assign body false (some none)) b H fun H => k (.bool false) n H
  | .exit i => PT.setK (.loop a ps assign body false (some (some i))) b H fun H => k (.bool false) n H
/-- a round of a range over a function: its record has no name meanwhile -/
noncomputable def yieldK (P : Program) (ex : ExecT) (lim : Pos) (b : Pos) (args : List AV) (n : Pos) (H : PT AO) (k : AV → Pos → PT AO → Res) : Res :=
  match PT.get b H with
  | some (.loop a ps assign body true _) => if Nat.ble lim.nat b.nat && noRF assign && noRF body then
      PT.delK b H fun H => layK ps args a fun a1 => ex lim assign a1 n H fun e a2 n H => (match e with
        | .nrm => ex lim body a2 n H (endK b a ps assign body k)
        | _ => none)
    else none
  | _ => none
/-- behind the iterator -/
noncomputable def doneK (b : Pos) (a : PT AV) (k : Ex → PT AV → Pos → PT AO → Res) (_ : AV) (n : Pos) (H : PT AO) : Res :=
  match PT.get b H with
  | some (.loop _ _ _ _ _ pend) => PT.delK b H fun H => (match pend with
      | none => k .nrm a n H
      | some none => k .ret a n H
      | some (some i) => k (.exit i) a n H)
  | _ => none
noncomputable def tgtK (P : Program) (J : Plan) (ex : ExecT) (lim : Pos) : CallT := fun t => match t with
  | .fn f => callK P J ex lim f
  | .yld b => yieldK P ex lim b
noncomputable def rangeFK (call : CallT) (g : Operand) (ps : List Nat) (assign body : Code) (a : PT AV) (n : Pos) (H : PT AO) (k : Ex → PT AV → Pos → PT AO → Res) : Res :=
  match ev a g with
  | some (.fn f [] cap) => PT.setK (.loop a ps assign body true none) n H fun H => call (.fn f) (.yld n :: cap) n.succ H (doneK n a k)
  | _ => none
noncomputable def execStep (P : Program) (J : Plan) (ex : ExecT) : ExecT := fun lim c a n H k =>
  match c with
  | .skip => k .nrm a n H
  | .seq x y => ex lim x a n H fun e a n H => (match e with | .nrm => ex lim y a n H k | e => k e a n H)
  | .cond c x y => (match ev a c with | some (.bool true) => ex lim x a n H k | some (.bool false) => ex lim y a n H k | _ => none)
  | .block id b => ex lim b a n H fun e a n H => (match e with | .exit j => if Nat.beq j id then k .nrm a n H else k (.exit j) a n H | e => k e a n H)
  | .loop b => ex lim b a n H fun e a n H => (match e with | .nrm => ex lim (.loop b) a n H k | e => k e a n H)
  | .exit id => k (.exit id) a n H
  | .scope b => ex lim b a n H k
  | .label _ => k .nrm a n H
  | .ret => k .ret a n H
  | .region _ ops draw => (match draw with
    | false => seqK P (tgtK P J ex lim) lim ops.toList ops.toList a n H fun a n H => k .nrm a n H
    | true => drawK P (tgtK P J ex lim) lim ops a n H fun a n H => k .nrm a n H)
  | .rangeFunc g ps assign body => rangeFK (tgtK P J ex lim) g ps.toList assign body a n H k
  | _ => none
noncomputable def exec (P : Program) (J : Plan) (fuel : Nat) : ExecT :=
  Nat.rec (motive := fun _ => ExecT) (fun _ _ _ _ _ _ => none) (fun _ ih => execStep P J ih) fuel
end Go.Proofs.Ytlpnhikoipkjbaa.Abs
