/- Pure operations on abstract values, and that they are the model's. No conditions. -/
import Derived.Test.YtlpnhikoipkjbaaAbsA
import Derived.Handy
import Derived.WalkKit
import Derived.WalkSpells
import Derived.Laws.Strings
set_option linter.unusedVariables false
namespace Go.Proofs.Ytlpnhikoipkjbaa.Abs
open Go
/-- Slots: what the frame is known to hold. -/
def Slots (ρ : Ren) (a : PT AV) (A : Act) : Prop := ∀ t v, PT.get (pk t) a = some v → ∃ x, conc ρ v = some x ∧ A.tmps[t]? = some x
theorem Slots.le {ρ ρ' : Ren} {a : PT AV} {A : Act} (h : Slots ρ a A) (hl : ρ.le ρ') : Slots ρ' a A := fun t v e => let ⟨x, h1, h2⟩ := h t v e; ⟨x, conc_le hl v h1, h2⟩
theorem Slots.put {ρ : Ren} {a : PT AV} {A : Act} (h : Slots ρ a A) {d : Nat} {v : AV} {x : Value} (hx : conc ρ v = some x) (hd : ∃ y, PT.get (pk d) a = some y) :
    Slots ρ (PT.set v (pk d) a) (A.put (some d) x) := by
  intro t u e
  rw [PT.get_set] at e
  obtain ⟨y, hy⟩ := hd
  obtain ⟨y', _, hyt⟩ := h d y hy
  have hlt : d < A.tmps.size := (Array.getElem?_eq_some_iff.1 hyt).1
  by_cases ht : t = d
  · subst ht
    rw [if_pos rfl] at e
    injection e with e
    subst e
    exact ⟨x, hx, by simp [Act.put, hlt]⟩
  · rw [if_neg (fun e' => ht (pk_inj e'))] at e
    obtain ⟨z, h1, h2⟩ := h t u e
    refine ⟨z, h1, ?_⟩
    simp only [Act.put]
    rw [Array.getElem?_setIfInBounds_ne (fun e' => ht e'.symm)]
    exact h2

def mapO {α β : Type} (f : α → Option β) : List α → Option (List β)
  | [] => some []
  | x :: l => match f x, mapO f l with | some y, some ys => some (y :: ys) | _, _ => none
/-- values that hold no pointer -/
def ofV : Nat → Value → Option AV
  | 0, _ => none
  | n + 1, v => match v with
    | .int k i => some (.int k i)
    | .bool b => some (.bool b)
    | .string s => some (.str (s.data.toList.map UInt8.toNat))
    | .pointer none => some .nilp
    | .slice none 0 0 => some .nils
    | .map none => some .nilm
    | .nilFunc => some .nilf
    | .nilIface => some .nili
    | .agg cs => (mapO (ofV n) cs.toList).map .agg
    | .tuple cs => (mapO (ofV n) cs.toList).map .tup
    | .func (.func f) x y => match mapO (ofV n) x.toList, mapO (ofV n) y.toList with | some x, some y => some (.fn f x y) | _, _ => none
    | .iface t v => (ofV n v).map (.ifc t)
    | _ => none
theorem strOf_data (s : ByteArray) : strOf (s.data.toList.map UInt8.toNat) = s := by
  cases s with
  | mk d => simp [strOf, Function.comp_def]
theorem all_lt (s : ByteArray) : (s.data.toList.map UInt8.toNat).all (· < 256) = true := by
  simp only [List.all_map, List.all_eq_true]
  intro x _
  simpa using UInt8.toNat_lt x
theorem mapM_concs {f : Value → Option AV} {ρ : Ren} (hf : ∀ v a, f v = some a → conc ρ a = some v) : ∀ (l : List Value) {xs : List AV}, mapO f l = some xs → concs ρ xs = some l
  | [], xs, e => by cases e; rfl
  | v :: l, xs, e => by
    unfold mapO at e
    split at e
    · rename_i h1 h2
      injection e with e
      subst e
      simp only [concs, hf v _ h1, mapM_concs hf l h2]
    · cases e
theorem ofV_conc (ρ : Ren) : ∀ (n : Nat) (v : Value) {a : AV}, ofV n v = some a → conc ρ a = some v := by
  intro n
  induction n with
  | zero => intro v a e; cases e
  | succ n ih =>
    intro v a e
    unfold ofV at e
    split at e
    all_goals first
      | (injection e with e; subst e; first | rfl | (simp only [conc, all_lt, if_true, strOf_data]))
      | cases e
      | skip
    · obtain ⟨l, hl, rfl⟩ := Option.map_eq_some_iff.1 e
      simp only [conc, mapM_concs ih _ hl]
    · obtain ⟨l, hl, rfl⟩ := Option.map_eq_some_iff.1 e
      simp only [conc, mapM_concs ih _ hl]
    · split at e
      · rename_i h1 h2
        injection e with e
        subst e
        simp only [conc, mapM_concs ih _ h1, mapM_concs ih _ h2]
      · cases e
    · obtain ⟨l, hl, rfl⟩ := Option.map_eq_some_iff.1 e
      simp only [conc, ih _ hl]

noncomputable def ev (a : PT AV) : Operand → Option AV
  | .tmp t => PT.get (pk t) a
  | .const v => ofV 8 v
  | .global _ => none
  | .func f => some (.fn f [] [])
theorem ev_conc {ρ : Ren} {a : PT AV} {A : Act} (h : Slots ρ a A) {x : Operand} {v : AV} (e : ev a x = some v) : ∃ u, conc ρ v = some u ∧ A.eval x = u := by
  cases x with
  | tmp t =>
    obtain ⟨u, h1, h2⟩ := h t v e
    exact ⟨u, h1, by simp [Act.eval, h2]⟩
  | const c => exact ⟨c, ofV_conc ρ 8 c e, rfl⟩
  | global g => cases e
  | func f => injection e with e; subst e; exact ⟨_, rfl, rfl⟩

section types
variable (P : Program)
def aggT (t : TypeId) : Option Bool := match P.underlying t with | some (.struct _) => some true | some (.array _ _) => some true | some _ => some false | none => none
def sizeT (t : TypeId) : Option Nat := match P.info? t with | some i => some i.size | none => none
end types
section
variable {P : Program} {w : World}
theorem run_isAgg {t : TypeId} {b : Bool} (h : aggT P t = some b) : (isAgg t).run P w = .ok b w := by
  unfold aggT at h
  cases hu : P.underlying t with
  | none => rw [hu] at h; cases h
  | some d => rw [hu] at h; cases d <;> simp at h <;> subst h <;> simp [isAgg, run_underlying hu]
theorem run_sizeOf {t : TypeId} {n : Nat} (h : sizeT P t = some n) : (sizeOf t).run P w = .ok n w := by
  unfold sizeT at h
  cases hi : P.info? t with
  | none => rw [hi] at h; cases h
  | some i => rw [hi] at h; simp at h; subst h; simp [sizeOf, typeInfo, hi]
end

/-- integers -/
def binI (op : BinOp) (k : IntKind) (x y : Int) : Option AV :=
  match op with
  | .add => some (.int k (k.wrap (x + y)))
  | .sub => some (.int k (k.wrap (x - y)))
  | .mul => some (.int k (k.wrap (x * y)))
  | .eql => some (.bool (x == y))
  | .neq => some (.bool (x != y))
  | .lss => some (.bool (x < y))
  | .leq => some (.bool (x ≤ y))
  | .gtr => some (.bool (x > y))
  | .geq => some (.bool (x ≥ y))
  | .quo => if y = 0 then none else some (.int k (k.wrap (x.tdiv y)))
  | .rem => if y = 0 then none else some (.int k (x.tmod y))
  | .and => some (.int k (k.wrap ((BitVec.ofInt k.bits x &&& BitVec.ofInt k.bits y).toNat)))
  | .or => some (.int k (k.wrap ((BitVec.ofInt k.bits x ||| BitVec.ofInt k.bits y).toNat)))
  | .xor => some (.int k (k.wrap ((BitVec.ofInt k.bits x ^^^ BitVec.ofInt k.bits y).toNat)))
  | .andNot => some (.int k (k.wrap ((BitVec.ofInt k.bits x &&& ~~~ BitVec.ofInt k.bits y).toNat)))
  | _ => none
def lexL : List Nat → List Nat → Bool
  | _, [] => false
  | [], _ :: _ => true
  | a :: x, b :: y => Nat.blt a b || (Nat.beq a b && lexL x y)
def eqL : List Nat → List Nat → Bool
  | [], [] => true
  | a :: x, b :: y => Nat.beq a b && eqL x y
  | _, _ => false
def binS (op : BinOp) (x y : List Nat) : Option AV :=
  match op with
  | .add => if x.length + y.length < 1099511627776 then some (.str (x ++ y)) else none
  | .eql => some (.bool (eqL x y))
  | .neq => some (.bool (!eqL x y))
  | .lss => some (.bool (lexL x y))
  | .leq => some (.bool (lexL x y || eqL x y))
  | .gtr => some (.bool !(lexL x y || eqL x y))
  | .geq => some (.bool !(lexL x y))
  | _ => none
theorem eqL_eq : ∀ (x y : List Nat), eqL x y = decide (x = y)
  | [], [] => rfl
  | [], _ :: _ => rfl
  | _ :: _, [] => rfl
  | a :: x, b :: y => by
    unfold eqL
    rw [eqL_eq x y]
    rw [Bool.eq_iff_iff]
    simp [Nat.beq_eq]
theorem strOf_toList (l : List Nat) : (strOf l).toList = l.map UInt8.ofNat := by
  rw [ByteArray.toList_eq]; simp [strOf]
theorem strOf_size (l : List Nat) : (strOf l).size = l.length := by simp [strOf, ByteArray.size]
theorem ofNat_inj {a b : Nat} (ha : a < 256) (hb : b < 256) (h : UInt8.ofNat a = UInt8.ofNat b) : a = b := by
  have := congrArg UInt8.toNat h
  simpa [UInt8.toNat_ofNat', Nat.mod_eq_of_lt ha, Nat.mod_eq_of_lt hb] using this
theorem map_inj : ∀ {x y : List Nat}, x.all (· < 256) = true → y.all (· < 256) = true → x.map UInt8.ofNat = y.map UInt8.ofNat → x = y
  | [], [], _, _, _ => rfl
  | [], _ :: _, _, _, h => by simp at h
  | _ :: _, [], _, _, h => by simp at h
  | a :: x, b :: y, hx, hy, h => by
    simp only [List.all_cons, Bool.and_eq_true, decide_eq_true_eq] at hx hy
    simp only [List.map_cons, List.cons.injEq] at h
    rw [ofNat_inj hx.1 hy.1 h.1, map_inj hx.2 hy.2 h.2]
theorem beq_str {x y : List Nat} (hx : x.all (· < 256) = true) (hy : y.all (· < 256) = true) : ((strOf x).toList == (strOf y).toList) = eqL x y := by
  rw [strOf_toList, strOf_toList, eqL_eq, Bool.eq_iff_iff]
  simp only [beq_iff_eq, decide_eq_true_eq]
  exact ⟨map_inj hx hy, fun h => by rw [h]⟩
theorem beq_map {x y : List Nat} (hx : x.all (· < 256) = true) (hy : y.all (· < 256) = true) : (x.map UInt8.ofNat == y.map UInt8.ofNat) = eqL x y := by
  rw [← strOf_toList, ← strOf_toList, beq_str hx hy]
theorem less_str : ∀ {x y : List Nat}, x.all (· < 256) = true → y.all (· < 256) = true → Op.bytesLess (x.map UInt8.ofNat) (y.map UInt8.ofNat) = lexL x y
  | _, [], _, _ => by simp [Op.bytesLess, lexL]
  | [], _ :: _, _, _ => by simp [Op.bytesLess, lexL]
  | a :: x, b :: y, hx, hy => by
    simp only [List.all_cons, Bool.and_eq_true, decide_eq_true_eq] at hx hy
    simp only [List.map_cons, Op.bytesLess, lexL, less_str hx.2 hy.2]
    have h1 : decide (UInt8.ofNat a < UInt8.ofNat b) = Nat.blt a b := by
      rw [Bool.eq_iff_iff, Nat.blt_eq]
      simp [UInt8.lt_iff_toNat_lt, UInt8.toNat_ofNat', Nat.mod_eq_of_lt hx.1, Nat.mod_eq_of_lt hy.1]
    have h2 : (UInt8.ofNat a == UInt8.ofNat b) = Nat.beq a b := by
      rw [Bool.eq_iff_iff, Nat.beq_eq]
      simp only [beq_iff_eq]
      exact ⟨ofNat_inj hx.1 hy.1, fun h => by rw [h]⟩
    rw [h1, h2]
theorem conc_str {ρ : Ren} {l : List Nat} {u : Value} (h : conc ρ (.str l) = some u) : l.all (· < 256) = true ∧ u = .string (strOf l) := by
  unfold conc at h
  split at h
  · rename_i hl; exact ⟨hl, by injection h with h; exact h.symm⟩
  · cases h
theorem str_conc {ρ : Ren} {l : List Nat} (h : l.all (· < 256) = true) : conc ρ (.str l) = some (.string (strOf l)) := by
  unfold conc; rw [if_pos h]
theorem strOf_append (x y : List Nat) : strOf x ++ strOf y = strOf (x ++ y) := by
  apply ByteArray.ext
  simp [strOf]
theorem binS_run {P : Program} {ρ : Ren} {op : BinOp} {x y : List Nat} {v : AV} (hx : x.all (· < 256) = true) (hy : y.all (· < 256) = true) (h : binS op x y = some v) :
    ∃ u, conc ρ v = some u ∧ ∀ w, (Op.stringOp op (strOf x) (strOf y)).run P w = .ok u w := by
  unfold binS at h
  split at h
  · split at h
    · rename_i hl
      injection h with h
      subst h
      refine ⟨_, str_conc (by rw [List.all_append, hx, hy]; rfl), fun w => ?_⟩
      have hk : ¬ (((strOf x).size + (strOf y).size : Nat) : Int) > IntKind.i64.max := by
        rw [strOf_size, strOf_size]
        have : IntKind.i64.max = 9223372036854775807 := by decide
        omega
      simp only [Op.stringOp, if_neg hk, strOf_append]
      rfl
    · cases h
  all_goals first
    | (cases h; done)
    | (injection h with h; subst h; refine ⟨_, rfl, fun w => ?_⟩; simp only [Op.stringOp, strOf_toList, beq_map hx hy, less_str hx hy]; rfl)
theorem binI_run {P : Program} {ρ : Ren} {op : BinOp} {k : IntKind} {t : TypeId} {x y : Int} {v : AV} (h : binI op k x y = some v) :
    ∃ u, conc ρ v = some u ∧ ∀ w, (binOp op t (.int k x) (.int k y)).run P w = .ok u w := by
  unfold binI at h
  split at h
  all_goals first
    | (cases h; done)
    | (injection h with h; subst h; refine ⟨_, rfl, fun w => ?_⟩; simp [binOp, Op.intArith, Op.intCmp, Op.intBits]; done)
    | (split at h <;> first | (cases h; done) | (rename_i hy; injection h with h; subst h; refine ⟨_, rfl, fun w => ?_⟩; simp [binOp, Op.intDiv, hy]; done))
def shI (op : BinOp) (k : IntKind) (x y : Int) : Option AV :=
  if y < 0 then none else
  match op with
  | .shl => some (.int k (k.wrap (x * 2 ^ (min y.toNat k.bits))))
  | .shr => some (.int k (x.fdiv (2 ^ (min y.toNat k.bits))))
  | _ => none
theorem shI_run {P : Program} {ρ : Ren} {op : BinOp} {k j : IntKind} {t : TypeId} {x y : Int} {v : AV} (h : shI op k x y = some v) :
    ∃ u, conc ρ v = some u ∧ ∀ w, (binOp op t (.int k x) (.int j y)).run P w = .ok u w := by
  unfold shI at h
  split at h
  · cases h
  · rename_i hy
    split at h
    all_goals first
      | (cases h; done)
      | (injection h with h; subst h; refine ⟨_, rfl, fun w => ?_⟩; simp [binOp, Op.shift, hy])
end Go.Proofs.Ytlpnhikoipkjbaa.Abs
