/- Several texts in one: A B C D E F G. -/
import GoSem.Core.World
import GoSem.Dispatch
import Derived.Handy
import Derived.WalkKit
import Derived.WalkSpells
import Derived.Laws.Strings
import Derived.Laws.StructEq
import Derived.Laws.Tables
import Derived.Lib.UnsafeStr
/- Tries over binary numbers; abstract values and what they stand for. No program in sight. No conditions. -/
section
set_option linter.unusedVariables false
namespace Go.Proofs.YthggliknnmhbdaaGreat.Abs
inductive Pos where
  | h | o (p : Pos) | i (p : Pos)
  deriving DecidableEq
namespace Pos
def nat : Pos → Nat
  | h => 1 | o p => 2 * p.nat | i p => 2 * p.nat + 1
def succ : Pos → Pos
  | h => o h | o p => i p | i p => o p.succ
theorem nat_succ : ∀ p : Pos, p.succ.nat = p.nat + 1
  | h => rfl
  | o _ => rfl
  | i p => by simp [succ, nat, nat_succ p]; omega
theorem nat_pos : ∀ p : Pos, 0 < p.nat
  | h => by simp [nat]
  | o p => by have := nat_pos p; simp [nat]; omega
  | i p => by simp [nat]
theorem nat_inj : ∀ {p q : Pos}, p.nat = q.nat → p = q
  | h, h, _ => rfl
  | h, o q, e => by have := nat_pos q; simp [nat] at e; omega
  | h, i q, e => by have := nat_pos q; simp [nat] at e; omega
  | o p, h, e => by have := nat_pos p; simp [nat] at e; omega
  | i p, h, e => by have := nat_pos p; simp [nat] at e; omega
  | o p, o q, e => by rw [nat_inj (p := p) (q := q) (by simp [nat] at e; omega)]
  | i p, i q, e => by rw [nat_inj (p := p) (q := q) (by simp [nat] at e; omega)]
  | o p, i q, e => by simp [nat] at e; omega
  | i p, o q, e => by simp [nat] at e; omega
noncomputable def ofN (f : Nat) : Nat → Pos :=
  Nat.rec (motive := fun _ => Nat → Pos) (fun _ => .h) (fun _ ih n => Bool.rec (motive := fun _ => Pos) (Bool.rec (motive := fun _ => Pos) (.i (ih (Nat.div n 2))) (.o (ih (Nat.div n 2))) (Nat.beq (Nat.mod n 2) 0)) .h (Nat.ble n 1)) f
theorem ofN_succ (f n : Nat) : ofN (f + 1) n = bif Nat.ble n 1 then .h else bif Nat.beq (Nat.mod n 2) 0 then .o (ofN f (n / 2)) else .i (ofN f (n / 2)) := by
  show Bool.rec (motive := fun _ => Pos) (Bool.rec (motive := fun _ => Pos) (Pos.i (ofN f (n / 2))) (.o (ofN f (n / 2))) (Nat.beq (Nat.mod n 2) 0)) .h (Nat.ble n 1) = _
  cases Nat.ble n 1 <;> cases Nat.beq (Nat.mod n 2) 0 <;> rfl
theorem nat_ofN : ∀ (f n : Nat), 1 ≤ n → n ≤ f → (ofN f n).nat = n
  | 0, n, h1, h2 => by omega
  | f + 1, n, h1, h2 => by
    rw [ofN_succ]
    cases hb : Nat.ble n 1 with
    | true =>
      have : n ≤ 1 := Nat.le_of_ble_eq_true hb
      simp only [cond_true, nat]; omega
    | false =>
      have hn : 2 ≤ n := by
        rcases Nat.lt_or_ge 1 n with h | h
        · omega
        · rw [Nat.ble_eq_true_of_le h] at hb; cases hb
      have ih := nat_ofN f (n / 2) (by omega) (by omega)
      cases he : Nat.beq (Nat.mod n 2) 0 with
      | true =>
        have : n % 2 = 0 := Nat.eq_of_beq_eq_true he
        simp only [cond_false, cond_true, nat, ih]; omega
      | false =>
        have : n % 2 ≠ 0 := fun e => by
          have : Nat.beq (n % 2) 0 = true := by rw [e]; rfl
          rw [show Nat.mod n 2 = n % 2 from rfl, this] at he; cases he
        simp only [cond_false, nat, ih]; omega
end Pos
/-- a key's place -/
noncomputable def pk (k : Nat) : Pos := Pos.ofN (Nat.succ k) (Nat.succ k)
theorem pk_nat (k : Nat) : (pk k).nat = k + 1 := Pos.nat_ofN _ _ (by omega) (by omega)
theorem pk_inj {j k : Nat} (h : pk j = pk k) : j = k := by
  have := congrArg Pos.nat h
  rw [pk_nat, pk_nat] at this
  omega
inductive PT (α : Type) where
  | lf | nd (l : PT α) (v : Option α) (r : PT α)
namespace PT
variable {α : Type}
noncomputable def get (p : Pos) : PT α → Option α :=
  Pos.rec (motive := fun _ => PT α → Option α)
    (fun t => PT.rec (motive := fun _ => Option α) none (fun _ v _ _ _ => v) t)
    (fun _ ih t => PT.rec (motive := fun _ => Option α) none (fun l _ _ _ _ => ih l) t)
    (fun _ ih t => PT.rec (motive := fun _ => Option α) none (fun _ _ r _ _ => ih r) t) p
/-- strict: the tree with x at p, handed on -/
noncomputable def setK {R : Type} (x : α) (p : Pos) : PT α → (PT α → R) → R :=
  Pos.rec (motive := fun _ => PT α → (PT α → R) → R)
    (fun t k => PT.rec (motive := fun _ => R) (k (.nd .lf (some x) .lf)) (fun l _ r _ _ => k (.nd l (some x) r)) t)
    (fun _ ih t k => PT.rec (motive := fun _ => R) (ih .lf fun l => k (.nd l none .lf)) (fun l v r _ _ => ih l fun l => k (.nd l v r)) t)
    (fun _ ih t k => PT.rec (motive := fun _ => R) (ih .lf fun r => k (.nd .lf none r)) (fun l v r _ _ => ih r fun r => k (.nd l v r)) t) p
noncomputable def set (x : α) (p : Pos) (t : PT α) : PT α := setK x p t id
/-- strict: only where there is something already -/
noncomputable def updK {R : Type} (x : α) (p : Pos) : PT α → (PT α → Option R) → Option R :=
  Pos.rec (motive := fun _ => PT α → (PT α → Option R) → Option R)
    (fun t k => PT.rec (motive := fun _ => Option R) none (fun l v r _ _ => Option.rec none (fun _ => k (.nd l (some x) r)) v) t)
    (fun _ ih t k => PT.rec (motive := fun _ => Option R) none (fun l v r _ _ => ih l fun l => k (.nd l v r)) t)
    (fun _ ih t k => PT.rec (motive := fun _ => Option R) none (fun l v r _ _ => ih r fun r => k (.nd l v r)) t) p
/-- strict: nothing at p any more -/
noncomputable def delK {R : Type} (p : Pos) : PT α → (PT α → R) → R :=
  Pos.rec (motive := fun _ => PT α → (PT α → R) → R)
    (fun t k => PT.rec (motive := fun _ => R) (k .lf) (fun l _ r _ _ => k (.nd l none r)) t)
    (fun _ ih t k => PT.rec (motive := fun _ => R) (k .lf) (fun l v r _ _ => ih l fun l => k (.nd l v r)) t)
    (fun _ ih t k => PT.rec (motive := fun _ => R) (k .lf) (fun l v r _ _ => ih r fun r => k (.nd l v r)) t) p
noncomputable def del (p : Pos) (t : PT α) : PT α := delK p t id
theorem get_lf (p : Pos) : get p (.lf : PT α) = none := by cases p <;> rfl
@[simp] theorem get_h (l r : PT α) (v) : get .h (.nd l v r) = v := rfl
@[simp] theorem get_o (l r : PT α) (v) (p) : get (.o p) (.nd l v r) = get p l := rfl
@[simp] theorem get_i (l r : PT α) (v) (p) : get (.i p) (.nd l v r) = get p r := rfl
theorem setK_eq {R : Type} (x : α) : ∀ (p : Pos) (t : PT α) (k : PT α → R), setK x p t k = k (set x p t)
  | .h, .lf, _ => rfl
  | .h, .nd _ _ _, _ => rfl
  | .o p, .lf, k => (setK_eq x p .lf _).trans (congrArg k (setK_eq x p .lf (fun l => PT.nd l none .lf)).symm)
  | .o p, .nd l v r, k => (setK_eq x p l _).trans (congrArg k (setK_eq x p l (fun l => PT.nd l v r)).symm)
  | .i p, .lf, k => (setK_eq x p .lf _).trans (congrArg k (setK_eq x p .lf (fun r => PT.nd .lf none r)).symm)
  | .i p, .nd l v r, k => (setK_eq x p r _).trans (congrArg k (setK_eq x p r (fun r => PT.nd l v r)).symm)
theorem set_o_lf (x : α) (p : Pos) : set x (.o p) .lf = .nd (set x p .lf) none .lf := setK_eq x p .lf (fun l => PT.nd l none .lf)
theorem set_o_nd (x : α) (p : Pos) (l v r) : set x (.o p) (.nd l v r) = .nd (set x p l) v r := setK_eq x p l (fun l => PT.nd l v r)
theorem set_i_lf (x : α) (p : Pos) : set x (.i p) .lf = .nd .lf none (set x p .lf) := setK_eq x p .lf (fun r => PT.nd .lf none r)
theorem set_i_nd (x : α) (p : Pos) (l v r) : set x (.i p) (.nd l v r) = .nd l v (set x p r) := setK_eq x p r (fun r => PT.nd l v r)
theorem get_set (x : α) : ∀ (p q : Pos) (t : PT α), get q (set x p t) = if q = p then some x else get q t
  | .h, .h, .lf => rfl
  | .h, .h, .nd _ _ _ => rfl
  | .h, .o q, .lf => by simp [show set x .h (.lf : PT α) = .nd .lf (some x) .lf from rfl, get_lf]
  | .h, .o q, .nd l v r => by simp [show set x .h (.nd l v r) = .nd l (some x) r from rfl]
  | .h, .i q, .lf => by simp [show set x .h (.lf : PT α) = .nd .lf (some x) .lf from rfl, get_lf]
  | .h, .i q, .nd l v r => by simp [show set x .h (.nd l v r) = .nd l (some x) r from rfl]
  | .o p, .h, .lf => by simp [set_o_lf, get_lf]
  | .o p, .h, .nd l v r => by simp [set_o_nd]
  | .o p, .o q, .lf => by simp [set_o_lf, get_lf, get_set x p q .lf]
  | .o p, .o q, .nd l v r => by simp [set_o_nd, get_set x p q l]
  | .o p, .i q, .lf => by simp [set_o_lf, get_lf]
  | .o p, .i q, .nd l v r => by simp [set_o_nd]
  | .i p, .h, .lf => by simp [set_i_lf, get_lf]
  | .i p, .h, .nd l v r => by simp [set_i_nd]
  | .i p, .o q, .lf => by simp [set_i_lf, get_lf]
  | .i p, .o q, .nd l v r => by simp [set_i_nd]
  | .i p, .i q, .lf => by simp [set_i_lf, get_lf, get_set x p q .lf]
  | .i p, .i q, .nd l v r => by simp [set_i_nd, get_set x p q r]
theorem updK_some {R : Type} (x : α) : ∀ (p : Pos) (t : PT α) (k : PT α → Option R) (r : R), updK x p t k = some r → (∃ y, get p t = some y) ∧ k (set x p t) = some r
  | .h, .lf, k, r, e => by cases e
  | .h, .nd _ none _, k, r, e => by cases e
  | .h, .nd _ (some y) _, k, r, e => ⟨⟨y, rfl⟩, e⟩
  | .o p, .lf, k, r, e => by cases e
  | .o p, .nd l v rr, k, r, e => by
    have := updK_some x p l (fun l => k (.nd l v rr)) r e
    rw [set_o_nd]; exact this
  | .i p, .lf, k, r, e => by cases e
  | .i p, .nd l v rr, k, r, e => by
    have := updK_some x p rr (fun r => k (.nd l v r)) r e
    rw [set_i_nd]; exact this
theorem delK_eq {R : Type} : ∀ (p : Pos) (t : PT α) (k : PT α → R), delK p t k = k (del p t)
  | .h, .lf, _ => rfl
  | .h, .nd _ _ _, _ => rfl
  | .o p, .lf, k => rfl
  | .o p, .nd l v r, k => (delK_eq p l _).trans (congrArg k (delK_eq p l (fun l => PT.nd l v r)).symm)
  | .i p, .lf, k => rfl
  | .i p, .nd l v r, k => (delK_eq p r _).trans (congrArg k (delK_eq p r (fun r => PT.nd l v r)).symm)
theorem del_o_nd (p : Pos) (l : PT α) (v r) : del (.o p) (.nd l v r) = .nd (del p l) v r := delK_eq p l (fun l => PT.nd l v r)
theorem del_i_nd (p : Pos) (l : PT α) (v r) : del (.i p) (.nd l v r) = .nd l v (del p r) := delK_eq p r (fun r => PT.nd l v r)
theorem get_del : ∀ (p q : Pos) (t : PT α), get q (del p t) = if q = p then none else get q t
  | .h, q, .lf => by simp [show del .h (.lf : PT α) = .lf from rfl, get_lf]
  | .o _, q, .lf => by simp [show del (.o _) (.lf : PT α) = .lf from rfl, get_lf]
  | .i _, q, .lf => by simp [show del (.i _) (.lf : PT α) = .lf from rfl, get_lf]
  | .h, .h, .nd _ _ _ => rfl
  | .h, .o q, .nd l v r => by simp [show del .h (.nd l v r) = .nd l none r from rfl]
  | .h, .i q, .nd l v r => by simp [show del .h (.nd l v r) = .nd l none r from rfl]
  | .o p, .h, .nd l v r => by simp [del_o_nd]
  | .o p, .o q, .nd l v r => by simp [del_o_nd, get_del p q l]
  | .o p, .i q, .nd l v r => by simp [del_o_nd]
  | .i p, .h, .nd l v r => by simp [del_i_nd]
  | .i p, .o q, .nd l v r => by simp [del_i_nd]
  | .i p, .i q, .nd l v r => by simp [del_i_nd, get_del p q r]
end PT

inductive AV where
  | int (k : IntKind) (n : Int)
  | bool (b : Bool)
  | str (l : List Nat)
  | nilp | nils | nilm | nilf | nili
  | ptr (b : Pos) (o : Nat)
  | slc (b : Pos) (o len cap : Nat) (ex : Bool)
  | slz (b : Pos) (o p : Nat)
  | map (b : Pos)
  | fn (f : FuncId) (first captured : List AV)
  | agg (l : List AV)
  | tup (l : List AV)
  | ifc (t : TypeId) (v : AV)
  | sym (j : Nat)
  | yld (b : Pos)
  | res (j : Nat) (k : IntKind) (m r : Nat)
/-- Where an abstract block lies: the block, how far it is shifted, how many elements more it has. -/
structure Ren where
  at_ : Pos → Option (Nat × Nat × Nat)
  sy : Nat → Value
  one : ∀ j, ∀ cs, sy j ≠ .agg cs ∧ sy j ≠ .tuple cs
def strOf (l : List Nat) : ByteArray := ⟨(l.map UInt8.ofNat).toArray⟩
mutual
def conc (ρ : Ren) : AV → Option Value
  | .yld b => match ρ.at_ b with | some (k, _, _) => some (.func (.yield k) #[] #[]) | none => none
  | .int k n => some (.int k n)
  | .bool b => some (.bool b)
  | .str l => if l.all (· < 256) then some (.string (strOf l)) else none
  | .nilp => some (.pointer none)
  | .nils => some (.slice none 0 0)
  | .nilm => some (.map none)
  | .nilf => some .nilFunc
  | .nili => some .nilIface
  | .ptr b o => match ρ.at_ b with | some (k, d, _) => some (.pointer (some ⟨k, d + o, none⟩)) | none => none
  | .slc b o len cap ex => match ρ.at_ b with | some (k, d, x) => some (.slice (some ⟨k, d + o, none⟩) len (if ex then cap else cap + x)) | none => none
  | .slz b o p => match ρ.at_ b with | some (k, d, x) => some (if x = 0 then .slice (some ⟨k, d + p, none⟩) 0 0 else .slice (some ⟨k, d + o, none⟩) 0 x) | none => none
  | .map b => match ρ.at_ b with | some (k, _, _) => some (.map (some k)) | none => none
  | .fn f first captured => match concs ρ first, concs ρ captured with | some x, some y => some (.func (.func f) x.toArray y.toArray) | _, _ => none
  | .agg l => match concs ρ l with | some x => some (.agg x.toArray) | none => none
  | .tup l => match concs ρ l with | some x => some (.tuple x.toArray) | none => none
  | .ifc t v => match conc ρ v with | some x => some (.iface t x) | none => none
  | .sym j => some (ρ.sy j)
  | .res j k m r => match ρ.sy j with | .int k' x => if k' = k ∧ 0 ≤ x ∧ x % (m : Int) = (r : Int) then some (.int k x) else none | _ => none
def concs (ρ : Ren) : List AV → Option (List Value)
  | [] => some []
  | v :: l => match conc ρ v, concs ρ l with | some x, some xs => some (x :: xs) | _, _ => none
end
/-- ρ' says all that ρ says. -/
structure Ren.le (ρ ρ' : Ren) : Prop where
  at_ : ∀ b x, ρ.at_ b = some x → ρ'.at_ b = some x
  sy : ρ'.sy = ρ.sy
theorem Ren.le.refl (ρ : Ren) : ρ.le ρ := ⟨fun _ _ h => h, rfl⟩
theorem Ren.le.trans {a b c : Ren} (h : a.le b) (k : b.le c) : a.le c := ⟨fun b x e => k.at_ b x (h.at_ b x e), k.sy.trans h.sy⟩
mutual
theorem conc_le {ρ ρ' : Ren} (h : ρ.le ρ') : ∀ (v : AV) {x : Value}, conc ρ v = some x → conc ρ' v = some x
  | .int .., _, e => e
  | .bool .., _, e => e
  | .str .., _, e => e
  | .nilp, _, e => e
  | .nils, _, e => e
  | .nilm, _, e => e
  | .nilf, _, e => e
  | .nili, _, e => e
  | .ptr b o, x, e => by
    unfold conc at e ⊢
    split at e
    · rename_i hb; rw [h.at_ _ _ hb]; exact e
    · cases e
  | .slc b o len cap ex, x, e => by
    unfold conc at e ⊢
    split at e
    · rename_i hb; rw [h.at_ _ _ hb]; exact e
    · cases e
  | .slz b o p, x, e => by
    unfold conc at e ⊢
    split at e
    · rename_i hb; rw [h.at_ _ _ hb]; exact e
    · cases e
  | .map b, x, e => by
    unfold conc at e ⊢
    split at e
    · rename_i hb; rw [h.at_ _ _ hb]; exact e
    · cases e
  | .fn f first captured, x, e => by
    unfold conc at e ⊢
    split at e
    · rename_i h1 h2; rw [concs_le h _ h1, concs_le h _ h2]; exact e
    · cases e
  | .agg l, x, e => by
    unfold conc at e ⊢
    split at e
    · rename_i h1; rw [concs_le h _ h1]; exact e
    · cases e
  | .tup l, x, e => by
    unfold conc at e ⊢
    split at e
    · rename_i h1; rw [concs_le h _ h1]; exact e
    · cases e
  | .ifc t v, x, e => by
    unfold conc at e ⊢
    split at e
    · rename_i h1; rw [conc_le h _ h1]; exact e
    · cases e
  | .sym j, x, e => by
    unfold conc at e ⊢
    rw [h.sy]; exact e
  | .res j k m r, x, e => by
    unfold conc at e ⊢
    rw [h.sy]; exact e
  | .yld b, x, e => by
    unfold conc at e ⊢
    split at e
    · rename_i hb; rw [h.at_ _ _ hb]; exact e
    · cases e
theorem concs_le {ρ ρ' : Ren} (h : ρ.le ρ') : ∀ (l : List AV) {xs : List Value}, concs ρ l = some xs → concs ρ' l = some xs
  | [], _, e => e
  | v :: l, xs, e => by
    unfold concs at e ⊢
    split at e
    · rename_i h1 h2; rw [conc_le h _ h1, concs_le h _ h2]; exact e
    · cases e
end
end Go.Proofs.YthggliknnmhbdaaGreat.Abs
end
/- Pure operations on abstract values, and that they are the model's. No conditions. -/
section
set_option linter.unusedVariables false
namespace Go.Proofs.YthggliknnmhbdaaGreat.Abs
open Go
/-- Slots: what the frame is known to hold. -/
def Slots (ρ : Ren) (a : PT AV) (A : Act) : Prop := ∀ t v, PT.get (pk t) a = some v → ∃ x, conc ρ v = some x ∧ A.tmps[t]? = some x
theorem Slots.le {ρ ρ' : Ren} {a : PT AV} {A : Act} (h : Slots ρ a A) (hl : ρ.le ρ') : Slots ρ' a A := fun t v e => let ⟨x, h1, h2⟩ := h t v e; ⟨x, conc_le hl v h1, h2⟩
theorem Slots.put {ρ : Ren} {a : PT AV} {A : Act} (h : Slots ρ a A) {d : Nat} {v : AV} {x : Value} (hx : conc ρ v = some x) (hd : ∃ y, PT.get (pk d) a = some y) :
    Slots ρ (PT.set v (pk d) a) (A.put (some d) x) := by
  intro t u e
  rw [PT.get_set] at e
  obtain ⟨y, hy⟩ := hd
  obtain ⟨y', _, hyt⟩ := h d y hy
  have hlt : d < A.tmps.size := (Array.getElem?_eq_some_iff.1 hyt).1
  by_cases ht : t = d
  · subst ht
    rw [if_pos rfl] at e
    injection e with e
    subst e
    exact ⟨x, hx, by simp [Act.put, hlt]⟩
  · rw [if_neg (fun e' => ht (pk_inj e'))] at e
    obtain ⟨z, h1, h2⟩ := h t u e
    refine ⟨z, h1, ?_⟩
    simp only [Act.put]
    rw [Array.getElem?_setIfInBounds_ne (fun e' => ht e'.symm)]
    exact h2

def mapO {α β : Type} (f : α → Option β) : List α → Option (List β)
  | [] => some []
  | x :: l => match f x, mapO f l with | some y, some ys => some (y :: ys) | _, _ => none
/-- values that hold no pointer -/
def ofV : Nat → Value → Option AV
  | 0, _ => none
  | n + 1, v => match v with
    | .int k i => some (.int k i)
    | .bool b => some (.bool b)
    | .string s => some (.str (s.data.toList.map UInt8.toNat))
    | .pointer none => some .nilp
    | .slice none 0 0 => some .nils
    | .map none => some .nilm
    | .nilFunc => some .nilf
    | .nilIface => some .nili
    | .agg cs => (mapO (ofV n) cs.toList).map .agg
    | .tuple cs => (mapO (ofV n) cs.toList).map .tup
    | .func (.func f) x y => match mapO (ofV n) x.toList, mapO (ofV n) y.toList with | some x, some y => some (.fn f x y) | _, _ => none
    | .iface t v => (ofV n v).map (.ifc t)
    | _ => none
theorem strOf_data (s : ByteArray) : strOf (s.data.toList.map UInt8.toNat) = s := by
  cases s with
  | mk d => simp [strOf, Function.comp_def]
theorem all_lt (s : ByteArray) : (s.data.toList.map UInt8.toNat).all (· < 256) = true := by
  simp only [List.all_map, List.all_eq_true]
  intro x _
  simpa using UInt8.toNat_lt x
theorem mapM_concs {f : Value → Option AV} {ρ : Ren} (hf : ∀ v a, f v = some a → conc ρ a = some v) : ∀ (l : List Value) {xs : List AV}, mapO f l = some xs → concs ρ xs = some l
  | [], xs, e => by cases e; rfl
  | v :: l, xs, e => by
    unfold mapO at e
    split at e
    · rename_i h1 h2
      injection e with e
      subst e
      simp only [concs, hf v _ h1, mapM_concs hf l h2]
    · cases e
theorem ofV_conc (ρ : Ren) : ∀ (n : Nat) (v : Value) {a : AV}, ofV n v = some a → conc ρ a = some v := by
  intro n
  induction n with
  | zero => intro v a e; cases e
  | succ n ih =>
    intro v a e
    unfold ofV at e
    split at e
    all_goals first
      | (injection e with e; subst e; first | rfl | (simp only [conc, all_lt, if_true, strOf_data]))
      | cases e
      | skip
    · obtain ⟨l, hl, rfl⟩ := Option.map_eq_some_iff.1 e
      simp only [conc, mapM_concs ih _ hl]
    · obtain ⟨l, hl, rfl⟩ := Option.map_eq_some_iff.1 e
      simp only [conc, mapM_concs ih _ hl]
    · split at e
      · rename_i h1 h2
        injection e with e
        subst e
        simp only [conc, mapM_concs ih _ h1, mapM_concs ih _ h2]
      · cases e
    · obtain ⟨l, hl, rfl⟩ := Option.map_eq_some_iff.1 e
      simp only [conc, ih _ hl]

noncomputable def ev (a : PT AV) : Operand → Option AV
  | .tmp t => PT.get (pk t) a
  | .const v => ofV 8 v
  | .global _ => none
  | .func f => some (.fn f [] [])
theorem ev_conc {ρ : Ren} {a : PT AV} {A : Act} (h : Slots ρ a A) {x : Operand} {v : AV} (e : ev a x = some v) : ∃ u, conc ρ v = some u ∧ A.eval x = u := by
  cases x with
  | tmp t =>
    obtain ⟨u, h1, h2⟩ := h t v e
    exact ⟨u, h1, by simp [Act.eval, h2]⟩
  | const c => exact ⟨c, ofV_conc ρ 8 c e, rfl⟩
  | global g => cases e
  | func f => injection e with e; subst e; exact ⟨_, rfl, rfl⟩

section types
variable (P : Program)
def aggT (t : TypeId) : Option Bool := match P.underlying t with | some (.struct _) => some true | some (.array _ _) => some true | some _ => some false | none => none
def sizeT (t : TypeId) : Option Nat := match P.info? t with | some i => some i.size | none => none
end types
section
variable {P : Program} {w : World}
theorem run_isAgg {t : TypeId} {b : Bool} (h : aggT P t = some b) : (isAgg t).run P w = .ok b w := by
  unfold aggT at h
  cases hu : P.underlying t with
  | none => rw [hu] at h; cases h
  | some d => rw [hu] at h; cases d <;> simp at h <;> subst h <;> simp [isAgg, run_underlying hu]
theorem run_sizeOf {t : TypeId} {n : Nat} (h : sizeT P t = some n) : (sizeOf t).run P w = .ok n w := by
  unfold sizeT at h
  cases hi : P.info? t with
  | none => rw [hi] at h; cases h
  | some i => rw [hi] at h; simp at h; subst h; simp [sizeOf, typeInfo, hi]
end

/-- integers -/
def binI (op : BinOp) (k : IntKind) (x y : Int) : Option AV :=
  match op with
  | .add => some (.int k (k.wrap (x + y)))
  | .sub => some (.int k (k.wrap (x - y)))
  | .mul => some (.int k (k.wrap (x * y)))
  | .eql => some (.bool (x == y))
  | .neq => some (.bool (x != y))
  | .lss => some (.bool (x < y))
  | .leq => some (.bool (x ≤ y))
  | .gtr => some (.bool (x > y))
  | .geq => some (.bool (x ≥ y))
  | .quo => if y = 0 then none else some (.int k (k.wrap (x.tdiv y)))
  | .rem => if y = 0 then none else some (.int k (x.tmod y))
  | .and => some (.int k (k.wrap ((BitVec.ofInt k.bits x &&& BitVec.ofInt k.bits y).toNat)))
  | .or => some (.int k (k.wrap ((BitVec.ofInt k.bits x ||| BitVec.ofInt k.bits y).toNat)))
  | .xor => some (.int k (k.wrap ((BitVec.ofInt k.bits x ^^^ BitVec.ofInt k.bits y).toNat)))
  | .andNot => some (.int k (k.wrap ((BitVec.ofInt k.bits x &&& ~~~ BitVec.ofInt k.bits y).toNat)))
  | _ => none
def lexL : List Nat → List Nat → Bool
  | _, [] => false
  | [], _ :: _ => true
  | a :: x, b :: y => Nat.blt a b || (Nat.beq a b && lexL x y)
def eqL : List Nat → List Nat → Bool
  | [], [] => true
  | a :: x, b :: y => Nat.beq a b && eqL x y
  | _, _ => false
def binS (op : BinOp) (x y : List Nat) : Option AV :=
  match op with
  | .add => if x.length + y.length < 1099511627776 then some (.str (x ++ y)) else none
  | .eql => some (.bool (eqL x y))
  | .neq => some (.bool (!eqL x y))
  | .lss => some (.bool (lexL x y))
  | .leq => some (.bool (lexL x y || eqL x y))
  | .gtr => some (.bool !(lexL x y || eqL x y))
  | .geq => some (.bool !(lexL x y))
  | _ => none
theorem eqL_eq : ∀ (x y : List Nat), eqL x y = decide (x = y)
  | [], [] => rfl
  | [], _ :: _ => rfl
  | _ :: _, [] => rfl
  | a :: x, b :: y => by
    unfold eqL
    rw [eqL_eq x y]
    rw [Bool.eq_iff_iff]
    simp [Nat.beq_eq]
theorem strOf_toList (l : List Nat) : (strOf l).toList = l.map UInt8.ofNat := by
  rw [ByteArray.toList_eq]; simp [strOf]
theorem strOf_size (l : List Nat) : (strOf l).size = l.length := by simp [strOf, ByteArray.size]
theorem ofNat_inj {a b : Nat} (ha : a < 256) (hb : b < 256) (h : UInt8.ofNat a = UInt8.ofNat b) : a = b := by
  have := congrArg UInt8.toNat h
  simpa [UInt8.toNat_ofNat', Nat.mod_eq_of_lt ha, Nat.mod_eq_of_lt hb] using this
theorem map_inj : ∀ {x y : List Nat}, x.all (· < 256) = true → y.all (· < 256) = true → x.map UInt8.ofNat = y.map UInt8.ofNat → x = y
  | [], [], _, _, _ => rfl
  | [], _ :: _, _, _, h => by simp at h
  | _ :: _, [], _, _, h => by simp at h
  | a :: x, b :: y, hx, hy, h => by
    simp only [List.all_cons, Bool.and_eq_true, decide_eq_true_eq] at hx hy
    simp only [List.map_cons, List.cons.injEq] at h
    rw [ofNat_inj hx.1 hy.1 h.1, map_inj hx.2 hy.2 h.2]
theorem beq_str {x y : List Nat} (hx : x.all (· < 256) = true) (hy : y.all (· < 256) = true) : ((strOf x).toList == (strOf y).toList) = eqL x y := by
  rw [strOf_toList, strOf_toList, eqL_eq, Bool.eq_iff_iff]
  simp only [beq_iff_eq, decide_eq_true_eq]
  exact ⟨map_inj hx hy, fun h => by rw [h]⟩
theorem beq_map {x y : List Nat} (hx : x.all (· < 256) = true) (hy : y.all (· < 256) = true) : (x.map UInt8.ofNat == y.map UInt8.ofNat) = eqL x y := by
  rw [← strOf_toList, ← strOf_toList, beq_str hx hy]
theorem less_str : ∀ {x y : List Nat}, x.all (· < 256) = true → y.all (· < 256) = true → Op.bytesLess (x.map UInt8.ofNat) (y.map UInt8.ofNat) = lexL x y
  | _, [], _, _ => by simp [Op.bytesLess, lexL]
  | [], _ :: _, _, _ => by simp [Op.bytesLess, lexL]
  | a :: x, b :: y, hx, hy => by
    simp only [List.all_cons, Bool.and_eq_true, decide_eq_true_eq] at hx hy
    simp only [List.map_cons, Op.bytesLess, lexL, less_str hx.2 hy.2]
    have h1 : decide (UInt8.ofNat a < UInt8.ofNat b) = Nat.blt a b := by
      rw [Bool.eq_iff_iff, Nat.blt_eq]
      simp [UInt8.lt_iff_toNat_lt, UInt8.toNat_ofNat', Nat.mod_eq_of_lt hx.1, Nat.mod_eq_of_lt hy.1]
    have h2 : (UInt8.ofNat a == UInt8.ofNat b) = Nat.beq a b := by
      rw [Bool.eq_iff_iff, Nat.beq_eq]
      simp only [beq_iff_eq]
      exact ⟨ofNat_inj hx.1 hy.1, fun h => by rw [h]⟩
    rw [h1, h2]
theorem conc_str {ρ : Ren} {l : List Nat} {u : Value} (h : conc ρ (.str l) = some u) : l.all (· < 256) = true ∧ u = .string (strOf l) := by
  unfold conc at h
  split at h
  · rename_i hl; exact ⟨hl, by injection h with h; exact h.symm⟩
  · cases h
theorem str_conc {ρ : Ren} {l : List Nat} (h : l.all (· < 256) = true) : conc ρ (.str l) = some (.string (strOf l)) := by
  unfold conc; rw [if_pos h]
theorem strOf_append (x y : List Nat) : strOf x ++ strOf y = strOf (x ++ y) := by
  apply ByteArray.ext
  simp [strOf]
theorem binS_run {P : Program} {ρ : Ren} {op : BinOp} {x y : List Nat} {v : AV} (hx : x.all (· < 256) = true) (hy : y.all (· < 256) = true) (h : binS op x y = some v) :
    ∃ u, conc ρ v = some u ∧ ∀ w, (Op.stringOp op (strOf x) (strOf y)).run P w = .ok u w := by
  unfold binS at h
  split at h
  · split at h
    · rename_i hl
      injection h with h
      subst h
      refine ⟨_, str_conc (by rw [List.all_append, hx, hy]; rfl), fun w => ?_⟩
      have hk : ¬ (((strOf x).size + (strOf y).size : Nat) : Int) > IntKind.i64.max := by
        rw [strOf_size, strOf_size]
        have : IntKind.i64.max = 9223372036854775807 := by decide
        omega
      simp only [Op.stringOp, if_neg hk, strOf_append]
      rfl
    · cases h
  all_goals first
    | (cases h; done)
    | (injection h with h; subst h; refine ⟨_, rfl, fun w => ?_⟩; simp only [Op.stringOp, strOf_toList, beq_map hx hy, less_str hx hy]; rfl)
theorem binI_run {P : Program} {ρ : Ren} {op : BinOp} {k : IntKind} {t : TypeId} {x y : Int} {v : AV} (h : binI op k x y = some v) :
    ∃ u, conc ρ v = some u ∧ ∀ w, (binOp op t (.int k x) (.int k y)).run P w = .ok u w := by
  unfold binI at h
  split at h
  all_goals first
    | (cases h; done)
    | (injection h with h; subst h; refine ⟨_, rfl, fun w => ?_⟩; simp [binOp, Op.intArith, Op.intCmp, Op.intBits]; done)
    | (split at h <;> first | (cases h; done) | (rename_i hy; injection h with h; subst h; refine ⟨_, rfl, fun w => ?_⟩; simp [binOp, Op.intDiv, hy]; done))
def shI (op : BinOp) (k : IntKind) (x y : Int) : Option AV :=
  if y < 0 then none else
  match op with
  | .shl => some (.int k (k.wrap (x * 2 ^ (min y.toNat k.bits))))
  | .shr => some (.int k (x.fdiv (2 ^ (min y.toNat k.bits))))
  | _ => none
theorem shI_run {P : Program} {ρ : Ren} {op : BinOp} {k j : IntKind} {t : TypeId} {x y : Int} {v : AV} (h : shI op k x y = some v) :
    ∃ u, conc ρ v = some u ∧ ∀ w, (binOp op t (.int k x) (.int j y)).run P w = .ok u w := by
  unfold shI at h
  split at h
  · cases h
  · rename_i hy
    split at h
    all_goals first
      | (cases h; done)
      | (injection h with h; subst h; refine ⟨_, rfl, fun w => ?_⟩; simp [binOp, Op.shift, hy])
end Go.Proofs.YthggliknnmhbdaaGreat.Abs
end
/- More pure operations on abstract values: structs, places, slices; that they are the model's. No conditions. -/
section
set_option linter.unusedVariables false
namespace Go.Proofs.YthggliknnmhbdaaGreat.Abs
open Go
theorem concs_len {ρ : Ren} : ∀ {l : List AV} {xs : List Value}, concs ρ l = some xs → xs.length = l.length
  | [], xs, e => by cases e; rfl
  | v :: l, xs, e => by
    unfold concs at e
    split at e
    · rename_i h1 h2; injection e with e; subst e; simp [concs_len h2]
    · cases e
theorem concs_cons {ρ : Ren} {v : AV} {l : List AV} {xs : List Value} (e : concs ρ (v :: l) = some xs) : ∃ y ys, xs = y :: ys ∧ conc ρ v = some y ∧ concs ρ l = some ys := by
  unfold concs at e
  split at e
  · rename_i h1 h2; injection e with e; exact ⟨_, _, e.symm, h1, h2⟩
  · cases e
theorem concs_mk {ρ : Ren} {v : AV} {l : List AV} {y : Value} {ys : List Value} (h : conc ρ v = some y) (k : concs ρ l = some ys) : concs ρ (v :: l) = some (y :: ys) := by
  simp only [concs, h, k]
theorem concs_app {ρ : Ren} : ∀ {l m : List AV} {xs ys : List Value}, concs ρ l = some xs → concs ρ m = some ys → concs ρ (l ++ m) = some (xs ++ ys)
  | [], m, xs, ys, e, k => by cases e; exact k
  | v :: l, m, xs, ys, e, k => by
    obtain ⟨y, ys', rfl, h1, h2⟩ := concs_cons e
    exact concs_mk h1 (concs_app h2 k)
theorem concs_get {ρ : Ren} : ∀ {l : List AV} {xs : List Value} {i : Nat} {v : AV}, concs ρ l = some xs → l[i]? = some v → ∃ y, xs[i]? = some y ∧ conc ρ v = some y
  | [], xs, i, v, e, h => by simp at h
  | u :: l, xs, 0, v, e, h => by
    obtain ⟨y, ys', rfl, h1, h2⟩ := concs_cons e
    simp at h; subst h
    exact ⟨y, rfl, h1⟩
  | u :: l, xs, i + 1, v, e, h => by
    obtain ⟨y, ys', rfl, h1, h2⟩ := concs_cons e
    obtain ⟨z, hz1, hz2⟩ := concs_get (i := i) h2 (by simpa using h)
    exact ⟨z, by simpa using hz1, hz2⟩
theorem concs_take {ρ : Ren} : ∀ {l : List AV} {xs : List Value} (n : Nat), concs ρ l = some xs → concs ρ (l.take n) = some (xs.take n)
  | [], xs, n, e => by cases e; simp [concs]
  | u :: l, xs, 0, e => by simp [concs]
  | u :: l, xs, n + 1, e => by
    obtain ⟨y, ys', rfl, h1, h2⟩ := concs_cons e
    simpa using concs_mk h1 (concs_take n h2)
theorem concs_drop {ρ : Ren} : ∀ {l : List AV} {xs : List Value} (n : Nat), concs ρ l = some xs → concs ρ (l.drop n) = some (xs.drop n)
  | [], xs, n, e => by cases e; simp [concs]
  | u :: l, xs, 0, e => by simpa using e
  | u :: l, xs, n + 1, e => by
    obtain ⟨y, ys', rfl, h1, h2⟩ := concs_cons e
    simpa using concs_drop n h2
theorem concs_set {ρ : Ren} : ∀ {l : List AV} {xs : List Value} (i : Nat) {v : AV} {y : Value}, concs ρ l = some xs → conc ρ v = some y → concs ρ (l.set i v) = some (xs.set i y)
  | [], xs, i, v, y, e, h => by cases e; simp [concs]
  | u :: l, xs, 0, v, y, e, h => by
    obtain ⟨z, ys', rfl, h1, h2⟩ := concs_cons e
    exact concs_mk h h2
  | u :: l, xs, i + 1, v, y, e, h => by
    obtain ⟨z, ys', rfl, h1, h2⟩ := concs_cons e
    exact concs_mk h1 (concs_set i h2 h)
def cellsA : AV → List AV
  | .agg l => l
  | v => [v]
theorem cells_conc {ρ : Ren} {v : AV} {u : Value} (h : conc ρ v = some u) : concs ρ (cellsA v) = some u.cells.toList := by
  cases v with
  | agg l =>
    unfold conc at h
    split at h
    · rename_i h1; injection h with h; subst h; simpa [cellsA, Value.cells] using h1
    · cases h
  | _ =>
    have hu : ∀ cs, u ≠ .agg cs := by
      intro cs e
      subst e
      first
        | (unfold conc at h; injection h with h; exact (ρ.one _ cs).1 h)
        | (unfold conc at h; injection h with h; cases h; done)
        | (unfold conc at h; split at h <;> first | (cases h; done) | (split at h <;> cases h; done) | (injection h with h; split at h <;> cases h; done))
    have hc : u.cells = #[u] := by cases u <;> first | rfl | exact absurd rfl (hu _)
    rw [hc]
    exact concs_mk h rfl
theorem addr_add (k o n : Nat) : (⟨k, o, none⟩ : Addr).add n = ⟨k, o + n, none⟩ := by
  unfold Addr.add
  split
  · rename_i h; subst h; rfl
  · rfl
theorem conc_ptr {ρ : Ren} {b : Pos} {o : Nat} {u : Value} (h : conc ρ (.ptr b o) = some u) : ∃ k d x, ρ.at_ b = some (k, d, x) ∧ u = .pointer (some ⟨k, d + o, none⟩) := by
  unfold conc at h
  split at h
  · rename_i k d x hb; injection h with h; exact ⟨k, d, x, hb, h.symm⟩
  · cases h
theorem ptr_conc {ρ : Ren} {b : Pos} {o k d x : Nat} (h : ρ.at_ b = some (k, d, x)) : conc ρ (.ptr b o) = some (.pointer (some ⟨k, d + o, none⟩)) := by
  simp only [conc, h]
theorem conc_slc {ρ : Ren} {b : Pos} {o n c : Nat} {e : Bool} {u : Value} (h : conc ρ (.slc b o n c e) = some u) : ∃ k d x, ρ.at_ b = some (k, d, x) ∧ u = .slice (some ⟨k, d + o, none⟩) n (if e then c else c + x) := by
  unfold conc at h
  split at h
  · rename_i k d x hb; injection h with h; exact ⟨k, d, x, hb, h.symm⟩
  · cases h
theorem slc_conc {ρ : Ren} {b : Pos} {o n c k d x : Nat} {e : Bool} (h : ρ.at_ b = some (k, d, x)) : conc ρ (.slc b o n c e) = some (.slice (some ⟨k, d + o, none⟩) n (if e then c else c + x)) := by
  simp only [conc, h]
theorem conc_agg {ρ : Ren} {l : List AV} {u : Value} (h : conc ρ (.agg l) = some u) : ∃ xs, concs ρ l = some xs ∧ u = .agg xs.toArray := by
  unfold conc at h
  split at h
  · rename_i xs hb; injection h with h; exact ⟨xs, hb, h.symm⟩
  · cases h
theorem agg_conc {ρ : Ren} {l : List AV} {xs : List Value} (h : concs ρ l = some xs) : conc ρ (.agg l) = some (.agg xs.toArray) := by simp only [conc, h]
theorem conc_tup {ρ : Ren} {l : List AV} {u : Value} (h : conc ρ (.tup l) = some u) : ∃ xs, concs ρ l = some xs ∧ u = .tuple xs.toArray := by
  unfold conc at h
  split at h
  · rename_i xs hb; injection h with h; exact ⟨xs, hb, h.symm⟩
  · cases h
theorem tup_conc {ρ : Ren} {l : List AV} {xs : List Value} (h : concs ρ l = some xs) : conc ρ (.tup l) = some (.tuple xs.toArray) := by simp only [conc, h]
theorem conc_int {ρ : Ren} {k : IntKind} {n : Int} {u : Value} (h : conc ρ (.int k n) = some u) : u = .int k n := by injection h with h; exact h.symm
theorem conc_bool {ρ : Ren} {b : Bool} {u : Value} (h : conc ρ (.bool b) = some u) : u = .bool b := by injection h with h; exact h.symm

section
variable (P : Program)
/-- a field's place in its struct -/
def fldOff (s : TypeId) (f : Nat) : Option Nat :=
  match P.underlying s with
  | some (.struct fields) => match fields[f]? with | some fd => (match sizeT P fd.type with | some (_ + 1) => some fd.offset | _ => none) | none => none
  | _ => none
def partA (t : TypeId) (l : List AV) (off : Nat) : Option AV :=
  match aggT P t, sizeT P t with
  | some true, some n => some (.agg ((l.drop off).take n))
  | some false, _ => l[off]?
  | _, _ => none
def fieldA (t : TypeId) (l : List AV) (f : Nat) : Option AV :=
  match P.underlying t with
  | some (.struct fields) => match fields[f]? with | some fd => partA P fd.type l fd.offset | none => none
  | _ => none
end
section
variable {P : Program} {ρ : Ren}
theorem run_fieldPlace {k o : Nat} {fd : Field} {m : Nat} (h : sizeT P fd.type = some (m + 1)) (w : World) : (fieldPlace ⟨k, o, none⟩ fd).run P w = .ok ⟨k, o + fd.offset, none⟩ w := by
  simp [fieldPlace, run_sizeOf h, addr_add]
theorem run_fieldAt {s : TypeId} {f off : Nat} (h : fldOff P s f = some off) (k o : Nat) (w : World) :
    (Instr.fieldAt s (.pointer (some ⟨k, o, none⟩)) f).run P w = .ok (.pointer (some ⟨k, o + off, none⟩)) w := by
  unfold fldOff at h
  split at h
  · rename_i fields hu
    split at h
    · rename_i fd hf
      split at h
      · rename_i m hs
        injection h with h
        subst h
        simp [Instr.fieldAt, run_underlying hu, hf, Instr.sureAddr, run_fieldPlace hs]
      · cases h
    · cases h
  · cases h
theorem extract_list (l : List Value) (o n : Nat) : l.toArray.extract o (o + n) = ((l.drop o).take n).toArray := by
  rw [List.extract_toArray, List.extract_eq_take_drop]; simp
theorem run_part {t : TypeId} {l : List AV} {xs : List Value} {off : Nat} {v : AV} (hc : concs ρ l = some xs) (h : partA P t l off = some v) :
    ∃ u, conc ρ v = some u ∧ ∀ w, (part t xs.toArray off).run P w = .ok u w := by
  unfold partA at h
  split at h
  · rename_i n ha hs
    injection h with h
    subst h
    refine ⟨_, agg_conc (concs_take n (concs_drop off hc)), fun w => ?_⟩
    simp [part, run_isAgg ha, run_sizeOf hs]
  · rename_i ha
    obtain ⟨y, h1, h2⟩ := concs_get hc h
    refine ⟨y, h2, fun w => ?_⟩
    simp [part, run_isAgg ha, h1]
  · cases h
theorem run_field {t : TypeId} {l : List AV} {xs : List Value} {f : Nat} {v : AV} (hc : concs ρ l = some xs) (h : fieldA P t l f = some v) :
    ∃ u, conc ρ v = some u ∧ ∀ w, (Instr.field t (.agg xs.toArray) f).run P w = .ok u w := by
  unfold fieldA at h
  split at h
  · rename_i fields hu
    split at h
    · rename_i fd hf
      obtain ⟨u, h1, h2⟩ := run_part hc h
      exact ⟨u, h1, fun w => by simp [Instr.field, run_underlying hu, hf, asAgg, h2]⟩
    · cases h
  · cases h
end

/-- a place by an index -/
def idxA (P : Program) (t : TypeId) (x : AV) (i : Int) : Option AV :=
  match P.underlying t, x with
  | some (.array len elem), .ptr b o => match sizeT P elem with | some n => if 0 ≤ i ∧ i < len then some (.ptr b (o + i.toNat * n)) else none | none => none
  | some (.slice elem), .slc b o len _ _ => match sizeT P elem with | some n => if 0 ≤ i ∧ i < len then some (.ptr b (o + i.toNat * n)) else none | none => none
  | _, _ => none
theorem run_idx {P : Program} {ρ : Ren} {t : TypeId} {x : AV} {k : IntKind} {i : Int} {v : AV} {u : Value} (hx : conc ρ x = some u) (h : idxA P t x i = some v) :
    ∃ y, conc ρ v = some y ∧ ∀ w, (Instr.indexAt t u (.int k i)).run P w = .ok y w := by
  unfold idxA at h
  split at h
  · rename_i len elem b o hu
    split at h
    · rename_i n hs
      split at h
      · rename_i hi
        injection h with h
        subst h
        obtain ⟨k', d, e, hb, rfl⟩ := conc_ptr hx
        refine ⟨_, ptr_conc hb, fun w => ?_⟩
        simp [Instr.indexAt, asIntOf, run_underlying hu, Instr.sureAddr, hi, run_sizeOf hs, addr_add, Nat.add_assoc]
      · cases h
    · cases h
  · rename_i elem b o len c e hu
    split at h
    · rename_i n hs
      split at h
      · rename_i hi
        injection h with h
        subst h
        obtain ⟨k', d, e, hb, rfl⟩ := conc_slc hx
        refine ⟨_, ptr_conc hb, fun w => ?_⟩
        simp [Instr.indexAt, asIntOf, run_underlying hu, hi, run_sizeOf hs, addr_add, Nat.add_assoc]
      · cases h
    · cases h
  · cases h
/-- an element of an array, a byte of a string -/
def elA (P : Program) (t : TypeId) (x : AV) (i : Int) : Option AV :=
  match P.underlying t, x with
  | some (.array len elem), .agg l => match sizeT P elem with | some n => if 0 ≤ i ∧ i < len then partA P elem l (i.toNat * n) else none | none => none
  | some .string, .str l => if 0 ≤ i then (match l[i.toNat]? with | some c => some (.int .u8 c) | none => none) else none
  | _, _ => none
theorem strOf_get {l : List Nat} {i c : Nat} (hl : l.all (· < 256) = true) (h : l[i]? = some c) : (strOf l)[i]? = some (UInt8.ofNat c) ∧ (UInt8.ofNat c).toNat = c := by
  have hlt : i < l.length := (List.getElem?_eq_some_iff.1 h).1
  have hc : l[i] = c := (List.getElem?_eq_some_iff.1 h).2
  refine ⟨?_, ?_⟩
  · rw [getElem?_pos (strOf l) i (by rw [strOf_size]; exact hlt)]
    show some ((strOf l).data[i]'_) = _
    simp [strOf, hc]
  · have := List.all_eq_true.1 hl c (List.mem_of_getElem? h)
    simp only [decide_eq_true_eq] at this
    simp [UInt8.toNat_ofNat', Nat.mod_eq_of_lt this]
theorem run_el {P : Program} {ρ : Ren} {t : TypeId} {x : AV} {k : IntKind} {i : Int} {v : AV} {u : Value} (hx : conc ρ x = some u) (h : elA P t x i = some v) :
    ∃ y, conc ρ v = some y ∧ ∀ w, (Instr.index t u (.int k i)).run P w = .ok y w := by
  unfold elA at h
  split at h
  · rename_i len elem l hu
    split at h
    · rename_i n hs
      split at h
      · rename_i hi
        obtain ⟨xs, hxs, rfl⟩ := conc_agg hx
        obtain ⟨y, h1, h2⟩ := run_part hxs h
        refine ⟨y, h1, fun w => ?_⟩
        simp [Instr.index, asIntOf, run_underlying hu, hi, run_sizeOf hs, h2]
      · cases h
    · cases h
  · rename_i l hu
    split at h
    · rename_i hi
      split at h
      · rename_i c hc
        injection h with h
        subst h
        obtain ⟨hl, rfl⟩ := conc_str hx
        obtain ⟨h1, h2⟩ := strOf_get hl hc
        refine ⟨_, rfl, fun w => ?_⟩
        simp only [Instr.index, asIntOf, Sem.run_bind, Sem.run_pure, Result.andThen_ok, run_underlying hu, if_pos hi, h1, h2]
      · cases h
    · cases h
  · cases h
end Go.Proofs.YthggliknnmhbdaaGreat.Abs
end
/- Equality of abstract values, slices of them, and all pure operations; that they are the model's. No conditions. -/
section
set_option linter.unusedVariables false
namespace Go.Proofs.YthggliknnmhbdaaGreat.Abs
open Go
section
variable (P : Program)
/-- the fields that count -/
def fieldsA (t : TypeId) : List Field := (P.fieldsOf t).toList.filter fun f => f.name != "_"
def eqFs (rec : TypeId → AV → AV → Option Bool) (xs ys : List AV) : List Field → Option Bool
  | [] => some true
  | f :: fs => match partA P f.type xs f.offset, partA P f.type ys f.offset with
    | some a, some b => (match rec f.type a b with | some true => eqFs rec xs ys fs | r => r)
    | _, _ => none
def eqA : Nat → TypeId → AV → AV → Option Bool
  | 0, _, _, _ => none
  | d + 1, t, x, y => match P.underlying t, x, y with
    | some .bool, .bool a, .bool b => some (a == b)
    | some (.int _), .int k a, .int j b => if k = j then some (a == b) else none
    | some .string, .str a, .str b => some (eqL a b)
    | some (.pointer _), .nilp, .nilp => some true
    | some (.pointer _), .nilp, .ptr _ _ => some false
    | some (.pointer _), .ptr _ _, .nilp => some false
    | some (.slice _), .nils, .nils => some true
    | some (.slice _), .nils, .slc .. => some false
    | some (.slice _), .slc .., .nils => some false
    | some (.slice _), .nils, .slz .. => some false
    | some (.slice _), .slz .., .nils => some false
    | some (.map _ _), .nilm, .nilm => some true
    | some (.map _ _), .nilm, .map _ => some false
    | some (.map _ _), .map _, .nilm => some false
    | some (.func ..), .nilf, .nilf => some true
    | some (.func ..), .nilf, .fn .. => some false
    | some (.func ..), .fn .., .nilf => some false
    | some (.pointer te), .ptr b o, .ptr c p => if Nat.beq b.nat c.nat then (match sizeT P te with | some (_ + 1) => some (Nat.beq o p) | _ => none) else none
    | some (.struct _), .agg xs, .agg ys => if P.stoodInHeld t then none else eqFs P (eqA d) xs ys (fieldsA P t)
    | _, _, _ => none
end
section
variable {P : Program} {ρ : Ren}
theorem conc_slz {b : Pos} {o p : Nat} {u : Value} (h : conc ρ (.slz b o p) = some u) : ∃ k d x, ρ.at_ b = some (k, d, x) ∧ u = (if x = 0 then .slice (some ⟨k, d + p, none⟩) 0 0 else .slice (some ⟨k, d + o, none⟩) 0 x) := by
  unfold conc at h
  split at h
  · rename_i k d x hb; injection h with h; exact ⟨k, d, x, hb, h.symm⟩
  · cases h
theorem conc_slz' {b : Pos} {o p : Nat} {u : Value} (h : conc ρ (.slz b o p) = some u) : ∃ a c, u = .slice (some a) 0 c := by
  obtain ⟨k, d, x, _, rfl⟩ := conc_slz h
  split <;> exact ⟨_, _, rfl⟩
theorem conc_map {b : Pos} {u : Value} (h : conc ρ (.map b) = some u) : ∃ k d x, ρ.at_ b = some (k, d, x) ∧ u = .map (some k) := by
  unfold conc at h
  split at h
  · rename_i k d x hb; injection h with h; exact ⟨k, d, x, hb, h.symm⟩
  · cases h
theorem conc_fn {f : FuncId} {l m : List AV} {u : Value} (h : conc ρ (.fn f l m) = some u) : ∃ x y, concs ρ l = some x ∧ concs ρ m = some y ∧ u = .func (.func f) x.toArray y.toArray := by
  unfold conc at h
  split at h
  · rename_i x y h1 h2; injection h with h; exact ⟨x, y, h1, h2, h.symm⟩
  · cases h
theorem run_eqFs {d : Nat} {rec : TypeId → AV → AV → Option Bool} (hrec : ∀ t x y b u v, rec t x y = some b → conc ρ x = some u → conc ρ y = some v → ∀ w, (Op.equalIn d t u v).run P w = .ok b w)
    {l m : List AV} {xs ys : List Value} (hx : concs ρ l = some xs) (hy : concs ρ m = some ys) : ∀ (fs : List Field) {b : Bool}, eqFs P rec l m (fs.filter fun f => f.name != "_") = some b →
      ∀ w, (Op.eqFields d xs.toArray ys.toArray fs).run P w = .ok b w
  | [], b, h, w => by injection h with h; subst h; rfl
  | f :: fs, b, h, w => by
    by_cases hn : f.name = "_"
    · rw [List.filter_cons_of_neg (by simp [hn])] at h
      simp only [Op.eqFields, hn, ne_eq, not_true_eq_false, if_false]
      exact run_eqFs hrec hx hy fs h w
    · rw [List.filter_cons_of_pos (by simp [hn])] at h
      unfold eqFs at h
      simp only [Op.eqFields, ne_eq, hn, not_false_eq_true, if_true]
      split at h
      · rename_i a c ha hc
        obtain ⟨u, hu, hru⟩ := run_part hx ha
        obtain ⟨v, hv, hrv⟩ := run_part hy hc
        simp only [Sem.run_bind, hru, hrv, Result.andThen_ok]
        split at h
        · rename_i hr
          rw [hrec _ _ _ _ _ _ hr hu hv]
          simp only [Result.andThen_ok, Bool.not_true, Bool.false_eq_true, if_false]
          exact run_eqFs hrec hx hy fs h w
        · rename_i hr
          cases hb : b with
          | false =>
            rw [hb] at h
            rw [hrec _ _ _ _ _ _ h hu hv]
            simp
          | true => rw [hb] at h; exact absurd h hr
      · cases h
theorem run_eqA : ∀ (d : Nat) {t : TypeId} {x y : AV} {b : Bool} {u v : Value}, eqA P d t x y = some b → conc ρ x = some u → conc ρ y = some v → ∀ D, d ≤ D → ∀ w, (Op.equalIn D t u v).run P w = .ok b w
  | 0, _, _, _, _, _, _, h, _, _, _, _, _ => by cases h
  | d + 1, t, x, y, b, u, v, h, hx, hy, 0, hD, w => by omega
  | d + 1, t, x, y, b, u, v, h, hx, hy, D + 1, hD, w => by
    unfold eqA at h
    split at h
    · rename_i hu; injection h with h; subst h; rw [conc_bool hx, conc_bool hy]; exact run_equalIn_bool w D t _ _ hu
    · rename_i hu
      split at h
      · rename_i hk; subst hk; injection h with h; subst h; rw [conc_int hx, conc_int hy]; exact run_equalIn_int w D t _ _ _ _ hu
      · cases h
    · rename_i hu
      injection h with h; subst h
      obtain ⟨h1, rfl⟩ := conc_str hx
      obtain ⟨h2, rfl⟩ := conc_str hy
      rw [run_equalIn_string w D t _ _ hu, beq_str h1 h2]
    · rename_i hu; injection h with h; subst h; cases hx; cases hy; simp [Op.equalIn, run_underlying hu]
    · rename_i hu; injection h with h; subst h; cases hx; obtain ⟨_, _, _, _, rfl⟩ := conc_ptr hy; simp [Op.equalIn, run_underlying hu]
    · rename_i hu; injection h with h; subst h; cases hy; obtain ⟨_, _, _, _, rfl⟩ := conc_ptr hx; simp [Op.equalIn, run_underlying hu]
    · rename_i hu; injection h with h; subst h; cases hx; cases hy; simp [Op.equalIn, run_underlying hu]
    · rename_i hu; injection h with h; subst h; cases hx; obtain ⟨_, _, _, _, rfl⟩ := conc_slc hy; simp [Op.equalIn, run_underlying hu]
    · rename_i hu; injection h with h; subst h; cases hy; obtain ⟨_, _, _, _, rfl⟩ := conc_slc hx; simp [Op.equalIn, run_underlying hu]
    · rename_i hu; injection h with h; subst h; cases hx; obtain ⟨_, _, rfl⟩ := conc_slz' hy; simp [Op.equalIn, run_underlying hu]
    · rename_i hu; injection h with h; subst h; cases hy; obtain ⟨_, _, rfl⟩ := conc_slz' hx; simp [Op.equalIn, run_underlying hu]
    · rename_i hu; injection h with h; subst h; cases hx; cases hy; simp [Op.equalIn, run_underlying hu]
    · rename_i hu; injection h with h; subst h; cases hx; obtain ⟨_, _, _, _, rfl⟩ := conc_map hy; simp [Op.equalIn, run_underlying hu]
    · rename_i hu; injection h with h; subst h; cases hy; obtain ⟨_, _, _, _, rfl⟩ := conc_map hx; simp [Op.equalIn, run_underlying hu]
    · rename_i hu; injection h with h; subst h; cases hx; cases hy; simp [Op.equalIn, run_underlying hu]
    · rename_i hu; injection h with h; subst h; cases hx; obtain ⟨_, _, _, _, rfl⟩ := conc_fn hy; simp [Op.equalIn, run_underlying hu]
    · rename_i hu; injection h with h; subst h; cases hy; obtain ⟨_, _, _, _, rfl⟩ := conc_fn hx; simp [Op.equalIn, run_underlying hu]
    · rename_i te b' o c p hu
      split at h
      · rename_i hbc
        have hbc := Pos.nat_inj (Nat.eq_of_beq_eq_true hbc)
        subst hbc
        split at h
        · rename_i z hz
          injection h with h; subst h
          obtain ⟨k, d1, x1, e1, rfl⟩ := conc_ptr hx
          obtain ⟨k', d2, x2, e2, rfl⟩ := conc_ptr hy
          rw [e1] at e2; injection e2 with e2; injection e2 with e2 e3; injection e3 with e3 e4
          subst e2; subst e3
          have hi : ∃ j, P.info? te = some j ∧ j.size = z + 1 := by
            unfold sizeT at hz
            split at hz
            · rename_i i hi; injection hz with hz; exact ⟨i, hi, hz⟩
            · cases hz
          obtain ⟨j, hj, hjz⟩ := hi
          have hs : (sameAddr ⟨k, d1 + o, none⟩ ⟨k, d1 + p, none⟩).run P w = .ok (Nat.beq o p) w := by
            have : ((⟨k, d1 + o, none⟩ : Addr) == ⟨k, d1 + p, none⟩) = Nat.beq o p := by
              rw [Bool.eq_iff_iff, beq_iff_eq, Nat.beq_eq]
              constructor
              · intro h; injection h with h1 h2; omega
              · intro h; rw [h]
            simp [sameAddr, this]
          simp [Op.equalIn, run_underlying hu, sizeOf, typeInfo, hj, hs, hjz]
        · cases h
      · cases h
    · rename_i fs xs ys hu
      split at h
      · cases h
      · rename_i hst
        obtain ⟨us, hus, rfl⟩ := conc_agg hx
        obtain ⟨vs, hvs, rfl⟩ := conc_agg hy
        have hf : P.underlying t = some (.struct (P.fieldsOf t)) := by unfold Program.fieldsOf; simp only [hu]
        rw [run_equalIn_struct w D t _ _ hf (by simpa using hst)]
        exact run_eqFs (fun t x y b u v h1 h2 h3 => run_eqA d h1 h2 h3 D (by omega)) hus hvs _ h w
    · cases h

/-- == and != -/
def isEq : BinOp → Bool | .eql => true | .neq => true | _ => false
def eqOp (P : Program) (op : BinOp) (t : TypeId) (x y : AV) : Option AV :=
  match eqA P 20 t x y with
  | some b => (match op with | .eql => some (.bool b) | .neq => some (.bool !b) | _ => none)
  | none => none
def nconst : Operand → Bool | .const _ => true | _ => false
/-- nothing stands guard at this comparison -/
def guardOk (P : Program) (t : TypeId) (x : AV) : Bool := match x with | .nili => false | .sym _ => false | .res .. => false | .ifc .. => false | .agg _ => !(P.eqGuardType P.depth t) | _ => true
def binA (P : Program) (op : BinOp) (t : TypeId) (x y : AV) : Option AV :=
  match x, y with
  | .int k a, .int j b => (match op with | .shl => shI .shl k a b | .shr => shI .shr k a b | op => if k = j then binI op k a b else none)
  | .str a, .str b => binS op a b
  | .res _ k m r, .int j b => (match op with | .rem => if k = j ∧ b = (m : Int) ∧ 0 < m then some (.int k (r : Int)) else none | _ => none)
  | x, y => if guardOk P t x then eqOp P op t x y else none
theorem run_guard {op : BinOp} {t : TypeId} {x : AV} {u v : Value} (p q : Operand) (h : guardOk P t x = true) (hx : conc ρ x = some u) (w : World) : (eqGuard op t p q u v).run P w = .ok () w := by
  have key : (∀ a b, u ≠ .nilIface ∧ u ≠ .iface a b) → (∀ cs, u = .agg cs → P.eqGuardType P.depth t = false) → (eqGuard op t p q u v).run P w = .ok () w := by
    intro h1 h2
    unfold eqGuard
    cases hop : (!(match op with | .eql | .neq => true | _ => false)) with
    | true => simp
    | false =>
      simp only [Bool.false_eq_true, if_false]
      cases u with
      | nilIface => exact absurd rfl (h1 0 .nilIface).1
      | agg cs =>
        cases v <;> simp [run_program, h2 cs rfl]
      | _ => simp
  unfold guardOk at h
  split at h
  all_goals first
    | (cases h; done)
    | skip
  · obtain ⟨xs, _, rfl⟩ := conc_agg hx
    refine key (fun a b => ⟨by simp, by simp⟩) (fun cs e => ?_)
    simpa using h
  · rename_i n1 n2 n3 n4 n5
    refine key (fun a b => ⟨?_, ?_⟩) (fun cs e => ?_)
    all_goals
      first
        | intro e
        | skip
      subst e
      cases x <;> first
        | exact (n1 rfl).elim
        | exact (n2 _ rfl).elim
        | exact (n3 _ _ _ _ rfl).elim
        | exact (n4 _ _ rfl).elim
        | exact (n5 _ rfl).elim
        | (unfold conc at hx; injection hx with hx; cases hx; done)
        | (unfold conc at hx; split at hx <;> first | (cases hx; done) | (split at hx <;> cases hx; done) | (injection hx with hx; split at hx <;> cases hx; done))
/-- neither two integers, nor two floats, nor two strings -/
def odd2 : Value → Value → Bool
  | .int .., .int .. => false
  | .float .., .float .. => false
  | .complex .., .complex .. => false
  | .string _, .string _ => false
  | _, _ => true
theorem bin_eql {t : TypeId} {u v : Value} (h : odd2 u v = true) : binOp .eql t u v = (do pure (.bool (← Op.equal t u v))) := by
  cases u <;> cases v <;> first | rfl | (cases h; done)
theorem bin_neq {t : TypeId} {u v : Value} (h : odd2 u v = true) : binOp .neq t u v = (do pure (.bool (!(← Op.equal t u v)))) := by
  cases u <;> cases v <;> first | rfl | (cases h; done)
theorem eqA_odd {d : Nat} {t : TypeId} {x y : AV} {b : Bool} {u v : Value} (h : eqA P d t x y = some b) (hx : conc ρ x = some u) (hy : conc ρ y = some v)
    (h1 : ∀ k a j c, x = .int k a → y = .int j c → False) (h2 : ∀ a c, x = .str a → y = .str c → False) : odd2 u v = true := by
  cases d with
  | zero => cases h
  | succ d =>
    unfold eqA at h
    split at h
    · rw [conc_bool hx]; rfl
    · exact (h1 _ _ _ _ rfl rfl).elim
    · exact (h2 _ _ rfl rfl).elim
    all_goals first
      | (cases hx; rfl)
      | (obtain ⟨_, _, _, _, rfl⟩ := conc_ptr hx; rfl)
      | (obtain ⟨_, _, _, _, rfl⟩ := conc_slc hx; rfl)
      | (obtain ⟨_, _, rfl⟩ := conc_slz' hx; rfl)
      | (obtain ⟨_, _, _, _, rfl⟩ := conc_map hx; rfl)
      | (obtain ⟨_, _, _, _, rfl⟩ := conc_fn hx; rfl)
      | (obtain ⟨_, _, rfl⟩ := conc_agg hx; rfl)
      | (cases h; done)
theorem run_binA {op : BinOp} {t : TypeId} {x y v : AV} {u u' : Value} (p q : Operand) (h : binA P op t x y = some v) (hx : conc ρ x = some u) (hy : conc ρ y = some u') :
    ∃ z, conc ρ v = some z ∧ ∀ w, (eqGuard op t p q u u').run P w = .ok () w ∧ (binOp op t u u').run P w = .ok z w := by
  unfold binA at h
  split at h
  · rename_i k a j b
    have hg : guardOk P t (.int k a) = true := rfl
    rw [conc_int hy]
    have hxx := hx
    rw [conc_int hx] at hxx ⊢
    split at h
    · obtain ⟨z, h1, h2⟩ := shI_run (ρ := ρ) (P := P) (t := t) (j := j) h; exact ⟨z, h1, fun w => ⟨run_guard p q hg hxx w, h2 w⟩⟩
    · obtain ⟨z, h1, h2⟩ := shI_run (ρ := ρ) (P := P) (t := t) (j := j) h; exact ⟨z, h1, fun w => ⟨run_guard p q hg hxx w, h2 w⟩⟩
    · split at h
      · rename_i hk; subst hk
        obtain ⟨z, h1, h2⟩ := binI_run (ρ := ρ) (P := P) (t := t) h; exact ⟨z, h1, fun w => ⟨run_guard p q hg hxx w, h2 w⟩⟩
      · cases h
  · rename_i a b
    have hg : guardOk P t (.str a) = true := rfl
    obtain ⟨h1, rfl⟩ := conc_str hx
    obtain ⟨h2, rfl⟩ := conc_str hy
    obtain ⟨z, h3, h4⟩ := binS_run (ρ := ρ) (P := P) h1 h2 h
    refine ⟨z, h3, fun w => ⟨run_guard p q hg hx w, ?_⟩⟩
    rw [← h4 w]
    cases op <;> rfl
  · rename_i jj k m r j b
    split at h
    · split at h
      · rename_i hc
        obtain ⟨rfl, rfl, hm⟩ := hc
        injection h with h; subst h
        have hux : ∃ x : Int, u = .int k x ∧ 0 ≤ x ∧ x % (m : Int) = (r : Int) := by
          unfold conc at hx
          split at hx
          · split at hx
            · rename_i hc; injection hx with hx; exact ⟨_, hx.symm, hc.2⟩
            · cases hx
          · cases hx
        obtain ⟨x, rfl, hx0, hxr⟩ := hux
        have hmod : x.tmod (m : Int) = (r : Int) := by rw [Int.tmod_eq_emod_of_nonneg hx0]; exact hxr
        have h : binI .rem k x (m : Int) = some (.int k (r : Int)) := by
          simp only [binI]
          rw [if_neg (by omega), hmod]
        obtain ⟨z, h1, h2⟩ := binI_run (ρ := ρ) (P := P) (t := t) h
        rw [conc_int hy]
        have hg : guardOk P t (.int k x) = true := rfl
        exact ⟨z, h1, fun w => ⟨run_guard (ρ := ρ) p q hg rfl w, h2 w⟩⟩
      · cases h
    · cases h
  · split at h
    · rename_i n1 n2 n3 hg
      unfold eqOp at h
      split at h
      · rename_i b hb
        have hr := run_eqA 20 hb hx hy 10000 (by omega)
        have ho := eqA_odd hb hx hy (fun k a j c e1 e2 => n1 k a j c e1 e2) (fun a c e1 e2 => n2 a c e1 e2)
        split at h
        · injection h with h; subst h
          refine ⟨_, rfl, fun w => ⟨run_guard p q hg hx w, ?_⟩⟩
          rw [bin_eql ho]
          simp [Op.equal, Op.maxDepth, hr]
        · injection h with h; subst h
          refine ⟨_, rfl, fun w => ⟨run_guard p q hg hx w, ?_⟩⟩
          rw [bin_neq ho]
          simp [Op.equal, Op.maxDepth, hr]
        · cases h
      · cases h
    · cases h
end
end Go.Proofs.YthggliknnmhbdaaGreat.Abs
end
/- Slices, structs that are built, conversions; all pure operations together. No conditions. -/
section
set_option linter.unusedVariables false
namespace Go.Proofs.YthggliknnmhbdaaGreat.Abs
open Go
def natOf : Option AV → Nat → Option Nat
  | none, d => some d
  | some (.int _ i), _ => if 0 ≤ i then some i.toNat else none
  | _, _ => none
/-- a slice's bounds are numbers -/
noncomputable def boundOf (a : PT AV) : Option Operand → Option (Option AV)
  | none => some none
  | some x => match ev a x with | some v => some (some v) | none => none
noncomputable def sliceA (P : Program) (t : TypeId) (x : AV) (lo hi mx : Option AV) : Option AV :=
  match P.underlying t, x, mx with
  | some .string, .str s, none => (match natOf hi s.length with
      | some h => if h ≤ s.length then (match natOf lo 0 with | some l => if l ≤ h then some (.str ((s.take h).drop l)) else none | none => none) else none
      | none => none)
  | some (.slice e), .slc b o len cap ex, none => (match natOf hi len, natOf lo 0, sizeT P e with
      | some h, some l, some z =>
        if h ≤ cap ∧ l ≤ h then
          (if l = cap then (if ex then some (.slc b o 0 0 true) else some (.slz b (o + l * z) o)) else some (.slc b (o + l * z) (h - l) (cap - l) ex)) else none
      | _, _, _ => none)
  | some (.slice e), .slc b o len cap ex, some mv => (match natOf (some mv) 0, natOf hi 0, hi, natOf lo 0, sizeT P e with
      | some m, some h, some _, some l, some z =>
        if m ≤ cap ∧ h ≤ m ∧ l ≤ h then (if l = m then some (.slc b o 0 0 true) else some (.slc b (o + l * z) (h - l) (m - l) true)) else none
      | _, _, _, _, _ => none)
  | some (.slice e), .slz b o p, none => (match natOf hi 0, natOf lo 0, sizeT P e with | some 0, some 0, some _ => some (.slz b o p) | _, _, _ => none)
  | some (.slice e), .nils, none => (match natOf hi 0, natOf lo 0, sizeT P e with | some 0, some 0, some _ => some .nils | _, _, _ => none)
  | some (.array n e), .ptr b o, none => (match natOf hi n, natOf lo 0, sizeT P e with
      | some h, some l, some z => if h ≤ n ∧ l ≤ h then (if l = n then some (.slc b o 0 0 true) else some (.slc b (o + l * z) (h - l) (n - l) true)) else none
      | _, _, _ => none)
  | _, _, _ => none
section
variable {P : Program} {ρ : Ren}
/-- a bound and what it stands for -/
def OptC (ρ : Ren) : Option AV → Option Value → Prop
  | none, none => True
  | some v, some u => conc ρ v = some u
  | _, _ => False
theorem run_bound {v : AV} {u : Value} {n y : Nat} {c : BoundsCode} (h : natOf (some v) 0 = some n) (hc : conc ρ v = some u) (hn : n ≤ y) (w : World) : (Instr.sliceBound u y c).run P w = .ok n w := by
  unfold natOf at h
  split at h
  · rename_i e; cases e
  · rename_i _ i e
    split at h
    · rename_i hi
      injection h with h
      injection e with e
      subst e
      rw [conc_int hc]
      have : i ≤ (y : Int) := by omega
      simp [Instr.sliceBound, asIntOf, hi, this, h]
    · cases h
  · cases h
theorem natOf_some {v : AV} {d d' : Nat} : natOf (some v) d = natOf (some v) d' := by cases v <;> rfl
theorem run_bounds3 {isS : Bool} {len cap cap' : Nat} {lo hi : Option AV} {lo' hi' : Option Value} {h l : Nat} (hlo : OptC ρ lo lo') (hhi : OptC ρ hi hi') (e1 : natOf hi len = some h) (e2 : natOf lo 0 = some l)
    (hh : h ≤ cap') (hl : l ≤ h) (w : World) : (Instr.sliceBounds isS len cap' lo' hi' none).run P w = .ok (l, h, cap') w := by
  have hlo2 : (match lo' with | some v => Instr.sliceBound v h .sliceB | none => pure 0 : Sem Nat).run P w = .ok l w := by
    cases lo with
    | none => cases lo' with
      | none => simp [natOf] at e2; subst e2; rfl
      | some _ => cases hlo
    | some v => cases lo' with
      | none => cases hlo
      | some u => exact run_bound e2 hlo hl w
  cases hi with
  | none => cases hi' with
    | none =>
      simp [natOf] at e1
      subst e1
      unfold Instr.sliceBounds
      cases lo' <;> simp_all
    | some _ => cases hhi
  | some v => cases hi' with
    | none => cases hhi
    | some u =>
      have := run_bound (P := P) (c := if isS then .sliceAcap else .sliceAlen) (natOf_some.trans e1) hhi hh w
      unfold Instr.sliceBounds
      cases lo' <;> simp_all
theorem run_bounds4 {isS : Bool} {len cap' : Nat} {lo : Option AV} {mv hv : AV} {lo' : Option Value} {mu hu : Value} {m h l : Nat} (hlo : OptC ρ lo lo') (hhi : conc ρ hv = some hu) (hm : conc ρ mv = some mu)
    (e0 : natOf (some mv) 0 = some m) (e1 : natOf (some hv) 0 = some h) (e2 : natOf lo 0 = some l)
    (hmc : m ≤ cap') (hh : h ≤ m) (hl : l ≤ h) (w : World) : (Instr.sliceBounds isS len cap' lo' (some hu) (some mu)).run P w = .ok (l, h, m) w := by
  have hlo2 : (match lo' with | some v => Instr.sliceBound v h .slice3C | none => pure 0 : Sem Nat).run P w = .ok l w := by
    cases lo with
    | none => cases lo' with
      | none => simp [natOf] at e2; subst e2; rfl
      | some _ => cases hlo
    | some v => cases lo' with
      | none => cases hlo
      | some u => exact run_bound e2 hlo hl w
  have h1 := run_bound (P := P) (c := if isS then .slice3Acap else .slice3Alen) e0 hm hmc w
  have h2 := run_bound (P := P) (c := .slice3B) e1 hhi hh w
  unfold Instr.sliceBounds
  cases lo' <;> simp_all
theorem strOf_cut (s : List Nat) (l h : Nat) : (strOf s).extract l h = strOf ((s.take h).drop l) := by
  apply ByteArray.ext
  simp [strOf, List.extract_eq_take_drop, List.drop_take]
theorem all_cut {s : List Nat} (hs : s.all (· < 256) = true) (l h : Nat) : ((s.take h).drop l).all (· < 256) = true := by
  rw [List.all_eq_true] at hs ⊢
  intro x hx
  exact hs x (List.mem_of_mem_take (List.mem_of_mem_drop hx))
theorem run_slice {t : TypeId} {x v : AV} {u : Value} {lo hi mx : Option AV} {lo' hi' mx' : Option Value} (h : sliceA P t x lo hi mx = some v) (hx : conc ρ x = some u)
    (hlo : OptC ρ lo lo') (hhi : OptC ρ hi hi') (hmx : OptC ρ mx mx') : ∃ y, conc ρ v = some y ∧ ∀ w, (Instr.sliceAt t u lo' hi' mx').run P w = .ok y w := by
  unfold sliceA at h
  split at h
  · rename_i s hu
    cases mx' with
    | some _ => cases hmx
    | none =>
    split at h
    · rename_i hn he
      split at h
      · rename_i hle
        split at h
        · rename_i ln hl
          split at h
          · rename_i hlh
            injection h with h; subst h
            obtain ⟨hs, rfl⟩ := conc_str hx
            refine ⟨_, str_conc (all_cut hs _ _), fun w => ?_⟩
            have hb := run_bounds3 (P := P) (isS := false) (cap := s.length) hlo hhi (by exact he) hl (cap' := s.length) hle hlh w
            simp [Instr.sliceAt, Instr.slice, run_underlying hu, strOf_size, hb, strOf_cut]
          · cases h
        · cases h
      · cases h
    · cases h
  · rename_i e b o len cap ex hu
    cases mx' with
    | some _ => cases hmx
    | none =>
    split at h
    · rename_i hn ln z he hl hz
      split at h
      · rename_i hc
        obtain ⟨k, d, xx, hb, rfl⟩ := conc_slc hx
        have hbd := fun (cap' : Nat) (hc' : cap ≤ cap') w => run_bounds3 (P := P) (isS := true) (cap := cap) hlo hhi he hl (cap' := cap') (by omega) hc.2 w
        split at h
        · rename_i hlc
          split at h
          · rename_i hex
            injection h with h; subst h
            refine ⟨_, slc_conc hb, fun w => ?_⟩
            have hb' := hbd cap (Nat.le_refl _) w
            simp [Instr.sliceAt, Instr.slice, run_underlying hu, hex, hb', run_sizeOf hz, hlc]
            exact Nat.sub_eq_zero_of_le hc.1
          · rename_i hex
            injection h with h; subst h
            refine ⟨if xx = 0 then .slice (some ⟨k, d + o, none⟩) 0 0 else .slice (some ⟨k, d + (o + ln * z), none⟩) 0 xx, by simp only [conc, hb], fun w => ?_⟩
            have hb' := hbd (cap + xx) (Nat.le_add_right _ _) w
            have hlen : hn - ln = 0 := by omega
            by_cases hx0 : xx = 0
            · subst hx0
              have hb'' := hbd cap (Nat.le_refl _) w
              simp [Instr.sliceAt, Instr.slice, run_underlying hu, hex, hb'', run_sizeOf hz, hlc]
              exact Nat.sub_eq_zero_of_le hc.1
            · have hne : ¬ (cap + xx = ln) := by omega
              simp [Instr.sliceAt, Instr.slice, run_underlying hu, hex, hb', run_sizeOf hz, hne, hx0, addr_add, hlen, Nat.add_assoc]
              omega
        · rename_i hlc
          injection h with h; subst h
          refine ⟨_, slc_conc hb, fun w => ?_⟩
          cases ex with
          | true =>
            have hb' := hbd cap (Nat.le_refl _) w
            have hne : ¬ (cap = ln) := fun e => hlc e.symm
            simp [Instr.sliceAt, Instr.slice, run_underlying hu, hb', run_sizeOf hz, hne, addr_add, Nat.add_assoc]
          | false =>
            have hb' := hbd (cap + xx) (Nat.le_add_right _ _) w
            have hne : ¬ (cap + xx = ln) := by omega
            simp [Instr.sliceAt, Instr.slice, run_underlying hu, hb', run_sizeOf hz, hne, addr_add, Nat.add_assoc]
            omega
      · cases h
    · cases h
  · rename_i e b o len cap ex mv hu
    cases mx' with
    | none => cases hmx
    | some mu =>
    split at h
    · rename_i m hn hv ln z e0 hl hz e1
      split at h
      · rename_i hc
        obtain ⟨k, d, xx, hb, rfl⟩ := conc_slc hx
        cases hi' with
        | none => cases hhi
        | some hu' =>
        have hbd := fun (cap' : Nat) (hc' : cap ≤ cap') w => run_bounds4 (P := P) (isS := true) (len := len) hlo hhi hmx e0 e1 hl (cap' := cap') (by omega) hc.2.1 hc.2.2 w
        have hb' := hbd (if ex then cap else cap + xx) (by split <;> omega)
        split at h
        · rename_i hlm
          injection h with h; subst h
          refine ⟨_, slc_conc hb, fun w => ?_⟩
          simp [Instr.sliceAt, Instr.slice, run_underlying hu, hb', run_sizeOf hz, hlm]
          omega
        · rename_i hlm
          injection h with h; subst h
          refine ⟨_, slc_conc hb, fun w => ?_⟩
          have hne : ¬ (m = ln) := fun e => hlm e.symm
          simp [Instr.sliceAt, Instr.slice, run_underlying hu, hb', run_sizeOf hz, hne, addr_add, Nat.add_assoc]
      · cases h
    · cases h
  · rename_i e b o p hu
    cases mx' with
    | some _ => cases hmx
    | none =>
    split at h
    · rename_i z he hl hz
      injection h with h; subst h
      obtain ⟨k, d, xx, hb, rfl⟩ := conc_slz hx
      refine ⟨_, hx, fun w => ?_⟩
      have hb' := fun (cap' : Nat) => run_bounds3 (P := P) (isS := true) (cap := 0) hlo hhi he hl (cap' := cap') (by omega) (by omega) w
      by_cases hx0 : xx = 0
      · subst hx0
        simp [Instr.sliceAt, Instr.slice, run_underlying hu, hb', run_sizeOf hz]
      · simp [Instr.sliceAt, Instr.slice, run_underlying hu, hb', run_sizeOf hz, hx0, Addr.add]
    · cases h
  · rename_i e hu
    cases mx' with
    | some _ => cases hmx
    | none =>
    split at h
    · rename_i z he hl hz
      injection h with h; subst h
      refine ⟨_, hx, fun w => ?_⟩
      cases hx
      have hb' := run_bounds3 (P := P) (isS := true) (cap := 0) hlo hhi he hl (cap' := 0) (by omega) (by omega) w
      simp [Instr.sliceAt, Instr.slice, run_underlying hu, hb', run_sizeOf hz]
    · cases h
  · rename_i n e b o hu
    cases mx' with
    | some _ => cases hmx
    | none =>
    split at h
    · rename_i hn ln z he hl hz
      split at h
      · rename_i hc
        obtain ⟨k, d, xx, hb, rfl⟩ := conc_ptr hx
        have hb' := fun w => run_bounds3 (P := P) (isS := false) (cap := n) hlo hhi he hl (cap' := n) hc.1 hc.2 w
        split at h
        · rename_i hln
          injection h with h; subst h
          refine ⟨_, slc_conc hb, fun w => ?_⟩
          simp [Instr.sliceAt, Instr.sureAddr, run_underlying hu, hb', run_sizeOf hz, hln]
          omega
        · rename_i hln
          injection h with h; subst h
          refine ⟨_, slc_conc hb, fun w => ?_⟩
          have hne : ¬ (n = ln) := fun e => hln e.symm
          simp [Instr.sliceAt, Instr.sureAddr, run_underlying hu, hb', run_sizeOf hz, hne, addr_add, Nat.add_assoc]
      · cases h
    · cases h
  · cases h
end
end Go.Proofs.YthggliknnmhbdaaGreat.Abs
end
/- Structs that are built; all pure operations together. No conditions. -/
section
set_option linter.unusedVariables false
namespace Go.Proofs.YthggliknnmhbdaaGreat.Abs
open Go
def setAll : Nat → List AV → List AV → List AV
  | _, [], l => l
  | o, c :: cs, l => setAll (o + 1) cs (l.set o c)
def fillA (place : Nat → Option (Nat × Nat)) : List AV → List (Nat × AV) → Option (List AV)
  | cells, [] => some cells
  | cells, (i, v) :: rest => match place i with
    | some (off, size) => if (cellsA v).length = size ∧ off + size ≤ cells.length then fillA place (setAll off (cellsA v) cells) rest else none
    | none => none
/-- parts, each as its value stands -/
def partsC (ρ : Ren) : List (Nat × AV) → List (Nat × Value) → Prop
  | [], [] => True
  | (i, v) :: l, (j, u) :: m => i = j ∧ conc ρ v = some u ∧ partsC ρ l m
  | _, _ => False
section
variable {P : Program} {ρ : Ren}
theorem foldl_zip (off : Nat) : ∀ (vs : List Value) (k : Nat) (xs : List Value), (vs.zipIdx k).foldl (fun (cs : Array Value) (p : Value × Nat) => cs.setIfInBounds (off + p.2) p.1) xs.toArray = ((vs.zipIdx k).foldl (fun (cs : List Value) (p : Value × Nat) => cs.set (off + p.2) p.1) xs).toArray
  | [], k, xs => rfl
  | v :: vs, k, xs => by
    simp only [List.zipIdx_cons, List.foldl_cons, List.setIfInBounds_toArray]
    exact foldl_zip off vs (k + 1) _
theorem setAll_conc : ∀ (cs : List AV) {vs : List Value} (off k : Nat) {l : List AV} {xs : List Value}, concs ρ cs = some vs → concs ρ l = some xs →
    concs ρ (setAll (off + k) cs l) = some ((vs.zipIdx k).foldl (fun (cs : List Value) (p : Value × Nat) => cs.set (off + p.2) p.1) xs)
  | [], vs, off, k, l, xs, h, hl => by cases h; exact hl
  | c :: cs, vs, off, k, l, xs, h, hl => by
    obtain ⟨y, ys, rfl, h1, h2⟩ := concs_cons h
    simp only [setAll, List.zipIdx_cons, List.foldl_cons]
    exact setAll_conc cs off (k + 1) h2 (concs_set _ hl h1)
theorem setAll_len : ∀ (cs : List AV) (o : Nat) (l : List AV), (setAll o cs l).length = l.length
  | [], _, _ => rfl
  | c :: cs, o, l => by rw [setAll, setAll_len cs]; simp
theorem fill_conc {place : Nat → Option (Nat × Nat)} : ∀ (parts : List (Nat × AV)) {vp : List (Nat × Value)} {l r : List AV} {xs : List Value}, partsC ρ parts vp → concs ρ l = some xs → fillA place l parts = some r →
    ∃ ys, concs ρ r = some ys ∧ Instr.fill place xs.toArray vp = some ys.toArray
  | [], [], l, r, xs, hp, hl, h => by injection h with h; subst h; exact ⟨xs, hl, rfl⟩
  | [], _ :: _, _, _, _, hp, _, _ => hp.elim
  | _ :: _, [], _, _, _, hp, _, _ => hp.elim
  | (i, v) :: parts, (j, u) :: vp, l, r, xs, ⟨he, hv, hp⟩, hl, h => by
    subst he
    unfold fillA at h
    split at h
    · rename_i off size hpl
      split at h
      · rename_i hc
        have hcs := cells_conc hv
        have hlen := concs_len hcs
        have hxl := concs_len hl
        simp only [Array.length_toList] at hlen
        have hset := setAll_conc (cellsA v) off 0 hcs hl
        obtain ⟨ys, h1, h2⟩ := fill_conc parts hp hset h
        refine ⟨ys, h1, ?_⟩
        unfold Instr.fill
        simp only [hpl]
        have e1 : ¬ (u.cells.size ≠ size) := by rw [hlen]; simpa using hc.1
        have e2 : ¬ (off + u.cells.size > xs.toArray.size) := by rw [hlen, hc.1, List.size_toArray, hxl]; omega
        rw [if_neg (by simp only [Bool.or_eq_true, decide_eq_true_eq, not_or]; exact ⟨e1, e2⟩), ← h2, ← foldl_zip]
        rw [← Array.foldl_toList, Array.toList_zipIdx]
      · cases h
    · cases h
/-- what stands in nothing's place -/
noncomputable def zeroA (P : Program) (t : TypeId) : Option (List AV) :=
  match P.info? t with
  | some i => match i.zero with | some z => mapO (ofV 8) z.cells.toList | none => none
  | none => none
def placesA (P : Program) (t : TypeId) : Option (Nat → Option (Nat × Nat)) :=
  match P.underlying t with
  | some (.array _ e) => match P.info? e with | some ie => some (fun i => some (i * ie.size, ie.size)) | none => none
  | some (.struct fields) => match fields.toList.mapM (fun f => (P.info? f.type).map fun i => (f.offset, i.size)) with | some places => some (places.toArray[·]?) | none => none
  | _ => none
noncomputable def buildA (P : Program) (t : TypeId) (parts : List (Nat × AV)) : Option AV :=
  match zeroA P t, placesA P t with
  | some z, some pl => match fillA pl z parts with | some r => some (.agg r) | none => none
  | _, _ => none
theorem run_buildA {t : TypeId} {parts : List (Nat × AV)} {vp : Array (Nat × Value)} {v : AV} (h : buildA P t parts = some v) (hp : partsC ρ parts vp.toList) :
    ∃ u, conc ρ v = some u ∧ ∀ w, (Instr.build t vp).run P w = .ok u w := by
  unfold buildA at h
  split at h
  · rename_i z pl hz hpl
    split at h
    · rename_i r hr
      injection h with h; subst h
      unfold zeroA at hz
      split at hz
      · rename_i it hit
        split at hz
        · rename_i zv hzv
          have hzc := mapM_concs (ρ := ρ) (ofV_conc ρ 8) _ hz
          obtain ⟨ys, h1, h2⟩ := fill_conc parts hp hzc hr
          refine ⟨_, agg_conc h1, fun w => run_build w t vp _ ?_⟩
          unfold placesA at hpl
          unfold Program.built
          rw [hit]
          split at hpl
          · rename_i n e hu
            rw [hu]
            split at hpl
            · rename_i ie hie
              injection hpl with hpl
              subst hpl
              simp only [hzv, hie]
              simpa using h2
            · cases hpl
          · rename_i fields hu
            rw [hu]
            split at hpl
            · rename_i places hpp
              injection hpl with hpl
              subst hpl
              simp only [hzv, hpp]
              simpa using h2
            · cases hpl
          · cases hpl
        · cases hz
      · cases hz
    · cases h
  · cases h
noncomputable def evParts (a : PT AV) : List (Nat × Operand) → Option (List (Nat × AV))
  | [] => some []
  | (i, x) :: l => match ev a x, evParts a l with | some v, some r => some ((i, v) :: r) | _, _ => none
theorem evParts_conc {a : PT AV} {A : Act} (hs : Slots ρ a A) : ∀ (l : List (Nat × Operand)) {r : List (Nat × AV)}, evParts a l = some r → partsC ρ r (l.map fun p => (p.1, A.eval p.2))
  | [], r, h => by injection h with h; subst h; trivial
  | (i, x) :: l, r, h => by
    unfold evParts at h
    split at h
    · rename_i v r' hv hr
      injection h with h; subst h
      obtain ⟨u, h1, h2⟩ := ev_conc hs hv
      exact ⟨rfl, by rw [h2]; exact h1, evParts_conc hs l hr⟩
    · cases h
theorem arr_map {α β : Type} (f : α → β) (xs : Array α) : (xs.toList.map f).toArray = xs.map f := by
  cases xs; simp
noncomputable def evAll (a : PT AV) : List Operand → Option (List AV)
  | [] => some []
  | x :: l => match ev a x, evAll a l with | some v, some r => some (v :: r) | _, _ => none
theorem evAll_conc {a : PT AV} {A : Act} (hs : Slots ρ a A) : ∀ (l : List Operand) {r : List AV}, evAll a l = some r → concs ρ r = some (l.map A.eval)
  | [], r, h => by injection h with h; subst h; rfl
  | x :: l, r, h => by
    unfold evAll at h
    split at h
    · rename_i v r' hv hr
      injection h with h; subst h
      obtain ⟨u, h1, h2⟩ := ev_conc hs hv
      rw [List.map_cons, h2]
      exact concs_mk h1 (evAll_conc hs l hr)
    · cases h
def unA (op : UnOp) (x : AV) : Option AV :=
  match op, x with
  | .neg, .int k n => some (.int k (k.wrap (0 - n)))
  | .not, .bool b => some (.bool !b)
  | .xor, .int k n => binI .xor k (if k.signed then -1 else k.max) n
  | _, _ => none
theorem run_unA {op : UnOp} {x v : AV} {u : Value} (h : unA op x = some v) (hx : conc ρ x = some u) : ∃ y, conc ρ v = some y ∧ ∀ w, (Op.unary op u).run P w = .ok y w := by
  unfold unA at h
  split at h
  · injection h with h; subst h; rw [conc_int hx]; exact ⟨_, rfl, fun w => by simp [Op.unary, Op.intArith]⟩
  · injection h with h; subst h; rw [conc_bool hx]; exact ⟨_, rfl, fun w => by simp [Op.unary]⟩
  · rename_i k n
    unfold binI at h
    injection h with h; subst h; rw [conc_int hx]; exact ⟨_, rfl, fun w => by simp [Op.unary, Op.intBits]⟩
  · cases h
/-- conversions that make nothing -/
def convA (P : Program) (s d : TypeId) (x : AV) : Option AV :=
  match P.underlying s, P.underlying d, x with
  | some _, some (.int k), .int _ n => some (.int k (k.wrap n))
  | some .string, some .string, .str l => some (.str l)
  | _, _, _ => none
theorem run_convA {s d : TypeId} {x v : AV} {u : Value} (h : convA P s d x = some v) (hx : conc ρ x = some u) : ∃ y, conc ρ v = some y ∧ ∀ w, (convert s d u).run P w = .ok y w := by
  unfold convA at h
  split at h
  · rename_i hs hd
    injection h with h; subst h; rw [conc_int hx]
    exact ⟨_, rfl, fun w => by simp [convert, run_underlying hs, run_underlying hd, Conv.intToInt]⟩
  · rename_i hs hd
    injection h with h; subst h
    obtain ⟨_, rfl⟩ := conc_str hx
    exact ⟨_, hx, fun w => by simp [convert, run_underlying hs, run_underlying hd]⟩
  · cases h
def ifaceT (P : Program) (t : TypeId) : Bool := match P.underlying t with | some (.interface _) => true | some _ => false | none => true
/-- lengths that read no memory -/
def lenA (P : Program) (t : TypeId) (x : AV) : Option AV :=
  match P.underlying t, x with
  | some .string, .str l => some (.int .i64 l.length)
  | some (.slice _), .slc _ _ n _ _ => some (.int .i64 n)
  | some (.slice _), .slz .. => some (.int .i64 0)
  | some (.slice _), .nils => some (.int .i64 0)
  | some (.array n _), _ => some (.int .i64 n)
  | some (.map ..), .nilm => some (.int .i64 0)
  | _, _ => none
theorem run_lenA {t ty : TypeId} {x v : AV} {u : Value} (h : lenA P t x = some v) (hx : conc ρ x = some u) : ∃ y, conc ρ v = some y ∧ ∀ w, (Builtin.len_ #[t] ty #[u]).run P w = .ok y w := by
  unfold lenA at h
  split at h
  · rename_i hs
    injection h with h; subst h
    obtain ⟨_, rfl⟩ := conc_str hx
    exact ⟨_, rfl, fun w => by simp [Builtin.len_, run_underlying hs, goInt, strOf_size]⟩
  · rename_i hs
    injection h with h; subst h
    obtain ⟨_, _, _, _, rfl⟩ := conc_slc hx
    exact ⟨_, rfl, fun w => by simp [Builtin.len_, run_underlying hs, goInt]⟩
  · rename_i hs
    injection h with h; subst h
    obtain ⟨_, _, rfl⟩ := conc_slz' hx
    exact ⟨_, rfl, fun w => by simp [Builtin.len_, run_underlying hs, goInt]⟩
  · rename_i hs
    injection h with h; subst h
    cases hx
    exact ⟨_, rfl, fun w => by simp [Builtin.len_, run_underlying hs, goInt]⟩
  · rename_i hs
    injection h with h; subst h
    exact ⟨_, rfl, fun w => by simp [Builtin.len_, run_underlying hs, goInt]⟩
  · rename_i hs
    injection h with h; subst h
    cases hx
    exact ⟨_, rfl, fun w => by simp [Builtin.len_, run_underlying hs, goInt]⟩
  · cases h
/-- min and max of two integers -/
def mmA (mx : Bool) (x y : AV) : Option AV :=
  match x, y with
  | .int k a, .int _ b => some (.int k (if mx then (if b > a then b else a) else (if b < a then b else a)))
  | _, _ => none
/-- where a slice's elements lie -/
def sdA : AV → Option AV
  | .nils => some .nilp
  | .slc b o _ cap _ => if Nat.blt 0 cap then some (.ptr b o) else none
  | _ => none
def pureCall (P : Program) (b : Builtin) (ts : Array TypeId) (xs : List AV) : Option AV :=
  match b, ts.toList, xs with
  | .len, [t], [x] => lenA P t x
  | .min, _, [x, y] => mmA false x y
  | .max, _, [x, y] => mmA true x y
  | .unsafeSliceData, _, [x] => sdA x
  | _, _, _ => none
theorem run_pureCall {b : Builtin} {ts : Array TypeId} {ty : TypeId} {xs : List AV} {us : List Value} {v : AV} (h : pureCall P b ts xs = some v) (hx : concs ρ xs = some us) :
    ∃ y, conc ρ v = some y ∧ ∀ cs w, (builtin b ts ty cs us.toArray).run P w = .ok (.value y) w := by
  unfold pureCall at h
  split at h
  · rename_i t x hts
    obtain ⟨u, _, rfl, hu, h2⟩ := concs_cons hx
    cases h2
    obtain ⟨y, h1, h2⟩ := run_lenA (ty := ty) h hu
    refine ⟨y, h1, fun cs w => ?_⟩
    have e : ts = #[t] := by cases ts; simp_all
    subst e
    simp [builtin, h2]
  · rename_i x y _
    obtain ⟨u, r, rfl, hu, h2⟩ := concs_cons hx
    obtain ⟨u', r', rfl, hu', h2⟩ := concs_cons h2
    cases h2
    unfold mmA at h
    split at h
    · injection h with h; subst h
      rw [conc_int hu, conc_int hu']
      exact ⟨_, rfl, fun cs w => by simp [builtin, Builtin.min_, Builtin.min2]⟩
    · cases h
  · rename_i x y _
    obtain ⟨u, r, rfl, hu, h2⟩ := concs_cons hx
    obtain ⟨u', r', rfl, hu', h2⟩ := concs_cons h2
    cases h2
    unfold mmA at h
    split at h
    · injection h with h; subst h
      rw [conc_int hu, conc_int hu']
      exact ⟨_, rfl, fun cs w => by simp [builtin, Builtin.max_, Builtin.max2]⟩
    · cases h
  · rename_i x _
    obtain ⟨u, r, rfl, hu, h2⟩ := concs_cons hx
    cases h2
    unfold sdA at h
    split at h
    · injection h with h; subst h
      cases hu
      refine ⟨_, rfl, fun cs w => ?_⟩
      have := Lib.run_unsafeSliceData_nil (P := P) (w := w) ts ty 0 0
      simp only [builtin, Sem.run_bind]
      rw [this]
      rfl
    · rename_i b o len cap ex
      split at h
      · rename_i hc
        injection h with h; subst h
        rw [Nat.blt_eq] at hc
        obtain ⟨kk, d, xx, hb, rfl⟩ := conc_slc hu
        have : (if ex then cap else cap + xx) ≠ 0 := by split <;> omega
        refine ⟨_, ptr_conc hb, fun cs w => ?_⟩
        have := Lib.run_unsafeSliceData_row (P := P) (w := w) ts ty ⟨kk, d + o, none⟩ len _ this
        simp only [builtin, Sem.run_bind]
        rw [this]
        rfl
      · cases h
    · cases h
  · cases h
end
end Go.Proofs.YthggliknnmhbdaaGreat.Abs
end
/- All pure operations together: what they yield is what the model's yield. No conditions. -/
section
set_option linter.unusedVariables false
namespace Go.Proofs.YthggliknnmhbdaaGreat.Abs
open Go
noncomputable def pureOp (P : Program) (a : PT AV) (op : Op) : Option AV :=
  match op with
  | .move x => ev a x
  | .assign x => ev a x
  | .pick c x y => (match ev a c with | some (.bool b) => if b then ev a x else ev a y | _ => none)
  | .nilCheck x => (match ev a x with | some (.ptr b o) => some (.ptr b o) | some (.fn f l m) => some (.fn f l m) | _ => none)
  | .fieldAddr s x f => (match ev a x with | some (.ptr b o) => (match fldOff P s f with | some off => some (.ptr b (o + off)) | none => none) | _ => none)
  | .indexAddr t x i => (match ev a x, ev a i with | some x, some (.int _ i) => idxA P t x i | _, _ => none)
  | .index t x i => (match ev a x, ev a i with | some x, some (.int _ i) => elA P t x i | _, _ => none)
  | .extract x i => (match ev a x with | some (.tup l) => l[i]? | _ => none)
  | .binOp op t x y _ => (match ev a x, ev a y with | some x, some y => binA P op t x y | _, _ => none)
  | .unOp op _ x => (match ev a x with | some x => unA op x | none => none)
  | .build t parts => (match evParts a parts.toList with | some ps => buildA P t ps | none => none)
  | .makeFunc fn first cap => (match fn, evAll a first.toList, evAll a cap.toList with | .func f, some x, some y => some (.fn f x y) | _, _, _ => none)
  | .field t x f => (match ev a x with | some (.agg l) => fieldA P t l f | _ => none)
  | .slice t x lo hi mx => (match ev a x, boundOf a lo, boundOf a hi, boundOf a mx with | some x, some lo, some hi, some mx => sliceA P t x lo hi mx | _, _, _, _ => none)
  | .convert s d x => (match ev a x with | some x => convA P s d x | none => none)
  | .makeInterface t x => (match ev a x with | some x => if ifaceT P t then none else some (.ifc t x) | none => none)
  | .call c => (match c.callee with | .builtin b => (match evAll a c.args.toList with | some xs => pureCall P b c.argTypes xs | none => none) | _ => none)
  | _ => none
section
variable {P : Program} {ρ : Ren}
theorem boundOf_conc {a : PT AV} {A : Act} (hs : Slots ρ a A) {x : Option Operand} {r : Option AV} (h : boundOf a x = some r) : OptC ρ r (x.map A.eval) := by
  unfold boundOf at h
  split at h
  · injection h with h; subst h; trivial
  · split at h
    · rename_i v hv
      injection h with h; subst h
      obtain ⟨u, h1, h2⟩ := ev_conc hs hv
      show conc ρ v = some (A.eval _)
      rw [h2]; exact h1
    · cases h
theorem pureOp_run {a : PT AV} {A : Act} {o : Oper} {v : AV} (h : pureOp P a o.op = some v) (hs : Slots ρ a A) :
    ∃ u, conc ρ v = some u ∧ ∀ w, (execOp A.eval o).run P w = .ok (.value u) w := by
  unfold pureOp at h
  split at h
  · rename_i x ho
    obtain ⟨u, h1, h2⟩ := ev_conc hs h
    exact ⟨u, h1, fun w => by simp [execOp, ho, h2]⟩
  · rename_i x ho
    obtain ⟨u, h1, h2⟩ := ev_conc hs h
    exact ⟨u, h1, fun w => by simp [execOp, ho, h2]⟩
  · rename_i c x y ho
    split at h
    · rename_i b hb
      obtain ⟨uc, h3, h4⟩ := ev_conc hs hb
      cases h3
      cases b with
      | true =>
        obtain ⟨u, h1, h2⟩ := ev_conc hs (by simpa using h : ev a x = some v)
        exact ⟨u, h1, fun w => by simp [execOp, ho, h2, h4, asBool]⟩
      | false =>
        obtain ⟨u, h1, h2⟩ := ev_conc hs (by simpa using h : ev a y = some v)
        exact ⟨u, h1, fun w => by simp [execOp, ho, h2, h4, asBool]⟩
    · cases h
  · rename_i x ho
    split at h
    · rename_i b o' hb
      injection h with h; subst h
      obtain ⟨u, h3, h4⟩ := ev_conc hs hb
      obtain ⟨k, d, e, hr, rfl⟩ := conc_ptr h3
      exact ⟨_, h3, fun w => by simp [execOp, ho, h4]⟩
    · rename_i f l m hb
      injection h with h; subst h
      obtain ⟨u, h3, h4⟩ := ev_conc hs hb
      obtain ⟨x', y', _, _, rfl⟩ := conc_fn h3
      exact ⟨_, h3, fun w => by simp [execOp, ho, h4]⟩
    · cases h
  · rename_i s x f ho
    split at h
    · rename_i b o' hb
      split at h
      · rename_i off hf
        injection h with h; subst h
        obtain ⟨u, h3, h4⟩ := ev_conc hs hb
        obtain ⟨k, d, e, hr, rfl⟩ := conc_ptr h3
        refine ⟨_, ptr_conc hr, fun w => ?_⟩
        simp [execOp, ho, h4, run_fieldAt hf, Nat.add_assoc]
      · cases h
    · cases h
  · rename_i t x i ho
    split at h
    · rename_i xv k iv hx hi
      obtain ⟨u, h3, h4⟩ := ev_conc hs hx
      obtain ⟨u2, h5, h6⟩ := ev_conc hs hi
      cases h5
      obtain ⟨y, h7, h8⟩ := run_idx (k := k) h3 h
      exact ⟨y, h7, fun w => by simp [execOp, ho, h4, h6, h8]⟩
    · cases h
  · rename_i t x i ho
    split at h
    · rename_i xv k iv hx hi
      obtain ⟨u, h3, h4⟩ := ev_conc hs hx
      obtain ⟨u2, h5, h6⟩ := ev_conc hs hi
      cases h5
      obtain ⟨y, h7, h8⟩ := run_el (k := k) h3 h
      exact ⟨y, h7, fun w => by simp [execOp, ho, h4, h6, h8]⟩
    · cases h
  · rename_i x i ho
    split at h
    · rename_i l hx
      obtain ⟨u, h3, h4⟩ := ev_conc hs hx
      obtain ⟨xs, h5, rfl⟩ := conc_tup h3
      obtain ⟨y, h7, h8⟩ := concs_get h5 h
      exact ⟨y, h8, fun w => by simp [execOp, ho, h4, Instr.extract, h7]⟩
    · cases h
  · rename_i op t x y yt ho
    split at h
    · rename_i xv yv hx hy
      obtain ⟨u, h3, h4⟩ := ev_conc hs hx
      obtain ⟨u2, h5, h6⟩ := ev_conc hs hy
      obtain ⟨z, h7, h8⟩ := run_binA x y h h3 h5
      exact ⟨z, h7, fun w => by simp [execOp, ho, h4, h6, (h8 w).1, (h8 w).2]⟩
    · cases h
  · rename_i op t x ho
    split at h
    · rename_i xv hx
      obtain ⟨u, h3, h4⟩ := ev_conc hs hx
      obtain ⟨z, h7, h8⟩ := run_unA (P := P) h h3
      exact ⟨z, h7, fun w => by simp [execOp, ho, h4, h8]⟩
    · cases h
  · rename_i t parts ho
    split at h
    · rename_i ps hps
      have hpc := evParts_conc hs _ hps
      obtain ⟨z, h7, h8⟩ := run_buildA (vp := parts.map fun p => (p.1, A.eval p.2)) h (by simpa using hpc)
      exact ⟨z, h7, fun w => by simp [execOp, ho, h8]⟩
    · cases h
  · rename_i fn first cap ho
    split at h
    · rename_i f x y hx hy
      injection h with h; subst h
      have h1 := evAll_conc hs _ hx
      have h2 := evAll_conc hs _ hy
      refine ⟨.func (.func f) (first.toList.map A.eval).toArray (cap.toList.map A.eval).toArray, by simp only [conc, h1, h2], fun w => ?_⟩
      simp only [arr_map]
      simp [execOp, ho, Instr.makeFunc]
    · cases h
  · rename_i t x f ho
    split at h
    · rename_i l hx
      obtain ⟨u, h3, h4⟩ := ev_conc hs hx
      obtain ⟨xs, h5, rfl⟩ := conc_agg h3
      obtain ⟨y, h7, h8⟩ := run_field h5 h
      exact ⟨y, h7, fun w => by simp [execOp, ho, h4, h8]⟩
    · cases h
  · rename_i t x lo hi mx ho
    split at h
    · rename_i xv lov hiv mxv hx hlo hhi hmx
      obtain ⟨u, h3, h4⟩ := ev_conc hs hx
      obtain ⟨y, h7, h8⟩ := run_slice h h3 (boundOf_conc hs hlo) (boundOf_conc hs hhi) (boundOf_conc hs hmx)
      exact ⟨y, h7, fun w => by simp [execOp, ho, h4, h8]⟩
    · cases h
  · rename_i s d x ho
    split at h
    · rename_i xv hx
      obtain ⟨u, h3, h4⟩ := ev_conc hs hx
      obtain ⟨y, h7, h8⟩ := run_convA h h3
      exact ⟨y, h7, fun w => by simp [execOp, ho, h4, h8]⟩
    · cases h
  · rename_i t x ho
    split at h
    · rename_i xv hx
      split at h
      · cases h
      · rename_i hi
        injection h with h; subst h
        obtain ⟨u, h3, h4⟩ := ev_conc hs hx
        refine ⟨.iface t u, by simp only [conc, h3], fun w => ?_⟩
        unfold ifaceT at hi
        cases hu : P.underlying t with
        | none => rw [hu] at hi; exact absurd rfl hi
        | some d => rw [hu] at hi; cases d <;> simp_all [execOp, Instr.makeInterface, run_underlying hu]
    · cases h
  · rename_i c ho
    split at h
    · rename_i b hb
      split at h
      · rename_i xs hx
        obtain ⟨y, h1, h2⟩ := run_pureCall (ty := o.type) h (evAll_conc hs _ hx)
        refine ⟨y, h1, fun w => ?_⟩
        rw [arr_map] at h2
        simp only [execOp, ho, resolve, hb, Sem.run_bind, Sem.run_pure, Result.andThen_ok, invoke, h2]
      · cases h
    · cases h
  · cases h
end
end Go.Proofs.YthggliknnmhbdaaGreat.Abs
end
