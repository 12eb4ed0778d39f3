/- Tries over binary numbers; abstract values and what they stand for. No program in sight. No conditions. -/
import GoSem.Core.World
import GoSem.Dispatch
set_option linter.unusedVariables false
namespace Go.Proofs.Ytlpnhikoipkjbaa.Abs
inductive Pos where
  | h | o (p : Pos) | i (p : Pos)
  deriving DecidableEq
namespace Pos
def nat : Pos → Nat
  | h => 1 | o p => 2 * p.nat | i p => 2 * p.nat + 1
def succ : Pos → Pos
  | h => o h | o p => i p | i p => o p.succ
theorem nat_succ : ∀ p : Pos, p.succ.nat = p.nat + 1
  | h => rfl
  | o _ => rfl
  | i p => by simp [succ, nat, nat_succ p]; omega
theorem nat_pos : ∀ p : Pos, 0 < p.nat
  | h => by simp [nat]
  | o p => by have := nat_pos p; simp [nat]; omega
  | i p => by simp [nat]
theorem nat_inj : ∀ {p q : Pos}, p.nat = q.nat → p = q
  | h, h, _ => rfl
  | h, o q, e => by have := nat_pos q; simp [nat] at e; omega
  | h, i q, e => by have := nat_pos q; simp [nat] at e; omega
  | o p, h, e => by have := nat_pos p; simp [nat] at e; omega
  | i p, h, e => by have := nat_pos p; simp [nat] at e; omega
  | o p, o q, e => by rw [nat_inj (p := p) (q := q) (by simp [nat] at e; omega)]
  | i p, i q, e => by rw [nat_inj (p := p) (q := q) (by simp [nat] at e; omega)]
  | o p, i q, e => by simp [nat] at e; omega
  | i p, o q, e => by simp [nat] at e; omega
noncomputable def ofN (f : Nat) : Nat → Pos :=
  Nat.rec (motive := fun _ => Nat → Pos) (fun _ => .h) (fun _ ih n => Bool.rec (motive := fun _ => Pos) (Bool.rec (motive := fun _ => Pos) (.i (ih (Nat.div n 2))) (.o (ih (Nat.div n 2))) (Nat.beq (Nat.mod n 2) 0)) .h (Nat.ble n 1)) f
theorem ofN_succ (f n : Nat) : ofN (f + 1) n = bif Nat.ble n 1 then .h else bif Nat.beq (Nat.mod n 2) 0 then .o (ofN f (n / 2)) else .i (ofN f (n / 2)) := by
  show Bool.rec (motive := fun _ => Pos) (Bool.rec (motive := fun _ => Pos) (Pos.i (ofN f (n / 2))) (.o (ofN f (n / 2))) (Nat.beq (Nat.mod n 2) 0)) .h (Nat.ble n 1) = _
  cases Nat.ble n 1 <;> cases Nat.beq (Nat.mod n 2) 0 <;> rfl
theorem nat_ofN : ∀ (f n : Nat), 1 ≤ n → n ≤ f → (ofN f n).nat = n
  | 0, n, h1, h2 => by omega
  | f + 1, n, h1, h2 => by
    rw [ofN_succ]
    cases hb : Nat.ble n 1 with
    | true =>
      have : n ≤ 1 := Nat.le_of_ble_eq_true hb
      simp only [cond_true, nat]; omega
    | false =>
      have hn : 2 ≤ n := by
        rcases Nat.lt_or_ge 1 n with h | h
        · omega
        · rw [Nat.ble_eq_true_of_le h] at hb; cases hb
      have ih := nat_ofN f (n / 2) (by omega) (by omega)
      cases he : Nat.beq (Nat.mod n 2) 0 with
      | true =>
        have : n % 2 = 0 := Nat.eq_of_beq_eq_true he
        simp only [cond_false, cond_true, nat, ih]; omega
      | false =>
        have : n % 2 ≠ 0 := fun e => by
          have : Nat.beq (n % 2) 0 = true := by rw [e]; rfl
          rw [show Nat.mod n 2 = n % 2 from rfl, this] at he; cases he
        simp only [cond_false, nat, ih]; omega
end Pos
/-- a key's place -/
noncomputable def pk (k : Nat) : Pos := Pos.ofN (Nat.succ k) (Nat.succ k)
theorem pk_nat (k : Nat) : (pk k).nat = k + 1 := Pos.nat_ofN _ _ (by omega) (by omega)
theorem pk_inj {j k : Nat} (h : pk j = pk k) : j = k := by
  have := congrArg Pos.nat h
  rw [pk_nat, pk_nat] at this
  omega
inductive PT (α : Type) where
  | lf | nd (l : PT α) (v : Option α) (r : PT α)
namespace PT
variable {α : Type}
noncomputable def get (p : Pos) : PT α → Option α :=
  Pos.rec (motive := fun _ => PT α → Option α)
    (fun t => PT.rec (motive := fun _ => Option α) none (fun _ v _ _ _ => v) t)
    (fun _ ih t => PT.rec (motive := fun _ => Option α) none (fun l _ _ _ _ => ih l) t)
    (fun _ ih t => PT.rec (motive := fun _ => Option α) none (fun _ _ r _ _ => ih r) t) p
/-- strict: the tree with x at p, handed on -/
noncomputable def setK {R : Type} (x : α) (p : Pos) : PT α → (PT α → R) → R :=
  Pos.rec (motive := fun _ => PT α → (PT α → R) → R)
    (fun t k => PT.rec (motive := fun _ => R) (k (.nd .lf (some x) .lf)) (fun l _ r _ _ => k (.nd l (some x) r)) t)
    (fun _ ih t k => PT.rec (motive := fun _ => R) (ih .lf fun l => k (.nd l none .lf)) (fun l v r _ _ => ih l fun l => k (.nd l v r)) t)
    (fun _ ih t k => PT.rec (motive := fun _ => R) (ih .lf fun r => k (.nd .lf none r)) (fun l v r _ _ => ih r fun r => k (.nd l v r)) t) p
noncomputable def set (x : α) (p : Pos) (t : PT α) : PT α := setK x p t id
/-- strict: only where there is something already -/
noncomputable def updK {R : Type} (x : α) (p : Pos) : PT α → (PT α → Option R) → Option R :=
  Pos.rec (motive := fun _ => PT α → (PT α → Option R) → Option R)
    (fun t k => PT.rec (motive := fun _ => Option R) none (fun l v r _ _ => Option.rec none (fun _ => k (.nd l (some x) r)) v) t)
    (fun _ ih t k => PT.rec (motive := fun _ => Option R) none (fun l v r _ _ => ih l fun l => k (.nd l v r)) t)
    (fun _ ih t k => PT.rec (motive := fun _ => Option R) none (fun l v r _ _ => ih r fun r => k (.nd l v r)) t) p
/-- strict: nothing at p any more -/
noncomputable def delK {R : Type} (p : Pos) : PT α → (PT α → R) → R :=
  Pos.rec (motive := fun _ => PT α → (PT α → R) → R)
    (fun t k => PT.rec (motive := fun _ => R) (k .lf) (fun l _ r _ _ => k (.nd l none r)) t)
    (fun _ ih t k => PT.rec (motive := fun _ => R) (k .lf) (fun l v r _ _ => ih l fun l => k (.nd l v r)) t)
    (fun _ ih t k => PT.rec (motive := fun _ => R) (k .lf) (fun l v r _ _ => ih r fun r => k (.nd l v r)) t) p
noncomputable def del (p : Pos) (t : PT α) : PT α := delK p t id
theorem get_lf (p : Pos) : get p (.lf : PT α) = none := by cases p <;> rfl
@[simp] theorem get_h (l r : PT α) (v) : get .h (.nd l v r) = v := rfl
@[simp] theorem get_o (l r : PT α) (v) (p) : get (.o p) (.nd l v r) = get p l := rfl
@[simp] theorem get_i (l r : PT α) (v) (p) : get (.i p) (.nd l v r) = get p r := rfl
theorem setK_eq {R : Type} (x : α) : ∀ (p : Pos) (t : PT α) (k : PT α → R), setK x p t k = k (set x p t)
  | .h, .lf, _ => rfl
  | .h, .nd _ _ _, _ => rfl
  | .o p, .lf, k => (setK_eq x p .lf _).trans (congrArg k (setK_eq x p .lf (fun l => PT.nd l none .lf)).symm)
  | .o p, .nd l v r, k => (setK_eq x p l _).trans (congrArg k (setK_eq x p l (fun l => PT.nd l v r)).symm)
  | .i p, .lf, k => (setK_eq x p .lf _).trans (congrArg k (setK_eq x p .lf (fun r => PT.nd .lf none r)).symm)
  | .i p, .nd l v r, k => (setK_eq x p r _).trans (congrArg k (setK_eq x p r (fun r => PT.nd l v r)).symm)
theorem set_o_lf (x : α) (p : Pos) : set x (.o p) .lf = .nd (set x p .lf) none .lf := setK_eq x p .lf (fun l => PT.nd l none .lf)
theorem set_o_nd (x : α) (p : Pos) (l v r) : set x (.o p) (.nd l v r) = .nd (set x p l) v r := setK_eq x p l (fun l => PT.nd l v r)
theorem set_i_lf (x : α) (p : Pos) : set x (.i p) .lf = .nd .lf none (set x p .lf) := setK_eq x p .lf (fun r => PT.nd .lf none r)
theorem set_i_nd (x : α) (p : Pos) (l v r) : set x (.i p) (.nd l v r) = .nd l v (set x p r) := setK_eq x p r (fun r => PT.nd l v r)
theorem get_set (x : α) : ∀ (p q : Pos) (t : PT α), get q (set x p t) = if q = p then some x else get q t
  | .h, .h, .lf => rfl
  | .h, .h, .nd _ _ _ => rfl
  | .h, .o q, .lf => by simp [show set x .h (.lf : PT α) = .nd .lf (some x) .lf from rfl, get_lf]
  | .h, .o q, .nd l v r => by simp [show set x .h (.nd l v r) = .nd l (some x) r from rfl]
  | .h, .i q, .lf => by simp [show set x .h (.lf : PT α) = .nd .lf (some x) .lf from rfl, get_lf]
  | .h, .i q, .nd l v r => by simp [show set x .h (.nd l v r) = .nd l (some x) r from rfl]
  | .o p, .h, .lf => by simp [set_o_lf, get_lf]
  | .o p, .h, .nd l v r => by simp [set_o_nd]
  | .o p, .o q, .lf => by simp [set_o_lf, get_lf, get_set x p q .lf]
  | .o p, .o q, .nd l v r => by simp [set_o_nd, get_set x p q l]
  | .o p, .i q, .lf => by simp [set_o_lf, get_lf]
  | .o p, .i q, .nd l v r => by simp [set_o_nd]
  | .i p, .h, .lf => by simp [set_i_lf, get_lf]
  | .i p, .h, .nd l v r => by simp [set_i_nd]
  | .i p, .o q, .lf => by simp [set_i_lf, get_lf]
  | .i p, .o q, .nd l v r => by simp [set_i_nd]
  | .i p, .i q, .lf => by simp [set_i_lf, get_lf, get_set x p q .lf]
  | .i p, .i q, .nd l v r => by simp [set_i_nd, get_set x p q r]
theorem updK_some {R : Type} (x : α) : ∀ (p : Pos) (t : PT α) (k : PT α → Option R) (r : R), updK x p t k = some r → (∃ y, get p t = some y) ∧ k (set x p t) = some r
  | .h, .lf, k, r, e => by cases e
  | .h, .nd _ none _, k, r, e => by cases e
  | .h, .nd _ (some y) _, k, r, e => ⟨⟨y, rfl⟩, e⟩
  | .o p, .lf, k, r, e => by cases e
  | .o p, .nd l v rr, k, r, e => by
    have := updK_some x p l (fun l => k (.nd l v rr)) r e
    rw [set_o_nd]; exact this
  | .i p, .lf, k, r, e => by cases e
  | .i p, .nd l v rr, k, r, e => by
    have := updK_some x p rr (fun r => k (.nd l v r)) r e
    rw [set_i_nd]; exact this
theorem delK_eq {R : Type} : ∀ (p : Pos) (t : PT α) (k : PT α → R), delK p t k = k (del p t)
  | .h, .lf, _ => rfl
  | .h, .nd _ _ _, _ => rfl
  | .o p, .lf, k => rfl
  | .o p, .nd l v r, k => (delK_eq p l _).trans (congrArg k (delK_eq p l (fun l => PT.nd l v r)).symm)
  | .i p, .lf, k => rfl
  | .i p, .nd l v r, k => (delK_eq p r _).trans (congrArg k (delK_eq p r (fun r => PT.nd l v r)).symm)
theorem del_o_nd (p : Pos) (l : PT α) (v r) : del (.o p) (.nd l v r) = .nd (del p l) v r := delK_eq p l (fun l => PT.nd l v r)
theorem del_i_nd (p : Pos) (l : PT α) (v r) : del (.i p) (.nd l v r) = .nd l v (del p r) := delK_eq p r (fun r => PT.nd l v r)
theorem get_del : ∀ (p q : Pos) (t : PT α), get q (del p t) = if q = p then none else get q t
  | .h, q, .lf => by simp [show del .h (.lf : PT α) = .lf from rfl, get_lf]
  | .o _, q, .lf => by simp [show del (.o _) (.lf : PT α) = .lf from rfl, get_lf]
  | .i _, q, .lf => by simp [show del (.i _) (.lf : PT α) = .lf from rfl, get_lf]
  | .h, .h, .nd _ _ _ => rfl
  | .h, .o q, .nd l v r => by simp [show del .h (.nd l v r) = .nd l none r from rfl]
  | .h, .i q, .nd l v r => by simp [show del .h (.nd l v r) = .nd l none r from rfl]
  | .o p, .h, .nd l v r => by simp [del_o_nd]
  | .o p, .o q, .nd l v r => by simp [del_o_nd, get_del p q l]
  | .o p, .i q, .nd l v r => by simp [del_o_nd]
  | .i p, .h, .nd l v r => by simp [del_i_nd]
  | .i p, .o q, .nd l v r => by simp [del_i_nd]
  | .i p, .i q, .nd l v r => by simp [del_i_nd, get_del p q r]
end PT

inductive AV where
  | int (k : IntKind) (n : Int)
  | bool (b : Bool)
  | str (l : List Nat)
  | nilp | nils | nilm | nilf | nili
  | ptr (b : Pos) (o : Nat)
  | slc (b : Pos) (o len cap : Nat) (ex : Bool)
  | slz (b : Pos) (o p : Nat)
  | map (b : Pos)
  | fn (f : FuncId) (first captured : List AV)
  | agg (l : List AV)
  | tup (l : List AV)
  | ifc (t : TypeId) (v : AV)
  | sym (j : Nat)
  | yld (b : Pos)
  | res (j : Nat) (k : IntKind) (m r : Nat)
/-- Where an abstract block lies: the block, how far it is shifted, how many elements more it has. -/
structure Ren where
  at_ : Pos → Option (Nat × Nat × Nat)
  sy : Nat → Value
  one : ∀ j, ∀ cs, sy j ≠ .agg cs ∧ sy j ≠ .tuple cs
def strOf (l : List Nat) : ByteArray := ⟨(l.map UInt8.ofNat).toArray⟩
mutual
def conc (ρ : Ren) : AV → Option Value
  | .yld b => match ρ.at_ b with | some (k, _, _) => some (.func (.yield k) #[] #[]) | none => none
  | .int k n => some (.int k n)
  | .bool b => some (.bool b)
  | .str l => if l.all (· < 256) then some (.string (strOf l)) else none
  | .nilp => some (.pointer none)
  | .nils => some (.slice none 0 0)
  | .nilm => some (.map none)
  | .nilf => some .nilFunc
  | .nili => some .nilIface
  | .ptr b o => match ρ.at_ b with | some (k, d, _) => some (.pointer (some ⟨k, d + o, none⟩)) | none => none
  | .slc b o len cap ex => match ρ.at_ b with | some (k, d, x) => some (.slice (some ⟨k, d + o, none⟩) len (if ex then cap else cap + x)) | none => none
  | .slz b o p => match ρ.at_ b with | some (k, d, x) => some (if x = 0 then .slice (some ⟨k, d + p, none⟩) 0 0 else .slice (some ⟨k, d + o, none⟩) 0 x) | none => none
  | .map b => match ρ.at_ b with | some (k, _, _) => some (.map (some k)) | none => none
  | .fn f first captured => match concs ρ first, concs ρ captured with | some x, some y => some (.func (.func f) x.toArray y.toArray) | _, _ => none
  | .agg l => match concs ρ l with | some x => some (.agg x.toArray) | none => none
  | .tup l => match concs ρ l with | some x => some (.tuple x.toArray) | none => none
  | .ifc t v => match conc ρ v with | some x => some (.iface t x) | none => none
  | .sym j => some (ρ.sy j)
  | .res j k m r => match ρ.sy j with | .int k' x => if k' = k ∧ 0 ≤ x ∧ x % (m : Int) = (r : Int) then some (.int k x) else none | _ => none
def concs (ρ : Ren) : List AV → Option (List Value)
  | [] => some []
  | v :: l => match conc ρ v, concs ρ l with | some x, some xs => some (x :: xs) | _, _ => none
end
/-- ρ' says all that ρ says. -/
structure Ren.le (ρ ρ' : Ren) : Prop where
  at_ : ∀ b x, ρ.at_ b = some x → ρ'.at_ b = some x
  sy : ρ'.sy = ρ.sy
theorem Ren.le.refl (ρ : Ren) : ρ.le ρ := ⟨fun _ _ h => h, rfl⟩
theorem Ren.le.trans {a b c : Ren} (h : a.le b) (k : b.le c) : a.le c := ⟨fun b x e => k.at_ b x (h.at_ b x e), k.sy.trans h.sy⟩
mutual
theorem conc_le {ρ ρ' : Ren} (h : ρ.le ρ') : ∀ (v : AV) {x : Value}, conc ρ v = some x → conc ρ' v = some x
  | .int .., _, e => e
  | .bool .., _, e => e
  | .str .., _, e => e
  | .nilp, _, e => e
  | .nils, _, e => e
  | .nilm, _, e => e
  | .nilf, _, e => e
  | .nili, _, e => e
  | .ptr b o, x, e => by
    unfold conc at e ⊢
    split at e
    · rename_i hb; rw [h.at_ _ _ hb]; exact e
    · cases e
  | .slc b o len cap ex, x, e => by
    unfold conc at e ⊢
    split at e
    · rename_i hb; rw [h.at_ _ _ hb]; exact e
    · cases e
  | .slz b o p, x, e => by
    unfold conc at e ⊢
    split at e
    · rename_i hb; rw [h.at_ _ _ hb]; exact e
    · cases e
  | .map b, x, e => by
    unfold conc at e ⊢
    split at e
    · rename_i hb; rw [h.at_ _ _ hb]; exact e
    · cases e
  | .fn f first captured, x, e => by
    unfold conc at e ⊢
    split at e
    · rename_i h1 h2; rw [concs_le h _ h1, concs_le h _ h2]; exact e
    · cases e
  | .agg l, x, e => by
    unfold conc at e ⊢
    split at e
    · rename_i h1; rw [concs_le h _ h1]; exact e
    · cases e
  | .tup l, x, e => by
    unfold conc at e ⊢
    split at e
    · rename_i h1; rw [concs_le h _ h1]; exact e
    · cases e
  | .ifc t v, x, e => by
    unfold conc at e ⊢
    split at e
    · rename_i h1; rw [conc_le h _ h1]; exact e
    · cases e
  | .sym j, x, e => by
    unfold conc at e ⊢
    rw [h.sy]; exact e
  | .res j k m r, x, e => by
    unfold conc at e ⊢
    rw [h.sy]; exact e
  | .yld b, x, e => by
    unfold conc at e ⊢
    split at e
    · rename_i hb; rw [h.at_ _ _ hb]; exact e
    · cases e
theorem concs_le {ρ ρ' : Ren} (h : ρ.le ρ') : ∀ (l : List AV) {xs : List Value}, concs ρ l = some xs → concs ρ' l = some xs
  | [], _, e => e
  | v :: l, xs, e => by
    unfold concs at e ⊢
    split at e
    · rename_i h1 h2; rw [conc_le h _ h1, concs_le h _ h2]; exact e
    · cases e
end
end Go.Proofs.Ytlpnhikoipkjbaa.Abs
