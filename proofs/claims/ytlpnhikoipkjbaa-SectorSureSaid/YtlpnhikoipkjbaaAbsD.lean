/- Equality of abstract values, slices of them, and all pure operations; that they are the model's. No conditions. -/
import Derived.Test.YtlpnhikoipkjbaaAbsC
import Derived.Laws.StructEq
set_option linter.unusedVariables false
namespace Go.Proofs.Ytlpnhikoipkjbaa.Abs
open Go
section
variable (P : Program)
/-- the fields that count -/
def fieldsA (t : TypeId) : List Field := (P.fieldsOf t).toList.filter fun f => f.name != "_"
def eqFs (rec : TypeId → AV → AV → Option Bool) (xs ys : List AV) : List Field → Option Bool
  | [] => some true
  | f :: fs => match partA P f.type xs f.offset, partA P f.type ys f.offset with
    | some a, some b => (match rec f.type a b with | some true => eqFs rec xs ys fs | r => r)
    | _, _ => none
def eqA : Nat → TypeId → AV → AV → Option Bool
  | 0, _, _, _ => none
  | d + 1, t, x, y => match P.underlying t, x, y with
    | some .bool, .bool a, .bool b => some (a == b)
    | some (.int _), .int k a, .int j b => if k = j then some (a == b) else none
    | some .string, .str a, .str b => some (eqL a b)
    | some (.pointer _), .nilp, .nilp => some true
    | some (.pointer _), .nilp, .ptr _ _ => some false
    | some (.pointer _), .ptr _ _, .nilp => some false
    | some (.slice _), .nils, .nils => some true
    | some (.slice _), .nils, .slc .. => some false
    | some (.slice _), .slc .., .nils => some false
    | some (.slice _), .nils, .slz .. => some false
    | some (.slice _), .slz .., .nils => some false
    | some (.map _ _), .nilm, .nilm => some true
    | some (.map _ _), .nilm, .map _ => some false
    | some (.map _ _), .map _, .nilm => some false
    | some (.func ..), .nilf, .nilf => some true
    | some (.func ..), .nilf, .fn .. => some false
    | some (.func ..), .fn .., .nilf => some false
    | some (.pointer te), .ptr b o, .ptr c p => if Nat.beq b.nat c.nat then (match sizeT P te with | some (_ + 1) => some (Nat.beq o p) | _ => none) else none
    | some (.struct _), .agg xs, .agg ys => if P.stoodInHeld t then none else eqFs P (eqA d) xs ys (fieldsA P t)
    | _, _, _ => none
end
section
variable {P : Program} {ρ : Ren}
theorem conc_slz {b : Pos} {o p : Nat} {u : Value} (h : conc ρ (.slz b o p) = some u) : ∃ k d x, ρ.at_ b = some (k, d, x) ∧ u = (if x = 0 then .slice (some ⟨k, d + p, none⟩) 0 0 else .slice (some ⟨k, d + o, none⟩) 0 x) := by
  unfold conc at h
  split at h
  · rename_i k d x hb; injection h with h; exact ⟨k, d, x, hb, h.symm⟩
  · cases h
theorem conc_slz' {b : Pos} {o p : Nat} {u : Value} (h : conc ρ (.slz b o p) = some u) : ∃ a c, u = .slice (some a) 0 c := by
  obtain ⟨k, d, x, _, rfl⟩ := conc_slz h
  split <;> exact ⟨_, _, rfl⟩
theorem conc_map {b : Pos} {u : Value} (h : conc ρ (.map b) = some u) : ∃ k d x, ρ.at_ b = some (k, d, x) ∧ u = .map (some k) := by
  unfold conc at h
  split at h
  · rename_i k d x hb; injection h with h; exact ⟨k, d, x, hb, h.symm⟩
  · cases h
theorem conc_fn {f : FuncId} {l m : List AV} {u : Value} (h : conc ρ (.fn f l m) = some u) : ∃ x y, concs ρ l = some x ∧ concs ρ m = some y ∧ u = .func (.func f) x.toArray y.toArray := by
  unfold conc at h
  split at h
  · rename_i x y h1 h2; injection h with h; exact ⟨x, y, h1, h2, h.symm⟩
  · cases h
theorem run_eqFs {d : Nat} {rec : TypeId → AV → AV → Option Bool} (hrec : ∀ t x y b u v, rec t x y = some b → conc ρ x = some u → conc ρ y = some v → ∀ w, (Op.equalIn d t u v).run P w = .ok b w)
    {l m : List AV} {xs ys : List Value} (hx : concs ρ l = some xs) (hy : concs ρ m = some ys) : ∀ (fs : List Field) {b : Bool}, eqFs P rec l m (fs.filter fun f => f.name != "_") = some b →
      ∀ w, (Op.eqFields d xs.toArray ys.toArray fs).run P w = .ok b w
  | [], b, h, w => by injection h with h; subst h; rfl
  | f :: fs, b, h, w => by
    by_cases hn : f.name = "_"
    · rw [List.filter_cons_of_neg (by simp [hn])] at h
      simp only [Op.eqFields, hn, ne_eq, not_true_eq_false, if_false]
      exact run_eqFs hrec hx hy fs h w
    · rw [List.filter_cons_of_pos (by simp [hn])] at h
      unfold eqFs at h
      simp only [Op.eqFields, ne_eq, hn, not_false_eq_true, if_true]
      split at h
      · rename_i a c ha hc
        obtain ⟨u, hu, hru⟩ := run_part hx ha
        obtain ⟨v, hv, hrv⟩ := run_part hy hc
        simp only [Sem.run_bind, hru, hrv, Result.andThen_ok]
        split at h
        · rename_i hr
          rw [hrec _ _ _ _ _ _ hr hu hv]
          simp only [Result.andThen_ok, Bool.not_true, Bool.false_eq_true, if_false]
          exact run_eqFs hrec hx hy fs h w
        · rename_i hr
          cases hb : b with
          | false =>
            rw [hb] at h
            rw [hrec _ _ _ _ _ _ h hu hv]
            simp
          | true => rw [hb] at h; exact absurd h hr
      · cases h
theorem run_eqA : ∀ (d : Nat) {t : TypeId} {x y : AV} {b : Bool} {u v : Value}, eqA P d t x y = some b → conc ρ x = some u → conc ρ y = some v → ∀ D, d ≤ D → ∀ w, (Op.equalIn D t u v).run P w = .ok b w
  | 0, _, _, _, _, _, _, h, _, _, _, _, _ => by cases h
  | d + 1, t, x, y, b, u, v, h, hx, hy, 0, hD, w => by omega
  | d + 1, t, x, y, b, u, v, h, hx, hy, D + 1, hD, w => by
    unfold eqA at h
    split at h
    · rename_i hu; injection h with h; subst h; rw [conc_bool hx, conc_bool hy]; exact run_equalIn_bool w D t _ _ hu
    · rename_i hu
      split at h
      · rename_i hk; subst hk; injection h with h; subst h; rw [conc_int hx, conc_int hy]; exact run_equalIn_int w D t _ _ _ _ hu
      · cases h
    · rename_i hu
      injection h with h; subst h
      obtain ⟨h1, rfl⟩ := conc_str hx
      obtain ⟨h2, rfl⟩ := conc_str hy
      rw [run_equalIn_string w D t _ _ hu, beq_str h1 h2]
    · rename_i hu; injection h with h; subst h; cases hx; cases hy; simp [Op.equalIn, run_underlying hu]
    · rename_i hu; injection h with h; subst h; cases hx; obtain ⟨_, _, _, _, rfl⟩ := conc_ptr hy; simp [Op.equalIn, run_underlying hu]
    · rename_i hu; injection h with h; subst h; cases hy; obtain ⟨_, _, _, _, rfl⟩ := conc_ptr hx; simp [Op.equalIn, run_underlying hu]
    · rename_i hu; injection h with h; subst h; cases hx; cases hy; simp [Op.equalIn, run_underlying hu]
    · rename_i hu; injection h with h; subst h; cases hx; obtain ⟨_, _, _, _, rfl⟩ := conc_slc hy; simp [Op.equalIn, run_underlying hu]
    · rename_i hu; injection h with h; subst h; cases hy; obtain ⟨_, _, _, _, rfl⟩ := conc_slc hx; simp [Op.equalIn, run_underlying hu]
    · rename_i hu; injection h with h; subst h; cases hx; obtain ⟨_, _, rfl⟩ := conc_slz' hy; simp [Op.equalIn, run_underlying hu]
    · rename_i hu; injection h with h; subst h; cases hy; obtain ⟨_, _, rfl⟩ := conc_slz' hx; simp [Op.equalIn, run_underlying hu]
    · rename_i hu; injection h with h; subst h; cases hx; cases hy; simp [Op.equalIn, run_underlying hu]
    · rename_i hu; injection h with h; subst h; cases hx; obtain ⟨_, _, _, _, rfl⟩ := conc_map hy; simp [Op.equalIn, run_underlying hu]
    · rename_i hu; injection h with h; subst h; cases hy; obtain ⟨_, _, _, _, rfl⟩ := conc_map hx; simp [Op.equalIn, run_underlying hu]
    · rename_i hu; injection h with h; subst h; cases hx; cases hy; simp [Op.equalIn, run_underlying hu]
    · rename_i hu; injection h with h; subst h; cases hx; obtain ⟨_, _, _, _, rfl⟩ := conc_fn hy; simp [Op.equalIn, run_underlying hu]
    · rename_i hu; injection h with h; subst h; cases hy; obtain ⟨_, _, _, _, rfl⟩ := conc_fn hx; simp [Op.equalIn, run_underlying hu]
    · rename_i te b' o c p hu
      split at h
      · rename_i hbc
        have hbc := Pos.nat_inj (Nat.eq_of_beq_eq_true hbc)
        subst hbc
        split at h
        · rename_i z hz
          injection h with h; subst h
          obtain ⟨k, d1, x1, e1, rfl⟩ := conc_ptr hx
          obtain ⟨k', d2, x2, e2, rfl⟩ := conc_ptr hy
          rw [e1] at e2; injection e2 with e2; injection e2 with e2 e3; injection e3 with e3 e4
          subst e2; subst e3
          have hi : ∃ j, P.info? te = some j ∧ j.size = z + 1 := by
            unfold sizeT at hz
            split at hz
            · rename_i i hi; injection hz with hz; exact ⟨i, hi, hz⟩
            · cases hz
          obtain ⟨j, hj, hjz⟩ := hi
          have hs : (sameAddr ⟨k, d1 + o, none⟩ ⟨k, d1 + p, none⟩).run P w = .ok (Nat.beq o p) w := by
            have : ((⟨k, d1 + o, none⟩ : Addr) == ⟨k, d1 + p, none⟩) = Nat.beq o p := by
              rw [Bool.eq_iff_iff, beq_iff_eq, Nat.beq_eq]
              constructor
              · intro h; injection h with h1 h2; omega
              · intro h; rw [h]
            simp [sameAddr, this]
          simp [Op.equalIn, run_underlying hu, sizeOf, typeInfo, hj, hs, hjz]
        · cases h
      · cases h
    · rename_i fs xs ys hu
      split at h
      · cases h
      · rename_i hst
        obtain ⟨us, hus, rfl⟩ := conc_agg hx
        obtain ⟨vs, hvs, rfl⟩ := conc_agg hy
        have hf : P.underlying t = some (.struct (P.fieldsOf t)) := by unfold Program.fieldsOf; simp only [hu]
        rw [run_equalIn_struct w D t _ _ hf (by simpa using hst)]
        exact run_eqFs (fun t x y b u v h1 h2 h3 => run_eqA d h1 h2 h3 D (by omega)) hus hvs _ h w
    · cases h

/-- == and != -/
def isEq : BinOp → Bool | .eql => true | .neq => true | _ => false
def eqOp (P : Program) (op : BinOp) (t : TypeId) (x y : AV) : Option AV :=
  match eqA P 20 t x y with
  | some b => (match op with | .eql => some (.bool b) | .neq => some (.bool !b) | _ => none)
  | none => none
def nconst : Operand → Bool | .const _ => true | _ => false
/-- nothing stands guard at this comparison -/
def guardOk (P : Program) (t : TypeId) (x : AV) : Bool := match x with | .nili => false | .sym _ => false | .res .. => false | .ifc .. => false | .agg _ => !(P.eqGuardType P.depth t) | _ => true
def binA (P : Program) (op : BinOp) (t : TypeId) (x y : AV) : Option AV :=
  match x, y with
  | .int k a, .int j b => (match op with | .shl => shI .shl k a b | .shr => shI .shr k a b | op => if k = j then binI op k a b else none)
  | .str a, .str b => binS op a b
  | .res _ k m r, .int j b => (match op with | .rem => if k = j ∧ b = (m : Int) ∧ 0 < m then some (.int k (r : Int)) else none | _ => none)
  | x, y => if guardOk P t x then eqOp P op t x y else none
theorem run_guard {op : BinOp} {t : TypeId} {x : AV} {u v : Value} (p q : Operand) (h : guardOk P t x = true) (hx : conc ρ x = some u) (w : World) : (eqGuard op t p q u v).run P w = .ok () w := by
  have key : (∀ a b, u ≠ .nilIface ∧ u ≠ .iface a b) → (∀ cs, u = .agg cs → P.eqGuardType P.depth t = false) → (eqGuard op t p q u v).run P w = .ok () w := by
    intro h1 h2
    unfold eqGuard
    cases hop : (!(match op with | .eql | .neq => true | _ => false)) with
    | true => simp
    | false =>
      simp only [Bool.false_eq_true, if_false]
      cases u with
      | nilIface => exact absurd rfl (h1 0 .nilIface).1
      | agg cs =>
        cases v <;> simp [run_program, h2 cs rfl]
      | _ => simp
  unfold guardOk at h
  split at h
  all_goals first
    | (cases h; done)
    | skip
  · obtain ⟨xs, _, rfl⟩ := conc_agg hx
    refine key (fun a b => ⟨by simp, by simp⟩) (fun cs e => ?_)
    simpa using h
  · rename_i n1 n2 n3 n4 n5
    refine key (fun a b => ⟨?_, ?_⟩) (fun cs e => ?_)
    all_goals
      first
        | intro e
        | skip
      subst e
      cases x <;> first
        | exact (n1 rfl).elim
        | exact (n2 _ rfl).elim
        | exact (n3 _ _ _ _ rfl).elim
        | exact (n4 _ _ rfl).elim
        | exact (n5 _ rfl).elim
        | (unfold conc at hx; injection hx with hx; cases hx; done)
        | (unfold conc at hx; split at hx <;> first | (cases hx; done) | (split at hx <;> cases hx; done) | (injection hx with hx; split at hx <;> cases hx; done))
/-- neither two integers, nor two floats, nor two strings -/
def odd2 : Value → Value → Bool
  | .int .., .int .. => false
  | .float .., .float .. => false
  | .complex .., .complex .. => false
  | .string _, .string _ => false
  | _, _ => true
theorem bin_eql {t : TypeId} {u v : Value} (h : odd2 u v = true) : binOp .eql t u v = (do pure (.bool (← Op.equal t u v))) := by
  cases u <;> cases v <;> first | rfl | (cases h; done)
theorem bin_neq {t : TypeId} {u v : Value} (h : odd2 u v = true) : binOp .neq t u v = (do pure (.bool (!(← Op.equal t u v)))) := by
  cases u <;> cases v <;> first | rfl | (cases h; done)
theorem eqA_odd {d : Nat} {t : TypeId} {x y : AV} {b : Bool} {u v : Value} (h : eqA P d t x y = some b) (hx : conc ρ x = some u) (hy : conc ρ y = some v)
    (h1 : ∀ k a j c, x = .int k a → y = .int j c → False) (h2 : ∀ a c, x = .str a → y = .str c → False) : odd2 u v = true := by
  cases d with
  | zero => cases h
  | succ d =>
    unfold eqA at h
    split at h
    · rw [conc_bool hx]; rfl
    · exact (h1 _ _ _ _ rfl rfl).elim
    · exact (h2 _ _ rfl rfl).elim
    all_goals first
      | (cases hx; rfl)
      | (obtain ⟨_, _, _, _, rfl⟩ := conc_ptr hx; rfl)
      | (obtain ⟨_, _, _, _, rfl⟩ := conc_slc hx; rfl)
      | (obtain ⟨_, _, rfl⟩ := conc_slz' hx; rfl)
      | (obtain ⟨_, _, _, _, rfl⟩ := conc_map hx; rfl)
      | (obtain ⟨_, _, _, _, rfl⟩ := conc_fn hx; rfl)
      | (obtain ⟨_, _, rfl⟩ := conc_agg hx; rfl)
      | (cases h; done)
theorem run_binA {op : BinOp} {t : TypeId} {x y v : AV} {u u' : Value} (p q : Operand) (h : binA P op t x y = some v) (hx : conc ρ x = some u) (hy : conc ρ y = some u') :
    ∃ z, conc ρ v = some z ∧ ∀ w, (eqGuard op t p q u u').run P w = .ok () w ∧ (binOp op t u u').run P w = .ok z w := by
  unfold binA at h
  split at h
  · rename_i k a j b
    have hg : guardOk P t (.int k a) = true := rfl
    rw [conc_int hy]
    have hxx := hx
    rw [conc_int hx] at hxx ⊢
    split at h
    · obtain ⟨z, h1, h2⟩ := shI_run (ρ := ρ) (P := P) (t := t) (j := j) h; exact ⟨z, h1, fun w => ⟨run_guard p q hg hxx w, h2 w⟩⟩
    · obtain ⟨z, h1, h2⟩ := shI_run (ρ := ρ) (P := P) (t := t) (j := j) h; exact ⟨z, h1, fun w => ⟨run_guard p q hg hxx w, h2 w⟩⟩
    · split at h
      · rename_i hk; subst hk
        obtain ⟨z, h1, h2⟩ := binI_run (ρ := ρ) (P := P) (t := t) h; exact ⟨z, h1, fun w => ⟨run_guard p q hg hxx w, h2 w⟩⟩
      · cases h
  · rename_i a b
    have hg : guardOk P t (.str a) = true := rfl
    obtain ⟨h1, rfl⟩ := conc_str hx
    obtain ⟨h2, rfl⟩ := conc_str hy
    obtain ⟨z, h3, h4⟩ := binS_run (ρ := ρ) (P := P) h1 h2 h
    refine ⟨z, h3, fun w => ⟨run_guard p q hg hx w, ?_⟩⟩
    rw [← h4 w]
    cases op <;> rfl
  · rename_i jj k m r j b
    split at h
    · split at h
      · rename_i hc
        obtain ⟨rfl, rfl, hm⟩ := hc
        injection h with h; subst h
        have hux : ∃ x : Int, u = .int k x ∧ 0 ≤ x ∧ x % (m : Int) = (r : Int) := by
          unfold conc at hx
          split at hx
          · split at hx
            · rename_i hc; injection hx with hx; exact ⟨_, hx.symm, hc.2⟩
            · cases hx
          · cases hx
        obtain ⟨x, rfl, hx0, hxr⟩ := hux
        have hmod : x.tmod (m : Int) = (r : Int) := by rw [Int.tmod_eq_emod_of_nonneg hx0]; exact hxr
        have h : binI .rem k x (m : Int) = some (.int k (r : Int)) := by
          simp only [binI]
          rw [if_neg (by omega), hmod]
        obtain ⟨z, h1, h2⟩ := binI_run (ρ := ρ) (P := P) (t := t) h
        rw [conc_int hy]
        have hg : guardOk P t (.int k x) = true := rfl
        exact ⟨z, h1, fun w => ⟨run_guard (ρ := ρ) p q hg rfl w, h2 w⟩⟩
      · cases h
    · cases h
  · split at h
    · rename_i n1 n2 n3 hg
      unfold eqOp at h
      split at h
      · rename_i b hb
        have hr := run_eqA 20 hb hx hy 10000 (by omega)
        have ho := eqA_odd hb hx hy (fun k a j c e1 e2 => n1 k a j c e1 e2) (fun a c e1 e2 => n2 a c e1 e2)
        split at h
        · injection h with h; subst h
          refine ⟨_, rfl, fun w => ⟨run_guard p q hg hx w, ?_⟩⟩
          rw [bin_eql ho]
          simp [Op.equal, Op.maxDepth, hr]
        · injection h with h; subst h
          refine ⟨_, rfl, fun w => ⟨run_guard p q hg hx w, ?_⟩⟩
          rw [bin_neq ho]
          simp [Op.equal, Op.maxDepth, hr]
        · cases h
      · cases h
    · cases h
end
end Go.Proofs.Ytlpnhikoipkjbaa.Abs
