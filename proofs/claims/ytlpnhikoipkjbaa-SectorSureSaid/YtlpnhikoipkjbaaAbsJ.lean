/- Operations that make one new block. No conditions. -/
import Derived.Test.YtlpnhikoipkjbaaAbsI
import Derived.Laws.MakeOwn
import Derived.Deep.Draws
set_option linter.unusedVariables false
namespace Go.Proofs.Ytlpnhikoipkjbaa.Abs
open Go Go.RowKit
/-- strict: a number, written out -/
noncomputable def forceN {R : Type} (n : Nat) (k : Nat → R) : R := Nat.rec (motive := fun _ => R) (k 0) (fun m _ => k (Nat.succ m)) n
theorem forceN_eq {R : Type} (n : Nat) (k : Nat → R) : forceN n k = k n := by cases n <;> rfl
noncomputable def fillT : List AV → Nat → PT AV → PT AV
  | [], _, t => t
  | v :: l, i, t => fillT l (i + 1) (PT.set v (pk i) t)
noncomputable def rowK {R : Type} : List AV → Nat → PT AV → (PT AV → Nat → R) → R
  | [], i, t, k => forceN i fun i => k t i
  | v :: l, i, t, k => PT.setK v (pk i) t fun t => rowK l (i + 1) t k
theorem rowK_eq {R : Type} : ∀ (l : List AV) (i : Nat) (t : PT AV) (k : PT AV → Nat → R), rowK l i t k = k (fillT l i t) (i + l.length)
  | [], i, t, k => by simp [rowK, forceN_eq, fillT]
  | v :: l, i, t, k => by
    simp only [rowK, PT.setK_eq, fillT]
    rw [rowK_eq l (i + 1)]
    simp [Nat.add_assoc, Nat.add_comm 1]
theorem fillT_get : ∀ (l : List AV) (i : Nat) (t : PT AV) (j : Nat), PT.get (pk j) (fillT l i t) = if i ≤ j ∧ j < i + l.length then l[j - i]? else PT.get (pk j) t
  | [], i, t, j => by
    simp only [fillT, List.length_nil]
    rw [if_neg (by omega)]
  | v :: l, i, t, j => by
    rw [fillT, fillT_get l (i + 1), PT.get_set]
    by_cases h1 : i + 1 ≤ j ∧ j < i + 1 + l.length
    · rw [if_pos h1, if_pos (by simp only [List.length_cons]; omega)]
      rw [show j - i = (j - (i + 1)) + 1 by omega]
      simp
    · rw [if_neg h1]
      by_cases h2 : j = i
      · subst h2
        rw [if_pos rfl, if_pos (by simp only [List.length_cons]; omega)]
        simp
      · rw [if_neg (fun e => h2 (pk_inj e)), if_neg (by simp only [List.length_cons]; omega)]
theorem fillT_cell (l : List AV) (d : Option AV) (j : Nat) (h : j < l.length) : cellA (fillT l 0 .lf) d j = l[j]? := by
  unfold cellA
  rw [fillT_get, if_pos (by omega), Nat.sub_zero, List.getElem?_eq_getElem h]
theorem objC_row {ρ : Ren} {l : List AV} {xs : List Value} (h : concs ρ l = some xs) (x : Nat) (t : TypeId) : ObjC ρ 0 x (.row (fillT l 0 .lf) l.length none 0 (some t)) (.cells xs.toArray t (0, 0)) := by
  refine ⟨fun i hi => ?_, fun i hi => by simp at hi, fun e he => ⟨by cases he; rfl, rfl⟩⟩
  obtain ⟨u, h1, h2⟩ := concs_get h (List.getElem?_eq_getElem hi)
  exact ⟨l[i], u, by rw [fillT_cell l none i hi, List.getElem?_eq_getElem hi], h2, by simpa using h1, by simp⟩
/-- one value again and again -/
def sameA : AV → AV → Bool
  | .int j a, .int k b => j == k && a == b
  | .bool a, .bool b => a == b
  | .nilp, .nilp => true
  | .nils, .nils => true
  | .nilm, .nilm => true
  | .nilf, .nilf => true
  | .nili, .nili => true
  | .str [], .str [] => true
  | _, _ => false
theorem sameA_eq {x y : AV} (h : sameA x y = true) : x = y := by
  unfold sameA at h
  split at h
  · simp only [Bool.and_eq_true, beq_iff_eq] at h; rw [h.1, h.2]
  · simp only [beq_iff_eq] at h; rw [h]
  all_goals first | rfl | (cases h; done)
noncomputable def zuni (P : Program) (t : TypeId) : Option (AV × Nat) :=
  match zeroA P t with
  | some (z :: l) => if l.all (sameA z) then some (z, l.length + 1) else none
  | _ => none
noncomputable def cycA (zs : List AV) (m : Nat) : List AV := (List.range m).map fun i => (zs[i % zs.length]?).getD .nilp
theorem zeroA_conc {P : Program} {ρ : Ren} {t : TypeId} {zs : List AV} (h : zeroA P t = some zs) : ∃ i z, P.info? t = some i ∧ i.zero = some z ∧ concs ρ zs = some z.cells.toList := by
  unfold zeroA at h
  split at h
  · rename_i i hi
    split at h
    · rename_i z hz
      exact ⟨i, z, hi, hz, mapM_concs (ofV_conc ρ 8) _ h⟩
    · cases h
  · cases h
theorem concs_of {ρ : Ren} : ∀ {l : List AV} {xs : List Value}, l.length = xs.length → (∀ i, i < l.length → ∃ v u, l[i]? = some v ∧ xs[i]? = some u ∧ conc ρ v = some u) → concs ρ l = some xs
  | [], [], _, _ => rfl
  | [], _ :: _, h, _ => by simp at h
  | _ :: _, [], h, _ => by simp at h
  | v :: l, x :: xs, h, k => by
    obtain ⟨v', u, h1, h2, h3⟩ := k 0 (by simp)
    simp at h1 h2
    subst h1; subst h2
    refine concs_mk h3 (concs_of (by simpa using h) fun i hi => ?_)
    obtain ⟨v', u, h1, h2, h3⟩ := k (i + 1) (by simpa using hi)
    exact ⟨v', u, by simpa using h1, by simpa using h2, h3⟩
theorem cycA_conc {ρ : Ren} {zs : List AV} {z : Array Value} (h : concs ρ zs = some z.toList) (hne : zs ≠ []) (m : Nat) : concs ρ (cycA zs m) = some (madeCells z m).toList := by
  have hl := concs_len h
  have hpos : 0 < zs.length := List.length_pos_iff.2 hne
  simp only [Array.length_toList] at hl
  refine concs_of (by simp [cycA, madeCells]) fun i hi => ?_
  have him : i < m := by simpa [cycA] using hi
  have hmod : i % zs.length < zs.length := Nat.mod_lt _ hpos
  obtain ⟨u, h1, h2⟩ := concs_get h (List.getElem?_eq_getElem hmod)
  refine ⟨zs[i % zs.length], u, ?_, ?_, h2⟩
  · simp [cycA, him, List.getElem?_eq_getElem hmod]
  · have h3 : i % z.size < z.size := by rw [hl]; exact hmod
    have h4 : z[i % z.size]? = some u := by
      rw [hl]; simpa using h1
    simp [madeCells, him, Array.getElem!_eq_getD, Array.getD_eq_getD_getElem?, h4]
/-- one new block, under the id b -/
noncomputable def allocK {R : Type} (P : Program) (a : PT AV) (op : Op) (b : Pos) (k : AO → AV → Option R) : Option R :=
  match op with
  | .box t x => (match ev a x with | some v => rowK (cellsA v) 0 .lf fun cs n => k (.row cs n none 0 (some t)) (.ptr b 0) | none => none)
  | .alloc t => (match zuni P t with
    | some (z, n) => k (.row .lf n (some z) 0 (some t)) (.ptr b 0)
    | none => (match zeroA P t with | some zs => rowK zs 0 .lf fun cs n => k (.row cs n none 0 (some t)) (.ptr b 0) | none => none))
  | .buildSlice t len parts => (match P.underlying t with
    | some (.slice e) => (match sizeT P e, zeroA P e, evParts a parts.toList with
      | some z, some zs, some ps => if 0 < z ∧ zs.length = z ∧ len * z < 16777216 then
          (match fillA (fun i => some (i * z, z)) (cycA zs (len * z)) ps with | some r => rowK r 0 .lf fun cs n => k (.row cs n none 0 (some e)) (.slc b 0 len len true) | none => none) else none
      | _, _, _ => none)
    | _ => none)
  | .makeMap t none => k (.map [] 0) (.map b)
  | .makeSlice t l c => (match P.underlying t, ev a l, ev a c with
    | some (.slice e), some (.int _ l), some (.int _ c) => (match sizeT P e, (P.info? e).map (·.bytes) with
      | some z, some by_ => if 0 ≤ l ∧ l ≤ c ∧ (by_ : Int) * c ≤ 1048576 ∧ c ≤ 1048576 then
          forceN l.toNat fun l => forceN c.toNat fun c =>
          (match zuni P e with
          | some (v, _) => forceN (c * z) fun m => k (.row .lf m (some v) 0 (some e)) (.slc b 0 l c true)
          | none => (match zeroA P e with | some (v :: zs) => rowK (cycA (v :: zs) (c * z)) 0 .lf fun cs n => k (.row cs n none 0 (some e)) (.slc b 0 l c true) | _ => none)) else none
      | _, _ => none)
    | _, _, _ => none)
  | .convert s d x => (match P.underlying s, P.underlying d, ev a x with
    | some .string, some (.slice e), some (.str l) => (match P.underlying e with
      | some (.int .u8) => rowK (l.map fun (c : Nat) => AV.int .u8 (Int.ofNat c)) 0 .lf fun cs n => k (.row cs n none 1 (some e)) (.slc b 0 n n false)
      | _ => none)
    | _, _, _ => none)
  | _ => none
section
variable {P : Program} {ρ : Ren}
/-- what a new block is -/
def Made (P : Program) (o : Oper) (ρ : Ren) (A : Act) (b : Pos) (ao : AO) (v : AV) : Prop :=
  ∀ w : World, ∃ m x obj u, (execOp A.eval o).run P w = .ok (.value u) ((w.drewN m).alloc obj) ∧ ObjC (ρ.put b (w.heap.size, 0, x)) 0 x ao obj ∧ conc (ρ.put b (w.heap.size, 0, x)) v = some u
theorem made_row {o : Oper} {A : Act} {b : Pos} {l : List AV} {xs : List Value} {t : TypeId} (hb : ρ.at_ b = none) (hl : concs ρ l = some xs)
    (hr : ∀ w, (execOp A.eval o).run P w = .ok (.value (.pointer (some ⟨w.heap.size, 0, none⟩))) (w.alloc (.cells xs.toArray t))) : Made P o ρ A b (.row (fillT l 0 .lf) (0 + l.length) none 0 (some t)) (.ptr b 0) :=
  fun w => ⟨0, 0, _, _, hr w, by rw [Nat.zero_add]; exact objC_row (concs_le (Ren.le_put _ hb) _ hl) 0 t, by rw [ptr_conc (Ren.put_at _ _ _)]⟩
theorem made_slc {o : Oper} {A : Act} {b : Pos} {l : List AV} {xs : List Value} {t : TypeId} {n c : Nat} (hb : ρ.at_ b = none) (hl : concs ρ l = some xs)
    (hr : ∀ w, (execOp A.eval o).run P w = .ok (.value (.slice (some ⟨w.heap.size, 0, none⟩) n c)) (w.alloc (.cells xs.toArray t))) : Made P o ρ A b (.row (fillT l 0 .lf) (0 + l.length) none 0 (some t)) (.slc b 0 n c true) :=
  fun w => ⟨0, 0, _, _, hr w, by rw [Nat.zero_add]; exact objC_row (concs_le (Ren.le_put _ hb) _ hl) 0 t, by rw [slc_conc (Ren.put_at _ _ _)]; rfl⟩
theorem run_zero {t : TypeId} {i : TypeInfo} {z : Value} (hi : P.info? t = some i) (hz : i.zero = some z) (w : World) : (zeroValue t).run P w = .ok z w := by simp [zeroValue, typeInfo, hi, hz]
theorem run_newVar {t : TypeId} {v : Value} (w : World) : (newVar t v).run P w = .ok ⟨w.heap.size, 0, none⟩ (w.alloc (.cells v.cells t)) := by
  simp [newVar, newRow]
theorem zuni_cells {t : TypeId} {z : AV} {n : Nat} (h : zuni P t = some (z, n)) : ∃ i v, P.info? t = some i ∧ i.zero = some v ∧ n = v.cells.size ∧ 0 < n ∧ ∀ (ρ : Ren), ∃ u, conc ρ z = some u ∧ ∀ j, j < n → v.cells[j]? = some u := by
  unfold zuni at h
  split at h
  · rename_i z0 l hz
    split at h
    · rename_i hall
      injection h with h
      injection h with h h'
      subst h
      obtain ⟨i, v, h1, h2, _⟩ := zeroA_conc (ρ := ⟨fun _ => none, fun _ => .bool true, by simp⟩) hz
      have key : ∀ (ρ : Ren), concs ρ (z0 :: l) = some v.cells.toList := fun ρ => by
        obtain ⟨i', v', h1', h2', h3'⟩ := zeroA_conc (ρ := ρ) hz
        rw [h1] at h1'; injection h1' with h1'; subst h1'
        rw [h2] at h2'; injection h2' with h2'; subst h2'
        exact h3'
      have hlen := concs_len (key ⟨fun _ => none, fun _ => .bool true, by simp⟩)
      simp only [Array.length_toList, List.length_cons] at hlen
      refine ⟨i, v, h1, h2, by omega, by omega, fun ρ => ?_⟩
      obtain ⟨u, us, hus, h4, h5⟩ := concs_cons (key ρ)
      refine ⟨u, h4, fun j hj => ?_⟩
      have hj' : j < (z0 :: l).length := by simp; omega
      obtain ⟨u', h6, h7⟩ := concs_get (key ρ) (List.getElem?_eq_getElem hj')
      have he : (z0 :: l)[j] = z0 := by
        cases j with
        | zero => rfl
        | succ j =>
          have hm : (z0 :: l)[j + 1] ∈ l := by simp
          exact (sameA_eq (List.all_eq_true.1 hall _ hm)).symm
      rw [he, h4] at h7
      injection h7 with h7
      subst h7
      simpa using h6
    · cases h
  · cases h
theorem objC_uni {ρ : Ren} {z : AV} {u : Value} (h : conc ρ z = some u) {cc : Array Value} {n : Nat} (hc : ∀ j, j < n → cc[j]? = some u) (x : Nat) (t : TypeId) : ObjC ρ 0 x (.row .lf n (some z) 0 (some t)) (.cells cc t (0, 0)) :=
  ⟨fun i hi => ⟨z, u, by simp [cellA, PT.get_lf], h, by simpa using hc i hi, by simp⟩, fun i hi => by simp at hi, fun e he => ⟨by cases he; rfl, rfl⟩⟩
theorem range_map_get {α : Type} (f : Nat → α) (n i : Nat) (h : i < n) : ((List.range n).map f)[i]? = some (f i) := by simp [h]
theorem allocK_some {R : Type} {a : PT AV} {o : Oper} {b : Pos} {k : AO → AV → Option R} {r : R} (h : allocK P a o.op b k = some r) :
    ∃ ao v, k ao v = some r ∧ ∀ (ρ : Ren) (A : Act), Slots ρ a A → ρ.at_ b = none → Made P o ρ A b ao v := by
  unfold allocK at h
  split at h
  · rename_i t x ho
    split at h
    · rename_i v hv
      rw [rowK_eq] at h
      refine ⟨_, _, h, fun ρ A hs hb => ?_⟩
      obtain ⟨u, h1, h2⟩ := ev_conc hs hv
      refine made_row hb (cells_conc h1) (t := t) fun w => ?_
      simp [execOp, ho, h2, Instr.box, run_newVar]
    · cases h
  · rename_i t ho
    have small : ∀ zs, zeroA P t = some zs → rowK zs 0 .lf (fun cs n => k (.row cs n none 0 (some t)) (.ptr b 0)) = some r → ∃ ao v, k ao v = some r ∧ ∀ (ρ : Ren) (A : Act), Slots ρ a A → ρ.at_ b = none → Made P o ρ A b ao v := by
      intro zs hz h
      rw [rowK_eq] at h
      refine ⟨_, _, h, fun ρ A hs hb => ?_⟩
      obtain ⟨i, z, hi, hzz, hc⟩ := zeroA_conc (ρ := ρ) hz
      refine made_row hb hc (t := t) fun w => ?_
      simp [execOp, ho, Instr.alloc, run_zero hi hzz, run_newVar]
    split at h
    · rename_i z n hz
      obtain ⟨i, v, hi, hv, hn, hpos, hall⟩ := zuni_cells hz
      refine ⟨_, _, h, fun ρ A hs hb w => ?_⟩
      obtain ⟨u, h1, h2⟩ := hall ρ
      refine ⟨0, 0, .cells v.cells t, .pointer (some ⟨w.heap.size, 0, none⟩), ?_, objC_uni (conc_le (Ren.le_put _ hb) _ h1) h2 0 t, by rw [ptr_conc (Ren.put_at _ _ _)]⟩
      simp [execOp, ho, Instr.alloc, run_zero hi hv, run_newVar]
      rfl
    · split at h
      · rename_i zs hzs; exact small zs hzs h
      · cases h
  · rename_i t len parts ho
    split at h
    · rename_i e hu
      split at h
      · rename_i z zs ps hz hzs hps
        split at h
        · rename_i hc
          split at h
          · rename_i rr hr
            rw [rowK_eq] at h
            refine ⟨_, _, h, fun ρ A hs hb => ?_⟩
            obtain ⟨i, zv, hi, hzz, hcz⟩ := zeroA_conc (ρ := ρ) hzs
            have hne : zs ≠ [] := fun e => by subst e; simp at hc; omega
            obtain ⟨ys, h1, h2⟩ := fill_conc ps (evParts_conc hs _ hps) (cycA_conc hcz hne (len * z)) hr
            refine made_slc hb h1 (t := e) fun w => ?_
            have e1 : ¬ (2 ^ 24 < len * z) := by have := hc.2.2; omega
            have hsz := run_sizeOf (P := P) (w := w) hz
            unfold sizeT at hz
            rw [hi] at hz
            simp only [Option.some.injEq] at hz
            have hfl : Instr.fill (fun i => some (i * z, z)) (madeCells zv.cells (len * z)) (parts.toList.map fun p => (p.1, A.eval p.2)) = some ys.toArray := by simpa using h2
            by_cases h0 : len * z = 0
            · have hm : madeCells zv.cells (len * z) = #[] := by rw [h0]; simp [madeCells]
              rw [hm] at hfl
              have hr0 : Array.range 0 = #[] := by simp [Array.range]
              simp [execOp, ho, Instr.buildSlice, run_underlying hu, hsz, h0, newRow, hr0, hfl]
            · simp only [madeCells] at hfl
              simp [execOp, ho, Instr.buildSlice, run_underlying hu, hsz, e1, h0, newRow, run_zero hi hzz, hfl]
          · cases h
        · cases h
      · cases h
    · cases h
  · rename_i t ho
    refine ⟨_, _, h, fun ρ A hs hb w => ⟨0, 0, .map #[] 0, .map (some w.heap.size), ?_, ⟨rfl, trivial⟩, ?_⟩⟩
    · simp [execOp, ho, Instr.makeMap]; rfl
    · simp only [conc, Ren.put_at]
  · rename_i t l c ho
    split at h
    · rename_i e kl li kc ci hu hl hcv
      split at h
      · rename_i z by_ hz hby
        split at h
        · rename_i hc
          rw [forceN_eq, forceN_eq] at h
          obtain ⟨i, hi, hbi⟩ := Option.map_eq_some_iff.1 hby
          have hzi : i.size = z := by unfold sizeT at hz; rw [hi] at hz; simpa using hz
          have core : ∀ (ρ : Ren) (A : Act) zv, Slots ρ a A → i.zero = some zv → ∀ w, (execOp A.eval o).run P w = .ok (.value (.slice (some ⟨w.heap.size, 0, none⟩) li.toNat ci.toNat)) (w.alloc (.cells (madeCells zv.cells (ci.toNat * z)) e)) := by
            intro ρ A zv hs hzv w
            obtain ⟨u, h3, h4⟩ := ev_conc hs hl
            obtain ⟨u2, h5, h6⟩ := ev_conc hs hcv
            cases h3; cases h5
            have := run_make (P := P) w t e i zv hu hi hzv kl kc li ci hc.1 hc.2.1 (by rw [hbi]; omega) (by omega)
            rw [hzi] at this
            simp [execOp, ho, h4, h6, this]
          split at h
          · rename_i v vn hv
            rw [forceN_eq] at h
            obtain ⟨i', zv, hi', hzv, hn, hpos, hall⟩ := zuni_cells hv
            rw [hi] at hi'; injection hi' with hi'; subst hi'
            refine ⟨_, _, h, fun ρ A hs hb w => ?_⟩
            obtain ⟨u, h1, h2⟩ := hall ρ
            refine ⟨0, 0, _, _, core ρ A zv hs hzv w, objC_uni (u := u) (conc_le (Ren.le_put _ hb) _ h1) (fun j hj => ?_) 0 e, by rw [slc_conc (Ren.put_at _ _ _)]; rfl⟩
            have hm : j % zv.cells.size < vn := by rw [hn]; exact Nat.mod_lt _ (by omega)
            have h3 := h2 _ hm
            simp [madeCells, hj, Array.getElem!_eq_getD, Array.getD_eq_getD_getElem?, h3]
          · split at h
            · rename_i v zs hzs
              rw [rowK_eq] at h
              refine ⟨_, _, h, fun ρ A hs hb => ?_⟩
              obtain ⟨i', zv, hi', hzv, hcz⟩ := zeroA_conc (ρ := ρ) hzs
              rw [hi] at hi'; injection hi' with hi'; subst hi'
              exact made_slc hb (cycA_conc hcz (by simp) _) (t := e) (fun w => by simpa using core ρ A zv hs hzv w)
            · cases h
        · cases h
      · cases h
    · cases h
  · rename_i s d x ho
    split at h
    · rename_i e l hs0 hd hx
      split at h
      · rename_i he
        rw [rowK_eq] at h
        refine ⟨_, _, h, fun ρ A hs hb w => ?_⟩
        obtain ⟨u, h3, h4⟩ := ev_conc hs hx
        obtain ⟨hl, rfl⟩ := conc_str h3
        have hge := grownCap_ge w (strOf l).size 0 e
        have hrun := run_bytes_of_string (P := P) w s d e (strOf l) hs0 hd he
        rw [strOf_size] at hge
        have hbr : ∀ j, j < l.length → ∃ c, l[j]? = some c ∧ (bytesRow (strOf l) (grownCap w (strOf l).size 0 e))[j]? = some (.int .u8 (c : Int)) := fun j hj => by
          refine ⟨l[j], List.getElem?_eq_getElem hj, ?_⟩
          have hsz : j < (strOf l).data.size := by simpa [strOf] using hj
          have hlt : l[j] < 256 := by simpa using List.all_eq_true.1 hl l[j] (List.getElem_mem hj)
          unfold bytesRow
          rw [Array.getElem?_append_left (by simpa using hsz)]
          simp [strOf, hj, UInt8.toNat_ofNat', Nat.mod_eq_of_lt hlt]
        have hbs : (bytesRow (strOf l) (grownCap w (strOf l).size 0 e)).size = grownCap w (strOf l).size 0 e := by
          unfold bytesRow
          have := strOf_size l
          have h2 : (strOf l).data.size = l.length := by simp [strOf]
          simp only [Array.size_append, Array.size_map, Array.size_replicate, h2]
          rw [this]
          omega
        have hlen : (List.map (fun (c : Nat) => AV.int .u8 (Int.ofNat c)) l).length = l.length := by simp
        refine ⟨1, grownCap w (strOf l).size 0 e - l.length, .cells (bytesRow (strOf l) (grownCap w (strOf l).size 0 e)) e ((bytesRow (strOf l) (grownCap w (strOf l).size 0 e)).size, (bytesRow (strOf l) (grownCap w (strOf l).size 0 e)).size + 1), .slice (some ⟨w.heap.size, 0, none⟩) (strOf l).size (grownCap w (strOf l).size 0 e), ?_, ?_, ?_⟩
        · simp only [execOp, ho, h4, Sem.run_bind, hrun, Result.andThen_ok, Sem.run_pure]
          rfl
        · rw [strOf_size] at hbs hbr ⊢
          refine ⟨fun i hi => ?_, fun i hi => ?_, fun e he => ⟨by cases he; rfl, rfl⟩⟩
          · have hi' : i < l.length := by simpa using hi
            obtain ⟨c, h5, h6⟩ := hbr i hi'
            refine ⟨.int .u8 (Int.ofNat c), .int .u8 (c : Int), ?_, rfl, by simpa using h6, by simp only [hbs]; omega⟩
            rw [fillT_cell _ _ _ (by simpa using hi')]
            simp [h5]
          · simp only [hbs]
            simp only [hlen, Nat.zero_add, Nat.mul_one] at hi ⊢
            omega
        · rw [slc_conc (Ren.put_at _ _ _)]
          rw [strOf_size]
          simp only [hlen, Nat.zero_add]
          rw [show l.length + (grownCap w l.length 0 e - l.length) = grownCap w l.length 0 e by omega]
          simp
      · cases h
    · cases h
  · cases h
end
end Go.Proofs.Ytlpnhikoipkjbaa.Abs
