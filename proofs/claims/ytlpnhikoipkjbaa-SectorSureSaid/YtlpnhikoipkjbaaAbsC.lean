/- More pure operations on abstract values: structs, places, slices; that they are the model's. No conditions. -/
import Derived.Test.YtlpnhikoipkjbaaAbsB
set_option linter.unusedVariables false
namespace Go.Proofs.Ytlpnhikoipkjbaa.Abs
open Go
theorem concs_len {ρ : Ren} : ∀ {l : List AV} {xs : List Value}, concs ρ l = some xs → xs.length = l.length
  | [], xs, e => by cases e; rfl
  | v :: l, xs, e => by
    unfold concs at e
    split at e
    · rename_i h1 h2; injection e with e; subst e; simp [concs_len h2]
    · cases e
theorem concs_cons {ρ : Ren} {v : AV} {l : List AV} {xs : List Value} (e : concs ρ (v :: l) = some xs) : ∃ y ys, xs = y :: ys ∧ conc ρ v = some y ∧ concs ρ l = some ys := by
  unfold concs at e
  split at e
  · rename_i h1 h2; injection e with e; exact ⟨_, _, e.symm, h1, h2⟩
  · cases e
theorem concs_mk {ρ : Ren} {v : AV} {l : List AV} {y : Value} {ys : List Value} (h : conc ρ v = some y) (k : concs ρ l = some ys) : concs ρ (v :: l) = some (y :: ys) := by
  simp only [concs, h, k]
theorem concs_app {ρ : Ren} : ∀ {l m : List AV} {xs ys : List Value}, concs ρ l = some xs → concs ρ m = some ys → concs ρ (l ++ m) = some (xs ++ ys)
  | [], m, xs, ys, e, k => by cases e; exact k
  | v :: l, m, xs, ys, e, k => by
    obtain ⟨y, ys', rfl, h1, h2⟩ := concs_cons e
    exact concs_mk h1 (concs_app h2 k)
theorem concs_get {ρ : Ren} : ∀ {l : List AV} {xs : List Value} {i : Nat} {v : AV}, concs ρ l = some xs → l[i]? = some v → ∃ y, xs[i]? = some y ∧ conc ρ v = some y
  | [], xs, i, v, e, h => by simp at h
  | u :: l, xs, 0, v, e, h => by
    obtain ⟨y, ys', rfl, h1, h2⟩ := concs_cons e
    simp at h; subst h
    exact ⟨y, rfl, h1⟩
  | u :: l, xs, i + 1, v, e, h => by
    obtain ⟨y, ys', rfl, h1, h2⟩ := concs_cons e
    obtain ⟨z, hz1, hz2⟩ := concs_get (i := i) h2 (by simpa using h)
    exact ⟨z, by simpa using hz1, hz2⟩
theorem concs_take {ρ : Ren} : ∀ {l : List AV} {xs : List Value} (n : Nat), concs ρ l = some xs → concs ρ (l.take n) = some (xs.take n)
  | [], xs, n, e => by cases e; simp [concs]
  | u :: l, xs, 0, e => by simp [concs]
  | u :: l, xs, n + 1, e => by
    obtain ⟨y, ys', rfl, h1, h2⟩ := concs_cons e
    simpa using concs_mk h1 (concs_take n h2)
theorem concs_drop {ρ : Ren} : ∀ {l : List AV} {xs : List Value} (n : Nat), concs ρ l = some xs → concs ρ (l.drop n) = some (xs.drop n)
  | [], xs, n, e => by cases e; simp [concs]
  | u :: l, xs, 0, e => by simpa using e
  | u :: l, xs, n + 1, e => by
    obtain ⟨y, ys', rfl, h1, h2⟩ := concs_cons e
    simpa using concs_drop n h2
theorem concs_set {ρ : Ren} : ∀ {l : List AV} {xs : List Value} (i : Nat) {v : AV} {y : Value}, concs ρ l = some xs → conc ρ v = some y → concs ρ (l.set i v) = some (xs.set i y)
  | [], xs, i, v, y, e, h => by cases e; simp [concs]
  | u :: l, xs, 0, v, y, e, h => by
    obtain ⟨z, ys', rfl, h1, h2⟩ := concs_cons e
    exact concs_mk h h2
  | u :: l, xs, i + 1, v, y, e, h => by
    obtain ⟨z, ys', rfl, h1, h2⟩ := concs_cons e
    exact concs_mk h1 (concs_set i h2 h)
def cellsA : AV → List AV
  | .agg l => l
  | v => [v]
theorem cells_conc {ρ : Ren} {v : AV} {u : Value} (h : conc ρ v = some u) : concs ρ (cellsA v) = some u.cells.toList := by
  cases v with
  | agg l =>
    unfold conc at h
    split at h
    · rename_i h1; injection h with h; subst h; simpa [cellsA, Value.cells] using h1
    · cases h
  | _ =>
    have hu : ∀ cs, u ≠ .agg cs := by
      intro cs e
      subst e
      first
        | (unfold conc at h; injection h with h; exact (ρ.one _ cs).1 h)
        | (unfold conc at h; injection h with h; cases h; done)
        | (unfold conc at h; split at h <;> first | (cases h; done) | (split at h <;> cases h; done) | (injection h with h; split at h <;> cases h; done))
    have hc : u.cells = #[u] := by cases u <;> first | rfl | exact absurd rfl (hu _)
    rw [hc]
    exact concs_mk h rfl
theorem addr_add (k o n : Nat) : (⟨k, o, none⟩ : Addr).add n = ⟨k, o + n, none⟩ := by
  unfold Addr.add
  split
  · rename_i h; subst h; rfl
  · rfl
theorem conc_ptr {ρ : Ren} {b : Pos} {o : Nat} {u : Value} (h : conc ρ (.ptr b o) = some u) : ∃ k d x, ρ.at_ b = some (k, d, x) ∧ u = .pointer (some ⟨k, d + o, none⟩) := by
  unfold conc at h
  split at h
  · rename_i k d x hb; injection h with h; exact ⟨k, d, x, hb, h.symm⟩
  · cases h
theorem ptr_conc {ρ : Ren} {b : Pos} {o k d x : Nat} (h : ρ.at_ b = some (k, d, x)) : conc ρ (.ptr b o) = some (.pointer (some ⟨k, d + o, none⟩)) := by
  simp only [conc, h]
theorem conc_slc {ρ : Ren} {b : Pos} {o n c : Nat} {e : Bool} {u : Value} (h : conc ρ (.slc b o n c e) = some u) : ∃ k d x, ρ.at_ b = some (k, d, x) ∧ u = .slice (some ⟨k, d + o, none⟩) n (if e then c else c + x) := by
  unfold conc at h
  split at h
  · rename_i k d x hb; injection h with h; exact ⟨k, d, x, hb, h.symm⟩
  · cases h
theorem slc_conc {ρ : Ren} {b : Pos} {o n c k d x : Nat} {e : Bool} (h : ρ.at_ b = some (k, d, x)) : conc ρ (.slc b o n c e) = some (.slice (some ⟨k, d + o, none⟩) n (if e then c else c + x)) := by
  simp only [conc, h]
theorem conc_agg {ρ : Ren} {l : List AV} {u : Value} (h : conc ρ (.agg l) = some u) : ∃ xs, concs ρ l = some xs ∧ u = .agg xs.toArray := by
  unfold conc at h
  split at h
  · rename_i xs hb; injection h with h; exact ⟨xs, hb, h.symm⟩
  · cases h
theorem agg_conc {ρ : Ren} {l : List AV} {xs : List Value} (h : concs ρ l = some xs) : conc ρ (.agg l) = some (.agg xs.toArray) := by simp only [conc, h]
theorem conc_tup {ρ : Ren} {l : List AV} {u : Value} (h : conc ρ (.tup l) = some u) : ∃ xs, concs ρ l = some xs ∧ u = .tuple xs.toArray := by
  unfold conc at h
  split at h
  · rename_i xs hb; injection h with h; exact ⟨xs, hb, h.symm⟩
  · cases h
theorem tup_conc {ρ : Ren} {l : List AV} {xs : List Value} (h : concs ρ l = some xs) : conc ρ (.tup l) = some (.tuple xs.toArray) := by simp only [conc, h]
theorem conc_int {ρ : Ren} {k : IntKind} {n : Int} {u : Value} (h : conc ρ (.int k n) = some u) : u = .int k n := by injection h with h; exact h.symm
theorem conc_bool {ρ : Ren} {b : Bool} {u : Value} (h : conc ρ (.bool b) = some u) : u = .bool b := by injection h with h; exact h.symm

section
variable (P : Program)
/-- a field's place in its struct -/
def fldOff (s : TypeId) (f : Nat) : Option Nat :=
  match P.underlying s with
  | some (.struct fields) => match fields[f]? with | some fd => (match sizeT P fd.type with | some (_ + 1) => some fd.offset | _ => none) | none => none
  | _ => none
def partA (t : TypeId) (l : List AV) (off : Nat) : Option AV :=
  match aggT P t, sizeT P t with
  | some true, some n => some (.agg ((l.drop off).take n))
  | some false, _ => l[off]?
  | _, _ => none
def fieldA (t : TypeId) (l : List AV) (f : Nat) : Option AV :=
  match P.underlying t with
  | some (.struct fields) => match fields[f]? with | some fd => partA P fd.type l fd.offset | none => none
  | _ => none
end
section
variable {P : Program} {ρ : Ren}
theorem run_fieldPlace {k o : Nat} {fd : Field} {m : Nat} (h : sizeT P fd.type = some (m + 1)) (w : World) : (fieldPlace ⟨k, o, none⟩ fd).run P w = .ok ⟨k, o + fd.offset, none⟩ w := by
  simp [fieldPlace, run_sizeOf h, addr_add]
theorem run_fieldAt {s : TypeId} {f off : Nat} (h : fldOff P s f = some off) (k o : Nat) (w : World) :
    (Instr.fieldAt s (.pointer (some ⟨k, o, none⟩)) f).run P w = .ok (.pointer (some ⟨k, o + off, none⟩)) w := by
  unfold fldOff at h
  split at h
  · rename_i fields hu
    split at h
    · rename_i fd hf
      split at h
      · rename_i m hs
        injection h with h
        subst h
        simp [Instr.fieldAt, run_underlying hu, hf, Instr.sureAddr, run_fieldPlace hs]
      · cases h
    · cases h
  · cases h
theorem extract_list (l : List Value) (o n : Nat) : l.toArray.extract o (o + n) = ((l.drop o).take n).toArray := by
  rw [List.extract_toArray, List.extract_eq_take_drop]; simp
theorem run_part {t : TypeId} {l : List AV} {xs : List Value} {off : Nat} {v : AV} (hc : concs ρ l = some xs) (h : partA P t l off = some v) :
    ∃ u, conc ρ v = some u ∧ ∀ w, (part t xs.toArray off).run P w = .ok u w := by
  unfold partA at h
  split at h
  · rename_i n ha hs
    injection h with h
    subst h
    refine ⟨_, agg_conc (concs_take n (concs_drop off hc)), fun w => ?_⟩
    simp [part, run_isAgg ha, run_sizeOf hs]
  · rename_i ha
    obtain ⟨y, h1, h2⟩ := concs_get hc h
    refine ⟨y, h2, fun w => ?_⟩
    simp [part, run_isAgg ha, h1]
  · cases h
theorem run_field {t : TypeId} {l : List AV} {xs : List Value} {f : Nat} {v : AV} (hc : concs ρ l = some xs) (h : fieldA P t l f = some v) :
    ∃ u, conc ρ v = some u ∧ ∀ w, (Instr.field t (.agg xs.toArray) f).run P w = .ok u w := by
  unfold fieldA at h
  split at h
  · rename_i fields hu
    split at h
    · rename_i fd hf
      obtain ⟨u, h1, h2⟩ := run_part hc h
      exact ⟨u, h1, fun w => by simp [Instr.field, run_underlying hu, hf, asAgg, h2]⟩
    · cases h
  · cases h
end

/-- a place by an index -/
def idxA (P : Program) (t : TypeId) (x : AV) (i : Int) : Option AV :=
  match P.underlying t, x with
  | some (.array len elem), .ptr b o => match sizeT P elem with | some n => if 0 ≤ i ∧ i < len then some (.ptr b (o + i.toNat * n)) else none | none => none
  | some (.slice elem), .slc b o len _ _ => match sizeT P elem with | some n => if 0 ≤ i ∧ i < len then some (.ptr b (o + i.toNat * n)) else none | none => none
  | _, _ => none
theorem run_idx {P : Program} {ρ : Ren} {t : TypeId} {x : AV} {k : IntKind} {i : Int} {v : AV} {u : Value} (hx : conc ρ x = some u) (h : idxA P t x i = some v) :
    ∃ y, conc ρ v = some y ∧ ∀ w, (Instr.indexAt t u (.int k i)).run P w = .ok y w := by
  unfold idxA at h
  split at h
  · rename_i len elem b o hu
    split at h
    · rename_i n hs
      split at h
      · rename_i hi
        injection h with h
        subst h
        obtain ⟨k', d, e, hb, rfl⟩ := conc_ptr hx
        refine ⟨_, ptr_conc hb, fun w => ?_⟩
        simp [Instr.indexAt, asIntOf, run_underlying hu, Instr.sureAddr, hi, run_sizeOf hs, addr_add, Nat.add_assoc]
      · cases h
    · cases h
  · rename_i elem b o len c e hu
    split at h
    · rename_i n hs
      split at h
      · rename_i hi
        injection h with h
        subst h
        obtain ⟨k', d, e, hb, rfl⟩ := conc_slc hx
        refine ⟨_, ptr_conc hb, fun w => ?_⟩
        simp [Instr.indexAt, asIntOf, run_underlying hu, hi, run_sizeOf hs, addr_add, Nat.add_assoc]
      · cases h
    · cases h
  · cases h
/-- an element of an array, a byte of a string -/
def elA (P : Program) (t : TypeId) (x : AV) (i : Int) : Option AV :=
  match P.underlying t, x with
  | some (.array len elem), .agg l => match sizeT P elem with | some n => if 0 ≤ i ∧ i < len then partA P elem l (i.toNat * n) else none | none => none
  | some .string, .str l => if 0 ≤ i then (match l[i.toNat]? with | some c => some (.int .u8 c) | none => none) else none
  | _, _ => none
theorem strOf_get {l : List Nat} {i c : Nat} (hl : l.all (· < 256) = true) (h : l[i]? = some c) : (strOf l)[i]? = some (UInt8.ofNat c) ∧ (UInt8.ofNat c).toNat = c := by
  have hlt : i < l.length := (List.getElem?_eq_some_iff.1 h).1
  have hc : l[i] = c := (List.getElem?_eq_some_iff.1 h).2
  refine ⟨?_, ?_⟩
  · rw [getElem?_pos (strOf l) i (by rw [strOf_size]; exact hlt)]
    show some ((strOf l).data[i]'_) = _
    simp [strOf, hc]
  · have := List.all_eq_true.1 hl c (List.mem_of_getElem? h)
    simp only [decide_eq_true_eq] at this
    simp [UInt8.toNat_ofNat', Nat.mod_eq_of_lt this]
theorem run_el {P : Program} {ρ : Ren} {t : TypeId} {x : AV} {k : IntKind} {i : Int} {v : AV} {u : Value} (hx : conc ρ x = some u) (h : elA P t x i = some v) :
    ∃ y, conc ρ v = some y ∧ ∀ w, (Instr.index t u (.int k i)).run P w = .ok y w := by
  unfold elA at h
  split at h
  · rename_i len elem l hu
    split at h
    · rename_i n hs
      split at h
      · rename_i hi
        obtain ⟨xs, hxs, rfl⟩ := conc_agg hx
        obtain ⟨y, h1, h2⟩ := run_part hxs h
        refine ⟨y, h1, fun w => ?_⟩
        simp [Instr.index, asIntOf, run_underlying hu, hi, run_sizeOf hs, h2]
      · cases h
    · cases h
  · rename_i l hu
    split at h
    · rename_i hi
      split at h
      · rename_i c hc
        injection h with h
        subst h
        obtain ⟨hl, rfl⟩ := conc_str hx
        obtain ⟨h1, h2⟩ := strOf_get hl hc
        refine ⟨_, rfl, fun w => ?_⟩
        simp only [Instr.index, asIntOf, Sem.run_bind, Sem.run_pure, Result.andThen_ok, run_underlying hu, if_pos hi, h1, h2]
      · cases h
    · cases h
  · cases h
end Go.Proofs.Ytlpnhikoipkjbaa.Abs
