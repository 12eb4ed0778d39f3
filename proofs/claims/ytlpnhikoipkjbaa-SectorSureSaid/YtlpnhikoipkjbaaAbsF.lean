/- Structs that are built; all pure operations together. No conditions. -/
import Derived.Test.YtlpnhikoipkjbaaAbsE
import Derived.Laws.Tables
import Derived.Lib.UnsafeStr
set_option linter.unusedVariables false
namespace Go.Proofs.Ytlpnhikoipkjbaa.Abs
open Go
def setAll : Nat → List AV → List AV → List AV
  | _, [], l => l
  | o, c :: cs, l => setAll (o + 1) cs (l.set o c)
def fillA (place : Nat → Option (Nat × Nat)) : List AV → List (Nat × AV) → Option (List AV)
  | cells, [] => some cells
  | cells, (i, v) :: rest => match place i with
    | some (off, size) => if (cellsA v).length = size ∧ off + size ≤ cells.length then fillA place (setAll off (cellsA v) cells) rest else none
    | none => none
/-- parts, each as its value stands -/
def partsC (ρ : Ren) : List (Nat × AV) → List (Nat × Value) → Prop
  | [], [] => True
  | (i, v) :: l, (j, u) :: m => i = j ∧ conc ρ v = some u ∧ partsC ρ l m
  | _, _ => False
section
variable {P : Program} {ρ : Ren}
theorem foldl_zip (off : Nat) : ∀ (vs : List Value) (k : Nat) (xs : List Value), (vs.zipIdx k).foldl (fun (cs : Array Value) (p : Value × Nat) => cs.setIfInBounds (off + p.2) p.1) xs.toArray = ((vs.zipIdx k).foldl (fun (cs : List Value) (p : Value × Nat) => cs.set (off + p.2) p.1) xs).toArray
  | [], k, xs => rfl
  | v :: vs, k, xs => by
    simp only [List.zipIdx_cons, List.foldl_cons, List.setIfInBounds_toArray]
    exact foldl_zip off vs (k + 1) _
theorem setAll_conc : ∀ (cs : List AV) {vs : List Value} (off k : Nat) {l : List AV} {xs : List Value}, concs ρ cs = some vs → concs ρ l = some xs →
    concs ρ (setAll (off + k) cs l) = some ((vs.zipIdx k).foldl (fun (cs : List Value) (p : Value × Nat) => cs.set (off + p.2) p.1) xs)
  | [], vs, off, k, l, xs, h, hl => by cases h; exact hl
  | c :: cs, vs, off, k, l, xs, h, hl => by
    obtain ⟨y, ys, rfl, h1, h2⟩ := concs_cons h
    simp only [setAll, List.zipIdx_cons, List.foldl_cons]
    exact setAll_conc cs off (k + 1) h2 (concs_set _ hl h1)
theorem setAll_len : ∀ (cs : List AV) (o : Nat) (l : List AV), (setAll o cs l).length = l.length
  | [], _, _ => rfl
  | c :: cs, o, l => by rw [setAll, setAll_len cs]; simp
theorem fill_conc {place : Nat → Option (Nat × Nat)} : ∀ (parts : List (Nat × AV)) {vp : List (Nat × Value)} {l r : List AV} {xs : List Value}, partsC ρ parts vp → concs ρ l = some xs → fillA place l parts = some r →
    ∃ ys, concs ρ r = some ys ∧ Instr.fill place xs.toArray vp = some ys.toArray
  | [], [], l, r, xs, hp, hl, h => by injection h with h; subst h; exact ⟨xs, hl, rfl⟩
  | [], _ :: _, _, _, _, hp, _, _ => hp.elim
  | _ :: _, [], _, _, _, hp, _, _ => hp.elim
  | (i, v) :: parts, (j, u) :: vp, l, r, xs, ⟨he, hv, hp⟩, hl, h => by
    subst he
    unfold fillA at h
    split at h
    · rename_i off size hpl
      split at h
      · rename_i hc
        have hcs := cells_conc hv
        have hlen := concs_len hcs
        have hxl := concs_len hl
        simp only [Array.length_toList] at hlen
        have hset := setAll_conc (cellsA v) off 0 hcs hl
        obtain ⟨ys, h1, h2⟩ := fill_conc parts hp hset h
        refine ⟨ys, h1, ?_⟩
        unfold Instr.fill
        simp only [hpl]
        have e1 : ¬ (u.cells.size ≠ size) := by rw [hlen]; simpa using hc.1
        have e2 : ¬ (off + u.cells.size > xs.toArray.size) := by rw [hlen, hc.1, List.size_toArray, hxl]; omega
        rw [if_neg (by simp only [Bool.or_eq_true, decide_eq_true_eq, not_or]; exact ⟨e1, e2⟩), ← h2, ← foldl_zip]
        rw [← Array.foldl_toList, Array.toList_zipIdx]
      · cases h
    · cases h
/-- what stands in nothing's place -/
noncomputable def zeroA (P : Program) (t : TypeId) : Option (List AV) :=
  match P.info? t with
  | some i => match i.zero with | some z => mapO (ofV 8) z.cells.toList | none => none
  | none => none
def placesA (P : Program) (t : TypeId) : Option (Nat → Option (Nat × Nat)) :=
  match P.underlying t with
  | some (.array _ e) => match P.info? e with | some ie => some (fun i => some (i * ie.size, ie.size)) | none => none
  | some (.struct fields) => match fields.toList.mapM (fun f => (P.info? f.type).map fun i => (f.offset, i.size)) with | some places => some (places.toArray[·]?) | none => none
  | _ => none
noncomputable def buildA (P : Program) (t : TypeId) (parts : List (Nat × AV)) : Option AV :=
  match zeroA P t, placesA P t with
  | some z, some pl => match fillA pl z parts with | some r => some (.agg r) | none => none
  | _, _ => none
theorem run_buildA {t : TypeId} {parts : List (Nat × AV)} {vp : Array (Nat × Value)} {v : AV} (h : buildA P t parts = some v) (hp : partsC ρ parts vp.toList) :
    ∃ u, conc ρ v = some u ∧ ∀ w, (Instr.build t vp).run P w = .ok u w := by
  unfold buildA at h
  split at h
  · rename_i z pl hz hpl
    split at h
    · rename_i r hr
      injection h with h; subst h
      unfold zeroA at hz
      split at hz
      · rename_i it hit
        split at hz
        · rename_i zv hzv
          have hzc := mapM_concs (ρ := ρ) (ofV_conc ρ 8) _ hz
          obtain ⟨ys, h1, h2⟩ := fill_conc parts hp hzc hr
          refine ⟨_, agg_conc h1, fun w => run_build w t vp _ ?_⟩
          unfold placesA at hpl
          unfold Program.built
          rw [hit]
          split at hpl
          · rename_i n e hu
            rw [hu]
            split at hpl
            · rename_i ie hie
              injection hpl with hpl
              subst hpl
              simp only [hzv, hie]
              simpa using h2
            · cases hpl
          · rename_i fields hu
            rw [hu]
            split at hpl
            · rename_i places hpp
              injection hpl with hpl
              subst hpl
              simp only [hzv, hpp]
              simpa using h2
            · cases hpl
          · cases hpl
        · cases hz
      · cases hz
    · cases h
  · cases h
noncomputable def evParts (a : PT AV) : List (Nat × Operand) → Option (List (Nat × AV))
  | [] => some []
  | (i, x) :: l => match ev a x, evParts a l with | some v, some r => some ((i, v) :: r) | _, _ => none
theorem evParts_conc {a : PT AV} {A : Act} (hs : Slots ρ a A) : ∀ (l : List (Nat × Operand)) {r : List (Nat × AV)}, evParts a l = some r → partsC ρ r (l.map fun p => (p.1, A.eval p.2))
  | [], r, h => by injection h with h; subst h; trivial
  | (i, x) :: l, r, h => by
    unfold evParts at h
    split at h
    · rename_i v r' hv hr
      injection h with h; subst h
      obtain ⟨u, h1, h2⟩ := ev_conc hs hv
      exact ⟨rfl, by rw [h2]; exact h1, evParts_conc hs l hr⟩
    · cases h
theorem arr_map {α β : Type} (f : α → β) (xs : Array α) : (xs.toList.map f).toArray = xs.map f := by
  cases xs; simp
noncomputable def evAll (a : PT AV) : List Operand → Option (List AV)
  | [] => some []
  | x :: l => match ev a x, evAll a l with | some v, some r => some (v :: r) | _, _ => none
theorem evAll_conc {a : PT AV} {A : Act} (hs : Slots ρ a A) : ∀ (l : List Operand) {r : List AV}, evAll a l = some r → concs ρ r = some (l.map A.eval)
  | [], r, h => by injection h with h; subst h; rfl
  | x :: l, r, h => by
    unfold evAll at h
    split at h
    · rename_i v r' hv hr
      injection h with h; subst h
      obtain ⟨u, h1, h2⟩ := ev_conc hs hv
      rw [List.map_cons, h2]
      exact concs_mk h1 (evAll_conc hs l hr)
    · cases h
def unA (op : UnOp) (x : AV) : Option AV :=
  match op, x with
  | .neg, .int k n => some (.int k (k.wrap (0 - n)))
  | .not, .bool b => some (.bool !b)
  | .xor, .int k n => binI .xor k (if k.signed then -1 else k.max) n
  | _, _ => none
theorem run_unA {op : UnOp} {x v : AV} {u : Value} (h : unA op x = some v) (hx : conc ρ x = some u) : ∃ y, conc ρ v = some y ∧ ∀ w, (Op.unary op u).run P w = .ok y w := by
  unfold unA at h
  split at h
  · injection h with h; subst h; rw [conc_int hx]; exact ⟨_, rfl, fun w => by simp [Op.unary, Op.intArith]⟩
  · injection h with h; subst h; rw [conc_bool hx]; exact ⟨_, rfl, fun w => by simp [Op.unary]⟩
  · rename_i k n
    unfold binI at h
    injection h with h; subst h; rw [conc_int hx]; exact ⟨_, rfl, fun w => by simp [Op.unary, Op.intBits]⟩
  · cases h
/-- conversions that make nothing -/
def convA (P : Program) (s d : TypeId) (x : AV) : Option AV :=
  match P.underlying s, P.underlying d, x with
  | some _, some (.int k), .int _ n => some (.int k (k.wrap n))
  | some .string, some .string, .str l => some (.str l)
  | _, _, _ => none
theorem run_convA {s d : TypeId} {x v : AV} {u : Value} (h : convA P s d x = some v) (hx : conc ρ x = some u) : ∃ y, conc ρ v = some y ∧ ∀ w, (convert s d u).run P w = .ok y w := by
  unfold convA at h
  split at h
  · rename_i hs hd
    injection h with h; subst h; rw [conc_int hx]
    exact ⟨_, rfl, fun w => by simp [convert, run_underlying hs, run_underlying hd, Conv.intToInt]⟩
  · rename_i hs hd
    injection h with h; subst h
    obtain ⟨_, rfl⟩ := conc_str hx
    exact ⟨_, hx, fun w => by simp [convert, run_underlying hs, run_underlying hd]⟩
  · cases h
def ifaceT (P : Program) (t : TypeId) : Bool := match P.underlying t with | some (.interface _) => true | some _ => false | none => true
/-- lengths that read no memory -/
def lenA (P : Program) (t : TypeId) (x : AV) : Option AV :=
  match P.underlying t, x with
  | some .string, .str l => some (.int .i64 l.length)
  | some (.slice _), .slc _ _ n _ _ => some (.int .i64 n)
  | some (.slice _), .slz .. => some (.int .i64 0)
  | some (.slice _), .nils => some (.int .i64 0)
  | some (.array n _), _ => some (.int .i64 n)
  | some (.map ..), .nilm => some (.int .i64 0)
  | _, _ => none
theorem run_lenA {t ty : TypeId} {x v : AV} {u : Value} (h : lenA P t x = some v) (hx : conc ρ x = some u) : ∃ y, conc ρ v = some y ∧ ∀ w, (Builtin.len_ #[t] ty #[u]).run P w = .ok y w := by
  unfold lenA at h
  split at h
  · rename_i hs
    injection h with h; subst h
    obtain ⟨_, rfl⟩ := conc_str hx
    exact ⟨_, rfl, fun w => by simp [Builtin.len_, run_underlying hs, goInt, strOf_size]⟩
  · rename_i hs
    injection h with h; subst h
    obtain ⟨_, _, _, _, rfl⟩ := conc_slc hx
    exact ⟨_, rfl, fun w => by simp [Builtin.len_, run_underlying hs, goInt]⟩
  · rename_i hs
    injection h with h; subst h
    obtain ⟨_, _, rfl⟩ := conc_slz' hx
    exact ⟨_, rfl, fun w => by simp [Builtin.len_, run_underlying hs, goInt]⟩
  · rename_i hs
    injection h with h; subst h
    cases hx
    exact ⟨_, rfl, fun w => by simp [Builtin.len_, run_underlying hs, goInt]⟩
  · rename_i hs
    injection h with h; subst h
    exact ⟨_, rfl, fun w => by simp [Builtin.len_, run_underlying hs, goInt]⟩
  · rename_i hs
    injection h with h; subst h
    cases hx
    exact ⟨_, rfl, fun w => by simp [Builtin.len_, run_underlying hs, goInt]⟩
  · cases h
/-- min and max of two integers -/
def mmA (mx : Bool) (x y : AV) : Option AV :=
  match x, y with
  | .int k a, .int _ b => some (.int k (if mx then (if b > a then b else a) else (if b < a then b else a)))
  | _, _ => none
/-- where a slice's elements lie -/
def sdA : AV → Option AV
  | .nils => some .nilp
  | .slc b o _ cap _ => if Nat.blt 0 cap then some (.ptr b o) else none
  | _ => none
def pureCall (P : Program) (b : Builtin) (ts : Array TypeId) (xs : List AV) : Option AV :=
  match b, ts.toList, xs with
  | .len, [t], [x] => lenA P t x
  | .min, _, [x, y] => mmA false x y
  | .max, _, [x, y] => mmA true x y
  | .unsafeSliceData, _, [x] => sdA x
  | _, _, _ => none
theorem run_pureCall {b : Builtin} {ts : Array TypeId} {ty : TypeId} {xs : List AV} {us : List Value} {v : AV} (h : pureCall P b ts xs = some v) (hx : concs ρ xs = some us) :
    ∃ y, conc ρ v = some y ∧ ∀ cs w, (builtin b ts ty cs us.toArray).run P w = .ok (.value y) w := by
  unfold pureCall at h
  split at h
  · rename_i t x hts
    obtain ⟨u, _, rfl, hu, h2⟩ := concs_cons hx
    cases h2
    obtain ⟨y, h1, h2⟩ := run_lenA (ty := ty) h hu
    refine ⟨y, h1, fun cs w => ?_⟩
    have e : ts = #[t] := by cases ts; simp_all
    subst e
    simp [builtin, h2]
  · rename_i x y _
    obtain ⟨u, r, rfl, hu, h2⟩ := concs_cons hx
    obtain ⟨u', r', rfl, hu', h2⟩ := concs_cons h2
    cases h2
    unfold mmA at h
    split at h
    · injection h with h; subst h
      rw [conc_int hu, conc_int hu']
      exact ⟨_, rfl, fun cs w => by simp [builtin, Builtin.min_, Builtin.min2]⟩
    · cases h
  · rename_i x y _
    obtain ⟨u, r, rfl, hu, h2⟩ := concs_cons hx
    obtain ⟨u', r', rfl, hu', h2⟩ := concs_cons h2
    cases h2
    unfold mmA at h
    split at h
    · injection h with h; subst h
      rw [conc_int hu, conc_int hu']
      exact ⟨_, rfl, fun cs w => by simp [builtin, Builtin.max_, Builtin.max2]⟩
    · cases h
  · rename_i x _
    obtain ⟨u, r, rfl, hu, h2⟩ := concs_cons hx
    cases h2
    unfold sdA at h
    split at h
    · injection h with h; subst h
      cases hu
      refine ⟨_, rfl, fun cs w => ?_⟩
      have := Lib.run_unsafeSliceData_nil (P := P) (w := w) ts ty 0 0
      simp only [builtin, Sem.run_bind]
      rw [this]
      rfl
    · rename_i b o len cap ex
      split at h
      · rename_i hc
        injection h with h; subst h
        rw [Nat.blt_eq] at hc
        obtain ⟨kk, d, xx, hb, rfl⟩ := conc_slc hu
        have : (if ex then cap else cap + xx) ≠ 0 := by split <;> omega
        refine ⟨_, ptr_conc hb, fun cs w => ?_⟩
        have := Lib.run_unsafeSliceData_row (P := P) (w := w) ts ty ⟨kk, d + o, none⟩ len _ this
        simp only [builtin, Sem.run_bind]
        rw [this]
        rfl
      · cases h
    · cases h
  · cases h
end
end Go.Proofs.Ytlpnhikoipkjbaa.Abs
