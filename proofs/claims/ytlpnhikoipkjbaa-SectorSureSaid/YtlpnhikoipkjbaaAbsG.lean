/- All pure operations together: what they yield is what the model's yield. No conditions. -/
import Derived.Test.YtlpnhikoipkjbaaAbsF
set_option linter.unusedVariables false
namespace Go.Proofs.Ytlpnhikoipkjbaa.Abs
open Go
noncomputable def pureOp (P : Program) (a : PT AV) (op : Op) : Option AV :=
  match op with
  | .move x => ev a x
  | .assign x => ev a x
  | .pick c x y => (match ev a c with | some (.bool b) => if b then ev a x else ev a y | _ => none)
  | .nilCheck x => (match ev a x with | some (.ptr b o) => some (.ptr b o) | some (.fn f l m) => some (.fn f l m) | _ => none)
  | .fieldAddr s x f => (match ev a x with | some (.ptr b o) => (match fldOff P s f with | some off => some (.ptr b (o + off)) | none => none) | _ => none)
  | .indexAddr t x i => (match ev a x, ev a i with | some x, some (.int _ i) => idxA P t x i | _, _ => none)
  | .index t x i => (match ev a x, ev a i with | some x, some (.int _ i) => elA P t x i | _, _ => none)
  | .extract x i => (match ev a x with | some (.tup l) => l[i]? | _ => none)
  | .binOp op t x y _ => (match ev a x, ev a y with | some x, some y => binA P op t x y | _, _ => none)
  | .unOp op _ x => (match ev a x with | some x => unA op x | none => none)
  | .build t parts => (match evParts a parts.toList with | some ps => buildA P t ps | none => none)
  | .makeFunc fn first cap => (match fn, evAll a first.toList, evAll a cap.toList with | .func f, some x, some y => some (.fn f x y) | _, _, _ => none)
  | .field t x f => (match ev a x with | some (.agg l) => fieldA P t l f | _ => none)
  | .slice t x lo hi mx => (match ev a x, boundOf a lo, boundOf a hi, boundOf a mx with | some x, some lo, some hi, some mx => sliceA P t x lo hi mx | _, _, _, _ => none)
  | .convert s d x => (match ev a x with | some x => convA P s d x | none => none)
  | .makeInterface t x => (match ev a x with | some x => if ifaceT P t then none else some (.ifc t x) | none => none)
  | .call c => (match c.callee with | .builtin b => (match evAll a c.args.toList with | some xs => pureCall P b c.argTypes xs | none => none) | _ => none)
  | _ => none
section
variable {P : Program} {ρ : Ren}
theorem boundOf_conc {a : PT AV} {A : Act} (hs : Slots ρ a A) {x : Option Operand} {r : Option AV} (h : boundOf a x = some r) : OptC ρ r (x.map A.eval) := by
  unfold boundOf at h
  split at h
  · injection h with h; subst h; trivial
  · split at h
    · rename_i v hv
      injection h with h; subst h
      obtain ⟨u, h1, h2⟩ := ev_conc hs hv
      show conc ρ v = some (A.eval _)
      rw [h2]; exact h1
    · cases h
theorem pureOp_run {a : PT AV} {A : Act} {o : Oper} {v : AV} (h : pureOp P a o.op = some v) (hs : Slots ρ a A) :
    ∃ u, conc ρ v = some u ∧ ∀ w, (execOp A.eval o).run P w = .ok (.value u) w := by
  unfold pureOp at h
  split at h
  · rename_i x ho
    obtain ⟨u, h1, h2⟩ := ev_conc hs h
    exact ⟨u, h1, fun w => by simp [execOp, ho, h2]⟩
  · rename_i x ho
    obtain ⟨u, h1, h2⟩ := ev_conc hs h
    exact ⟨u, h1, fun w => by simp [execOp, ho, h2]⟩
  · rename_i c x y ho
    split at h
    · rename_i b hb
      obtain ⟨uc, h3, h4⟩ := ev_conc hs hb
      cases h3
      cases b with
      | true =>
        obtain ⟨u, h1, h2⟩ := ev_conc hs (by simpa using h : ev a x = some v)
        exact ⟨u, h1, fun w => by simp [execOp, ho, h2, h4, asBool]⟩
      | false =>
        obtain ⟨u, h1, h2⟩ := ev_conc hs (by simpa using h : ev a y = some v)
        exact ⟨u, h1, fun w => by simp [execOp, ho, h2, h4, asBool]⟩
    · cases h
  · rename_i x ho
    split at h
    · rename_i b o' hb
      injection h with h; subst h
      obtain ⟨u, h3, h4⟩ := ev_conc hs hb
      obtain ⟨k, d, e, hr, rfl⟩ := conc_ptr h3
      exact ⟨_, h3, fun w => by simp [execOp, ho, h4]⟩
    · rename_i f l m hb
      injection h with h; subst h
      obtain ⟨u, h3, h4⟩ := ev_conc hs hb
      obtain ⟨x', y', _, _, rfl⟩ := conc_fn h3
      exact ⟨_, h3, fun w => by simp [execOp, ho, h4]⟩
    · cases h
  · rename_i s x f ho
    split at h
    · rename_i b o' hb
      split at h
      · rename_i off hf
        injection h with h; subst h
        obtain ⟨u, h3, h4⟩ := ev_conc hs hb
        obtain ⟨k, d, e, hr, rfl⟩ := conc_ptr h3
        refine ⟨_, ptr_conc hr, fun w => ?_⟩
        simp [execOp, ho, h4, run_fieldAt hf, Nat.add_assoc]
      · cases h
    · cases h
  · rename_i t x i ho
    split at h
    · rename_i xv k iv hx hi
      obtain ⟨u, h3, h4⟩ := ev_conc hs hx
      obtain ⟨u2, h5, h6⟩ := ev_conc hs hi
      cases h5
      obtain ⟨y, h7, h8⟩ := run_idx (k := k) h3 h
      exact ⟨y, h7, fun w => by simp [execOp, ho, h4, h6, h8]⟩
    · cases h
  · rename_i t x i ho
    split at h
    · rename_i xv k iv hx hi
      obtain ⟨u, h3, h4⟩ := ev_conc hs hx
      obtain ⟨u2, h5, h6⟩ := ev_conc hs hi
      cases h5
      obtain ⟨y, h7, h8⟩ := run_el (k := k) h3 h
      exact ⟨y, h7, fun w => by simp [execOp, ho, h4, h6, h8]⟩
    · cases h
  · rename_i x i ho
    split at h
    · rename_i l hx
      obtain ⟨u, h3, h4⟩ := ev_conc hs hx
      obtain ⟨xs, h5, rfl⟩ := conc_tup h3
      obtain ⟨y, h7, h8⟩ := concs_get h5 h
      exact ⟨y, h8, fun w => by simp [execOp, ho, h4, Instr.extract, h7]⟩
    · cases h
  · rename_i op t x y yt ho
    split at h
    · rename_i xv yv hx hy
      obtain ⟨u, h3, h4⟩ := ev_conc hs hx
      obtain ⟨u2, h5, h6⟩ := ev_conc hs hy
      obtain ⟨z, h7, h8⟩ := run_binA x y h h3 h5
      exact ⟨z, h7, fun w => by simp [execOp, ho, h4, h6, (h8 w).1, (h8 w).2]⟩
    · cases h
  · rename_i op t x ho
    split at h
    · rename_i xv hx
      obtain ⟨u, h3, h4⟩ := ev_conc hs hx
      obtain ⟨z, h7, h8⟩ := run_unA (P := P) h h3
      exact ⟨z, h7, fun w => by simp [execOp, ho, h4, h8]⟩
    · cases h
  · rename_i t parts ho
    split at h
    · rename_i ps hps
      have hpc := evParts_conc hs _ hps
      obtain ⟨z, h7, h8⟩ := run_buildA (vp := parts.map fun p => (p.1, A.eval p.2)) h (by simpa using hpc)
      exact ⟨z, h7, fun w => by simp [execOp, ho, h8]⟩
    · cases h
  · rename_i fn first cap ho
    split at h
    · rename_i f x y hx hy
      injection h with h; subst h
      have h1 := evAll_conc hs _ hx
      have h2 := evAll_conc hs _ hy
      refine ⟨.func (.func f) (first.toList.map A.eval).toArray (cap.toList.map A.eval).toArray, by simp only [conc, h1, h2], fun w => ?_⟩
      simp only [arr_map]
      simp [execOp, ho, Instr.makeFunc]
    · cases h
  · rename_i t x f ho
    split at h
    · rename_i l hx
      obtain ⟨u, h3, h4⟩ := ev_conc hs hx
      obtain ⟨xs, h5, rfl⟩ := conc_agg h3
      obtain ⟨y, h7, h8⟩ := run_field h5 h
      exact ⟨y, h7, fun w => by simp [execOp, ho, h4, h8]⟩
    · cases h
  · rename_i t x lo hi mx ho
    split at h
    · rename_i xv lov hiv mxv hx hlo hhi hmx
      obtain ⟨u, h3, h4⟩ := ev_conc hs hx
      obtain ⟨y, h7, h8⟩ := run_slice h h3 (boundOf_conc hs hlo) (boundOf_conc hs hhi) (boundOf_conc hs hmx)
      exact ⟨y, h7, fun w => by simp [execOp, ho, h4, h8]⟩
    · cases h
  · rename_i s d x ho
    split at h
    · rename_i xv hx
      obtain ⟨u, h3, h4⟩ := ev_conc hs hx
      obtain ⟨y, h7, h8⟩ := run_convA h h3
      exact ⟨y, h7, fun w => by simp [execOp, ho, h4, h8]⟩
    · cases h
  · rename_i t x ho
    split at h
    · rename_i xv hx
      split at h
      · cases h
      · rename_i hi
        injection h with h; subst h
        obtain ⟨u, h3, h4⟩ := ev_conc hs hx
        refine ⟨.iface t u, by simp only [conc, h3], fun w => ?_⟩
        unfold ifaceT at hi
        cases hu : P.underlying t with
        | none => rw [hu] at hi; exact absurd rfl hi
        | some d => rw [hu] at hi; cases d <;> simp_all [execOp, Instr.makeInterface, run_underlying hu]
    · cases h
  · rename_i c ho
    split at h
    · rename_i b hb
      split at h
      · rename_i xs hx
        obtain ⟨y, h1, h2⟩ := run_pureCall (ty := o.type) h (evAll_conc hs _ hx)
        refine ⟨y, h1, fun w => ?_⟩
        rw [arr_map] at h2
        simp only [execOp, ho, resolve, hb, Sem.run_bind, Sem.run_pure, Result.andThen_ok, invoke, h2]
      · cases h
    · cases h
  · cases h
end
end Go.Proofs.Ytlpnhikoipkjbaa.Abs
