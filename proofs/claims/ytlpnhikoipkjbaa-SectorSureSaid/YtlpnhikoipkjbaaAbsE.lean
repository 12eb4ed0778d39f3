/- Slices, structs that are built, conversions; all pure operations together. No conditions. -/
import Derived.Test.YtlpnhikoipkjbaaAbsD
set_option linter.unusedVariables false
namespace Go.Proofs.Ytlpnhikoipkjbaa.Abs
open Go
def natOf : Option AV → Nat → Option Nat
  | none, d => some d
  | some (.int _ i), _ => if 0 ≤ i then some i.toNat else none
  | _, _ => none
/-- a slice's bounds are numbers -/
noncomputable def boundOf (a : PT AV) : Option Operand → Option (Option AV)
  | none => some none
  | some x => match ev a x with | some v => some (some v) | none => none
noncomputable def sliceA (P : Program) (t : TypeId) (x : AV) (lo hi mx : Option AV) : Option AV :=
  match P.underlying t, x, mx with
  | some .string, .str s, none => (match natOf hi s.length with
      | some h => if h ≤ s.length then (match natOf lo 0 with | some l => if l ≤ h then some (.str ((s.take h).drop l)) else none | none => none) else none
      | none => none)
  | some (.slice e), .slc b o len cap ex, none => (match natOf hi len, natOf lo 0, sizeT P e with
      | some h, some l, some z =>
        if h ≤ cap ∧ l ≤ h then
          (if l = cap then (if ex then some (.slc b o 0 0 true) else some (.slz b (o + l * z) o)) else some (.slc b (o + l * z) (h - l) (cap - l) ex)) else none
      | _, _, _ => none)
  | some (.slice e), .slc b o len cap ex, some mv => (match natOf (some mv) 0, natOf hi 0, hi, natOf lo 0, sizeT P e with
      | some m, some h, some _, some l, some z =>
        if m ≤ cap ∧ h ≤ m ∧ l ≤ h then (if l = m then some (.slc b o 0 0 true) else some (.slc b (o + l * z) (h - l) (m - l) true)) else none
      | _, _, _, _, _ => none)
  | some (.slice e), .slz b o p, none => (match natOf hi 0, natOf lo 0, sizeT P e with | some 0, some 0, some _ => some (.slz b o p) | _, _, _ => none)
  | some (.slice e), .nils, none => (match natOf hi 0, natOf lo 0, sizeT P e with | some 0, some 0, some _ => some .nils | _, _, _ => none)
  | some (.array n e), .ptr b o, none => (match natOf hi n, natOf lo 0, sizeT P e with
      | some h, some l, some z => if h ≤ n ∧ l ≤ h then (if l = n then some (.slc b o 0 0 true) else some (.slc b (o + l * z) (h - l) (n - l) true)) else none
      | _, _, _ => none)
  | _, _, _ => none
section
variable {P : Program} {ρ : Ren}
/-- a bound and what it stands for -/
def OptC (ρ : Ren) : Option AV → Option Value → Prop
  | none, none => True
  | some v, some u => conc ρ v = some u
  | _, _ => False
theorem run_bound {v : AV} {u : Value} {n y : Nat} {c : BoundsCode} (h : natOf (some v) 0 = some n) (hc : conc ρ v = some u) (hn : n ≤ y) (w : World) : (Instr.sliceBound u y c).run P w = .ok n w := by
  unfold natOf at h
  split at h
  · rename_i e; cases e
  · rename_i _ i e
    split at h
    · rename_i hi
      injection h with h
      injection e with e
      subst e
      rw [conc_int hc]
      have : i ≤ (y : Int) := by omega
      simp [Instr.sliceBound, asIntOf, hi, this, h]
    · cases h
  · cases h
theorem natOf_some {v : AV} {d d' : Nat} : natOf (some v) d = natOf (some v) d' := by cases v <;> rfl
theorem run_bounds3 {isS : Bool} {len cap cap' : Nat} {lo hi : Option AV} {lo' hi' : Option Value} {h l : Nat} (hlo : OptC ρ lo lo') (hhi : OptC ρ hi hi') (e1 : natOf hi len = some h) (e2 : natOf lo 0 = some l)
    (hh : h ≤ cap') (hl : l ≤ h) (w : World) : (Instr.sliceBounds isS len cap' lo' hi' none).run P w = .ok (l, h, cap') w := by
  have hlo2 : (match lo' with | some v => Instr.sliceBound v h .sliceB | none => pure 0 : Sem Nat).run P w = .ok l w := by
    cases lo with
    | none => cases lo' with
      | none => simp [natOf] at e2; subst e2; rfl
      | some _ => cases hlo
    | some v => cases lo' with
      | none => cases hlo
      | some u => exact run_bound e2 hlo hl w
  cases hi with
  | none => cases hi' with
    | none =>
      simp [natOf] at e1
      subst e1
      unfold Instr.sliceBounds
      cases lo' <;> simp_all
    | some _ => cases hhi
  | some v => cases hi' with
    | none => cases hhi
    | some u =>
      have := run_bound (P := P) (c := if isS then .sliceAcap else .sliceAlen) (natOf_some.trans e1) hhi hh w
      unfold Instr.sliceBounds
      cases lo' <;> simp_all
theorem run_bounds4 {isS : Bool} {len cap' : Nat} {lo : Option AV} {mv hv : AV} {lo' : Option Value} {mu hu : Value} {m h l : Nat} (hlo : OptC ρ lo lo') (hhi : conc ρ hv = some hu) (hm : conc ρ mv = some mu)
    (e0 : natOf (some mv) 0 = some m) (e1 : natOf (some hv) 0 = some h) (e2 : natOf lo 0 = some l)
    (hmc : m ≤ cap') (hh : h ≤ m) (hl : l ≤ h) (w : World) : (Instr.sliceBounds isS len cap' lo' (some hu) (some mu)).run P w = .ok (l, h, m) w := by
  have hlo2 : (match lo' with | some v => Instr.sliceBound v h .slice3C | none => pure 0 : Sem Nat).run P w = .ok l w := by
    cases lo with
    | none => cases lo' with
      | none => simp [natOf] at e2; subst e2; rfl
      | some _ => cases hlo
    | some v => cases lo' with
      | none => cases hlo
      | some u => exact run_bound e2 hlo hl w
  have h1 := run_bound (P := P) (c := if isS then .slice3Acap else .slice3Alen) e0 hm hmc w
  have h2 := run_bound (P := P) (c := .slice3B) e1 hhi hh w
  unfold Instr.sliceBounds
  cases lo' <;> simp_all
theorem strOf_cut (s : List Nat) (l h : Nat) : (strOf s).extract l h = strOf ((s.take h).drop l) := by
  apply ByteArray.ext
  simp [strOf, List.extract_eq_take_drop, List.drop_take]
theorem all_cut {s : List Nat} (hs : s.all (· < 256) = true) (l h : Nat) : ((s.take h).drop l).all (· < 256) = true := by
  rw [List.all_eq_true] at hs ⊢
  intro x hx
  exact hs x (List.mem_of_mem_take (List.mem_of_mem_drop hx))
theorem run_slice {t : TypeId} {x v : AV} {u : Value} {lo hi mx : Option AV} {lo' hi' mx' : Option Value} (h : sliceA P t x lo hi mx = some v) (hx : conc ρ x = some u)
    (hlo : OptC ρ lo lo') (hhi : OptC ρ hi hi') (hmx : OptC ρ mx mx') : ∃ y, conc ρ v = some y ∧ ∀ w, (Instr.sliceAt t u lo' hi' mx').run P w = .ok y w := by
  unfold sliceA at h
  split at h
  · rename_i s hu
    cases mx' with
    | some _ => cases hmx
    | none =>
    split at h
    · rename_i hn he
      split at h
      · rename_i hle
        split at h
        · rename_i ln hl
          split at h
          · rename_i hlh
            injection h with h; subst h
            obtain ⟨hs, rfl⟩ := conc_str hx
            refine ⟨_, str_conc (all_cut hs _ _), fun w => ?_⟩
            have hb := run_bounds3 (P := P) (isS := false) (cap := s.length) hlo hhi (by exact he) hl (cap' := s.length) hle hlh w
            simp [Instr.sliceAt, Instr.slice, run_underlying hu, strOf_size, hb, strOf_cut]
          · cases h
        · cases h
      · cases h
    · cases h
  · rename_i e b o len cap ex hu
    cases mx' with
    | some _ => cases hmx
    | none =>
    split at h
    · rename_i hn ln z he hl hz
      split at h
      · rename_i hc
        obtain ⟨k, d, xx, hb, rfl⟩ := conc_slc hx
        have hbd := fun (cap' : Nat) (hc' : cap ≤ cap') w => run_bounds3 (P := P) (isS := true) (cap := cap) hlo hhi he hl (cap' := cap') (by omega) hc.2 w
        split at h
        · rename_i hlc
          split at h
          · rename_i hex
            injection h with h; subst h
            refine ⟨_, slc_conc hb, fun w => ?_⟩
            have hb' := hbd cap (Nat.le_refl _) w
            simp [Instr.sliceAt, Instr.slice, run_underlying hu, hex, hb', run_sizeOf hz, hlc]
            exact Nat.sub_eq_zero_of_le hc.1
          · rename_i hex
            injection h with h; subst h
            refine ⟨if xx = 0 then .slice (some ⟨k, d + o, none⟩) 0 0 else .slice (some ⟨k, d + (o + ln * z), none⟩) 0 xx, by simp only [conc, hb], fun w => ?_⟩
            have hb' := hbd (cap + xx) (Nat.le_add_right _ _) w
            have hlen : hn - ln = 0 := by omega
            by_cases hx0 : xx = 0
            · subst hx0
              have hb'' := hbd cap (Nat.le_refl _) w
              simp [Instr.sliceAt, Instr.slice, run_underlying hu, hex, hb'', run_sizeOf hz, hlc]
              exact Nat.sub_eq_zero_of_le hc.1
            · have hne : ¬ (cap + xx = ln) := by omega
              simp [Instr.sliceAt, Instr.slice, run_underlying hu, hex, hb', run_sizeOf hz, hne, hx0, addr_add, hlen, Nat.add_assoc]
              omega
        · rename_i hlc
          injection h with h; subst h
          refine ⟨_, slc_conc hb, fun w => ?_⟩
          cases ex with
          | true =>
            have hb' := hbd cap (Nat.le_refl _) w
            have hne : ¬ (cap = ln) := fun e => hlc e.symm
            simp [Instr.sliceAt, Instr.slice, run_underlying hu, hb', run_sizeOf hz, hne, addr_add, Nat.add_assoc]
          | false =>
            have hb' := hbd (cap + xx) (Nat.le_add_right _ _) w
            have hne : ¬ (cap + xx = ln) := by omega
            simp [Instr.sliceAt, Instr.slice, run_underlying hu, hb', run_sizeOf hz, hne, addr_add, Nat.add_assoc]
            omega
      · cases h
    · cases h
  · rename_i e b o len cap ex mv hu
    cases mx' with
    | none => cases hmx
    | some mu =>
    split at h
    · rename_i m hn hv ln z e0 hl hz e1
      split at h
      · rename_i hc
        obtain ⟨k, d, xx, hb, rfl⟩ := conc_slc hx
        cases hi' with
        | none => cases hhi
        | some hu' =>
        have hbd := fun (cap' : Nat) (hc' : cap ≤ cap') w => run_bounds4 (P := P) (isS := true) (len := len) hlo hhi hmx e0 e1 hl (cap' := cap') (by omega) hc.2.1 hc.2.2 w
        have hb' := hbd (if ex then cap else cap + xx) (by split <;> omega)
        split at h
        · rename_i hlm
          injection h with h; subst h
          refine ⟨_, slc_conc hb, fun w => ?_⟩
          simp [Instr.sliceAt, Instr.slice, run_underlying hu, hb', run_sizeOf hz, hlm]
          omega
        · rename_i hlm
          injection h with h; subst h
          refine ⟨_, slc_conc hb, fun w => ?_⟩
          have hne : ¬ (m = ln) := fun e => hlm e.symm
          simp [Instr.sliceAt, Instr.slice, run_underlying hu, hb', run_sizeOf hz, hne, addr_add, Nat.add_assoc]
      · cases h
    · cases h
  · rename_i e b o p hu
    cases mx' with
    | some _ => cases hmx
    | none =>
    split at h
    · rename_i z he hl hz
      injection h with h; subst h
      obtain ⟨k, d, xx, hb, rfl⟩ := conc_slz hx
      refine ⟨_, hx, fun w => ?_⟩
      have hb' := fun (cap' : Nat) => run_bounds3 (P := P) (isS := true) (cap := 0) hlo hhi he hl (cap' := cap') (by omega) (by omega) w
      by_cases hx0 : xx = 0
      · subst hx0
        simp [Instr.sliceAt, Instr.slice, run_underlying hu, hb', run_sizeOf hz]
      · simp [Instr.sliceAt, Instr.slice, run_underlying hu, hb', run_sizeOf hz, hx0, Addr.add]
    · cases h
  · rename_i e hu
    cases mx' with
    | some _ => cases hmx
    | none =>
    split at h
    · rename_i z he hl hz
      injection h with h; subst h
      refine ⟨_, hx, fun w => ?_⟩
      cases hx
      have hb' := run_bounds3 (P := P) (isS := true) (cap := 0) hlo hhi he hl (cap' := 0) (by omega) (by omega) w
      simp [Instr.sliceAt, Instr.slice, run_underlying hu, hb', run_sizeOf hz]
    · cases h
  · rename_i n e b o hu
    cases mx' with
    | some _ => cases hmx
    | none =>
    split at h
    · rename_i hn ln z he hl hz
      split at h
      · rename_i hc
        obtain ⟨k, d, xx, hb, rfl⟩ := conc_ptr hx
        have hb' := fun w => run_bounds3 (P := P) (isS := false) (cap := n) hlo hhi he hl (cap' := n) hc.1 hc.2 w
        split at h
        · rename_i hln
          injection h with h; subst h
          refine ⟨_, slc_conc hb, fun w => ?_⟩
          simp [Instr.sliceAt, Instr.sureAddr, run_underlying hu, hb', run_sizeOf hz, hln]
          omega
        · rename_i hln
          injection h with h; subst h
          refine ⟨_, slc_conc hb, fun w => ?_⟩
          have hne : ¬ (n = ln) := fun e => hln e.symm
          simp [Instr.sliceAt, Instr.sureAddr, run_underlying hu, hb', run_sizeOf hz, hne, addr_add, Nat.add_assoc]
      · cases h
    · cases h
  · cases h
end
end Go.Proofs.Ytlpnhikoipkjbaa.Abs
