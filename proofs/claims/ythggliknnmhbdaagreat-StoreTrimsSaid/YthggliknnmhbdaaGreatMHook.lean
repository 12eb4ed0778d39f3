/- Several texts in one: Hook. -/
import Derived.Test.YthggliknnmhbdaaGreatAbsM8
import Derived.Test.YthggliknnmhbdaaGreatMWAB
import Derived.Test.YthggliknnmhbdaaGreatShelf
/- Laws that answer calls of sum.On and strings.Repeat. No conditions. -/
set_option linter.unusedVariables false
namespace Go.Proofs.YthggliknnmhbdaaGreat
open Go.RowKit Go.Proofs.YthggliknnmhbdaaGreat.Abs
noncomputable def crc1 (x : Nat) (k : Nat → Nat) : Nat := forceN (Nat.xor (Nat.shiftRight x 1) (Nat.mul (Nat.land x 1) 2197175160)) k
noncomputable def crc8 (x : Nat) (k : Nat → Nat) : Nat := crc1 x fun x => crc1 x fun x => crc1 x fun x => crc1 x fun x => crc1 x fun x => crc1 x fun x => crc1 x fun x => crc1 x k
noncomputable def crcReg (l : List Nat) : Nat → Nat := List.rec (motive := fun _ => Nat → Nat) (fun x => x) (fun c _ ih x => crc8 (Nat.xor x c) ih) l
noncomputable def crcOn (a : Nat) (l : List Nat) : Nat := Nat.xor (crcReg l (Nat.xor a 4294967295)) 4294967295
theorem crc1_eq (x : Nat) (k : Nat → Nat) : crc1 x k = k (Crc.step x) := forceN_eq _ _
theorem crc8_eq (x : Nat) (k : Nat → Nat) : crc8 x k = k (Crc.steps 8 x) := by simp only [crc8, crc1_eq]; rfl
theorem crcReg_eq : ∀ (l : List Nat) (x : Nat), crcReg l x = Crc.reg x l
  | [], x => rfl
  | c :: l, x => by
    show crc8 (Nat.xor x c) (crcReg l) = _
    rw [crc8_eq, crcReg_eq l]
    rfl
theorem crcOn_eq (a : Nat) (l : List Nat) : crcOn a l = Crc.on a l := by
  unfold crcOn Crc.on
  rw [crcReg_eq]
  rfl
noncomputable def onA (args : List AV) : Option AV :=
  match args with
  | [.int .u32 (.ofNat a), .str l] => if Nat.blt a 4294967296 && Nat.blt l.length 1048576 then some (.int .u32 (.ofNat (crcOn a l))) else none
  | _ => none
noncomputable def repA (args : List AV) : Option AV :=
  match args with
  | [.str l, .int .i64 (.ofNat n)] => if Nat.blt (l.length * n) 1048576 && Nat.blt n 1048576 then some (.str (List.replicate n l).flatten) else none
  | _ => none
noncomputable def hookF (f : FuncId) (args : List AV) : Option AV :=
  Bool.rec (Bool.rec none (repA args) (Nat.beq f 75)) (onA args) (Nat.beq f 89)
theorem bs_strOf (l : List Nat) (h : l.all (· < 256) = true) : bs (Abs.strOf l) = l := by
  unfold bs Abs.strOf
  simp only [List.map_map]
  refine (List.map_congr_left fun c hc => ?_).trans (List.map_id l)
  have := List.all_eq_true.1 h c hc
  simp only [decide_eq_true_eq] at this
  simp [UInt8.toNat_ofNat', Nat.mod_eq_of_lt this]
theorem repeatL_flat (l : List UInt8) : ∀ n, Lib.repeatL l n = (List.replicate n l).flatten
  | 0 => rfl
  | n + 1 => by simp [Lib.repeatL, repeatL_flat l n, List.replicate_succ]
theorem str_of {ρ : Abs.Ren} {l : List Nat} {u : Value} (h : Abs.conc ρ (.str l) = some u) : l.all (· < 256) = true ∧ u = .string (Abs.strOf l) := conc_str h
theorem hook_ok (j : FuncId → Bool) : HookOk Tryz.prog ⟨j, hookF⟩ := by
  intro f args v h ρ us w hus
  change hookF f args = some v at h
  unfold hookF at h
  cases h1 : Nat.beq f 89 with
  | true =>
    rw [h1] at h
    have hf := Nat.eq_of_beq_eq_true h1
    subst hf
    change onA args = some v at h
    unfold onA at h
    split at h
    · rename_i a l
      split at h
      · rename_i hc
        simp only [Bool.and_eq_true, Nat.blt_eq] at hc
        injection h with h; subst h
        obtain ⟨u1, us1, rfl, e1, e2⟩ := concs_cons hus
        obtain ⟨u2, us2, rfl, e3, e4⟩ := concs_cons e2
        cases e4
        cases e1
        obtain ⟨hl, rfl⟩ := str_of e3
        refine ⟨_, rfl, (on_any a (Abs.strOf l) w hc.1 (by rw [strOf_size]; omega)).mono ?_⟩
        rintro e w' ⟨rfl, hb⟩
        rw [bs_strOf l hl, ← crcOn_eq]
        exact ⟨rfl, hb⟩
      · cases h
    · cases h
  | false =>
    rw [h1] at h
    cases h2 : Nat.beq f 75 with
    | false => rw [h2] at h; cases h
    | true =>
      rw [h2] at h
      have hf := Nat.eq_of_beq_eq_true h2
      subst hf
      change repA args = some v at h
      unfold repA at h
      split at h
      · rename_i l n
        split at h
        · rename_i hc
          simp only [Bool.and_eq_true, Nat.blt_eq] at hc
          injection h with h; subst h
          obtain ⟨u1, us1, rfl, e1, e2⟩ := concs_cons hus
          obtain ⟨u2, us2, rfl, e3, e4⟩ := concs_cons e2
          cases e4
          cases e3
          obtain ⟨hl, rfl⟩ := str_of e1
          have hall : (List.replicate n l).flatten.all (· < 256) = true := by
            rw [List.all_eq_true]
            intro c hc'
            obtain ⟨l', h3, h4⟩ := List.mem_flatten.1 hc'
            rw [(List.mem_replicate.1 h3).2] at h4
            exact List.all_eq_true.1 hl c h4
          refine ⟨_, str_conc hall, (Tryz.strings_Repeat (Abs.strOf l) n w (by omega) (by rw [strOf_size]; omega)).mono ?_⟩
          rintro e w' ⟨rfl, hb⟩
          refine ⟨?_, hb⟩
          rw [repeatL_flat]
          unfold Abs.strOf
          simp [List.map_flatten, List.map_replicate]
        · cases h
      · cases h
end Go.Proofs.YthggliknnmhbdaaGreat
