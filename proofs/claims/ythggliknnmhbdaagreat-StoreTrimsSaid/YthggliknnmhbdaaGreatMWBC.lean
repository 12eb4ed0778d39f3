/- Several texts in one: StA. -/
import Derived.Test.YthggliknnmhbdaaGreatMWAZ
import Derived.Test.YthggliknnmhbdaaGreatMWBB
import Derived.Test.YthggliknnmhbdaaGreatMWAY
/- The walks of store's half, head, fits, none, kept, Gen, Room. No conditions beyond what each states. -/
namespace Go.Proofs.YthggliknnmhbdaaGreat
open Go.RowKit
set_option linter.unusedVariables false
/-- a store that is there -/
def StoW (w : World) (s p bb : Nat) (k : Nat) (g : Nat) : Prop := Blk w s 51 #[.pointer (some ⟨bb, 0, none⟩), .int .i64 (k : Int), .int .u64 (g : Int), .pointer (some ⟨p, 0, none⟩), .bool false]
theorem half_ok (p gs : Nat) (S : Dst) (B m : Nat) (w : World) (D : DkS w p gs 20 S B m) :
    Calls Tryz.prog 16 #[.pointer (some ⟨p, 0, none⟩)] w fun e w' => e = .returned (.tuple #[.int .i64 10, .int .i64 0]) ∧ w = w' := by
  have HD := Lib.hid D
  clear D
  go_enter Tryz.func16, Tryz.ntmps16
  go_wp2_with fail
  refine (dk_len p gs 20 S B m w HD.out).mono ?_
  rintro e w1 ⟨rfl, rfl⟩
  go_wp2_with fail
  refine (dk_len p gs 20 S B m w HD.out).mono ?_
  rintro e w1 ⟨rfl, rfl⟩
  go_wp2_with fail
  go_ret2
  exact ⟨rfl, rfl⟩
theorem head_ok (g : Nat) (s : ByteArray) (w : World) (hg : g < 18446744073709551616) (hs : s.size ≤ 1000000000) :
    Calls Tryz.prog 47 #[.int .u64 (g : Int), .string s] w fun e w' => e = .returned (.string (hdB g s)) ∧ Below w.heap.size w w' := by
  have HU : Hid (∀ (p : Addr) (cap : Nat) (W : World), p.block < W.heap.size → W.cell? p = some (.int .u64 (g : Int)) → Calls Tryz.prog 69 #[.slice (some p) 1 cap] W fun e w' => e = .returned (.string (str (Var.enc 9 g))) ∧ Below W.heap.size W w') := Lib.hid (fun p cap W h1 h2 => uints_one g p cap W hg h1 h2)
  have hl := enc9_len g
  have hl2 := enc9_len s.size
  have hsz := hdB_size g s
  have h1 := str_size (Var.enc 9 g)
  have h2 := lstr_size s
  have hd : hdB g s = str (Var.enc 9 g) ++ lstr s := rfl
  rw [hd] at hsz ⊢
  generalize str (Var.enc 9 g) = a at *
  obtain ⟨b, hb⟩ : ∃ b, b = lstr s := ⟨_, rfl⟩
  have HT : Hid (∀ (p : Addr) (cap : Nat) (W : World), p.block < W.heap.size → W.cell? p = some (.string s) → Calls Tryz.prog 70 #[.slice (some p) 1 cap] W fun e w' => e = .returned (.string b) ∧ Below W.heap.size W w') := Lib.hid (fun p cap W h1 h2 => by rw [hb]; exact texts_one s p cap W (by omega) h1 h2)
  rw [← hb] at hsz h2 ⊢
  clear hd hb
  obtain ⟨w1, hw1⟩ : ∃ w1, w1 = w.alloc (.cells #[.int .u64 (g : Int)] 33) := ⟨_, rfl⟩
  have o1 : Below w.heap.size w w1 := by rw [hw1]; exact (Below.refl _ w).alloc (Nat.le_refl _) _
  have b1 : Blk w1 w.heap.size 33 #[.int .u64 (g : Int)] := by rw [hw1]; exact Blk.new w _ _
  have c1 : w1.cell? ⟨w.heap.size, 0, none⟩ = some (.int .u64 (g : Int)) := b1.cell 0
  have HB := Lib.hid b1
  have HO := Lib.hid o1
  have HW := Lib.hid hw1.symm
  have HL : Hid (w.heap.size < w1.heap.size) := Lib.hid b1.lt
  have HC := Lib.hid c1
  clear hw1 o1 b1 c1
  go_enter Tryz.func47, Tryz.ntmps47
  go_wp2_with fail
  rw [HW.out]
  refine (HU.out ⟨w.heap.size, 0, none⟩ 1 w1 HL.out HC.out).mono ?_
  rintro e w2 ⟨rfl, k1⟩
  have O2 := Lib.hid (HO.out.trans (k1.mono HO.out.size))
  clear k1
  obtain ⟨w3, hw3⟩ : ∃ w3, w3 = w2.alloc (.cells #[.string s] 9) := ⟨_, rfl⟩
  have o3 : Below w2.heap.size w2 w3 := by rw [hw3]; exact (Below.refl _ w2).alloc (Nat.le_refl _) _
  have b3 : Blk w3 w2.heap.size 9 #[.string s] := by rw [hw3]; exact Blk.new w2 _ _
  have HC3 : Hid (w3.cell? ⟨w2.heap.size, 0, none⟩ = some (.string s)) := Lib.hid (b3.cell 0)
  have HL3 : Hid (w2.heap.size < w3.heap.size) := Lib.hid b3.lt
  have HW3 := Lib.hid hw3.symm
  have O3 := Lib.hid (O2.out.trans (o3.mono O2.out.size))
  clear hw3 o3 b3
  go_wp2_with fail
  rw [HW3.out]
  refine (HT.out ⟨w2.heap.size, 0, none⟩ 1 w3 HL3.out HC3.out).mono ?_
  rintro e w4 ⟨rfl, k1⟩
  have O4 := Lib.hid (O3.out.trans (k1.mono O3.out.size))
  clear k1
  go_wp2_with fail
  go_ret
  exact ⟨rfl, O4.out⟩
/-- does a head fit? -/
def fitR (g : Nat) (s : ByteArray) : Int := if 1270 < fsize (hdB g s).size then 6 else 0
theorem fits_ok (g : Nat) (s : ByteArray) (w : World) (hg : g < 18446744073709551616) (hs : s.size ≤ 65536) :
    Calls Tryz.prog 21 #[.int .i64 10, .int .u64 (g : Int), .string s] w fun e w' => e = .returned (.int .i64 (fitR g s)) ∧ Below w.heap.size w w' := by
  have hl := enc9_len g
  have hl2 := enc9_len s.size
  have hsz := hdB_size g s
  have hi : ¬ (65536 : Int) < (s.size : Int) := by omega
  have HH := Lib.hid (head_ok g s w hg (by omega))
  obtain ⟨R, hR⟩ : ∃ R, R = fitR g s := ⟨_, rfl⟩
  have hf := fsize_any ((hdB g s).size : Int) 
  rw [← hR]
  unfold fitR at hR
  generalize hdB g s = hd at *
  have hF : ∀ W, Calls Tryz.prog 41 #[.int .i64 (hd.size : Int)] W fun e w' => e = .returned (.int .i64 (fsize hd.size : Nat)) ∧ w' = W := fun W => by
    have h := hf W (by omega) (by omega)
    rw [if_neg (by omega), Int.toNat_natCast] at h
    exact h
  have HF := Lib.hid hF
  clear hf hF hl hl2 hsz hg
  generalize fsize hd.size = z at *
  by_cases hz : 1270 < z
  · rw [if_pos hz] at hR
    subst hR
    have hzi : (1270 : Int) < (z : Int) := by omega
    go_enter Tryz.func21, Tryz.ntmps21
    go_wp2_with fail
    refine HH.out.mono ?_
    rintro e w1 ⟨rfl, k1⟩
    have K1 := Lib.hid k1
    clear k1
    go_wp2_with fail
    refine (HF.out w1).mono ?_
    rintro e w2 ⟨rfl, rfl⟩
    go_wp2_with fail
    go_ret
    exact ⟨rfl, K1.out⟩
  · rw [if_neg hz] at hR
    subst hR
    have hzi : ¬ (1270 : Int) < (z : Int) := by omega
    go_enter Tryz.func21, Tryz.ntmps21
    go_wp2_with fail
    refine HH.out.mono ?_
    rintro e w1 ⟨rfl, k1⟩
    have K1 := Lib.hid k1
    clear k1
    go_wp2_with fail
    refine (HF.out w1).mono ?_
    rintro e w2 ⟨rfl, rfl⟩
    go_wp2_with fail
    go_ret
    exact ⟨rfl, K1.out⟩
section
variable {w : World} {s p bb k g : Nat}
theorem stnone_ok (h : StoW w s p bb k g) : Calls Tryz.prog 27 #[.pointer (some ⟨s, 0, none⟩)] w fun e w' => e = .returned (.bool false) ∧ w = w' := by
  have c3 : w.cell? ⟨s, 3, none⟩ = some (.pointer (some ⟨p, 0, none⟩)) := Blk.cell h 3
  clear h
  go_enter Tryz.func27, Tryz.ntmps27
  go_wp2_with fail
  go_ret
  exact ⟨rfl, rfl⟩
theorem stgen_ok (h : StoW w s p bb k g) : Calls Tryz.prog 11 #[.pointer (some ⟨s, 0, none⟩)] w fun e w' => e = .returned (.int .u64 (g : Int)) ∧ w = w' := by
  have c2 : w.cell? ⟨s, 2, none⟩ = some (.int .u64 (g : Int)) := Blk.cell h 2
  have HN := Lib.hid (stnone_ok h)
  clear h
  go_enter Tryz.func11, Tryz.ntmps11
  go_wp2_with fail
  refine HN.out.mono ?_
  rintro e w1 ⟨rfl, rfl⟩
  go_wp2_with fail
  go_ret
  exact ⟨rfl, rfl⟩
theorem stroom_ok (f : Nat) (t : List UInt8) (h : StoW w s p bb k g) (hb : BookB w bb p f (10 : Nat) (sB t) false) (ht : t.length ≤ 1270) :
    Calls Tryz.prog 12 #[.pointer (some ⟨s, 0, none⟩)] w fun e w' => e = .returned (.int .i64 (1270 - (t.length : Int))) ∧ Only (fun _ => False) w w' := by
  have c0 : w.cell? ⟨s, 0, none⟩ = some (.pointer (some ⟨bb, 0, none⟩)) := Blk.cell h 0
  have HN := Lib.hid (stnone_ok h)
  have HR : Hid (Calls Tryz.prog 34 #[.pointer (some ⟨bb, 0, none⟩)] w fun e w' => e = .returned (.int .i64 (1270 - (t.length : Int))) ∧ Only (fun _ => False) w w') := Lib.hid (room_any p f 10 bb t false w hb (by omega) (by omega))
  clear h hb
  go_enter Tryz.func12, Tryz.ntmps12
  go_wp2_with fail
  refine HN.out.mono ?_
  rintro e w1 ⟨rfl, rfl⟩
  go_wp2_with fail
  refine HR.out.mono ?_
  rintro e w1 ⟨rfl, k1⟩
  have K1 := Lib.hid k1
  clear k1
  go_wp2_with fail
  go_ret
  exact ⟨rfl, K1.out⟩
theorem stkept_ok (x : Int) (h : StoW w s p bb k g) (h1 : x ≠ 51) (h2 : x ≠ 50) : Calls Tryz.prog 28 #[.pointer (some ⟨s, 0, none⟩), .int .i64 x] w fun e w' => e = .returned (.int .i64 x) ∧ StoW w' s p bb k g ∧ Only (fun b => b = s) w w' := by
  have c4 : w.cell? ⟨s, 4, none⟩ = some (.bool false) := Blk.cell h 4
  have f4 : w.frozen? ⟨s, 4, none⟩ = false := Blk.frozen h 4
  have H4 : Hid (StoW (w.setCell ⟨s, 4, none⟩ (.bool false)) s p bb k g) := Lib.hid (Blk.set_ h 4 (.bool false))
  have HO : Hid (Only (fun b => b = s) w (w.setCell ⟨s, 4, none⟩ (.bool false))) := Lib.hid ((Only.refl (fun b => b = s) w).setCell (p := ⟨s, 4, none⟩) (.inl rfl) _)
  have e1 : (x == 51) = false := beq_eq_false_iff_ne.2 h1
  have e2 : (x == 50) = false := beq_eq_false_iff_ne.2 h2
  clear h
  go_enter Tryz.func28, Tryz.ntmps28
  go_wp2_with fail
  go_ret
  exact ⟨rfl, H4.out, HO.out⟩
end
end Go.Proofs.YthggliknnmhbdaaGreat
