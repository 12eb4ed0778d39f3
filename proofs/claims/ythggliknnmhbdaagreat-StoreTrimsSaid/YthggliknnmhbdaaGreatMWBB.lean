/- Several texts in one: WrB, WrC. -/
import Derived.Test.YthggliknnmhbdaaGreatMWBA
import Derived.Laws.EntriesVeiled
/- The walks of wire.New, Reader.Uint, Reader.Text, Reader.End where what is read is there. No conditions beyond what each states. -/
namespace Go.Proofs.YthggliknnmhbdaaGreat
open Go.RowKit
set_option linter.unusedVariables false
/-- a reader without an error, and what is left of its bytes -/
def RdAt (w : World) (r : Nat) (s : ByteArray) : Prop := Blk w r 112 #[.string s, .int .i64 0, .bool true]
theorem rdnone_any (r : Nat) (s : ByteArray) (w : World) (h : RdAt w r s) :
    Calls Tryz.prog 67 #[.pointer (some ⟨r, 0, none⟩)] w fun e w' => e = .returned (.bool false) ∧ w = w' := by
  have c2 : w.cell? ⟨r, 2, none⟩ = some (.bool true) := Blk.cell h 2
  clear h
  go_enter Tryz.func67, Tryz.ntmps67
  go_wp2_with fail
  go_ret
  exact ⟨rfl, rfl⟩
theorem take_ok (r n : Nat) (s : ByteArray) (w : World) (h : RdAt w r s) (hn : n ≤ s.size) (hs : s.size ≤ 1099511627776) :
    Calls Tryz.prog 68 #[.pointer (some ⟨r, 0, none⟩), .int .i64 (n : Int), .int .i64 0] w fun e w' => e = .returned (.bool true) ∧ RdAt w' r (s.extract n s.size) ∧ Only (fun b => b = r) w w' := by
  have h1 : Blk (w.setCell ⟨r, 1, none⟩ (.int .i64 0)) r 112 #[.string s, .int .i64 0, .bool true] := Blk.set_ h 1 (.int .i64 0)
  have h2 : Blk ((w.setCell ⟨r, 1, none⟩ (.int .i64 0)).setCell ⟨r, 0, none⟩ (.string (s.extract n s.size))) r 112 #[.string (s.extract n s.size), .int .i64 0, .bool true] := h1.set_ 0 (.string (s.extract n s.size))
  have o2 : Only (fun b => b = r) w ((w.setCell ⟨r, 1, none⟩ (.int .i64 0)).setCell ⟨r, 0, none⟩ (.string (s.extract n s.size))) := ((Only.refl (fun b => b = r) w).setCell (p := ⟨r, 1, none⟩) (.inl rfl) _).setCell (p := ⟨r, 0, none⟩) (.inl rfl) _
  have c1 : w.cell? ⟨r, 1, none⟩ = some (.int .i64 0) := Blk.cell h 1
  have f1 : w.frozen? ⟨r, 1, none⟩ = false := Blk.frozen h 1
  have c0 : (w.setCell ⟨r, 1, none⟩ (.int .i64 0)).cell? ⟨r, 0, none⟩ = some (.string s) := h1.cell 0
  have f0 : (w.setCell ⟨r, 1, none⟩ (.int .i64 0)).frozen? ⟨r, 0, none⟩ = false := h1.frozen 0
  have H2 := Lib.hid h2
  have O2 := Lib.hid o2
  clear h h1 h2 o2
  go_enter Tryz.func68, Tryz.ntmps68
  go_wp2_with fail
  go_ret
  exact ⟨rfl, H2.out, O2.out⟩
theorem uint1_ok (x n most b : Nat) (w : World) (hm : w.cell? ⟨b, 0, none⟩ = some (.int .u64 (most : Int))) (hx : x ≤ most) :
    Calls Tryz.prog 65 #[.int .u64 (x : Int), .int .i64 (n : Int), .pointer (some ⟨b, 0, none⟩)] w fun e w' => e = .returned (.tuple #[.int .i64 (n : Int), .int .i64 0]) ∧ w = w' := by
  have hx' : ¬ (most : Int) < (x : Int) := by omega
  go_enter Tryz.func65, Tryz.ntmps65
  go_wp2_with fail
  go_ret2
  exact ⟨rfl, rfl⟩
theorem counted1_ok (x n r b1 b2 : Nat) (most : Nat) (s : ByteArray) (w : World) (h : RdAt w r s) (hm : w.cell? ⟨b1, 0, none⟩ = some (.int .i64 (most : Int))) (hr : w.cell? ⟨b2, 0, none⟩ = some (.pointer (some ⟨r, 0, none⟩))) (hx : x ≤ most) (hmo : most ≤ 1099511627776) (hxn : x + n ≤ s.size) (hs : s.size ≤ 1099511627776) :
    Calls Tryz.prog 83 #[.int .u64 (x : Int), .int .i64 (n : Int), .pointer (some ⟨b1, 0, none⟩), .pointer (some ⟨b2, 0, none⟩)] w fun e w' => e = .returned (.tuple #[.int .i64 (n : Int), .int .i64 0]) ∧ w = w' := by
  have c0 : w.cell? ⟨r, 0, none⟩ = some (.string s) := Blk.cell h 0
  have i1 : ¬ (most : Int) < 0 := by omega
  have i2 : ¬ (most : Int) < (x : Int) := by omega
  have i3 : ¬ (9223372036854775807 : Int) < (x : Int) := by omega
  have i4 : ¬ (s.size : Int) - (n : Int) < (x : Int) := by omega
  have d1 : decide ((most : Int) < 0) = false := decide_eq_false i1
  have d3 : decide ((9223372036854775807 : Int) < (x : Int)) = false := decide_eq_false i3
  have wm : IntKind.u64.wrap (most : Int) = (most : Int) := IntWalk.u64_in _ (by omega)
  have wx : IntKind.i64.wrap (x : Int) = (x : Int) := IntWalk.i64_in _ (by omega)
  have ws : IntKind.i64.wrap ((s.size : Int) - (n : Int)) = (s.size : Int) - (n : Int) := IntWalk.i64_in _ (by omega)
  clear h
  go_enter Tryz.func83, Tryz.ntmps83
  go_wp2_with fail
  go_ret2
  exact ⟨rfl, rfl⟩
end Go.Proofs.YthggliknnmhbdaaGreat
/- The walks of Reader.number, Uint, counted, Text, End, wire.New where what is read is there. No conditions beyond what each states. -/
namespace Go.Proofs.YthggliknnmhbdaaGreat
open Go.RowKit
set_option linter.unusedVariables false
set_option maxHeartbeats 1000000 in
theorem number_ok (r x n : Nat) (s : ByteArray) (fid : Nat) (caps : Array Value) (w : World) (h : RdAt w r s) (hrd : Var.read (bs s) = (x, n, 0)) (hn : n ≤ s.size) (hs : s.size ≤ 1099511627776)
    (hfn : ∀ xs w, (callFunc fid xs).run Tryz.prog w = .ok (.enter fid xs) w) (hc : Calls Tryz.prog fid (#[.int .u64 (x : Int), .int .i64 (n : Int)] ++ caps) w fun e w' => e = .returned (.tuple #[.int .i64 (n : Int), .int .i64 0]) ∧ w = w') :
    Calls Tryz.prog 64 #[.pointer (some ⟨r, 0, none⟩), .func (.func fid) #[] caps] w fun e w' => e = .returned (.int .u64 (x : Int)) ∧ RdAt w' r (s.extract n s.size) ∧ Only (fun b => b = r) w w' := by
  have c0 : w.cell? ⟨r, 0, none⟩ = some (.string s) := Blk.cell h 0
  have HR := Lib.hid h
  have HN := Lib.hid (nread_any s w (by omega))
  have HRD := Lib.hid hrd
  have HC := Lib.hid hc
  clear h hrd hc
  go_enter Tryz.func64, Tryz.ntmps64
  go_wp2_with fail
  refine (rdnone_any r s w HR.out).mono ?_
  rintro e w1 ⟨rfl, rfl⟩
  go_wp2_with fail
  refine HN.out.mono ?_
  rw [HRD.out]
  rintro e w1 ⟨rfl, rfl⟩
  go_wp2_with fail
  refine HC.out.mono ?_
  rintro e w2 ⟨rfl, rfl⟩
  go_wp2_with fail
  refine (take_ok r n s w1 HR.out hn hs).mono ?_
  rintro e w2 ⟨rfl, k1, k2⟩
  have K1 := Lib.hid k1
  have K2 := Lib.hid k2
  clear k1 k2 c0
  go_wp2_with fail
  go_ret
  exact ⟨rfl, K1.out, K2.out⟩
theorem uint_ok (r x n most : Nat) (s : ByteArray) (w : World) (h : RdAt w r s) (hrd : Var.read (bs s) = (x, n, 0)) (hn : n ≤ s.size) (hs : s.size ≤ 1099511627776) (hx : x ≤ most) :
    Calls Tryz.prog 44 #[.pointer (some ⟨r, 0, none⟩), .int .u64 (most : Int)] w fun e w' => e = .returned (.int .u64 (x : Int)) ∧ RdAt w' r (s.extract n s.size) ∧ Only (fun b => b = r) w w' := by
  obtain ⟨w1, hw1⟩ : ∃ w1, w1 = w.alloc (.cells #[.int .u64 (most : Int)] 33) := ⟨_, rfl⟩
  obtain ⟨xb, hxb⟩ : ∃ xb, xb = w.heap.size := ⟨_, rfl⟩
  have o1 : Only (fun _ => False) w w1 := by rw [hw1]; exact (Only.refl _ w).alloc _
  have b0 : Blk w1 xb 33 #[.int .u64 (most : Int)] := by rw [hw1, hxb]; exact Blk.new w _ _
  have hN := number_ok r x n s 65 #[.pointer (some ⟨xb, 0, none⟩)] w1 (o1.blk h (fun h => h)) hrd hn hs (fun xs w => enters_of Tryz.func65 (by kernel_rfl) rfl xs w) (uint1_ok x n most xb w1 (b0.cell 0) hx)
  have HN := Lib.hid hN
  have HO := Lib.hid o1
  have HW := Lib.hid hw1.symm
  have HQ := Lib.hid hxb.symm
  clear o1 b0 hN hw1 hxb h hrd
  go_enter Tryz.func44, Tryz.ntmps44
  go_wp2_with fail
  rw [HW.out, HQ.out]
  refine HN.out.mono ?_
  rintro e w2 ⟨rfl, k1, k2⟩
  have K1 := Lib.hid k1
  have K2 := Lib.hid ((HO.out.mono fun _ h => h.elim).trans k2)
  clear k1 k2
  go_wp2_with fail
  go_ret
  exact ⟨rfl, K1.out, K2.out⟩
theorem counted_ok (r x n most : Nat) (s : ByteArray) (w : World) (h : RdAt w r s) (hrd : Var.read (bs s) = (x, n, 0)) (hxn : x + n ≤ s.size) (hs : s.size ≤ 1099511627776) (hx : x ≤ most) (hmo : most ≤ 1099511627776) :
    Calls Tryz.prog 66 #[.pointer (some ⟨r, 0, none⟩), .int .i64 (most : Int)] w fun e w' => e = .returned (.int .u64 (x : Int)) ∧ RdAt w' r (s.extract n s.size) ∧ Only (fun b => b = r) w w' := by
  obtain ⟨w1, hw1⟩ : ∃ w1, w1 = w.alloc (.cells #[.pointer (some ⟨r, 0, none⟩)] 83) := ⟨_, rfl⟩
  obtain ⟨rb, hrb⟩ : ∃ rb, rb = w.heap.size := ⟨_, rfl⟩
  have o1 : Only (fun _ => False) w w1 := by rw [hw1]; exact (Only.refl _ w).alloc _
  have b1 : Blk w1 rb 83 #[.pointer (some ⟨r, 0, none⟩)] := by rw [hw1, hrb]; exact Blk.new w _ _
  obtain ⟨w2, hw2⟩ : ∃ w2, w2 = w1.alloc (.cells #[.int .i64 (most : Int)] 3) := ⟨_, rfl⟩
  obtain ⟨mb, hmb⟩ : ∃ mb, mb = rb + 1 := ⟨_, rfl⟩
  have hz1 : rb + 1 = w1.heap.size := by rw [hw1, hrb]; simp
  have o2 : Only (fun _ => False) w1 w2 := by rw [hw2]; exact (Only.refl _ w1).alloc _
  have b2 : Blk w2 mb 3 #[.int .i64 (most : Int)] := by rw [hw2, hmb, hz1]; exact Blk.new w1 _ _
  have b1' := o2.blk b1 (fun h => h)
  have cr : w2.cell? ⟨rb, 0, none⟩ = some (.pointer (some ⟨r, 0, none⟩)) := b1'.cell 0
  have hR2 : RdAt w2 r s := (o1.trans o2).blk h (fun h => h)
  have hN := number_ok r x n s 83 #[.pointer (some ⟨mb, 0, none⟩), .pointer (some ⟨rb, 0, none⟩)] w2 hR2 hrd (by omega) hs (fun xs w => enters_of Tryz.func83 (by kernel_rfl) rfl xs w) (counted1_ok x n r mb rb most s w2 hR2 (b2.cell 0) cr hx hmo hxn hs)
  have HN := Lib.hid hN
  have HO := Lib.hid (o1.trans o2)
  have HW1 := Lib.hid hw1.symm
  have HW2 := Lib.hid hw2.symm
  have HQ1 := Lib.hid hrb.symm
  have HQ2 := Lib.hid hmb.symm
  have crr := cr
  rw [hw2, hw1, hrb] at crr
  clear hz1 o1 o2 b1 b1' b2 hN hw1 hw2 hrb hmb h hrd hR2 cr
  go_enter Tryz.func66, Tryz.ntmps66
  go_wp2_with fail
  clear crr
  rw [HW1.out, HQ1.out, HW2.out, HQ2.out]
  refine HN.out.mono ?_
  rintro e w3 ⟨rfl, k1, k2⟩
  have K1 := Lib.hid k1
  have K2 := Lib.hid ((HO.out.mono fun _ h => h.elim).trans k2)
  clear k1 k2
  go_wp2_with fail
  go_ret
  exact ⟨rfl, K1.out, K2.out⟩
theorem text_ok (r most : Nat) (s : ByteArray) (w : World) (h : RdAt w r (lstr s)) (hs : s.size ≤ 1000000000) (hx : s.size ≤ most) (hmo : most ≤ 1099511627776) :
    Calls Tryz.prog 45 #[.pointer (some ⟨r, 0, none⟩), .int .i64 (most : Int)] w fun e w' => e = .returned (.string s) ∧ RdAt w' r ⟨#[]⟩ ∧ Only (fun b => b = r) w w' := by
  have hl := enc9_len s.size
  have hsz := lstr_size s
  have hrd : Var.read (bs (lstr s)) = (s.size, (Var.enc 9 s.size).length, 0) := bs_front s.size (by omega) s
  have hc := counted_ok r s.size (Var.enc 9 s.size).length most (lstr s) w h hrd (by omega) (by omega) hx hmo
  have he : (lstr s).extract (Var.enc 9 s.size).length (lstr s).size = s := behind_front _ _
  rw [he] at hc
  have HC := Lib.hid hc
  have hw1 : whole_text s = whole_text s := rfl
  have hwt := whole_text s
  have hno := no_text s
  have HNO := Lib.hid hno
  have wx : IntKind.i64.wrap (s.size : Int) = (s.size : Int) := IntWalk.i64_in _ (by omega)
  clear hl hsz hrd hc he h hno hw1
  go_enter Tryz.func45, Tryz.ntmps45
  go_wp2_with fail
  refine HC.out.mono ?_
  rintro e w1 ⟨rfl, k1, k2⟩
  have K1 := Lib.hid k1
  have K2 := Lib.hid k2
  have c0 : w1.cell? ⟨r, 0, none⟩ = some (.string s) := Blk.cell k1 0
  clear k1 k2
  go_wp2_with fail
  refine (rdnone_any r s w1 K1.out).mono ?_
  rintro e w2 ⟨rfl, rfl⟩
  go_wp2_with fail
  refine (take_ok r s.size s w1 K1.out (Nat.le_refl _) (by omega)).mono ?_
  rw [HNO.out]
  rintro e w2 ⟨rfl, j1, j2⟩
  have J1 := Lib.hid j1
  have J2 := Lib.hid (K2.out.trans j2)
  clear j1 j2 c0
  go_wp2_with fail
  go_ret
  exact ⟨rfl, J1.out, J2.out⟩
theorem end_ok (r : Nat) (w : World) (h : RdAt w r ⟨#[]⟩) :
    Calls Tryz.prog 46 #[.pointer (some ⟨r, 0, none⟩)] w fun e w' => e = .returned (.int .i64 0) ∧ w = w' := by
  have c0 : w.cell? ⟨r, 0, none⟩ = some (.string ⟨#[]⟩) := Blk.cell h 0
  have c1 : w.cell? ⟨r, 1, none⟩ = some (.int .i64 0) := Blk.cell h 1
  have HN := Lib.hid (rdnone_any r _ w h)
  clear h
  go_enter Tryz.func46, Tryz.ntmps46
  go_wp2_with fail
  refine HN.out.mono ?_
  rintro e w1 ⟨rfl, rfl⟩
  go_wp2_with fail
  go_ret
  exact ⟨rfl, rfl⟩
theorem wnew_any (s : ByteArray) (w : World) :
    Calls Tryz.prog 43 #[.string s] w fun e w' => e = .returned (.pointer (some ⟨w.heap.size, 0, none⟩)) ∧ RdAt w' w.heap.size s ∧ Only (fun _ => False) w w' := by
  go_enter Tryz.func43, Tryz.ntmps43
  go_wp2_with fail
  go_ret
  exact ⟨rfl, Blk.new w _ _, (Only.refl _ w).alloc _⟩
/-- a head is read -/
theorem read_ok (g : Nat) (s : ByteArray) (w : World) (hg : 1 ≤ g) (hg2 : g ≤ 4611686018427387904) (hs : s.size ≤ 65536) :
    Calls Tryz.prog 18 #[.string (hdB g s)] w fun e w' => e = .returned (.tuple #[.int .u64 (g : Int), .string s, .bool true]) ∧ Only (fun _ => False) w w' := by
  have hl := enc9_len g
  have hl2 := enc9_len s.size
  have hsz := hdB_size g s
  have hrd : Var.read (bs (hdB g s)) = (g, (Var.enc 9 g).length, 0) := bs_front g (by omega) (lstr s)
  have he : (hdB g s).extract (Var.enc 9 g).length (hdB g s).size = lstr s := behind_front _ _
  have HU : Hid (∀ (r : Nat) (W : World), RdAt W r (hdB g s) → Calls Tryz.prog 44 #[.pointer (some ⟨r, 0, none⟩), .int .u64 4611686018427387904] W fun e w' => e = .returned (.int .u64 (g : Int)) ∧ RdAt w' r (lstr s) ∧ Only (fun b => b = r) W w') := Lib.hid (fun r W h => by
    have := uint_ok r g (Var.enc 9 g).length 4611686018427387904 (hdB g s) W h hrd (by omega) (by omega) hg2
    rwa [he] at this)
  have HT : Hid (∀ (r : Nat) (W : World), RdAt W r (lstr s) → Calls Tryz.prog 45 #[.pointer (some ⟨r, 0, none⟩), .int .i64 65536] W fun e w' => e = .returned (.string s) ∧ RdAt w' r ⟨#[]⟩ ∧ Only (fun b => b = r) W w') := Lib.hid (fun r W h => text_ok r 65536 s W h (by omega) hs (by omega))
  have hg0 : (0 : Int) < (g : Int) := by omega
  generalize hdB g s = hd at *
  clear hl hl2 hsz hrd he hg hg2
  go_enter Tryz.func18, Tryz.ntmps18
  go_wp2_with fail
  refine (wnew_any hd w).mono ?_
  rintro e w1 ⟨rfl, k1, k2⟩
  obtain ⟨r, hr⟩ : ∃ r, r = w.heap.size := ⟨_, rfl⟩
  rw [← hr] at k1 ⊢
  have HR := Lib.hid hr
  have K1 := Lib.hid k1
  have K2 := Lib.hid k2
  clear k1 k2 hr
  go_wp2_with fail
  refine (HU.out r w1 K1.out).mono ?_
  rintro e w2 ⟨rfl, k1, k2⟩
  have J1 := Lib.hid k1
  have J2 := Lib.hid k2
  clear k1 k2
  go_wp2_with fail
  refine (HT.out r w2 J1.out).mono ?_
  rintro e w3 ⟨rfl, k1, k2⟩
  have L1 := Lib.hid k1
  have L2 := Lib.hid k2
  clear k1 k2
  go_wp2_with fail
  refine (end_ok r w3 L1.out).mono ?_
  rintro e w4 ⟨rfl, rfl⟩
  go_wp2_with fail
  go_ret3
  refine ⟨by rw [show decide (0 < g) = true from decide_eq_true (by omega)]; rfl, ?_⟩
  exact K2.out.trans' (J2.out.trans L2.out) (fun b hb => .inr (by rw [hb, HR.out]; exact Nat.le_refl _))
end Go.Proofs.YthggliknnmhbdaaGreat
