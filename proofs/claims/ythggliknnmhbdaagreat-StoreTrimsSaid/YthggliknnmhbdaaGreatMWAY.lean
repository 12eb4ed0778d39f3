/- Several texts in one: RlA, RlB, RlC, RlD, RlE, RlF, RlG, RpA, RpB, RpC, RqA, RqB, RqC, StP. -/
import Derived.Test.YthggliknnmhbdaaGreatMWAX
import Derived.Test.YthggliknnmhbdaaGreatMWAT
import Derived.Test.YthggliknnmhbdaaGreatMWAP
import Derived.Test.YthggliknnmhbdaaGreatMWAU
/- The document's book: a sector, may a part be, how much room there is. No conditions beyond what each states. -/
namespace Go.Proofs.YthggliknnmhbdaaGreat
set_option maxRecDepth 100000
open Go.RowKit
set_option linter.unusedVariables false
attribute [local simp] frOf dstsOf frGo predsHold allHold Region.binds slotOf seen Is Act.put
/-- may a part be? -/
def mayB (n : Nat) (f nn : Int) : Bool := decide (0 ≤ f ∧ 1 ≤ nn ∧ f ≤ (n : Int) ∧ nn ≤ (n : Int) - f)
end Go.Proofs.YthggliknnmhbdaaGreat
/- The document's book: the stream of sectors, the sectors read. No conditions beyond what each states. -/
namespace Go.Proofs.YthggliknnmhbdaaGreat
set_option maxRecDepth 100000
open Go.RowKit
set_option linter.unusedVariables false
end Go.Proofs.YthggliknnmhbdaaGreat
/- The document's book: sectors are made anew by a stream. No conditions beyond what each states. -/
namespace Go.Proofs.YthggliknnmhbdaaGreat
set_option maxRecDepth 100000
open Go.RowKit
set_option linter.unusedVariables false
section
variable {w w' : World} {q gg n g c base k : Nat} {S : Dst} {B m : Nat} {xs : List Value}
end
end Go.Proofs.YthggliknnmhbdaaGreat
/- The document's book: the records of a stream. No conditions beyond what each states. -/
namespace Go.Proofs.YthggliknnmhbdaaGreat
set_option maxRecDepth 100000
open Go.RowKit
set_option linter.unusedVariables false
end Go.Proofs.YthggliknnmhbdaaGreat
/- The document's book: Open, Clear. No conditions beyond what each states. -/
namespace Go.Proofs.YthggliknnmhbdaaGreat
set_option maxRecDepth 100000
open Go.RowKit
set_option linter.unusedVariables false
/-- a book is opened: the error, the disk then -/
def opS (n : Nat) (f nn : Int) (S : Dst) : Int × Dst :=
  if mayB n f nn then (if S.still then (51, S) else ((anewS n f.toNat (openX f.toNat nn.toNat fun j => S.cur.getD j []) (openT f.toNat nn.toNat fun j => S.cur.getD j []) S).1, (anewS n f.toNat (openX f.toNat nn.toNat fun j => S.cur.getD j []) (openT f.toNat nn.toNat fun j => S.cur.getD j []) S).2.1)) else (2, S)
/-- a part is cleared -/
def clS (n : Nat) (f nn : Int) (S : Dst) : Int × Dst :=
  if mayB n f nn then (if S.still then (51, S) else ((anewS n f.toNat [] (openT f.toNat nn.toNat fun j => S.cur.getD j []) S).1, (anewS n f.toNat [] (openT f.toNat nn.toNat fun j => S.cur.getD j []) S).2.1)) else (2, S)
theorem cur_len {n : Nat} {S : Dst} (h : SecOk n S.l S.g) {k : Nat} (hk : k < n) : (S.cur.getD k []).length = 128 := by
  have h2 := syncW_ok h
  have hl : k < S.cur.length := by show k < (syncW S.l S.g).length; rw [h2.len]; exact hk
  have e : S.cur.getD k [] = S.cur[k] := by rw [List.getD_eq_getElem?_getD, List.getElem?_eq_getElem hl]; rfl
  rw [e]
  exact h2.all _ (List.getElem_mem hl)
section
variable {T : TypeId → Prop} {X Y : Nat → Prop} {w w' : World}
/-- what turns only new blocks besides -/
theorem FarG.new (h : FarG T X w w') (hx : ∀ k, X k → Y k ∨ w.heap.size ≤ k) : FarG T Y w w' :=
  ⟨h.os, h.tape, h.output, h.size, fun k t cs hb ht hy => h.blk k t cs hb ht (fun e => by
    rcases hx k e with h1 | h1
    · exact hy h1
    · have := hb.lt; omega)⟩
end
end Go.Proofs.YthggliknnmhbdaaGreat
/- The document's book: what Append writes, in plain words. -/
namespace Go.Proofs.YthggliknnmhbdaaGreat
set_option maxRecDepth 100000
open Go.RowKit
set_option linter.unusedVariables false
section
variable {n f nn : Nat} {t d : List UInt8}
end
end Go.Proofs.YthggliknnmhbdaaGreat
/- The document's book: the walk of Append, of Sync. No conditions beyond what each states. -/
namespace Go.Proofs.YthggliknnmhbdaaGreat
set_option maxRecDepth 100000
open Go.RowKit
set_option linter.unusedVariables false
attribute [local simp] frOf dstsOf frGo predsHold allHold Region.binds slotOf seen Is Act.put
theorem TextRow.only {w w' : World} {A : Option Addr} {xs : List ByteArray} (h : TextRow w A xs) (o : Only (fun _ => False) w w') : TextRow w' A xs := ⟨fun k hk => by
  obtain ⟨g, off, h1, h2, h3⟩ := h.at_ k hk
  exact ⟨g, off, h1, Nat.lt_of_lt_of_le h2 o.size, (o.cell (p := ⟨g, off + k, none⟩) h2 (fun h => h)).trans h3⟩⟩
end Go.Proofs.YthggliknnmhbdaaGreat
/- Books: a part that may not be; the disk's Read while its fuse is burnt down, its Fuse, its Loose. No conditions beyond what each states. -/
namespace Go.Proofs.YthggliknnmhbdaaGreat
set_option maxRecDepth 100000
open Go.RowKit
set_option linter.unusedVariables false
set_option maxRecDepth 100000
theorem check_bad (p gs n : Nat) (S : Dst) (B m : Nat) (f k : Int) (w : World) (D : DkS w p gs n S B m) (hk0 : -9223372036854775808 ≤ k) (hk1 : k ≤ 9223372036854775807) (hmay : mayB n f k = false) :
    Calls Tryz.prog 37 #[partV p f k] w fun e w' => e = .returned (.int .i64 2) ∧ Only (fun _ => False) w w' := by
  have hn : 1 ≤ n := D.1.1
  have hn2 : n ≤ 4096 := D.1.2.1
  have o1 : Only (fun _ => False) w (w.alloc (.cells #[.pointer (some ⟨p, 0, none⟩), .int .i64 f, .int .i64 k] 70)) := (Only.refl _ w).alloc _
  obtain ⟨w1, hw1⟩ : ∃ w1, w1 = w.alloc (.cells #[.pointer (some ⟨p, 0, none⟩), .int .i64 f, .int .i64 k] 70) := ⟨_, rfl⟩
  rw [← hw1] at o1
  have HD : Hid (∀ j, DkS (w1.drewN j) p gs n S B m) := Lib.hid (fun j => D.only (o1.drewN j))
  have HO := Lib.hid o1
  have HL := Lib.hid (dk_len p gs n S B m w1 (D.only o1))
  have HW := Lib.hid hw1.symm
  have hne : ¬ (n : Int) = 0 := by omega
  obtain ⟨q, hq⟩ : ∃ q, q = w.heap.size := ⟨_, rfl⟩
  have hb : Blk w1 q 70 #[.pointer (some ⟨p, 0, none⟩), .int .i64 f, .int .i64 k] := by rw [hw1, hq]; exact Blk.new w _ _
  have c0 : w1.cell? ⟨q, 0, none⟩ = some (.pointer (some ⟨p, 0, none⟩)) := hb.cell 0
  have c1 : w1.cell? ⟨q, 1, none⟩ = some (.int .i64 f) := hb.cell 1
  have c2 : w1.cell? ⟨q, 2, none⟩ = some (.int .i64 k) := hb.cell 2
  have HQ := Lib.hid hq.symm
  clear hb hw1 hq
  unfold partV
  clear D o1
  have HM : Hid (¬ (0 ≤ f ∧ 1 ≤ k ∧ f ≤ (n : Int) ∧ k ≤ (n : Int) - f)) := Lib.hid (by unfold mayB at hmay; exact of_decide_eq_false hmay)
  clear hmay
  by_cases i1 : f < 0
  · have e1 : decide (f < 0) = true := decide_eq_true i1
    go_enter Tryz.func37, Tryz.ntmps37
    go_wp2_with fail
    rw [HW.out, HQ.out]
    refine HL.out.mono ?_
    rintro e w2 ⟨rfl, rfl⟩
    go_wp2_with fail
    go_quiet ((go_at_call 31; exact quiet_left (dk_len p gs n S B m _ (HD.out _))))
    go_wp2_with fail
    go_ret
    exact ⟨rfl, HO.out.drewN nq⟩
  by_cases i2 : k < 1
  · have e1 : decide (f < 0) = false := decide_eq_false i1
    have e2 : decide (k < 1) = true := decide_eq_true i2
    go_enter Tryz.func37, Tryz.ntmps37
    go_wp2_with fail
    rw [HW.out, HQ.out]
    refine HL.out.mono ?_
    rintro e w2 ⟨rfl, rfl⟩
    go_wp2_with fail
    go_quiet ((go_at_call 31; exact quiet_left (dk_len p gs n S B m _ (HD.out _))))
    go_wp2_with fail
    go_ret
    exact ⟨rfl, HO.out.drewN nq⟩
  by_cases i3 : (n : Int) < k
  · have e1 : decide (f < 0) = false := decide_eq_false i1
    have e2 : decide (k < 1) = false := decide_eq_false i2
    have e3 : decide ((n : Int) < k) = true := decide_eq_true i3
    go_enter Tryz.func37, Tryz.ntmps37
    go_wp2_with fail
    rw [HW.out, HQ.out]
    refine HL.out.mono ?_
    rintro e w2 ⟨rfl, rfl⟩
    go_wp2_with fail
    go_quiet ((go_at_call 31; exact quiet_left (dk_len p gs n S B m _ (HD.out _))))
    go_wp2_with fail
    go_ret
    exact ⟨rfl, HO.out.drewN nq⟩
  · have hh := HM.out
    have i4 : (n : Int) - k < f := by omega
    have e1 : decide (f < 0) = false := decide_eq_false i1
    have e2 : decide (k < 1) = false := decide_eq_false i2
    have e3 : decide ((n : Int) < k) = false := decide_eq_false i3
    have e4 : decide ((n : Int) - k < f) = true := decide_eq_true i4
    have hwr : IntKind.i64.wrap ((n : Int) - k) = (n : Int) - k := IntWalk.i64_in _ (by omega)
    clear hh
    go_enter Tryz.func37, Tryz.ntmps37
    go_wp2_with fail
    rw [HW.out, HQ.out]
    refine HL.out.mono ?_
    rintro e w2 ⟨rfl, rfl⟩
    go_wp2_with fail
    go_quiet ((go_at_call 31; exact quiet_left (dk_len p gs n S B m _ (HD.out _))))
    go_wp2_with fail
    go_ret
    exact ⟨rfl, HO.out.drewN nq⟩
theorem read_still (p gs n : Nat) (S : Dst) (B m : Nat) (k : Int) (w : World) (D : DkS w p gs n S B m) (hst : S.still = true) :
    Calls Tryz.prog 56 #[.pointer (some ⟨p, 0, none⟩), .int .i64 k] w fun e w' => e = .returned (.tuple #[.string ⟨#[]⟩, .int .i64 51]) ∧ Only (fun _ => False) w w' := by
  obtain ⟨_, A, c, fb, left, D, hl, hr, f1, f2⟩ := D
  obtain ⟨rfl, rfl⟩ := still_on hst f2
  obtain ⟨w1, hw1⟩ : ∃ w1, w1 = w.alloc (.cells #[.int .i64 k] 3) := ⟨_, rfl⟩
  have o1 : Only (fun _ => False) w w1 := by rw [hw1]; exact (Only.refl _ w).alloc _
  have HD := Lib.hid (o1.blk D.blk (fun h => h))
  have HO := Lib.hid o1
  have HW := Lib.hid hw1.symm
  clear D o1 hw1
  go_enter Tryz.func56, Tryz.ntmps56
  go_wp2_with fail
  rw [HW.out]
  refine (none_any _ _ _ _ _ _ _ _ HD.out).mono ?_
  rintro e w2 ⟨rfl, rfl⟩
  go_wp2_with fail
  refine (still_any _ _ _ _ _ _ HD.out).mono ?_
  rintro e w2 ⟨rfl, rfl⟩
  go_wp2_with fail
  go_ret2
  exact ⟨rfl, HO.out⟩
end Go.Proofs.YthggliknnmhbdaaGreat
/- Books: Open and Clear in all cases. No conditions beyond what each states. -/
namespace Go.Proofs.YthggliknnmhbdaaGreat
set_option maxRecDepth 100000
open Go.RowKit
set_option linter.unusedVariables false
set_option maxHeartbeats 1000000 in
set_option maxRecDepth 100000 in
theorem all_still (p gs n f nn : Nat) (S : Dst) (B m : Nat) (w : World) (D : DkS w p gs n S B m) (hn1 : 1 ≤ nn) (hfn : f + nn ≤ n) (hst : S.still = true) :
    Calls Tryz.prog 38 #[partV p f nn] w fun e w' => e = .returned (.tuple #[.slice none 0 0, .int .i64 51]) ∧ Only (fun _ => False) w w' := by
  have hn4 : n ≤ 4096 := D.1.2.1
  have o1 : Only (fun _ => False) w (w.alloc (.cells #[.pointer (some ⟨p, 0, none⟩), .int .i64 f, .int .i64 nn] 70)) := (Only.refl _ w).alloc _
  obtain ⟨w1, hw1⟩ : ∃ w1, w1 = w.alloc (.cells #[.pointer (some ⟨p, 0, none⟩), .int .i64 f, .int .i64 nn] 70) := ⟨_, rfl⟩
  obtain ⟨q, hq⟩ : ∃ q, q = w.heap.size := ⟨_, rfl⟩
  have hb : Blk w1 q 70 #[.pointer (some ⟨p, 0, none⟩), .int .i64 f, .int .i64 nn] := by rw [hw1, hq]; exact Blk.new w _ _
  rw [← hw1] at o1
  have HO1 := Lib.hid o1
  have HW := Lib.hid hw1.symm
  have HQ := Lib.hid hq.symm
  have HC := Lib.hid (read_still p gs n S B m (f : Int) w1 (D.only o1) hst)
  have c0 : w1.cell? ⟨q, 0, none⟩ = some (.pointer (some ⟨p, 0, none⟩)) := hb.cell 0
  have c1 : w1.cell? ⟨q, 1, none⟩ = some (.int .i64 f) := hb.cell 1
  have c2 : w1.cell? ⟨q, 2, none⟩ = some (.int .i64 nn) := hb.cell 2
  have hlt' : (0 : Int) < (nn : Int) := by omega
  have hadd : IntKind.i64.wrap ((f : Int) + 0) = (f : Int) := by rw [IntWalk.i64_in _ (by omega)]; omega
  have hadd2 : IntKind.i64.wrap ((f : Int)) = (f : Int) := by rw [IntWalk.i64_in _ (by omega)]
  clear o1 hb hw1 hq D hst
  unfold partV
  go_enter Tryz.func38, Tryz.ntmps38
  go_wp2_with fail
  rw [HW.out, HQ.out]
  go_wp2_with fail
  go_loopw [9] (fun i wr => i = .int .i64 0 ∧ w1 = wr) (fun _ _ => 0)
  case atStart => exact ⟨rfl, rfl⟩
  case round =>
    obtain ⟨rfl, rfl⟩ := hrel
    go_wp2_with fail
    refine HC.out.mono ?_
    rintro e w2 ⟨rfl, o2⟩
    have O2 := Lib.hid o2
    clear o2
    go_wp2_with fail
    go_ret2
    exact ⟨rfl, HO1.out.trans O2.out⟩
set_option maxHeartbeats 1000000 in
set_option maxRecDepth 100000 in
theorem bopen_bad (p gs n : Nat) (S : Dst) (B m : Nat) (f nn : Int) (w : World) (D : DkS w p gs n S B m) (hk0 : -9223372036854775808 ≤ nn) (hk1 : nn ≤ 9223372036854775807) (hmay : mayB n f nn = false) :
    Calls Tryz.prog 17 #[.pointer (some ⟨p, 0, none⟩), .int .i64 f, .int .i64 nn] w fun e w' => e = .returned (.tuple #[.pointer none, .slice none 0 0, .int .i64 2]) ∧ Only (fun _ => False) w w' := by
  obtain ⟨w1, hw1⟩ : ∃ w1, w1 = w.alloc (.cells #[.pointer (some ⟨p, 0, none⟩), .int .i64 f, .int .i64 nn, .string ⟨#[]⟩, .bool false] 72) := ⟨_, rfl⟩
  obtain ⟨q, hq⟩ : ∃ q, q = w.heap.size := ⟨_, rfl⟩
  have o1 : Only (fun _ => False) w w1 := by rw [hw1]; exact (Only.refl _ w).alloc _
  have b0 : Blk w1 q 72 #[.pointer (some ⟨p, 0, none⟩), .int .i64 f, .int .i64 nn, .string ⟨#[]⟩, .bool false] := by rw [hw1, hq]; exact Blk.new w _ _
  have HO1 := Lib.hid o1
  have HB0 := Lib.hid b0
  have HD := Lib.hid (D.only o1)
  have HW := Lib.hid hw1.symm
  have HQ := Lib.hid hq.symm
  have c0 : w1.cell? ⟨q, 0, none⟩ = some (.pointer (some ⟨p, 0, none⟩)) := b0.cell 0
  have c1 : w1.cell? ⟨q, 1, none⟩ = some (.int .i64 f) := b0.cell 1
  have c2 : w1.cell? ⟨q, 2, none⟩ = some (.int .i64 nn) := b0.cell 2
  clear o1 b0 hw1 hq D
  go_enter Tryz.func17, Tryz.ntmps17
  go_wp2_with fail
  rw [HW.out, HQ.out]
  have hck := check_bad p gs n S B m f nn w1 HD.out hk0 hk1 hmay
  unfold partV at hck
  refine hck.mono ?_
  rintro e w2 ⟨rfl, o2⟩
  have O2 := Lib.hid o2
  clear o2 hck c0 c1 c2
  go_wp2_with fail
  (try go_ret3)
  exact ⟨rfl, HO1.out.trans O2.out⟩
set_option maxHeartbeats 1000000 in
set_option maxRecDepth 100000 in
theorem bopen_still (p gs n f nn : Nat) (S : Dst) (B m : Nat) (w : World) (D : DkS w p gs n S B m) (hn1 : 1 ≤ nn) (hfn : f + nn ≤ n) (hst : S.still = true) :
    Calls Tryz.prog 17 #[.pointer (some ⟨p, 0, none⟩), .int .i64 f, .int .i64 nn] w fun e w' => e = .returned (.tuple #[.pointer none, .slice none 0 0, .int .i64 51]) ∧ Only (fun _ => False) w w' := by
  obtain ⟨hn0, hn4⟩ : 1 ≤ n ∧ n ≤ 4096 := ⟨D.1.1, D.1.2.1⟩
  obtain ⟨w1, hw1⟩ : ∃ w1, w1 = w.alloc (.cells #[.pointer (some ⟨p, 0, none⟩), .int .i64 f, .int .i64 nn, .string ⟨#[]⟩, .bool false] 72) := ⟨_, rfl⟩
  obtain ⟨q, hq⟩ : ∃ q, q = w.heap.size := ⟨_, rfl⟩
  have o1 : Only (fun _ => False) w w1 := by rw [hw1]; exact (Only.refl _ w).alloc _
  have b0 : Blk w1 q 72 #[.pointer (some ⟨p, 0, none⟩), .int .i64 f, .int .i64 nn, .string ⟨#[]⟩, .bool false] := by rw [hw1, hq]; exact Blk.new w _ _
  have HO1 := Lib.hid o1
  have HB0 := Lib.hid b0
  have HD := Lib.hid (D.only o1)
  have HW := Lib.hid hw1.symm
  have HQ := Lib.hid hq.symm
  have c0 : w1.cell? ⟨q, 0, none⟩ = some (.pointer (some ⟨p, 0, none⟩)) := b0.cell 0
  have c1 : w1.cell? ⟨q, 1, none⟩ = some (.int .i64 f) := b0.cell 1
  have c2 : w1.cell? ⟨q, 2, none⟩ = some (.int .i64 nn) := b0.cell 2
  clear o1 b0 hw1 hq D
  go_enter Tryz.func17, Tryz.ntmps17
  go_wp2_with fail
  rw [HW.out, HQ.out]
  have hck := check_any p gs n S B m (f : Int) (nn : Int) w1 HD.out hn0 hn4 (by omega) (by omega) (by omega) (by omega)
  unfold partV at hck
  refine hck.mono ?_
  rintro e w2 ⟨rfl, o2⟩
  have O2 := Lib.hid o2
  clear o2 hck c0 c1 c2
  have c0 : w2.cell? ⟨q, 0, none⟩ = some (.pointer (some ⟨p, 0, none⟩)) := (O2.out.blk HB0.out (fun h => h)).cell 0
  have c1 : w2.cell? ⟨q, 1, none⟩ = some (.int .i64 f) := (O2.out.blk HB0.out (fun h => h)).cell 1
  have c2 : w2.cell? ⟨q, 2, none⟩ = some (.int .i64 nn) := (O2.out.blk HB0.out (fun h => h)).cell 2
  have hal := all_still p gs n f nn S B m w2 (HD.out.only O2.out) hn1 hfn hst
  unfold partV at hal
  clear hst
  go_wp2_with fail
  refine hal.mono ?_
  rintro e w3 ⟨rfl, o3⟩
  have O3 := Lib.hid o3
  clear o3 hal c0 c1 c2
  go_wp2_with fail
  (try go_ret3)
  exact ⟨rfl, (HO1.out.trans O2.out).trans O3.out⟩
set_option maxHeartbeats 1000000 in
set_option maxRecDepth 100000 in
theorem bclear_bad (p gs n : Nat) (S : Dst) (B m : Nat) (f nn : Int) (w : World) (D : DkS w p gs n S B m) (hk0 : -9223372036854775808 ≤ nn) (hk1 : nn ≤ 9223372036854775807) (hmay : mayB n f nn = false) :
    Calls Tryz.prog 23 #[.pointer (some ⟨p, 0, none⟩), .int .i64 f, .int .i64 nn] w fun e w' => e = .returned (.int .i64 2) ∧ Only (fun _ => False) w w' := by
  obtain ⟨w1, hw1⟩ : ∃ w1, w1 = w.alloc (.cells #[.pointer (some ⟨p, 0, none⟩), .int .i64 f, .int .i64 nn] 70) := ⟨_, rfl⟩
  obtain ⟨q, hq⟩ : ∃ q, q = w.heap.size := ⟨_, rfl⟩
  have o1 : Only (fun _ => False) w w1 := by rw [hw1]; exact (Only.refl _ w).alloc _
  have b0 : Blk w1 q 70 #[.pointer (some ⟨p, 0, none⟩), .int .i64 f, .int .i64 nn] := by rw [hw1, hq]; exact Blk.new w _ _
  have HO1 := Lib.hid o1
  have HB0 := Lib.hid b0
  have HD := Lib.hid (D.only o1)
  have HW := Lib.hid hw1.symm
  have HQ := Lib.hid hq.symm
  have c0 : w1.cell? ⟨q, 0, none⟩ = some (.pointer (some ⟨p, 0, none⟩)) := b0.cell 0
  have c1 : w1.cell? ⟨q, 1, none⟩ = some (.int .i64 f) := b0.cell 1
  have c2 : w1.cell? ⟨q, 2, none⟩ = some (.int .i64 nn) := b0.cell 2
  clear o1 b0 hw1 hq D
  go_enter Tryz.func23, Tryz.ntmps23
  go_wp2_with fail
  rw [HW.out, HQ.out]
  go_wp2_with fail
  have hck := check_bad p gs n S B m f nn w1 HD.out hk0 hk1 hmay
  unfold partV at hck
  refine hck.mono ?_
  rintro e w2 ⟨rfl, o2⟩
  have O2 := Lib.hid o2
  clear o2 hck c0 c1 c2
  go_wp2_with fail
  go_ret
  exact ⟨rfl, HO1.out.trans O2.out⟩
set_option maxHeartbeats 1000000 in
set_option maxRecDepth 100000 in
theorem bclear_still (p gs n f nn : Nat) (S : Dst) (B m : Nat) (w : World) (D : DkS w p gs n S B m) (hn1 : 1 ≤ nn) (hfn : f + nn ≤ n) (hst : S.still = true) :
    Calls Tryz.prog 23 #[.pointer (some ⟨p, 0, none⟩), .int .i64 f, .int .i64 nn] w fun e w' => e = .returned (.int .i64 51) ∧ Only (fun _ => False) w w' := by
  obtain ⟨hn0, hn4⟩ : 1 ≤ n ∧ n ≤ 4096 := ⟨D.1.1, D.1.2.1⟩
  obtain ⟨w1, hw1⟩ : ∃ w1, w1 = w.alloc (.cells #[.pointer (some ⟨p, 0, none⟩), .int .i64 f, .int .i64 nn] 70) := ⟨_, rfl⟩
  obtain ⟨q, hq⟩ : ∃ q, q = w.heap.size := ⟨_, rfl⟩
  have o1 : Only (fun _ => False) w w1 := by rw [hw1]; exact (Only.refl _ w).alloc _
  have b0 : Blk w1 q 70 #[.pointer (some ⟨p, 0, none⟩), .int .i64 f, .int .i64 nn] := by rw [hw1, hq]; exact Blk.new w _ _
  have HO1 := Lib.hid o1
  have HB0 := Lib.hid b0
  have HD := Lib.hid (D.only o1)
  have HW := Lib.hid hw1.symm
  have HQ := Lib.hid hq.symm
  have c0 : w1.cell? ⟨q, 0, none⟩ = some (.pointer (some ⟨p, 0, none⟩)) := b0.cell 0
  have c1 : w1.cell? ⟨q, 1, none⟩ = some (.int .i64 f) := b0.cell 1
  have c2 : w1.cell? ⟨q, 2, none⟩ = some (.int .i64 nn) := b0.cell 2
  clear o1 b0 hw1 hq D
  go_enter Tryz.func23, Tryz.ntmps23
  go_wp2_with fail
  rw [HW.out, HQ.out]
  go_wp2_with fail
  have hck := check_any p gs n S B m (f : Int) (nn : Int) w1 HD.out hn0 hn4 (by omega) (by omega) (by omega) (by omega)
  unfold partV at hck
  refine hck.mono ?_
  rintro e w2 ⟨rfl, o2⟩
  have O2 := Lib.hid o2
  clear o2 hck c0 c1 c2
  have c0 : w2.cell? ⟨q, 0, none⟩ = some (.pointer (some ⟨p, 0, none⟩)) := (O2.out.blk HB0.out (fun h => h)).cell 0
  have c1 : w2.cell? ⟨q, 1, none⟩ = some (.int .i64 f) := (O2.out.blk HB0.out (fun h => h)).cell 1
  have c2 : w2.cell? ⟨q, 2, none⟩ = some (.int .i64 nn) := (O2.out.blk HB0.out (fun h => h)).cell 2
  have hal := all_still p gs n f nn S B m w2 (HD.out.only O2.out) hn1 hfn hst
  unfold partV at hal
  clear hst
  go_wp2_with fail
  refine hal.mono ?_
  rintro e w3 ⟨rfl, o3⟩
  have O3 := Lib.hid o3
  clear o3 hal c0 c1 c2
  go_wp2_with fail
  go_ret
  exact ⟨rfl, (HO1.out.trans O2.out).trans O3.out⟩
set_option maxHeartbeats 2000000 in
set_option maxRecDepth 100000 in
theorem bclear_ok (p gs n f nn : Nat) (S : Dst) (B m : Nat) (w : World) (D : DkS w p gs n S B m) (hn1 : 1 ≤ nn) (hfn : f + nn ≤ n) (hst : S.still = false) (hm : m + 12000 ≤ 1000000) :
    Calls Tryz.prog 23 #[.pointer (some ⟨p, 0, none⟩), .int .i64 f, .int .i64 nn] w fun e w' => e = .returned (.int .i64 (anewS n f [] (openT f nn fun j => S.cur.getD j []) S).1) ∧
      DkS w' p gs n (anewS n f [] (openT f nn fun j => S.cur.getD j []) S).2.1 B (m + 2 * nn + 2) ∧ Far w w' ∧ Only (fun b => B ≤ b) w w' := by
  obtain ⟨hn0, hn4⟩ : 1 ≤ n ∧ n ≤ 4096 := ⟨D.1.1, D.1.2.1⟩
  have hBs := D.size
  obtain ⟨C, hC⟩ : ∃ C : Nat → List UInt8, C = fun j => S.cur.getD j [] := ⟨_, rfl⟩
  obtain ⟨Ts, hT⟩ : ∃ Ts, Ts = openT f nn C := ⟨_, rfl⟩
  have hTl : Ts.length = nn := by rw [hT]; simp [openT]
  have hTa : ∀ t ∈ Ts, t.length = 128 := by
    intro t ht
    rw [hT] at ht
    obtain ⟨j, hj, rfl⟩ := List.mem_map.1 ht
    rw [hC]
    exact cur_len D.ok (by have := List.mem_range.1 hj; omega)
  rw [← hC, ← hT]
  obtain ⟨R, hR⟩ : ∃ R, R = anewS n f [] Ts S := ⟨_, rfl⟩
  rw [← hR]
  obtain ⟨w1, hw1⟩ : ∃ w1, w1 = w.alloc (.cells #[.pointer (some ⟨p, 0, none⟩), .int .i64 f, .int .i64 nn] 70) := ⟨_, rfl⟩
  obtain ⟨q, hq⟩ : ∃ q, q = w.heap.size := ⟨_, rfl⟩
  have o1 : Only (fun _ => False) w w1 := by rw [hw1]; exact (Only.refl _ w).alloc _
  have b0 : Blk w1 q 70 #[.pointer (some ⟨p, 0, none⟩), .int .i64 f, .int .i64 nn] := by rw [hw1, hq]; exact Blk.new w _ _
  have HO1 := Lib.hid o1
  have HB0 := Lib.hid b0
  have HD := Lib.hid (D.only o1)
  have HW := Lib.hid hw1.symm
  have HQ := Lib.hid hq.symm
  have c0 : w1.cell? ⟨q, 0, none⟩ = some (.pointer (some ⟨p, 0, none⟩)) := b0.cell 0
  have c1 : w1.cell? ⟨q, 1, none⟩ = some (.int .i64 f) := b0.cell 1
  have c2 : w1.cell? ⟨q, 2, none⟩ = some (.int .i64 nn) := b0.cell 2
  have HT := Lib.hid hT
  have HC := Lib.hid hC
  have HTL := Lib.hid hTl
  have HTA := Lib.hid hTa
  have HR := Lib.hid hR
  clear o1 b0 hw1 hq D hT hC hTl hTa hR
  go_enter Tryz.func23, Tryz.ntmps23
  go_wp2_with fail
  rw [HW.out, HQ.out]
  go_wp2_with fail
  have hck := check_any p gs n S B m (f : Int) (nn : Int) w1 HD.out hn0 hn4 (by omega) (by omega) (by omega) (by omega)
  unfold partV at hck
  refine hck.mono ?_
  rintro e w2 ⟨rfl, o2⟩
  have O2 := Lib.hid o2
  clear o2 hck c0 c1 c2
  have c0 : w2.cell? ⟨q, 0, none⟩ = some (.pointer (some ⟨p, 0, none⟩)) := (O2.out.blk HB0.out (fun h => h)).cell 0
  have c1 : w2.cell? ⟨q, 1, none⟩ = some (.int .i64 f) := (O2.out.blk HB0.out (fun h => h)).cell 1
  have c2 : w2.cell? ⟨q, 2, none⟩ = some (.int .i64 nn) := (O2.out.blk HB0.out (fun h => h)).cell 2
  have hal := all_any p f nn C w2 (by omega) (by omega) (fun W hW j hj => by
    have h := read_cur p gs n S B m (f + j) W ((HD.out.only O2.out).only hW) (by omega) hst
    rw [HC.out]
    simpa using h)
  unfold partV at hal
  have HST := Lib.hid hst
  clear hst
  go_wp2_with fail
  refine hal.mono ?_
  rintro e w3 ⟨v, rfl, h3, o3⟩
  have hT' : (List.range nn).map (fun j => C (f + j)) = Ts := HT.out.symm
  rw [hT'] at h3
  obtain ⟨g, cap, hv, hg0, hg1⟩ : ∃ g cap, v = .slice (some ⟨g, 0, none⟩) nn cap ∧ w2.heap.size ≤ g ∧ g < w3.heap.size := by
    obtain ⟨g, cap, h1, h2, h3, _⟩ := own_cells h3 (by omega)
    exact ⟨g, cap, h1, h2, h3⟩
  subst hv
  have H3 := Lib.hid h3
  have O3 := Lib.hid o3
  clear h3 o3 hal c0 c1 c2 hT'
  have c0 : w3.cell? ⟨q, 0, none⟩ = some (.pointer (some ⟨p, 0, none⟩)) := (O3.out.blk (O2.out.blk HB0.out (fun h => h)) (fun h => h)).cell 0
  have c1 : w3.cell? ⟨q, 1, none⟩ = some (.int .i64 f) := (O3.out.blk (O2.out.blk HB0.out (fun h => h)) (fun h => h)).cell 1
  have c2 : w3.cell? ⟨q, 2, none⟩ = some (.int .i64 nn) := (O3.out.blk (O2.out.blk HB0.out (fun h => h)) (fun h => h)).cell 2
  have hs2 := O2.out.size
  have hs1 := HO1.out.size
  have han := anew_any p gs n f nn S B m Ts [] g cap w2.heap.size w3 ((HD.out.only O2.out).only O3.out) (by rw [HTL.out]; exact H3.out) (by omega) (by omega) (by rw [HTL.out]; omega) hm (by simp) HTA.out
  rw [HTL.out, ← HR.out] at han
  unfold partV at han
  go_wp2_with fail
  refine han.mono ?_
  rintro e w4 ⟨rfl, k1, k2, k3⟩
  have K1 := Lib.hid k1
  have K2 : Hid (Far w w4) := Lib.hid (by
    have h := (((FarX.none HO1.out).trans (FarX.none O2.out)).trans (FarX.none O3.out)).trans k2
    exact ⟨h.os, h.tape, h.output, h.size, fun k t cs hb ht => h.blk k t cs hb ht (fun e => by have := hb.lt; omega)⟩)
  have K3 : Hid (Only (fun b => B ≤ b) w w4) := Lib.hid ((((HO1.out.mono fun _ h => h.elim).trans (O2.out.mono fun _ h => h.elim)).trans (O3.out.mono fun _ h => h.elim)).trans k3)
  clear k1 k2 k3 han c0 c1 c2
  go_wp2_with fail
  go_ret
  exact ⟨rfl, K1.out, K2.out, K3.out⟩
end Go.Proofs.YthggliknnmhbdaaGreat
/- Books: Open and Clear as one function of the disk; a book that is none. No conditions beyond what each states. -/
namespace Go.Proofs.YthggliknnmhbdaaGreat
set_option maxRecDepth 100000
open Go.RowKit
set_option linter.unusedVariables false
theorem bopen_full (p gs n : Nat) (S : Dst) (B m : Nat) (f nn : Int) (w : World) (D : DkS w p gs n S B m) (hk0 : -9223372036854775808 ≤ nn) (hk1 : nn ≤ 9223372036854775807) (hm : m + 12000 ≤ 1000000) :
    Calls Tryz.prog 17 #[.pointer (some ⟨p, 0, none⟩), .int .i64 f, .int .i64 nn] w fun e w' =>
      DkS w' p gs n (opS n f nn S).2 B (m + 2 * n + 2) ∧ Far w w' ∧ Only (fun b => B ≤ b) w w' ∧
      (((opS n f nn S).1 = 0 ∧ ∃ b v, e = .returned (.tuple #[.pointer (some ⟨b, 0, none⟩), v, .int .i64 0]) ∧ w.heap.size ≤ b ∧ BookB w' b p f nn (sB (openX f.toNat nn.toNat fun j => S.cur.getD j [])) false ∧
          w'.ownsRow w.heap.size 9 1 v (openF f.toNat nn.toNat fun j => S.cur.getD j []).length ((openF f.toNat nn.toNat fun j => S.cur.getD j []).map fun x => .string x.2)) ∨
       ((opS n f nn S).1 ≠ 0 ∧ e = .returned (.tuple #[.pointer none, .slice none 0 0, .int .i64 (opS n f nn S).1]))) := by
  have hn4 : n ≤ 4096 := D.1.2.1
  by_cases hmay : mayB n f nn = true
  · obtain ⟨h1, h2, h3, h4⟩ : 0 ≤ f ∧ 1 ≤ nn ∧ f ≤ (n : Int) ∧ nn ≤ (n : Int) - f := by unfold mayB at hmay; simpa using hmay
    obtain ⟨f, rfl⟩ : ∃ j : Nat, f = j := ⟨f.toNat, by omega⟩
    obtain ⟨nn, rfl⟩ : ∃ j : Nat, nn = j := ⟨nn.toNat, by omega⟩
    by_cases hst : S.still = true
    · have hRe : opS n f nn S = (51, S) := by unfold opS; rw [if_pos hmay, if_pos hst]
      rw [hRe]
      refine (bopen_still p gs n f nn S B m w D (by omega) (by omega) hst).mono ?_
      rintro e w' ⟨rfl, o⟩
      exact ⟨(D.only o).more (by omega) (by omega), Far.of_only o (fun _ _ _ h => h.elim), o.mono fun _ h => h.elim, .inr ⟨by simp, rfl⟩⟩
    · have hst' : S.still = false := by simpa using hst
      have h := open_any p gs n f nn S B m (fun j => S.cur.getD j []) w D (by omega) (by omega) hm (fun j hj => cur_len D.ok (by omega)) (fun W hW j hj => by
        have h := read_cur p gs n S B m (f + j) W (D.only hW) (by omega) hst'
        simpa using h)
      obtain ⟨Z, hZ⟩ : ∃ Z, Z = anewS n f (openX f nn fun j => S.cur.getD j []) (openT f nn fun j => S.cur.getD j []) S := ⟨_, rfl⟩
      have hRe : opS n f nn S = (Z.1, Z.2.1) := by unfold opS; rw [if_pos hmay, if_neg hst, hZ]; rfl
      rw [hRe]
      rw [← hZ] at h
      refine h.mono ?_
      rintro e w' ⟨k1, k2, k3, k4⟩
      refine ⟨k1.more (by omega) (by omega), k2, k3, ?_⟩
      rcases k4 with ⟨h0, b, v, he, hb, hB, hR⟩ | ⟨h0, he⟩
      · exact .inl ⟨h0, b, v, he, hb, hB, hR⟩
      · exact .inr ⟨h0, he⟩
  · have hRe : opS n f nn S = (2, S) := by unfold opS; rw [if_neg hmay]
    rw [hRe]
    refine (bopen_bad p gs n S B m f nn w D hk0 hk1 (by simpa using hmay)).mono ?_
    rintro e w' ⟨rfl, o⟩
    exact ⟨(D.only o).more (by omega) (by have := D.1.2.2.1; omega), Far.of_only o (fun _ _ _ h => h.elim), o.mono fun _ h => h.elim, .inr ⟨by simp, rfl⟩⟩
theorem bclear_full (p gs n : Nat) (S : Dst) (B m : Nat) (f nn : Int) (w : World) (D : DkS w p gs n S B m) (hk0 : -9223372036854775808 ≤ nn) (hk1 : nn ≤ 9223372036854775807) (hm : m + 12000 ≤ 1000000) :
    Calls Tryz.prog 23 #[.pointer (some ⟨p, 0, none⟩), .int .i64 f, .int .i64 nn] w fun e w' =>
      e = .returned (.int .i64 (clS n f nn S).1) ∧ DkS w' p gs n (clS n f nn S).2 B (m + 2 * n + 2) ∧ Far w w' ∧ Only (fun b => B ≤ b) w w' := by
  have hn4 : n ≤ 4096 := D.1.2.1
  by_cases hmay : mayB n f nn = true
  · obtain ⟨h1, h2, h3, h4⟩ : 0 ≤ f ∧ 1 ≤ nn ∧ f ≤ (n : Int) ∧ nn ≤ (n : Int) - f := by unfold mayB at hmay; simpa using hmay
    obtain ⟨f, rfl⟩ : ∃ j : Nat, f = j := ⟨f.toNat, by omega⟩
    obtain ⟨nn, rfl⟩ : ∃ j : Nat, nn = j := ⟨nn.toNat, by omega⟩
    by_cases hst : S.still = true
    · have hRe : clS n f nn S = (51, S) := by unfold clS; rw [if_pos hmay, if_pos hst]
      rw [hRe]
      refine (bclear_still p gs n f nn S B m w D (by omega) (by omega) hst).mono ?_
      rintro e w' ⟨rfl, o⟩
      exact ⟨rfl, (D.only o).more (by omega) (by omega), Far.of_only o (fun _ _ _ h => h.elim), o.mono fun _ h => h.elim⟩
    · have hst' : S.still = false := by simpa using hst
      have hRe : clS n f nn S = ((anewS n f [] (openT f nn fun j => S.cur.getD j []) S).1, (anewS n f [] (openT f nn fun j => S.cur.getD j []) S).2.1) := by unfold clS; rw [if_pos hmay, if_neg hst]; rfl
      rw [hRe]
      refine (bclear_ok p gs n f nn S B m w D (by omega) (by omega) hst' hm).mono ?_
      rintro e w' ⟨rfl, k1, k2, k3⟩
      exact ⟨rfl, k1.more (by omega) (by omega), k2, k3⟩
  · have hRe : clS n f nn S = (2, S) := by unfold clS; rw [if_neg hmay]
    rw [hRe]
    refine (bclear_bad p gs n S B m f nn w D hk0 hk1 (by simpa using hmay)).mono ?_
    rintro e w' ⟨rfl, o⟩
    exact ⟨rfl, (D.only o).more (by omega) (by have := D.1.2.2.1; omega), Far.of_only o (fun _ _ _ h => h.elim), o.mono fun _ h => h.elim⟩
end Go.Proofs.YthggliknnmhbdaaGreat
/- Both disks; a call of each (thresherlaw05.Do). No conditions beyond what each states. -/
namespace Go.Proofs.YthggliknnmhbdaaGreat
set_option maxRecDepth 100000
open Go.RowKit
set_option linter.unusedVariables false
attribute [local simp] frOf dstsOf frGo predsHold allHold Region.binds slotOf seen Is Act.put
/-- A region with two effects, one behind the other: what stands all the while, ahead of both, between them, behind them. -/
structure Two (K P0 P1 P2 : World → Prop) (b1 b2 : Bool) (y : World) : Prop where
  all : K y
  ord : b2 = true → b1 = true
  zero : b1 = false → P0 y
  mid : b1 = true → b2 = false → P1 y
  end_ : b2 = true → P2 y
section
variable {K P0 P1 P2 : World → Prop} {b1 b2 : Bool} {y y' : World}
theorem Two.start (h : K y) (hp : P0 y) : Two K P0 P1 P2 false false y := ⟨h, by simp, fun _ => hp, by simp, by simp⟩
theorem Two.one (h : Two K P0 P1 P2 b1 b2 y) (hb : b1 = false) (hk : K y') (hp : P1 y') : Two K P0 P1 P2 true b2 y' := by
  have h2 : b2 = false := by
    cases hb2 : b2 with
    | false => rfl
    | true => have := h.ord hb2; rw [hb] at this; cases this
  subst h2
  exact ⟨hk, by simp, by simp, fun _ _ => hp, by simp⟩
theorem Two.two (hb : b1 = true) (hk : K y') (hp : P2 y') : Two K P0 P1 P2 b1 true y' := ⟨hk, fun _ => hb, (by rw [hb]; simp), by simp, fun _ => hp⟩
end
section
variable {w w' : World} {p gs q gg n : Nat} {S S1 S2 : Dst} {B m : Nat} {T : TypeId → Prop} {X : Nat → Prop}
theorem FarG.wide {T' : TypeId → Prop} (h : FarG T X w w') (ht : ∀ t, T t → T' t) : FarG T' X w w' := ⟨h.os, h.tape, h.output, h.size, fun k t cs hb hn hx => h.blk k t cs hb (fun e => hn (ht t e)) hx⟩
theorem Far.toG (h : Far w w') : FarG DT X w w' := ⟨h.os, h.tape, h.output, h.size, fun k t cs hb ht _ => h.blk k t cs hb ht⟩
end
end Go.Proofs.YthggliknnmhbdaaGreat
/- Both disks: a fuse, a crash (thresherlaw05.Do). No conditions beyond what each states. -/
namespace Go.Proofs.YthggliknnmhbdaaGreat
set_option maxRecDepth 100000
open Go.RowKit
set_option linter.unusedVariables false
end Go.Proofs.YthggliknnmhbdaaGreat
/- A book and the document's, opened alike; both in one word. No conditions beyond what each states. -/
namespace Go.Proofs.YthggliknnmhbdaaGreat
set_option maxRecDepth 100000
open Go.RowKit
set_option linter.unusedVariables false
/-- the text and the records that an Open comes to -/
def txU (f nn : Int) (S : Dst) : List UInt8 := openX f.toNat nn.toNat fun j => S.cur.getD j []
def rsU (n : Nat) (f nn : Int) (S : Dst) : List ByteArray := if (opS n f nn S).1 = 0 then (openF f.toNat nn.toNat fun j => S.cur.getD j []).map (·.2) else []
theorem own_texts {w : World} {base : Nat} {v : Value} {l : List (Nat × ByteArray)} (h : w.ownsRow base 9 1 v l.length (l.map fun x => .string x.2)) : ∃ A c, v = .slice A (l.map (·.2)).length c ∧ w.ownsRow base 9 1 (.slice A (l.map (·.2)).length c) (l.map (·.2)).length ((l.map (·.2)).map Value.string) := by
  obtain ⟨A, c, hv, _⟩ := own_form h
  refine ⟨A, c, by rw [hv, List.length_map], ?_⟩
  rw [List.length_map, List.map_map, ← hv]
  exact h
end Go.Proofs.YthggliknnmhbdaaGreat
/- Two books on one disk, plain. No program in sight. -/
namespace Go.Proofs.YthggliknnmhbdaaGreat
set_option maxRecDepth 100000
open Go.RowKit
set_option linter.unusedVariables false
/-- a disk without a fuse whose sectors, as they are read, are these -/
structure CurIs (n : Nat) (S : Dst) (L : List (List UInt8)) : Prop where
  fu : S.fu = none
  ok : SecOk n S.l S.g
  cur : S.cur = L
theorem CurIs.len {n : Nat} {S : Dst} {L : List (List UInt8)} (h : CurIs n S L) : L.length = n := by
  rw [← h.cur]
  exact (syncW_ok h.ok).len
theorem CurIs.all {n : Nat} {S : Dst} {L : List (List UInt8)} (h : CurIs n S L) : ∀ s ∈ L, s.length = 128 := by
  rw [← h.cur]
  exact (syncW_ok h.ok).all
theorem CurIs.wr {n : Nat} {S : Dst} {L : List (List UInt8)} (h : CurIs n S L) {k : Nat} {x : List UInt8} (hk : k < n) (hx : x.length = 128) :
    wrS n S (k : Int) x = (0, ⟨S.g, S.l ++ [(k, x)], none⟩) ∧ CurIs n ⟨S.g, S.l ++ [(k, x)], none⟩ (L.set k x) := by
  have hw : wrS n S (k : Int) x = (0, ⟨S.g, S.l ++ [(k, x)], none⟩) := by
    unfold wrS
    have he : wErr n (k : Int) x.length = 0 := by
      unfold wErr
      rw [if_pos (by omega), if_pos (by omega)]
    rw [if_pos he, still_none h.fu, h.fu, pad_whole _ hx]
    simp
  refine ⟨hw, rfl, ⟨h.ok.len, h.ok.all, fun w hw => ?_⟩, ?_⟩
  · rcases List.mem_append.1 hw with h' | h'
    · exact h.ok.lo w h'
    · rw [List.mem_singleton.1 h']; exact ⟨hk, hx⟩
  · have hcu : (⟨S.g, S.l ++ [(k, x)], none⟩ : Dst).cur = (S.cur).set k x := by
      unfold Dst.cur syncW
      simp only [List.foldl_append, List.foldl_cons, List.foldl_nil]
      exact keepW_set (l := []) (syncW_ok h.ok) k _ hk hx
    rw [hcu, h.cur]
theorem CurIs.sy {n : Nat} {S : Dst} {L : List (List UInt8)} (h : CurIs n S L) : syS S = (0, ⟨L, [], none⟩) ∧ CurIs n ⟨L, [], none⟩ L := by
  have h2 := syncW_ok h.ok
  have hl : syncW S.l S.g = L := h.cur
  constructor
  · unfold syS
    rw [still_none h.fu, h.fu, ← hl]
    rfl
  · exact ⟨rfl, ⟨h.len, h.all, by simp⟩, rfl⟩
theorem set_mid (X T Y : List (List UInt8)) (k : Nat) (x : List UInt8) (hk : k < T.length) : (X ++ T ++ Y).set (X.length + k) x = X ++ T.set k x ++ Y := by
  rw [List.append_assoc, List.set_append_right _ _ (by omega), Nat.add_sub_cancel_left, List.set_append_left _ _ hk, List.append_assoc]
theorem turnedL_len (s s' : List UInt8) (n a k : Nat) : (turnedL s s' n a k).length = n := by simp [turnedL]
theorem appW_okH (n f nn : Nat) (X Y : List (List UInt8)) (hX : X.length = f) (t t' : List UInt8) (a : Nat) (ht : t'.length ≤ nn * 127) : ∀ (j k : Nat) (S : Dst), a ≤ k → nn + 1 ≤ k + j → CurIs n S (X ++ turnedL t t' nn a k ++ Y) →
    ∃ (S' : Dst) (k' : Nat), appW n f t' j k S = (0, S') ∧ CurIs n S' (X ++ turnedL t t' nn a k' ++ Y) ∧ t'.length ≤ k' * 127
  | 0, k, S, hk, hj, hc => ⟨S, k, rfl, hc, by omega⟩
  | j + 1, k, S, hk, hj, hc => by
    unfold appW
    by_cases hkl : k * 127 < t'.length
    · rw [if_pos hkl]
      have hkn : k < nn := by omega
      have hln := hc.len
      simp only [List.length_append, turnedL_len] at hln
      obtain ⟨hw, hc'⟩ := hc.wr (k := f + k) (x := madeL t' k) (by omega) (madeL_len t' k)
      have hw' : wrS n S ((f : Int) + (k : Int)) (madeL t' k) = (0, ⟨S.g, S.l ++ [(f + k, madeL t' k)], none⟩) := by rw [← hw]; rfl
      rw [hw']
      simp only [if_true]
      refine appW_okH n f nn X Y hX t t' a ht j (k + 1) _ (by omega) (by omega) ?_
      rw [← hX, set_mid X _ Y k _ (by rw [turnedL_len]; exact hkn), turnedL_step t t' nn a k hk hkn] at hc'
      rw [hX] at hc'
      exact hc'
    · rw [if_neg hkl]
      exact ⟨S, k, rfl, hc, by omega⟩
theorem appS_okH (n f nn : Nat) (X Y : List (List UInt8)) (hX : X.length = f) (t : List UInt8) (S : Dst) (xs : List ByteArray) (h : CurIs n S (X ++ sectorsL t nn ++ Y)) (ht : t.length ≤ nn * 127) (hall : ∀ x ∈ xs, x.size ≤ 131072) :
    ((appS n f nn S t false xs) = (6, S, t, false) ∧ nn * 127 < t.length + fsz xs) ∨
    ((appS n f nn S t false xs).1 = 0 ∧ (appS n f nn S t false xs).2.2 = (t ++ frsB xs, false) ∧ CurIs n (appS n f nn S t false xs).2.1 (X ++ sectorsL (t ++ frsB xs) nn ++ Y) ∧ (t ++ frsB xs).length ≤ nn * 127) := by
  unfold appS
  rw [if_neg (by simp), if_pos (List.all_eq_true.2 fun x hx => by simpa using hall x hx)]
  by_cases hroom : nn * 127 < t.length + fsz xs
  · rw [if_pos hroom]
    exact .inl ⟨rfl, hroom⟩
  · rw [if_neg hroom]
    have hl : (t ++ frsB xs).length ≤ nn * 127 := by rw [List.length_append, frsB_len xs hall]; omega
    by_cases hx : xs = []
    · rw [if_pos hx]
      subst hx
      exact .inr ⟨rfl, by simp [frsB], by simpa [frsB] using h, hl⟩
    · rw [if_neg hx]
      obtain ⟨S', k', h1, h2, h5⟩ := appW_okH n f nn X Y hX t (t ++ frsB xs) (t.length / 127) hl (nn + 1) (t.length / 127) S (Nat.le_refl _) (by omega) (by rw [turnedL_start]; exact h)
      rw [h1]
      exact .inr ⟨rfl, rfl, by rw [turnedL_end t _ nn k' h5] at h2; exact h2, hl⟩
/-- what the sectors become, each by what is said of it -/
def outL (wf : Nat → List UInt8 → List UInt8) : Nat → List (List UInt8) → List (List UInt8)
  | _, [] => []
  | k, t :: r => wf k t :: outL wf (k + 1) r
theorem outL_len (wf : Nat → List UInt8 → List UInt8) : ∀ (ts : List (List UInt8)) (k : Nat), (outL wf k ts).length = ts.length
  | [], _ => rfl
  | t :: r, k => by simp [outL, outL_len wf r (k + 1)]
theorem outL_get (wf : Nat → List UInt8 → List UInt8) : ∀ (ts : List (List UInt8)) (k j : Nat) (x : List UInt8), (outL wf k ts)[j]? = some x → ∃ t, ts[j]? = some t ∧ x = wf (k + j) t
  | [], _, j, x, h => by simp [outL] at h
  | t :: r, k, 0, x, h => ⟨t, rfl, by simpa [outL] using h.symm⟩
  | t :: r, k, j + 1, x, h => by
    obtain ⟨t', h1, h2⟩ := outL_get wf r (k + 1) j x (by simpa [outL] using h)
    exact ⟨t', by simpa using h1, by rw [h2]; congr 1; omega⟩
theorem turnFrom_ok (n f : Nat) (wf : Nat → List UInt8 → List UInt8) : ∀ (ts : List (List UInt8)) (k : Nat) (X Y : List (List UInt8)) (S : Dst), X.length = f + k → CurIs n S (X ++ ts ++ Y) → (∀ j t, ts[j]? = some t → (wf (k + j) t).length = 128) →
    ∃ (S' : Dst) (b : Bool), turnFrom n f wf k ts S = (0, S', outL wf k ts, b) ∧ CurIs n S' (X ++ outL wf k ts ++ Y)
  | [], k, X, Y, S, hX, h, hw => ⟨S, false, rfl, h⟩
  | t :: r, k, X, Y, S, hX, h, hw => by
    have h0 := hw 0 t rfl
    rw [Nat.add_zero] at h0
    have hw' : ∀ j x, r[j]? = some x → (wf (k + 1 + j) x).length = 128 := fun j x hj => by
      have := hw (j + 1) x (by simpa using hj)
      rwa [show k + 1 + j = k + (j + 1) by omega]
    unfold turnFrom
    by_cases he : wf k t = t
    · rw [if_pos he]
      obtain ⟨S', b, h1, h2⟩ := turnFrom_ok n f wf r (k + 1) (X ++ [t]) Y S (by simp; omega) (by simpa using h) hw'
      rw [h1]
      exact ⟨S', b, by simp [outL, he], by simpa [outL, he] using h2⟩
    · rw [if_neg he]
      have hln := h.len
      simp only [List.length_append, List.length_cons] at hln
      obtain ⟨hwr, hc⟩ := h.wr (k := f + k) (x := wf k t) (by omega) h0
      have hwr' : wrS n S ((f : Int) + (k : Int)) (wf k t) = (0, ⟨S.g, S.l ++ [(f + k, wf k t)], none⟩) := by rw [← hwr]; rfl
      rw [hwr']
      simp only [if_true]
      have hs := set_mid X (t :: r) Y 0 (wf k t) (by simp)
      rw [Nat.add_zero, hX] at hs
      rw [hs] at hc
      obtain ⟨S', b, h1, h2⟩ := turnFrom_ok n f wf r (k + 1) (X ++ [wf k t]) Y _ (by simp; omega) (by simpa using hc) hw'
      rw [h1]
      exact ⟨S', true, by simp [outL], by simpa [outL] using h2⟩
theorem turnS_ok (n f : Nat) (wf : Nat → List UInt8 → List UInt8) (ts X Y : List (List UInt8)) (S : Dst) (hX : X.length = f) (h : CurIs n S (X ++ ts ++ Y)) (hw : ∀ j t, ts[j]? = some t → (wf j t).length = 128) :
    ∃ S', turnS n f wf ts S = (0, S', outL wf 0 ts) ∧ CurIs n S' (X ++ outL wf 0 ts ++ Y) := by
  obtain ⟨S', b, h1, h2⟩ := turnFrom_ok n f wf ts 0 X Y S (by omega) h (fun j t hj => by rw [Nat.zero_add]; exact hw j t hj)
  unfold turnS
  rw [h1]
  cases b with
  | false => exact ⟨S', rfl, h2⟩
  | true =>
    obtain ⟨h3, h4⟩ := h2.sy
    exact ⟨_, by simp [h3], h4⟩
theorem countW_len128 (s : List UInt8) (k : Nat) (t : List UInt8) (ht : t.length = 128) : (countW s k t).length = 128 := by
  unfold countW
  rw [List.length_append, List.length_take, List.length_drop, madeL_len, ht]
  omega
theorem anewS_ok (n f nn : Nat) (s : List UInt8) (ts X Y : List (List UInt8)) (S : Dst) (hX : X.length = f) (hn : ts.length = nn) (h : CurIs n S (X ++ ts ++ Y)) :
    ∃ S' o, anewS n f s ts S = (0, S', o) ∧ CurIs n S' (X ++ sectorsL s nn ++ Y) := by
  obtain ⟨S1, h1, h2⟩ := turnS_ok n f (countW s) ts X Y S hX h (fun j t hj => countW_len128 _ _ _ (h.all t (by simp [List.mem_of_getElem? hj])))
  obtain ⟨S2, h3, h4⟩ := turnS_ok n f (fun k _ => madeL s k) (outL (countW s) 0 ts) X Y S1 hX h2 (fun j t hj => madeL_len _ _)
  have ho : outL (fun k _ => madeL s k) 0 (outL (countW s) 0 ts) = sectorsL s nn := by
    apply List.ext_getElem?
    intro j
    by_cases hj : j < nn
    · rw [sectorsL_get s nn j hj]
      have hl : j < (outL (fun k _ => madeL s k) 0 (outL (countW s) 0 ts)).length := by rw [outL_len, outL_len, hn]; exact hj
      obtain ⟨t, _, h6⟩ := outL_get _ _ 0 j _ (List.getElem?_eq_getElem hl)
      rw [List.getElem?_eq_getElem hl, h6, Nat.zero_add]
    · rw [List.getElem?_eq_none (by rw [outL_len, outL_len, hn]; omega), List.getElem?_eq_none (by rw [sectorsL_len]; omega)]
  rw [ho] at h4
  refine ⟨S2, sectorsL s nn, ?_, h4⟩
  unfold anewS
  rw [h1]
  simp only [if_true]
  rw [h3, ho]
/-- the sectors of a part, as they are read -/
theorem part_cur {n f nn : Nat} {X T Y : List (List UInt8)} {S : Dst} (h : CurIs n S (X ++ T ++ Y)) (hX : X.length = f) (hT : T.length = nn) : (openT f nn fun j => S.cur.getD j []) = T := by
  unfold openT
  rw [h.cur]
  apply List.ext_getElem?
  intro j
  by_cases hj : j < nn
  · rw [List.getElem?_map, List.getElem?_range hj]
    simp only [Option.map_some]
    rw [List.getD_eq_getElem?_getD, List.append_assoc, List.getElem?_append_right (by omega), hX, Nat.add_sub_cancel_left, List.getElem?_append_left (by omega), List.getElem?_eq_getElem (by omega)]
    rfl
  · rw [List.getElem?_eq_none (by simp; omega), List.getElem?_eq_none (by omega)]
theorem mayH {n f nn : Nat} {X T Y : List (List UInt8)} {S : Dst} (h : CurIs n S (X ++ T ++ Y)) (hX : X.length = f) (hT : T.length = nn) (h1 : 1 ≤ nn) : mayB n (f : Int) (nn : Int) = true := by
  have hl := h.len
  simp only [List.length_append] at hl
  unfold mayB
  exact decide_eq_true ⟨by omega, by omega, by omega, by omega⟩
/-- a part is cleared -/
theorem clS_okH (n f nn : Nat) (X T Y : List (List UInt8)) (S : Dst) (h : CurIs n S (X ++ T ++ Y)) (hX : X.length = f) (hT : T.length = nn) (h1 : 1 ≤ nn) :
    (clS n (f : Int) (nn : Int) S).1 = 0 ∧ CurIs n (clS n (f : Int) (nn : Int) S).2 (X ++ sectorsL [] nn ++ Y) := by
  unfold clS
  rw [if_pos (mayH h hX hT h1), if_neg (by simp [still_none h.fu]), Int.toNat_natCast, Int.toNat_natCast, part_cur h hX hT]
  obtain ⟨S', o, h2, h3⟩ := anewS_ok n f nn [] T X Y S hX hT h
  rw [h2]
  exact ⟨rfl, h3⟩
/-- a part that records have made is opened -/
theorem opS_okH (n f nn : Nat) (X Y : List (List UInt8)) (xs : List ByteArray) (S : Dst) (h : CurIs n S (X ++ sectorsL (frsB xs) nn ++ Y)) (hX : X.length = f) (h1 : 1 ≤ nn) (hx : ∀ x ∈ xs, x.size ≤ 131072) (hl : (frsB xs).length ≤ nn * 127) :
    opS n (f : Int) (nn : Int) S = (0, S) ∧ txU (f : Int) (nn : Int) S = frsB xs ∧ rsU n (f : Int) (nn : Int) S = xs := by
  have hT := sectorsL_len (frsB xs) nn
  have hp := part_cur h hX hT
  have h2 : (openF f nn fun j => S.cur.getD j []) = ones xs := by
    unfold openF
    rw [hp, stream_made _ _ hl, scan_ones xs hx, recsF_ones]
  have h3 : (openX f nn fun j => S.cur.getD j []) = frsB xs := by
    unfold openX
    rw [h2, hp, stream_made _ _ hl, gsum_ones, ← frsB_len xs hx, List.take_length]
  have ho : opS n (f : Int) (nn : Int) S = (0, S) := by
    unfold opS
    rw [if_pos (mayH h hX hT h1), if_neg (by simp [still_none h.fu]), Int.toNat_natCast, Int.toNat_natCast, h3, hp, anewS_same]
  refine ⟨ho, ?_, ?_⟩
  · unfold txU
    rw [Int.toNat_natCast, Int.toNat_natCast, h3]
  · unfold rsU
    rw [ho, if_pos rfl, Int.toNat_natCast, Int.toNat_natCast, h2]
    unfold ones
    rw [List.map_map]
    simp [Function.comp_def]
theorem zero_cur (n k : Nat) (hk : k ≤ n) : CurIs n ⟨zeroG n, [], none⟩ (sectorsL [] k ++ sectorsL [] (n - k)) := ⟨rfl, zeroG_ok n, by
  show zeroG n = _
  rw [sectorsL_nil, sectorsL_nil, List.replicate_append_replicate, show k + (n - k) = n by omega]
  rfl⟩
end Go.Proofs.YthggliknnmhbdaaGreat
