/- Several texts in one: BkE, BkF. -/
import Derived.Test.YthggliknnmhbdaaGreatMWAN
import Derived.Test.YthggliknnmhbdaaGreatMWAQ
import Derived.Test.YthggliknnmhbdaaGreatMWAD
import Derived.Test.YthggliknnmhbdaaGreatMWAK
/- Books: all sectors of a part are read. No conditions beyond what each states. -/
namespace Go.Proofs.YthggliknnmhbdaaGreat
set_option maxRecDepth 100000
open Go.RowKit
set_option linter.unusedVariables false
theorem strInfo : (Tryz.prog.info? 9).map (fun i => (i.zero, i.size, i.bytes)) = some (some (.string ⟨#[]⟩), 1, 16) := by kernel_rfl
/-- strings of sectors, as values -/
def strsV (ts : List (List UInt8)) : List Value := ts.map fun t => .string (sB t)
set_option maxHeartbeats 2000000 in
set_option maxRecDepth 100000 in
theorem all_any (p f n : Nat) (C : Nat → List UInt8) (w : World) (hf : f ≤ 4096) (hn : n ≤ 4096)
    (hrd : ∀ W, Only (fun _ => False) w W → ∀ j, j < n → Calls Tryz.prog 56 #[.pointer (some ⟨p, 0, none⟩), .int .i64 ((f : Int) + (j : Int))] W fun e w' => e = .returned (.tuple #[.string (sB (C (f + j))), .int .i64 0]) ∧ Only (fun _ => False) W w') :
    Calls Tryz.prog 38 #[partV p f n] w fun e w' => ∃ v, e = .returned (.tuple #[v, .int .i64 0]) ∧ w'.ownsRow w.heap.size 9 1 v n (strsV ((List.range n).map fun j => C (f + j))) ∧ Only (fun _ => False) w w' := by
  obtain ⟨i0, hi, hz0, hz1, hz2⟩ := info_parts strInfo
  have o1 : Only (fun _ => False) w (w.alloc (.cells #[.pointer (some ⟨p, 0, none⟩), .int .i64 f, .int .i64 n] 70)) := (Only.refl _ w).alloc _
  obtain ⟨w1, hw1⟩ : ∃ w1, w1 = w.alloc (.cells #[.pointer (some ⟨p, 0, none⟩), .int .i64 f, .int .i64 n] 70) := ⟨_, rfl⟩
  obtain ⟨q, hq⟩ : ∃ q, q = w.heap.size := ⟨_, rfl⟩
  have hb : Blk w1 q 70 #[.pointer (some ⟨p, 0, none⟩), .int .i64 f, .int .i64 n] := by rw [hw1, hq]; exact Blk.new w _ _
  rw [← hw1] at o1
  have HO1 := Lib.hid o1
  have HB := Lib.hid hb
  have HW := Lib.hid hw1.symm
  have HQ := Lib.hid hq.symm
  have HRD := Lib.hid hrd
  have c2 : w1.cell? ⟨q, 2, none⟩ = some (.int .i64 n) := hb.cell 2
  clear o1 hb hw1 hq hrd
  unfold partV
  go_enter Tryz.func38, Tryz.ntmps38
  go_wp2_with fail
  rw [HW.out, HQ.out]
  go_wp2_with fail
  clear c2
  go_loopw [2, 9] (fun l i wr => ∃ k : Nat, k ≤ n ∧ i = .int .i64 k ∧ wr.ownsRow w1.heap.size 9 1 l k (strsV ((List.range k).map fun j => C (f + j))) ∧ Only (fun _ => False) w1 wr) (fun _ i _ => n - (intOf i).toNat)
  case atStart => exact ⟨0, by omega, rfl, World.ownsRow_nil _ _ _ _, Only.refl _ _⟩
  case round =>
    obtain ⟨k, hk, rfl, b1, b2⟩ := hrel
    have HB1 := Lib.hid b1
    have HB2 := Lib.hid b2
    clear b1 b2
    by_cases hlt : k < n
    · have hlt' : (k : Int) < (n : Int) := by omega
      have c0 : wr.cell? ⟨q, 0, none⟩ = some (.pointer (some ⟨p, 0, none⟩)) := (HB2.out.blk HB.out (fun h => h)).cell 0
      have c1 : wr.cell? ⟨q, 1, none⟩ = some (.int .i64 f) := (HB2.out.blk HB.out (fun h => h)).cell 1
      have hadd : IntKind.i64.wrap ((f : Int) + (k : Int)) = (f : Int) + (k : Int) := IntWalk.i64_in _ (by omega)
      have HC := Lib.hid (HRD.out wr (HO1.out.trans HB2.out) k hlt)
      go_wp2_with fail
      refine HC.out.mono ?_
      rintro e w2 ⟨rfl, o2⟩
      have HO2 := Lib.hid o2
      have HR2 := Lib.hid (o2.owns HB1.out (fun _ _ h => h))
      obtain ⟨As, cs, hsv, _⟩ := own_form HB1.out
      subst hsv
      clear c0 c1 o2 HC
      go_wp2_with (at_builtin; refine wpList_append_any _ rfl (.tmp 25) (.tmp 27) 25 rfl w1.heap.size 9 i0 (.string ⟨#[]⟩) 1 16 Tryz.underlying25 hi hz0 hz1 hz2 rfl (by decide) _ _ _ rfl (((Only.refl (fun _ => False) w2).alloc _).owns HR2.out (fun _ _ h => h)) _ _ _ _ _ rfl (reads_one _) ?c2 ?c3 ?c4 ?c5 ?_)
      case c2 => intro u hu; simp at hu; subst hu; rfl
      case c3 => unfold maxLen; omega
      case c4 => omega
      case c5 => have := HO2.out.size; have := HB2.out.size; have := HO1.out.size; simp; omega
      intro v' w' hown' hgrow hnew
      have hall : Only (fun _ => False) w1 w' := (HB2.out.trans HO2.out).trans' (T := fun k => w1.heap.size ≤ k) (((Only.refl (fun k => w1.heap.size ≤ k) w2).alloc _).grown hgrow (fun k hk => .inl ((HR2.out.lt k hk).1))) ?cc
      case cc => exact fun i hi => .inr hi
      have HA := Lib.hid hall
      have HOW := Lib.hid hown'
      clear hown' hgrow hnew hall
      go_wp2_with fail
      go_roundw
      case rel => exact ⟨k + 1, by omega, by go_num, by rw [List.range_succ, List.map_append, strsV, List.map_append]; exact HOW.out, HA.out⟩
      case measure => simp [intOf]; omega
    · obtain rfl : k = n := by omega
      obtain ⟨As, cs, hsv, _⟩ := own_form HB1.out
      subst hsv
      go_wp2_with fail
      go_ret2
      exact ⟨_, rfl, owns_base HB1.out HO1.out.size, HO1.out.trans HB2.out⟩
end Go.Proofs.YthggliknnmhbdaaGreat
/- Books: plain: sectors that are turned; memory but for a block. No program's walk. -/
namespace Go.Proofs.YthggliknnmhbdaaGreat
set_option maxRecDepth 100000
open Go.RowKit
set_option linter.unusedVariables false
/-- Of the memory that was there only a disk's has turned, and the blocks of X. -/
structure FarX (X : Nat → Prop) (w w' : World) : Prop where
  os : w'.os = w.os
  tape : w'.tape = w.tape
  output : w'.output = w.output
  size : w.heap.size ≤ w'.heap.size
  blk : ∀ k t cs, Blk w k t cs → ¬ DT t → ¬ X k → Blk w' k t cs
section
variable {X : Nat → Prop} {a b c w w' : World}
theorem FarX.refl (X : Nat → Prop) (w : World) : FarX X w w := ⟨rfl, rfl, rfl, Nat.le_refl _, fun _ _ _ h _ _ => h⟩
theorem FarX.trans (h : FarX X a b) (k : FarX X b c) : FarX X a c := ⟨k.os.trans h.os, k.tape.trans h.tape, k.output.trans h.output, Nat.le_trans h.size k.size, fun i t cs hb ht hx => k.blk i t cs (h.blk i t cs hb ht hx) ht hx⟩
theorem FarX.far (h : Far w w') : FarX X w w' := ⟨h.os, h.tape, h.output, h.size, fun k t cs hb ht _ => h.blk k t cs hb ht⟩
theorem FarX.of_only {S : Nat → Prop} (h : Only S w w') (hS : ∀ k, S k → X k) : FarX X w w' := ⟨h.os, h.tape, h.output, h.size, fun k t cs hb _ hx => h.blk hb (fun hs => hx (hS k hs))⟩
theorem FarX.none (h : Only (fun _ => False) w w') : FarX X w w' := FarX.of_only h (fun _ h => h.elim)
theorem FarX.mono {Y : Nat → Prop} (h : FarX X w w') (hxy : ∀ k, X k → Y k) : FarX Y w w' := ⟨h.os, h.tape, h.output, h.size, fun k t cs hb ht hy => h.blk k t cs hb ht (fun hx => hy (hxy k hx))⟩
theorem FarX.drewN (h : FarX X a w) (n : Nat) : FarX X a (w.drewN n) := ⟨h.os, h.tape, h.output, h.size, h.blk⟩
/-- what was turned was not there ahead -/
theorem FarX.new (h : FarX X w w') (hX : ∀ k, X k → w.heap.size ≤ k) : Far w w' := ⟨h.os, h.tape, h.output, h.size, fun k t cs hb ht => h.blk k t cs hb ht (fun hx => by have := hX k hx; have := hb.lt; omega)⟩
theorem FarX.owns (h : FarX X w w') {base : Nat} {e : TypeId} {size n : Nat} {v : Value} {xs : List Value} (ho : w.ownsRow base e size v n xs) (he : ¬ DT e) (hv : ∀ k, v.ownBlock = some k → ¬ X k) : w'.ownsRow base e size v n xs := by
  refine ⟨ho.1, ?_⟩
  rcases ho.2 with hn | ⟨g, cap, cur, rfl, hb, hgg, rest⟩
  · exact .inl hn
  · exact .inr ⟨g, cap, cur, rfl, hb, h.blk g e cur hgg he (hv g rfl), rest⟩
end
theorem nDT_string : ¬ DT 9 := fun h => by rcases h with h | h | h <;> revert h <;> decide
theorem nDT_strings : ¬ DT 25 := fun h => by rcases h with h | h | h <;> revert h <;> decide
theorem nDT_part : ¬ DT 70 := fun h => by rcases h with h | h | h <;> revert h <;> decide
theorem nDT_Book : ¬ DT 72 := fun h => by rcases h with h | h | h <;> revert h <;> decide
/-- sectors, from the k-th on, are made what is wanted: the error; the disk; the sectors; was one another one? -/
def turnFrom (n f : Nat) (wf : Nat → List UInt8 → List UInt8) : Nat → List (List UInt8) → Dst → Int × Dst × List (List UInt8) × Bool
  | _, [], S => (0, S, [], false)
  | k, t :: r, S =>
    if wf k t = t then
      let x := turnFrom n f wf (k + 1) r S
      (x.1, x.2.1, t :: x.2.2.1, x.2.2.2)
    else
      let y := wrS n S ((f : Int) + (k : Int)) (wf k t)
      if y.1 = 0 then
        let x := turnFrom n f wf (k + 1) r y.2
        (x.1, x.2.1, wf k t :: x.2.2.1, true)
      else (y.1, y.2, t :: r, true)
def turnS (n f : Nat) (wf : Nat → List UInt8 → List UInt8) (ts : List (List UInt8)) (S : Dst) : Int × Dst × List (List UInt8) :=
  let x := turnFrom n f wf 0 ts S
  if x.1 = 0 then
    if x.2.2.2 then ((syS x.2.1).1, (syS x.2.1).2, x.2.2.1) else (0, x.2.1, x.2.2.1)
  else (x.1, x.2.1, x.2.2.1)
/-- what is done, and what follows -/
def combT (done : List (List UInt8)) (b : Bool) (x : Int × Dst × List (List UInt8) × Bool) : Int × Dst × List (List UInt8) × Bool := (x.1, x.2.1, done ++ x.2.2.1, b || x.2.2.2)
theorem combT_nil (x : Int × Dst × List (List UInt8) × Bool) : combT [] false x = x := by simp [combT]
theorem combT_same {n f : Nat} {wf : Nat → List UInt8 → List UInt8} {done : List (List UInt8)} {b : Bool} {k : Nat} {t : List UInt8} {r : List (List UInt8)} {S : Dst} (h : wf k t = t) :
    combT done b (turnFrom n f wf k (t :: r) S) = combT (done ++ [t]) b (turnFrom n f wf (k + 1) r S) := by
  simp [turnFrom, h, combT]
theorem combT_turn {n f : Nat} {wf : Nat → List UInt8 → List UInt8} {done : List (List UInt8)} {b : Bool} {k : Nat} {t : List UInt8} {r : List (List UInt8)} {S : Dst} (h : ¬ wf k t = t) (h0 : (wrS n S ((f : Int) + (k : Int)) (wf k t)).1 = 0) :
    combT done b (turnFrom n f wf k (t :: r) S) = combT (done ++ [wf k t]) true (turnFrom n f wf (k + 1) r (wrS n S ((f : Int) + (k : Int)) (wf k t)).2) := by
  simp [turnFrom, h, h0, combT]
theorem combT_err {n f : Nat} {wf : Nat → List UInt8 → List UInt8} {done : List (List UInt8)} {b : Bool} {k : Nat} {t : List UInt8} {r : List (List UInt8)} {S : Dst} (h : ¬ wf k t = t) (h0 : ¬ (wrS n S ((f : Int) + (k : Int)) (wf k t)).1 = 0) :
    combT done b (turnFrom n f wf k (t :: r) S) = ((wrS n S ((f : Int) + (k : Int)) (wf k t)).1, (wrS n S ((f : Int) + (k : Int)) (wf k t)).2, done ++ t :: r, true) := by
  simp [turnFrom, h, h0, combT]
theorem strsV_set (done : List (List UInt8)) (t x : List UInt8) (r : List (List UInt8)) : (strsV (done ++ t :: r)).set done.length (.string (sB x)) = strsV (done ++ [x] ++ r) := by
  simp [strsV]
end Go.Proofs.YthggliknnmhbdaaGreat
