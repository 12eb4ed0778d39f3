/- Several texts in one: BkE. -/
import Derived.Test.YtmneflpjoaocbaaMBkB
import Derived.Test.YtmneflpjoaocbaaMBkD
import Derived.Test.YtmneflpjoaocbaaMWD
/- Books: all sectors of a part are read. No conditions beyond what each states. -/
namespace Go.Proofs.Ytmneflpjoaocbaa
set_option maxRecDepth 100000
open Go.RowKit
set_option linter.unusedVariables false
theorem strInfo : (Try.prog.info? 9).map (fun i => (i.zero, i.size, i.bytes)) = some (some (.string ⟨#[]⟩), 1, 16) := by kernel_rfl
/-- strings of sectors, as values -/
def strsV (ts : List (List UInt8)) : List Value := ts.map fun t => .string (sB t)
theorem strsV_one (ts : List (List UInt8)) : ∀ v ∈ strsV ts, v.oneCell' = true := by
  intro v hv
  obtain ⟨t, _, rfl⟩ := List.mem_map.1 hv
  rfl
set_option maxHeartbeats 2000000 in
set_option maxRecDepth 100000 in
theorem all_any (p f n : Nat) (C : Nat → List UInt8) (w : World) (hf : f ≤ 4096) (hn : n ≤ 4096)
    (hrd : ∀ W, Only (fun _ => False) w W → ∀ j, j < n → Calls Try.prog 35 #[.pointer (some ⟨p, 0, none⟩), .int .i64 ((f : Int) + (j : Int))] W fun e w' => e = .returned (.tuple #[.string (sB (C (f + j))), .int .i64 0]) ∧ Only (fun _ => False) W w') :
    Calls Try.prog 18 #[partV p f n] w fun e w' => ∃ v, e = .returned (.tuple #[v, .int .i64 0]) ∧ w'.ownsRow w.heap.size 9 1 v n (strsV ((List.range n).map fun j => C (f + j))) ∧ Only (fun _ => False) w w' := by
  obtain ⟨i0, hi, hz0, hz1, hz2⟩ := info_parts strInfo
  have o1 : Only (fun _ => False) w (w.alloc (.cells #[.pointer (some ⟨p, 0, none⟩), .int .i64 f, .int .i64 n] 46)) := (Only.refl _ w).alloc _
  obtain ⟨w1, hw1⟩ : ∃ w1, w1 = w.alloc (.cells #[.pointer (some ⟨p, 0, none⟩), .int .i64 f, .int .i64 n] 46) := ⟨_, rfl⟩
  obtain ⟨q, hq⟩ : ∃ q, q = w.heap.size := ⟨_, rfl⟩
  have hb : Blk w1 q 46 #[.pointer (some ⟨p, 0, none⟩), .int .i64 f, .int .i64 n] := by rw [hw1, hq]; exact Blk.new w _ _
  rw [← hw1] at o1
  have HO1 := Lib.hid o1
  have HB := Lib.hid hb
  have HW := Lib.hid hw1.symm
  have HQ := Lib.hid hq.symm
  have HRD := Lib.hid hrd
  have c2 : w1.cell? ⟨q, 2, none⟩ = some (.int .i64 n) := hb.cell 2
  clear o1 hb hw1 hq hrd
  unfold partV
  go_enter Try.func18, Try.ntmps18
  go_wp2_with fail
  rw [HW.out, HQ.out]
  go_wp2_with fail
  clear c2
  go_loopw [2, 9] (fun l i wr => ∃ k : Nat, k ≤ n ∧ i = .int .i64 k ∧ wr.ownsRow w1.heap.size 9 1 l k (strsV ((List.range k).map fun j => C (f + j))) ∧ Only (fun _ => False) w1 wr) (fun _ i _ => n - (intOf i).toNat)
  case atStart => exact ⟨0, by omega, rfl, World.ownsRow_nil _ _ _ _, Only.refl _ _⟩
  case round =>
    obtain ⟨k, hk, rfl, b1, b2⟩ := hrel
    have HB1 := Lib.hid b1
    have HB2 := Lib.hid b2
    clear b1 b2
    by_cases hlt : k < n
    · have hlt' : (k : Int) < (n : Int) := by omega
      have c0 : wr.cell? ⟨q, 0, none⟩ = some (.pointer (some ⟨p, 0, none⟩)) := (HB2.out.blk HB.out (fun h => h)).cell 0
      have c1 : wr.cell? ⟨q, 1, none⟩ = some (.int .i64 f) := (HB2.out.blk HB.out (fun h => h)).cell 1
      have hadd : IntKind.i64.wrap ((f : Int) + (k : Int)) = (f : Int) + (k : Int) := IntWalk.i64_in _ (by omega)
      have HC := Lib.hid (HRD.out wr (HO1.out.trans HB2.out) k hlt)
      go_wp2_with fail
      refine HC.out.mono ?_
      rintro e w2 ⟨rfl, o2⟩
      have HO2 := Lib.hid o2
      have HR2 := Lib.hid (o2.owns HB1.out (fun _ _ h => h))
      obtain ⟨As, cs, hsv, _⟩ := own_form HB1.out
      subst hsv
      clear c0 c1 o2 HC
      go_wp2_with (at_builtin; refine wpList_append_any _ rfl (.tmp 25) (.tmp 27) 24 rfl w1.heap.size 9 i0 (.string ⟨#[]⟩) 1 16 Try.underlying24 hi hz0 hz1 hz2 rfl (by decide) _ _ _ rfl (((Only.refl (fun _ => False) w2).alloc _).owns HR2.out (fun _ _ h => h)) _ _ _ _ _ rfl (reads_one _) ?c2 ?c3 ?c4 ?c5 ?_)
      case c2 => intro u hu; simp at hu; subst hu; rfl
      case c3 => unfold maxLen; omega
      case c4 => omega
      case c5 => have := HO2.out.size; have := HB2.out.size; have := HO1.out.size; simp; omega
      intro v' w' hown' hgrow hnew
      have hall : Only (fun _ => False) w1 w' := (HB2.out.trans HO2.out).trans' (T := fun k => w1.heap.size ≤ k) (((Only.refl (fun k => w1.heap.size ≤ k) w2).alloc _).grown hgrow (fun k hk => .inl ((HR2.out.lt k hk).1))) ?cc
      case cc => exact fun i hi => .inr hi
      have HA := Lib.hid hall
      have HOW := Lib.hid hown'
      clear hown' hgrow hnew hall
      go_wp2_with fail
      go_roundw
      case rel => exact ⟨k + 1, by omega, by go_num, by rw [List.range_succ, List.map_append, strsV, List.map_append]; exact HOW.out, HA.out⟩
      case measure => simp [intOf]; omega
    · obtain rfl : k = n := by omega
      obtain ⟨As, cs, hsv, _⟩ := own_form HB1.out
      subst hsv
      go_wp2_with fail
      go_ret2
      exact ⟨_, rfl, owns_base HB1.out HO1.out.size, HO1.out.trans HB2.out⟩
end Go.Proofs.Ytmneflpjoaocbaa
