/- Several texts in one: FrC, FrD, FrS, FrT, FrV, FrW. -/
import Derived.Test.YthggliknnmhbdaaGreatMWAC
import Derived.RangeFuncNested
import Derived.RangeFuncBound
import Derived.RangeFuncCalls
import Derived.RangeFuncLeaves
import Derived.OwnWalkIn
import Derived.TacticsInMore
import Derived.LoopNIn
import Derived.LoopIn
import Derived.Deep.RegionHeld3
import Derived.Deep.DeepCutAuto
/- The walks of sum.Is, frame.Read, thresherref04.Read. -/
namespace Go.Proofs.YthggliknnmhbdaaGreat
set_option maxRecDepth 100000
open Go.RowKit
set_option linter.unusedVariables false
attribute [local simp] frOf dstsOf frGo predsHold allHold Region.binds slotOf seen Is Act.put

/-- a sum's bytes -/
def sumStr (s : ByteArray) : ByteArray := ⟨(sumBytes (Crc.on 0 (bs s))).toArray⟩
theorem is_sum (s t : ByteArray) (w : World) (hs : s.size ≤ 17592186044416) :
    Calls Tryz.prog 95 #[.string s, .string t] w fun e w' => e = .returned (.bool (decide (t = sumStr s))) ∧ Below w.heap.size w w' := by
  have h : (t.toList == sumBytes (Crc.on 0 (bs s))) = decide (t = sumStr s) := by
    rw [Bool.eq_iff_iff, beq_iff_eq, decide_eq_true_eq]
    unfold sumStr
    rw [ByteArray.toList_eq]
    constructor
    · intro h
      exact ByteArray.ext (by rw [← h])
    · intro h
      rw [h]
  rw [← h]
  exact is_any s t w hs

theorem results_frame {fn : Func} {tmps : Array Value} {w : World} {g : Nat} {x y : Value} (h : fn.results = #[.cell 4 80, .tmp 5, .tmp 6]) (h4 : tmps.getD 4 undef = .pointer (some ⟨g, 0, none⟩)) (hb : Blk w g 80 #[x, y]) :
    (results fn tmps).run Tryz.prog w = .ok (.tuple #[.agg #[x, y], tmps.getD 5 undef, tmps.getD 6 undef]) w := by
  have c0 : w.cell? ⟨g, 0, none⟩ = some x := by rw [hb.cell]; rfl
  have c1 : w.cell? ⟨g, 1, none⟩ = some y := by rw [hb.cell]; rfl
  have h4' : tmps[4]?.getD undef = .pointer (some ⟨g, 0, none⟩) := by simpa using h4
  simp [results, h, h4', go_sem, c0, c1, loadVar]

/-- which frame stands at the front of a text: its tag, its text, its end, the error -/
def fbody (s : ByteArray) (most : Int) (x k e : Nat) : Nat × ByteArray × Nat × Nat :=
  if e = 10 then (0, ⟨#[]⟩, 0, 40) else if e ≠ 0 then (0, ⟨#[]⟩, 0, 8) else
  if most < 0 ∨ most < x ∨ 131072 < x then (0, ⟨#[]⟩, 0, 4) else
  if s.size < 2 + k + x + 4 then (0, ⟨#[]⟩, 0, 40) else
  if s.extract (2 + k + x) (2 + k + x + 4) ≠ sumStr (s.extract 0 (2 + k + x)) then (0, ⟨#[]⟩, 0, 41) else
  ((bs s).getD 1 0, s.extract (2 + k) (2 + k + x), 2 + k + x + 4, 0)
def fread (s : ByteArray) (most : Int) : Nat × ByteArray × Nat × Nat :=
  if s.size = 0 then (0, ⟨#[]⟩, 0, 40) else if (bs s).getD 0 0 ≠ 1 then (0, ⟨#[]⟩, 0, 42) else if s.size < 2 then (0, ⟨#[]⟩, 0, 40) else
  fbody s most (Var.read (bs (s.extract 2 s.size))).1 (Var.read (bs (s.extract 2 s.size))).2.1 (Var.read (bs (s.extract 2 s.size))).2.2
theorem Var.read_err (l : List Nat) : (Var.read l).2.2 = 0 ∨ (Var.read l).2.2 = 8 ∨ (Var.read l).2.2 = 10 := by
  unfold Var.read
  repeat' split
  all_goals simp
theorem Var.lead_le : ∀ (n : Nat) (l : List Nat), Var.lead n l ≤ n ∧ Var.lead n l ≤ l.length
  | 0, _ => by simp [Var.lead]
  | _ + 1, [] => by simp [Var.lead]
  | n + 1, c :: l => by
    have := Var.lead_le n l
    simp only [Var.lead, List.length_cons]
    split <;> omega
theorem Var.read_len (l : List Nat) : (Var.read l).2.1 ≤ 10 ∧ (Var.read l).2.1 ≤ l.length := by
  have h := Var.lead_le 10 l
  unfold Var.read
  repeat' split
  all_goals simp <;> omega

/-- what a reader answers -/
def FRead (s : ByteArray) (most : Int) (w : World) (e : Ending) (w' : World) : Prop :=
  e = .returned (.tuple #[.agg #[.int .u8 (fread s most).1, .string (fread s most).2.1], .int .i64 (fread s most).2.2.1, .int .i64 (fread s most).2.2.2]) ∧ Below w.heap.size w w'

set_option maxHeartbeats 3000000 in
set_option maxRecDepth 100000 in
theorem fread_any (s : ByteArray) (most : Int) (w : World) (hs : s.size ≤ 17592186044416) (hm1 : -9223372036854775808 ≤ most) (hm2 : most ≤ 9223372036854775807) :
    Calls Tryz.prog 80 #[.string s, .int .i64 most] w (FRead s most w) := by
  by_cases h0 : s.size = 0
  · have hf : Hid (fread s most = (0, ⟨#[]⟩, 0, 40)) := Lib.hid (by unfold fread; rw [if_pos h0])
    have hl : s.toList = [] := by
      rw [ByteArray.toList_eq]
      exact List.eq_nil_of_length_eq_zero h0
    clear h0
    go_enter Tryz.func80, Tryz.ntmps80
    go_wp2
    refine bodyPost_ret (results_frame Tryz.results80 rfl (Blk.new _ _ _)) rfl ?_
    unfold FRead
    rw [hf.out]
    exact ⟨rfl, (Below.refl _ _).alloc (Nat.le_refl _) _⟩
  · have hl : s.toList.isEmpty = false := by
      rw [ByteArray.toList_eq, List.isEmpty_eq_false_iff]
      intro he
      exact h0 (by show s.data.size = 0; rw [← Array.length_toList, he]; rfl)
    have h00 : 0 < s.size := by omega
    have hix : (s[0]'h00).toNat = (bs s).getD 0 0 := by
      have hk' : 0 < s.data.size := h00
      simp [bs, List.getD]
      rw [Array.getElem?_eq_getElem hk']
      rfl
    by_cases h1 : (bs s).getD 0 0 = 1
    · have hix1 : (s[0]'h00).toNat = 1 := by rw [hix]; exact h1
      clear hix
      by_cases h2 : s.size < 2
      · have hf : Hid (fread s most = (0, ⟨#[]⟩, 0, 40)) := Lib.hid (by unfold fread; rw [if_neg h0, if_neg (fun h => h h1), if_pos h2])
        clear h1
        go_enter Tryz.func80, Tryz.ntmps80
        go_wp2
        refine bodyPost_ret (results_frame Tryz.results80 rfl (Blk.new _ _ _)) rfl ?_
        unfold FRead
        rw [hf.out]
        exact ⟨rfl, (Below.refl _ _).alloc (Nat.le_refl _) _⟩
      · have hsz : (s.extract 2 s.size).size = s.size - 2 := by rw [ByteArray.size_extract]; omega
        have hN := Lib.hid (nread_any (s.extract 2 s.size) (w.alloc (.cells #[.int .u8 0, .string ⟨#[]⟩] 80)) (by omega))
        have herr := Var.read_err (bs (s.extract 2 s.size))
        have hlen := Var.read_len (bs (s.extract 2 s.size))
        have hlt := Var.read_lt (bs (s.extract 2 s.size))
        rw [bs_len, hsz] at hlen
        have hfd : fread s most = fbody s most (Var.read (bs (s.extract 2 s.size))).1 (Var.read (bs (s.extract 2 s.size))).2.1 (Var.read (bs (s.extract 2 s.size))).2.2 := by
          unfold fread
          rw [if_neg h0, if_neg (fun h => h h1), if_neg h2]
        have HD := Lib.hid hfd
        clear hfd hsz h1
        generalize Var.read (bs (s.extract 2 s.size)) = r at *
        obtain ⟨x, k, e⟩ := r
        simp only at herr hlen hlt
        have HL := Lib.hid hlen
        have HX := Lib.hid hlt
        clear hlen hlt
        rcases herr with he | he | he
        · have HD2 : Hid (fread s most = fbody s most x k 0) := Lib.hid (by rw [HD.out, he])
          clear HD
          subst he
          by_cases hm : most < 0
          · have hf : Hid (fread s most = (0, ⟨#[]⟩, 0, 4)) := Lib.hid (by rw [HD2.out]; unfold fbody; rw [if_neg (by omega), if_neg (by omega), if_pos (.inl hm)])
            go_enter Tryz.func80, Tryz.ntmps80
            go_wp2_with fail
            refine hN.out.mono ?_
            rintro e w' ⟨rfl, rfl⟩
            go_wp2
            refine bodyPost_ret (results_frame Tryz.results80 rfl (Blk.new _ _ _)) rfl ?_
            unfold FRead
            rw [hf.out]
            exact ⟨rfl, (Below.refl _ _).alloc (Nat.le_refl _) _⟩
          · obtain ⟨m, rfl⟩ : ∃ m : Nat, most = m := ⟨most.toNat, by omega⟩
            by_cases hx : m < x ∨ 131072 < x
            · have hf : Hid (fread s (m : Int) = (0, ⟨#[]⟩, 0, 4)) := Lib.hid (by rw [HD2.out]; unfold fbody; rw [if_neg (by omega), if_neg (by omega), if_pos (by omega)])
              go_enter Tryz.func80, Tryz.ntmps80
              go_wp2_with fail
              refine hN.out.mono ?_
              rintro e w' ⟨rfl, rfl⟩
              go_wp2
              refine bodyPost_ret (results_frame Tryz.results80 rfl (Blk.new _ _ _)) rfl ?_
              unfold FRead
              rw [hf.out]
              exact ⟨rfl, (Below.refl _ _).alloc (Nat.le_refl _) _⟩
            · have hk := HL.out
              have hx1 : x ≤ m := by omega
              have hx2 : x ≤ 131072 := by omega
              by_cases hsz : s.size < 2 + k + x + 4
              · have hf : Hid (fread s (m : Int) = (0, ⟨#[]⟩, 0, 40)) := Lib.hid (by rw [HD2.out]; unfold fbody; rw [if_neg (by omega), if_neg (by omega), if_neg (by omega), if_pos hsz])
                go_enter Tryz.func80, Tryz.ntmps80
                go_wp2_with fail
                refine hN.out.mono ?_
                rintro e w' ⟨rfl, rfl⟩
                go_wp2
                refine bodyPost_ret (results_frame Tryz.results80 rfl (Blk.new _ _ _)) rfl ?_
                unfold FRead
                rw [hf.out]
                exact ⟨rfl, (Below.refl _ _).alloc (Nat.le_refl _) _⟩
              · obtain ⟨te, hto⟩ : ∃ te : Nat, 2 + k + x = te := ⟨_, rfl⟩
                have hI : ∀ W, Hid (Calls Tryz.prog 95 #[.string (s.extract 0 te), .string (s.extract te (te + 4))] W fun e w' => e = .returned (.bool (decide (s.extract te (te + 4) = sumStr (s.extract 0 te)))) ∧ Below W.heap.size W w') := fun W => Lib.hid (is_sum _ _ W (by rw [ByteArray.size_extract]; omega))
                have hf : Hid (fread s (m : Int) = if s.extract te (te + 4) = sumStr (s.extract 0 te) then ((bs s).getD 1 0, s.extract (2 + k) te, te + 4, 0) else (0, ⟨#[]⟩, 0, 41)) := Lib.hid (by
                  rw [HD2.out]
                  unfold fbody
                  rw [if_neg (by omega), if_neg (by omega), if_neg (by omega), if_neg (by omega), hto]
                  by_cases hq : s.extract te (te + 4) = sumStr (s.extract 0 te)
                  · rw [if_neg (fun h => h hq), if_pos hq]
                  · rw [if_pos hq, if_neg hq])
                clear HD2
                have hq : decide (s.extract te (te + 4) = sumStr (s.extract 0 te)) = true ↔ s.extract te (te + 4) = sumStr (s.extract 0 te) := decide_eq_true_iff
                have HQ := Lib.hid hq
                clear hq
                generalize decide (s.extract te (te + 4) = sumStr (s.extract 0 te)) = b at *
                have ht4 : te + 4 ≤ s.size := by omega
                have ht1 : IntKind.i64.wrap ((te : Int) + 4) = (te : Int) + 4 := IntWalk.i64_in _ (by omega)
                have HT := Lib.hid hto
                have hb1 : te ≤ s.size := by omega
                have hb2 : (0 : Int) ≤ (te : Int) + 4 := by omega
                have hb3 : (te : Int) ≤ (te : Int) + 4 := by omega
                have hb4 : ((te : Int) + 4).toNat = te + 4 := by omega
                have hw : (2 : Int) + k + x = te := by omega
                go_enter Tryz.func80, Tryz.ntmps80
                go_wp2_with fail
                refine hN.out.mono ?_
                rintro e w' ⟨rfl, rfl⟩
                go_upto_region 18 with fail
                refine wp_region_ord (by kernel_rfl) Grows [Is (.string s), Is (.int .i64 (te : Int)), Is (.string (s.extract 0 te)), Is (.string s), Is (.int .i64 (te : Int)), Is (.int .i64 (te : Int)), Is (.int .i64 ((te : Int) + 4)), Is (.string (s.extract te (te + 4))), Is (.bool b), Is (.bool (!b)), Is (.bool (!b))] (by kernel_rfl) Grows.refl Grows.trans
                  ⟨is_stab _ _, is_stab _ _, is_stab _ _, is_stab _ _, is_stab _ _, is_stab _ _, is_stab _ _, is_stab _ _, is_stab _ _, is_stab _ _, is_stab _ _, trivial⟩ ⟨?_, ?_, ?_, ?_, ?_, ?_, ?_, ?_, ?_, ?_, ?_, trivial⟩ ?_
                · intro u w1 hR hp K hK
                  refine ord_plain rfl ?_
                  simp at hp hK ⊢
                  go_simp
                  exact hK _ _ (Grows.refl _) rfl
                · intro u w1 hR hp K hK
                  refine ord_plain rfl ?_
                  simp at hp hK ⊢
                  go_simp
                  exact hK _ _ (Grows.refl _) rfl
                · intro u w1 hR hp K hK
                  refine ord_plain rfl ?_
                  simp at hp hK ⊢
                  simp only [hp] at hK
                  go_simp
                  exact hK _ _ (Grows.refl _) rfl
                · intro u w1 hR hp K hK
                  refine ord_plain rfl ?_
                  simp at hp hK ⊢
                  go_simp
                  exact hK _ _ (Grows.refl _) rfl
                · intro u w1 hR hp K hK
                  refine ord_plain rfl ?_
                  simp at hp hK ⊢
                  go_simp
                  exact hK _ _ (Grows.refl _) rfl
                · intro u w1 hR hp K hK
                  refine ord_plain rfl ?_
                  simp at hp hK ⊢
                  go_simp
                  exact hK _ _ (Grows.refl _) rfl
                · intro u w1 hR hp K hK
                  refine ord_plain rfl ?_
                  simp at hp hK ⊢
                  simp only [hp] at hK
                  go_simp
                  exact hK _ _ (Grows.refl _) rfl
                · intro u w1 hR hp K hK
                  refine ord_plain rfl ?_
                  simp at hp hK ⊢
                  simp only [hp] at hK
                  go_simp
                  exact hK _ _ (Grows.refl _) rfl
                · intro u w1 hR hp K hK
                  refine ord_plain rfl ?_
                  simp at hp hK ⊢
                  obtain ⟨hp1, hp2⟩ := hp
                  simp only [hp1, hp2] at hK
                  go_simp
                  refine (hI w1).out.mono ?_
                  rintro e w2 ⟨rfl, hb2⟩
                  exact hK _ _ hb2 rfl
                · intro u w1 hR hp K hK
                  refine ord_plain rfl ?_
                  simp at hp hK ⊢
                  simp only [hp] at hK
                  go_simp
                  exact hK _ _ (Grows.refl _) rfl
                · intro u w1 hR hp K hK
                  refine ord_plain rfl ?_
                  simp at hp hK ⊢
                  simp only [hp] at hK
                  go_simp
                  exact hK _ _ (Grows.refl _) rfl
                · intro u w1 hR hp
                  simp at hp ⊢
                  have h9 := hp.2.2.2.2.2.2.2.2.2.2
                  simp only [h9]
                  have HB := Lib.hid (Below.trans (Below.drew (Below.refl _ _)) hR)
                  clear hp hR
                  have HBl : Blk w1 w.heap.size 80 #[.int .u8 0, .string ⟨#[]⟩] := (Blk.new w _ _).below HB.out (Blk.new w _ _).lt
                  have HBL := Lib.hid HBl
                  have hc0 : w1.cell? ⟨w.heap.size, 0, none⟩ = some (.int .u8 0) := by rw [HBl.cell]; rfl
                  have hc1 : w1.cell? ⟨w.heap.size, 1, none⟩ = some (.string ⟨#[]⟩) := by rw [HBl.cell]; rfl
                  have hf0 : w1.frozen? ⟨w.heap.size, 0, none⟩ = false := HBl.frozen 0
                  have hf1 : w1.frozen? ⟨w.heap.size, 1, none⟩ = false := HBl.frozen 1
                  clear HBl
                  have hone : (1 : Int) < (s.size : Int) := by omega
                  have h01 : 1 < s.size := by omega
                  have hiy : (s[1]'h01).toNat = (bs s).getD 1 0 := by
                    have hk' : 1 < s.data.size := h01
                    simp [bs, List.getD]
                    rw [Array.getElem?_eq_getElem hk']
                    rfl
                  have hs1 : (0 : Int) ≤ 2 + (k : Int) := by omega
                  have hs2 : (2 : Int) + (k : Int) ≤ (te : Int) := by omega
                  have hs3 : (te : Int) ≤ (s.size : Int) := by omega
                  have hs4 : ((2 : Int) + (k : Int)).toNat = 2 + k := by omega
                  generalize (bs s).getD 1 0 = tag at *
                  have HBZ : Hid (Below w.heap.size w w1) := Lib.hid (((Below.refl w.heap.size w).alloc (Nat.le_refl _) _).trans (HB.out.mono (by simp)))
                  cases b
                  · have hq : fread s (m : Int) = (0, ⟨#[]⟩, 0, 41) := by rw [hf.out, if_neg (fun h => by have := HQ.out.2 h; cases this)]
                    have HF := Lib.hid hq
                    clear hq
                    go_wp2
                    refine bodyPost_ret (results_frame (x := .int .u8 0) (y := .string ⟨#[]⟩) Tryz.results80 rfl ((HBL.out.set_ 0 _).set_ 1 _)) rfl ?_
                    unfold FRead
                    rw [HF.out]
                    exact ⟨rfl, (HBZ.out.setCell (by simp) _).setCell (by simp) _⟩
                  · have hq : fread s (m : Int) = (tag, s.extract (2 + k) te, te + 4, 0) := by rw [hf.out, if_pos (HQ.out.1 rfl)]
                    have HF := Lib.hid hq
                    clear hq
                    go_wp2_with fail
                    go_region
                    go_wp2
                    refine bodyPost_ret (results_frame (x := .int .u8 (tag : Int)) (y := .string (s.extract (2 + k) te)) Tryz.results80 rfl ((HBL.out.set_ 0 _).set_ 1 _).drew) rfl ?_
                    unfold FRead
                    rw [HF.out]
                    exact ⟨rfl, ((HBZ.out.setCell (by simp) _).setCell (by simp) _).drew⟩
        · have hf : Hid (fread s most = (0, ⟨#[]⟩, 0, 8)) := Lib.hid (by rw [HD.out, he]; rfl)
          clear HD
          subst he
          go_enter Tryz.func80, Tryz.ntmps80
          go_wp2_with fail
          refine hN.out.mono ?_
          rintro e w' ⟨rfl, rfl⟩
          go_wp2
          refine bodyPost_ret (results_frame Tryz.results80 rfl (Blk.new _ _ _)) rfl ?_
          unfold FRead
          rw [hf.out]
          exact ⟨rfl, (Below.refl _ _).alloc (Nat.le_refl _) _⟩
        · have hf : Hid (fread s most = (0, ⟨#[]⟩, 0, 40)) := Lib.hid (by rw [HD.out, he]; rfl)
          clear HD
          subst he
          go_enter Tryz.func80, Tryz.ntmps80
          go_wp2_with fail
          refine hN.out.mono ?_
          rintro e w' ⟨rfl, rfl⟩
          go_wp2
          refine bodyPost_ret (results_frame Tryz.results80 rfl (Blk.new _ _ _)) rfl ?_
          unfold FRead
          rw [hf.out]
          exact ⟨rfl, (Below.refl _ _).alloc (Nat.le_refl _) _⟩
    · have hf : Hid (fread s most = (0, ⟨#[]⟩, 0, 42)) := Lib.hid (by unfold fread; rw [if_neg h0, if_pos h1])
      generalize (bs s).getD 0 0 = c at *
      have h1' : ((c : Int) == 1) = false := by simp; omega
      have h1'' : ((c : Int) != 1) = true := by simp; omega
      go_enter Tryz.func80, Tryz.ntmps80
      go_wp2
      refine bodyPost_ret (results_frame Tryz.results80 rfl (Blk.new _ _ _)) rfl ?_
      unfold FRead
      rw [hf.out]
      exact ⟨rfl, (Below.refl _ _).alloc (Nat.le_refl _) _⟩
end Go.Proofs.YthggliknnmhbdaaGreat
/- The walk of thresherref04.Read. -/
namespace Go.Proofs.YthggliknnmhbdaaGreat
set_option maxRecDepth 100000
open Go.RowKit
set_option linter.unusedVariables false
attribute [local simp] frOf dstsOf frGo predsHold allHold Region.binds slotOf seen Is Act.put
end Go.Proofs.YthggliknnmhbdaaGreat
/- Which frames stand one behind the other in a text, in plain lists. -/
namespace Go.Proofs.YthggliknnmhbdaaGreat
set_option maxRecDepth 100000
open Go.RowKit
set_option linter.unusedVariables false

theorem fread_ok {s : ByteArray} {most : Int} (h : (fread s most).2.2.2 = 0) : 7 ≤ (fread s most).2.2.1 ∧ (fread s most).2.2.1 ≤ s.size := by
  have hk : (Var.read (bs (s.extract 2 s.size))).2.2 = 0 → 1 ≤ (Var.read (bs (s.extract 2 s.size))).2.1 := by
    unfold Var.read
    split
    · simp
    · split
      · simp
      · split
        · simp
        · simp
  unfold fread at h ⊢
  split at h
  · simp at h
  · rename_i h0
    rw [if_neg h0]
    split at h
    · simp at h
    · rename_i h1
      rw [if_neg h1]
      split at h
      · simp at h
      · rename_i h2
        rw [if_neg h2]
        generalize Var.read (bs (s.extract 2 s.size)) = r at *
        obtain ⟨x, k, e⟩ := r
        simp only at h hk ⊢
        unfold fbody at h ⊢
        repeat' split at h
        all_goals (try (simp at h))
        rename_i h3 h4 h5 h6 h7
        have := hk (by omega)
        rw [if_neg h3, if_neg h4, if_neg h5, if_neg h6, if_neg h7]
        simp only
        omega
/-- from a place on: the frames, where they end, the error -/
def fscan (s : ByteArray) (most : Int) : Nat → Nat → List (Nat × ByteArray) × Nat × Nat
  | 0, p => ([], p, 0)
  | f + 1, p => if s.size ≤ p then ([], p, 0) else if (fread (s.extract p s.size) most).2.2.2 ≠ 0 then ([], p, (fread (s.extract p s.size) most).2.2.2) else
    (((fread (s.extract p s.size) most).1, (fread (s.extract p s.size) most).2.1) :: (fscan s most f (p + (fread (s.extract p s.size) most).2.2.1)).1, (fscan s most f (p + (fread (s.extract p s.size) most).2.2.1)).2)
def scanFrom (s : ByteArray) (most : Int) (p : Nat) := fscan s most (s.size - p) p
theorem fscan_fuel (s : ByteArray) (most : Int) : ∀ (f g p : Nat), s.size - p ≤ f → s.size - p ≤ g → fscan s most f p = fscan s most g p := by
  intro f
  induction f with
  | zero =>
    intro g p hf hg
    cases g with
    | zero => rfl
    | succ g => simp only [fscan]; rw [if_pos (by omega)]
  | succ f ih =>
    intro g p hf hg
    cases g with
    | zero => simp only [fscan]; rw [if_pos (by omega)]
    | succ g =>
      simp only [fscan]
      by_cases h : s.size ≤ p
      · rw [if_pos h, if_pos h]
      · rw [if_neg h, if_neg h]
        by_cases he : (fread (s.extract p s.size) most).2.2.2 = 0
        · have hn := fread_ok he
          rw [if_neg (fun x => x he), if_neg (fun x => x he), ih g _ (by omega) (by omega)]
        · rw [if_pos he, if_pos he]
theorem scan_end {s : ByteArray} {most : Int} {p : Nat} (h : s.size ≤ p) : scanFrom s most p = ([], p, 0) := by
  unfold scanFrom
  rw [show s.size - p = 0 by omega]
  rfl
theorem scan_stop {s : ByteArray} {most : Int} {p : Nat} (h : p < s.size) (he : (fread (s.extract p s.size) most).2.2.2 ≠ 0) : scanFrom s most p = ([], p, (fread (s.extract p s.size) most).2.2.2) := by
  unfold scanFrom
  rw [show s.size - p = (s.size - p - 1) + 1 by omega]
  simp only [fscan]
  rw [if_neg (by omega), if_pos he]
theorem scan_next {s : ByteArray} {most : Int} {p : Nat} (h : p < s.size) (he : (fread (s.extract p s.size) most).2.2.2 = 0) :
    scanFrom s most p = (((fread (s.extract p s.size) most).1, (fread (s.extract p s.size) most).2.1) :: (scanFrom s most (p + (fread (s.extract p s.size) most).2.2.1)).1, (scanFrom s most (p + (fread (s.extract p s.size) most).2.2.1)).2) := by
  have hn := fread_ok he
  unfold scanFrom
  rw [show s.size - p = (s.size - p - 1) + 1 by omega]
  simp only [fscan]
  rw [if_neg (by omega), if_neg (fun x => x he), fscan_fuel s most (s.size - p - 1) (s.size - (p + (fread (s.extract p s.size) most).2.2.1)) _ (by omega) (by omega)]

/-- the cells of a row of frames -/
def fcells (l : List (Nat × ByteArray)) : List Value := l.flatMap fun p => [.int .u8 (p.1 : Int), .string p.2]
theorem fcells_snoc (l : List (Nat × ByteArray)) (t : Nat) (x : ByteArray) : fcells (l ++ [(t, x)]) = fcells l ++ [.int .u8 (t : Int), .string x] := by simp [fcells]
/-- what a scanner answers -/
def FScan (s : ByteArray) (most : Int) (w : World) (e : Ending) (w' : World) : Prop :=
  ∃ v, e = .returned (.tuple #[v, .int .i64 (scanFrom s most 0).2.1, .int .i64 (scanFrom s most 0).2.2]) ∧ w'.ownsRow w.heap.size 80 2 v (scanFrom s most 0).1.length (fcells (scanFrom s most 0).1) ∧ Below w.heap.size w w'
end Go.Proofs.YthggliknnmhbdaaGreat
/- The walk of thresherref04.Scan. -/
namespace Go.Proofs.YthggliknnmhbdaaGreat
set_option maxRecDepth 100000
open Go.RowKit
set_option linter.unusedVariables false

theorem frame_info : (Tryz.prog.info? 80).map (fun i => (i.zero, i.size, i.bytes)) = some (some (.agg #[.int .u8 0, .string ⟨#[]⟩]), 2, 24) := by kernel_rfl

end Go.Proofs.YthggliknnmhbdaaGreat
/- The iterator of frame.Scan. -/
namespace Go.Proofs.YthggliknnmhbdaaGreat
set_option maxRecDepth 100000
open Go.RowKit
set_option linter.unusedVariables false

/-- how memory stands between two rounds -/
structure FJ (w : World) (s : ByteArray) (most : Int) (rec : Loop) (pre : List (Nat × ByteArray)) (p ev : Nat) (W : World) : Prop where
  below : Below w.heap.size w W
  l : ∃ v, Blk W w.heap.size 76 #[v] ∧ W.ownsRow (w.heap.size + 8) 80 2 v pre.length (fcells pre)
  g : Blk W (w.heap.size + 1) 3 #[.int .i64 p]
  e : Blk W (w.heap.size + 2) 26 #[.int .i64 ev]
  bs : Blk W (w.heap.size + 3) 9 #[.string s]
  bm : Blk W (w.heap.size + 4) 3 #[.int .i64 most]
  be : Blk W (w.heap.size + 5) 106 #[.pointer (some ⟨w.heap.size + 2, 0, none⟩)]
  d : W.heap[w.heap.size + 6]? = some (.deferred (some []))
  r : W.heap[w.heap.size + 7]? = some (.loop rec)
theorem FJ.grows {w : World} {s : ByteArray} {most : Int} {rec : Loop} {pre : List (Nat × ByteArray)} {p ev : Nat} {W W' : World} (h : FJ w s most rec pre p ev W) (hb : Grows W W') : FJ w s most rec pre p ev W' := by
  obtain ⟨v, hv, ho⟩ := h.l
  exact ⟨h.below.trans (Below.mono hb h.below.size), ⟨v, hb.blk hv, owns_below ho hb⟩, hb.blk h.g, hb.blk h.e, hb.blk h.bs, hb.blk h.bm, hb.blk h.be,
    (Below.block hb _ (Array.getElem?_eq_some_iff.1 h.d).1).trans h.d, (Below.block hb _ (Array.getElem?_eq_some_iff.1 h.r).1).trans h.r⟩
theorem FJ.setE {w : World} {s : ByteArray} {most : Int} {rec : Loop} {pre : List (Nat × ByteArray)} {p ev : Nat} {W : World} (h : FJ w s most rec pre p ev W) (ev' : Nat) :
    FJ w s most rec pre p ev' (W.setCell ⟨w.heap.size + 2, 0, none⟩ (.int .i64 ev')) := by
  obtain ⟨v, hv, ho⟩ := h.l
  have hO : Only (fun k => k = w.heap.size + 2) W (W.setCell ⟨w.heap.size + 2, 0, none⟩ (.int .i64 ev')) := (Only.refl (fun k => k = w.heap.size + 2) W).setCell (p := ⟨w.heap.size + 2, 0, none⟩) (.inl rfl) _
  refine ⟨h.below.setCell (by simp) _, ⟨v, hO.blk hv (by omega), hO.owns ho ?_⟩, hO.blk h.g (by omega), h.e.set_ 0 _, hO.blk h.bs (by omega), hO.blk h.bm (by omega), hO.blk h.be (by omega),
    (hO.block _ (Array.getElem?_eq_some_iff.1 h.d).1 (by omega)).trans h.d, (hO.block _ (Array.getElem?_eq_some_iff.1 h.r).1 (by omega)).trans h.r⟩
  intro k hk he
  have := (ho.lt k hk).1
  omega

set_option maxHeartbeats 3000000 in
set_option maxRecDepth 100000 in
theorem frames1_any (w : World) (s : ByteArray) (most : Int) (rec : Loop) (hs : s.size ≤ 17179869184) (hm1 : -9223372036854775808 ≤ most) (hm2 : most ≤ 9223372036854775807) (nn : Nat)
    (hY : ∀ (pre : List (Nat × ByteArray)) (p p' : Nat) (W1 : World) (tag : Nat) (text : ByteArray), FJ w s most rec pre p 0 W1 → pre.length ≤ s.size → p' ≤ s.size → YieldAt Fence.wide (nn - 1) Tryz.prog (w.heap.size + 7) #[.int .i64 p', .agg #[.int .u8 tag, .string text]] W1 fun e W' => e = .returned (.bool true) ∧ FJ w s most rec (pre ++ [(tag, text)]) p' 0 W')
    (W : World) (h0 : FJ w s most rec [] 0 0 W) :
    CallsIn Fence.wide nn Tryz.prog 79 #[.func (.yield (w.heap.size + 7)) #[] #[], .pointer (some ⟨w.heap.size + 3, 0, none⟩), .pointer (some ⟨w.heap.size + 4, 0, none⟩), .pointer (some ⟨w.heap.size + 5, 0, none⟩)] W
      fun e W' => (∃ v, e = .returned v) ∧ FJ w s most rec (scanFrom s most 0).1 (scanFrom s most 0).2.1 (scanFrom s most 0).2.2 W' := by
  refine callsIn_of_wp Tryz.func79 rfl trivial ?_ rfl
  simp only [Tryz.ntmps79, List.size_toArray, List.length_cons, List.length_nil, Nat.reduceAdd, Nat.reduceSub, Array.replicate_succ, Array.replicate_zero, List.push_toArray, List.append_toArray, List.nil_append, List.cons_append]
  refine wpIn_wide.2 ?_
  have H0 := Lib.hid h0
  clear h0
  go_wp2_with fail
  go_loopw [5] (fun i wr => ∃ (p : Nat) (pre : List (Nat × ByteArray)), p ≤ s.size ∧ pre.length ≤ p ∧ i = .int .i64 p ∧ scanFrom s most 0 = (pre ++ (scanFrom s most p).1, (scanFrom s most p).2) ∧ FJ w s most rec pre p 0 wr) (fun i _ => s.size - (intOf i).toNat)
  case atStart => exact ⟨0, [], by omega, by simp, rfl, by simp, H0.out⟩
  case round =>
    obtain ⟨p, pre, hp, hpl, rfl, he, hJ⟩ := hrel
    have HE := Lib.hid he
    have HJ := Lib.hid hJ
    have hcs : wr.cell? ⟨w.heap.size + 3, 0, none⟩ = some (.string s) := by rw [hJ.bs.cell]; rfl
    have hcm : wr.cell? ⟨w.heap.size + 4, 0, none⟩ = some (.int .i64 most) := by rw [hJ.bm.cell]; rfl
    clear he hJ
    by_cases hlt : p < s.size
    · have hsz : (s.extract p s.size).size = s.size - p := by rw [ByteArray.size_extract]; omega
      have hN : ∀ W, Hid (Calls Tryz.prog 80 #[.string (s.extract p s.size), .int .i64 most] W (FRead (s.extract p s.size) most W)) := fun W => Lib.hid (fread_any (s.extract p s.size) most W (by omega) hm1 hm2)
      have hok := @fread_ok (s.extract p s.size) most
      rw [hsz] at hok
      have hst := @scan_stop s most p hlt
      have hnx := @scan_next s most p hlt
      unfold FRead at hN
      clear hsz
      generalize fread (s.extract p s.size) most = r at *
      obtain ⟨tag, text, n, er⟩ := r
      simp only at hok hst hnx hN
      have hb2 : (p : Int) ≤ (s.size : Int) := by omega
      have hb3 : (0 : Int) ≤ (p : Int) := by omega
      go_upto_region 2 with fail
      go_cut [6, 7, 8, 13] (fun s6 s7 s8 s13 wx => s7 = .int .i64 n ∧ s8 = .int .i64 er ∧ ∃ g : Nat, s6 = .pointer (some ⟨g, 0, none⟩) ∧ wr.heap.size ≤ g ∧ Blk wx g 80 #[.int .u8 tag, .string text] ∧ Grows wr wx)
      case first =>
        obtain ⟨v0, hv0, ho0⟩ := HJ.out.l
        have hl3 := HJ.out.bs.lt
        have hl4 := HJ.out.bm.lt
        have HV := Lib.hid (Grows.drew wr)
        have HVA := Lib.hid (Grows.trans (Grows.alloc wr (.cells #[.int .u8 0, .string ⟨#[]⟩] 80)) (Grows.drew _))
        have HBA : Hid (Blk (wr.alloc (.cells #[.int .u8 0, .string ⟨#[]⟩] 80)).drew wr.heap.size 80 #[.int .u8 0, .string ⟨#[]⟩]) := Lib.hid (Blk.new wr _ _)
        clear hv0 ho0
        have n3 := World.new_ne wr ⟨w.heap.size + 3, 0, none⟩ hcs
        have n4 := World.new_ne wr ⟨w.heap.size + 4, 0, none⟩ hcm
        go_region_held3 (fun w' => w'.cell? ⟨w.heap.size + 3, 0, none⟩ = some (.string s) ∧ w'.cell? ⟨w.heap.size + 4, 0, none⟩ = some (.int .i64 most)) (go_keep) (first
          | (go_at_call 80; refine (hN wr.drew).out.mono ?_; rintro e w1 ⟨rfl, hb⟩; have HX := Lib.hid (Grows.trans HV.out hb); have c3 : w1.cell? ⟨w.heap.size + 3, 0, none⟩ = some (.string s) := ((HX.out.blk HJ.out.bs).cell 0); have c4 : w1.cell? ⟨w.heap.size + 4, 0, none⟩ = some (.int .i64 most) := ((HX.out.blk HJ.out.bm).cell 0); have HY : Hid (Blk (w1.alloc (.cells #[.int .u8 tag, .string text] 80)) w1.heap.size 80 #[.int .u8 tag, .string text] ∧ wr.heap.size ≤ w1.heap.size ∧ Grows wr (w1.alloc (.cells #[.int .u8 tag, .string text] 80))) := Lib.hid ⟨Blk.new _ _ _, Below.size HX.out, Grows.trans HX.out (Grows.alloc _ _)⟩; clear hb)
          | (go_at_call 80; refine (hN (wr.alloc (.cells #[.int .u8 0, .string ⟨#[]⟩] 80)).drew).out.mono ?_; rintro e w1 ⟨rfl, hb⟩; have HX := Lib.hid (Grows.trans HVA.out hb); have c3 : w1.cell? ⟨w.heap.size + 3, 0, none⟩ = some (.string s) := ((HX.out.blk HJ.out.bs).cell 0); have c4 : w1.cell? ⟨w.heap.size + 4, 0, none⟩ = some (.int .i64 most) := ((HX.out.blk HJ.out.bm).cell 0); have HZ := Lib.hid (Grows.blk hb HBA.out); have c5 : w1.cell? ⟨wr.heap.size, 0, none⟩ = some (.int .u8 0) := HZ.out.cell 0; have c6 : w1.cell? ⟨wr.heap.size, 1, none⟩ = some (.string ⟨#[]⟩) := HZ.out.cell 1; have f5 : w1.frozen? ⟨wr.heap.size, 0, none⟩ = false := HZ.out.frozen 0; have f6 : w1.frozen? ⟨wr.heap.size, 1, none⟩ = false := HZ.out.frozen 1; clear hb))
        · go_wp2_with fail
          go_meet
          case rel => exact ⟨rfl, rfl, w1.heap.size, rfl, HY.out.2.1, HY.out.1, HY.out.2.2⟩
        · go_wp2_with fail
          go_meet
          case rel => exact ⟨rfl, rfl, wr.heap.size, rfl, Nat.le_refl _, (HZ.out.set_ 0 _).set_ 1 _, (Below.setCell (Below.setCell HX.out (p := ⟨wr.heap.size, 0, none⟩) (Nat.le_refl _) _) (p := ⟨wr.heap.size, 1, none⟩) (Nat.le_refl _) _)⟩
      case rest =>
        obtain ⟨rfl, rfl, g, rfl, hge, hbg, hgr⟩ := hcut
        have HJ1 := Lib.hid (HJ.out.grows hgr)
        have HBG := Lib.hid hbg
        have e1 := HJ.out.e.lt
        have hne : g ≠ w.heap.size + 2 := by omega
        clear hbg hgr HJ hge e1
        have HJ2 := Lib.hid (HJ1.out.setE er)
        have HBG2 := Lib.hid (HBG.out.far (p := ⟨w.heap.size + 2, 0, none⟩) hne (.int .i64 er))
        have d1 : wc.cell? ⟨w.heap.size + 5, 0, none⟩ = some (.pointer (some ⟨w.heap.size + 2, 0, none⟩)) := HJ1.out.be.cell 0
        have d2 : wc.cell? ⟨w.heap.size + 2, 0, none⟩ = some (.int .i64 ((0 : Nat) : Int)) := HJ1.out.e.cell 0
        have d3 : wc.frozen? ⟨w.heap.size + 2, 0, none⟩ = false := HJ1.out.e.frozen 0
        by_cases h0 : er = 0
        · have hok' := hok h0
          have HNX := Lib.hid (hnx h0)
          clear hok hst hnx
          subst h0
          have hb1 : p + n ≤ s.size := by omega
          have hya := hY pre p (p + n) _ tag text HJ2.out (by omega) hb1
          simp only [Int.natCast_add, show ((0 : Nat) : Int) = 0 from rfl] at hya
          obtain ⟨fn, tmps, assign, body, hy, hR⟩ := hya
          have HRD := Lib.hid hR
          have d4 : (wc.setCell ⟨w.heap.size + 2, 0, none⟩ (.int .i64 0)).cell? ⟨g, 0, none⟩ = some (.int .u8 tag) := HBG2.out.cell 0
          have d5 : (wc.setCell ⟨w.heap.size + 2, 0, none⟩ (.int .i64 0)).cell? ⟨g, 1, none⟩ = some (.string text) := HBG2.out.cell 1
          clear hR
          go_upto_region 6 with fail
          refine (wpIn_wide (n := nn)).1 ?_
          gi_wp2
          refine ⟨fun h => (by cases h), ?_⟩
          refine HRD.out.mono ?_
          rintro e W' ⟨rfl, hJ'⟩
          have HJ' := Lib.hid hJ'
          clear hJ'
          gi_wp2
          go_wp2_with fail
          go_roundw
          case rel => exact ⟨p + n, pre ++ [(tag, text)], hb1, by simp; omega, by go_num, by rw [HE.out, HNX.out]; simp, by simpa using HJ'.out⟩
          case measure => simp [intOf]; omega
        · have HST := Lib.hid (hst h0)
          clear hok hst hnx
          have h0' : ((er : Int) == 0) = false := by simp; omega
          have h0'' : ((er : Int) != 0) = true := by simp; omega
          go_wp2_with fail
          refine bodyPost_ret (results_none rfl _ _ _) rfl ?_
          refine ⟨⟨_, rfl⟩, ?_⟩
          rw [HE.out, HST.out]
          simpa using HJ2.out
    · have HED := Lib.hid (@scan_end s most p (by omega))
      go_wp2
      go_end0
      refine ⟨⟨_, rfl⟩, ?_⟩
      rw [HE.out, HED.out]
      simpa using HJ.out
end Go.Proofs.YthggliknnmhbdaaGreat
/- The walk of frame.Scan. -/
namespace Go.Proofs.YthggliknnmhbdaaGreat
set_option maxRecDepth 100000
open Go.RowKit
set_option linter.unusedVariables false
attribute [local go_sem] Oper.semAt_some

theorem frames_any (s : ByteArray) (most : Int) (a : Addr) (w : World) :
    Calls Tryz.prog 59 #[.string s, .int .i64 most, .pointer (some a)] w fun e w' =>
      e = .returned (.func (.func 79) #[] #[.pointer (some ⟨w.heap.size, 0, none⟩), .pointer (some ⟨w.heap.size + 1, 0, none⟩), .pointer (some ⟨w.heap.size + 2, 0, none⟩)]) ∧
      w' = ((w.alloc (.cells #[.string s] 9)).alloc (.cells #[.int .i64 most] 3)).alloc (.cells #[.pointer (some a)] 106) := by
  go_enter Tryz.func59, Tryz.ntmps59
  go_wp2
  go_ret
  exact ⟨rfl, rfl⟩

/-- A range over a function, at a call of its own (in the wide fence). -/
theorem wp_rangeFunc_wide {P : Program} {n : Nat} {g : Operand} {ps : Array Tmp} {assign body : Code} {Q : Exit → Act → World → Prop} {a : Act} {w : World} {gf : Nat} {lb : Array Value}
    (hg : a.eval g = .func (.func gf) #[] lb) (eg : ∀ args w, (callFunc gf args).run P w = .ok (.enter gf args) w)
    (h : ∀ rec : Loop, rec.state = .ready → rec.pending = none → rec.tmps = a.tmps → rec.params = ps → rec.assign = assign → rec.body = body →
      CallsIn Fence.wide (n - 1) P gf (#[.func (.yield (w.heap.size + 1)) #[] #[]] ++ lb) ((w.alloc (.deferred (some []))).alloc (.loop rec))
        (rangePost Fence.wide n P (w.heap.size + 1) Q { a with defers := [{ target := .collected w.heap.size, args := #[] }] ++ a.defers })) :
    (Code.rangeFunc g ps assign body).wpIn Fence.wide n P Q a w := by
  refine wpIn_rangeFunc ?_
  intro fn _
  obtain ⟨rec, hrec⟩ : ∃ rec : Loop, rec = { state := .ready, pending := none, fn := fn, tmps := a.tmps, params := ps, assign, body, defers := w.heap.size } := ⟨_, rfl⟩
  have hc := h rec (by rw [hrec]) (by rw [hrec]) (by rw [hrec]) (by rw [hrec]) (by rw [hrec]) (by rw [hrec])
  clear h
  have he : (Instr.enterLoop fn a.tmps ps assign body none).run P w = .ok (w.heap.size + 1, [{ target := .collected w.heap.size, args := #[] }]) ((w.alloc (.deferred (some []))).alloc (.loop rec)) := by
    rw [hrec]
    exact run_enterLoop_outer _ _ _ _ _
  clear hrec
  generalize (w.alloc (.deferred (some []))).alloc (.loop rec) = W1 at *
  refine ⟨w.heap.size + 1, [{ target := .collected w.heap.size, args := #[] }], W1, { target := .fn (.func gf) lb, args := #[.func (.yield (w.heap.size + 1)) #[] #[]] }, W1, gf, #[.func (.yield (w.heap.size + 1)) #[] #[]] ++ lb, W1, ?a1, ?a2, ?a3, ?a4, ?a5, ?a6⟩
  case a1 => exact he
  case a2 =>
    simp only [resolve, hg]
    simp [go_sem]
  case a3 =>
    intro _ _
    trivial
  case a4 =>
    simp [invoke, go_sem, eg]
  case a5 => intro h; cases h
  case a6 => exact hc
theorem only_put (W : World) (r : Nat) (o : Obj) : Only (fun k => k = r) W (W.putObj r o) := ⟨rfl, rfl, rfl, by simp, fun k _ h => World.putObj_heap_other h⟩
section
variable {w : World} {s : ByteArray} {most : Int} {rec : Loop} {pre : List (Nat × ByteArray)} {p ev : Nat} {W : World}
theorem FJ.putR (h : FJ w s most rec pre p ev W) (rec' : Loop) : FJ w s most rec' pre p ev (W.putObj (w.heap.size + 7) (.loop rec')) := by
  obtain ⟨v, hv, ho⟩ := h.l
  have hO := only_put W (w.heap.size + 7) (.loop rec')
  refine ⟨h.below.trans (hO.below (fun i hi => by omega) h.below.size), ⟨v, hO.blk hv (by omega), hO.owns ho ?_⟩, hO.blk h.g (by omega), hO.blk h.e (by omega), hO.blk h.bs (by omega), hO.blk h.bm (by omega), hO.blk h.be (by omega),
    (hO.block _ (Array.getElem?_eq_some_iff.1 h.d).1 (by omega)).trans h.d, World.putObj_heap_same (Array.getElem?_eq_some_iff.1 h.r).1⟩
  intro k hk he
  have := (ho.lt k hk).1
  omega
theorem FJ.appended (h : FJ w s most rec pre p ev W) {v v' : Value} {w3 : World} {tag : Nat} {text : ByteArray} (p' : Nat) (hv : Blk W w.heap.size 76 #[v]) (ho : W.ownsRow (w.heap.size + 8) 80 2 v pre.length (fcells pre))
    (hg : W.grownBy w3 v.ownBlock) (hn : w3.ownsRow (w.heap.size + 8) 80 2 v' (pre.length + 1) (fcells pre ++ [.int .u8 tag, .string text])) :
    Blk w3 w.heap.size 76 #[v] ∧ Blk w3 (w.heap.size + 1) 3 #[.int .i64 p] ∧ FJ w s most rec (pre ++ [(tag, text)]) p' ev ((w3.setCell ⟨w.heap.size, 0, none⟩ v').setCell ⟨w.heap.size + 1, 0, none⟩ (.int .i64 p')) := by
  have hlo : ∀ k, v.ownBlock = some k → w.heap.size + 8 ≤ k := fun k hk => (ho.lt k hk).1
  have hO : Only (fun k => v.ownBlock = some k) W w3 := (Only.refl _ W).grown hg (fun k hk => .inl hk)
  have hnot : ∀ k, k < w.heap.size + 8 → ¬ v.ownBlock = some k := fun k hk he => by have := hlo k he; omega
  have b1 := hO.blk hv (hnot _ (by omega))
  have b2 := hO.blk h.g (hnot _ (by omega))
  have hO2 : Only (fun k => k = w.heap.size ∨ k = w.heap.size + 1) w3 ((w3.setCell ⟨w.heap.size, 0, none⟩ v').setCell ⟨w.heap.size + 1, 0, none⟩ (.int .i64 p')) :=
    ((Only.refl (fun k => k = w.heap.size ∨ k = w.heap.size + 1) w3).setCell (p := ⟨w.heap.size, 0, none⟩) (.inl (.inl rfl)) _).setCell (p := ⟨w.heap.size + 1, 0, none⟩) (.inl (.inr rfl)) _
  refine ⟨b1, b2, ?_, ⟨v', (b1.set_ 0 v').far (p := ⟨w.heap.size + 1, 0, none⟩) (by simp) _, ?_⟩, (b2.far (p := ⟨w.heap.size, 0, none⟩) (by simp) _).set_ 0 _, hO2.blk (hO.blk h.e (hnot _ (by omega))) (by omega), hO2.blk (hO.blk h.bs (hnot _ (by omega))) (by omega),
    hO2.blk (hO.blk h.bm (hnot _ (by omega))) (by omega), hO2.blk (hO.blk h.be (hnot _ (by omega))) (by omega), ?_, ?_⟩
  · exact ((h.below.trans (hO.below (fun i hi => by have := hlo i hi; omega) h.below.size)).setCell (by simp) _).setCell (by simp) _
  · rw [fcells_snoc, List.length_append]
    exact hO2.owns hn (fun k hk => by have := (hn.lt k hk).1; omega)
  · have h1 := hO.block _ (Array.getElem?_eq_some_iff.1 h.d).1 (hnot _ (by omega))
    have h2 := h1.trans h.d
    exact (hO2.block _ (Array.getElem?_eq_some_iff.1 h2).1 (by omega)).trans h2
  · have h1 := hO.block _ (Array.getElem?_eq_some_iff.1 h.r).1 (hnot _ (by omega))
    have h2 := h1.trans h.r
    exact (hO2.block _ (Array.getElem?_eq_some_iff.1 h2).1 (by omega)).trans h2
end

theorem owns_base {w : World} {base base' : Nat} {e : TypeId} {size n : Nat} {v : Value} {xs : List Value} (h : w.ownsRow base e size v n xs) (hb : base' ≤ base) : w.ownsRow base' e size v n xs :=
  ⟨h.1, h.2.imp id (fun ⟨g, cap, cur, e1, e2, rest⟩ => ⟨g, cap, cur, e1, Nat.le_trans hb e2, rest⟩)⟩
theorem results_scan {fn : Func} {tmps : Array Value} {w : World} {a b c : Nat} {x y z : Value} (h : fn.results = #[.cell 4 76, .cell 5 3, .cell 6 26])
    (h4 : tmps.getD 4 undef = .pointer (some ⟨a, 0, none⟩)) (h5 : tmps.getD 5 undef = .pointer (some ⟨b, 0, none⟩)) (h6 : tmps.getD 6 undef = .pointer (some ⟨c, 0, none⟩))
    (ha : w.cell? ⟨a, 0, none⟩ = some x) (hb : w.cell? ⟨b, 0, none⟩ = some y) (hc : w.cell? ⟨c, 0, none⟩ = some z) :
    (results fn tmps).run Tryz.prog w = .ok (.tuple #[x, y, z]) w := by
  have h4' : tmps[4]?.getD undef = .pointer (some ⟨a, 0, none⟩) := by simpa using h4
  have h5' : tmps[5]?.getD undef = .pointer (some ⟨b, 0, none⟩) := by simpa using h5
  have h6' : tmps[6]?.getD undef = .pointer (some ⟨c, 0, none⟩) := by simpa using h6
  simp [results, h, h4', h5', h6', go_sem, ha, hb, hc, loadVar]

set_option maxHeartbeats 3000000 in
set_option maxRecDepth 100000 in
theorem scan_any (s : ByteArray) (most : Int) (w : World) (hs : s.size ≤ 17179869184) (hm1 : -9223372036854775808 ≤ most) (hm2 : most ≤ 9223372036854775807) :
    Calls Tryz.prog 40 #[.string s, .int .i64 most] w (FScan s most w) := by
  refine (callsIn_wide (n := 3)).1 ?_
  refine callsIn_of_wp_marks Tryz.func40 rfl trivial ?_ rfl
  simp only [Tryz.ntmps40, List.size_toArray, List.length_cons, List.length_nil, Nat.reduceAdd, Nat.reduceSub, Array.replicate_succ, Array.replicate_zero, List.push_toArray, List.append_toArray, List.nil_append, List.cons_append]
  refine wpIn_wide.2 ?_
  go_wp2_with fail
  refine (frames_any _ _ _ _).mono ?_
  rintro e w1 ⟨rfl, rfl⟩
  go_wp2_with fail
  simp only [Nat.add_assoc, Nat.reduceAdd]
  obtain ⟨W0, hW0⟩ : ∃ W0 : World, W0 = ((((((w.alloc (.cells #[.slice none 0 0] 76)).alloc (.cells #[.int .i64 0] 3)).alloc (.cells #[.int .i64 0] 26)).alloc (.cells #[.string s] 9)).alloc (.cells #[.int .i64 most] 3)).alloc (.cells #[.pointer (some ⟨w.heap.size + 2, 0, none⟩)] 106)) := ⟨_, rfl⟩
  rw [← hW0]
  have hz : W0.heap.size = w.heap.size + 6 := by rw [hW0]; simp
  have k0 : Blk W0 w.heap.size 76 #[.slice none 0 0] := by rw [hW0]; exact (((((Blk.new w _ _).alloc _).alloc _).alloc _).alloc _).alloc _
  have k1 : Blk W0 (w.heap.size + 1) 3 #[.int .i64 ((0 : Nat) : Int)] := by
    have := (((((Blk.new (w.alloc (.cells #[.slice none 0 0] 76)) 3 #[.int .i64 ((0 : Nat) : Int)]).alloc (.cells #[.int .i64 0] 26)).alloc (.cells #[.string s] 9)).alloc (.cells #[.int .i64 most] 3)).alloc (.cells #[.pointer (some ⟨w.heap.size + 2, 0, none⟩)] 106))
    rw [World.size_alloc] at this
    rw [hW0]
    exact this
  have k2 : Blk W0 (w.heap.size + 2) 26 #[.int .i64 ((0 : Nat) : Int)] := by
    have := ((((Blk.new ((w.alloc (.cells #[.slice none 0 0] 76)).alloc (.cells #[.int .i64 0] 3)) 26 #[.int .i64 ((0 : Nat) : Int)]).alloc (.cells #[.string s] 9)).alloc (.cells #[.int .i64 most] 3)).alloc (.cells #[.pointer (some ⟨w.heap.size + 2, 0, none⟩)] 106))
    simp only [World.size_alloc, Nat.add_assoc, Nat.reduceAdd] at this
    rw [hW0]
    exact this
  have k3 : Blk W0 (w.heap.size + 3) 9 #[.string s] := by
    have := (((Blk.new (((w.alloc (.cells #[.slice none 0 0] 76)).alloc (.cells #[.int .i64 0] 3)).alloc (.cells #[.int .i64 0] 26)) 9 #[.string s]).alloc (.cells #[.int .i64 most] 3)).alloc (.cells #[.pointer (some ⟨w.heap.size + 2, 0, none⟩)] 106))
    simp only [World.size_alloc, Nat.add_assoc, Nat.reduceAdd] at this
    rw [hW0]
    exact this
  have k4 : Blk W0 (w.heap.size + 4) 3 #[.int .i64 most] := by
    have := ((Blk.new ((((w.alloc (.cells #[.slice none 0 0] 76)).alloc (.cells #[.int .i64 0] 3)).alloc (.cells #[.int .i64 0] 26)).alloc (.cells #[.string s] 9)) 3 #[.int .i64 most]).alloc (.cells #[.pointer (some ⟨w.heap.size + 2, 0, none⟩)] 106))
    simp only [World.size_alloc, Nat.add_assoc, Nat.reduceAdd] at this
    rw [hW0]
    exact this
  have k5 : Blk W0 (w.heap.size + 5) 106 #[.pointer (some ⟨w.heap.size + 2, 0, none⟩)] := by
    have := (Blk.new (((((w.alloc (.cells #[.slice none 0 0] 76)).alloc (.cells #[.int .i64 0] 3)).alloc (.cells #[.int .i64 0] 26)).alloc (.cells #[.string s] 9)).alloc (.cells #[.int .i64 most] 3)) 106 #[.pointer (some ⟨w.heap.size + 2, 0, none⟩)])
    simp only [World.size_alloc, Nat.add_assoc, Nat.reduceAdd] at this
    rw [hW0]
    exact this
  have kb : Below w.heap.size w W0 := by
    rw [hW0]
    exact ((((((Below.refl _ w).alloc (by simp) _).alloc (by simp) _).alloc (by simp; omega) _).alloc (by simp; omega) _).alloc (by simp; omega) _).alloc (by simp; omega) _
  clear hW0
  have hF : ∀ X : Loop, FJ w s most X [] 0 0 ((W0.alloc (.deferred (some []))).alloc (.loop X)) := fun X => by
    refine ⟨(kb.alloc kb.size _).alloc (by simp; omega) _, ⟨_, (k0.alloc _).alloc _, World.ownsRow_nil _ _ _ _⟩, (k1.alloc _).alloc _, (k2.alloc _).alloc _, (k3.alloc _).alloc _, (k4.alloc _).alloc _, (k5.alloc _).alloc _, ?_, ?_⟩
    · have := World.alloc_heap_new W0 (.deferred (some []))
      rw [hz] at this
      exact (Below.heap_alloc _ _ _ (by simp; omega)).trans this
    · have := World.alloc_heap_new (W0.alloc (.deferred (some []))) (.loop X)
      rw [World.size_alloc, hz] at this
      exact this
  clear k0 k1 k2 k3 k4 k5 kb
  refine (wpIn_wide (n := 3)).1 (wp_rangeFunc_wide (gf := 79) (lb := #[.pointer (some ⟨w.heap.size + 3, 0, none⟩), .pointer (some ⟨w.heap.size + 4, 0, none⟩), .pointer (some ⟨w.heap.size + 5, 0, none⟩)]) rfl (enters_of Tryz.func79 (by kernel_rfl) rfl) ?_)
  intro rec r1 r2 r3 r4 r5 r6
  rw [hz]
  refine (frames1_any w s most rec hs hm1 hm2 2 ?hY _ (hF rec)).mono ?fin
  case hY =>
    intro pre p p' W1 tag text hJ hp hp'
    have HJ := Lib.hid hJ
    refine ⟨_, _, _, _, run_yield hJ.r (by rw [r4]; rfl), roundIn_of_wpIn trivial ?_⟩
    rw [r3, r4, r5, r6]
    clear r3 r4 r5 r6 hJ
    gi_wp2
    have hJa := HJ.out.grows (Grows.alloc W1 (.cells #[.int .u8 tag, .string text] 80))
    refine ⟨_, run_beginRound hJa.r r1, ?_⟩
    have hJb := hJa.putR { rec with state := .busy }
    have hne : W1.heap.size ≠ w.heap.size + 7 := by have := (Array.getElem?_eq_some_iff.1 HJ.out.r).1; omega
    have hBb := (only_put (W1.alloc (.cells #[.int .u8 tag, .string text] 80)) (w.heap.size + 7) (.loop { rec with state := .busy })).blk (Blk.new W1 80 #[.int .u8 tag, .string text]) hne
    generalize W1.heap.size = g at *
    generalize (W1.alloc (.cells #[.int .u8 tag, .string text] 80)).putObj (w.heap.size + 7) (.loop { rec with state := .busy }) = W2 at *
    clear hJa hne HJ
    obtain ⟨v, hv, ho⟩ := hJb.l
    have HJb := Lib.hid hJb
    have HV := Lib.hid hv
    have HO := Lib.hid ho
    have c0 : W2.cell? ⟨w.heap.size, 0, none⟩ = some v := hv.cell 0
    have c1 : W2.cell? ⟨g, 0, none⟩ = some (.int .u8 tag) := hBb.cell 0
    have c2 : W2.cell? ⟨g, 1, none⟩ = some (.string text) := hBb.cell 1
    have hsz : w.heap.size + 8 ≤ W2.heap.size := by have := (Array.getElem?_eq_some_iff.1 hJb.r).1; omega
    clear hJb hv ho hBb
    obtain ⟨i0, hi, hz0, hz1, hz2⟩ := info_parts frame_info
    gi_wp2_with (gi_at_builtin; refine wpListIn_append_own _ rfl (.tmp 14) (.tmp 16) 76 rfl (w.heap.size + 8) 80 i0 (.agg #[.int .u8 0, .string ⟨#[]⟩]) 2 24 Tryz.underlying76 hi hz0 hz1 hz2 rfl (by decide) v pre.length (fcells pre) rfl (HO.out.alloc _) ⟨W2.heap.size, 0, none⟩ 1 1 [.int .u8 tag, .string text] rfl rfl ?d1 ?d2 ?d3 ?d4 ?d5 ?_)
    case d1 =>
      intro j u hu
      match j, hu with
      | 0, hu => simp at hu; subst hu; simp [Addr.add]
      | 1, hu => simp at hu; subst hu; simp [Addr.add]
    case d2 => intro u hu; simp at hu; rcases hu with rfl | rfl <;> rfl
    case d3 => unfold maxLen; omega
    case d4 => omega
    case d5 => simp; omega
    intro v' w3 hown' hgrow _
    obtain ⟨b1, b2, hJn⟩ := (HJb.out.grows (Grows.alloc W2 (.cells #[.int .u8 tag, .string text] 80))).appended p' (HV.out.alloc _) (HO.out.alloc _) hgrow hown'
    have HJn := Lib.hid hJn
    clear hJn
    obtain ⟨g', cap', rfl⟩ := ownsRow_succ hown'
    have e0 : w3.cell? ⟨w.heap.size, 0, none⟩ = some v := b1.cell 0
    have e1 : w3.frozen? ⟨w.heap.size, 0, none⟩ = false := b1.frozen 0
    have e2 : w3.cell? ⟨w.heap.size + 1, 0, none⟩ = some (.int .i64 p) := b2.cell 0
    have e3 : w3.frozen? ⟨w.heap.size + 1, 0, none⟩ = false := b2.frozen 0
    clear b1 b2 hgrow hown' c0 c1 c2
    gi_wp2
    refine ⟨_, _, run_endRound none HJn.out.r, rfl, ?_⟩
    have hr : ({ ({ rec with state := .busy } : Loop) with state := if (none : Option Code).isNone = true then .ready else .done, pending := none } : Loop) = rec := by cases rec; simp_all
    rw [hr]
    exact HJn.out.putR rec
  case fin =>
    rintro e W2 ⟨⟨v, rfl⟩, hJ⟩
    have hend := run_endLoop (P := Tryz.prog) hJ.r (by rw [r1]; simp)
    have hend' : (Instr.endLoop (w.heap.size + 7)).run Tryz.prog W2 = .ok none (W2.putObj (w.heap.size + 7) (.loop { rec with state := .exhausted })) := hend.trans (by rw [r2])
    refine ⟨none, _, hend', ?_⟩
    clear hend'
    have hJ3 := hJ.putR { rec with state := .exhausted }
    generalize W2.putObj (w.heap.size + 7) (.loop { rec with state := .exhausted }) = W3 at *
    clear hJ hend r1 r2 r3 r4 r5 r6
    obtain ⟨v', hv, ho⟩ := hJ3.l
    have HJ3 := Lib.hid hJ3
    have HO := Lib.hid ho
    have e0 : W3.cell? ⟨w.heap.size, 0, none⟩ = some v' := hv.cell 0
    have e1 : W3.frozen? ⟨w.heap.size, 0, none⟩ = false := hv.frozen 0
    have e2 : W3.cell? ⟨w.heap.size + 1, 0, none⟩ = some (.int .i64 (scanFrom s most 0).2.1) := hJ3.g.cell 0
    have e3 : W3.frozen? ⟨w.heap.size + 1, 0, none⟩ = false := hJ3.g.frozen 0
    have e4 : W3.cell? ⟨w.heap.size + 2, 0, none⟩ = some (.int .i64 (scanFrom s most 0).2.2) := hJ3.e.cell 0
    have e5 : W3.frozen? ⟨w.heap.size + 2, 0, none⟩ = false := hJ3.e.frozen 0
    have HV0 := Lib.hid hv
    clear hJ3 hv ho
    have hvs : ∃ A len cap, v' = .slice A len cap := by
      rcases owns_form HO.out with ⟨rfl, _⟩ | ⟨g, cap, rfl, _⟩
      · exact ⟨_, _, _, rfl⟩
      · exact ⟨_, _, _, rfl⟩
    obtain ⟨A, len, cap, rfl⟩ := hvs
    go_wp2_with fail
    go_region
    have hO : Only (fun k => k = w.heap.size ∨ k = w.heap.size + 1 ∨ k = w.heap.size + 2) W3 (((W3.setCell ⟨w.heap.size, 0, none⟩ (.slice A len cap)).setCell ⟨w.heap.size + 1, 0, none⟩ (.int .i64 (scanFrom s most 0).2.1)).setCell ⟨w.heap.size + 2, 0, none⟩ (.int .i64 (scanFrom s most 0).2.2)).drew :=
      (((Only.refl (fun k => k = w.heap.size ∨ k = w.heap.size + 1 ∨ k = w.heap.size + 2) W3).setCell (p := ⟨w.heap.size, 0, none⟩) (.inl (.inl rfl)) _).setCell (p := ⟨w.heap.size + 1, 0, none⟩) (.inl (.inr (.inl rfl))) _).setCell (p := ⟨w.heap.size + 2, 0, none⟩) (.inl (.inr (.inr rfl))) _ |>.drew
    have r0 : (((W3.setCell ⟨w.heap.size, 0, none⟩ (.slice A len cap)).setCell ⟨w.heap.size + 1, 0, none⟩ (.int .i64 (scanFrom s most 0).2.1)).setCell ⟨w.heap.size + 2, 0, none⟩ (.int .i64 (scanFrom s most 0).2.2)).drew.cell? ⟨w.heap.size, 0, none⟩ = some (.slice A len cap) := ((((HV0.out.set_ 0 _).far (p := ⟨w.heap.size + 1, 0, none⟩) (by simp) _).far (p := ⟨w.heap.size + 2, 0, none⟩) (by simp) _).drew).cell 0
    have r1 : (((W3.setCell ⟨w.heap.size, 0, none⟩ (.slice A len cap)).setCell ⟨w.heap.size + 1, 0, none⟩ (.int .i64 (scanFrom s most 0).2.1)).setCell ⟨w.heap.size + 2, 0, none⟩ (.int .i64 (scanFrom s most 0).2.2)).drew.cell? ⟨w.heap.size + 1, 0, none⟩ = some (.int .i64 (scanFrom s most 0).2.1) := ((((HJ3.out.g.far (p := ⟨w.heap.size, 0, none⟩) (by simp) _).set_ 0 _).far (p := ⟨w.heap.size + 2, 0, none⟩) (by simp) _).drew).cell 0
    have r2 : (((W3.setCell ⟨w.heap.size, 0, none⟩ (.slice A len cap)).setCell ⟨w.heap.size + 1, 0, none⟩ (.int .i64 (scanFrom s most 0).2.1)).setCell ⟨w.heap.size + 2, 0, none⟩ (.int .i64 (scanFrom s most 0).2.2)).drew.cell? ⟨w.heap.size + 2, 0, none⟩ = some (.int .i64 (scanFrom s most 0).2.2) := ((((HJ3.out.e.far (p := ⟨w.heap.size, 0, none⟩) (by simp) _).far (p := ⟨w.heap.size + 1, 0, none⟩) (by simp) _).set_ 0 _).drew).cell 0
    generalize (((W3.setCell ⟨w.heap.size, 0, none⟩ (.slice A len cap)).setCell ⟨w.heap.size + 1, 0, none⟩ (.int .i64 (scanFrom s most 0).2.1)).setCell ⟨w.heap.size + 2, 0, none⟩ (.int .i64 (scanFrom s most 0).2.2)).drew = W4 at *
    clear e0 e1 e2 e3 e4 e5
    have HD := Lib.hid ((hO.block _ (Array.getElem?_eq_some_iff.1 HJ3.out.d).1 (by omega)).trans HJ3.out.d)
    have HO4 := Lib.hid (hO.owns HO.out (fun k hk => by have := (HO.out.lt k hk).1; omega))
    have HB4 := Lib.hid (HJ3.out.below.trans (hO.below (fun i hi => by omega) HJ3.out.below.size))
    have HP := Lib.hid (only_put W4 (w.heap.size + 6) (.deferred none))
    clear hO
    have hs4 : w.heap.size + 6 < W4.heap.size := (Array.getElem?_eq_some_iff.1 HD.out).1
    have ho4 : ∀ k, (Value.slice A len cap).ownBlock = some k → ¬ k = w.heap.size + 6 := fun k hk => by have := (HO4.out.lt k hk).1; omega
    have HS4 := Lib.hid hs4
    have HH4 := Lib.hid ho4
    clear hs4 ho4
    go_wp2_with fail
    refine ⟨by simp, .inl ⟨_, _, rfl, run_takeDeferred HD.out, ?_⟩⟩
    refine ⟨_, results_scan Tryz.results40 rfl rfl rfl ((HP.out.cell (p := ⟨w.heap.size, 0, none⟩) (Nat.lt_of_le_of_lt (Nat.le_add_right _ 6) HS4.out) (by simp)).trans r0) ((HP.out.cell (p := ⟨w.heap.size + 1, 0, none⟩) (Nat.lt_trans (by simp) HS4.out) (by simp)).trans r1) ((HP.out.cell (p := ⟨w.heap.size + 2, 0, none⟩) (Nat.lt_trans (by simp) HS4.out) (by simp)).trans r2), _, rfl, owns_base (HP.out.owns HO4.out HH4.out) (Nat.le_add_right _ 8), HB4.out.trans (HP.out.below (fun i hi => by omega) HB4.out.size)⟩
end Go.Proofs.YthggliknnmhbdaaGreat
