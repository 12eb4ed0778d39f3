/- Several texts in one: DkR. -/
import Derived.Test.YtmneflpjoaocbaaMWD
import Derived.Test.YtmneflpjoaocbaaMDkT
import Derived.RangeFuncNested
import Derived.RangeFuncBound
import Derived.RangeFuncCalls
import Derived.RangeFuncLeaves
import Derived.OwnWalkIn
import Derived.TacticsInMore
import Derived.LoopNIn
import Derived.LoopIn
import Derived.Deep.DeepCutAuto
/- A disk of sectors: what is read when nothing is loose. -/
namespace Go.Proofs.Ytmneflpjoaocbaa
set_option maxRecDepth 100000
open Go.RowKit Go.WideShapes Go.ChangeShapes
set_option linter.unusedVariables false
attribute [local simp] frOf dstsOf frGo predsHold allHold Region.binds slotOf seen Is Act.put
attribute [local go_sem] Oper.semAt_some
theorem backward_any (A : Option Addr) (n c : Nat) (w : World) :
    Calls Try.prog 50 #[.slice A n c] w fun e w' => e = .returned (.func (.func 63) #[] #[.pointer (some ⟨w.heap.size, 0, none⟩)]) ∧ w' = w.alloc (.cells #[.slice A n c] 67) := by
  go_enter Try.func50, Try.ntmps50
  go_wp2
  go_ret
  exact ⟨rfl, rfl⟩
theorem backward1_nil (A : Option Addr) (c : Nat) (x : Nat) (y : Value) (nn : Nat) (W : World) (h : W.cell? ⟨x, 0, none⟩ = some (.slice A 0 c)) :
    CallsIn Fence.wide nn Try.prog 63 #[y, .pointer (some ⟨x, 0, none⟩)] W fun e W' => (∃ v, e = .returned v) ∧ W' = W := by
  refine callsIn_of_wp Try.func63 rfl trivial ?_ rfl
  simp only [Try.ntmps63, List.size_toArray, List.length_cons, List.length_nil, Nat.reduceAdd, Nat.reduceSub, Array.replicate_succ, Array.replicate_zero, List.push_toArray, List.append_toArray, List.nil_append, List.cons_append]
  refine wpIn_wide.2 ?_
  go_wp2_with fail
  go_loopw [3] (fun i wr => i = .int .i64 (-1) ∧ wr = W) (fun i _ => 0)
  case atStart => exact ⟨rfl, rfl⟩
  case round =>
    obtain ⟨rfl, rfl⟩ := hrel
    go_wp2_with fail
    go_end0
    exact ⟨⟨_, rfl⟩, rfl⟩
theorem zeroBr : (Try.prog.info? 71).map (fun i => (i.zero, i.size)) = some (some zeroB, 128) := by kernel_rfl
theorem zeroB_size : zeroB.cells.size = 128 := by kernel_rfl
theorem strOf_bytes (w : World) (b : Nat) (t : List UInt8) (ht : t.length = 128) (h : Blk w b 71 (t.map byteV).toArray) : ∀ dst, Try.prog.underlying dst = some .string → (convert 64 dst (.slice (some ⟨b, 0, none⟩) 128 128)).run Try.prog w = .ok (.string ⟨t.toArray⟩) w := by
  intro dst hd
  have hc := run_convert_bytes_arg (P := Try.prog) w 64 5 Try.underlying64 Try.underlying5 b 0 128 128 (t.map (fun c : UInt8 => (c.toNat : Int))) (by simp [ht]) (fun i hi => by
    rw [Nat.zero_add, h.cell]
    simp [List.getD, ht, hi, byteV]) dst hd
  have e : strOfNums (t.map (fun c : UInt8 => (c.toNat : Int))) = ⟨t.toArray⟩ := by
    unfold strOfNums
    rw [List.map_map]
    congr 2
    exact (List.map_congr_left (fun c _ => by simp)).trans (List.map_id t)
  rw [e] at hc
  exact hc
def RSt (W3 W4 W5 : World) (ld : Nat → Bool) (y : World) : Prop := (ld 8 = true → ld 7 = true) ∧ (if ld 8 = true then y = W5 else if ld 7 = true then y = W4 else y = W3)
def St5 (W2 : World) (ld : Nat → Bool) (y : World) : Prop := y = W2
set_option maxHeartbeats 4000000 in
set_option maxRecDepth 100000 in
theorem read_any (p gs n : Nat) (g : List (List UInt8)) (B m k : Nat) (t : List UInt8) (w : World) (D : DkS w p gs n ⟨g, [], none⟩ B m) (hk : k < n) (ht : g[k]? = some t) :
    Calls Try.prog 35 #[.pointer (some ⟨p, 0, none⟩), .int .i64 (k : Int)] w fun e w' => e = .returned (.tuple #[.string ⟨t.toArray⟩, .int .i64 0]) ∧ DkS w' p gs n ⟨g, [], none⟩ B m ∧ Only (fun _ => False) w w' := by
  have D0 := D
  obtain ⟨⟨h1, h2, h3, h4⟩, A, c, fb, left, D, hl, hr, f1, f2⟩ := D
  obtain rfl : fb = false := f1 rfl
  have htl : t.length = 128 := D.ok.all t (List.mem_of_getElem? ht)
  obtain ⟨hzv, hzi⟩ := zero_of_info zeroBr
  obtain ⟨bk, hbk⟩ : ∃ bk, bk = w.heap.size := ⟨_, rfl⟩
  obtain ⟨wa, hwa⟩ : ∃ wa, wa = w.alloc (.cells #[.int .i64 (k : Int)] 3) := ⟨_, rfl⟩
  have oa : Only (fun _ => False) w wa := by rw [hwa]; exact (Only.refl _ w).alloc _
  have ba : Blk wa bk 3 #[.int .i64 (k : Int)] := by rw [hwa, hbk]; exact Blk.new w _ _
  have da : Blk wa p 69 #[.slice (some ⟨gs, 0, none⟩) n n, .slice A 0 c, .bool false, .int .i64 left] := oa.blk D.blk (fun h => h)
  have sa : Blk wa gs 71 (secL g).toArray := oa.blk D.sec (fun h => h)
  have HA := Lib.hid oa
  have HBK := Lib.hid ba
  have HDA := Lib.hid da
  have HSA := Lib.hid sa
  have H0 := Lib.hid D0
  have HALL := Lib.hid D.ok
  have HT := Lib.hid ht
  have HTL := Lib.hid htl
  clear D D0 oa ba da sa ht htl
  refine (callsIn_wide (n := 3)).1 ?_
  refine callsIn_of_wp_marks Try.func35 rfl trivial ?_ rfl
  simp only [Try.ntmps35, List.size_toArray, List.length_cons, List.length_nil, Nat.reduceAdd, Nat.reduceSub, Array.replicate_succ, Array.replicate_zero, List.push_toArray, List.append_toArray, List.nil_append, List.cons_append]
  refine wpIn_wide.2 ?_
  go_wp2_with fail
  rw [← hwa, ← hbk]
  have HWA := Lib.hid hwa
  have HKB := Lib.hid hbk
  clear hwa hbk
  refine (none_any _ _ _ _ _ _ _ _ HDA.out).mono ?_
  rintro e w1 ⟨rfl, rfl⟩
  go_wp2_with fail
  refine (still_any _ _ _ _ _ _ HDA.out).mono ?_
  rintro e w1 ⟨rfl, rfl⟩
  rw [Bool.false_and]
  obtain ⟨W2, hW2⟩ : ∃ W2, W2 = wa.drew := ⟨_, rfl⟩
  have q0 : Hid (W2.cell? ⟨bk, 0, none⟩ = some (.int .i64 (k : Int))) := Lib.hid (by rw [hW2]; exact HBK.out.cell 0)
  have q1 : Hid (W2.cell? ⟨p, 0, none⟩ = some (.slice (some ⟨gs, 0, none⟩) n n)) := Lib.hid (by rw [hW2]; exact HDA.out.cell 0)
  have HW2 := Lib.hid hW2
  clear hW2
  have hk0 : ¬ (k : Int) < 0 := by omega
  have hkn : (k : Int) < (n : Int) := by omega
  have hkn' : ¬ (k : Int) ≥ (n : Int) := by omega
  go_wp2_with fail
  refine wp_region_st (by kernel_rfl) (St5 W2) [Is (.int .i64 (k : Int)), Is (.bool false), Is (.bool false), Is (.int .i64 (k : Int)), Is (.pointer (some ⟨p, 0, none⟩)), Is (.pointer (some ⟨p, 0, none⟩)), Is (.pointer (some ⟨p, 0, none⟩)), Is (.slice (some ⟨gs, 0, none⟩) n n), Is (.int .i64 (n : Int)), Is (.bool false), Is (.bool false), Is (.bool false)] (by kernel_rfl)
    ⟨is_stab _ _, is_stab _ _, is_stab _ _, is_stab _ _, is_stab _ _, is_stab _ _, is_stab _ _, is_stab _ _, is_stab _ _, is_stab _ _, is_stab _ _, is_stab _ _, trivial⟩ (HW2.out.symm) ⟨?_, ?_, ?_, ?_, ?_, ?_, ?_, ?_, ?_, ?_, ?_, ?_, trivial⟩ ?_
  · intro ld u w1 hi he hS hp K hK
    refine ord_plain rfl ?_
    simp at hp hK ⊢
    have hc : w1.cell? ⟨bk, 0, none⟩ = some (.int .i64 (k : Int)) := by rw [show w1 = W2 from hS]; exact q0.out
    go_simp
    exact hK _ _ hS rfl
  · intro ld u w1 hi he hS hp K hK
    refine ord_plain rfl ?_
    simp at hp hK ⊢
    simp only [hp] at hK
    go_simp
    exact hK _ _ hS rfl
  · intro ld u w1 hi he hS hp K hK
    refine ord_plain rfl ?_
    simp at hp hK ⊢
    simp only [hp] at hK
    go_simp
    exact hK _ _ hS rfl
  · intro ld u w1 hi he hS hp K hK
    simp at hp hK
    refine ord_guard rfl (by simp [yielded, hp]) ?_
    simp only [hp] at hK
    have hc : w1.cell? ⟨bk, 0, none⟩ = some (.int .i64 (k : Int)) := by rw [show w1 = W2 from hS]; exact q0.out
    go_simp
    exact hK _ _ hS rfl
  · intro ld u w1 hi he hS hp K hK
    simp at hp hK
    refine ord_guard rfl (by simp [yielded, hp]) ?_
    simp only [hp] at hK
    go_simp
    exact hK _ _ hS rfl
  · intro ld u w1 hi he hS hp K hK
    simp at hp hK
    refine ord_guard rfl (by simp [yielded, hp]) ?_
    obtain ⟨hp1, hp2⟩ := hp
    simp only [hp1, hp2] at hK
    go_simp
    exact hK _ _ hS rfl
  · intro ld u w1 hi he hS hp K hK
    simp at hp hK
    refine ord_guard rfl (by simp [yielded, hp]) ?_
    obtain ⟨hp1, hp2⟩ := hp
    simp only [hp1, hp2] at hK
    go_simp
    exact hK _ _ hS rfl
  · intro ld u w1 hi he hS hp K hK
    simp at hp hK
    refine ord_guard rfl (by simp [yielded, hp]) ?_
    obtain ⟨hp1, hp2⟩ := hp
    simp only [hp1, hp2] at hK
    have hc : w1.cell? ⟨p, 0, none⟩ = some (.slice (some ⟨gs, 0, none⟩) n n) := by rw [show w1 = W2 from hS]; exact q1.out
    go_simp
    exact hK _ _ hS rfl
  · intro ld u w1 hi he hS hp K hK
    simp at hp hK
    refine ord_guard rfl (by simp [yielded, hp]) ?_
    obtain ⟨hp1, hp2⟩ := hp
    simp only [hp1, hp2] at hK
    go_simp
    exact hK _ _ hS rfl
  · intro ld u w1 hi he hS hp K hK
    simp at hp hK
    refine ord_guard rfl (by simp [yielded, hp]) ?_
    obtain ⟨hp1, hp2, hp3⟩ := hp
    simp only [hp1, hp2, hp3] at hK
    go_simp
    exact hK _ _ hS (by simp; omega)
  · intro ld u w1 hi he hS hp K hK
    refine ord_plain rfl ?_
    simp at hp hK ⊢
    obtain ⟨hp1, hp2⟩ := hp
    simp only [hp1, hp2] at hK
    go_simp
    exact hK _ _ hS rfl
  · intro ld u w1 hi he hS hp K hK
    refine ord_plain rfl ?_
    simp at hp hK ⊢
    obtain ⟨hp1, hp2⟩ := hp
    simp only [hp1, hp2] at hK
    go_simp
    exact hK _ _ hS rfl
  · intro u w1 ld hld hS hp
    simp at hp ⊢
    obtain ⟨g0, g1, g2, g3, g4, g5, g6, g7, g8, g9, g10, g11⟩ := hp
    simp only [g0, g1, g2, g3, g4, g5, g6, g7, g8, g9, g10, g11]
    clear g0 g1 g2 g3 g4 g5 g6 g7 g8 g9 g10 g11
    have hS3 : W2 = w1 := Eq.symm hS
    subst hS3
    clear hld
    go_wp2_with fail
    obtain ⟨W3, hW3⟩ : ∃ W3, W3 = W2.drew := ⟨_, rfl⟩
    have o3 : Only (fun _ => False) wa W3 := by rw [hW3, HW2.out]; exact (Only.refl _ wa).drew.drew
    have bs3 : Blk W3 gs 71 (secL g).toArray := o3.blk HSA.out (fun h => h)
    have q2 : Hid (W3.cell? ⟨bk, 0, none⟩ = some (.int .i64 (k : Int))) := Lib.hid ((o3.blk HBK.out (fun h => h)).cell 0)
    have q3 : Hid (W3.cell? ⟨p, 0, none⟩ = some (.slice (some ⟨gs, 0, none⟩) n n)) := Lib.hid ((o3.blk HDA.out (fun h => h)).cell 0)
    have hld : ∀ y, Only (fun _ => False) W3 y → (Instr.loadAt 71 (.pointer (some ⟨gs, k * 128, none⟩))).run Try.prog y = .ok (.agg (t.map byteV).toArray) y := fun y hy =>
      run_loadAt_mid y gs (k * 128) 71 (t.map byteV) _ (sec_range (hy.blk bs3 (fun h => h)) HALL.out.all HT.out) Try.underlying71 rfl (by rw [List.length_map, HTL.out]; exact (show (Try.prog.info? 71).map (·.size) = some 128 by kernel_rfl))
    have hst := run_storeAt_new (P := Try.prog) W3 71 zeroB.cells (t.map byteV).toArray (by simp only [List.size_toArray, List.length_map, HTL.out]; exact hzi) (by simp only [List.size_toArray, List.length_map, HTL.out]; exact zeroB_size) (all_oneCell_toArray (byteV_one t))
    obtain ⟨W4, hW4⟩ : ∃ W4, W4 = W3.alloc (.cells zeroB.cells 71) := ⟨_, rfl⟩
    obtain ⟨W5, hW5⟩ : ∃ W5, W5 = W3.alloc (.cells (t.map byteV).toArray 71) := ⟨_, rfl⟩
    rw [← hW4, ← hW5] at hst
    have O4 : Hid (Only (fun _ => False) W3 W4) := Lib.hid (by rw [hW4]; exact (Only.refl _ W3).alloc _)
    have O5 : Hid (Only (fun _ => False) W3 W5) := Lib.hid (by rw [hW5]; exact (Only.refl _ W3).alloc _)
    have HLTp : Hid (p < W3.heap.size) := Lib.hid (by have := HDA.out.lt; have := o3.size; omega)
    have HLTbk : Hid (bk < W3.heap.size) := Lib.hid (by have := HBK.out.lt; have := o3.size; omega)
    have HBS : Hid (Blk W5 W3.heap.size 71 (t.map byteV).toArray) := Lib.hid (by rw [hW5]; exact Blk.new W3 _ _)
    have HW4 := Lib.hid hW4
    have q5 : Hid (W5.cell? ⟨p, 1, none⟩ = some (.slice A 0 c)) := Lib.hid ((O5.out.cell (p := ⟨p, 1, none⟩) HLTp.out (fun h => h)).trans ((o3.blk HDA.out (fun h => h)).cell 1))
    have HZ5 : Hid (W5.heap.size = W3.heap.size + 1) := Lib.hid (by rw [hW5]; simp)
    clear hW4 hW5
    have HLD := Lib.hid hld
    have HST := Lib.hid hst
    have HO3 := Lib.hid o3
    have HW3 := Lib.hid hW3
    clear hld hst o3 bs3 hW3
    go_wp2_with fail
    refine wp_region_st (by kernel_rfl) (RSt W3 W4 W5) [Is (.pointer (some ⟨p, 0, none⟩)), Is (.pointer (some ⟨p, 0, none⟩)), Is (.pointer (some ⟨p, 0, none⟩)), Is (.slice (some ⟨gs, 0, none⟩) n n), Is (.int .i64 (k : Int)), Is (.pointer (some ⟨gs, k * 128, none⟩)), Is (.agg (t.map byteV).toArray), Is (.pointer (some ⟨W3.heap.size, 0, none⟩)), fun _ _ => True] (by kernel_rfl)
      ⟨is_stab _ _, is_stab _ _, is_stab _ _, is_stab _ _, is_stab _ _, is_stab _ _, is_stab _ _, is_stab _ _, (fun _ _ _ _ _ => trivial), trivial⟩ (by simp [RSt]; exact HW3.out.symm) ⟨?_, ?_, ?_, ?_, ?_, ?_, ?_, ?_, ?_, trivial⟩ ?_
    · intro ld u w1 hi he hS hp K hK
      refine ord_plain rfl ?_
      simp at hp hK ⊢
      go_simp
      exact hK _ _ (by simpa [RSt, ldW] using hS) rfl
    · intro ld u w1 hi he hS hp K hK
      refine ord_plain rfl ?_
      simp at hp hK ⊢
      simp only [hp] at hK
      go_simp
      exact hK _ _ (by simpa [RSt, ldW] using hS) rfl
    · intro ld u w1 hi he hS hp K hK
      refine ord_plain rfl ?_
      simp at hp hK ⊢
      simp only [hp] at hK
      go_simp
      exact hK _ _ (by simpa [RSt, ldW] using hS) rfl
    · intro ld u w1 hi he hS hp K hK
      refine ord_plain rfl ?_
      simp at hp hK ⊢
      simp only [hp] at hK
      have ho : Only (fun _ => False) W3 w1 := (by obtain ⟨s1, s2⟩ := hS; by_cases h8 : ld 8 = true <;> by_cases h7 : ld 7 = true <;> simp [h7, h8] at s1 s2 <;> subst s2 <;> first | exact Only.refl _ _ | exact O4.out | exact O5.out)
      have hc := (ho.cell (p := ⟨p, 0, none⟩) HLTp.out (fun h => h)).trans q3.out
      go_simp
      exact hK _ _ (by simpa [RSt, ldW] using hS) rfl
    · intro ld u w1 hi he hS hp K hK
      refine ord_plain rfl ?_
      simp at hp hK ⊢
      have ho : Only (fun _ => False) W3 w1 := (by obtain ⟨s1, s2⟩ := hS; by_cases h8 : ld 8 = true <;> by_cases h7 : ld 7 = true <;> simp [h7, h8] at s1 s2 <;> subst s2 <;> first | exact Only.refl _ _ | exact O4.out | exact O5.out)
      have hc := (ho.cell (p := ⟨bk, 0, none⟩) HLTbk.out (fun h => h)).trans q2.out
      go_simp
      exact hK _ _ (by simpa [RSt, ldW] using hS) rfl
    · intro ld u w1 hi he hS hp K hK
      refine ord_plain rfl ?_
      simp at hp hK ⊢
      obtain ⟨hp1, hp2⟩ := hp
      simp only [hp1, hp2] at hK
      go_simp
      exact hK _ _ (by simpa [RSt, ldW] using hS) rfl
    · intro ld u w1 hi he hS hp K hK
      refine ord_plain rfl ?_
      simp at hp hK ⊢
      have ho : Only (fun _ => False) W3 w1 := (by obtain ⟨s1, s2⟩ := hS; by_cases h8 : ld 8 = true <;> by_cases h7 : ld 7 = true <;> simp [h7, h8] at s1 s2 <;> subst s2 <;> first | exact Only.refl _ _ | exact O4.out | exact O5.out)
      refine wp_load_by 71 (.tmp 32) rfl hp (HLD.out w1 ho) ?_
      exact hK _ _ (by simpa [RSt, ldW] using hS) rfl
    · intro ld u w1 hi he hS hp K hK
      refine ord_plain rfl ?_
      simp at hp hK ⊢
      obtain ⟨s1, s2⟩ := hS
      have h8 : ld 8 = false := by cases h : ld 8 with | false => rfl | true => (have := s1 h; simp [hi] at this)
      simp [hi, h8] at s2
      have s3 := s2.symm
      subst s3
      have hw4 := HW4.out
      go_simp
      exact hK _ _ (by simp [RSt, ldW, h8]; exact hw4.symm) rfl
    · intro ld u w1 hi he hS hp K hK
      refine ord_plain rfl ?_
      simp at hp hK ⊢
      obtain ⟨hp1, hp2, hp3, hp4, hp5, hp6, hp7, hp8, hp9, hp10⟩ := hp
      obtain ⟨s1, s2⟩ := hS
      have h7 : ld 7 = true := by simp [edgesDone] at he; simp [he]
      simp [hi, h7] at s2
      have s3 := s2.symm
      subst s3
      refine wp_store_by 71 (.tmp 6) (.tmp 33) rfl hp1 hp2 HST.out ?_
      exact hK _ (by simp [RSt, ldW, h7])
    · intro u w1 ld hld hS hp
      simp at hp ⊢
      have h8 := hld 8 (by decide)
      obtain ⟨_, s2⟩ := hS
      simp [h8] at s2
      have s3 := s2.symm
      subst s3
      obtain ⟨g0, g1, g2, g3, g4, g5, g6, g7⟩ := hp
      simp only [g0, g1, g2, g3, g4, g5, g6, g7]
      clear g0 g1 g2 g3 g4 g5 g6 g7
      clear hld
      have q6 := q5.out
      go_wp2_with fail
      refine (backward_any _ _ _ _).mono ?_
      rintro e w6 ⟨rfl, rfl⟩
      obtain ⟨W6, hW6⟩ : ∃ W6, W6 = W5.alloc (.cells #[.slice A 0 c] 67) := ⟨_, rfl⟩
      rw [← hW6]
      have b6 : Blk W6 W5.heap.size 67 #[.slice A 0 c] := by rw [hW6]; exact Blk.new W5 _ _
      have o6 : Only (fun _ => False) W5 W6 := by rw [hW6]; exact (Only.refl _ W5).alloc _
      have H6 := Lib.hid b6
      have O6 := Lib.hid o6
      clear hW6 b6 o6 q6
      go_wp2_with fail
      refine (wpIn_wide (n := 3)).1 (wp_rangeFunc_wide (gf := 63) (lb := #[.pointer (some ⟨W5.heap.size, 0, none⟩)]) rfl (enters_of Try.func63 (by kernel_rfl) rfl) ?_)
      intro rec r1 r2 r3 r4 r5 r6
      obtain ⟨Wy, hWy⟩ : ∃ Wy, Wy = (W6.alloc (.deferred (some []))).alloc (.loop rec) := ⟨_, rfl⟩
      have oy : Only (fun _ => False) W6 Wy := by rw [hWy]; exact ((Only.refl _ W6).alloc _).alloc _
      have hd : Wy.heap[W6.heap.size]? = some (.deferred (some [])) := by rw [hWy]; exact (Below.heap_alloc _ _ _ (by simp)).trans (World.alloc_heap_new W6 _)
      have hr : Wy.heap[W6.heap.size + 1]? = some (.loop rec) := by
        have := World.alloc_heap_new (W6.alloc (.deferred (some []))) (.loop rec)
        rw [hWy]; simpa using this
      rw [← hWy]
      clear hWy
      refine (backward1_nil A c W5.heap.size _ 2 Wy ((oy.blk H6.out (fun h => h)).cell 0)).mono ?_
      rintro e Wz ⟨⟨v, rfl⟩, rfl⟩
      have hend := run_endLoop (P := Try.prog) hr (by rw [r1]; simp)
      have hend' : (Instr.endLoop (W6.heap.size + 1)).run Try.prog Wz = .ok none (Wz.putObj (W6.heap.size + 1) (.loop { rec with state := .exhausted })) := hend.trans (by rw [r2])
      refine ⟨none, _, hend', ?_⟩
      clear hend'
      have o7 := only_put Wz (W6.heap.size + 1) (.loop { rec with state := .exhausted })
      generalize Wz.putObj (W6.heap.size + 1) (.loop { rec with state := .exhausted }) = W7 at *
      have hd7 : W7.heap[W6.heap.size]? = some (.deferred (some [])) := (o7.block _ (Array.getElem?_eq_some_iff.1 hd).1 (by omega)).trans hd
      have o67 : Only (fun _ => False) W6 W7 := oy.trans' o7 (fun i hi => .inr (by omega))
      have b7 : Blk W7 W3.heap.size 71 (t.map byteV).toArray := o67.blk (O6.out.blk HBS.out (fun h => h)) (fun h => h)
      have hcv := strOf_bytes W7 W3.heap.size t HTL.out b7 9 Try.underlying9
      have H7 := Lib.hid hd7
      have O7 := Lib.hid o67
      clear hd hr hend o7 hd7 o67 b7 oy r1 r2 r3 r4 r5 r6
      go_wp2_with fail
      have hall : Only (fun _ => False) w W7 := (((HA.out.trans HO3.out).trans O5.out).trans O6.out).trans O7.out
      have hz6 : w.heap.size ≤ W6.heap.size := (((HA.out.trans HO3.out).trans O5.out).trans O6.out).size
      have hfin : Only (fun _ => False) w (W7.putObj W6.heap.size (.deferred none)) := hall.trans' (only_put W7 W6.heap.size (.deferred none)) (fun i hi => .inr (by omega))
      refine ⟨by simp, .inl ⟨_, _, rfl, run_takeDeferred H7.out, ?_⟩⟩
      refine ⟨_, ?res, rfl, H0.out.only hfin, hfin⟩
      case res => simp [results, Try.results35, go_sem]
end Go.Proofs.Ytmneflpjoaocbaa
