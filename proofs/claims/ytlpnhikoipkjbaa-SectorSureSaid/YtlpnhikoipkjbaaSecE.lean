/- What a crash keeps of a loose write, and what a sync does. -/
import Derived.Test.YtlpnhikoipkjbaaSecD
import Derived.Test.YtlpnhikoipkjbaaSecP
import Derived.Test.YtlpnhikoipkjbaaSt
import Derived.Laws.CopyRow
namespace Go.Proofs.Ytlpnhikoipkjbaa
open Go.RowKit Go.WideShapes Go.ChangeShapes
set_option linter.unusedVariables false
attribute [local simp] frOf dstsOf frGo predsHold allHold Region.binds slotOf seen Is Act.put
def byteV (c : UInt8) : Value := .int .u8 (c.toNat : Int)
def secL (g : List (List UInt8)) : List Value := g.flatten.map byteV
def wrL (w : Nat × List UInt8) : List Value := .int .i64 (w.1 : Int) :: w.2.map byteV
theorem setRow_other (w : World) (g k : Nat) (Y : Array Value) (h : k ≠ g) : (w.setRow g Y).heap[k]? = w.heap[k]? := by
  simp only [World.setRow, Array.getElem?_modify]
  rw [if_neg (fun e => h e.symm)]
theorem only_setRow (w : World) (g : Nat) (Y : Array Value) : Only (fun b => b = g) w (w.setRow g Y) := ⟨rfl, rfl, rfl, by simp [World.setRow], fun k _ h => setRow_other w g k Y h⟩
theorem Blk.setRow_ {w : World} {g : Nat} {t : TypeId} {X : Array Value} (h : Blk w g t X) (Y : Array Value) : Blk (w.setRow g Y) g t Y := setRow_heap w g X Y t (0, 0) h
theorem byteV_one (l : List UInt8) : ∀ v ∈ l.map byteV, v.oneCell' = true := by
  intro v hv
  obtain ⟨c, _, rfl⟩ := List.mem_map.1 hv
  rfl
theorem addr_plus (k o n : Nat) : (⟨k, o, none⟩ : Addr).add n = ⟨k, o + n, none⟩ := by unfold Addr.add; split <;> simp_all
theorem sizeU8 : (Try.prog.info? 5).map (·.size) = some 1 := by kernel_rfl
theorem keep_yesA (gs n k : Nat) (m : Nat) (txt : List UInt8) (X YL : List Value) (w : World) (hm : 1 ≤ m) (hm2 : m ≤ 128) (hYL : YL = X.take (k * 128) ++ (txt.take m).map byteV ++ X.drop (k * 128 + m)) (hk : k < n) (hn : n ≤ 4096) (ht : txt.length = 128)
    (hb : Blk w gs 52 X.toArray) (hX : X.length = n * 128) :
    Calls Try.prog 21 #[.slice (some ⟨gs, 0, none⟩) n n, .agg (wrL (k, txt)).toArray, .int .i64 m] w fun e w' => e = .returned (.tuple #[]) ∧
      Blk w' gs 52 YL.toArray ∧ Only (fun b => b = gs) w w' := by
  have hpos : (0 : Int) < (m : Int) := by omega
  have hm0 : (0 : Int) ≤ (m : Int) := by omega
  have hm1 : (m : Int) ≤ 128 := by omega
  have hk0 : (0 : Int) ≤ (k : Int) := by omega
  have hk1 : (k : Int) < (n : Int) := by omega
  have hgs := hb.lt
  obtain ⟨W, hW⟩ : ∃ W, W = (w.alloc (.cells (wrL (k, txt)).toArray 54)).drew := ⟨_, rfl⟩
  obtain ⟨Y, hY⟩ : ∃ Y : Array Value, Y = YL.toArray := ⟨_, rfl⟩
  have hbW : Blk W gs 52 X.toArray := by rw [hW]; exact (hb.alloc _).drew
  have hOW : Only (fun b => b = gs) w W := by rw [hW]; exact ((Only.refl _ w).alloc _).drew
  have hnew : Blk W w.heap.size 54 (wrL (k, txt)).toArray := by rw [hW]; exact (Blk.new w _ _).drew
  have hfit : k * 128 + m ≤ X.length := by rw [hX]; omega
  have hcopy : ∀ ty, (Builtin.copy_ #[55, 55] ty #[.slice (some ⟨gs, k * 128, none⟩) m 128, .slice (some ⟨w.heap.size, 1, none⟩) m 128]).run Try.prog W = .ok (.int .i64 m) (W.setRow gs Y) := by
    intro ty
    have hsrc : ∀ j v, ((txt.take m).map byteV)[j]? = some v → W.cell? ((⟨w.heap.size, 1, none⟩ : Addr).add j) = some v := by
      intro j v hv
      rw [addr_plus, hnew.cell]
      simp only [wrL, List.getElem?_toArray]
      rw [show 1 + j = j + 1 by omega, List.getElem?_cons_succ]
      rw [List.getElem?_map] at hv ⊢
      rw [List.getElem?_take] at hv
      split at hv
      · exact hv
      · cases hv
    have hlen : ((txt.take m).map byteV).length = Nat.min m m := by simp [ht] <;> omega
    have hgo : (goInt ((txt.take m).map byteV).length) = Value.int .i64 m := by rw [hlen]; simp [goInt]
    have := run_copy_row (P := Try.prog) W 55 55 ty 5 gs (k * 128) m 128 ⟨w.heap.size, 1, none⟩ m 128 X.toArray 52 ((txt.take m).map byteV) Try.underlying55 sizeU8 hbW hlen hsrc (by rw [hlen]; simpa using hfit) (byteV_one _)
    rw [this, hgo]
    congr 2
    rw [hY, hYL]
    simp [ht]
    rw [show min m 128 = m by omega]
  have hload : ∀ w1, w1 = W ∨ w1 = W.setRow gs Y → w1.cell? ⟨w.heap.size, 0, none⟩ = some (.int .i64 k) := by
    intro w1 hR
    have hc : Blk w1 w.heap.size 54 (wrL (k, txt)).toArray := by
      rcases hR with rfl | rfl
      · exact hnew
      · exact (setRow_other W gs _ Y (by omega)).trans hnew
    rw [hc.cell]
    rfl
  have hfin : Blk (W.setRow gs Y) gs 52 YL.toArray ∧ Only (fun b => b = gs) w (W.setRow gs Y) := by
    refine ⟨?_, hOW.trans (only_setRow W gs Y)⟩
    rw [← hY]
    exact hbW.setRow_ Y
  have HF := Lib.hid hfin
  have HW := Lib.hid hW
  clear hfin hbW hOW hnew hY hYL hb hX ht hfit hW
  go_enter Try.func21, Try.ntmps21
  go_wp2_with fail
  have hdp : decide (0 < m) = true := by simp; omega
  refine wp_region_st (by kernel_rfl) (fun ld x => if ld 9 = true then x = W.setRow gs Y else x = W) [Is (.slice (some ⟨gs, 0, none⟩) n n), Is (.pointer (some ⟨w.heap.size, 0, none⟩)), Is (.int .i64 k), Is (.pointer (some ⟨gs, k * 128, none⟩)), Is (.int .i64 m), Is (.slice (some ⟨gs, k * 128, none⟩) m 128), Is (.pointer (some ⟨w.heap.size, 1, none⟩)), Is (.int .i64 m), Is (.slice (some ⟨w.heap.size, 1, none⟩) m 128), fun _ _ => True] (by kernel_rfl)
    ⟨is_stab _ _, is_stab _ _, is_stab _ _, is_stab _ _, is_stab _ _, is_stab _ _, is_stab _ _, is_stab _ _, is_stab _ _, (fun _ _ _ _ _ => trivial), trivial⟩ (by simp; exact HW.out.symm) ⟨?_, ?_, ?_, ?_, ?_, ?_, ?_, ?_, ?_, ?_, trivial⟩ ?_
  · intro ld u w1 hi he hS hp K hK
    refine ord_plain rfl ?_
    simp at hp hK ⊢
    simp only [hdp] at hK
    go_simp
    exact hK _ _ (by simpa [ldW] using hS) rfl
  · intro ld u w1 hi he hS hp K hK
    refine ord_plain rfl ?_
    simp at hp hK ⊢
    simp only [hdp] at hK
    go_simp
    exact hK _ _ (by simpa [ldW] using hS) rfl
  · intro ld u w1 hi he hS hp K hK
    refine ord_plain rfl ?_
    simp at hp hK ⊢
    simp only [hdp] at hK
    simp only [hp] at hK
    have hc := hload w1 (by by_cases h9 : ld 9 = true <;> simp [h9] at hS <;> simp [hS])
    go_simp
    exact hK _ _ (by simpa [ldW] using hS) rfl
  · intro ld u w1 hi he hS hp K hK
    refine ord_plain rfl ?_
    simp at hp hK ⊢
    simp only [hdp] at hK
    obtain ⟨hp1, hp2⟩ := hp
    simp only [hp1, hp2] at hK
    go_simp
    exact hK _ _ (by simpa [ldW] using hS) rfl
  · intro ld u w1 hi he hS hp K hK
    refine ord_plain rfl ?_
    simp at hp hK ⊢
    simp only [hdp] at hK
    go_simp
    exact hK _ _ (by simpa [ldW] using hS) rfl
  · intro ld u w1 hi he hS hp K hK
    refine ord_plain rfl ?_
    simp at hp hK ⊢
    simp only [hdp] at hK
    obtain ⟨hp1, hp2⟩ := hp
    simp only [hp1, hp2] at hK
    go_simp
    exact hK _ _ (by simpa [ldW] using hS) rfl
  · intro ld u w1 hi he hS hp K hK
    refine ord_plain rfl ?_
    simp at hp hK ⊢
    simp only [hdp] at hK
    go_simp
    exact hK _ _ (by simpa [ldW] using hS) rfl
  · intro ld u w1 hi he hS hp K hK
    refine ord_plain rfl ?_
    simp at hp hK ⊢
    simp only [hdp] at hK
    go_simp
    exact hK _ _ (by simpa [ldW] using hS) rfl
  · intro ld u w1 hi he hS hp K hK
    refine ord_plain rfl ?_
    simp at hp hK ⊢
    simp only [hdp] at hK
    obtain ⟨hp1, hp2⟩ := hp
    simp only [hp1, hp2] at hK
    go_simp
    exact hK _ _ (by simpa [ldW] using hS) rfl
  · intro ld u w1 hi he hS hp K hK
    refine ord_plain rfl ?_
    simp at hp hK ⊢
    simp only [hdp] at hK
    obtain ⟨hp1, hp2⟩ := hp
    simp only [hp1, hp2] at hK
    simp [hi] at hS
    subst hS
    go_simp
    refine hK _ _ ?_
    simp [ldW]
  · intro u w1 ld hld hS hp
    simp at hp ⊢
    have h9 := hld 9 (by decide)
    simp [h9] at hS
    subst hS
    go_wp2
    go_end0
    exact ⟨rfl, HF.out⟩
theorem keep_yesB (gs n k : Nat) (txt : List UInt8) (X YL : List Value) (N : Int) (w : World) (hN : 128 < N) (hYL : YL = X.take (k * 128) ++ (txt.take 128).map byteV ++ X.drop (k * 128 + 128)) (hk : k < n) (hn : n ≤ 4096) (ht : txt.length = 128)
    (hb : Blk w gs 52 X.toArray) (hX : X.length = n * 128) :
    Calls Try.prog 21 #[.slice (some ⟨gs, 0, none⟩) n n, .agg (wrL (k, txt)).toArray, .int .i64 N] w fun e w' => e = .returned (.tuple #[]) ∧
      Blk w' gs 52 YL.toArray ∧ Only (fun b => b = gs) w w' := by
  have hpos : (0 : Int) < (128 : Int) := by omega
  have hm0 : (0 : Int) ≤ (128 : Int) := by omega
  have hm1 : (128 : Int) ≤ 128 := by omega
  have hk0 : (0 : Int) ≤ (k : Int) := by omega
  have hk1 : (k : Int) < (n : Int) := by omega
  have hgs := hb.lt
  obtain ⟨W, hW⟩ : ∃ W, W = (w.alloc (.cells (wrL (k, txt)).toArray 54)).drew := ⟨_, rfl⟩
  obtain ⟨Y, hY⟩ : ∃ Y : Array Value, Y = YL.toArray := ⟨_, rfl⟩
  have hbW : Blk W gs 52 X.toArray := by rw [hW]; exact (hb.alloc _).drew
  have hOW : Only (fun b => b = gs) w W := by rw [hW]; exact ((Only.refl _ w).alloc _).drew
  have hnew : Blk W w.heap.size 54 (wrL (k, txt)).toArray := by rw [hW]; exact (Blk.new w _ _).drew
  have hfit : k * 128 + 128 ≤ X.length := by rw [hX]; omega
  have hcopy : ∀ ty, (Builtin.copy_ #[55, 55] ty #[.slice (some ⟨gs, k * 128, none⟩) 128 128, .slice (some ⟨w.heap.size, 1, none⟩) 128 128]).run Try.prog W = .ok (.int .i64 128) (W.setRow gs Y) := by
    intro ty
    have hsrc : ∀ j v, ((txt.take 128).map byteV)[j]? = some v → W.cell? ((⟨w.heap.size, 1, none⟩ : Addr).add j) = some v := by
      intro j v hv
      rw [addr_plus, hnew.cell]
      simp only [wrL, List.getElem?_toArray]
      rw [show 1 + j = j + 1 by omega, List.getElem?_cons_succ]
      rw [List.getElem?_map] at hv ⊢
      rw [List.getElem?_take] at hv
      split at hv
      · exact hv
      · cases hv
    have hlen : ((txt.take 128).map byteV).length = Nat.min 128 128 := by simp [ht] <;> omega
    have hgo : (goInt ((txt.take 128).map byteV).length) = Value.int .i64 128 := by rw [hlen]; simp [goInt]
    have := run_copy_row (P := Try.prog) W 55 55 ty 5 gs (k * 128) 128 128 ⟨w.heap.size, 1, none⟩ 128 128 X.toArray 52 ((txt.take 128).map byteV) Try.underlying55 sizeU8 hbW hlen hsrc (by rw [hlen]; simpa using hfit) (byteV_one _)
    rw [this, hgo]
    congr 2
    rw [hY, hYL]
    simp [ht]
  have hload : ∀ w1, w1 = W ∨ w1 = W.setRow gs Y → w1.cell? ⟨w.heap.size, 0, none⟩ = some (.int .i64 k) := by
    intro w1 hR
    have hc : Blk w1 w.heap.size 54 (wrL (k, txt)).toArray := by
      rcases hR with rfl | rfl
      · exact hnew
      · exact (setRow_other W gs _ Y (by omega)).trans hnew
    rw [hc.cell]
    rfl
  have hfin : Blk (W.setRow gs Y) gs 52 YL.toArray ∧ Only (fun b => b = gs) w (W.setRow gs Y) := by
    refine ⟨?_, hOW.trans (only_setRow W gs Y)⟩
    rw [← hY]
    exact hbW.setRow_ Y
  have HF := Lib.hid hfin
  have HW := Lib.hid hW
  clear hfin hbW hOW hnew hY hYL hb hX ht hfit hW
  go_enter Try.func21, Try.ntmps21
  go_wp2_with fail
  refine wp_region_st (by kernel_rfl) (fun ld x => if ld 9 = true then x = W.setRow gs Y else x = W) [Is (.slice (some ⟨gs, 0, none⟩) n n), Is (.pointer (some ⟨w.heap.size, 0, none⟩)), Is (.int .i64 k), Is (.pointer (some ⟨gs, k * 128, none⟩)), Is (.int .i64 128), Is (.slice (some ⟨gs, k * 128, none⟩) 128 128), Is (.pointer (some ⟨w.heap.size, 1, none⟩)), Is (.int .i64 128), Is (.slice (some ⟨w.heap.size, 1, none⟩) 128 128), fun _ _ => True] (by kernel_rfl)
    ⟨is_stab _ _, is_stab _ _, is_stab _ _, is_stab _ _, is_stab _ _, is_stab _ _, is_stab _ _, is_stab _ _, is_stab _ _, (fun _ _ _ _ _ => trivial), trivial⟩ (by simp; exact HW.out.symm) ⟨?_, ?_, ?_, ?_, ?_, ?_, ?_, ?_, ?_, ?_, trivial⟩ ?_
  · intro ld u w1 hi he hS hp K hK
    refine ord_plain rfl ?_
    simp at hp hK ⊢
    go_simp
    exact hK _ _ (by simpa [ldW] using hS) rfl
  · intro ld u w1 hi he hS hp K hK
    refine ord_plain rfl ?_
    simp at hp hK ⊢
    go_simp
    exact hK _ _ (by simpa [ldW] using hS) rfl
  · intro ld u w1 hi he hS hp K hK
    refine ord_plain rfl ?_
    simp at hp hK ⊢
    simp only [hp] at hK
    have hc := hload w1 (by by_cases h9 : ld 9 = true <;> simp [h9] at hS <;> simp [hS])
    go_simp
    exact hK _ _ (by simpa [ldW] using hS) rfl
  · intro ld u w1 hi he hS hp K hK
    refine ord_plain rfl ?_
    simp at hp hK ⊢
    obtain ⟨hp1, hp2⟩ := hp
    simp only [hp1, hp2] at hK
    go_simp
    exact hK _ _ (by simpa [ldW] using hS) rfl
  · intro ld u w1 hi he hS hp K hK
    refine ord_plain rfl ?_
    simp at hp hK ⊢
    go_simp
    exact hK _ _ (by simpa [ldW] using hS) rfl
  · intro ld u w1 hi he hS hp K hK
    refine ord_plain rfl ?_
    simp at hp hK ⊢
    obtain ⟨hp1, hp2⟩ := hp
    simp only [hp1, hp2] at hK
    go_simp
    exact hK _ _ (by simpa [ldW] using hS) rfl
  · intro ld u w1 hi he hS hp K hK
    refine ord_plain rfl ?_
    simp at hp hK ⊢
    go_simp
    exact hK _ _ (by simpa [ldW] using hS) rfl
  · intro ld u w1 hi he hS hp K hK
    refine ord_plain rfl ?_
    simp at hp hK ⊢
    go_simp
    exact hK _ _ (by simpa [ldW] using hS) rfl
  · intro ld u w1 hi he hS hp K hK
    refine ord_plain rfl ?_
    simp at hp hK ⊢
    obtain ⟨hp1, hp2⟩ := hp
    simp only [hp1, hp2] at hK
    go_simp
    exact hK _ _ (by simpa [ldW] using hS) rfl
  · intro ld u w1 hi he hS hp K hK
    refine ord_plain rfl ?_
    simp at hp hK ⊢
    obtain ⟨hp1, hp2⟩ := hp
    simp only [hp1, hp2] at hK
    simp [hi] at hS
    subst hS
    go_simp
    refine hK _ _ ?_
    simp [ldW]
  · intro u w1 ld hld hS hp
    simp at hp ⊢
    have h9 := hld 9 (by decide)
    simp [h9] at hS
    subst hS
    go_wp2
    go_end0
    exact ⟨rfl, HF.out⟩
end Go.Proofs.Ytlpnhikoipkjbaa
