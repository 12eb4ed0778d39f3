/- Several texts in one: BkH. -/
import Derived.Test.YtmneflpjoaocbaaMBkG
/- Books: what a sector is to be: the closures of anew. No conditions beyond what each states. -/
namespace Go.Proofs.Ytmneflpjoaocbaa
open Go.RowKit
set_option linter.unusedVariables false
attribute [local simp] frOf dstsOf frGo predsHold allHold Region.binds slotOf seen Is Act.put
theorem slice_str_from {P : Program} (t : TypeId) (hu : P.underlying t = some .string) (s : ByteArray) (a : Nat) (h2 : a ≤ s.size) (w : World) :
    (Instr.slice t (.string s) (some (.int .i64 (a : Int))) none none).run P w = .ok (.string (s.extract a s.size)) w := by
  have h3 : (a : Int) ≤ (s.size : Int) := by omega
  simp [go_sem, hu, h3]
/-- the counts alone are made anew -/
def countW (s : List UInt8) (k : Nat) (t : List UInt8) : List UInt8 := t.take 127 ++ (madeL s k).drop 127
set_option maxHeartbeats 2000000 in
set_option maxRecDepth 100000 in
theorem anew1_any (s : List UInt8) (k N c cl cs g : Nat) (t : List UInt8) (w : World) (hs : s.length ≤ 1000000000) (hk : k ≤ 100000) (hkN : k < N) (ht : t.length = 128)
    (C1 : Hid (w.cell? ⟨cl, 0, none⟩ = some (.slice (some ⟨g, 0, none⟩) N c))) (C2 : Hid (w.cell? ⟨cs, 0, none⟩ = some (.string (sB s)))) (C3 : Hid (w.cell? ⟨g, k, none⟩ = some (.string (sB t))))
    (L1 : Hid (cl < w.heap.size)) (L2 : Hid (cs < w.heap.size)) (L3 : Hid (g < w.heap.size)) :
    Calls Try.prog 40 #[.int .i64 (k : Int), .pointer (some ⟨cl, 0, none⟩), .pointer (some ⟨cs, 0, none⟩)] w fun e w' => e = .returned (.string (sB (countW s k t))) ∧ Below w.heap.size w w' := by
  have hMade : ∀ W, Hid (Calls Try.prog 26 #[.string (sB s), .int .i64 (k : Int)] W fun e w' => e = .returned (.string (sB (madeL s k))) ∧ Below W.heap.size W w') := fun W => Lib.hid (made_any s k W hs hk)
  have hml := madeL_len s k
  have hsz1 : (sB t).size = 128 := by rw [sB_size, ht]
  have hsz2 : (sB (madeL s k)).size = 128 := by rw [sB_size, hml]
  have hx1 : (sB t).extract 0 127 = sB (t.take 127) := by rw [sB_extract]; simp
  have hx2 : (sB (madeL s k)).extract 127 128 = sB ((madeL s k).drop 127) := by rw [sB_extract, List.take_of_length_le (by omega)]
  have hsz3 : (sB (t.take 127)).size = 127 := by rw [sB_size, List.length_take]; omega
  have hsz4 : (sB ((madeL s k).drop 127)).size = 1 := by rw [sB_size, List.length_drop]; omega
  have hlo : (0 : Int) ≤ (k : Int) := by omega
  have hhi : (k : Int) < (N : Int) := by omega
  unfold countW
  go_enter Try.func40, Try.ntmps40
  go_wp2_with fail
  refine wp_region_ord (by kernel_rfl) Grows [Is (.slice (some ⟨g, 0, none⟩) N c), Is (.int .i64 (k : Int)), Is (.pointer (some ⟨g, k, none⟩)), Is (.string (sB t)), Is (.string (sB (t.take 127))), Is (.string (sB s)), Is (.int .i64 (k : Int)), Is (.string (sB (madeL s k))), Is (.string (sB ((madeL s k).drop 127))), Is (.string (sB (t.take 127 ++ (madeL s k).drop 127))), Is (.string (sB (t.take 127 ++ (madeL s k).drop 127)))] (by kernel_rfl) Grows.refl Grows.trans
    ⟨is_stab _ _, is_stab _ _, is_stab _ _, is_stab _ _, is_stab _ _, is_stab _ _, is_stab _ _, is_stab _ _, is_stab _ _, is_stab _ _, is_stab _ _, trivial⟩ ⟨?_, ?_, ?_, ?_, ?_, ?_, ?_, ?_, ?_, ?_, ?_, trivial⟩ ?_
  · intro u w1 hR hp K hK
    refine ord_plain rfl ?_
    simp at hp hK ⊢
    have hc := (Below.cell hR (p := ⟨cl, 0, none⟩) L1.out).trans C1.out
    go_simp
    exact hK _ _ (Grows.refl _) rfl
  · intro u w1 hR hp K hK
    refine ord_plain rfl ?_
    simp at hp hK ⊢
    go_simp
    exact hK _ _ (Grows.refl _) rfl
  · intro u w1 hR hp K hK
    refine ord_plain rfl ?_
    simp at hp hK ⊢
    simp only [hp] at hK
    go_simp
    exact hK _ _ (Grows.refl _) rfl
  · intro u w1 hR hp K hK
    refine ord_plain rfl ?_
    simp at hp hK ⊢
    simp only [hp] at hK
    have hc := (Below.cell hR (p := ⟨g, k, none⟩) L3.out).trans C3.out
    go_simp
    exact hK _ _ (Grows.refl _) rfl
  · intro u w1 hR hp K hK
    refine ord_plain rfl ?_
    simp at hp hK ⊢
    simp only [hp] at hK
    go_simp
    exact hK _ _ (Grows.refl _) rfl
  · intro u w1 hR hp K hK
    refine ord_plain rfl ?_
    simp at hp hK ⊢
    have hc := (Below.cell hR (p := ⟨cs, 0, none⟩) L2.out).trans C2.out
    go_simp
    exact hK _ _ (Grows.refl _) rfl
  · intro u w1 hR hp K hK
    refine ord_plain rfl ?_
    simp at hp hK ⊢
    go_simp
    exact hK _ _ (Grows.refl _) rfl
  · intro u w1 hR hp K hK
    refine ord_plain rfl ?_
    simp at hp hK ⊢
    simp only [hp] at hK
    go_simp
    refine (hMade _).out.mono ?_
    rintro e w2 ⟨rfl, hb2⟩
    exact hK _ _ hb2 rfl
  · intro u w1 hR hp K hK
    refine ord_plain rfl ?_
    simp at hp hK ⊢
    simp only [hp] at hK
    go_simp
    exact hK _ _ (Grows.refl _) rfl
  · intro u w1 hR hp K hK
    refine ord_plain rfl ?_
    simp at hp hK ⊢
    simp only [hp] at hK
    go_simp
    rw [sB_append]
    exact hK _ _ (Grows.refl _) rfl
  · intro u w1 hR hp K hK
    refine ord_plain rfl ?_
    simp at hp hK ⊢
    simp only [hp] at hK
    go_simp
    exact hK _ _ (Grows.refl _) rfl
  · intro u w1 hR hp
    simp at hp ⊢
    have h10 := hp.2.2.2.2.2.2.2.2.2.2
    simp only [h10]
    clear hp h10 hMade
    have HB := Lib.hid (Below.trans (Below.drew (Below.refl w.heap.size w)) hR)
    clear hR
    go_wp2_with fail
    go_ret
    exact ⟨rfl, HB.out⟩
theorem anew2_any (s : List UInt8) (k cs : Nat) (w : World) (hs : s.length ≤ 1000000000) (hk : k ≤ 100000) (C2 : w.cell? ⟨cs, 0, none⟩ = some (.string (sB s))) :
    Calls Try.prog 41 #[.int .i64 (k : Int), .pointer (some ⟨cs, 0, none⟩)] w fun e w' => e = .returned (.string (sB (madeL s k))) ∧ Below w.heap.size w w' := by
  have hm := made_any s k w hs hk
  go_enter Try.func41, Try.ntmps41
  go_wp2_with fail
  refine hm.mono ?_
  rintro e w2 ⟨rfl, hb⟩
  have HB := Lib.hid hb
  clear hb hm
  go_wp2_with fail
  go_ret
  exact ⟨rfl, HB.out⟩
end Go.Proofs.Ytmneflpjoaocbaa
