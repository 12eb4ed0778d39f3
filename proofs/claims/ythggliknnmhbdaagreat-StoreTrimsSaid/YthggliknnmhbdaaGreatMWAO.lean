/- Several texts in one: BkC. -/
import Derived.Test.YthggliknnmhbdaaGreatMWAM
import Derived.Test.YthggliknnmhbdaaGreatShelf
import Derived.Test.YthggliknnmhbdaaGreatMWAA
/- Books: a sector, as a stream makes it. No conditions beyond what each states. -/
namespace Go.Proofs.YthggliknnmhbdaaGreat
set_option maxRecDepth 100000
open Go.RowKit
set_option linter.unusedVariables false
attribute [local simp] frOf dstsOf frGo predsHold allHold Region.binds slotOf seen Is Act.put
/-- bytes as a string -/
def sB (l : List UInt8) : ByteArray := ⟨l.toArray⟩
theorem sB_size (l : List UInt8) : (sB l).size = l.length := by simp [sB, ByteArray.size]
theorem sB_append (l m : List UInt8) : sB l ++ sB m = sB (l ++ m) := by
  apply ByteArray.ext
  simp [sB]
theorem sB_self (s : ByteArray) : sB s.data.toList = s := by
  apply ByteArray.ext
  simp [sB]
theorem sB_list (l : List UInt8) : (sB l).data.toList = l := by simp [sB]
theorem sB_inj {l m : List UInt8} (h : sB l = sB m) : l = m := by
  have := congrArg (fun s : ByteArray => s.data.toList) h
  simpa [sB] using this
theorem sB_extract (l : List UInt8) (a b : Nat) : (sB l).extract a b = sB ((l.take b).drop a) := by
  apply ByteArray.ext
  apply Array.toList_inj.1
  rw [ByteArray.data_extract]
  simp [sB, List.drop_take]
theorem slice_str {P : Program} (t : TypeId) (hu : P.underlying t = some .string) (s : ByteArray) (a b : Nat) (h1 : a ≤ b) (h2 : b ≤ s.size) (w : World) :
    (Instr.slice t (.string s) (some (.int .i64 (a : Int))) (some (.int .i64 (b : Int))) none).run P w = .ok (.string (s.extract a b)) w := by
  have h3 : (b : Int) ≤ (s.size : Int) := by omega
  have h4 : (a : Int) ≤ (b : Int) := by omega
  simp [go_sem, hu, h3, h4]
theorem repeat_zero (n : Nat) : Lib.repeatL (⟨#[0]⟩ : ByteArray).data.toList n = List.replicate n 0 := by
  induction n with
  | zero => rfl
  | succ n ih => simp only [Lib.repeatL, List.replicate_succ] at ih ⊢; rw [ih]; rfl
theorem conv_oneB (c : Nat) (hc : c < 256) (W : World) (g : Nat) (h0 : Blk W g 5 #[.int .u8 (c : Int)]) :
    (convert 93 9 (.slice (some ⟨g, 0, none⟩) 1 1)).run Tryz.prog W = .ok (.string (sB [UInt8.ofNat c])) W := by
  have := run_convert_bytes_arg (P := Tryz.prog) W 93 5 Tryz.underlying93 Tryz.underlying5 g 0 1 1 [(c : Int)] rfl
    (fun i hi => by
      match i, hi with
      | 0, _ => rw [h0.cell]; rfl) 9 Tryz.underlying9
  simpa [strOfNums, sB] using this
set_option maxRecDepth 100000 in
theorem made_any (s : List UInt8) (k : Nat) (w : World) (hs : s.length ≤ 1000000000) (hk : k ≤ 100000) :
    Calls Tryz.prog 52 #[.string (sB s), .int .i64 (k : Int)] w fun e w' => e = .returned (.string (sB (madeL s k))) ∧ Below w.heap.size w w' := by
  obtain ⟨a, ha⟩ : ∃ a : Nat, a = min s.length (k * 127) := ⟨_, rfl⟩
  obtain ⟨b, hb⟩ : ∃ b : Nat, b = min s.length ((k + 1) * 127) := ⟨_, rfl⟩
  have hsz : (sB s).size = s.length := sB_size s
  have hw1 : IntKind.i64.wrap ((k : Int) * 127) = ((k * 127 : Nat) : Int) := by rw [IntWalk.i64_in _ (by omega)]; omega
  have hw2 : IntKind.i64.wrap ((k : Int) + 1) = ((k + 1 : Nat) : Int) := by rw [IntWalk.i64_in _ (by omega)]; omega
  have hw3 : IntKind.i64.wrap (((k + 1 : Nat) : Int) * 127) = (((k + 1) * 127 : Nat) : Int) := by rw [IntWalk.i64_in _ (by omega)]; omega
  have hm1 : min (s.length : Int) ((k : Int) * 127) = (a : Int) := by omega
  have hm2 : min (s.length : Int) (((k : Int) + 1) * 127) = (b : Int) := by omega
  have hab : a ≤ b := by omega
  have hbl : b ≤ s.length := by omega
  have hx : (sB s).extract a b = sB (cutL s k) := by
    rw [sB_extract]
    unfold cutL
    congr 1
    by_cases h : k * 127 ≤ s.length
    · rw [show a = k * 127 by omega, List.drop_take]
      by_cases h2 : (k + 1) * 127 ≤ s.length
      · rw [show b - k * 127 = 127 by omega]
      · rw [List.take_of_length_le (by rw [List.length_drop]; omega), List.take_of_length_le (by rw [List.length_drop]; omega)]
    · rw [show a = b by omega, List.drop_eq_nil_of_le (by rw [List.length_take]; omega), List.drop_eq_nil_of_le (show s.length ≤ k * 127 by omega)]
      rfl
  go_enter Tryz.func52, Tryz.ntmps52
  go_wp2_with fail
  first | rw [← ha, ← hb] | rw [hm1, hm2] | simp only [hm1, hm2, ← ha, ← hb]
  clear hm1 hm2 hw1 hw2 hw3 ha hb
  have hl := cutL_le s k
  have hsz2 : (sB (cutL s k)).size = (cutL s k).length := sB_size _
  have hM : sB (cutL s k) ++ sB (List.replicate (127 - (cutL s k).length) 0) ++ sB [UInt8.ofNat (cutL s k).length] = sB (madeL s k) := by
    rw [sB_append, sB_append]; rfl
  generalize cutL s k = t at *
  first
    | (rw [slice_str _ Tryz.underlying9 _ _ _ hab (by omega), hx]; simp only [Result.andThen]; rw [Oper.upon_value]; go_wp2_with fail)
    | rw [hx]
  -- REGION
  have hRep : ∀ W, Hid (Calls Tryz.prog 75 #[.string ⟨#[0]⟩, .int .i64 ((127 - t.length : Nat) : Int)] W fun e w' => e = .returned (.string (sB (List.replicate (127 - t.length) 0))) ∧ Below W.heap.size W w') := fun W => Lib.hid (by
    have h := Tryz.strings_Repeat ⟨#[0]⟩ (127 - t.length) W (by omega) (by simp [ByteArray.size]; omega)
    rw [repeat_zero] at h
    exact h)
  have hcz := fun (W : World) (g : Nat) => conv_oneB t.length (by omega) W g
  have hsub : IntKind.i64.wrap ((127 : Int) - (t.length : Int)) = ((127 - t.length : Nat) : Int) := by rw [IntWalk.i64_in _ (by omega)]; omega
  have hu8 : IntKind.u8.wrap (t.length : Int) = (t.length : Int) := by unfold IntKind.wrap; simp [IntKind.bits, IntKind.signed]; omega
  have hz1 : (sB (List.replicate (127 - t.length) (0 : UInt8))).size = 127 - t.length := by rw [sB_size]; simp
  have hz2 : (sB [UInt8.ofNat t.length]).size = 1 := sB_size _
  refine wp_region_ord (by kernel_rfl) Grows [Is (.string (sB t)), Is (.string (sB t)), Is (.int .i64 (t.length : Nat)), Is (.int .i64 (127 - t.length : Nat)), Is (.string (sB (List.replicate (127 - t.length) 0))), Is (.string (sB t ++ sB (List.replicate (127 - t.length) 0))), Is (.string (sB t)), Is (.int .i64 (t.length : Nat)), Is (.int .u8 (t.length : Nat)), IsRow 1 5 #[.int .u8 (t.length : Nat)], Is (.string (sB [UInt8.ofNat t.length])), Is (.string (sB (madeL s k))), Is (.string (sB (madeL s k)))] (by kernel_rfl) Grows.refl Grows.trans
    ⟨is_stab _ _, is_stab _ _, is_stab _ _, is_stab _ _, is_stab _ _, is_stab _ _, is_stab _ _, is_stab _ _, is_stab _ _, isRow_stab _ _ _, is_stab _ _, is_stab _ _, is_stab _ _, trivial⟩ ⟨?_, ?_, ?_, ?_, ?_, ?_, ?_, ?_, ?_, ?_, ?_, ?_, ?_, trivial⟩ ?_
  · intro u w1 hR hp K hK
    refine ord_plain rfl ?_
    simp at hp hK ⊢
    go_simp
    exact hK _ _ (Grows.refl _) rfl
  · intro u w1 hR hp K hK
    refine ord_plain rfl ?_
    simp at hp hK ⊢
    go_simp
    exact hK _ _ (Grows.refl _) rfl
  · intro u w1 hR hp K hK
    refine ord_plain rfl ?_
    simp at hp hK ⊢
    simp only [hp] at hK
    go_simp
    exact hK _ _ (Grows.refl _) rfl
  · intro u w1 hR hp K hK
    refine ord_plain rfl ?_
    simp at hp hK ⊢
    simp only [hp] at hK
    go_simp
    exact hK _ _ (Grows.refl _) rfl
  · intro u w1 hR hp K hK
    refine ord_plain rfl ?_
    simp at hp hK ⊢
    simp only [hp] at hK
    go_simp
    refine (hRep _).out.mono ?_
    rintro e w2 ⟨rfl, hb2⟩
    exact hK _ _ hb2 rfl
  · intro u w1 hR hp K hK
    refine ord_plain rfl ?_
    simp at hp hK ⊢
    simp only [hp] at hK
    go_simp
    exact hK _ _ (Grows.refl _) rfl
  · intro u w1 hR hp K hK
    refine ord_plain rfl ?_
    simp at hp hK ⊢
    go_simp
    exact hK _ _ (Grows.refl _) rfl
  · intro u w1 hR hp K hK
    refine ord_plain rfl ?_
    simp at hp hK ⊢
    simp only [hp] at hK
    go_simp
    exact hK _ _ (Grows.refl _) rfl
  · intro u w1 hR hp K hK
    refine ord_plain rfl ?_
    simp at hp hK ⊢
    simp only [hp] at hK
    go_simp
    exact hK _ _ (Grows.refl _) rfl
  · intro u w1 hR hp K hK
    refine ord_plain rfl ?_
    simp at hp hK ⊢
    simp only [hp] at hK
    go_simp
    exact hK _ _ (Grows.alloc _ _) ⟨_, rfl, Blk.new _ _ _⟩
  · intro u w1 hR hp K hK
    refine ord_plain rfl ?_
    simp at hp hK ⊢
    obtain ⟨g, hg, hb⟩ := hp
    have hc := hcz w1 g hb
    simp only [hg] at hK
    go_simp
    exact hK _ _ (Grows.refl _) rfl
  · intro u w1 hR hp K hK
    refine ord_plain rfl ?_
    simp at hp hK ⊢
    simp only [hp] at hK
    go_simp
    exact hK _ _ (Grows.refl _) rfl
  · intro u w1 hR hp K hK
    refine ord_plain rfl ?_
    simp at hp hK ⊢
    simp only [hp] at hK
    go_simp
    exact hK _ _ (Grows.refl _) rfl
  · intro u w1 hR hp
    simp at hp ⊢
    have h12 := hp.2.2.2.2.2.2.2.2.2.2.2.2
    simp only [h12]
    clear hp h12 hRep hcz
    have HB := Lib.hid (Below.trans (Below.drew (Below.refl w.heap.size w)) hR)
    clear hR
    go_wp2_with fail
    go_ret
    exact ⟨rfl, HB.out⟩
end Go.Proofs.YthggliknnmhbdaaGreat
