/- Several texts in one: RlA, RlB, RlC, RlD, RlE, RlF. -/
import Derived.Test.YtmneflpjoaocbaaGreatMWAW
import Derived.Test.YtmneflpjoaocbaaGreatMWAT
import Derived.Test.YtmneflpjoaocbaaGreatMWAP
/- The document's book: a sector, may a part be, how much room there is. No conditions beyond what each states. -/
namespace Go.Proofs.YtmneflpjoaocbaaGreat
set_option maxRecDepth 100000
open Go.RowKit
set_option linter.unusedVariables false
attribute [local simp] frOf dstsOf frGo predsHold allHold Region.binds slotOf seen Is Act.put
set_option maxRecDepth 100000 in
theorem rmade_any (s : List UInt8) (k : Nat) (w : World) (hs : s.length ≤ 1000000000) (hk : k ≤ 100000) :
    Calls Tryz.prog 56 #[.string (sB s), .int .i64 (k : Int)] w fun e w' => e = .returned (.string (sB (madeL s k))) ∧ Below w.heap.size w w' := by
  obtain ⟨a, ha⟩ : ∃ a : Nat, a = min s.length (k * 127) := ⟨_, rfl⟩
  obtain ⟨b, hb⟩ : ∃ b : Nat, b = min s.length ((k + 1) * 127) := ⟨_, rfl⟩
  have hsz : (sB s).size = s.length := sB_size s
  have hw1 : IntKind.i64.wrap ((k : Int) * 127) = ((k * 127 : Nat) : Int) := by rw [IntWalk.i64_in _ (by omega)]; omega
  have hw2 : IntKind.i64.wrap ((k : Int) + 1) = ((k + 1 : Nat) : Int) := by rw [IntWalk.i64_in _ (by omega)]; omega
  have hw3 : IntKind.i64.wrap (((k + 1 : Nat) : Int) * 127) = (((k + 1) * 127 : Nat) : Int) := by rw [IntWalk.i64_in _ (by omega)]; omega
  have hm1 : min (s.length : Int) ((k : Int) * 127) = (a : Int) := by omega
  have hm2 : min (s.length : Int) (((k : Int) + 1) * 127) = (b : Int) := by omega
  have hab : a ≤ b := by omega
  have hbl : b ≤ s.length := by omega
  have hx : (sB s).extract a b = sB (cutL s k) := by
    rw [sB_extract]
    unfold cutL
    congr 1
    by_cases h : k * 127 ≤ s.length
    · rw [show a = k * 127 by omega, List.drop_take]
      by_cases h2 : (k + 1) * 127 ≤ s.length
      · rw [show b - k * 127 = 127 by omega]
      · rw [List.take_of_length_le (by rw [List.length_drop]; omega), List.take_of_length_le (by rw [List.length_drop]; omega)]
    · rw [show a = b by omega, List.drop_eq_nil_of_le (by rw [List.length_take]; omega), List.drop_eq_nil_of_le (show s.length ≤ k * 127 by omega)]
      rfl
  go_enter Tryz.func56, Tryz.ntmps56
  go_wp2_with fail
  first | rw [← ha, ← hb] | rw [hm1, hm2] | simp only [hm1, hm2, ← ha, ← hb]
  clear hm1 hm2 hw1 hw2 hw3 ha hb
  have hl := cutL_le s k
  have hsz2 : (sB (cutL s k)).size = (cutL s k).length := sB_size _
  have hM : sB (cutL s k) ++ sB (List.replicate (127 - (cutL s k).length) 0) ++ sB [UInt8.ofNat (cutL s k).length] = sB (madeL s k) := by
    rw [sB_append, sB_append]; rfl
  generalize cutL s k = t at *
  first
    | (rw [slice_str _ Tryz.underlying9 _ _ _ hab (by omega), hx]; simp only [Result.andThen]; rw [Oper.upon_value]; go_wp2_with fail)
    | rw [hx]
  -- REGION
  have hMk : ∀ W, (Instr.makeSlice 57 (.int .i64 ((127 - t.length : Nat) : Int)) (.int .i64 ((127 - t.length : Nat) : Int))).run Tryz.prog W = .ok (.slice (some ⟨W.heap.size, 0, none⟩) (127 - t.length) (127 - t.length)) (W.alloc (.cells (List.replicate (127 - t.length) (Value.int .u8 0)).toArray 5)) := fun W => by
    obtain ⟨iu, hiu, hu0, hu1, hu2⟩ := info_parts u8Info
    have hmk := run_make_rowN (P := Tryz.prog) 57 5 iu (.int .u8 0) Tryz.underlying57 hiu hu0 .i64 .i64 (127 - t.length) (127 - t.length) (Nat.le_refl _) (by rw [hu2]; omega) (by omega) W
    rw [hu1, zeros_cells] at hmk
    exact hmk
  have hcz := fun (W : World) (g : Nat) => conv_oneB t.length (by omega) W g
  have hsub : IntKind.i64.wrap ((127 : Int) - (t.length : Int)) = ((127 - t.length : Nat) : Int) := by rw [IntWalk.i64_in _ (by omega)]; omega
  have hu8 : IntKind.u8.wrap (t.length : Int) = (t.length : Int) := by unfold IntKind.wrap; simp [IntKind.bits, IntKind.signed]; omega
  have hz1 : (sB (List.replicate (127 - t.length) (0 : UInt8))).size = 127 - t.length := by rw [sB_size]; simp
  have hz2 : (sB [UInt8.ofNat t.length]).size = 1 := sB_size _
  refine wp_region_ord (by kernel_rfl) Grows [Is (.string (sB t)), Is (.string (sB t)), Is (.int .i64 (t.length : Nat)), Is (.int .i64 (127 - t.length : Nat)), IsRow (127 - t.length) 5 (List.replicate (127 - t.length) (Value.int .u8 0)).toArray, Is (.string (sB (List.replicate (127 - t.length) 0))), Is (.string (sB t ++ sB (List.replicate (127 - t.length) 0))), Is (.string (sB t)), Is (.int .i64 (t.length : Nat)), Is (.int .u8 (t.length : Nat)), IsRow 1 5 #[.int .u8 (t.length : Nat)], Is (.string (sB [UInt8.ofNat t.length])), Is (.string (sB (madeL s k))), Is (.string (sB (madeL s k)))] (by kernel_rfl) Grows.refl Grows.trans
    ⟨is_stab _ _, is_stab _ _, is_stab _ _, is_stab _ _, isRow_stab _ _ _, is_stab _ _, is_stab _ _, is_stab _ _, is_stab _ _, is_stab _ _, isRow_stab _ _ _, is_stab _ _, is_stab _ _, is_stab _ _, trivial⟩ ⟨?_, ?_, ?_, ?_, ?_, ?_, ?_, ?_, ?_, ?_, ?_, ?_, ?_, ?_, trivial⟩ ?_
  · intro u w1 hR hp K hK
    refine ord_plain rfl ?_
    simp at hp hK ⊢
    go_simp
    exact hK _ _ (Grows.refl _) rfl
  · intro u w1 hR hp K hK
    refine ord_plain rfl ?_
    simp at hp hK ⊢
    go_simp
    exact hK _ _ (Grows.refl _) rfl
  · intro u w1 hR hp K hK
    refine ord_plain rfl ?_
    simp at hp hK ⊢
    simp only [hp] at hK
    go_simp
    exact hK _ _ (Grows.refl _) rfl
  · intro u w1 hR hp K hK
    refine ord_plain rfl ?_
    simp at hp hK ⊢
    simp only [hp] at hK
    go_simp
    exact hK _ _ (Grows.refl _) rfl
  · intro u w1 hR hp K hK
    refine ord_plain rfl ?_
    simp at hp hK ⊢
    simp only [hp] at hK
    have hmk := hMk w1
    go_simp
    exact hK _ _ (Grows.alloc _ _) ⟨_, rfl, Blk.new _ _ _⟩
  · intro u w1 hR hp K hK
    refine ord_plain rfl ?_
    simp at hp hK ⊢
    obtain ⟨g, hg, hb⟩ := hp
    have hc := conv_zeros w1 g (127 - t.length) hb 9 Tryz.underlying9
    simp only [hg] at hK
    go_simp
    exact hK _ _ (Grows.refl _) rfl
  · intro u w1 hR hp K hK
    refine ord_plain rfl ?_
    simp at hp hK ⊢
    simp only [hp] at hK
    go_simp
    exact hK _ _ (Grows.refl _) rfl
  · intro u w1 hR hp K hK
    refine ord_plain rfl ?_
    simp at hp hK ⊢
    go_simp
    exact hK _ _ (Grows.refl _) rfl
  · intro u w1 hR hp K hK
    refine ord_plain rfl ?_
    simp at hp hK ⊢
    simp only [hp] at hK
    go_simp
    exact hK _ _ (Grows.refl _) rfl
  · intro u w1 hR hp K hK
    refine ord_plain rfl ?_
    simp at hp hK ⊢
    simp only [hp] at hK
    go_simp
    exact hK _ _ (Grows.refl _) rfl
  · intro u w1 hR hp K hK
    refine ord_plain rfl ?_
    simp at hp hK ⊢
    simp only [hp] at hK
    go_simp
    exact hK _ _ (Grows.alloc _ _) ⟨_, rfl, Blk.new _ _ _⟩
  · intro u w1 hR hp K hK
    refine ord_plain rfl ?_
    simp at hp hK ⊢
    obtain ⟨g, hg, hb⟩ := hp
    have hc := hcz w1 g hb
    simp only [hg] at hK
    go_simp
    exact hK _ _ (Grows.refl _) rfl
  · intro u w1 hR hp K hK
    refine ord_plain rfl ?_
    simp at hp hK ⊢
    simp only [hp] at hK
    go_simp
    exact hK _ _ (Grows.refl _) rfl
  · intro u w1 hR hp K hK
    refine ord_plain rfl ?_
    simp at hp hK ⊢
    simp only [hp] at hK
    go_simp
    exact hK _ _ (Grows.refl _) rfl
  · intro u w1 hR hp
    simp at hp ⊢
    have h13 := hp.2.2.2.2.2.2.2.2.2.2.2.2.2
    simp only [h13]
    clear hp h13 hMk hcz
    have HB := Lib.hid (Below.trans (Below.drew (Below.refl w.heap.size w)) hR)
    clear hR
    go_wp2_with fail
    go_ret
    exact ⟨rfl, HB.out⟩
/-- may a part be? -/
def mayB (n : Nat) (f nn : Int) : Bool := decide (0 ≤ f ∧ 1 ≤ nn ∧ f ≤ (n : Int) ∧ nn ≤ (n : Int) - f)
set_option maxHeartbeats 1000000 in
set_option maxRecDepth 100000 in
theorem rmay_any (w : World) (q gg n : Nat) (S : Dst) (B m : Nat) (f nn : Int) (D : RkS w q gg n S B m) :
    Calls Tryz.prog 44 #[.pointer (some ⟨q, 0, none⟩), .int .i64 f, .int .i64 nn] w fun e w' => e = .returned (.bool (mayB n f nn)) ∧ w = w' := by
  obtain ⟨⟨h1, h2, h3, h4⟩, hf, c, A, c2, D⟩ := D
  have cq : w.cell? ⟨q, 0, none⟩ = some (.slice (some ⟨gg, 0, none⟩) n c) := D.blk.cell 0
  clear D hf
  obtain ⟨b, hb⟩ : ∃ b, b = mayB n f nn := ⟨_, rfl⟩
  rw [← hb]
  by_cases e1 : 0 ≤ f
  · by_cases e2 : 1 ≤ nn
    · by_cases e3 : f ≤ (n : Int)
      · have hwr : IntKind.i64.wrap ((n : Int) - f) = (n : Int) - f := IntWalk.i64_in _ (by omega)
        by_cases e4 : nn ≤ (n : Int) - f
        · have hb2 : b = true := by rw [hb]; unfold mayB; simp; omega
          subst hb2
          clear hb
          go_enter Tryz.func44, Tryz.ntmps44
          go_wp2_with fail
          go_ret
          exact ⟨rfl, rfl⟩
        · have hb2 : b = false := by rw [hb]; unfold mayB; simp; omega
          subst hb2
          clear hb
          go_enter Tryz.func44, Tryz.ntmps44
          go_wp2_with fail
          go_ret
          exact ⟨rfl, rfl⟩
      · have hb2 : b = false := by rw [hb]; unfold mayB; simp; omega
        subst hb2
        clear hb
        go_enter Tryz.func44, Tryz.ntmps44
        go_wp2_with fail
        go_ret
        exact ⟨rfl, rfl⟩
    · have hb2 : b = false := by rw [hb]; unfold mayB; simp; omega
      subst hb2
      clear hb
      go_enter Tryz.func44, Tryz.ntmps44
      go_wp2_with fail
      go_ret
      exact ⟨rfl, rfl⟩
  · have hb2 : b = false := by rw [hb]; unfold mayB; simp; omega
    subst hb2
    clear hb
    go_enter Tryz.func44, Tryz.ntmps44
    go_wp2_with fail
    go_ret
    exact ⟨rfl, rfl⟩
/-- the document's book in a block -/
def BookR (w : World) (x q : Nat) (f nn : Int) (t : ByteArray) (br : Bool) : Prop := Blk w x 44 #[.pointer (some ⟨q, 0, none⟩), .int .i64 f, .int .i64 nn, .string t, .bool br]
set_option maxHeartbeats 1000000 in
set_option maxRecDepth 100000 in
theorem rroom_any (q f nn x : Nat) (t : List UInt8) (br : Bool) (w : World) (h : BookR w x q f nn (sB t) br) (hn : nn ≤ 4096) (ht : t.length ≤ 100000000) :
    Calls Tryz.prog 12 #[.pointer (some ⟨x, 0, none⟩)] w fun e w' => e = .returned (.int .i64 ((nn : Int) * 127 - (t.length : Int))) ∧ Only (fun _ => False) w w' := by
  have c2 : w.cell? ⟨x, 2, none⟩ = some (.int .i64 nn) := h.cell 2
  have c3 : w.cell? ⟨x, 3, none⟩ = some (.string (sB t)) := h.cell 3
  have hsz : (sB t).size = t.length := sB_size t
  have hwm : IntKind.i64.wrap ((nn : Int) * 127) = (nn : Int) * 127 := IntWalk.i64_in _ (by omega)
  have hwr : IntKind.i64.wrap ((nn : Int) * 127 - (t.length : Int)) = (nn : Int) * 127 - (t.length : Int) := IntWalk.i64_in _ (by omega)
  clear h
  have HO : Hid (∀ j, Only (fun _ => False) w (w.drewN j)) := Lib.hid (fun j => (Only.refl _ w).drewN j)
  go_enter Tryz.func12, Tryz.ntmps12
  go_wp2_with fail
  go_quiet (fail)
  go_wp2_with fail
  go_ret
  exact ⟨rfl, HO.out _⟩
end Go.Proofs.YtmneflpjoaocbaaGreat
/- The document's book: the stream of sectors, the sectors read. No conditions beyond what each states. -/
namespace Go.Proofs.YtmneflpjoaocbaaGreat
set_option maxRecDepth 100000
open Go.RowKit
set_option linter.unusedVariables false
set_option maxHeartbeats 1000000 in
set_option maxRecDepth 100000 in
theorem rstream_any (ts : List (List UInt8)) (A : Option Addr) (c : Nat) (w : World) (hr : TextRow w A (ts.map sB)) (hall : ∀ t ∈ ts, t.length = 128) (hl : ts.length ≤ 100000) :
    Calls Tryz.prog 46 #[.slice A ts.length c] w fun e w' => e = .returned (.string (sB (streamL ts))) ∧ w = w' := by
  have HR := Lib.hid hr
  clear hr
  have HE0 : Hid (ByteArray.empty = sB []) := Lib.hid rfl
  go_enter Tryz.func46, Tryz.ntmps46
  go_wp2_with fail
  go_loopw [3, 4] (fun sv i wr => ∃ (k : Nat) (D : List UInt8), k ≤ ts.length ∧ i = .int .i64 k ∧ sv = .string (sB D) ∧ D ++ streamL (ts.drop k) = streamL ts ∧ D.length ≤ 127 * k ∧ w = wr) (fun _ i _ => ts.length - (intOf i).toNat)
  case atStart => exact ⟨0, [], by omega, rfl, rfl, rfl, by simp, rfl⟩
  case round =>
    obtain ⟨k, D, hk, rfl, rfl, hD, hDl, rfl⟩ := hrel
    have HD := Lib.hid hD
    clear hD
    by_cases hlt : k < ts.length
    · obtain ⟨t, ht⟩ : ∃ t, ts[k]? = some t := ⟨_, List.getElem?_eq_getElem hlt⟩
      have htl := hall t (List.mem_of_getElem? ht)
      have hst := stream_step ts k t ht
      obtain ⟨g, off, rfl, hg, hck⟩ := HR.out.at_ k (by simpa using hlt)
      have hcell : w.cell? ⟨g, off + k, none⟩ = some (.string (sB t)) := by
        rw [hck]
        have e : ts[k] = t := (List.getElem?_eq_some_iff.1 ht).2
        simp [e]
      have hlo : (0 : Int) ≤ (k : Int) := by omega
      have hhi : (k : Int) < (ts.length : Int) := by omega
      have hsz : (sB t).size = 128 := by rw [sB_size, htl]
      have hget := sB_get t 127 (by omega) (by omega)
      have hcl : ((t.getD 127 0).toNat) < 256 := UInt8.toNat_lt _
      generalize t.getD 127 0 = q at *
      have HST := Lib.hid hst
      clear hst ht hck
      have hwq : wrap64 (q.toNat : Int) = (q.toNat : Int) := IntWalk.wrap64_in _ (by omega)
      have hsD : (sB D).size ≤ 100000000 := by rw [sB_size]; omega
      by_cases hc1 : 127 < q.toNat
      · have hc2 : (0 : Nat) < 127 := by omega
        have hi1 : (127 : Int) < (q.toNat : Int) := by omega
        have HS2 : Hid (sB D = sB (streamL ts)) := Lib.hid (by
          rw [← HD.out, HST.out]
          simp [hc1])
        go_wp2_with fail
        rw [HS2.out]
        go_ret
        exact ⟨rfl, rfl⟩
      by_cases hc2 : q.toNat < 127
      · have hi1 : ¬ (127 : Int) < (q.toNat : Int) := by omega
        have hi2 : (q.toNat : Int) < 127 := by omega
        have hi3 : (q.toNat : Int) ≤ 128 := by omega
        have HS2 : Hid (sB (D ++ t.take q.toNat) = sB (streamL ts)) := Lib.hid (by
          rw [← HD.out, HST.out]
          simp [hc1, hc2])
        have HE : Hid ((sB t).extract 0 q.toNat = sB (t.take q.toNat)) := Lib.hid (by rw [sB_extract]; simp)
        go_wp2_with fail
        rw [HE.out, sB_append]
        rw [HS2.out]
        go_wp2_with fail
        go_ret
        exact ⟨rfl, rfl⟩
      · have hi1 : ¬ (127 : Int) < (q.toNat : Int) := by omega
        have hi2 : ¬ (q.toNat : Int) < 127 := by omega
        have hi3 : (q.toNat : Int) ≤ 128 := by omega
        have HS2 : Hid (D ++ t.take q.toNat ++ streamL (ts.drop (k + 1)) = streamL ts) := Lib.hid (by
          rw [← HD.out, HST.out]
          simp [hc1, hc2])
        have HE : Hid ((sB t).extract 0 q.toNat = sB (t.take q.toNat)) := Lib.hid (by rw [sB_extract]; simp)
        go_wp2_with fail
        rw [HE.out, sB_append]
        go_wp2_with fail
        go_roundw
        case rel => exact ⟨k + 1, _, by omega, by go_num, rfl, HS2.out, by simp; omega, by first | rfl | trivial⟩
        case measure => simp [intOf]; omega
    · obtain rfl : k = ts.length := by omega
      have HS2 : Hid (sB D = sB (streamL ts)) := Lib.hid (by
        have := HD.out
        rw [List.drop_length] at this
        simp [streamL] at this
        rw [this])
      go_wp2_with fail
      go_ret
      rw [HS2.out]
      exact ⟨rfl, rfl⟩
set_option maxHeartbeats 2000000 in
set_option maxRecDepth 100000 in
theorem rlist_any (w : World) (q gg n : Nat) (S : Dst) (B m f nn : Nat) (D : RkS w q gg n S B m) (hfn : f + nn ≤ n) (hst : S.still = false) :
    Calls Tryz.prog 45 #[.pointer (some ⟨q, 0, none⟩), .int .i64 (f : Int), .int .i64 (nn : Int)] w fun e w' => ∃ v, e = .returned (.tuple #[v, .int .i64 0]) ∧ w'.ownsRow w.heap.size 9 1 v nn (strsV (openT f nn fun j => S.cur.getD j [])) ∧ Only (fun _ => False) w w' := by
  obtain ⟨i0, hi, hz0, hz1, hz2⟩ := info_parts strInfo
  have hnn : n ≤ 4096 := D.1.2.1
  have HD := Lib.hid D
  have HRD : ∀ W, Only (fun _ => False) w W → ∀ j, j < nn → Hid (Calls Tryz.prog 52 #[.pointer (some ⟨q, 0, none⟩), .int .i64 ((f : Int) + (j : Int))] W fun e w' => e = .returned (.tuple #[.string (sB (S.cur.getD (f + j) [])), .int .i64 0]) ∧ W = w') := fun W hW j hj => Lib.hid (by
    have h := rread_any W q gg n S B m (f + j) (HD.out.only hW) (by omega)
    rw [hst] at h
    simpa using h)
  obtain ⟨P, hP⟩ : ∃ P : Exit → World → Prop, P = fun e w' => True := ⟨_, rfl⟩
  clear hP P D hst
  unfold openT
  generalize hC : (fun j => S.cur.getD j []) = C at *
  have HRD2 : ∀ W, Only (fun _ => False) w W → ∀ j, j < nn → Hid (Calls Tryz.prog 52 #[.pointer (some ⟨q, 0, none⟩), .int .i64 ((f : Int) + (j : Int))] W fun e w' => e = .returned (.tuple #[.string (sB (C (f + j))), .int .i64 0]) ∧ W = w') := by subst hC; exact HRD
  clear hC HRD
  go_enter Tryz.func45, Tryz.ntmps45
  go_wp2_with fail
  go_loopw [8, 9] (fun l i wr => ∃ k : Nat, k ≤ nn ∧ i = .int .i64 k ∧ wr.ownsRow w.heap.size 9 1 l k (strsV ((List.range k).map fun j => C (f + j))) ∧ Only (fun _ => False) w wr) (fun _ i _ => nn - (intOf i).toNat)
  case atStart => exact ⟨0, by omega, rfl, World.ownsRow_nil _ _ _ _, Only.refl _ _⟩
  case round =>
    obtain ⟨k, hk, rfl, b1, b2⟩ := hrel
    have HB1 := Lib.hid b1
    have HB2 := Lib.hid b2
    clear b1 b2
    by_cases hlt : k < nn
    · have hlt' : (k : Int) < (nn : Int) := by omega
      have hadd : IntKind.i64.wrap ((f : Int) + (k : Int)) = (f : Int) + (k : Int) := IntWalk.i64_in _ (by omega)
      have HC := HRD2 wr HB2.out k hlt
      go_wp2_with fail
      refine HC.out.mono ?_
      rintro e w2 ⟨rfl, rfl⟩
      obtain ⟨As, cs, hsv, _⟩ := own_form HB1.out
      subst hsv
      clear HC
      go_wp2_with (at_builtin; refine wpList_append_any _ rfl (.tmp 28) (.tmp 30) 38 rfl w.heap.size 9 i0 (.string ⟨#[]⟩) 1 16 Tryz.underlying38 hi hz0 hz1 hz2 rfl (by decide) _ _ _ rfl (((Only.refl (fun _ => False) wr).alloc _).owns HB1.out (fun _ _ h => h)) _ _ _ _ _ rfl (reads_one _) ?c2 ?c3 ?c4 ?c5 ?_)
      case c2 => intro u hu; simp at hu; subst hu; rfl
      case c3 => unfold maxLen; omega
      case c4 => omega
      case c5 => have := HB2.out.size; simp; omega
      intro v' w' hown' hgrow hnew
      have hall : Only (fun _ => False) w w' := HB2.out.trans' (T := fun k => w.heap.size ≤ k) (((Only.refl (fun k => w.heap.size ≤ k) wr).alloc _).grown hgrow (fun k hk => .inl ((HB1.out.lt k hk).1))) ?cc
      case cc => exact fun i hi => .inr hi
      have HA := Lib.hid hall
      have HOW := Lib.hid hown'
      clear hown' hgrow hnew hall
      go_wp2_with fail
      go_roundw
      case rel => exact ⟨k + 1, by omega, by go_num, by rw [List.range_succ, List.map_append, strsV, List.map_append]; exact HOW.out, HA.out⟩
      case measure => simp [intOf]; omega
    · obtain rfl : k = nn := by omega
      obtain ⟨As, cs, hsv, _⟩ := own_form HB1.out
      subst hsv
      go_wp2_with fail
      go_ret2
      exact ⟨_, rfl, HB1.out, HB2.out⟩
set_option maxHeartbeats 2000000 in
set_option maxRecDepth 100000 in
theorem rlist_still (w : World) (q gg n : Nat) (S : Dst) (B m f nn : Nat) (D : RkS w q gg n S B m) (h1 : 1 ≤ nn) (hfn : f + nn ≤ n) (hst : S.still = true) :
    Calls Tryz.prog 45 #[.pointer (some ⟨q, 0, none⟩), .int .i64 (f : Int), .int .i64 (nn : Int)] w fun e w' => e = .returned (.tuple #[.slice none 0 0, .int .i64 51]) ∧ w = w' := by
  have hnn : n ≤ 4096 := D.1.2.1
  have HC : Hid (Calls Tryz.prog 52 #[.pointer (some ⟨q, 0, none⟩), .int .i64 (f : Int)] w fun e w' => e = .returned (.tuple #[.string (sB []), .int .i64 51]) ∧ w = w') := Lib.hid (by
    have h := rread_any w q gg n S B m f D (by omega)
    rw [hst] at h
    simpa using h)
  have hlt' : (0 : Int) < (nn : Int) := by omega
  have hadd : IntKind.i64.wrap ((f : Int) + 0) = (f : Int) := by rw [IntWalk.i64_in _ (by omega)]; omega
  have hadd2 : IntKind.i64.wrap ((f : Int)) = (f : Int) := by rw [IntWalk.i64_in _ (by omega)]
  clear D hst
  go_enter Tryz.func45, Tryz.ntmps45
  go_wp2_with fail
  go_loopw [9] (fun i wr => i = .int .i64 0 ∧ w = wr) (fun _ _ => 0)
  case atStart => exact ⟨rfl, rfl⟩
  case round =>
    obtain ⟨rfl, rfl⟩ := hrel
    go_wp2_with fail
    refine HC.out.mono ?_
    rintro e w2 ⟨rfl, rfl⟩
    go_wp2_with fail
    go_ret2
    exact ⟨rfl, rfl⟩
end Go.Proofs.YtmneflpjoaocbaaGreat
/- The document's book: sectors are made anew by a stream. No conditions beyond what each states. -/
namespace Go.Proofs.YtmneflpjoaocbaaGreat
set_option maxRecDepth 100000
open Go.RowKit
set_option linter.unusedVariables false
/-- what is left of anew at a step -/
def restS (n f : Nat) (s : List UInt8) (k : Nat) (ts : List (List UInt8)) (S : Dst) : Int × Dst × List (List UInt8) :=
  if k = 0 then anewS n f s ts S else if k = 1 then turnS n f (fun k _ => madeL s k) ts S else (0, S, ts)
theorem restS_0 {n f : Nat} {s : List UInt8} {ts l : List (List UInt8)} {S S' : Dst} (h : turnS n f (countW s) ts S = (0, S', l)) : restS n f s 0 ts S = restS n f s 1 l S' := by
  simp [restS, anewS, h]
theorem restS_0e {n f : Nat} {s : List UInt8} {ts l : List (List UInt8)} {S S' : Dst} {e : Int} (h : turnS n f (countW s) ts S = (e, S', l)) (he : ¬ e = 0) : restS n f s 0 ts S = (e, S', l) := by
  simp [restS, anewS, h, he]
theorem restS_1 {n f : Nat} {s : List UInt8} {ts l : List (List UInt8)} {S S' : Dst} (h : turnS n f (fun k _ => madeL s k) ts S = (0, S', l)) : restS n f s 1 ts S = restS n f s 2 l S' := by
  simp [restS, h]
section
variable {w w' : World} {q gg n g c base k : Nat} {S : Dst} {B m : Nat} {xs : List Value}
/-- a row of strings that is not the disk's own is turned -/
theorem RkS.row {cs : Array Value} (h : RkS w q gg n S B m) (hb : Blk w g 9 cs) (hne : g ≠ gg) (o : Only (fun b => b = g) w w') : RkS w' q gg n S B m := by
  obtain ⟨h1, h2, c, A, c2, D⟩ := h
  refine ⟨h1, h2, c, A, c2, ⟨o.blk D.blk (Blk.ne_ D.blk hb (by decide)), o.owns D.good (fun j hj e => ?_), o.owns D.own (fun j hj e => own_blk_ne D.own hb (by decide) (hj.trans (congrArg some e))), D.lo, D.ok⟩⟩
  have : j = gg := by simpa [Value.ownBlock] using hj.symm
  exact hne (e.symm.trans this)
/-- what a sync of the disk turns leaves such a row -/
theorem RkS.gg_row (h : RkS w q gg n S B m) (hr : w.ownsRow base 9 1 (.slice (some ⟨g, 0, none⟩) k c) k xs) (hne : g ≠ gg) (o : Only (fun b => b = q ∨ b = gg) w w') :
    w'.ownsRow base 9 1 (.slice (some ⟨g, 0, none⟩) k c) k xs ∧ FarG RT (fun b => b = gg) w w' ∧ Only (fun b => B ≤ b) w w' := by
  obtain ⟨⟨h1, _, _, _⟩, h2, c, A, c2, D⟩ := h
  have hl := D.lts h1
  refine ⟨o.owns hr (fun j hj e => ?_), FarG.of_only o (fun b hb => ?_), o.mono (fun b hb => ?_)⟩
  · rcases e with e | e
    · exact own_blk_ne hr D.blk (by decide) (hj.trans (congrArg some e))
    · have : j = g := by simpa [Value.ownBlock] using hj.symm
      exact hne (this.symm.trans e)
  · rcases hb with rfl | rfl
    · exact .inr fun t cs hb => by rw [blk_same hb D.blk]; exact .inl rfl
    · exact .inl rfl
  · rcases hb with rfl | rfl
    · exact D.lo
    · exact hl.2.2
end
set_option maxHeartbeats 4000000 in
set_option maxRecDepth 100000 in
theorem ranew_any (w : World) (q gg n f : Nat) (S : Dst) (B m : Nat) (ts : List (List UInt8)) (s : List UInt8) (g c base : Nat)
    (D : RkS w q gg n S B m) (hown : w.ownsRow base 9 1 (.slice (some ⟨g, 0, none⟩) ts.length c) ts.length (strsV ts)) (hgB : B ≤ g) (hne : g ≠ gg)
    (hf : f ≤ 4096) (hn : ts.length ≤ 4096) (hm : m + 12000 ≤ 1000000) (hs : s.length ≤ 1000000000) (hall : ∀ t ∈ ts, t.length = 128) :
    Calls Tryz.prog 48 #[.pointer (some ⟨q, 0, none⟩), .int .i64 (f : Int), .slice (some ⟨g, 0, none⟩) ts.length c, .string (sB s)] w fun e w' =>
      e = .returned (.int .i64 (anewS n f s ts S).1) ∧ RkS w' q gg n (anewS n f s ts S).2.1 B (m + 2 * ts.length + 2) ∧
      FarG RT (fun b => b = gg ∨ b = g) w w' ∧ Only (fun b => B ≤ b) w w' := by
  obtain ⟨R, hR⟩ : ∃ R, R = anewS n f s ts S := ⟨_, rfl⟩
  rw [← hR]
  have hR0 : R = restS n f s 0 ts S := by rw [hR]; rfl
  have HR0 := Lib.hid hR0
  have HD := Lib.hid D
  have HOW := Lib.hid hown
  have HGB := Lib.hid hgB
  have HALL := Lib.hid hall
  clear hR hR0 D hown hgB hall
  go_enter Tryz.func48, Tryz.ntmps48
  go_wp2_with fail
  go_loopw [9] (fun st wr => ∃ (k : Nat) (S1 : Dst) (ts1 : List (List UInt8)), k ≤ 2 ∧ st = .int .i64 (k : Int) ∧ ts1.length = ts.length ∧ (k = 0 → ts1 = ts) ∧ R = restS n f s k ts1 S1 ∧ RkS wr q gg n S1 B (m + k * (ts.length + 1)) ∧
    wr.ownsRow base 9 1 (.slice (some ⟨g, 0, none⟩) ts.length c) ts.length (strsV ts1) ∧ FarG RT (fun b => b = gg ∨ b = g) w wr ∧ Only (fun b => B ≤ b) w wr) (fun st _ => 2 - (intOf st).toNat)
  case atStart => exact ⟨0, S, ts, by omega, rfl, rfl, fun _ => rfl, HR0.out, by simpa using HD.out, HOW.out, FarG.refl _ _ _, Only.refl _ _⟩
  case round =>
    obtain ⟨k, S1, ts1, hk, rfl, hl1, ha0, hR1, b1, b2, b3, b4⟩ := hrel
    rename World => wo
    have B1 := Lib.hid b1
    have B2 := Lib.hid b2
    have B3 := Lib.hid b3
    have B4 := Lib.hid b4
    have HR1 := Lib.hid hR1
    clear b1 b2 b3 b4 hR1 HR0 HD HOW
    have h012 : k = 0 ∨ k = 1 ∨ k = 2 := by omega
    rcases h012 with rfl | rfl | rfl
    · -- step 0
      rw [show ((0 : Nat) : Int) = 0 from rfl]
      have ha : ∀ t ∈ ts1, t.length = 128 := by rw [ha0 rfl]; exact HALL.out
      have ht1 := HR1.out
      obtain ⟨F, hF⟩ : ∃ F, F = turnFrom n f (countW s) 0 ts1 S1 := ⟨_, rfl⟩
      have hT : turnS n f (countW s) ts1 S1 = (if F.1 = 0 then (if F.2.2.2 then ((syS F.2.1).1, (syS F.2.1).2, F.2.2.1) else (0, F.2.1, F.2.2.1)) else (F.1, F.2.1, F.2.2.1)) := by rw [hF]; rfl
      have HF := Lib.hid hF
      have HT := Lib.hid hT
      clear ht1 hF hT
      go_wp2_with fail
      go_loopw [10, 11] (fun sv i wr => ∃ (done rest : List (List UInt8)) (S' : Dst) (b : Bool), done.length + rest.length = ts.length ∧ rest = ts1.drop done.length ∧ i = .int .i64 (done.length : Int) ∧ sv = .bool b ∧ F = combT done b (turnFrom n f (countW s) done.length rest S') ∧
        RkS wr q gg n S' B (m + 0 * (ts.length + 1) + done.length) ∧ wr.ownsRow base 9 1 (.slice (some ⟨g, 0, none⟩) ts.length c) ts.length (strsV (done ++ rest)) ∧ FarG RT (fun b => b = gg ∨ b = g) w wr ∧ Only (fun b => B ≤ b) w wr) (fun _ i _ => ts.length - (intOf i).toNat)
      case atStart =>
        exact ⟨[], ts1, S1, false, by simp [hl1], rfl, rfl, rfl, by rw [combT_nil]; exact HF.out, by have := B1.out; simpa using this, by simpa using B2.out, B3.out, B4.out⟩
      case round =>
        clear B1 B2 B3 B4
        obtain ⟨done, rest, S', b, hlen, hrest, rfl, rfl, hFF, b1, b2, b3, b4⟩ := hrel
        rename World => wi
        have HB1 := Lib.hid b1
        have HB2 := Lib.hid b2
        have HB3 := Lib.hid b3
        have HB4 := Lib.hid b4
        have HFF := Lib.hid hFF
        have HRE := Lib.hid hrest
        clear b1 b2 b3 b4 hFF hrest
        obtain _ | ⟨t, r⟩ := rest
        · have hl : done.length = ts.length := by simpa using hlen
          have hFe := HFF.out
          simp only [turnFrom, combT, List.append_nil, Bool.or_false] at hFe
          have HFe := Lib.hid hFe
          clear HFF HF hFe
          have hnl : ¬ (done.length : Int) < (ts.length : Int) := by omega
          cases b
          · have hr : Hid (turnS n f (countW s) ts1 S1 = ((0 : Int), S', done)) := Lib.hid (by rw [HT.out, HFe.out]; rfl)
            go_wp2_with fail
            go_roundw
            case rel => exact ⟨1, S', done, by omega, by go_num, hl, by omega, HR1.out.trans (restS_0 hr.out), HB1.out.more (by omega) (by omega), by have := HB2.out; rw [List.append_nil] at this; exact this, HB3.out, HB4.out⟩
            case measure => simp [intOf]
          · have hr : Hid (turnS n f (countW s) ts1 S1 = ((syS S').1, (syS S').2, done)) := Lib.hid (by rw [HT.out, HFe.out]; rfl)
            have hkk := fun (w3 : World) (h : RkS w3 q gg n (syS S').2 B (m + 0 * (ts.length + 1) + done.length)) => h
            go_wp2_with fail
            refine (rsync_any wi q gg n S' B _ HB1.out).mono ?_
            rintro e w2 ⟨rfl, k1, k2⟩
            have K1 := Lib.hid k1
            have K2 := Lib.hid k2
            have HK := Lib.hid (RkS.gg_row HB1.out HB2.out hne k2)
            clear k1 k2
            generalize hy : syS S' = y at *
            clear hy
            by_cases he : y.1 = 0
            · rw [he]
              have hr : Hid (turnS n f (countW s) ts1 S1 = ((0 : Int), y.2, done)) := Lib.hid (by rw [hr.out, he])
              clear hkk he
              go_wp2_with fail
              go_roundw
              case rel => exact ⟨1, y.2, done, by omega, by go_num, hl, by omega, HR1.out.trans (restS_0 hr.out), K1.out.more (by omega) (by omega), by have := HK.out.1; rw [List.append_nil] at this; exact this, HB3.out.trans (HK.out.2.1.mono fun _ h => .inl h), HB4.out.trans HK.out.2.2⟩
              case measure => simp [intOf]
            · have hr2 : Hid (R = (y.1, y.2, done)) := Lib.hid (by rw [HR1.out]; exact restS_0e hr.out he)
              go_wp2_with fail
              go_ret
              rw [hr2.out]
              exact ⟨rfl, K1.out.more (by omega) (by omega), HB3.out.trans (HK.out.2.1.mono fun _ h => .inl h), HB4.out.trans HK.out.2.2⟩
        · have hdl : done.length < ts.length := by rw [← hlen]; simp
          have hlt : (done.length : Int) < (ts.length : Int) := by omega
          have ht : (done ++ t :: r)[done.length]? = some t := by simp
          have HMD := Lib.hid (rmade_any s done.length wi hs (by omega))
          go_wp2_with fail
          refine HMD.out.mono ?_
          rintro e w2 ⟨rfl, o2⟩
          have O2 : Hid (Only (fun _ => False) wi w2) := Lib.hid (Only.below_ o2)
          clear o2 HMD
          have D2 := Lib.hid (HB1.out.only O2.out)
          have R2 := Lib.hid (O2.out.owns HB2.out (fun _ _ h => h))
          have F2 := Lib.hid (HB3.out.trans (FarG.none O2.out))
          have P2 := Lib.hid (HB4.out.trans (O2.out.mono fun _ h => h.elim))
          clear HB1 HB2 HB3 HB4 O2
          obtain ⟨g', cap, hgv, _, _, hcells⟩ := own_cells R2.out (by omega)
          obtain ⟨rfl, rfl⟩ : g = g' ∧ c = cap := by injection hgv with h1 h2 h3; injection h1 with h1; injection h1 with h1; exact ⟨h1, h3⟩
          have c1 : w2.cell? ⟨g, done.length, none⟩ = some (.string (sB t)) := hcells _ _ (by rw [strsV, List.getElem?_map, ht]; rfl)
          have hlo : (0 : Int) ≤ (done.length : Int) := by omega
          clear hcells hgv ht
          have ht128 : t.length = 128 := ha t (by
            have h : t ∈ ts1.drop done.length := by rw [← HRE.out]; simp
            exact List.mem_of_mem_drop h)
          have hsz : (sB t).size = 128 := by rw [sB_size, ht128]
          have hszm : (sB (madeL s done.length)).size = 128 := by rw [sB_size, madeL_len]
          have hx1 : (sB t).extract 0 127 = sB (t.take 127) := by rw [sB_extract]; simp
          have hx2 : (sB (madeL s done.length)).extract 127 128 = sB ((madeL s done.length).drop 127) := by rw [sB_extract, List.take_of_length_le (by rw [madeL_len]; omega)]
          have hx3 : sB (t.take 127) ++ sB ((madeL s done.length).drop 127) = sB (countW s done.length t) := by rw [sB_append]; rfl
          have hs3 : (sB (t.take 127)).size = 127 := by rw [sB_size, List.length_take]; omega
          have hs4 : (sB ((madeL s done.length).drop 127)).size = 1 := by rw [sB_size, List.length_drop, madeL_len]
          obtain ⟨x, hx⟩ : ∃ x, x = countW s done.length t := ⟨_, rfl⟩
          have hxl : x.length ≤ 1000 := by rw [hx]; exact countW_len s _ t
          have HX : Hid ((countW s) done.length t = x) := Lib.hid (by rw [hx])
          rw [← hx] at hx3
          clear hx
          by_cases hxt : x = t
          · rw [hxt] at hx3
            have HXT : Hid ((countW s) done.length t = t) := Lib.hid (HX.out.trans hxt)
            clear hxl hxt HX
            go_wp2_with fail
            go_quiet (fail)
            go_wp2_with fail
            obtain ⟨w4, hw4⟩ : ∃ w4, w4 = w2.drewN nq := ⟨_, rfl⟩
            rw [← hw4]
            have O4 : Hid (Only (fun _ => False) w2 w4) := Lib.hid (by rw [hw4]; exact (Only.refl _ w2).drewN _)
            have D4 := Lib.hid (D2.out.only O4.out)
            have R4 := Lib.hid (O4.out.owns R2.out (fun _ _ h => h))
            have F4 := Lib.hid (F2.out.trans (FarG.none O4.out))
            have P4 := Lib.hid (P2.out.trans (O4.out.mono fun _ h => h.elim))
            clear c1 D2 R2 F2 P2 O4 hw4 hx1 hx2 hx3 hs3 hs4 hszm
            go_roundw
            case rel =>
              refine ⟨done ++ [t], r, S', b, by simp at hlen ⊢; omega, ?_, by simp, rfl, ?_, ?_, ?_, F4.out, P4.out⟩
              · have := HRE.out
                rw [List.length_append, List.length_singleton, ← List.drop_drop, ← this]; rfl
              · rw [HFF.out, combT_same HXT.out, List.length_append]; rfl
              · have := D4.out
                rw [List.length_append]
                exact this.more (by simp) (by simp; omega)
              · have := R4.out
                rw [List.append_assoc]
                exact this
            case measure => simp [intOf]; omega
          · have hne2 : ((sB t).toList == (sB x).toList) = false := sB_ne (fun e => hxt e.symm)
            have hadd : IntKind.i64.wrap ((f : Int) + (done.length : Int)) = (f : Int) + (done.length : Int) := IntWalk.i64_in _ (by omega)
            have HXT : Hid (¬ (countW s) done.length t = t) := Lib.hid (by rw [HX.out]; exact hxt)
            clear hxt
            go_wp2_with fail
            go_quiet (fail)
            go_wp2_with fail
            obtain ⟨w4, hw4⟩ : ∃ w4, w4 = w2.drewN nq := ⟨_, rfl⟩
            rw [← hw4]
            have O4 : Hid (Only (fun _ => False) w2 w4) := Lib.hid (by rw [hw4]; exact (Only.refl _ w2).drewN _)
            have D4 := Lib.hid (D2.out.only O4.out)
            have R4 := Lib.hid (O4.out.owns R2.out (fun _ _ h => h))
            have F4 := Lib.hid (F2.out.trans (FarG.none O4.out))
            have P4 := Lib.hid (P2.out.trans (O4.out.mono fun _ h => h.elim))
            clear c1 D2 R2 F2 P2 O4 hw4 hx1 hx2 hx3 hs3 hs4 hszm
            refine (rwrite_any w4 q gg n S' B (m + 0 * (ts.length + 1) + done.length) ((f : Int) + (done.length : Int)) x D4.out (by omega) (by omega)).mono ?_
            rintro e w5 ⟨rfl, k1, k2, k3⟩
            have K1 := Lib.hid k1
            have K2 := Lib.hid k2
            have K3 := Lib.hid k3
            clear k1 k2 k3 hne2
            obtain ⟨y, hy⟩ : ∃ y, y = wrS n S' ((f : Int) + (done.length : Int)) x := ⟨_, rfl⟩
            rw [← hy]
            have HY := Lib.hid hy
            clear hy
            by_cases he : y.1 = 0
            · have r5 := K3.out.owns R4.out nRT_string (fun _ _ h => h)
              have f1 : w5.frozen? ⟨g, done.length, none⟩ = false := own_fz r5 _
              obtain ⟨_, hgb⟩ := own_blk r5
              have c3 : ∃ v, w5.cell? ⟨g, done.length, none⟩ = some v := by
                obtain ⟨g', cap, hgv, _, _, hcells⟩ := own_cells r5 (by omega)
                injection hgv with h1
                injection h1 with h1
                injection h1 with h1
                subst h1
                exact ⟨_, hcells _ (.string (sB t)) (by rw [strsV, List.getElem?_map]; simp)⟩
              obtain ⟨v3, c3⟩ := c3
              have HGB2 := Lib.hid hgb
              clear hgb
              have hst := owns_set r5 done.length hdl (.string (sB x))
              rw [strsV_set] at hst
              have HST := Lib.hid hst
              have HRX : Hid (y.1 = 0) := Lib.hid he
              clear hst r5
              have oset : Only (fun b => b = g) w5 (w5.setCell ⟨g, done.length, none⟩ (.string (sB x))) := (Only.refl (fun b => b = g) w5).setCell (p := ⟨g, done.length, none⟩) (.inl rfl) _
              have HS := Lib.hid oset
              clear oset
              go_wp2_with fail
              go_roundw
              case rel =>
                refine ⟨done ++ [x], r, y.2, true, by simp at hlen ⊢; omega, ?_, by simp, rfl, ?_, ?_, HST.out, ?_, ?_⟩
                · have := HRE.out
                  rw [List.length_append, List.length_singleton, ← List.drop_drop, ← this]; rfl
                · rw [HFF.out, combT_turn HXT.out (by rw [HX.out, ← HY.out]; exact HRX.out), List.length_append, HX.out, ← HY.out]; rfl
                · have h1 : RkS w5 q gg n y.2 B (m + 0 * (ts.length + 1) + done.length + 1) := by rw [HY.out]; exact K1.out
                  have := h1.row HGB2.out hne HS.out
                  rw [List.length_append]
                  exact this
                · exact (F4.out.trans (K3.out.mono fun _ h => h.elim)).trans (FarG.of_only HS.out (fun _ h => .inl (.inr h)))
                · exact (P4.out.trans K2.out).trans (HS.out.mono fun b h => by rw [h]; exact HGB.out)
              case measure => simp [intOf]; omega
            · have hr : Hid (R = (y.1, y.2, done ++ t :: r)) := Lib.hid (by
                have hFe := HFF.out
                rw [combT_err HXT.out (by rw [HX.out, ← HY.out]; exact he), HX.out, ← HY.out] at hFe
                have hTe : turnS n f (countW s) ts1 S1 = (y.1, y.2, done ++ t :: r) := by
                  rw [HT.out, hFe]
                  simp [he]
                rw [HR1.out]
                exact restS_0e hTe he)
              have hlen2 := hlen
              go_wp2_with fail
              go_ret
              rw [hr.out]
              have h1 : RkS w5 q gg n y.2 B (m + 0 * (ts.length + 1) + done.length + 1) := by rw [HY.out]; exact K1.out
              exact ⟨rfl, h1.more (by omega) (by omega), F4.out.trans (K3.out.mono fun _ h => h.elim), P4.out.trans K2.out⟩
    · -- step 1
      rw [show ((1 : Nat) : Int) = 1 from rfl]
      have ht1 := HR1.out
      obtain ⟨F, hF⟩ : ∃ F, F = turnFrom n f (fun k _ => madeL s k) 0 ts1 S1 := ⟨_, rfl⟩
      have hT : turnS n f (fun k _ => madeL s k) ts1 S1 = (if F.1 = 0 then (if F.2.2.2 then ((syS F.2.1).1, (syS F.2.1).2, F.2.2.1) else (0, F.2.1, F.2.2.1)) else (F.1, F.2.1, F.2.2.1)) := by rw [hF]; rfl
      have HF := Lib.hid hF
      have HT := Lib.hid hT
      clear ht1 hF hT
      go_wp2_with fail
      go_loopw [10, 11] (fun sv i wr => ∃ (done rest : List (List UInt8)) (S' : Dst) (b : Bool), done.length + rest.length = ts.length ∧ rest = ts1.drop done.length ∧ i = .int .i64 (done.length : Int) ∧ sv = .bool b ∧ F = combT done b (turnFrom n f (fun k _ => madeL s k) done.length rest S') ∧
        RkS wr q gg n S' B (m + 1 * (ts.length + 1) + done.length) ∧ wr.ownsRow base 9 1 (.slice (some ⟨g, 0, none⟩) ts.length c) ts.length (strsV (done ++ rest)) ∧ FarG RT (fun b => b = gg ∨ b = g) w wr ∧ Only (fun b => B ≤ b) w wr) (fun _ i _ => ts.length - (intOf i).toNat)
      case atStart =>
        exact ⟨[], ts1, S1, false, by simp [hl1], rfl, rfl, rfl, by rw [combT_nil]; exact HF.out, by have := B1.out; simpa using this, by simpa using B2.out, B3.out, B4.out⟩
      case round =>
        clear B1 B2 B3 B4
        obtain ⟨done, rest, S', b, hlen, hrest, rfl, rfl, hFF, b1, b2, b3, b4⟩ := hrel
        rename World => wi
        have HB1 := Lib.hid b1
        have HB2 := Lib.hid b2
        have HB3 := Lib.hid b3
        have HB4 := Lib.hid b4
        have HFF := Lib.hid hFF
        have HRE := Lib.hid hrest
        clear b1 b2 b3 b4 hFF hrest
        obtain _ | ⟨t, r⟩ := rest
        · have hl : done.length = ts.length := by simpa using hlen
          have hFe := HFF.out
          simp only [turnFrom, combT, List.append_nil, Bool.or_false] at hFe
          have HFe := Lib.hid hFe
          clear HFF HF hFe
          have hnl : ¬ (done.length : Int) < (ts.length : Int) := by omega
          cases b
          · have hr : Hid (turnS n f (fun k _ => madeL s k) ts1 S1 = ((0 : Int), S', done)) := Lib.hid (by rw [HT.out, HFe.out]; rfl)
            go_wp2_with fail
            go_roundw
            case rel => exact ⟨2, S', done, by omega, by go_num, hl, by omega, HR1.out.trans (restS_1 hr.out), HB1.out.more (by omega) (by omega), by have := HB2.out; rw [List.append_nil] at this; exact this, HB3.out, HB4.out⟩
            case measure => simp [intOf]
          · have hr : Hid (turnS n f (fun k _ => madeL s k) ts1 S1 = ((syS S').1, (syS S').2, done)) := Lib.hid (by rw [HT.out, HFe.out]; rfl)
            have hkk := fun (w3 : World) (h : RkS w3 q gg n (syS S').2 B (m + 1 * (ts.length + 1) + done.length)) => h
            go_wp2_with fail
            refine (rsync_any wi q gg n S' B _ HB1.out).mono ?_
            rintro e w2 ⟨rfl, k1, k2⟩
            have K1 := Lib.hid k1
            have K2 := Lib.hid k2
            have HK := Lib.hid (RkS.gg_row HB1.out HB2.out hne k2)
            clear k1 k2
            generalize hy : syS S' = y at *
            clear hy
            by_cases he : y.1 = 0
            · rw [he]
              have hr : Hid (turnS n f (fun k _ => madeL s k) ts1 S1 = ((0 : Int), y.2, done)) := Lib.hid (by rw [hr.out, he])
              clear hkk he
              go_wp2_with fail
              go_roundw
              case rel => exact ⟨2, y.2, done, by omega, by go_num, hl, by omega, HR1.out.trans (restS_1 hr.out), K1.out.more (by omega) (by omega), by have := HK.out.1; rw [List.append_nil] at this; exact this, HB3.out.trans (HK.out.2.1.mono fun _ h => .inl h), HB4.out.trans HK.out.2.2⟩
              case measure => simp [intOf]
            · have hr2 : Hid (R = (y.1, y.2, done)) := Lib.hid (by rw [HR1.out]; exact hr.out)
              go_wp2_with fail
              go_ret
              rw [hr2.out]
              exact ⟨rfl, K1.out.more (by omega) (by omega), HB3.out.trans (HK.out.2.1.mono fun _ h => .inl h), HB4.out.trans HK.out.2.2⟩
        · have hdl : done.length < ts.length := by rw [← hlen]; simp
          have hlt : (done.length : Int) < (ts.length : Int) := by omega
          have ht : (done ++ t :: r)[done.length]? = some t := by simp
          have HMD := Lib.hid (rmade_any s done.length wi hs (by omega))
          go_wp2_with fail
          refine HMD.out.mono ?_
          rintro e w2 ⟨rfl, o2⟩
          have O2 : Hid (Only (fun _ => False) wi w2) := Lib.hid (Only.below_ o2)
          clear o2 HMD
          have D2 := Lib.hid (HB1.out.only O2.out)
          have R2 := Lib.hid (O2.out.owns HB2.out (fun _ _ h => h))
          have F2 := Lib.hid (HB3.out.trans (FarG.none O2.out))
          have P2 := Lib.hid (HB4.out.trans (O2.out.mono fun _ h => h.elim))
          clear HB1 HB2 HB3 HB4 O2
          obtain ⟨g', cap, hgv, _, _, hcells⟩ := own_cells R2.out (by omega)
          obtain ⟨rfl, rfl⟩ : g = g' ∧ c = cap := by injection hgv with h1 h2 h3; injection h1 with h1; injection h1 with h1; exact ⟨h1, h3⟩
          have c1 : w2.cell? ⟨g, done.length, none⟩ = some (.string (sB t)) := hcells _ _ (by rw [strsV, List.getElem?_map, ht]; rfl)
          have hlo : (0 : Int) ≤ (done.length : Int) := by omega
          clear hcells hgv ht
          obtain ⟨x, hx⟩ : ∃ x, x = madeL s done.length := ⟨_, rfl⟩
          have hxl : x.length ≤ 1000 := by rw [hx]; rw [madeL_len]; omega
          have HX : Hid ((fun k _ => madeL s k) done.length t = x) := Lib.hid (by rw [hx])
          rw [← hx]
          clear hx
          by_cases hxt : x = t
          · rw [hxt]
            have HXT : Hid ((fun k _ => madeL s k) done.length t = t) := Lib.hid (HX.out.trans hxt)
            clear hxl hxt HX
            go_wp2_with fail
            obtain ⟨w4, hw4⟩ : ∃ w4, w4 = w2 := ⟨_, rfl⟩
            rw [← hw4] at D2 R2 F2 P2
            rw [← hw4]
            have D4 := D2
            have R4 := R2
            have F4 := F2
            have P4 := P2
            clear c1 D2 R2 F2 P2 hw4
            go_roundw
            case rel =>
              refine ⟨done ++ [t], r, S', b, by simp at hlen ⊢; omega, ?_, by simp, rfl, ?_, ?_, ?_, F4.out, P4.out⟩
              · have := HRE.out
                rw [List.length_append, List.length_singleton, ← List.drop_drop, ← this]; rfl
              · rw [HFF.out, combT_same HXT.out, List.length_append]; rfl
              · have := D4.out
                rw [List.length_append]
                exact this.more (by simp) (by simp; omega)
              · have := R4.out
                rw [List.append_assoc]
                exact this
            case measure => simp [intOf]; omega
          · have hne2 : ((sB t).toList == (sB x).toList) = false := sB_ne (fun e => hxt e.symm)
            have hadd : IntKind.i64.wrap ((f : Int) + (done.length : Int)) = (f : Int) + (done.length : Int) := IntWalk.i64_in _ (by omega)
            have HXT : Hid (¬ (fun k _ => madeL s k) done.length t = t) := Lib.hid (by rw [HX.out]; exact hxt)
            clear hxt
            go_wp2_with fail
            obtain ⟨w4, hw4⟩ : ∃ w4, w4 = w2 := ⟨_, rfl⟩
            rw [← hw4] at D2 R2 F2 P2
            rw [← hw4]
            have D4 := D2
            have R4 := R2
            have F4 := F2
            have P4 := P2
            clear c1 D2 R2 F2 P2 hw4
            refine (rwrite_any w4 q gg n S' B (m + 1 * (ts.length + 1) + done.length) ((f : Int) + (done.length : Int)) x D4.out (by omega) (by omega)).mono ?_
            rintro e w5 ⟨rfl, k1, k2, k3⟩
            have K1 := Lib.hid k1
            have K2 := Lib.hid k2
            have K3 := Lib.hid k3
            clear k1 k2 k3 hne2
            obtain ⟨y, hy⟩ : ∃ y, y = wrS n S' ((f : Int) + (done.length : Int)) x := ⟨_, rfl⟩
            rw [← hy]
            have HY := Lib.hid hy
            clear hy
            by_cases he : y.1 = 0
            · have r5 := K3.out.owns R4.out nRT_string (fun _ _ h => h)
              have f1 : w5.frozen? ⟨g, done.length, none⟩ = false := own_fz r5 _
              obtain ⟨_, hgb⟩ := own_blk r5
              have c3 : ∃ v, w5.cell? ⟨g, done.length, none⟩ = some v := by
                obtain ⟨g', cap, hgv, _, _, hcells⟩ := own_cells r5 (by omega)
                injection hgv with h1
                injection h1 with h1
                injection h1 with h1
                subst h1
                exact ⟨_, hcells _ (.string (sB t)) (by rw [strsV, List.getElem?_map]; simp)⟩
              obtain ⟨v3, c3⟩ := c3
              have HGB2 := Lib.hid hgb
              clear hgb
              have hst := owns_set r5 done.length hdl (.string (sB x))
              rw [strsV_set] at hst
              have HST := Lib.hid hst
              have HRX : Hid (y.1 = 0) := Lib.hid he
              clear hst r5
              have oset : Only (fun b => b = g) w5 (w5.setCell ⟨g, done.length, none⟩ (.string (sB x))) := (Only.refl (fun b => b = g) w5).setCell (p := ⟨g, done.length, none⟩) (.inl rfl) _
              have HS := Lib.hid oset
              clear oset
              go_wp2_with fail
              go_roundw
              case rel =>
                refine ⟨done ++ [x], r, y.2, true, by simp at hlen ⊢; omega, ?_, by simp, rfl, ?_, ?_, HST.out, ?_, ?_⟩
                · have := HRE.out
                  rw [List.length_append, List.length_singleton, ← List.drop_drop, ← this]; rfl
                · rw [HFF.out, combT_turn HXT.out (by rw [HX.out, ← HY.out]; exact HRX.out), List.length_append, HX.out, ← HY.out]; rfl
                · have h1 : RkS w5 q gg n y.2 B (m + 1 * (ts.length + 1) + done.length + 1) := by rw [HY.out]; exact K1.out
                  have := h1.row HGB2.out hne HS.out
                  rw [List.length_append]
                  exact this
                · exact (F4.out.trans (K3.out.mono fun _ h => h.elim)).trans (FarG.of_only HS.out (fun _ h => .inl (.inr h)))
                · exact (P4.out.trans K2.out).trans (HS.out.mono fun b h => by rw [h]; exact HGB.out)
              case measure => simp [intOf]; omega
            · have hr : Hid (R = (y.1, y.2, done ++ t :: r)) := Lib.hid (by
                have hFe := HFF.out
                rw [combT_err HXT.out (by rw [HX.out, ← HY.out]; exact he), HX.out, ← HY.out] at hFe
                have hTe : turnS n f (fun k _ => madeL s k) ts1 S1 = (y.1, y.2, done ++ t :: r) := by
                  rw [HT.out, hFe]
                  simp [he]
                rw [HR1.out]
                exact hTe)
              have hlen2 := hlen
              go_wp2_with fail
              go_ret
              rw [hr.out]
              have h1 : RkS w5 q gg n y.2 B (m + 1 * (ts.length + 1) + done.length + 1) := by rw [HY.out]; exact K1.out
              exact ⟨rfl, h1.more (by omega) (by omega), F4.out.trans (K3.out.mono fun _ h => h.elim), P4.out.trans K2.out⟩
    · have hr : Hid (R = (0, S1, ts1)) := Lib.hid HR1.out
      go_wp2_with fail
      go_ret
      rw [hr.out]
      exact ⟨rfl, B1.out.more (by omega) (by omega), B3.out, B4.out⟩
end Go.Proofs.YtmneflpjoaocbaaGreat
/- The document's book: the records of a stream. No conditions beyond what each states. -/
namespace Go.Proofs.YtmneflpjoaocbaaGreat
set_option maxRecDepth 100000
open Go.RowKit
set_option linter.unusedVariables false
theorem fs_len (l : List (Nat × ByteArray)) : l.length ≤ gsum l := by
  induction l with
  | nil => simp
  | cons a l ih => rw [gsum_cons, List.length_cons]; unfold fsize; omega
set_option maxHeartbeats 4000000 in
set_option maxRecDepth 100000 in
theorem rrecs_any (s : List UInt8) (w : World) (hsl : s.length ≤ 1000000) :
    Calls Tryz.prog 47 #[.string (sB s)] w fun e w' => ∃ v, e = .returned (.tuple #[v, .int .i64 ((gsum (recsF (framesOf (sB s))) : Nat) : Int)]) ∧
      w'.ownsRow w.heap.size 9 1 v (recsF (framesOf (sB s))).length ((recsF (framesOf (sB s))).map fun x => .string x.2) ∧ Only (fun _ => False) w w' := by
  obtain ⟨Rc, hRc⟩ : ∃ Rc, Rc = recsF (framesOf (sB s)) := ⟨_, rfl⟩
  rw [← hRc]
  have HRc := Lib.hid hRc
  clear hRc
  go_enter Tryz.func47, Tryz.ntmps47
  go_wp2_with fail
  refine (vscan_any (sB s) 131072 w (by rw [sB_size]; omega) (by omega) (by omega) (by rw [sB_size]; omega)).mono ?_
  rintro e w5 ⟨vf, rfl, h5, o5⟩
  have H5 := Lib.hid h5
  have O5 : Hid (Only (fun _ => False) w w5) := Lib.hid (Only.below_ o5)
  clear h5 o5
  have hfo := framesOf_ok (sB s)
  rw [sB_size] at hfo
  have hfr : (scanFrom (sB s) 131072 0).1 = framesOf (sB s) := rfl
  rw [hfr] at H5
  obtain ⟨fs, hfs⟩ : ∃ fs, fs = framesOf (sB s) := ⟨_, rfl⟩
  rw [← hfs] at H5 hfo
  generalize (scanFrom (sB s) 131072 0).2.1 = ga
  generalize (scanFrom (sB s) 131072 0).2.2 = ge
  clear hfr
  have hfsl : fs.length ≤ 1000000 := by
    have := fs_len fs
    omega
  have HFO := Lib.hid hfo
  have HFS : Hid (Rc = recsF fs) := Lib.hid (by rw [HRc.out, hfs])
  obtain ⟨Av, cv, rfl, _⟩ := own_form H5.out
  clear hfo hfs HRc
  go_wp2_with fail
  obtain ⟨i0, hi, hz0, hz1, hz2⟩ := info_parts strInfo
  have HI := Lib.hid hi
  clear hi
  go_loopw [7, 8, 9] (fun rv gd i wr => ∃ k : Nat, k ≤ fs.length ∧ i = .int .i64 k ∧ gd = .int .i64 (gsum (fs.take k) : Nat) ∧ (∀ x ∈ fs.take k, x.1 = 1) ∧ wr.ownsRow w5.heap.size 9 1 rv k ((fs.take k).map fun x => .string x.2) ∧ Only (fun _ => False) w5 wr) (fun _ _ i _ => fs.length - (intOf i).toNat)
  case atStart => exact ⟨0, by omega, rfl, rfl, by simp, World.ownsRow_nil _ _ _ _, Only.refl _ _⟩
  case round =>
    obtain ⟨k, hk, rfl, rfl, hall, b1, b2⟩ := hrel
    have B1 := Lib.hid b1
    have B2 := Lib.hid b2
    have HAL := Lib.hid hall
    have hgk := gsum_take fs k
    have hfo1 := HFO.out.1
    clear b1 b2 hall
    by_cases hlt : k < fs.length
    · obtain ⟨x, hx⟩ : ∃ x, fs[k]? = some x := ⟨_, List.getElem?_eq_getElem hlt⟩
      obtain ⟨hx1, hx2⟩ := HFO.out.2 x (List.mem_of_getElem? hx)
      obtain ⟨hc1, hc2⟩ := fcells_get fs k x hx
      obtain ⟨ad, had, hadl, hcells⟩ := (Reads.of_own (B2.out.owns H5.out (fun _ _ h => h))).2 (by omega)
      obtain ⟨gv, rfl⟩ : ∃ gv, ad = ⟨gv, 0, none⟩ := by
        rcases owns_form H5.out with ⟨h, h0⟩ | ⟨g', cap', h, _⟩
        · omega
        · injection h with h1 h2 h3
          rw [h1] at had
          injection had with had
          exact ⟨g', had.symm⟩
      subst had
      have hlv : gv < wr.heap.size := hadl
      have c0 : wr.cell? ⟨gv, k * 2, none⟩ = some (.int .u8 (x.1 : Int)) := by
        have := hcells _ _ hc1
        rwa [addr_plus, Nat.zero_add] at this
      have c1 : wr.cell? ⟨gv, k * 2 + 1, none⟩ = some (.string x.2) := by
        have := hcells _ _ hc2
        rwa [addr_plus, Nat.zero_add] at this
      have hlti : (k : Int) < (fs.length : Int) := by omega
      have hloi : (0 : Int) ≤ (k : Int) := by omega
      have hsn : fs.take (k + 1) = fs.take k ++ [x] := by rw [List.take_add_one, hx]; rfl
      have HSN := Lib.hid hsn
      have HXF := Lib.hid hx
      clear hcells hc1 hc2 hsn hx
      by_cases ht : x.1 = 1
      · have hti : (x.1 : Int) = 1 := by omega
        have hg1 : gsum (fs.take (k + 1)) = gsum (fs.take k) + fsize x.2.size := by rw [HSN.out, gsum_snoc]
        have hgk1 := gsum_take fs (k + 1)
        have HG1 := Lib.hid hg1
        have hfz := fsize_le x.2.size hx1
        have HC1 := Lib.hid c1
        clear hg1
        obtain ⟨As, cs, hsv, _⟩ := own_form B1.out
        subst hsv
        go_wp2_with (at_builtin; refine wpList_append_any _ rfl (.tmp 28) (.tmp 34) 38 rfl w5.heap.size 9 i0 (.string ⟨#[]⟩) 1 16 Tryz.underlying38 HI.out hz0 hz1 hz2 rfl (by decide) _ _ _ rfl (((Only.refl (fun _ => False) wr).alloc _).owns B1.out (fun _ _ h => h)) _ _ _ _ _ rfl (reads_one _) ?c2 ?c3 ?c4 ?c5 ?_)
        case c2 => first | rfl | (intro u hu; simp at hu; subst hu; rfl)
        case c3 => unfold maxLen; omega
        case c4 => omega
        case c5 => have := B2.out.size; simp; omega
        intro v' w' hown' hgrow hnew
        have hall : Only (fun _ => False) w5 w' := B2.out.trans' (T := fun k => w5.heap.size ≤ k) (((Only.refl (fun k => w5.heap.size ≤ k) wr).alloc _).grown hgrow (fun k hk => .inl ((B1.out.lt k hk).1))) (fun i hi => .inr hi)
        have HA := Lib.hid hall
        have HOW := Lib.hid hown'
        have d1 : w'.cell? ⟨gv, k * 2 + 1, none⟩ = some (.string x.2) := by
          obtain ⟨hc1, hc2⟩ := fcells_get fs k x HXF.out
          obtain ⟨ad, had, hadl, hcells⟩ := (Reads.of_own (hall.owns H5.out (fun _ _ h => h))).2 (by omega)
          injection had with had
          subst had
          have := hcells _ _ hc2
          rwa [addr_plus, Nat.zero_add] at this
        have HRW : Hid (Calls Tryz.prog 55 #[.int .u8 1, .string x.2] w' fun e w'' => e = .returned (.string (fraw 1 x.2)) ∧ Only (fun _ => False) w' w'') := Lib.hid (by
          refine (fraw_any 1 x.2 w' (by omega) (by omega)).mono ?_
          rintro e w'' ⟨he, hb⟩
          exact ⟨he, Only.below_ hb⟩)
        have hrz : (fraw 1 x.2).size = fsize x.2.size := by
          have := frB_len x.2 hx1
          simpa [frB] using this
        clear hown' hgrow hnew hall c0 c1 HC1
        go_wp2_with fail
        refine HRW.out.mono ?_
        rintro e w'' ⟨rfl, o6⟩
        have O6 := Lib.hid o6
        have hwr : IntKind.i64.wrap ((gsum (fs.take k) : Int) + (fsize x.2.size : Int)) = ((gsum (fs.take (k + 1)) : Nat) : Int) := by rw [HG1.out, IntWalk.i64_in _ (by omega)]; omega
        clear d1 HRW o6
        go_wp2_with fail
        go_roundw
        case rel =>
          refine ⟨k + 1, by omega, by go_num, ?_, ?_, ?_, HA.out.trans O6.out⟩
          · rw [HG1.out]
          · intro y hy
            rw [HSN.out] at hy
            rcases List.mem_append.1 hy with h | h
            · exact HAL.out y h
            · rw [List.mem_singleton.1 h]; exact ht
          · rw [HSN.out, List.map_append, List.map_take]; exact O6.out.owns HOW.out (fun _ _ h => h)
        case measure => simp [intOf]; omega
      · have hti : ¬ (x.1 : Int) = 1 := by omega
        obtain ⟨As, cs, hsv, _⟩ := own_form B1.out
        subst hsv
        have hFe : Rc = fs.take k := by
          rw [HFS.out]
          refine recsF_at _ k HAL.out (fun y hy => ?_)
          rw [HXF.out] at hy
          injection hy with hy
          rw [← hy]; exact ht
        have hl : (fs.take k).length = k := by rw [List.length_take]; omega
        have HFE := Lib.hid hFe
        have HL := Lib.hid hl
        clear hFe hl
        go_wp2_with fail
        go_ret2
        rw [HFE.out]
        exact ⟨_, rfl, by rw [HL.out]; exact owns_base B1.out O5.out.size, O5.out.trans B2.out⟩
    · obtain rfl : k = fs.length := by omega
      obtain ⟨As, cs, hsv, _⟩ := own_form B1.out
      subst hsv
      have hFe : Rc = fs.take fs.length := by
        rw [HFS.out]
        refine recsF_at _ fs.length HAL.out (fun y hy => ?_)
        rw [List.getElem?_eq_none (Nat.le_refl _)] at hy
        cases hy
      have hl : (fs.take fs.length).length = fs.length := by simp
      have HFE := Lib.hid hFe
      have HL := Lib.hid hl
      clear hFe hl
      go_wp2_with fail
      go_ret2
      rw [HFE.out]
      exact ⟨_, rfl, by rw [HL.out]; exact owns_base B1.out O5.out.size, O5.out.trans B2.out⟩
end Go.Proofs.YtmneflpjoaocbaaGreat
/- The document's book: Open, Clear. No conditions beyond what each states. -/
namespace Go.Proofs.YtmneflpjoaocbaaGreat
set_option maxRecDepth 100000
open Go.RowKit
set_option linter.unusedVariables false
/-- a book is opened: the error, the disk then -/
def opS (n : Nat) (f nn : Int) (S : Dst) : Int × Dst :=
  if mayB n f nn then (if S.still then (51, S) else ((anewS n f.toNat (openX f.toNat nn.toNat fun j => S.cur.getD j []) (openT f.toNat nn.toNat fun j => S.cur.getD j []) S).1, (anewS n f.toNat (openX f.toNat nn.toNat fun j => S.cur.getD j []) (openT f.toNat nn.toNat fun j => S.cur.getD j []) S).2.1)) else (2, S)
/-- a part is cleared -/
def clS (n : Nat) (f nn : Int) (S : Dst) : Int × Dst :=
  if mayB n f nn then (if S.still then (51, S) else ((anewS n f.toNat [] (openT f.toNat nn.toNat fun j => S.cur.getD j []) S).1, (anewS n f.toNat [] (openT f.toNat nn.toNat fun j => S.cur.getD j []) S).2.1)) else (2, S)
theorem cur_len {n : Nat} {S : Dst} (h : SecOk n S.l S.g) {k : Nat} (hk : k < n) : (S.cur.getD k []).length = 128 := by
  have h2 := syncW_ok h
  have hl : k < S.cur.length := by show k < (syncW S.l S.g).length; rw [h2.len]; exact hk
  have e : S.cur.getD k [] = S.cur[k] := by rw [List.getD_eq_getElem?_getD, List.getElem?_eq_getElem hl]; rfl
  rw [e]
  exact h2.all _ (List.getElem_mem hl)
theorem recsF_le (l : List (Nat × ByteArray)) : gsum (recsF l) ≤ gsum l := by
  induction l with
  | nil => simp [recsF]
  | cons a l ih =>
    unfold recsF at ih ⊢
    rw [List.takeWhile_cons]
    split
    · rw [gsum_cons, gsum_cons]; omega
    · simp [gsum]
section
variable {T : TypeId → Prop} {X Y : Nat → Prop} {w w' : World}
/-- what turns only new blocks besides -/
theorem FarG.new (h : FarG T X w w') (hx : ∀ k, X k → Y k ∨ w.heap.size ≤ k) : FarG T Y w w' :=
  ⟨h.os, h.tape, h.output, h.size, fun k t cs hb ht hy => h.blk k t cs hb ht (fun e => by
    rcases hx k e with h1 | h1
    · exact hy h1
    · have := hb.lt; omega)⟩
theorem RkS.ok {q gg n : Nat} {S : Dst} {B m : Nat} (h : RkS w q gg n S B m) : SecOk n S.l S.g := by
  obtain ⟨_, _, c, A, c2, D⟩ := h
  exact D.ok
end
set_option maxHeartbeats 4000000 in
set_option maxRecDepth 100000 in
theorem ropen_any (w : World) (q gg n : Nat) (S : Dst) (B m : Nat) (f nn : Int) (D : RkS w q gg n S B m) (hm : m + 12000 ≤ 1000000) :
    Calls Tryz.prog 22 #[.pointer (some ⟨q, 0, none⟩), .int .i64 f, .int .i64 nn] w fun e w' =>
      RkS w' q gg n (opS n f nn S).2 B (m + 2 * n + 2) ∧ FarG RT (fun b => b = gg) w w' ∧ Only (fun b => B ≤ b) w w' ∧
      (((opS n f nn S).1 = 0 ∧ ∃ x v, e = .returned (.tuple #[.pointer (some ⟨x, 0, none⟩), v, .int .i64 0]) ∧ w.heap.size ≤ x ∧ BookR w' x q f nn (sB (openX f.toNat nn.toNat fun j => S.cur.getD j [])) false ∧
          w'.ownsRow w.heap.size 9 1 v (openF f.toNat nn.toNat fun j => S.cur.getD j []).length ((openF f.toNat nn.toNat fun j => S.cur.getD j []).map fun x => .string x.2)) ∨
       ((opS n f nn S).1 ≠ 0 ∧ e = .returned (.tuple #[.pointer none, .slice none 0 0, .int .i64 (opS n f nn S).1]))) := by
  obtain ⟨R, hR⟩ : ∃ R, R = opS n f nn S := ⟨_, rfl⟩
  rw [← hR]
  have HR := Lib.hid hR
  have HD := Lib.hid D
  have hn4 : n ≤ 4096 := D.1.2.1
  obtain ⟨PP, hPP⟩ : ∃ PP : Ending → World → Prop, PP = fun e w' => RkS w' q gg n R.2 B (m + 2 * n + 2) ∧ FarG RT (fun b => b = gg) w w' ∧ Only (fun b => B ≤ b) w w' ∧
      ((R.1 = 0 ∧ ∃ x v, e = .returned (.tuple #[.pointer (some ⟨x, 0, none⟩), v, .int .i64 0]) ∧ w.heap.size ≤ x ∧ BookR w' x q f nn (sB (openX f.toNat nn.toNat fun j => S.cur.getD j [])) false ∧
          w'.ownsRow w.heap.size 9 1 v (openF f.toNat nn.toNat fun j => S.cur.getD j []).length ((openF f.toNat nn.toNat fun j => S.cur.getD j []).map fun x => .string x.2)) ∨
       (R.1 ≠ 0 ∧ e = .returned (.tuple #[.pointer none, .slice none 0 0, .int .i64 R.1]))) := ⟨_, rfl⟩
  rw [← hPP]
  have HPP := Lib.hid hPP
  clear hR D hPP
  by_cases hmay : mayB n f nn = true
  · obtain ⟨h1, h2, h3, h4⟩ : 0 ≤ f ∧ 1 ≤ nn ∧ f ≤ (n : Int) ∧ nn ≤ (n : Int) - f := by unfold mayB at hmay; simpa using hmay
    obtain ⟨f, rfl⟩ : ∃ j : Nat, f = j := ⟨f.toNat, by omega⟩
    obtain ⟨nn, rfl⟩ : ∃ j : Nat, nn = j := ⟨nn.toNat, by omega⟩
    have hM := Lib.hid (rmay_any w q gg n S B m f nn HD.out)
    rw [hmay] at hM
    by_cases hst : S.still = true
    · have HRe : Hid (R = (51, S)) := Lib.hid (by rw [HR.out]; unfold opS; rw [if_pos hmay, if_pos hst])
      have HL := Lib.hid (rlist_still w q gg n S B m f nn HD.out (by omega) (by omega) hst)
      clear hmay hst
      go_enter Tryz.func22, Tryz.ntmps22
      go_wp2_with fail
      refine hM.out.mono ?_
      rintro e w1 ⟨rfl, rfl⟩
      go_wp2_with fail
      refine HL.out.mono ?_
      rintro e w1 ⟨rfl, rfl⟩
      go_wp2_with fail
      (try go_ret3)
      rw [HPP.out, HRe.out]
      exact ⟨HD.out.more (by omega) (by have := HD.out.1.2.1; omega), FarG.refl _ _ _, Only.refl _ _, .inr ⟨by simp, rfl⟩⟩
    · have hst' : S.still = false := by simpa using hst
      obtain ⟨C, hC⟩ : ∃ C : Nat → List UInt8, C = fun j => S.cur.getD j [] := ⟨_, rfl⟩
      obtain ⟨T, hT⟩ : ∃ T, T = openT f nn C := ⟨_, rfl⟩
      have hTl : T.length = nn := by rw [hT]; simp [openT]
      have hTa : ∀ t ∈ T, t.length = 128 := by
        intro t ht
        rw [hT] at ht
        obtain ⟨j, hj, rfl⟩ := List.mem_map.1 ht
        rw [hC]
        exact cur_len HD.out.ok (by have := List.mem_range.1 hj; omega)
      obtain ⟨X, hX⟩ : ∃ X, X = openX f nn C := ⟨_, rfl⟩
      have HRe : Hid (R = ((anewS n f X T S).1, (anewS n f X T S).2.1)) := Lib.hid (by rw [HR.out]; unfold opS; rw [if_pos hmay, if_neg hst, hX, hT, hC]; rfl)
      have HL := Lib.hid (rlist_any w q gg n S B m f nn HD.out (by omega) hst')
      rw [← hC, ← hT] at HL
      have HT := Lib.hid hT
      have HX := Lib.hid hX
      have HTL := Lib.hid hTl
      have HTA := Lib.hid hTa
      have HC := Lib.hid hC
      clear hmay hst hst' hT hX hTl hTa hC
      go_enter Tryz.func22, Tryz.ntmps22
      go_wp2_with fail
      refine hM.out.mono ?_
      rintro e w1 ⟨rfl, rfl⟩
      go_wp2_with fail
      refine HL.out.mono ?_
      rintro e w3 ⟨v, rfl, h3, o3⟩
      obtain ⟨g, cap, hv, hg0, hg1⟩ : ∃ g cap, v = .slice (some ⟨g, 0, none⟩) nn cap ∧ w.heap.size ≤ g ∧ g < w3.heap.size := by
        obtain ⟨g, cap, h1, h2, h3, _⟩ := own_cells h3 (by omega)
        exact ⟨g, cap, h1, h2, h3⟩
      subst hv
      have H3 := Lib.hid h3
      have O3 := Lib.hid o3
      have D3 := Lib.hid (HD.out.only o3)
      have hgg : gg < w.heap.size ∧ B ≤ w.heap.size := by
        obtain ⟨⟨h1, _⟩, _, c, A, c2, D⟩ := HD.out
        have := D.lts h1
        exact ⟨this.1, by omega⟩
      have HGG := Lib.hid hgg
      clear h3 o3 hM HL hgg
      go_wp2_with fail
      have hst := rstream_any T (some ⟨g, 0, none⟩) cap w3 ⟨fun j hj => by
          obtain ⟨g', cap', hgv, _, hgl, hc⟩ := own_cells H3.out (by omega)
          have hjT : j < T.length := by simpa using hj
          refine ⟨g', 0, by injection hgv, hgl, ?_⟩
          rw [Nat.zero_add]
          exact hc j _ (by rw [strsV, List.getElem?_map, List.getElem?_eq_getElem hjT]; simp)⟩ HTA.out (by rw [HTL.out]; omega)
      rw [HTL.out] at hst
      refine hst.mono ?_
      rintro e w4 ⟨rfl, rfl⟩
      clear hst
      obtain ⟨s, hs⟩ : ∃ s, s = streamL T := ⟨_, rfl⟩
      rw [← hs]
      have HS := Lib.hid hs
      have hsl : s.length ≤ 1000000 := by have := stream_len T; rw [hs]; have := HTL.out; omega
      clear hs
      go_wp2_with fail
      refine (rrecs_any s w3 hsl).mono ?_
      rintro e w5 ⟨vr, rfl, h5, o5⟩
      have hFs : recsF (framesOf (sB s)) = openF f nn C := by unfold openF; rw [← HT.out, ← HS.out]
      rw [hFs] at h5
      rw [hFs]
      have hgs : gsum (openF f nn C) ≤ s.length := by
        have h1 := framesOf_ok (sB s)
        rw [sB_size] at h1
        rw [← hFs]
        exact Nat.le_trans (recsF_le _) h1.1
      have hXe : X = s.take (gsum (openF f nn C)) := by
        rw [HX.out]
        unfold openX
        rw [← HT.out, ← HS.out]
      clear hFs
      obtain ⟨G, hG⟩ : ∃ G, G = gsum (openF f nn C) := ⟨_, rfl⟩
      rw [← hG] at hgs hXe
      rw [← hG]
      have hgi : ((G : Nat) : Int) ≤ (s.length : Int) := by omega
      have hsz : (sB s).size = s.length := sB_size s
      have hex : (sB s).extract 0 G = sB X := by rw [sB_extract, hXe]; rfl
      have hXl : X.length ≤ 1000000000 := by rw [hXe, List.length_take]; omega
      have H5 := Lib.hid h5
      have O5 := Lib.hid o5
      have D5 := Lib.hid (D3.out.only o5)
      have HGX := Lib.hid (show gsum (openF f nn C) = G from hG.symm)
      obtain ⟨Av, cv, hvr, _⟩ := own_form H5.out
      subst hvr
      have R5 := Lib.hid (o5.owns H3.out (fun _ _ h => h))
      clear h5 o5 hXe hG
      go_wp2_with fail
      have han := ranew_any w5 q gg n f S B m T X g cap w.heap.size D5.out (by rw [HTL.out]; exact R5.out) (by have := HGG.out.2; omega) (by have := HGG.out.1; omega) (by omega) (by rw [HTL.out]; omega) (by omega) hXl HTA.out
      rw [HTL.out] at han
      obtain ⟨Z, hZ⟩ : ∃ Z, Z = anewS n f X T S := ⟨_, rfl⟩
      rw [← hZ] at han HRe
      refine han.mono ?_
      rintro e w6 ⟨rfl, d6, f6, o6⟩
      have HRE : Hid (R = (Z.1, Z.2.1)) := HRe
      have D6 := Lib.hid (d6.more (m' := m + 2 * n + 2) (by omega) (by omega))
      have F6 : Hid (FarG RT (fun b => b = gg) w w6) := Lib.hid ((((FarG.none O3.out).trans (FarG.none O5.out)).trans f6).new (fun k hk => by
        rcases hk with h | h
        · exact .inl h
        · exact .inr (by omega)))
      have O6 : Hid (Only (fun b => B ≤ b) w w6) := Lib.hid (((O3.out.mono fun _ h => h.elim).trans (O5.out.mono fun _ h => h.elim)).trans o6)
      have R6 : Hid (w6.ownsRow w3.heap.size 9 1 (.slice Av (openF f nn C).length cv) (openF f nn C).length ((openF f nn C).map fun x => .string x.2)) := Lib.hid (f6.owns H5.out nRT_string (fun k hk => by
        have := (H5.out.lt k hk).1
        have := HGG.out.1
        have := O3.out.size
        omega))
      clear d6 f6 o6 han hZ D5 R5 D3 H3 HRe
      by_cases hz : Z.1 = 0
      · rw [hz]
        rw [hz] at HRE
        obtain ⟨w7, hw7⟩ : ∃ w7, w7 = w6.alloc (.cells #[.pointer (some ⟨q, 0, none⟩), .int .i64 (f : Int), .int .i64 (nn : Int), .string (sB X), .bool false] 44) := ⟨_, rfl⟩
        have o7 : Only (fun _ => False) w6 w7 := by rw [hw7]; exact (Only.refl _ w6).alloc _
        have HB7 : Hid (BookR w7 w6.heap.size q f nn (sB X) false) := Lib.hid (by rw [hw7]; exact Blk.new w6 _ _)
        have O7 := Lib.hid o7
        have HW7 := Lib.hid hw7.symm
        clear o7 hw7 hz
        go_wp2_with fail
        rw [HW7.out]
        (try go_ret3)
        rw [HPP.out, HRE.out]
        rw [Int.toNat_natCast, Int.toNat_natCast]
        rw [← HC.out]
        refine ⟨D6.out.only O7.out, F6.out.trans (FarG.none O7.out), O6.out.trans (O7.out.mono fun _ h => h.elim), .inl ⟨rfl, w6.heap.size, _, rfl, O6.out.size, ?_, owns_base (O7.out.owns R6.out (fun _ _ h => h)) O3.out.size⟩⟩
        have := HB7.out
        rw [HX.out] at this
        exact this
      · go_wp2_with fail
        (try go_ret3)
        rw [HPP.out, HRE.out]
        exact ⟨D6.out, F6.out, O6.out, .inr ⟨hz, rfl⟩⟩
  · have hmf : mayB n f nn = false := by simpa using hmay
    have HRe : Hid (R = (2, S)) := Lib.hid (by rw [HR.out]; unfold opS; rw [if_neg hmay])
    have hM := Lib.hid (rmay_any w q gg n S B m f nn HD.out)
    rw [hmf] at hM
    clear hmay hmf
    go_enter Tryz.func22, Tryz.ntmps22
    go_wp2_with fail
    refine hM.out.mono ?_
    rintro e w1 ⟨rfl, rfl⟩
    go_wp2_with fail
    (try go_ret3)
    rw [HPP.out, HRe.out]
    exact ⟨HD.out.more (by omega) (by have := HD.out.1.2.1; omega), FarG.refl _ _ _, Only.refl _ _, .inr ⟨by simp, rfl⟩⟩
set_option maxHeartbeats 4000000 in
set_option maxRecDepth 100000 in
theorem rclear_any (w : World) (q gg n : Nat) (S : Dst) (B m : Nat) (f nn : Int) (D : RkS w q gg n S B m) (hm : m + 12000 ≤ 1000000) :
    Calls Tryz.prog 25 #[.pointer (some ⟨q, 0, none⟩), .int .i64 f, .int .i64 nn] w fun e w' =>
      e = .returned (.int .i64 (clS n f nn S).1) ∧ RkS w' q gg n (clS n f nn S).2 B (m + 2 * n + 2) ∧ FarG RT (fun b => b = gg) w w' ∧ Only (fun b => B ≤ b) w w' := by
  obtain ⟨R, hR⟩ : ∃ R, R = clS n f nn S := ⟨_, rfl⟩
  rw [← hR]
  have HR := Lib.hid hR
  have HD := Lib.hid D
  have hn4 : n ≤ 4096 := D.1.2.1
  clear hR D
  by_cases hmay : mayB n f nn = true
  · obtain ⟨h1, h2, h3, h4⟩ : 0 ≤ f ∧ 1 ≤ nn ∧ f ≤ (n : Int) ∧ nn ≤ (n : Int) - f := by unfold mayB at hmay; simpa using hmay
    obtain ⟨f, rfl⟩ : ∃ j : Nat, f = j := ⟨f.toNat, by omega⟩
    obtain ⟨nn, rfl⟩ : ∃ j : Nat, nn = j := ⟨nn.toNat, by omega⟩
    have hM := Lib.hid (rmay_any w q gg n S B m f nn HD.out)
    rw [hmay] at hM
    by_cases hst : S.still = true
    · have HRe : Hid (R = (51, S)) := Lib.hid (by rw [HR.out]; unfold clS; rw [if_pos hmay, if_pos hst])
      have HL := Lib.hid (rlist_still w q gg n S B m f nn HD.out (by omega) (by omega) hst)
      clear hmay hst
      go_enter Tryz.func25, Tryz.ntmps25
      go_wp2_with fail
      refine hM.out.mono ?_
      rintro e w1 ⟨rfl, rfl⟩
      go_wp2_with fail
      refine HL.out.mono ?_
      rintro e w1 ⟨rfl, rfl⟩
      go_wp2_with fail
      go_ret
      rw [HRe.out]
      exact ⟨rfl, HD.out.more (by omega) (by have := HD.out.1.2.1; omega), FarG.refl _ _ _, Only.refl _ _⟩
    · have hst' : S.still = false := by simpa using hst
      obtain ⟨C, hC⟩ : ∃ C : Nat → List UInt8, C = fun j => S.cur.getD j [] := ⟨_, rfl⟩
      obtain ⟨T, hT⟩ : ∃ T, T = openT f nn C := ⟨_, rfl⟩
      have hTl : T.length = nn := by rw [hT]; simp [openT]
      have hTa : ∀ t ∈ T, t.length = 128 := by
        intro t ht
        rw [hT] at ht
        obtain ⟨j, hj, rfl⟩ := List.mem_map.1 ht
        rw [hC]
        exact cur_len HD.out.ok (by have := List.mem_range.1 hj; omega)
      obtain ⟨X, hX⟩ : ∃ X, X = ([] : List UInt8) := ⟨_, rfl⟩
      have HRe : Hid (R = ((anewS n f X T S).1, (anewS n f X T S).2.1)) := Lib.hid (by rw [HR.out]; unfold clS; rw [if_pos hmay, if_neg hst, hX, hT, hC]; rfl)
      have HL := Lib.hid (rlist_any w q gg n S B m f nn HD.out (by omega) hst')
      rw [← hC, ← hT] at HL
      have HT := Lib.hid hT
      have HX := Lib.hid hX
      have HTL := Lib.hid hTl
      have HTA := Lib.hid hTa
      have HC := Lib.hid hC
      clear hmay hst hst' hT hX hTl hTa hC
      go_enter Tryz.func25, Tryz.ntmps25
      go_wp2_with fail
      refine hM.out.mono ?_
      rintro e w1 ⟨rfl, rfl⟩
      go_wp2_with fail
      refine HL.out.mono ?_
      rintro e w3 ⟨v, rfl, h3, o3⟩
      obtain ⟨g, cap, hv, hg0, hg1⟩ : ∃ g cap, v = .slice (some ⟨g, 0, none⟩) nn cap ∧ w.heap.size ≤ g ∧ g < w3.heap.size := by
        obtain ⟨g, cap, h1, h2, h3, _⟩ := own_cells h3 (by omega)
        exact ⟨g, cap, h1, h2, h3⟩
      subst hv
      have H3 := Lib.hid h3
      have O3 := Lib.hid o3
      have D3 := Lib.hid (HD.out.only o3)
      have hgg : gg < w.heap.size ∧ B ≤ w.heap.size := by
        obtain ⟨⟨h1, _⟩, _, c, A, c2, D⟩ := HD.out
        have := D.lts h1
        exact ⟨this.1, by omega⟩
      have HGG := Lib.hid hgg
      clear h3 o3 hM HL hgg
      go_wp2_with fail
      have O5 : Hid (Only (fun _ => False) w3 w3) := Lib.hid (Only.refl _ _)
      have D5 := D3
      have R5 := H3
      have hXl : X.length ≤ 1000000000 := by rw [HX.out]; simp
      have hXe : sB [] = sB X := by rw [HX.out]
      obtain ⟨w5, hw5⟩ : ∃ w5, w5 = w3 := ⟨_, rfl⟩
      rw [← hw5] at D5 R5 ⊢
      have O5 : Hid (Only (fun _ => False) w3 w5) := by rw [hw5]; exact O5
      rw [show (⟨#[]⟩ : ByteArray) = sB X from hXe]
      clear hw5 hXe
      have han := ranew_any w5 q gg n f S B m T X g cap w.heap.size D5.out (by rw [HTL.out]; exact R5.out) (by have := HGG.out.2; omega) (by have := HGG.out.1; omega) (by omega) (by rw [HTL.out]; omega) (by omega) hXl HTA.out
      rw [HTL.out] at han
      obtain ⟨Z, hZ⟩ : ∃ Z, Z = anewS n f X T S := ⟨_, rfl⟩
      rw [← hZ] at han HRe
      refine han.mono ?_
      rintro e w6 ⟨rfl, d6, f6, o6⟩
      have HRE : Hid (R = (Z.1, Z.2.1)) := HRe
      have D6 := Lib.hid (d6.more (m' := m + 2 * n + 2) (by omega) (by omega))
      have F6 : Hid (FarG RT (fun b => b = gg) w w6) := Lib.hid ((((FarG.none O3.out).trans (FarG.none O5.out)).trans f6).new (fun k hk => by
        rcases hk with h | h
        · exact .inl h
        · exact .inr (by omega)))
      have O6 : Hid (Only (fun b => B ≤ b) w w6) := Lib.hid (((O3.out.mono fun _ h => h.elim).trans (O5.out.mono fun _ h => h.elim)).trans o6)
      clear d6 f6 o6 han hZ D5 R5 D3 H3 HRe
      go_wp2_with fail
      go_ret
      rw [HRE.out]
      exact ⟨rfl, D6.out, F6.out, O6.out⟩
  · have hmf : mayB n f nn = false := by simpa using hmay
    have HRe : Hid (R = (2, S)) := Lib.hid (by rw [HR.out]; unfold clS; rw [if_neg hmay])
    have hM := Lib.hid (rmay_any w q gg n S B m f nn HD.out)
    rw [hmf] at hM
    clear hmay hmf
    go_enter Tryz.func25, Tryz.ntmps25
    go_wp2_with fail
    refine hM.out.mono ?_
    rintro e w1 ⟨rfl, rfl⟩
    go_wp2_with fail
    go_ret
    rw [HRe.out]
    exact ⟨rfl, HD.out.more (by omega) (by have := HD.out.1.2.1; omega), FarG.refl _ _ _, Only.refl _ _⟩
end Go.Proofs.YtmneflpjoaocbaaGreat
/- The document's book: what Append writes, in plain words. -/
namespace Go.Proofs.YtmneflpjoaocbaaGreat
set_option maxRecDepth 100000
open Go.RowKit
set_option linter.unusedVariables false
/-- the sectors that a longer text makes other ones are written -/
def docW (n f : Nat) (t t2 : List UInt8) : Nat → Nat → Dst → Int × Dst
  | 0, _, S => (0, S)
  | j + 1, i, S => if madeL t2 i = madeL t i then docW n f t t2 j (i + 1) S else
      (if (wrS n S ((f : Int) + (i : Int)) (madeL t2 i)).1 = 0 then docW n f t t2 j (i + 1) (wrS n S ((f : Int) + (i : Int)) (madeL t2 i)).2 else wrS n S ((f : Int) + (i : Int)) (madeL t2 i))
theorem made_front (t d : List UInt8) (i : Nat) (h : i < t.length / 127) : madeL (t ++ d) i = madeL t i := by
  have e : cutL (t ++ d) i = cutL t i := by
    unfold cutL
    rw [List.drop_append_of_le_length (by omega), List.take_append_of_le_length (by rw [List.length_drop]; omega)]
  unfold madeL
  rw [e]
theorem made_behind (t d : List UInt8) (i : Nat) (h : (t ++ d).length ≤ i * 127) : madeL (t ++ d) i = madeL t i := by
  have e1 : cutL (t ++ d) i = [] := by unfold cutL; rw [List.drop_eq_nil_of_le h]; rfl
  have e2 : cutL t i = [] := by unfold cutL; rw [List.drop_eq_nil_of_le (by rw [List.length_append] at h; omega)]; rfl
  unfold madeL
  rw [e1, e2]
theorem made_last (t : List UInt8) (i : Nat) : (madeL t i).getD 127 0 = UInt8.ofNat (cutL t i).length := by
  have hl := cutL_le t i
  unfold madeL
  rw [List.getD_eq_getElem?_getD, List.getElem?_append_right (by simp; omega)]
  simp
  rw [show 127 - ((cutL t i).length + (127 - (cutL t i).length)) = 0 by omega]
  rfl
theorem made_mid (t d : List UInt8) (i : Nat) (h1 : t.length / 127 ≤ i) (h2 : i * 127 < (t ++ d).length) (hd : d ≠ []) : ¬ madeL (t ++ d) i = madeL t i := by
  intro e
  have e2 := congrArg (fun l => (l.getD 127 0).toNat) e
  simp only [made_last] at e2
  have hd0 : 0 < d.length := List.length_pos_iff.2 hd
  have l1 : (cutL (t ++ d) i).length = min 127 (t.length + d.length - i * 127) := by unfold cutL; rw [List.length_take, List.length_drop, List.length_append]
  have l2 : (cutL t i).length = min 127 (t.length - i * 127) := by unfold cutL; rw [List.length_take, List.length_drop]
  rw [List.length_append] at h2
  have h3 : t.length < (i + 1) * 127 := by omega
  rw [l1, l2] at e2
  simp only [UInt8.toNat_ofNat'] at e2
  omega
section
variable {n f nn : Nat} {t d : List UInt8}
theorem docW_front : ∀ (j i : Nat) (S : Dst), i + j = nn → t.length / 127 ≤ nn → i ≤ t.length / 127 → docW n f t (t ++ d) j i S = docW n f t (t ++ d) (nn - t.length / 127) (t.length / 127) S
  | 0, i, S, h1, h2, h3 => by
    have e : i = t.length / 127 := by omega
    rw [show nn - t.length / 127 = 0 by omega]
    rfl
  | j + 1, i, S, h1, h2, h3 => by
    by_cases h : i = t.length / 127
    · rw [show nn - t.length / 127 = j + 1 by omega, ← h]
    · conv => lhs; unfold docW
      rw [if_pos (made_front t d i (by omega))]
      exact docW_front j (i + 1) S (by omega) h2 (by omega)
theorem docW_behind : ∀ (j i : Nat) (S : Dst), (t ++ d).length ≤ i * 127 → docW n f t (t ++ d) j i S = (0, S)
  | 0, i, S, h => rfl
  | j + 1, i, S, h => by
    unfold docW
    rw [if_pos (made_behind t d i h)]
    exact docW_behind j (i + 1) S (by omega)
theorem docW_mid (hd : d ≠ []) (hn : (t ++ d).length ≤ nn * 127) : ∀ (j i J : Nat) (S : Dst), i + j = nn → j < J → t.length / 127 ≤ i → docW n f t (t ++ d) j i S = appW n f (t ++ d) J i S
  | 0, i, 0, S, h1, h2, h3 => by omega
  | 0, i, J + 1, S, h1, h2, h3 => by
    unfold docW appW
    rw [if_neg (by have : i = nn := by omega
                   subst this; omega)]
  | j + 1, i, 0, S, h1, h2, h3 => by omega
  | j + 1, i, J + 1, S, h1, h2, h3 => by
    by_cases h : i * 127 < (t ++ d).length
    · unfold docW appW
      rw [if_neg (made_mid t d i h3 h hd), if_pos h]
      split
      · exact docW_mid hd hn j (i + 1) J _ (by omega) (by omega) (by omega)
      · rfl
    · rw [docW_behind _ _ _ (by omega)]
      unfold appW
      rw [if_neg h]
theorem docW_same : ∀ (j i : Nat) (S : Dst), docW n f t t j i S = (0, S)
  | 0, _, _ => rfl
  | j + 1, i, S => by
    unfold docW
    rw [if_pos rfl]
    exact docW_same j (i + 1) S
theorem docW_app (hd : d ≠ []) (hn : (t ++ d).length ≤ nn * 127) (S : Dst) : docW n f t (t ++ d) nn 0 S = appW n f (t ++ d) (nn + 1) (t.length / 127) S := by
  have hl : t.length ≤ nn * 127 := by rw [List.length_append] at hn; omega
  rw [docW_front (nn := nn) nn 0 S (by omega) (by omega) (by omega)]
  exact docW_mid hd hn _ _ _ S (by omega) (by omega) (Nat.le_refl _)
end
theorem frsB_nil (xs : List ByteArray) (h : ∀ x ∈ xs, x.size ≤ 131072) : frsB xs = [] ↔ xs = [] := by
  constructor
  · intro e
    have h1 := frsB_len xs h
    rw [e] at h1
    by_cases hx : xs = []
    · exact hx
    · have := fsz_pos xs hx
      simp at h1
      omega
  · rintro rfl
    rfl
/-- an Append, as the document makes it -/
theorem docW_appS {n f nn : Nat} {S : Dst} {t : List UInt8} {xs : List ByteArray} (hall : ∀ x ∈ xs, x.size ≤ 131072) (hroom : ¬ nn * 127 < t.length + fsz xs) :
    appS n f nn S t false xs = ((docW n f t (t ++ frsB xs) nn 0 S).1, (docW n f t (t ++ frsB xs) nn 0 S).2, t ++ frsB xs, (docW n f t (t ++ frsB xs) nn 0 S).1 != 0) := by
  unfold appS
  rw [if_neg (by simp), if_pos (List.all_eq_true.2 fun x hx => by simpa using hall x hx), if_neg hroom]
  by_cases hx : xs = []
  · subst hx
    rw [if_pos rfl]
    have e : frsB [] = [] := rfl
    rw [e, List.append_nil, docW_same]
    rfl
  · rw [if_neg hx, docW_app (fun e => hx ((frsB_nil xs hall).1 e)) (by rw [List.length_append, frsB_len xs hall]; omega)]
end Go.Proofs.YtmneflpjoaocbaaGreat
