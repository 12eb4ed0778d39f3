/- The walk of thresherref04.Read. -/
import Derived.Test.YtpnjcgpnannjaaaFrC
namespace Go.Proofs.Ytpnjcgpnannjaaa
open Go.RowKit
set_option linter.unusedVariables false
attribute [local simp] frOf dstsOf frGo predsHold allHold Region.binds slotOf seen Is Act.put
set_option maxHeartbeats 3000000 in
set_option maxRecDepth 100000 in
theorem vfread_any (s : ByteArray) (most : Int) (w : World) (hs : s.size ≤ 17179869184) (hm1 : -9223372036854775808 ≤ most) (hm2 : most ≤ 9223372036854775807) :
    Calls Try.prog 13 #[.string s, .int .i64 most] w (FRead s most w) := by
  by_cases h0 : s.size = 0
  · have hf : Hid (fread s most = (0, ⟨#[]⟩, 0, 40)) := Lib.hid (by unfold fread; rw [if_pos h0])
    have hl : s.toList = [] := by
      rw [ByteArray.toList_eq]
      exact List.eq_nil_of_length_eq_zero h0
    clear h0
    go_enter Try.func13, Try.ntmps13
    go_wp2
    refine bodyPost_ret (results_frame Try.results13 rfl (Blk.new _ _ _)) rfl ?_
    unfold FRead
    rw [hf.out]
    exact ⟨rfl, (Below.refl _ _).alloc (Nat.le_refl _) _⟩
  · have hl : s.toList.isEmpty = false := by
      rw [ByteArray.toList_eq, List.isEmpty_eq_false_iff]
      intro he
      exact h0 (by show s.data.size = 0; rw [← Array.length_toList, he]; rfl)
    have h00 : 0 < s.size := by omega
    have hix : (s[0]'h00).toNat = (bs s).getD 0 0 := by
      have hk' : 0 < s.data.size := h00
      simp [bs, List.getD]
      rw [Array.getElem?_eq_getElem hk']
      rfl
    by_cases h1 : (bs s).getD 0 0 = 1
    · have hix1 : (s[0]'h00).toNat = 1 := by rw [hix]; exact h1
      clear hix
      by_cases h2 : s.size < 2
      · have hf : Hid (fread s most = (0, ⟨#[]⟩, 0, 40)) := Lib.hid (by unfold fread; rw [if_neg h0, if_neg (fun h => h h1), if_pos h2])
        clear h1
        go_enter Try.func13, Try.ntmps13
        go_wp2
        refine bodyPost_ret (results_frame Try.results13 rfl (Blk.new _ _ _)) rfl ?_
        unfold FRead
        rw [hf.out]
        exact ⟨rfl, (Below.refl _ _).alloc (Nat.le_refl _) _⟩
      · have hsz : (s.extract 2 s.size).size = s.size - 2 := by rw [ByteArray.size_extract]; omega
        have hN := Lib.hid (vread_any (s.extract 2 s.size) (w.alloc (.cells #[.int .u8 0, .string ⟨#[]⟩] 31)) (by omega))
        have herr := Var.read_err (bs (s.extract 2 s.size))
        have hlen := Var.read_len (bs (s.extract 2 s.size))
        have hlt := Var.read_lt (bs (s.extract 2 s.size))
        rw [bs_len, hsz] at hlen
        have hfd : fread s most = fbody s most (Var.read (bs (s.extract 2 s.size))).1 (Var.read (bs (s.extract 2 s.size))).2.1 (Var.read (bs (s.extract 2 s.size))).2.2 := by
          unfold fread
          rw [if_neg h0, if_neg (fun h => h h1), if_neg h2]
        have HD := Lib.hid hfd
        clear hfd hsz h1
        generalize Var.read (bs (s.extract 2 s.size)) = r at *
        obtain ⟨x, k, e⟩ := r
        simp only at herr hlen hlt
        have HL := Lib.hid hlen
        have HX := Lib.hid hlt
        clear hlen hlt
        rcases herr with he | he | he
        · have HD2 : Hid (fread s most = fbody s most x k 0) := Lib.hid (by rw [HD.out, he])
          clear HD
          subst he
          by_cases hm : most < 0
          · have hf : Hid (fread s most = (0, ⟨#[]⟩, 0, 4)) := Lib.hid (by rw [HD2.out]; unfold fbody; rw [if_neg (by omega), if_neg (by omega), if_pos (.inl hm)])
            go_enter Try.func13, Try.ntmps13
            go_wp2_with fail
            refine hN.out.mono ?_
            rintro e w1 ⟨rfl, hbN⟩
            have HB := Lib.hid hbN
            clear hbN hN
            have HBl : Blk w1 w.heap.size 31 #[.int .u8 0, .string ⟨#[]⟩] := (Blk.new w _ _).below HB.out (Blk.new w _ _).lt
            have HBL := Lib.hid HBl
            have hc0 : w1.cell? ⟨w.heap.size, 0, none⟩ = some (.int .u8 0) := by rw [HBl.cell]; rfl
            have hc1 : w1.cell? ⟨w.heap.size, 1, none⟩ = some (.string ⟨#[]⟩) := by rw [HBl.cell]; rfl
            have hf0 : w1.frozen? ⟨w.heap.size, 0, none⟩ = false := HBl.frozen 0
            have hf1 : w1.frozen? ⟨w.heap.size, 1, none⟩ = false := HBl.frozen 1
            have HBZ : Hid (Below w.heap.size w w1) := Lib.hid (((Below.refl w.heap.size w).alloc (Nat.le_refl _) _).trans (HB.out.mono (by simp)))
            clear HBl
            go_wp2
            refine bodyPost_ret (results_frame (x := .int .u8 0) (y := .string ⟨#[]⟩) Try.results13 rfl ((HBL.out.set_ 0 _).set_ 1 _)) rfl ?_
            unfold FRead
            rw [hf.out]
            exact ⟨rfl, (HBZ.out.setCell (by simp) _).setCell (by simp) _⟩
          · obtain ⟨m, rfl⟩ : ∃ m : Nat, most = m := ⟨most.toNat, by omega⟩
            by_cases hx : m < x ∨ 131072 < x
            · have hf : Hid (fread s (m : Int) = (0, ⟨#[]⟩, 0, 4)) := Lib.hid (by rw [HD2.out]; unfold fbody; rw [if_neg (by omega), if_neg (by omega), if_pos (by omega)])
              go_enter Try.func13, Try.ntmps13
              go_wp2_with fail
              refine hN.out.mono ?_
              rintro e w1 ⟨rfl, hbN⟩
              have HB := Lib.hid hbN
              clear hbN hN
              have HBl : Blk w1 w.heap.size 31 #[.int .u8 0, .string ⟨#[]⟩] := (Blk.new w _ _).below HB.out (Blk.new w _ _).lt
              have HBL := Lib.hid HBl
              have hc0 : w1.cell? ⟨w.heap.size, 0, none⟩ = some (.int .u8 0) := by rw [HBl.cell]; rfl
              have hc1 : w1.cell? ⟨w.heap.size, 1, none⟩ = some (.string ⟨#[]⟩) := by rw [HBl.cell]; rfl
              have hf0 : w1.frozen? ⟨w.heap.size, 0, none⟩ = false := HBl.frozen 0
              have hf1 : w1.frozen? ⟨w.heap.size, 1, none⟩ = false := HBl.frozen 1
              have HBZ : Hid (Below w.heap.size w w1) := Lib.hid (((Below.refl w.heap.size w).alloc (Nat.le_refl _) _).trans (HB.out.mono (by simp)))
              clear HBl
              go_wp2
              all_goals
                refine bodyPost_ret (results_frame (x := .int .u8 0) (y := .string ⟨#[]⟩) Try.results13 rfl ((HBL.out.set_ 0 _).set_ 1 _)) rfl ?_
                unfold FRead
                rw [hf.out]
                exact ⟨rfl, (HBZ.out.setCell (by simp) _).setCell (by simp) _⟩
            · have hk := HL.out
              have hx1 : x ≤ m := by omega
              have hx2 : x ≤ 131072 := by omega
              by_cases hsz : s.size < 2 + k + x + 4
              · have hf : Hid (fread s (m : Int) = (0, ⟨#[]⟩, 0, 40)) := Lib.hid (by rw [HD2.out]; unfold fbody; rw [if_neg (by omega), if_neg (by omega), if_neg (by omega), if_pos hsz])
                go_enter Try.func13, Try.ntmps13
                go_wp2_with fail
                refine hN.out.mono ?_
                rintro e w1 ⟨rfl, hbN⟩
                have HB := Lib.hid hbN
                clear hbN hN
                have HBl : Blk w1 w.heap.size 31 #[.int .u8 0, .string ⟨#[]⟩] := (Blk.new w _ _).below HB.out (Blk.new w _ _).lt
                have HBL := Lib.hid HBl
                have hc0 : w1.cell? ⟨w.heap.size, 0, none⟩ = some (.int .u8 0) := by rw [HBl.cell]; rfl
                have hc1 : w1.cell? ⟨w.heap.size, 1, none⟩ = some (.string ⟨#[]⟩) := by rw [HBl.cell]; rfl
                have hf0 : w1.frozen? ⟨w.heap.size, 0, none⟩ = false := HBl.frozen 0
                have hf1 : w1.frozen? ⟨w.heap.size, 1, none⟩ = false := HBl.frozen 1
                have HBZ : Hid (Below w.heap.size w w1) := Lib.hid (((Below.refl w.heap.size w).alloc (Nat.le_refl _) _).trans (HB.out.mono (by simp)))
                clear HBl
                go_wp2
                refine bodyPost_ret (results_frame (x := .int .u8 0) (y := .string ⟨#[]⟩) Try.results13 rfl ((HBL.out.set_ 0 _).set_ 1 _)) rfl ?_
                unfold FRead
                rw [hf.out]
                exact ⟨rfl, (HBZ.out.setCell (by simp) _).setCell (by simp) _⟩
              · obtain ⟨te, hto⟩ : ∃ te : Nat, 2 + k + x = te := ⟨_, rfl⟩
                have hO : ∀ W, Hid (Calls Try.prog 24 #[.string (s.extract 0 te)] W fun e w' => e = .returned (.int .u32 (Crc.on 0 (bs (s.extract 0 te)))) ∧ Below W.heap.size W w') := fun W => Lib.hid (rof_any _ W (by rw [ByteArray.size_extract]; omega))
                have hon := Crc.on_lt (a := 0) (by omega) (bs_lt (s.extract 0 te))
                have hB : ∀ W, Hid (Calls Try.prog 23 #[.int .u32 (Crc.on 0 (bs (s.extract 0 te)))] W fun e w' => e = .returned (.string (sumStr (s.extract 0 te))) ∧ Below W.heap.size W w') := fun W => Lib.hid (rbytes_any _ W hon)
                clear hon
                have hf : Hid (fread s (m : Int) = if s.extract te (te + 4) = sumStr (s.extract 0 te) then ((bs s).getD 1 0, s.extract (2 + k) te, te + 4, 0) else (0, ⟨#[]⟩, 0, 41)) := Lib.hid (by
                  rw [HD2.out]
                  unfold fbody
                  rw [if_neg (by omega), if_neg (by omega), if_neg (by omega), if_neg (by omega), hto]
                  by_cases hq : s.extract te (te + 4) = sumStr (s.extract 0 te)
                  · rw [if_neg (fun h => h hq), if_pos hq]
                  · rw [if_pos hq, if_neg hq])
                clear HD2
                generalize Crc.on 0 (bs (s.extract 0 te)) = q at *
                generalize sumStr (s.extract 0 te) = z at *
                obtain ⟨b, hbq⟩ : ∃ b : Bool, (!((s.extract te (te + 4)).toList == z.toList)) = b := ⟨_, rfl⟩
                have HQ : Hid (b = false ↔ s.extract te (te + 4) = z) := Lib.hid (by rw [← hbq]; simp only [Bool.not_eq_false', beq_iff_eq]; exact ⟨fun h => strs_eq h, fun h => by rw [h]⟩)
                have ht4 : te + 4 ≤ s.size := by omega
                have ht1 : IntKind.i64.wrap ((te : Int) + 4) = (te : Int) + 4 := IntWalk.i64_in _ (by omega)
                have HT := Lib.hid hto
                have hb1 : te ≤ s.size := by omega
                have hb2 : (0 : Int) ≤ (te : Int) + 4 := by omega
                have hb3 : (te : Int) ≤ (te : Int) + 4 := by omega
                have hb4 : ((te : Int) + 4).toNat = te + 4 := by omega
                have hw : (2 : Int) + k + x = te := by omega
                go_enter Try.func13, Try.ntmps13
                go_wp2_with fail
                refine hN.out.mono ?_
                rintro e w1 ⟨rfl, hbN⟩
                have HB := Lib.hid hbN
                clear hbN hN
                have HBl : Blk w1 w.heap.size 31 #[.int .u8 0, .string ⟨#[]⟩] := (Blk.new w _ _).below HB.out (Blk.new w _ _).lt
                have HBL := Lib.hid HBl
                have hc0 : w1.cell? ⟨w.heap.size, 0, none⟩ = some (.int .u8 0) := by rw [HBl.cell]; rfl
                have hc1 : w1.cell? ⟨w.heap.size, 1, none⟩ = some (.string ⟨#[]⟩) := by rw [HBl.cell]; rfl
                have hf0 : w1.frozen? ⟨w.heap.size, 0, none⟩ = false := HBl.frozen 0
                have hf1 : w1.frozen? ⟨w.heap.size, 1, none⟩ = false := HBl.frozen 1
                have HBZ : Hid (Below w.heap.size w w1) := Lib.hid (((Below.refl w.heap.size w).alloc (Nat.le_refl _) _).trans (HB.out.mono (by simp)))
                clear HBl
                go_upto_region 18 with fail
                generalize decide (m < x) = b1
                generalize decide ((131072 : Int) < (x : Int)) = b2
                generalize decide ((m : Int) < 0) = b0
                refine wp_region_ord (by kernel_rfl) Grows [Is (.string s), Is (.int .i64 (te : Int)), Is (.int .i64 (te : Int)), Is (.int .i64 ((te : Int) + 4)), Is (.string (s.extract te (te + 4))), Is (.string s), Is (.int .i64 (te : Int)), Is (.string (s.extract 0 te)), Is (.int .u32 (q : Int)), Is (.string z), Is (.bool b)] (by kernel_rfl) Grows.refl Grows.trans
                  ⟨is_stab _ _, is_stab _ _, is_stab _ _, is_stab _ _, is_stab _ _, is_stab _ _, is_stab _ _, is_stab _ _, is_stab _ _, is_stab _ _, is_stab _ _, trivial⟩ ⟨?_, ?_, ?_, ?_, ?_, ?_, ?_, ?_, ?_, ?_, ?_, trivial⟩ ?_
                · intro u w2 hR hp K hK
                  refine ord_plain rfl ?_
                  simp at hp hK ⊢
                  go_simp
                  exact hK _ _ (Grows.refl _) rfl
                · intro u w2 hR hp K hK
                  refine ord_plain rfl ?_
                  simp at hp hK ⊢
                  go_simp
                  exact hK _ _ (Grows.refl _) rfl
                · intro u w2 hR hp K hK
                  refine ord_plain rfl ?_
                  simp at hp hK ⊢
                  go_simp
                  exact hK _ _ (Grows.refl _) rfl
                · intro u w2 hR hp K hK
                  refine ord_plain rfl ?_
                  simp at hp hK ⊢
                  simp only [hp] at hK
                  go_simp
                  exact hK _ _ (Grows.refl _) rfl
                · intro u w2 hR hp K hK
                  refine ord_plain rfl ?_
                  simp at hp hK ⊢
                  obtain ⟨hp1, hp2, hp3⟩ := hp
                  simp only [hp1, hp2, hp3] at hK
                  go_simp
                  exact hK _ _ (Grows.refl _) rfl
                · intro u w2 hR hp K hK
                  refine ord_plain rfl ?_
                  simp at hp hK ⊢
                  go_simp
                  exact hK _ _ (Grows.refl _) rfl
                · intro u w2 hR hp K hK
                  refine ord_plain rfl ?_
                  simp at hp hK ⊢
                  go_simp
                  exact hK _ _ (Grows.refl _) rfl
                · intro u w2 hR hp K hK
                  refine ord_plain rfl ?_
                  simp at hp hK ⊢
                  simp only [hp] at hK
                  go_simp
                  exact hK _ _ (Grows.refl _) rfl
                · intro u w2 hR hp K hK
                  refine ord_plain rfl ?_
                  simp at hp hK ⊢
                  simp only [hp] at hK
                  go_simp
                  refine (hO w2).out.mono ?_
                  rintro e w3 ⟨rfl, hb2⟩
                  exact hK _ _ hb2 rfl
                · intro u w2 hR hp K hK
                  refine ord_plain rfl ?_
                  simp at hp hK ⊢
                  simp only [hp] at hK
                  go_simp
                  refine (hB w2).out.mono ?_
                  rintro e w3 ⟨rfl, hb2⟩
                  exact hK _ _ hb2 rfl
                · intro u w2 hR hp K hK
                  refine ord_plain rfl ?_
                  simp at hp hK ⊢
                  obtain ⟨hp1, hp2⟩ := hp
                  simp only [hp1, hp2] at hK
                  go_simp
                  exact hK _ _ (Grows.refl _) rfl
                · intro u w2 hR hp
                  simp at hp ⊢
                  have h9 := hp.2.2.2.2.2.2.2.2.2.2
                  simp only [h9]
                  have HB2 : Hid (Below (w.alloc (.cells #[.int .u8 0, .string ⟨#[]⟩] 31)).heap.size (w.alloc (.cells #[.int .u8 0, .string ⟨#[]⟩] 31)) w2) := Lib.hid (HB.out.trans (Below.mono (Below.trans (Below.drew (Below.refl _ _)) hR) HB.out.size))
                  clear hp hR hc0 hc1 hf0 hf1 HBL HBZ HB
                  have HBl : Blk w2 w.heap.size 31 #[.int .u8 0, .string ⟨#[]⟩] := (Blk.new w _ _).below HB2.out (Blk.new w _ _).lt
                  have HBL := Lib.hid HBl
                  have hc0 : w2.cell? ⟨w.heap.size, 0, none⟩ = some (.int .u8 0) := by rw [HBl.cell]; rfl
                  have hc1 : w2.cell? ⟨w.heap.size, 1, none⟩ = some (.string ⟨#[]⟩) := by rw [HBl.cell]; rfl
                  have hf0 : w2.frozen? ⟨w.heap.size, 0, none⟩ = false := HBl.frozen 0
                  have hf1 : w2.frozen? ⟨w.heap.size, 1, none⟩ = false := HBl.frozen 1
                  have HBZ : Hid (Below w.heap.size w w2) := Lib.hid (((Below.refl w.heap.size w).alloc (Nat.le_refl _) _).trans (HB2.out.mono (by simp)))
                  clear HBl
                  have hone : (1 : Int) < (s.size : Int) := by omega
                  have h01 : 1 < s.size := by omega
                  have hiy : (s[1]'h01).toNat = (bs s).getD 1 0 := by
                    have hk' : 1 < s.data.size := h01
                    simp [bs, List.getD]
                    rw [Array.getElem?_eq_getElem hk']
                    rfl
                  have hs1 : (0 : Int) ≤ 2 + (k : Int) := by omega
                  have hs2 : (2 : Int) + (k : Int) ≤ (te : Int) := by omega
                  have hs3 : (te : Int) ≤ (s.size : Int) := by omega
                  have hs4 : ((2 : Int) + (k : Int)).toNat = 2 + k := by omega
                  generalize (bs s).getD 1 0 = tag at *
                  clear hbq
                  cases b
                  · have hq : fread s (m : Int) = (tag, s.extract (2 + k) te, te + 4, 0) := by rw [hf.out, if_pos (HQ.out.1 rfl)]
                    have HF := Lib.hid hq
                    clear hq
                    go_wp2_with fail
                    go_region
                    go_wp2
                    refine bodyPost_ret (results_frame (x := .int .u8 (tag : Int)) (y := .string (s.extract (2 + k) te)) Try.results13 rfl ((HBL.out.set_ 0 _).set_ 1 _).drew) rfl ?_
                    unfold FRead
                    rw [HF.out]
                    exact ⟨rfl, ((HBZ.out.setCell (by simp) _).setCell (by simp) _).drew⟩
                  · have hq : fread s (m : Int) = (0, ⟨#[]⟩, 0, 41) := by rw [hf.out, if_neg (fun h => by have := HQ.out.2 h; cases this)]
                    clear hf
                    have hf := Lib.hid hq
                    clear hq
                    go_wp2
                    refine bodyPost_ret (results_frame (x := .int .u8 0) (y := .string ⟨#[]⟩) Try.results13 rfl ((HBL.out.set_ 0 _).set_ 1 _)) rfl ?_
                    unfold FRead
                    rw [hf.out]
                    exact ⟨rfl, (HBZ.out.setCell (by simp) _).setCell (by simp) _⟩
        · have hf : Hid (fread s most = (0, ⟨#[]⟩, 0, 8)) := Lib.hid (by rw [HD.out, he]; rfl)
          clear HD
          subst he
          go_enter Try.func13, Try.ntmps13
          go_wp2_with fail
          refine hN.out.mono ?_
          rintro e w1 ⟨rfl, hbN⟩
          have HB := Lib.hid hbN
          clear hbN hN
          have HBl : Blk w1 w.heap.size 31 #[.int .u8 0, .string ⟨#[]⟩] := (Blk.new w _ _).below HB.out (Blk.new w _ _).lt
          have HBL := Lib.hid HBl
          have hc0 : w1.cell? ⟨w.heap.size, 0, none⟩ = some (.int .u8 0) := by rw [HBl.cell]; rfl
          have hc1 : w1.cell? ⟨w.heap.size, 1, none⟩ = some (.string ⟨#[]⟩) := by rw [HBl.cell]; rfl
          have hf0 : w1.frozen? ⟨w.heap.size, 0, none⟩ = false := HBl.frozen 0
          have hf1 : w1.frozen? ⟨w.heap.size, 1, none⟩ = false := HBl.frozen 1
          have HBZ : Hid (Below w.heap.size w w1) := Lib.hid (((Below.refl w.heap.size w).alloc (Nat.le_refl _) _).trans (HB.out.mono (by simp)))
          clear HBl
          go_wp2
          refine bodyPost_ret (results_frame (x := .int .u8 0) (y := .string ⟨#[]⟩) Try.results13 rfl ((HBL.out.set_ 0 _).set_ 1 _)) rfl ?_
          unfold FRead
          rw [hf.out]
          exact ⟨rfl, (HBZ.out.setCell (by simp) _).setCell (by simp) _⟩
        · have hf : Hid (fread s most = (0, ⟨#[]⟩, 0, 40)) := Lib.hid (by rw [HD.out, he]; rfl)
          clear HD
          subst he
          go_enter Try.func13, Try.ntmps13
          go_wp2_with fail
          refine hN.out.mono ?_
          rintro e w1 ⟨rfl, hbN⟩
          have HB := Lib.hid hbN
          clear hbN hN
          have HBl : Blk w1 w.heap.size 31 #[.int .u8 0, .string ⟨#[]⟩] := (Blk.new w _ _).below HB.out (Blk.new w _ _).lt
          have HBL := Lib.hid HBl
          have hc0 : w1.cell? ⟨w.heap.size, 0, none⟩ = some (.int .u8 0) := by rw [HBl.cell]; rfl
          have hc1 : w1.cell? ⟨w.heap.size, 1, none⟩ = some (.string ⟨#[]⟩) := by rw [HBl.cell]; rfl
          have hf0 : w1.frozen? ⟨w.heap.size, 0, none⟩ = false := HBl.frozen 0
          have hf1 : w1.frozen? ⟨w.heap.size, 1, none⟩ = false := HBl.frozen 1
          have HBZ : Hid (Below w.heap.size w w1) := Lib.hid (((Below.refl w.heap.size w).alloc (Nat.le_refl _) _).trans (HB.out.mono (by simp)))
          clear HBl
          go_wp2
          refine bodyPost_ret (results_frame (x := .int .u8 0) (y := .string ⟨#[]⟩) Try.results13 rfl ((HBL.out.set_ 0 _).set_ 1 _)) rfl ?_
          unfold FRead
          rw [hf.out]
          exact ⟨rfl, (HBZ.out.setCell (by simp) _).setCell (by simp) _⟩
    · have hf : Hid (fread s most = (0, ⟨#[]⟩, 0, 42)) := Lib.hid (by unfold fread; rw [if_neg h0, if_pos h1])
      generalize (bs s).getD 0 0 = c at *
      have h1' : ((c : Int) == 1) = false := by simp; omega
      have h1'' : ((c : Int) != 1) = true := by simp; omega
      go_enter Try.func13, Try.ntmps13
      go_wp2
      refine bodyPost_ret (results_frame Try.results13 rfl (Blk.new _ _ _)) rfl ?_
      unfold FRead
      rw [hf.out]
      exact ⟨rfl, (Below.refl _ _).alloc (Nat.le_refl _) _⟩
end Go.Proofs.Ytpnjcgpnannjaaa
