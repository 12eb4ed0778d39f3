/- Several texts in one: StL. -/
import Derived.Test.YthggliknnmhbdaaGreatMWBG
import Derived.Test.YthggliknnmhbdaaGreatMWAC
/- StoreTrims: its walk. No conditions beyond what each states. -/
namespace Go.Proofs.YthggliknnmhbdaaGreat
open Go.RowKit
set_option linter.unusedVariables false
set_option maxHeartbeats 16000000 in
set_option maxRecDepth 100000 in
theorem trims_any (ls bs : List ByteArray) (A0 A1 : Option Addr) (c0 c1 : Nat) (w : World) (hr0 : TextRow w A0 ls) (hr1 : TextRow w A1 bs) (hn0 : ls.length ≤ c0) (hc0 : c0 ≤ 9223372036854775807) (hn1 : bs.length ≤ c1) (hc1 : c1 ≤ 9223372036854775807) :
    Calls Tryz.prog 4 #[.slice A0 ls.length c0, .slice A1 bs.length c1] w fun e w' => e = .returned (.bool true) ∧ Below w.heap.size w w' := by
  have HR0 := Lib.hid hr0
  have HR1 := Lib.hid hr1
  have hnew := dk_new 20 w (by omega) (by omega)
  have HNEW : Hid (Calls Tryz.prog 13 #[.int .i64 20] w fun e w' => e = .returned (.tuple #[.pointer (some ⟨w.heap.size + 1, 0, none⟩), .int .i64 0]) ∧ DkS w' (w.heap.size + 1) w.heap.size 20 ⟨zeroG 20, [], none⟩ w.heap.size 0 ∧ Only (fun _ => False) w w') := Lib.hid hnew
  clear hr0 hr1 hnew
  by_cases hA : (20 : Int) < (ls.length : Int)
  · go_enter Tryz.func4, Tryz.ntmps4
    go_wp2_with fail
    refine (alive_any _).mono ?_
    rintro e wa ⟨rfl, ba⟩
    have BA := Lib.hid ba
    clear ba
    go_wp2_with fail
    go_ret
    exact ⟨rfl, BA.out⟩
  by_cases hB : (20 : Int) < (bs.length : Int)
  · go_enter Tryz.func4, Tryz.ntmps4
    go_wp2_with fail
    refine (alive_any _).mono ?_
    rintro e wa ⟨rfl, ba⟩
    have BA := Lib.hid ba
    clear ba
    go_wp2_with fail
    go_ret
    exact ⟨rfl, BA.out⟩
  go_enter Tryz.func4, Tryz.ntmps4
  go_wp2_with fail
  refine HNEW.out.mono ?_
  rintro e wd ⟨rfl, d1, d2⟩
  obtain ⟨p, hp⟩ : ∃ p, p = w.heap.size + 1 := ⟨_, rfl⟩
  obtain ⟨gs, hgs⟩ : ∃ gs, gs = w.heap.size := ⟨_, rfl⟩
  obtain ⟨B, hB'⟩ : ∃ B, B = w.heap.size := ⟨_, rfl⟩
  have HD0 : Hid (DiskIs p gs B 0 ([] ++ sectorsL [] 10 ++ sectorsL [] 10) wd) := Lib.hid ⟨_, by rw [hp, hgs, hB']; exact d1, zero_cur 20 10 (by omega)⟩
  have HOD := Lib.hid d2
  have HBB := Lib.hid hB'
  rw [← hp]
  clear hp hgs hB' d1 d2
  go_wp2_with fail
  refine (make_ok p gs B 0 ⟨#[]⟩ (sectorsL [] 10) (sectorsL [] 10) wd HD0.out (sectorsL_len _ _) (sectorsL_len _ _) (by decide) fit_empty (by omega)).mono ?_
  rintro e we ⟨rfl, k1, k2⟩
  have HDm : Hid (DiskIs p gs B 139 (sectorsL (frsB [hdB 1 ⟨#[]⟩]) 10 ++ sectorsL (frsB []) 10) we) := Lib.hid k1
  have HOE := Lib.hid ((HOD.out.mono (T := fun b => B ≤ b) fun _ h => h.elim).trans k2)
  clear k1 k2
  go_wp2_with fail
  have hsm : ∀ x ∈ [hdB 1 ⟨#[]⟩], x.size ≤ 131072 := fun x h => by rw [List.mem_singleton.1 h]; exact hdB_small 1 _ (by decide)
  have hso := sopen_ok p gs B 139 1 1 0 1 ⟨#[]⟩ ⟨#[]⟩ ⟨#[]⟩ [] [] [] [hdB 1 ⟨#[]⟩] [] [hdB 1 ⟨#[]⟩] _ we HDm.out rfl rfl (.inl rfl) hsm (by simp) (frs_one _ (hdB_small 1 _ (by decide)) fit_empty) (by simp [frsB]) (by omega) (by omega) (by decide) (by decide) (by omega) (.inl ⟨rfl, rfl, rfl, rfl, rfl, .inl rfl⟩)
  refine hso.mono ?_
  rintro e wf ⟨sp, bb, A, c, rfl, SO⟩
  have HL0 : Hid (LI p gs B 0 w wf sp) := Lib.hid ⟨0, 1, 1, bb, ⟨#[]⟩, [], sectorsL (frsB []) 10, by omega, by omega, by omega, by decide, hsm, frs_one _ (hdB_small 1 _ (by decide)) fit_empty, sectorsL_len _ _, by rw [if_pos rfl]; exact SO.d.more (by omega) (by omega), SO.b, SO.newb, SO.s, SO.new, HOE.out.trans SO.only⟩
  clear SO hso hsm
  go_wp2_with fail
  go_loopw [7, 11] (fun sv i y => ∃ (sp j : Nat), sv = .pointer (some ⟨sp, 0, none⟩) ∧ i = .int .i64 (j : Int) ∧ j ≤ ls.length ∧ LI p gs B j w y sp) (fun _ i _ => ls.length - (intOf i).toNat)
  case atStart => exact ⟨sp, 0, rfl, rfl, by omega, HL0.out⟩
  case round =>
    obtain ⟨y0, rfl⟩ : ∃ y0, y0 = wr := ⟨_, rfl⟩
    clear HL0
    obtain ⟨sp, j, rfl, rfl, hj, hli⟩ := hrel
    have HLI0 := Lib.hid hli
    have hoy : Only (fun b => B ≤ b) w y0 := by
      obtain ⟨_, _, _, _, _, _, _, _, _, _, _, _, _, _, _, _, _, _, _, h13⟩ := hli
      exact h13
    have hbel0 : Below w.heap.size w y0 := hoy.below (fun b hb => by have := HBB.out; omega) (Nat.le_refl _)
    have HOY := Lib.hid hoy
    have HBEL := Lib.hid hbel0
    clear hli hoy
    by_cases hjl : j < ls.length
    · have hjli : (j : Int) < (ls.length : Int) := by omega
      have hj0 : (0 : Int) ≤ (j : Int) := by omega
      obtain ⟨g0, off, hA0, hg0, hck⟩ := HR0.out.at_ j hjl
      generalize ls[j] = x at *
      have HG0 := Lib.hid hg0
      have HCK := Lib.hid hck
      have hcy : y0.cell? ⟨g0, off + j, none⟩ = some (.string x) := (hbel0.cell (p := ⟨g0, off + j, none⟩) hg0).trans hck
      obtain ⟨A9, hA9⟩ : ∃ A9, A9 = A0 := ⟨_, rfl⟩
      rw [hA0] at hA9
      have HA0 := Lib.hid hA0
      subst hA0
      clear hg0 hck hA9
      by_cases hx : (1024 : Int) < (x.size : Int)
      · go_wp2_with fail
        refine (alive_any _).mono ?_
        rintro e wa ⟨rfl, ba⟩
        have BA := Lib.hid ba
        clear ba
        go_wp2_with fail
        go_ret
        exact ⟨rfl, ((HOY.out).below (fun b hb => by have := HBB.out; omega) (Nat.le_refl _)).trans (BA.out.mono ((HOY.out).below (fun b hb => by have := HBB.out; omega) (Nat.le_refl _)).size)⟩
      by_cases hjb : j < bs.length
      · have hjbi : (j : Int) < (bs.length : Int) := by omega
        obtain ⟨g9, off9, hA1, hg9, hck9⟩ := HR1.out.at_ j hjb
        generalize bs[j] = z at *
        have hcz : y0.cell? ⟨g9, off9 + j, none⟩ = some (.string z) := (hbel0.cell (p := ⟨g9, off9 + j, none⟩) hg9).trans hck9
        subst hA1
        clear hg9 hck9
        by_cases hz : (1024 : Int) < (z.size : Int)
        · go_wp2_with fail
          refine (alive_any _).mono ?_
          rintro e wa ⟨rfl, ba⟩
          have BA := Lib.hid ba
          clear ba
          go_wp2_with fail
          go_ret
          exact ⟨rfl, ((HOY.out).below (fun b hb => by have := HBB.out; omega) (Nat.le_refl _)).trans (BA.out.mono ((HOY.out).below (fun b hb => by have := HBB.out; omega) (Nat.le_refl _)).size)⟩
        · obtain ⟨y1, hy1⟩ : ∃ y1, y1 = y0.alloc (.cells #[.string z] 9) := ⟨_, rfl⟩
          have o1 : Only (fun _ => False) y0 y1 := by rw [hy1]; exact (Only.refl _ y0).alloc _
          have bz : Blk y1 y0.heap.size 9 #[.string z] := by rw [hy1]; exact Blk.new y0 _ _
          have happ := app_LM p gs B (1000 + 1000 * j) j w y1 sp (HLI0.out.only o1) z (some ⟨y0.heap.size, 0, none⟩) 1 (fun b9 W h9 hF => ⟨fun i hi => by
            obtain rfl : i = 0 := by simpa using hi
            by_cases he : y0.heap.size = b9
            · obtain ⟨cs, h9⟩ := h9
              exact absurd he (Blk.ne_ bz h9 (by decide))
            · have b' := hF.blk _ _ _ bz nDT_string he
              exact ⟨y0.heap.size, 0, rfl, b'.lt, b'.cell 0⟩⟩) (by omega) (by omega)
          have HAP := Lib.hid happ
          have HY1 := Lib.hid hy1.symm
          clear happ o1 bz hy1
          go_wp2_with fail
          rw [HY1.out]
          refine HAP.out.mono ?_
          rintro e yq ⟨r, hr, rfl, hlm⟩
          have HLM := Lib.hid hlm
          clear hlm hcz hcy
          rcases hr with rfl | rfl
          · go_wp2_with fail
            obtain ⟨k, o, g, bb, u, rs, T, a1, a2, a3, a4, a5, a6, a7, a8, a9, a10, a11, a12, a13⟩ := HLM.out
            have hbel : Below w.heap.size w yq := a13.below (fun b hb => by have := HBB.out; omega) (Nat.le_refl _)
            have hcq : yq.cell? ⟨g0, off + j, none⟩ = some (.string x) := (hbel.cell (p := ⟨g0, off + j, none⟩) HG0.out).trans HCK.out
            have HCQ := Lib.hid hcq
            have HGEN := Lib.hid (stgen_ok a11)
            have HS := Lib.hid a11
            have hwg : IntKind.u64.wrap ((g : Int) + 1) = (g : Int) + 1 := IntWalk.u64_in _ (by omega)
            go_wp2_with fail
            refine HGEN.out.mono ?_
            rintro e yr ⟨rfl, rfl⟩
            rcases fitR_or (g + 1) x with hfit | hfit
            · have HT := Lib.hid (trim_full p gs sp k g bb x _ B _ yq a8 a11 (by omega) (by omega) hfit)
              clear a1 a2 a3 a4 a5 a6 a7 a8 a9 a10 a11 a12 a13 hbel hfit
              go_wp2_with fail
              refine HT.out.mono ?_
              rintro e yt ⟨rfl, o1⟩
              have HO1 := Lib.hid o1
              have HG2 := Lib.hid (stgen_ok (o1.blk HS.out (fun h => h) : StoW yt sp p bb k g))
              clear o1 hcq
              go_wp2_with fail
              refine HG2.out.mono ?_
              rintro e yv ⟨rfl, rfl⟩
              go_wp2_with fail
              go_roundw
              case rel => exact ⟨sp, j + 1, rfl, by go_num, by omega, (HLM.out.only HO1.out).more (by omega) (by omega) (by omega)⟩
              case measure => simp [intOf]; omega
            · have HT : Hid (Calls Tryz.prog 10 #[.pointer (some ⟨sp, 0, none⟩), .string x] yq fun e w' => e = .returned (.int .i64 0) ∧ ∃ X Y b2, TrimP p gs sp o g (hdB (g + 1) x) X Y B (1000 + 1000 * j + 12 + 97) b2 yq w' ∧ ((o = 0 ∧ X = [] ∧ Y = sectorsL (frsB (hdB g u :: rs)) 10) ∨ (o = 1 ∧ X = sectorsL (frsB (hdB g u :: rs)) 10 ∧ Y = []))) := Lib.hid (by
                by_cases hk : k = 0
                · rw [if_pos hk, ← List.append_nil (sectorsL (frsB (hdB g u :: rs)) 10 ++ T)] at a8
                  refine (trim_ok p gs sp k o g bb x (sectorsL (frsB (hdB g u :: rs)) 10) T [] B _ yq a8 (by rw [sectorsL_len]; omega) a7 a1 a11 a12 (by omega) (by omega) hfit (by omega)).mono ?_
                  rintro e w' ⟨h1, b2, h2⟩
                  exact ⟨h1, _, _, b2, h2, .inr ⟨by omega, rfl, rfl⟩⟩
                · rw [if_neg hk, ← List.nil_append (T ++ sectorsL (frsB (hdB g u :: rs)) 10), ← List.append_assoc] at a8
                  refine (trim_ok p gs sp k o g bb x [] T (sectorsL (frsB (hdB g u :: rs)) 10) B _ yq a8 (by simp; omega) a7 a1 a11 a12 (by omega) (by omega) hfit (by omega)).mono ?_
                  rintro e w' ⟨h1, b2, h2⟩
                  exact ⟨h1, _, _, b2, h2, .inl ⟨by omega, rfl, rfl⟩⟩)
              have HA := Lib.hid (And.intro a1 (And.intro a2 (And.intro a3 (And.intro a4 (And.intro a5 (And.intro a6 (And.intro a12 a13)))))))
              have HFIT := Lib.hid hfit
              have hgs : (hdB (g + 1) x).size ≤ 131072 := hdB_small _ _ (by omega)
              have hlen : (frsB [hdB (g + 1) x]).length ≤ 1270 := frs_one _ hgs (fitR_zero hfit)
              have HLEN := Lib.hid hlen
              have HG9 : Hid (g ≤ j + 1) := Lib.hid a3
              clear a1 a2 a3 a4 a5 a6 a7 a8 a9 a10 a11 a12 a13 hbel hfit hgs hlen
              go_wp2_with fail
              refine HT.out.mono ?_
              rintro e yt ⟨rfl, X, Y, b2, TP, hXY⟩
              have hOP := trim_open p gs B (1000 + 1000 * j + 12 + 97) k o g sp bb b2 x u rs X Y w yq yt HA.out.1 HA.out.2.2.2.2.2.2.2 TP hXY HA.out.2.1 (by have := HG9.out; omega) HA.out.2.2.2.1 (by omega) HA.out.2.2.2.2.1 HA.out.2.2.2.2.2.1 HFIT.out (by omega) HA.out.2.2.2.2.2.2.1
              have HOP := Lib.hid hOP
              clear TP hXY hOP hcq
              go_wp2_with fail
              refine HOP.out.mono ?_
              rintro e yo ⟨s2, b3, A2, cc2, rfl, RPo⟩
              have hli := RPo.li j (by omega) HG9.out (by omega)
              have hbel2 : Below w.heap.size w yo := by
                obtain ⟨_, _, _, _, _, _, _, _, _, _, _, _, _, _, _, _, _, _, _, h13⟩ := hli
                exact h13.below (fun b hb => by have := HBB.out; omega) (Nat.le_refl _)
              have hco : yo.cell? ⟨g0, off + j, none⟩ = some (.string x) := (hbel2.cell (p := ⟨g0, off + j, none⟩) HG0.out).trans HCK.out
              have HLI := Lib.hid hli
              have HR := Lib.hid RPo
              have HGa := Lib.hid (stgen_ok RPo.s1)
              have HGb := Lib.hid (stgen_ok RPo.s2)
              have HRa := Lib.hid (stroom_ok (o * 10) (frsB [hdB (g + 1) x]) RPo.s2 RPo.k2 HLEN.out)
              have HKb : Hid (BookB yo b2 p (o * 10 : Nat) (10 : Nat) (sB (frsB [hdB (g + 1) x])) false) := Lib.hid RPo.k1
              clear RPo hli hbel2
              generalize frsB [hdB (g + 1) x] = tx at *
              go_wp2_with fail
              refine HGa.out.mono ?_
              rintro e yv ⟨rfl, rfl⟩
              go_wp2_with fail
              refine HGb.out.mono ?_
              rintro e yv ⟨rfl, rfl⟩
              go_wp2_with fail
              refine HRa.out.mono ?_
              rintro e yw ⟨rfl, o3⟩
              have HO3 := Lib.hid o3
              have HRb := Lib.hid (stroom_ok (o * 10) tx (o3.blk HR.out.s1 (fun h => h) : StoW yw sp p b2 o (g + 1)) (o3.blk HKb.out (fun h => h)) HLEN.out)
              clear o3
              go_wp2_with fail
              refine HRb.out.mono ?_
              rintro e yz ⟨rfl, o4⟩
              have HO4 := Lib.hid o4
              clear o4 hco
              go_wp2_with fail
              go_roundw
              case rel => exact ⟨s2, j + 1, rfl, by go_num, by omega, (HLI.out.only HO3.out).only HO4.out⟩
              case measure => simp [intOf]; omega
          · go_wp2_with fail
            obtain ⟨k, o, g, bb, u, rs, T, a1, a2, a3, a4, a5, a6, a7, a8, a9, a10, a11, a12, a13⟩ := HLM.out
            have hbel : Below w.heap.size w yq := a13.below (fun b hb => by have := HBB.out; omega) (Nat.le_refl _)
            have hcq : yq.cell? ⟨g0, off + j, none⟩ = some (.string x) := (hbel.cell (p := ⟨g0, off + j, none⟩) HG0.out).trans HCK.out
            have HCQ := Lib.hid hcq
            have HGEN := Lib.hid (stgen_ok a11)
            have HS := Lib.hid a11
            have hwg : IntKind.u64.wrap ((g : Int) + 1) = (g : Int) + 1 := IntWalk.u64_in _ (by omega)
            go_wp2_with fail
            refine HGEN.out.mono ?_
            rintro e yr ⟨rfl, rfl⟩
            rcases fitR_or (g + 1) x with hfit | hfit
            · have HT := Lib.hid (trim_full p gs sp k g bb x _ B _ yq a8 a11 (by omega) (by omega) hfit)
              clear a1 a2 a3 a4 a5 a6 a7 a8 a9 a10 a11 a12 a13 hbel hfit
              go_wp2_with fail
              refine HT.out.mono ?_
              rintro e yt ⟨rfl, o1⟩
              have HO1 := Lib.hid o1
              have HG2 := Lib.hid (stgen_ok (o1.blk HS.out (fun h => h) : StoW yt sp p bb k g))
              clear o1 hcq
              go_wp2_with fail
              refine HG2.out.mono ?_
              rintro e yv ⟨rfl, rfl⟩
              go_wp2_with fail
              go_roundw
              case rel => exact ⟨sp, j + 1, rfl, by go_num, by omega, (HLM.out.only HO1.out).more (by omega) (by omega) (by omega)⟩
              case measure => simp [intOf]; omega
            · have HT : Hid (Calls Tryz.prog 10 #[.pointer (some ⟨sp, 0, none⟩), .string x] yq fun e w' => e = .returned (.int .i64 0) ∧ ∃ X Y b2, TrimP p gs sp o g (hdB (g + 1) x) X Y B (1000 + 1000 * j + 12 + 97) b2 yq w' ∧ ((o = 0 ∧ X = [] ∧ Y = sectorsL (frsB (hdB g u :: rs)) 10) ∨ (o = 1 ∧ X = sectorsL (frsB (hdB g u :: rs)) 10 ∧ Y = []))) := Lib.hid (by
                by_cases hk : k = 0
                · rw [if_pos hk, ← List.append_nil (sectorsL (frsB (hdB g u :: rs)) 10 ++ T)] at a8
                  refine (trim_ok p gs sp k o g bb x (sectorsL (frsB (hdB g u :: rs)) 10) T [] B _ yq a8 (by rw [sectorsL_len]; omega) a7 a1 a11 a12 (by omega) (by omega) hfit (by omega)).mono ?_
                  rintro e w' ⟨h1, b2, h2⟩
                  exact ⟨h1, _, _, b2, h2, .inr ⟨by omega, rfl, rfl⟩⟩
                · rw [if_neg hk, ← List.nil_append (T ++ sectorsL (frsB (hdB g u :: rs)) 10), ← List.append_assoc] at a8
                  refine (trim_ok p gs sp k o g bb x [] T (sectorsL (frsB (hdB g u :: rs)) 10) B _ yq a8 (by simp; omega) a7 a1 a11 a12 (by omega) (by omega) hfit (by omega)).mono ?_
                  rintro e w' ⟨h1, b2, h2⟩
                  exact ⟨h1, _, _, b2, h2, .inl ⟨by omega, rfl, rfl⟩⟩)
              have HA := Lib.hid (And.intro a1 (And.intro a2 (And.intro a3 (And.intro a4 (And.intro a5 (And.intro a6 (And.intro a12 a13)))))))
              have HFIT := Lib.hid hfit
              have hgs : (hdB (g + 1) x).size ≤ 131072 := hdB_small _ _ (by omega)
              have hlen : (frsB [hdB (g + 1) x]).length ≤ 1270 := frs_one _ hgs (fitR_zero hfit)
              have HLEN := Lib.hid hlen
              have HG9 : Hid (g ≤ j + 1) := Lib.hid a3
              clear a1 a2 a3 a4 a5 a6 a7 a8 a9 a10 a11 a12 a13 hbel hfit hgs hlen
              go_wp2_with fail
              refine HT.out.mono ?_
              rintro e yt ⟨rfl, X, Y, b2, TP, hXY⟩
              have hOP := trim_open p gs B (1000 + 1000 * j + 12 + 97) k o g sp bb b2 x u rs X Y w yq yt HA.out.1 HA.out.2.2.2.2.2.2.2 TP hXY HA.out.2.1 (by have := HG9.out; omega) HA.out.2.2.2.1 (by omega) HA.out.2.2.2.2.1 HA.out.2.2.2.2.2.1 HFIT.out (by omega) HA.out.2.2.2.2.2.2.1
              have HOP := Lib.hid hOP
              clear TP hXY hOP hcq
              go_wp2_with fail
              refine HOP.out.mono ?_
              rintro e yo ⟨s2, b3, A2, cc2, rfl, RPo⟩
              have hli := RPo.li j (by omega) HG9.out (by omega)
              have hbel2 : Below w.heap.size w yo := by
                obtain ⟨_, _, _, _, _, _, _, _, _, _, _, _, _, _, _, _, _, _, _, h13⟩ := hli
                exact h13.below (fun b hb => by have := HBB.out; omega) (Nat.le_refl _)
              have hco : yo.cell? ⟨g0, off + j, none⟩ = some (.string x) := (hbel2.cell (p := ⟨g0, off + j, none⟩) HG0.out).trans HCK.out
              have HLI := Lib.hid hli
              have HR := Lib.hid RPo
              have HGa := Lib.hid (stgen_ok RPo.s1)
              have HGb := Lib.hid (stgen_ok RPo.s2)
              have HRa := Lib.hid (stroom_ok (o * 10) (frsB [hdB (g + 1) x]) RPo.s2 RPo.k2 HLEN.out)
              have HKb : Hid (BookB yo b2 p (o * 10 : Nat) (10 : Nat) (sB (frsB [hdB (g + 1) x])) false) := Lib.hid RPo.k1
              clear RPo hli hbel2
              generalize frsB [hdB (g + 1) x] = tx at *
              go_wp2_with fail
              refine HGa.out.mono ?_
              rintro e yv ⟨rfl, rfl⟩
              go_wp2_with fail
              refine HGb.out.mono ?_
              rintro e yv ⟨rfl, rfl⟩
              go_wp2_with fail
              refine HRa.out.mono ?_
              rintro e yw ⟨rfl, o3⟩
              have HO3 := Lib.hid o3
              have HRb := Lib.hid (stroom_ok (o * 10) tx (o3.blk HR.out.s1 (fun h => h) : StoW yw sp p b2 o (g + 1)) (o3.blk HKb.out (fun h => h)) HLEN.out)
              clear o3
              go_wp2_with fail
              refine HRb.out.mono ?_
              rintro e yz ⟨rfl, o4⟩
              have HO4 := Lib.hid o4
              clear o4 hco
              go_wp2_with fail
              go_roundw
              case rel => exact ⟨s2, j + 1, rfl, by go_num, by omega, (HLI.out.only HO3.out).only HO4.out⟩
              case measure => simp [intOf]; omega
      · have hjbi : ¬ (j : Int) < (bs.length : Int) := by omega
        obtain ⟨yq, hyq⟩ : ∃ yq, yq = y0 := ⟨_, rfl⟩
        have HLM : Hid (LM p gs B (1000 + 1000 * j + 12) j w yq sp) := Lib.hid (by rw [hyq]; exact HLI0.out.more (by omega) (by omega) (Nat.le_refl _))
        rw [← hyq] at hcy
        rw [← hyq]
        clear hyq HBEL HOY hbel0
        obtain ⟨k, o, g, bb, u, rs, T, a1, a2, a3, a4, a5, a6, a7, a8, a9, a10, a11, a12, a13⟩ := HLM.out
        have hbel : Below w.heap.size w yq := a13.below (fun b hb => by have := HBB.out; omega) (Nat.le_refl _)
        have hcq : yq.cell? ⟨g0, off + j, none⟩ = some (.string x) := (hbel.cell (p := ⟨g0, off + j, none⟩) HG0.out).trans HCK.out
        have HCQ := Lib.hid hcq
        have HGEN := Lib.hid (stgen_ok a11)
        have HS := Lib.hid a11
        have hwg : IntKind.u64.wrap ((g : Int) + 1) = (g : Int) + 1 := IntWalk.u64_in _ (by omega)
        go_wp2_with fail
        refine HGEN.out.mono ?_
        rintro e yr ⟨rfl, rfl⟩
        rcases fitR_or (g + 1) x with hfit | hfit
        · have HT := Lib.hid (trim_full p gs sp k g bb x _ B _ yq a8 a11 (by omega) (by omega) hfit)
          clear a1 a2 a3 a4 a5 a6 a7 a8 a9 a10 a11 a12 a13 hbel hfit
          go_wp2_with fail
          refine HT.out.mono ?_
          rintro e yt ⟨rfl, o1⟩
          have HO1 := Lib.hid o1
          have HG2 := Lib.hid (stgen_ok (o1.blk HS.out (fun h => h) : StoW yt sp p bb k g))
          clear o1 hcq
          go_wp2_with fail
          refine HG2.out.mono ?_
          rintro e yv ⟨rfl, rfl⟩
          go_wp2_with fail
          go_roundw
          case rel => exact ⟨sp, j + 1, rfl, by go_num, by omega, (HLM.out.only HO1.out).more (by omega) (by omega) (by omega)⟩
          case measure => simp [intOf]; omega
        · have HT : Hid (Calls Tryz.prog 10 #[.pointer (some ⟨sp, 0, none⟩), .string x] yq fun e w' => e = .returned (.int .i64 0) ∧ ∃ X Y b2, TrimP p gs sp o g (hdB (g + 1) x) X Y B (1000 + 1000 * j + 12 + 97) b2 yq w' ∧ ((o = 0 ∧ X = [] ∧ Y = sectorsL (frsB (hdB g u :: rs)) 10) ∨ (o = 1 ∧ X = sectorsL (frsB (hdB g u :: rs)) 10 ∧ Y = []))) := Lib.hid (by
            by_cases hk : k = 0
            · rw [if_pos hk, ← List.append_nil (sectorsL (frsB (hdB g u :: rs)) 10 ++ T)] at a8
              refine (trim_ok p gs sp k o g bb x (sectorsL (frsB (hdB g u :: rs)) 10) T [] B _ yq a8 (by rw [sectorsL_len]; omega) a7 a1 a11 a12 (by omega) (by omega) hfit (by omega)).mono ?_
              rintro e w' ⟨h1, b2, h2⟩
              exact ⟨h1, _, _, b2, h2, .inr ⟨by omega, rfl, rfl⟩⟩
            · rw [if_neg hk, ← List.nil_append (T ++ sectorsL (frsB (hdB g u :: rs)) 10), ← List.append_assoc] at a8
              refine (trim_ok p gs sp k o g bb x [] T (sectorsL (frsB (hdB g u :: rs)) 10) B _ yq a8 (by simp; omega) a7 a1 a11 a12 (by omega) (by omega) hfit (by omega)).mono ?_
              rintro e w' ⟨h1, b2, h2⟩
              exact ⟨h1, _, _, b2, h2, .inl ⟨by omega, rfl, rfl⟩⟩)
          have HA := Lib.hid (And.intro a1 (And.intro a2 (And.intro a3 (And.intro a4 (And.intro a5 (And.intro a6 (And.intro a12 a13)))))))
          have HFIT := Lib.hid hfit
          have hgs : (hdB (g + 1) x).size ≤ 131072 := hdB_small _ _ (by omega)
          have hlen : (frsB [hdB (g + 1) x]).length ≤ 1270 := frs_one _ hgs (fitR_zero hfit)
          have HLEN := Lib.hid hlen
          have HG9 : Hid (g ≤ j + 1) := Lib.hid a3
          clear a1 a2 a3 a4 a5 a6 a7 a8 a9 a10 a11 a12 a13 hbel hfit hgs hlen
          go_wp2_with fail
          refine HT.out.mono ?_
          rintro e yt ⟨rfl, X, Y, b2, TP, hXY⟩
          have hOP := trim_open p gs B (1000 + 1000 * j + 12 + 97) k o g sp bb b2 x u rs X Y w yq yt HA.out.1 HA.out.2.2.2.2.2.2.2 TP hXY HA.out.2.1 (by have := HG9.out; omega) HA.out.2.2.2.1 (by omega) HA.out.2.2.2.2.1 HA.out.2.2.2.2.2.1 HFIT.out (by omega) HA.out.2.2.2.2.2.2.1
          have HOP := Lib.hid hOP
          clear TP hXY hOP hcq
          go_wp2_with fail
          refine HOP.out.mono ?_
          rintro e yo ⟨s2, b3, A2, cc2, rfl, RPo⟩
          have hli := RPo.li j (by omega) HG9.out (by omega)
          have hbel2 : Below w.heap.size w yo := by
            obtain ⟨_, _, _, _, _, _, _, _, _, _, _, _, _, _, _, _, _, _, _, h13⟩ := hli
            exact h13.below (fun b hb => by have := HBB.out; omega) (Nat.le_refl _)
          have hco : yo.cell? ⟨g0, off + j, none⟩ = some (.string x) := (hbel2.cell (p := ⟨g0, off + j, none⟩) HG0.out).trans HCK.out
          have HLI := Lib.hid hli
          have HR := Lib.hid RPo
          have HGa := Lib.hid (stgen_ok RPo.s1)
          have HGb := Lib.hid (stgen_ok RPo.s2)
          have HRa := Lib.hid (stroom_ok (o * 10) (frsB [hdB (g + 1) x]) RPo.s2 RPo.k2 HLEN.out)
          have HKb : Hid (BookB yo b2 p (o * 10 : Nat) (10 : Nat) (sB (frsB [hdB (g + 1) x])) false) := Lib.hid RPo.k1
          clear RPo hli hbel2
          generalize frsB [hdB (g + 1) x] = tx at *
          go_wp2_with fail
          refine HGa.out.mono ?_
          rintro e yv ⟨rfl, rfl⟩
          go_wp2_with fail
          refine HGb.out.mono ?_
          rintro e yv ⟨rfl, rfl⟩
          go_wp2_with fail
          refine HRa.out.mono ?_
          rintro e yw ⟨rfl, o3⟩
          have HO3 := Lib.hid o3
          have HRb := Lib.hid (stroom_ok (o * 10) tx (o3.blk HR.out.s1 (fun h => h) : StoW yw sp p b2 o (g + 1)) (o3.blk HKb.out (fun h => h)) HLEN.out)
          clear o3
          go_wp2_with fail
          refine HRb.out.mono ?_
          rintro e yz ⟨rfl, o4⟩
          have HO4 := Lib.hid o4
          clear o4 hco
          go_wp2_with fail
          go_roundw
          case rel => exact ⟨s2, j + 1, rfl, by go_num, by omega, (HLI.out.only HO3.out).only HO4.out⟩
          case measure => simp [intOf]; omega
    · obtain rfl : j = ls.length := by omega
      clear hbel0
      go_wp2_with fail
      refine (alive_any _).mono ?_
      rintro e wa ⟨rfl, ba⟩
      have BA := Lib.hid ba
      clear ba
      go_wp2_with fail
      go_ret
      exact ⟨rfl, ((HOY.out).below (fun b hb => by have := HBB.out; omega) (Nat.le_refl _)).trans (BA.out.mono ((HOY.out).below (fun b hb => by have := HBB.out; omega) (Nat.le_refl _)).size)⟩
end Go.Proofs.YthggliknnmhbdaaGreat
