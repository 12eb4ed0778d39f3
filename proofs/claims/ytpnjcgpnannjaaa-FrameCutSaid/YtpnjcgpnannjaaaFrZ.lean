/- FrameCut: its walk. -/
import Derived.Test.YtpnjcgpnannjaaaFrY
namespace Go.Proofs.Ytpnjcgpnannjaaa
open Go.RowKit
set_option linter.unusedVariables false
attribute [local simp] frOf dstsOf frGo predsHold allHold Region.binds slotOf seen Is Act.put
theorem ord_guard {o : Oper} {y : Nat → Option Bool} {X Y : Prop} {j : Nat} {b : Bool} (hg : o.guard = some (j, b)) (hy : y j = some b) (h : X) : if Region.wanted o y = true then X else Y := by
  have hw : Region.wanted o y = true := by simp [Region.wanted, hg, hy]
  rw [if_pos hw]
  exact h

/-- how memory stands when k frames are written -/
structure CutI (l : List (Nat × ByteArray)) (w : World) (k : Nat) (v : Value) (W : World) : Prop where
  own : W.ownsRow w.heap.size 3 1 v k ((endsL l k).map (Value.int .i64))
  below : Below w.heap.size w W
theorem frameL_le (t : Nat) (x : ByteArray) (h : x.size ≤ 512) : (frameL t (bs x)).length ≤ 600 := by
  have h1 := frameL_len t (bs x)
  have h2 := heads_len t (bs x).length
  have h3 := Var.enc_len_le 9 (bs x).length
  have h4 := bs_len x
  omega

set_option maxHeartbeats 40000000 in
set_option maxRecDepth 100000 in
theorem cut_any (l : List (Nat × ByteArray)) (A : Option Addr) (cap : Nat) (a : Int) (b : Nat) (w : World) (hr : FRow w A l) (hn : l.length ≤ cap) (hcap : cap ≤ 9223372036854775807) (hw : ∀ p ∈ l, p.1 < 256 ∧ p.2.size ≤ 9223372036854775807) (ha0 : 0 ≤ a) (ha1 : a ≤ 65535) (hb : b < 4294967296) :
    Calls Try.prog 6 #[.slice A l.length cap, .int .u16 a, .int .u32 b] w fun e w' => e = .returned (.bool true) ∧ Below w.heap.size w w' := by
  have HR := Lib.hid hr
  have HW := Lib.hid hw
  clear hr hw
  obtain ⟨i0, hi, hz0, hz1, hz2⟩ := info_parts (show (Try.prog.info? 3).map (fun i => (i.zero, i.size, i.bytes)) = some (some (.int .i64 0), 1, 8) by kernel_rfl)
  by_cases hlong : 20 < l.length
  · go_enter Try.func6, Try.ntmps6
    go_wp2_with fail
    refine (alive_any4 w).mono ?_
    rintro e w1 ⟨rfl, hb⟩
    go_wp2
    go_ret
    exact ⟨rfl, hb⟩
  · go_enter Try.func6, Try.ntmps6
    go_wp2_with fail
    go_loopw [7, 8, 9] (fun t v i wr => ∃ k : Nat, k ≤ l.length ∧ i = .int .i64 k ∧ t = .string (str (framesL (l.take k))) ∧ (∀ p ∈ l.take k, p.2.size ≤ 512) ∧ (framesL (l.take k)).length ≤ 600 * k ∧ CutI l w k v wr) (fun _ _ i _ => l.length - (intOf i).toNat)
    case atStart => exact ⟨0, by omega, rfl, rfl, by simp, by simp [framesL], World.ownsRow_nil _ _ _ _, Below.refl _ _⟩
    case round =>
      obtain ⟨k, hk, rfl, rfl, hsm, hfl, hJ⟩ := hrel
      have HSM := Lib.hid hsm
      have HJ := Lib.hid hJ
      clear hsm hJ
      by_cases hlt : k < l.length
      · obtain ⟨g, off, rfl, hg, hc1, hc2⟩ := HR.out.at_ k hlt
        have hpw := HW.out _ (List.getElem_mem hlt)
        have A1 : Hid (_ = some (Value.int .u8 (l[k].1 : Int))) := Lib.hid ((HJ.out.below.drew.cell (p := ⟨g, off + k * 2, none⟩) hg).trans hc1)
        have A2 : Hid (_ = some (Value.string l[k].2)) := Lib.hid ((HJ.out.below.drew.cell (p := ⟨g, off + k * 2 + 1, none⟩) hg).trans hc2)
        have HG : Hid (g < wr.drew.heap.size) := Lib.hid (Nat.lt_of_lt_of_le hg HJ.out.below.size)
        have e2 := (HJ.out.below.cell (p := ⟨g, off + k * 2 + 1, none⟩) hg).trans hc2
        have hk0 : (0 : Int) ≤ (k : Int) := by omega
        have hk1 : (k : Int) < (l.length : Int) := by omega
        clear hc1 hc2 hg
        by_cases h512 : 512 < l[k].2.size
        · go_wp2_with fail
          refine (alive_any4 _).mono ?_
          rintro e w1 ⟨rfl, hb⟩
          have HB1 := Lib.hid (HJ.out.below.trans (Below.mono hb HJ.out.below.size))
          clear hb
          go_wp2
          go_ret
          exact ⟨rfl, HB1.out⟩
        · obtain ⟨F, hF⟩ : ∃ F, F = fraw l[k].1 l[k].2 := ⟨_, rfl⟩
          have hWr : ∀ W g', Blk W g' 9 #[.string l[k].2] → Hid (Calls Try.prog 9 #[.int .u8 (l[k].1 : Int), .slice (some ⟨g', 0, none⟩) 1 1] W fun e w' => e = .returned (.tuple #[.string F, .int .i64 0]) ∧ Below W.heap.size W w') := fun W g' h => Lib.hid (by rw [hF]; exact write_one l[k].1 l[k].2 W g' hpw.1 (by omega) h)
          have hFs : F = str (frameL l[k].1 (bs l[k].2)) := by rw [hF]; exact fraw_str _ _ hpw.1 (by omega)
          have hfs := framesL_succ l k hlt
          have hsum : str (framesL (l.take k)) ++ F = str (framesL (l.take (k + 1))) := by rw [hFs, str_append, hfs]
          have hfl2 : (framesL (l.take (k + 1))).length ≤ 600 * (k + 1) := by
            rw [hfs, List.length_append]
            have := frameL_le l[k].1 l[k].2 (by omega)
            omega
          have hsm2 : ∀ p ∈ l.take (k + 1), p.2.size ≤ 512 := by
            intro p hp
            rw [take_snoc l k hlt] at hp
            rcases List.mem_append.1 hp with h | h
            · exact HSM.out p h
            · simp at h; subst h; omega
          have HSM2 := Lib.hid hsm2
          have HES := Lib.hid (endsL_succ l k)
          have hz1' : (str (framesL (l.take k))).size = (framesL (l.take k)).length := str_size _
          have hz2' : F.size ≤ 600 := by rw [hFs, str_size]; exact frameL_le _ _ (by omega)
          have hz3' : (str (framesL (l.take (k + 1)))).size = (framesL (l.take (k + 1))).length := str_size _
          have HF2 := Lib.hid hfl2
          have hz4' : (framesL (l.take (k + 1))).length ≤ 12600 := by omega
          clear hF hFs hfs hsm2 hfl2
          generalize hgL : (framesL (l.take (k + 1))).length = L2 at *
          generalize hgS : str (framesL (l.take (k + 1))) = S2 at *
          have HGL := Lib.hid hgL
          have HGS := Lib.hid hgS
          clear hgL hgS
          generalize (framesL (l.take k)).length = L1 at *
          generalize str (framesL (l.take k)) = S1 at *
          have hzz : S1.size + F.size ≤ 9223372036854775807 := by omega
          go_upto_region 10 with fail
          clear e2
          refine wp_region_ord (by kernel_rfl) Grows [Is (.slice (some ⟨g, off, none⟩) l.length cap), Is (.int .i64 k), Is (.pointer (some ⟨g, off + k * 2, none⟩)), Is (.pointer (some ⟨g, off + k * 2, none⟩)), Is (.int .u8 (l[k].1 : Int)), Is (.slice (some ⟨g, off, none⟩) l.length cap), Is (.int .i64 k), Is (.pointer (some ⟨g, off + k * 2, none⟩)), Is (.pointer (some ⟨g, off + k * 2 + 1, none⟩)), Is (.string l[k].2), IsRow 1 9 #[.string l[k].2], Is (.tuple #[.string F, .int .i64 0]), Is (.tuple #[.string F, .int .i64 0]), Is (.string F), Is (.int .i64 0), Is (.string F), Is (.int .i64 0)] (by kernel_rfl) Grows.refl Grows.trans
            ⟨is_stab _ _, is_stab _ _, is_stab _ _, is_stab _ _, is_stab _ _, is_stab _ _, is_stab _ _, is_stab _ _, is_stab _ _, is_stab _ _, isRow_stab _ _ _, is_stab _ _, is_stab _ _, is_stab _ _, is_stab _ _, is_stab _ _, is_stab _ _, trivial⟩ ⟨?_, ?_, ?_, ?_, ?_, ?_, ?_, ?_, ?_, ?_, ?_, ?_, ?_, ?_, ?_, ?_, ?_, trivial⟩ ?_
          · intro u w1 hR hp K hK
            refine ord_plain rfl ?_
            simp at hp hK ⊢
            go_simp
            exact hK _ _ (Grows.refl _) rfl
          · intro u w1 hR hp K hK
            refine ord_plain rfl ?_
            simp at hp hK ⊢
            go_simp
            exact hK _ _ (Grows.refl _) rfl
          · intro u w1 hR hp K hK
            refine ord_plain rfl ?_
            simp at hp hK ⊢
            obtain ⟨hp1, hp2⟩ := hp
            simp only [hp1, hp2] at hK
            go_simp
            exact hK _ _ (Grows.refl _) rfl
          · intro u w1 hR hp K hK
            refine ord_plain rfl ?_
            simp at hp hK ⊢
            simp only [hp] at hK
            go_simp
            exact hK _ _ (Grows.refl _) rfl
          · intro u w1 hR hp K hK
            refine ord_plain rfl ?_
            simp at hp hK ⊢
            have d0 := (Below.cell hR (p := ⟨g, off + k * 2, none⟩) HG.out).trans A1.out
            simp only [hp] at hK
            go_simp
            exact hK _ _ (Grows.refl _) rfl
          · intro u w1 hR hp K hK
            refine ord_plain rfl ?_
            simp at hp hK ⊢
            go_simp
            exact hK _ _ (Grows.refl _) rfl
          · intro u w1 hR hp K hK
            refine ord_plain rfl ?_
            simp at hp hK ⊢
            go_simp
            exact hK _ _ (Grows.refl _) rfl
          · intro u w1 hR hp K hK
            refine ord_plain rfl ?_
            simp at hp hK ⊢
            obtain ⟨hp1, hp2⟩ := hp
            simp only [hp1, hp2] at hK
            go_simp
            exact hK _ _ (Grows.refl _) rfl
          · intro u w1 hR hp K hK
            refine ord_plain rfl ?_
            simp at hp hK ⊢
            simp only [hp] at hK
            go_simp
            exact hK _ _ (Grows.refl _) rfl
          · intro u w1 hR hp K hK
            refine ord_plain rfl ?_
            simp at hp hK ⊢
            have d0 := (Below.cell hR (p := ⟨g, off + k * 2 + 1, none⟩) HG.out).trans A2.out
            simp only [hp] at hK
            go_simp
            exact hK _ _ (Grows.refl _) rfl
          · intro u w1 hR hp K hK
            refine ord_plain rfl ?_
            simp at hp hK ⊢
            simp only [hp] at hK
            go_simp
            exact hK _ _ (Grows.alloc _ _) ⟨_, rfl, Blk.new _ _ _⟩
          · intro u w1 hR hp K hK
            refine ord_plain rfl ?_
            simp at hp hK ⊢
            obtain ⟨hp1, g', hg', hb'⟩ := hp
            have hj := hWr w1 g' hb'
            simp only [hp1, hg'] at hK
            go_simp
            refine hj.out.mono ?_
            rintro e w2 ⟨rfl, hb2⟩
            exact hK _ _ hb2 rfl
          · intro u w1 hR hp K hK
            refine ord_plain rfl ?_
            simp at hp hK ⊢
            simp only [hp] at hK
            go_simp
            exact hK _ _ (Grows.refl _) rfl
          · intro u w1 hR hp K hK
            refine ord_plain rfl ?_
            simp at hp hK ⊢
            simp only [hp] at hK
            go_simp
            exact hK _ _ (Grows.refl _) rfl
          · intro u w1 hR hp K hK
            refine ord_plain rfl ?_
            simp at hp hK ⊢
            simp only [hp] at hK
            go_simp
            exact hK _ _ (Grows.refl _) rfl
          · intro u w1 hR hp K hK
            refine ord_plain rfl ?_
            simp at hp hK ⊢
            simp only [hp] at hK
            go_simp
            exact hK _ _ (Grows.refl _) rfl
          · intro u w1 hR hp K hK
            refine ord_plain rfl ?_
            simp at hp hK ⊢
            simp only [hp] at hK
            go_simp
            exact hK _ _ (Grows.refl _) rfl
          · intro u w1 hR hp
            simp at hp ⊢
            obtain ⟨_, _, _, _, _, _, _, _, _, _, _, _, _, _, _, h15, h16⟩ := hp
            simp only [h15, h16]
            have HB1 := Lib.hid (HJ.out.below.drew.trans (Below.mono hR HJ.out.below.drew.size))
            have HO1 := Lib.hid (owns_below (w := wr.drew) HJ.out.own hR)
            clear hR h15 h16 A1 A2 HG HJ hWr
            go_wp2_with (at_builtin; refine wpList_append_any _ rfl (.tmp 56) (.tmp 59) 49 rfl w.heap.size 3 i0 (.int .i64 0) 1 8 Try.underlying49 hi hz0 hz1 hz2 rfl (by decide) _ _ _ rfl (HO1.out.alloc _) _ _ _ _ _ rfl (reads_one _) ?c2 ?c3 ?c4 ?c5 ?_)
            case c2 => intro u hu; simp at hu; subst hu; rfl
            case c3 => unfold maxLen; omega
            case c4 => omega
            case c5 => simp; have := HB1.out.size; omega
            intro v' w2 hown' hgrow hnew
            have hlt2 := HO1.out.lt
            have Hb := Lib.hid (HB1.out.trans (((Below.refl w.heap.size w1).alloc HB1.out.size (.cells #[.int .i64 (L2 : Int)] 3)).grown hgrow (by simp; have := HB1.out.size; omega) (fun k hk => (hlt2 k hk).1)))
            have Ho := Lib.hid hown'
            clear hown' hgrow hnew hlt2
            go_wp2_with fail
            go_roundw
            case rel => exact ⟨k + 1, by omega, by go_num, by rw [HGS.out], HSM2.out, by rw [HGL.out]; exact HF2.out, by rw [HES.out]; simpa using Ho.out, Hb.out⟩
            case measure => simp [intOf]; omega
      · obtain rfl : k = l.length := by omega
        have hok : Okay l := fun p hp => ⟨(HW.out p hp).1, by have := HSM.out p (by rw [List.take_length]; exact hp); omega⟩
        simp only [List.take_length] at hfl ⊢
        have hall := framesL_lt l hok
        have hsw := scan_whole l hok
        have hszS : (str (framesL l)).size = (framesL l).length := str_size _
        have hS1 : ∀ W, Hid (Calls Try.prog 14 #[.string (str (framesL l)), .int .i64 131072] W fun e w' => ∃ v, e = .returned (.tuple #[v, .int .i64 ((framesL l).length : Int), .int .i64 0]) ∧ w'.ownsRow W.heap.size 31 2 v l.length (fcells l) ∧ Below W.heap.size W w') := fun W => Lib.hid (by
          have := scan_any (str (framesL l)) 131072 W (by omega) (by omega) (by omega)
          unfold FScan at this
          rw [hsw] at this
          exact this)
        clear hsw
        obtain ⟨S, hS⟩ : ∃ S, S = str (framesL l) := ⟨_, rfl⟩
        rw [← hS] at hszS hS1 ⊢
        have HS := Lib.hid hS
        clear hS
        obtain ⟨Q, hQ⟩ : ∃ Q, Q = (framesL l).length := ⟨_, rfl⟩
        rw [← hQ] at hszS hS1 hfl
        have HQ := Lib.hid hQ
        have HFL := Lib.hid hfl
        clear hQ
        go_wp2_with fail
        refine (hS1 _).out.mono ?_
        rintro e w1 ⟨v1, rfl, ho, hb⟩
        obtain ⟨X, cx, rfl, hx1, hx2⟩ := owns_slice ho
        have HX := Lib.hid (FRow.of_own ho)
        have HJ1 : Hid (CutI l w l.length _ w1) := Lib.hid ⟨owns_below HJ.out.own hb, HJ.out.below.trans (Below.mono hb HJ.out.below.size)⟩
        have HA := Lib.hid (HR.out.below HJ1.out.below)
        clear ho hb hS1 HJ
        go_wp2_with fail
        refine (same_any l l X A cx cap w1 HX.out HA.out hx1 hx2 hn hcap).mono ?_
        rintro e w2 ⟨rfl, hb⟩
        have HJ2 : Hid (CutI l w l.length _ w2) := Lib.hid ⟨owns_below HJ1.out.own hb, HJ1.out.below.trans (Below.mono hb HJ1.out.below.size)⟩
        clear hb HJ1 HX HA hx1 hx2
        rw [decide_eq_true rfl]
        by_cases hQ0 : Q = 0
        · have hSn : S.toList = [] := by
            rw [ByteArray.toList_eq]
            exact List.eq_nil_of_length_eq_zero (by rw [Array.length_toList]; exact hszS.trans hQ0)
          subst hQ0
          go_wp2_with fail
          refine (alive_any4 _).mono ?_
          rintro e w3 ⟨rfl, hb⟩
          have HB3 := Lib.hid (HJ2.out.below.trans (Below.mono hb HJ2.out.below.size))
          clear hb
          go_wp2
          go_ret
          exact ⟨rfl, HB3.out⟩
        · have hSn : S.toList.isEmpty = false := by
            rw [ByteArray.toList_eq, List.isEmpty_eq_false_iff]
            intro he
            exact hQ0 (by rw [← hszS]; show S.data.size = 0; rw [← Array.length_toList, he]; rfl)
          obtain ⟨K, hK, hKl⟩ : ∃ K : Nat, a % (Q : Int) = (K : Int) ∧ K < Q := ⟨(a % (Q : Int)).toNat, by have := Int.emod_nonneg a (show (Q : Int) ≠ 0 by omega); omega, by have h1 := Int.emod_nonneg a (show (Q : Int) ≠ 0 by omega); have h2 := Int.emod_lt_of_pos a (show (0 : Int) < (Q : Int) by omega); omega⟩
          obtain ⟨E, ce, rfl, he1, he2⟩ := owns_slice HJ2.out.own
          have HK := Lib.hid hK
          have hpos : 0 < l.length := by
            rcases Nat.eq_zero_or_pos l.length with h0 | h0
            · exfalso
              have : l = [] := List.eq_nil_of_length_eq_zero h0
              apply hQ0
              rw [HQ.out, this]
              rfl
            · exact h0
          obtain ⟨ge, ce', hE, _, hlge⟩ := HJ2.out.own.form hpos
          have hE2 : E = some ⟨ge, 0, none⟩ := by injection hE
          subst hE2
          clear hE
          have hcell : ∀ j, j < l.length → w2.cell? ⟨ge, j, none⟩ = some (.int .i64 ((framesL (l.take (j + 1))).length : Int)) := fun j hj => by
            have := HJ2.out.own.cells (g := ge) rfl j (.int .i64 ((framesL (l.take (j + 1))).length : Int)) (by rw [List.getElem?_map, endsL_at l l.length j hj]; rfl)
            rcases Nat.eq_zero_or_pos j with h0 | h0
            · subst h0; simpa [Addr.add] using this
            · rw [show (⟨ge, 0, none⟩ : Addr).add j = ⟨ge, j, none⟩ by simp [Addr.add]; omega] at this; exact this
          have hlast : (framesL (l.take l.length)).length = Q := by rw [List.take_length, ← HQ.out]
          have HC := Lib.hid hcell
          have HLA := Lib.hid hlast
          have HGE0 := Lib.hid hlge
          have HE2 := Lib.hid he2
          clear hcell hlast hlge he2 he1 hpos HK
          have hKz : K < 12000 := by have := HFL.out; omega
          go_wp2_with fail
          go_loop [16] (fun t => ∃ j : Nat, j < l.length ∧ t = .int .i64 j ∧ (framesL (l.take j)).length ≤ K) (fun t => l.length - (intOf t).toNat)
          case atStart => exact ⟨0, by omega, rfl, by simp [framesL]⟩
          case round =>
            obtain ⟨j, hj, rfl, hP⟩ := hrel
            have hcj := HC.out j hj
            have hjl : (j : Int) < (l.length : Int) := by omega
            have hj0 : (0 : Int) ≤ (j : Int) := by omega
            have hEP : (framesL (l.take (j + 1))).length = (framesL (l.take j)).length + (frameL l[j].1 (bs l[j].2)).length := by rw [framesL_succ l j hj, List.length_append]
            have HEP := Lib.hid hEP
            clear hEP
            generalize hgE : (framesL (l.take (j + 1))).length = EE at *
            have HGE := Lib.hid hgE
            clear hgE
            by_cases hle : EE ≤ K
            · have hj1 : j + 1 < l.length := by
                rcases Nat.lt_or_ge (j + 1) l.length with h0 | h0
                · exact h0
                · exfalso
                  have h1 : j + 1 = l.length := by omega
                  have h2 := HGE.out
                  rw [h1, HLA.out] at h2
                  omega
              go_wp2_with fail
              go_round
              case rel => exact ⟨j + 1, hj1, by go_num, by rw [HGE.out]; exact hle⟩
              case measure => simp [intOf]; omega
            · have hjok := hok l[j] (List.getElem_mem hj)
              have hfj := fraw_str l[j].1 l[j].2 hjok.1 (by have := hjok.2; omega)
              have hfjl : (frameL l[j].1 (bs l[j].2)).length = EE - (framesL (l.take j)).length := by have := HEP.out; omega
              have hcutS : S.extract 0 K = str ((framesL l).take K) := by rw [HS.out, str_extract _ _ _ hall]; simp
              have hpart : S.extract (framesL (l.take j)).length EE = fraw l[j].1 l[j].2 := by
                rw [HS.out, str_extract _ _ _ hall, hfj]
                have e : framesL l = framesL (l.take j) ++ (frameL l[j].1 (bs l[j].2) ++ framesL (l.drop (j + 1))) := by
                  rw [← List.append_assoc, ← framesL_succ l j hj, ← framesL_append, List.take_append_drop]
                rw [e, List.drop_left, ← hfjl, List.take_left]
              have hsc := scan_cut l j K hok hj hP (by rw [HGE.out]; omega)
              have hEQ : EE ≤ Q := by
                have e : framesL l = framesL (l.take (j + 1)) ++ framesL (l.drop (j + 1)) := by rw [← framesL_append, List.take_append_drop]
                rw [HQ.out, e, List.length_append, HGE.out]
                omega
              have hTu : ∀ W, Hid (Calls Try.prog 17 #[.string (fraw l[j].1 l[j].2), .agg #[.int .u8 (l[j].1 : Int), .string l[j].2], .int .u16 a, .int .u32 b] W fun e w' => e = .returned (.bool true) ∧ Below W.heap.size W w') := fun W => Lib.hid (turned4_any l[j].1 l[j].2 a b W hjok.1 hjok.2 ha0 ha1 hb)
              have hlj : (l.take j).length = j := by rw [List.length_take]; omega
              have hS2 : ∀ W, Hid (Calls Try.prog 14 #[.string (S.extract 0 K), .int .i64 131072] W fun e w' => ∃ v, e = .returned (.tuple #[v, .int .i64 ((framesL (l.take j)).length : Int), .int .i64 ((if K = (framesL (l.take j)).length then 0 else 40 : Nat) : Int)]) ∧ w'.ownsRow W.heap.size 31 2 v j (fcells (l.take j)) ∧ Below W.heap.size W w') := fun W => Lib.hid (by
                have := scan_any (S.extract 0 K) 131072 W (by rw [ByteArray.size_extract]; omega) (by omega) (by omega)
                unfold FScan at this
                rw [hcutS, hsc, hlj] at this
                rw [hcutS]
                exact this)
              have hSm : ∀ W X cx, FRow W X (l.take j) → FRow W A (l.take j) → j ≤ cx → cx ≤ 9223372036854775807 → Hid (Calls Try.prog 16 #[.slice X j cx, .slice A j cap] W fun e w' => e = .returned (.bool true) ∧ Below W.heap.size W w') := fun W X cx h1 h2 h3 h4 => Lib.hid (by
                have := same_any (l.take j) (l.take j) X A cx cap W h1 h2 (by rw [hlj]; exact h3) h4 (by rw [hlj]; omega) hcap
                rw [hlj, decide_eq_true rfl] at this
                exact this)
              have hprev : 0 < j → w2.cell? ⟨ge, j - 1, none⟩ = some (.int .i64 ((framesL (l.take j)).length : Int)) := fun h0 => by
                have := HC.out (j - 1) (by omega)
                rw [show j - 1 + 1 = j by omega] at this
                exact this
              have hP0 : j = 0 → (framesL (l.take j)).length = 0 := fun h0 => by rw [h0]; simp [framesL]
              have HLJ := Lib.hid hlj
              have HPS := Lib.hid hpart
              have hcjn : j ≤ cap := by omega
              have hEn : (EE : Int) ≤ (S.size : Int) := by omega
              have hPE : (framesL (l.take j)).length ≤ EE := by omega
              clear hjok hfj hfjl hcutS hpart hsc hlj
              generalize (framesL (l.take j)).length = P at *
              generalize fraw l[j].1 l[j].2 = F at *
              have hnle : ¬ (EE : Int) ≤ (K : Int) := by omega
              have hKn : K ≤ S.size := by omega
              by_cases h0 : j = 0
              · obtain rfl : P = 0 := hP0 h0
                have hj4 : ¬ (0 : Int) < (j : Int) := by omega
                clear hprev hP0 h0
                go_wp2_with fail
                refine (hS2 _).out.mono ?_
                rintro e w3 ⟨v3, rfl, ho, hb3⟩
                obtain ⟨X3, cx3, rfl, hy1, hy2⟩ := owns_slice ho
                have HX3 : Hid (FRow w3 X3 (l.take j)) := Lib.hid (FRow.of_own (by rw [HLJ.out]; exact ho))
                have HB3 := Lib.hid (HJ2.out.below.trans (Below.mono hb3 HJ2.out.below.size))
                have HA3f := Lib.hid (HR.out.below HB3.out)
                have HA3 : Hid (FRow w3 A (l.take j)) := Lib.hid ⟨fun k hk => by
                  have hk' : k < l.length := by rw [List.length_take] at hk; omega
                  obtain ⟨g, off, q1, q2, q3, q4⟩ := HA3f.out.at_ k hk'
                  refine ⟨g, off, q1, q2, ?_, ?_⟩
                  · rw [q3]; simp
                  · rw [q4]; simp⟩
                have hA3c := (hb3.cell (p := ⟨ge, j, none⟩) HGE0.out).trans hcj
                have HGE3 := Lib.hid (Nat.lt_of_lt_of_le HGE0.out hb3.size)
                clear ho hb3 hcj hS2
                by_cases hKP : K = 0
                · have hKP' : ((0 : Int) == (K : Int)) = true := by simp; omega
                  simp only [if_pos hKP]
                  go_wp2_with fail
                  refine (hSm w3 X3 cx3 HX3.out HA3.out hy1 hy2).out.mono ?_
                  rintro e w4 ⟨rfl, hb4⟩
                  have HB4 := Lib.hid (HB3.out.trans (Below.mono hb4 HB3.out.size))
                  have A3 := Lib.hid (((hb4.cell (p := ⟨ge, j, none⟩) HGE3.out).trans hA3c : w4.drew.cell? ⟨ge, j, none⟩ = some (.int .i64 (EE : Int))))
                  have HGE4 := Lib.hid (Nat.lt_of_lt_of_le HGE3.out hb4.size)
                  obtain ⟨g, off, hAe, hg, hc1, hc2⟩ := HR.out.at_ j hj
                  subst hAe
                  have A1 := Lib.hid ((HB4.out.drew.cell (p := ⟨g, off + j * 2, none⟩) hg).trans hc1)
                  have A2 := Lib.hid ((HB4.out.drew.cell (p := ⟨g, off + j * 2 + 1, none⟩) hg).trans hc2)
                  have HG := Lib.hid (show g < w4.drew.heap.size from Nat.lt_of_lt_of_le hg HB4.out.size)
                  have HGE := Lib.hid (show ge < w4.drew.heap.size from HGE4.out)
                  have hps := HPS.out
                  clear hb4 hA3c hc1 hc2 hg hSm
                  go_upto_region 32 with fail
                  refine wp_region_ord (by kernel_rfl) Grows [Is (.string S), Is (.int .i64 0), Is (.slice (some ⟨ge, 0, none⟩) l.length ce), Is (.int .i64 j), Is (.pointer (some ⟨ge, j, none⟩)), Is (.int .i64 EE), Is (.string F), Is (.slice (some ⟨g, off, none⟩) l.length cap), Is (.int .i64 j), Is (.pointer (some ⟨g, off + j * 2, none⟩)), Is (.agg #[.int .u8 (l[j].1 : Int), .string l[j].2]), Is (.int .u16 a), Is (.int .u32 b), Is (.bool true), Is (.bool true), Is (.bool true), Is (.bool true), Is (.bool true)] (by kernel_rfl) Grows.refl Grows.trans
                    ⟨is_stab _ _, is_stab _ _, is_stab _ _, is_stab _ _, is_stab _ _, is_stab _ _, is_stab _ _, is_stab _ _, is_stab _ _, is_stab _ _, is_stab _ _, is_stab _ _, is_stab _ _, is_stab _ _, is_stab _ _, is_stab _ _, is_stab _ _, is_stab _ _, trivial⟩ ⟨?_, ?_, ?_, ?_, ?_, ?_, ?_, ?_, ?_, ?_, ?_, ?_, ?_, ?_, ?_, ?_, ?_, ?_, trivial⟩ ?_
                  · intro u w1 hR hp K hK
                    refine ord_plain rfl ?_
                    simp at hp hK ⊢
                    go_simp
                    refine Eq.mp (congrArg (fun t => K { tmps := t, defers := [] } _) ?_) (hK _ _ (Grows.refl _) rfl)
                    simp <;> omega
                  · intro u w1 hR hp K hK
                    refine ord_plain rfl ?_
                    simp at hp hK ⊢
                    go_simp
                    refine Eq.mp (congrArg (fun t => K { tmps := t, defers := [] } _) ?_) (hK _ _ (Grows.refl _) rfl)
                    simp <;> omega
                  · intro u w1 hR hp K hK
                    refine ord_plain rfl ?_
                    simp at hp hK ⊢
                    go_simp
                    refine Eq.mp (congrArg (fun t => K { tmps := t, defers := [] } _) ?_) (hK _ _ (Grows.refl _) rfl)
                    simp <;> omega
                  · intro u w1 hR hp K hK
                    refine ord_plain rfl ?_
                    simp at hp hK ⊢
                    go_simp
                    refine Eq.mp (congrArg (fun t => K { tmps := t, defers := [] } _) ?_) (hK _ _ (Grows.refl _) rfl)
                    simp <;> omega
                  · intro u w1 hR hp K hK
                    refine ord_plain rfl ?_
                    simp at hp hK ⊢
                    obtain ⟨hp1, hp2⟩ := hp
                    simp only [hp1, hp2] at hK
                    go_simp
                    refine Eq.mp (congrArg (fun t => K { tmps := t, defers := [] } _) ?_) (hK _ _ (Grows.refl _) rfl)
                    simp <;> omega
                  · intro u w1 hR hp K hK
                    refine ord_plain rfl ?_
                    simp at hp hK ⊢
                    have d0 := (Below.cell hR (p := ⟨ge, j, none⟩) HGE.out).trans A3.out
                    simp only [hp] at hK
                    go_simp
                    refine Eq.mp (congrArg (fun t => K { tmps := t, defers := [] } _) ?_) (hK _ _ (Grows.refl _) rfl)
                    simp <;> omega
                  · intro u w1 hR hp K hK
                    refine ord_plain rfl ?_
                    simp at hp hK ⊢
                    obtain ⟨hp1, hp2, hp3⟩ := hp
                    simp only [hp1, hp2, hp3] at hK
                    go_simp
                    refine Eq.mp (congrArg (fun t => K { tmps := t, defers := [] } _) ?_) (hK _ _ (Grows.refl _) rfl)
                    simp <;> omega
                  · intro u w1 hR hp K hK
                    refine ord_plain rfl ?_
                    simp at hp hK ⊢
                    go_simp
                    refine Eq.mp (congrArg (fun t => K { tmps := t, defers := [] } _) ?_) (hK _ _ (Grows.refl _) rfl)
                    simp <;> omega
                  · intro u w1 hR hp K hK
                    refine ord_plain rfl ?_
                    simp at hp hK ⊢
                    go_simp
                    refine Eq.mp (congrArg (fun t => K { tmps := t, defers := [] } _) ?_) (hK _ _ (Grows.refl _) rfl)
                    simp <;> omega
                  · intro u w1 hR hp K hK
                    refine ord_plain rfl ?_
                    simp at hp hK ⊢
                    obtain ⟨hp1, hp2⟩ := hp
                    simp only [hp1, hp2] at hK
                    go_simp
                    refine Eq.mp (congrArg (fun t => K { tmps := t, defers := [] } _) ?_) (hK _ _ (Grows.refl _) rfl)
                    simp <;> omega
                  · intro u w1 hR hp K hK
                    refine ord_plain rfl ?_
                    simp at hp hK ⊢
                    have d0 := (Below.cell hR (p := ⟨g, off + j * 2, none⟩) HG.out).trans A1.out
                    have d1 := (Below.cell hR (p := ⟨g, off + j * 2 + 1, none⟩) HG.out).trans A2.out
                    simp only [hp] at hK
                    go_simp
                    refine Eq.mp (congrArg (fun t => K { tmps := t, defers := [] } _) ?_) (hK _ _ (Grows.refl _) rfl)
                    simp <;> omega
                  · intro u w1 hR hp K hK
                    refine ord_plain rfl ?_
                    simp at hp hK ⊢
                    go_simp
                    refine Eq.mp (congrArg (fun t => K { tmps := t, defers := [] } _) ?_) (hK _ _ (Grows.refl _) rfl)
                    simp <;> omega
                  · intro u w1 hR hp K hK
                    refine ord_plain rfl ?_
                    simp at hp hK ⊢
                    go_simp
                    refine Eq.mp (congrArg (fun t => K { tmps := t, defers := [] } _) ?_) (hK _ _ (Grows.refl _) rfl)
                    simp <;> omega
                  · intro u w1 hR hp K hK
                    refine ord_plain rfl ?_
                    simp at hp hK ⊢
                    obtain ⟨hp1, hp2, hp3, hp4⟩ := hp
                    have hj := hTu w1
                    simp only [hp1, hp2, hp3, hp4] at hK
                    go_simp
                    refine hj.out.mono ?_
                    rintro e w2 ⟨rfl, hb2⟩
                    refine Eq.mp (congrArg (fun t => K { tmps := t, defers := [] } _) ?_) (hK _ _ hb2 rfl)
                    simp <;> omega
                  · intro u w1 hR hp K hK
                    refine ord_plain rfl ?_
                    simp at hp hK ⊢
                    simp only [hp] at hK
                    go_simp
                    refine Eq.mp (congrArg (fun t => K { tmps := t, defers := [] } _) ?_) (hK _ _ (Grows.refl _) rfl)
                    simp <;> omega
                  · intro u w1 hR hp K hK
                    simp at hp hK
                    refine ord_guard rfl (by simp [yielded, hp]) ?_
                    simp only [hp] at hK
                    go_simp
                    refine (alive_any4 w1).mono ?_
                    rintro e w9 ⟨rfl, hb2⟩
                    refine Eq.mp (congrArg (fun t => K { tmps := t, defers := [] } _) ?_) (hK _ _ hb2 rfl)
                    simp <;> omega
                  · intro u w1 hR hp K hK
                    refine ord_plain rfl ?_
                    simp at hp hK ⊢
                    obtain ⟨hp1, hp2⟩ := hp
                    simp only [hp1, hp2] at hK
                    go_simp
                    refine Eq.mp (congrArg (fun t => K { tmps := t, defers := [] } _) ?_) (hK _ _ (Grows.refl _) rfl)
                    simp <;> omega
                  · intro u w1 hR hp K hK
                    refine ord_plain rfl ?_
                    simp at hp hK ⊢
                    simp only [hp] at hK
                    go_simp
                    refine Eq.mp (congrArg (fun t => K { tmps := t, defers := [] } _) ?_) (hK _ _ (Grows.refl _) rfl)
                    simp <;> omega
                  · intro u w5 hR hp
                    simp at hp ⊢
                    obtain ⟨_, _, _, _, _, _, _, _, _, _, _, _, _, _, _, _, _, h17⟩ := hp
                    simp only [h17]
                    have HB5 := Lib.hid (HB4.out.drew.trans (Below.mono hR HB4.out.drew.size))
                    clear hR h17 hps
                    go_wp2
                    go_ret
                    exact ⟨rfl, HB5.out⟩
                · have hKP' : ((0 : Int) == (K : Int)) = false := by simp; omega
                  simp only [if_neg hKP]
                  go_wp2_with fail
                  refine (hSm w3 X3 cx3 HX3.out HA3.out hy1 hy2).out.mono ?_
                  rintro e w4 ⟨rfl, hb4⟩
                  have HB4 := Lib.hid (HB3.out.trans (Below.mono hb4 HB3.out.size))
                  have A3 := Lib.hid (((hb4.cell (p := ⟨ge, j, none⟩) HGE3.out).trans hA3c : w4.drew.cell? ⟨ge, j, none⟩ = some (.int .i64 (EE : Int))))
                  have HGE4 := Lib.hid (Nat.lt_of_lt_of_le HGE3.out hb4.size)
                  obtain ⟨g, off, hAe, hg, hc1, hc2⟩ := HR.out.at_ j hj
                  subst hAe
                  have A1 := Lib.hid ((HB4.out.drew.cell (p := ⟨g, off + j * 2, none⟩) hg).trans hc1)
                  have A2 := Lib.hid ((HB4.out.drew.cell (p := ⟨g, off + j * 2 + 1, none⟩) hg).trans hc2)
                  have HG := Lib.hid (show g < w4.drew.heap.size from Nat.lt_of_lt_of_le hg HB4.out.size)
                  have HGE := Lib.hid (show ge < w4.drew.heap.size from HGE4.out)
                  have hps := HPS.out
                  clear hb4 hA3c hc1 hc2 hg hSm
                  go_upto_region 32 with fail
                  refine wp_region_ord (by kernel_rfl) Grows [Is (.string S), Is (.int .i64 0), Is (.slice (some ⟨ge, 0, none⟩) l.length ce), Is (.int .i64 j), Is (.pointer (some ⟨ge, j, none⟩)), Is (.int .i64 EE), Is (.string F), Is (.slice (some ⟨g, off, none⟩) l.length cap), Is (.int .i64 j), Is (.pointer (some ⟨g, off + j * 2, none⟩)), Is (.agg #[.int .u8 (l[j].1 : Int), .string l[j].2]), Is (.int .u16 a), Is (.int .u32 b), Is (.bool true), Is (.bool true), Is (.bool true), Is (.bool true), Is (.bool true)] (by kernel_rfl) Grows.refl Grows.trans
                    ⟨is_stab _ _, is_stab _ _, is_stab _ _, is_stab _ _, is_stab _ _, is_stab _ _, is_stab _ _, is_stab _ _, is_stab _ _, is_stab _ _, is_stab _ _, is_stab _ _, is_stab _ _, is_stab _ _, is_stab _ _, is_stab _ _, is_stab _ _, is_stab _ _, trivial⟩ ⟨?_, ?_, ?_, ?_, ?_, ?_, ?_, ?_, ?_, ?_, ?_, ?_, ?_, ?_, ?_, ?_, ?_, ?_, trivial⟩ ?_
                  · intro u w1 hR hp K hK
                    refine ord_plain rfl ?_
                    simp at hp hK ⊢
                    go_simp
                    refine Eq.mp (congrArg (fun t => K { tmps := t, defers := [] } _) ?_) (hK _ _ (Grows.refl _) rfl)
                    simp <;> omega
                  · intro u w1 hR hp K hK
                    refine ord_plain rfl ?_
                    simp at hp hK ⊢
                    go_simp
                    refine Eq.mp (congrArg (fun t => K { tmps := t, defers := [] } _) ?_) (hK _ _ (Grows.refl _) rfl)
                    simp <;> omega
                  · intro u w1 hR hp K hK
                    refine ord_plain rfl ?_
                    simp at hp hK ⊢
                    go_simp
                    refine Eq.mp (congrArg (fun t => K { tmps := t, defers := [] } _) ?_) (hK _ _ (Grows.refl _) rfl)
                    simp <;> omega
                  · intro u w1 hR hp K hK
                    refine ord_plain rfl ?_
                    simp at hp hK ⊢
                    go_simp
                    refine Eq.mp (congrArg (fun t => K { tmps := t, defers := [] } _) ?_) (hK _ _ (Grows.refl _) rfl)
                    simp <;> omega
                  · intro u w1 hR hp K hK
                    refine ord_plain rfl ?_
                    simp at hp hK ⊢
                    obtain ⟨hp1, hp2⟩ := hp
                    simp only [hp1, hp2] at hK
                    go_simp
                    refine Eq.mp (congrArg (fun t => K { tmps := t, defers := [] } _) ?_) (hK _ _ (Grows.refl _) rfl)
                    simp <;> omega
                  · intro u w1 hR hp K hK
                    refine ord_plain rfl ?_
                    simp at hp hK ⊢
                    have d0 := (Below.cell hR (p := ⟨ge, j, none⟩) HGE.out).trans A3.out
                    simp only [hp] at hK
                    go_simp
                    refine Eq.mp (congrArg (fun t => K { tmps := t, defers := [] } _) ?_) (hK _ _ (Grows.refl _) rfl)
                    simp <;> omega
                  · intro u w1 hR hp K hK
                    refine ord_plain rfl ?_
                    simp at hp hK ⊢
                    obtain ⟨hp1, hp2, hp3⟩ := hp
                    simp only [hp1, hp2, hp3] at hK
                    go_simp
                    refine Eq.mp (congrArg (fun t => K { tmps := t, defers := [] } _) ?_) (hK _ _ (Grows.refl _) rfl)
                    simp <;> omega
                  · intro u w1 hR hp K hK
                    refine ord_plain rfl ?_
                    simp at hp hK ⊢
                    go_simp
                    refine Eq.mp (congrArg (fun t => K { tmps := t, defers := [] } _) ?_) (hK _ _ (Grows.refl _) rfl)
                    simp <;> omega
                  · intro u w1 hR hp K hK
                    refine ord_plain rfl ?_
                    simp at hp hK ⊢
                    go_simp
                    refine Eq.mp (congrArg (fun t => K { tmps := t, defers := [] } _) ?_) (hK _ _ (Grows.refl _) rfl)
                    simp <;> omega
                  · intro u w1 hR hp K hK
                    refine ord_plain rfl ?_
                    simp at hp hK ⊢
                    obtain ⟨hp1, hp2⟩ := hp
                    simp only [hp1, hp2] at hK
                    go_simp
                    refine Eq.mp (congrArg (fun t => K { tmps := t, defers := [] } _) ?_) (hK _ _ (Grows.refl _) rfl)
                    simp <;> omega
                  · intro u w1 hR hp K hK
                    refine ord_plain rfl ?_
                    simp at hp hK ⊢
                    have d0 := (Below.cell hR (p := ⟨g, off + j * 2, none⟩) HG.out).trans A1.out
                    have d1 := (Below.cell hR (p := ⟨g, off + j * 2 + 1, none⟩) HG.out).trans A2.out
                    simp only [hp] at hK
                    go_simp
                    refine Eq.mp (congrArg (fun t => K { tmps := t, defers := [] } _) ?_) (hK _ _ (Grows.refl _) rfl)
                    simp <;> omega
                  · intro u w1 hR hp K hK
                    refine ord_plain rfl ?_
                    simp at hp hK ⊢
                    go_simp
                    refine Eq.mp (congrArg (fun t => K { tmps := t, defers := [] } _) ?_) (hK _ _ (Grows.refl _) rfl)
                    simp <;> omega
                  · intro u w1 hR hp K hK
                    refine ord_plain rfl ?_
                    simp at hp hK ⊢
                    go_simp
                    refine Eq.mp (congrArg (fun t => K { tmps := t, defers := [] } _) ?_) (hK _ _ (Grows.refl _) rfl)
                    simp <;> omega
                  · intro u w1 hR hp K hK
                    refine ord_plain rfl ?_
                    simp at hp hK ⊢
                    obtain ⟨hp1, hp2, hp3, hp4⟩ := hp
                    have hj := hTu w1
                    simp only [hp1, hp2, hp3, hp4] at hK
                    go_simp
                    refine hj.out.mono ?_
                    rintro e w2 ⟨rfl, hb2⟩
                    refine Eq.mp (congrArg (fun t => K { tmps := t, defers := [] } _) ?_) (hK _ _ hb2 rfl)
                    simp <;> omega
                  · intro u w1 hR hp K hK
                    refine ord_plain rfl ?_
                    simp at hp hK ⊢
                    simp only [hp] at hK
                    go_simp
                    refine Eq.mp (congrArg (fun t => K { tmps := t, defers := [] } _) ?_) (hK _ _ (Grows.refl _) rfl)
                    simp <;> omega
                  · intro u w1 hR hp K hK
                    simp at hp hK
                    refine ord_guard rfl (by simp [yielded, hp]) ?_
                    simp only [hp] at hK
                    go_simp
                    refine (alive_any4 w1).mono ?_
                    rintro e w9 ⟨rfl, hb2⟩
                    refine Eq.mp (congrArg (fun t => K { tmps := t, defers := [] } _) ?_) (hK _ _ hb2 rfl)
                    simp <;> omega
                  · intro u w1 hR hp K hK
                    refine ord_plain rfl ?_
                    simp at hp hK ⊢
                    obtain ⟨hp1, hp2⟩ := hp
                    simp only [hp1, hp2] at hK
                    go_simp
                    refine Eq.mp (congrArg (fun t => K { tmps := t, defers := [] } _) ?_) (hK _ _ (Grows.refl _) rfl)
                    simp <;> omega
                  · intro u w1 hR hp K hK
                    refine ord_plain rfl ?_
                    simp at hp hK ⊢
                    simp only [hp] at hK
                    go_simp
                    refine Eq.mp (congrArg (fun t => K { tmps := t, defers := [] } _) ?_) (hK _ _ (Grows.refl _) rfl)
                    simp <;> omega
                  · intro u w5 hR hp
                    simp at hp ⊢
                    obtain ⟨_, _, _, _, _, _, _, _, _, _, _, _, _, _, _, _, _, h17⟩ := hp
                    simp only [h17]
                    have HB5 := Lib.hid (HB4.out.drew.trans (Below.mono hR HB4.out.drew.size))
                    clear hR h17 hps
                    go_wp2
                    go_ret
                    exact ⟨rfl, HB5.out⟩
              · have hpv := hprev (by omega)
                clear hprev hP0
                have hj1 : ((j : Int) - 1).toNat = j - 1 := by omega
                have hj2 : (0 : Int) ≤ (j : Int) - 1 := by omega
                have hj3 : (j : Int) - 1 < (l.length : Int) := by omega
                have hj4 : (0 : Int) < (j : Int) := by omega
                go_wp2_with fail
                refine (hS2 _).out.mono ?_
                rintro e w3 ⟨v3, rfl, ho, hb3⟩
                obtain ⟨X3, cx3, rfl, hy1, hy2⟩ := owns_slice ho
                have HX3 : Hid (FRow w3 X3 (l.take j)) := Lib.hid (FRow.of_own (by rw [HLJ.out]; exact ho))
                have HB3 := Lib.hid (HJ2.out.below.trans (Below.mono hb3 HJ2.out.below.size))
                have HA3f := Lib.hid (HR.out.below HB3.out)
                have HA3 : Hid (FRow w3 A (l.take j)) := Lib.hid ⟨fun k hk => by
                  have hk' : k < l.length := by rw [List.length_take] at hk; omega
                  obtain ⟨g, off, q1, q2, q3, q4⟩ := HA3f.out.at_ k hk'
                  refine ⟨g, off, q1, q2, ?_, ?_⟩
                  · rw [q3]; simp
                  · rw [q4]; simp⟩
                have hA3c := (hb3.cell (p := ⟨ge, j, none⟩) HGE0.out).trans hcj
                have HGE3 := Lib.hid (Nat.lt_of_lt_of_le HGE0.out hb3.size)
                clear ho hb3 hcj hpv hS2
                by_cases hKP : K = P
                · have hKP' : ((P : Int) == (K : Int)) = true := by simp; omega
                  simp only [if_pos hKP]
                  go_wp2_with fail
                  refine (hSm w3 X3 cx3 HX3.out HA3.out hy1 hy2).out.mono ?_
                  rintro e w4 ⟨rfl, hb4⟩
                  have HB4 := Lib.hid (HB3.out.trans (Below.mono hb4 HB3.out.size))
                  have A3 := Lib.hid (((hb4.cell (p := ⟨ge, j, none⟩) HGE3.out).trans hA3c : w4.drew.cell? ⟨ge, j, none⟩ = some (.int .i64 (EE : Int))))
                  have HGE4 := Lib.hid (Nat.lt_of_lt_of_le HGE3.out hb4.size)
                  obtain ⟨g, off, hAe, hg, hc1, hc2⟩ := HR.out.at_ j hj
                  subst hAe
                  have A1 := Lib.hid ((HB4.out.drew.cell (p := ⟨g, off + j * 2, none⟩) hg).trans hc1)
                  have A2 := Lib.hid ((HB4.out.drew.cell (p := ⟨g, off + j * 2 + 1, none⟩) hg).trans hc2)
                  have HG := Lib.hid (show g < w4.drew.heap.size from Nat.lt_of_lt_of_le hg HB4.out.size)
                  have HGE := Lib.hid (show ge < w4.drew.heap.size from HGE4.out)
                  have hps := HPS.out
                  clear hb4 hA3c hc1 hc2 hg hSm
                  go_upto_region 32 with fail
                  refine wp_region_ord (by kernel_rfl) Grows [Is (.string S), Is (.int .i64 P), Is (.slice (some ⟨ge, 0, none⟩) l.length ce), Is (.int .i64 j), Is (.pointer (some ⟨ge, j, none⟩)), Is (.int .i64 EE), Is (.string F), Is (.slice (some ⟨g, off, none⟩) l.length cap), Is (.int .i64 j), Is (.pointer (some ⟨g, off + j * 2, none⟩)), Is (.agg #[.int .u8 (l[j].1 : Int), .string l[j].2]), Is (.int .u16 a), Is (.int .u32 b), Is (.bool true), Is (.bool true), Is (.bool true), Is (.bool true), Is (.bool true)] (by kernel_rfl) Grows.refl Grows.trans
                    ⟨is_stab _ _, is_stab _ _, is_stab _ _, is_stab _ _, is_stab _ _, is_stab _ _, is_stab _ _, is_stab _ _, is_stab _ _, is_stab _ _, is_stab _ _, is_stab _ _, is_stab _ _, is_stab _ _, is_stab _ _, is_stab _ _, is_stab _ _, is_stab _ _, trivial⟩ ⟨?_, ?_, ?_, ?_, ?_, ?_, ?_, ?_, ?_, ?_, ?_, ?_, ?_, ?_, ?_, ?_, ?_, ?_, trivial⟩ ?_
                  · intro u w1 hR hp K hK
                    refine ord_plain rfl ?_
                    simp at hp hK ⊢
                    go_simp
                    refine Eq.mp (congrArg (fun t => K { tmps := t, defers := [] } _) ?_) (hK _ _ (Grows.refl _) rfl)
                    simp <;> omega
                  · intro u w1 hR hp K hK
                    refine ord_plain rfl ?_
                    simp at hp hK ⊢
                    go_simp
                    refine Eq.mp (congrArg (fun t => K { tmps := t, defers := [] } _) ?_) (hK _ _ (Grows.refl _) rfl)
                    simp <;> omega
                  · intro u w1 hR hp K hK
                    refine ord_plain rfl ?_
                    simp at hp hK ⊢
                    go_simp
                    refine Eq.mp (congrArg (fun t => K { tmps := t, defers := [] } _) ?_) (hK _ _ (Grows.refl _) rfl)
                    simp <;> omega
                  · intro u w1 hR hp K hK
                    refine ord_plain rfl ?_
                    simp at hp hK ⊢
                    go_simp
                    refine Eq.mp (congrArg (fun t => K { tmps := t, defers := [] } _) ?_) (hK _ _ (Grows.refl _) rfl)
                    simp <;> omega
                  · intro u w1 hR hp K hK
                    refine ord_plain rfl ?_
                    simp at hp hK ⊢
                    obtain ⟨hp1, hp2⟩ := hp
                    simp only [hp1, hp2] at hK
                    go_simp
                    refine Eq.mp (congrArg (fun t => K { tmps := t, defers := [] } _) ?_) (hK _ _ (Grows.refl _) rfl)
                    simp <;> omega
                  · intro u w1 hR hp K hK
                    refine ord_plain rfl ?_
                    simp at hp hK ⊢
                    have d0 := (Below.cell hR (p := ⟨ge, j, none⟩) HGE.out).trans A3.out
                    simp only [hp] at hK
                    go_simp
                    refine Eq.mp (congrArg (fun t => K { tmps := t, defers := [] } _) ?_) (hK _ _ (Grows.refl _) rfl)
                    simp <;> omega
                  · intro u w1 hR hp K hK
                    refine ord_plain rfl ?_
                    simp at hp hK ⊢
                    obtain ⟨hp1, hp2, hp3⟩ := hp
                    simp only [hp1, hp2, hp3] at hK
                    go_simp
                    refine Eq.mp (congrArg (fun t => K { tmps := t, defers := [] } _) ?_) (hK _ _ (Grows.refl _) rfl)
                    simp <;> omega
                  · intro u w1 hR hp K hK
                    refine ord_plain rfl ?_
                    simp at hp hK ⊢
                    go_simp
                    refine Eq.mp (congrArg (fun t => K { tmps := t, defers := [] } _) ?_) (hK _ _ (Grows.refl _) rfl)
                    simp <;> omega
                  · intro u w1 hR hp K hK
                    refine ord_plain rfl ?_
                    simp at hp hK ⊢
                    go_simp
                    refine Eq.mp (congrArg (fun t => K { tmps := t, defers := [] } _) ?_) (hK _ _ (Grows.refl _) rfl)
                    simp <;> omega
                  · intro u w1 hR hp K hK
                    refine ord_plain rfl ?_
                    simp at hp hK ⊢
                    obtain ⟨hp1, hp2⟩ := hp
                    simp only [hp1, hp2] at hK
                    go_simp
                    refine Eq.mp (congrArg (fun t => K { tmps := t, defers := [] } _) ?_) (hK _ _ (Grows.refl _) rfl)
                    simp <;> omega
                  · intro u w1 hR hp K hK
                    refine ord_plain rfl ?_
                    simp at hp hK ⊢
                    have d0 := (Below.cell hR (p := ⟨g, off + j * 2, none⟩) HG.out).trans A1.out
                    have d1 := (Below.cell hR (p := ⟨g, off + j * 2 + 1, none⟩) HG.out).trans A2.out
                    simp only [hp] at hK
                    go_simp
                    refine Eq.mp (congrArg (fun t => K { tmps := t, defers := [] } _) ?_) (hK _ _ (Grows.refl _) rfl)
                    simp <;> omega
                  · intro u w1 hR hp K hK
                    refine ord_plain rfl ?_
                    simp at hp hK ⊢
                    go_simp
                    refine Eq.mp (congrArg (fun t => K { tmps := t, defers := [] } _) ?_) (hK _ _ (Grows.refl _) rfl)
                    simp <;> omega
                  · intro u w1 hR hp K hK
                    refine ord_plain rfl ?_
                    simp at hp hK ⊢
                    go_simp
                    refine Eq.mp (congrArg (fun t => K { tmps := t, defers := [] } _) ?_) (hK _ _ (Grows.refl _) rfl)
                    simp <;> omega
                  · intro u w1 hR hp K hK
                    refine ord_plain rfl ?_
                    simp at hp hK ⊢
                    obtain ⟨hp1, hp2, hp3, hp4⟩ := hp
                    have hj := hTu w1
                    simp only [hp1, hp2, hp3, hp4] at hK
                    go_simp
                    refine hj.out.mono ?_
                    rintro e w2 ⟨rfl, hb2⟩
                    refine Eq.mp (congrArg (fun t => K { tmps := t, defers := [] } _) ?_) (hK _ _ hb2 rfl)
                    simp <;> omega
                  · intro u w1 hR hp K hK
                    refine ord_plain rfl ?_
                    simp at hp hK ⊢
                    simp only [hp] at hK
                    go_simp
                    refine Eq.mp (congrArg (fun t => K { tmps := t, defers := [] } _) ?_) (hK _ _ (Grows.refl _) rfl)
                    simp <;> omega
                  · intro u w1 hR hp K hK
                    simp at hp hK
                    refine ord_guard rfl (by simp [yielded, hp]) ?_
                    simp only [hp] at hK
                    go_simp
                    refine (alive_any4 w1).mono ?_
                    rintro e w9 ⟨rfl, hb2⟩
                    refine Eq.mp (congrArg (fun t => K { tmps := t, defers := [] } _) ?_) (hK _ _ hb2 rfl)
                    simp <;> omega
                  · intro u w1 hR hp K hK
                    refine ord_plain rfl ?_
                    simp at hp hK ⊢
                    obtain ⟨hp1, hp2⟩ := hp
                    simp only [hp1, hp2] at hK
                    go_simp
                    refine Eq.mp (congrArg (fun t => K { tmps := t, defers := [] } _) ?_) (hK _ _ (Grows.refl _) rfl)
                    simp <;> omega
                  · intro u w1 hR hp K hK
                    refine ord_plain rfl ?_
                    simp at hp hK ⊢
                    simp only [hp] at hK
                    go_simp
                    refine Eq.mp (congrArg (fun t => K { tmps := t, defers := [] } _) ?_) (hK _ _ (Grows.refl _) rfl)
                    simp <;> omega
                  · intro u w5 hR hp
                    simp at hp ⊢
                    obtain ⟨_, _, _, _, _, _, _, _, _, _, _, _, _, _, _, _, _, h17⟩ := hp
                    simp only [h17]
                    have HB5 := Lib.hid (HB4.out.drew.trans (Below.mono hR HB4.out.drew.size))
                    clear hR h17 hps
                    go_wp2
                    go_ret
                    exact ⟨rfl, HB5.out⟩
                · have hKP' : ((P : Int) == (K : Int)) = false := by simp; omega
                  simp only [if_neg hKP]
                  go_wp2_with fail
                  refine (hSm w3 X3 cx3 HX3.out HA3.out hy1 hy2).out.mono ?_
                  rintro e w4 ⟨rfl, hb4⟩
                  have HB4 := Lib.hid (HB3.out.trans (Below.mono hb4 HB3.out.size))
                  have A3 := Lib.hid (((hb4.cell (p := ⟨ge, j, none⟩) HGE3.out).trans hA3c : w4.drew.cell? ⟨ge, j, none⟩ = some (.int .i64 (EE : Int))))
                  have HGE4 := Lib.hid (Nat.lt_of_lt_of_le HGE3.out hb4.size)
                  obtain ⟨g, off, hAe, hg, hc1, hc2⟩ := HR.out.at_ j hj
                  subst hAe
                  have A1 := Lib.hid ((HB4.out.drew.cell (p := ⟨g, off + j * 2, none⟩) hg).trans hc1)
                  have A2 := Lib.hid ((HB4.out.drew.cell (p := ⟨g, off + j * 2 + 1, none⟩) hg).trans hc2)
                  have HG := Lib.hid (show g < w4.drew.heap.size from Nat.lt_of_lt_of_le hg HB4.out.size)
                  have HGE := Lib.hid (show ge < w4.drew.heap.size from HGE4.out)
                  have hps := HPS.out
                  clear hb4 hA3c hc1 hc2 hg hSm
                  go_upto_region 32 with fail
                  refine wp_region_ord (by kernel_rfl) Grows [Is (.string S), Is (.int .i64 P), Is (.slice (some ⟨ge, 0, none⟩) l.length ce), Is (.int .i64 j), Is (.pointer (some ⟨ge, j, none⟩)), Is (.int .i64 EE), Is (.string F), Is (.slice (some ⟨g, off, none⟩) l.length cap), Is (.int .i64 j), Is (.pointer (some ⟨g, off + j * 2, none⟩)), Is (.agg #[.int .u8 (l[j].1 : Int), .string l[j].2]), Is (.int .u16 a), Is (.int .u32 b), Is (.bool true), Is (.bool true), Is (.bool true), Is (.bool true), Is (.bool true)] (by kernel_rfl) Grows.refl Grows.trans
                    ⟨is_stab _ _, is_stab _ _, is_stab _ _, is_stab _ _, is_stab _ _, is_stab _ _, is_stab _ _, is_stab _ _, is_stab _ _, is_stab _ _, is_stab _ _, is_stab _ _, is_stab _ _, is_stab _ _, is_stab _ _, is_stab _ _, is_stab _ _, is_stab _ _, trivial⟩ ⟨?_, ?_, ?_, ?_, ?_, ?_, ?_, ?_, ?_, ?_, ?_, ?_, ?_, ?_, ?_, ?_, ?_, ?_, trivial⟩ ?_
                  · intro u w1 hR hp K hK
                    refine ord_plain rfl ?_
                    simp at hp hK ⊢
                    go_simp
                    refine Eq.mp (congrArg (fun t => K { tmps := t, defers := [] } _) ?_) (hK _ _ (Grows.refl _) rfl)
                    simp <;> omega
                  · intro u w1 hR hp K hK
                    refine ord_plain rfl ?_
                    simp at hp hK ⊢
                    go_simp
                    refine Eq.mp (congrArg (fun t => K { tmps := t, defers := [] } _) ?_) (hK _ _ (Grows.refl _) rfl)
                    simp <;> omega
                  · intro u w1 hR hp K hK
                    refine ord_plain rfl ?_
                    simp at hp hK ⊢
                    go_simp
                    refine Eq.mp (congrArg (fun t => K { tmps := t, defers := [] } _) ?_) (hK _ _ (Grows.refl _) rfl)
                    simp <;> omega
                  · intro u w1 hR hp K hK
                    refine ord_plain rfl ?_
                    simp at hp hK ⊢
                    go_simp
                    refine Eq.mp (congrArg (fun t => K { tmps := t, defers := [] } _) ?_) (hK _ _ (Grows.refl _) rfl)
                    simp <;> omega
                  · intro u w1 hR hp K hK
                    refine ord_plain rfl ?_
                    simp at hp hK ⊢
                    obtain ⟨hp1, hp2⟩ := hp
                    simp only [hp1, hp2] at hK
                    go_simp
                    refine Eq.mp (congrArg (fun t => K { tmps := t, defers := [] } _) ?_) (hK _ _ (Grows.refl _) rfl)
                    simp <;> omega
                  · intro u w1 hR hp K hK
                    refine ord_plain rfl ?_
                    simp at hp hK ⊢
                    have d0 := (Below.cell hR (p := ⟨ge, j, none⟩) HGE.out).trans A3.out
                    simp only [hp] at hK
                    go_simp
                    refine Eq.mp (congrArg (fun t => K { tmps := t, defers := [] } _) ?_) (hK _ _ (Grows.refl _) rfl)
                    simp <;> omega
                  · intro u w1 hR hp K hK
                    refine ord_plain rfl ?_
                    simp at hp hK ⊢
                    obtain ⟨hp1, hp2, hp3⟩ := hp
                    simp only [hp1, hp2, hp3] at hK
                    go_simp
                    refine Eq.mp (congrArg (fun t => K { tmps := t, defers := [] } _) ?_) (hK _ _ (Grows.refl _) rfl)
                    simp <;> omega
                  · intro u w1 hR hp K hK
                    refine ord_plain rfl ?_
                    simp at hp hK ⊢
                    go_simp
                    refine Eq.mp (congrArg (fun t => K { tmps := t, defers := [] } _) ?_) (hK _ _ (Grows.refl _) rfl)
                    simp <;> omega
                  · intro u w1 hR hp K hK
                    refine ord_plain rfl ?_
                    simp at hp hK ⊢
                    go_simp
                    refine Eq.mp (congrArg (fun t => K { tmps := t, defers := [] } _) ?_) (hK _ _ (Grows.refl _) rfl)
                    simp <;> omega
                  · intro u w1 hR hp K hK
                    refine ord_plain rfl ?_
                    simp at hp hK ⊢
                    obtain ⟨hp1, hp2⟩ := hp
                    simp only [hp1, hp2] at hK
                    go_simp
                    refine Eq.mp (congrArg (fun t => K { tmps := t, defers := [] } _) ?_) (hK _ _ (Grows.refl _) rfl)
                    simp <;> omega
                  · intro u w1 hR hp K hK
                    refine ord_plain rfl ?_
                    simp at hp hK ⊢
                    have d0 := (Below.cell hR (p := ⟨g, off + j * 2, none⟩) HG.out).trans A1.out
                    have d1 := (Below.cell hR (p := ⟨g, off + j * 2 + 1, none⟩) HG.out).trans A2.out
                    simp only [hp] at hK
                    go_simp
                    refine Eq.mp (congrArg (fun t => K { tmps := t, defers := [] } _) ?_) (hK _ _ (Grows.refl _) rfl)
                    simp <;> omega
                  · intro u w1 hR hp K hK
                    refine ord_plain rfl ?_
                    simp at hp hK ⊢
                    go_simp
                    refine Eq.mp (congrArg (fun t => K { tmps := t, defers := [] } _) ?_) (hK _ _ (Grows.refl _) rfl)
                    simp <;> omega
                  · intro u w1 hR hp K hK
                    refine ord_plain rfl ?_
                    simp at hp hK ⊢
                    go_simp
                    refine Eq.mp (congrArg (fun t => K { tmps := t, defers := [] } _) ?_) (hK _ _ (Grows.refl _) rfl)
                    simp <;> omega
                  · intro u w1 hR hp K hK
                    refine ord_plain rfl ?_
                    simp at hp hK ⊢
                    obtain ⟨hp1, hp2, hp3, hp4⟩ := hp
                    have hj := hTu w1
                    simp only [hp1, hp2, hp3, hp4] at hK
                    go_simp
                    refine hj.out.mono ?_
                    rintro e w2 ⟨rfl, hb2⟩
                    refine Eq.mp (congrArg (fun t => K { tmps := t, defers := [] } _) ?_) (hK _ _ hb2 rfl)
                    simp <;> omega
                  · intro u w1 hR hp K hK
                    refine ord_plain rfl ?_
                    simp at hp hK ⊢
                    simp only [hp] at hK
                    go_simp
                    refine Eq.mp (congrArg (fun t => K { tmps := t, defers := [] } _) ?_) (hK _ _ (Grows.refl _) rfl)
                    simp <;> omega
                  · intro u w1 hR hp K hK
                    simp at hp hK
                    refine ord_guard rfl (by simp [yielded, hp]) ?_
                    simp only [hp] at hK
                    go_simp
                    refine (alive_any4 w1).mono ?_
                    rintro e w9 ⟨rfl, hb2⟩
                    refine Eq.mp (congrArg (fun t => K { tmps := t, defers := [] } _) ?_) (hK _ _ hb2 rfl)
                    simp <;> omega
                  · intro u w1 hR hp K hK
                    refine ord_plain rfl ?_
                    simp at hp hK ⊢
                    obtain ⟨hp1, hp2⟩ := hp
                    simp only [hp1, hp2] at hK
                    go_simp
                    refine Eq.mp (congrArg (fun t => K { tmps := t, defers := [] } _) ?_) (hK _ _ (Grows.refl _) rfl)
                    simp <;> omega
                  · intro u w1 hR hp K hK
                    refine ord_plain rfl ?_
                    simp at hp hK ⊢
                    simp only [hp] at hK
                    go_simp
                    refine Eq.mp (congrArg (fun t => K { tmps := t, defers := [] } _) ?_) (hK _ _ (Grows.refl _) rfl)
                    simp <;> omega
                  · intro u w5 hR hp
                    simp at hp ⊢
                    obtain ⟨_, _, _, _, _, _, _, _, _, _, _, _, _, _, _, _, _, h17⟩ := hp
                    simp only [h17]
                    have HB5 := Lib.hid (HB4.out.drew.trans (Below.mono hR HB4.out.drew.size))
                    clear hR h17 hps
                    go_wp2
                    go_ret
                    exact ⟨rfl, HB5.out⟩
end Go.Proofs.Ytpnjcgpnannjaaa
