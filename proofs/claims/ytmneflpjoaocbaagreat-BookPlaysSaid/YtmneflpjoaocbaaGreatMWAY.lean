/- Several texts in one: RlG, RpA, RpB, RpC, RqA, RqB, RqC. -/
import Derived.Test.YtmneflpjoaocbaaGreatMWAX
import Derived.Test.YtmneflpjoaocbaaGreatMWAT
/- The document's book: the walk of Append, of Sync. No conditions beyond what each states. -/
namespace Go.Proofs.YtmneflpjoaocbaaGreat
set_option maxRecDepth 100000
open Go.RowKit
set_option linter.unusedVariables false
attribute [local simp] frOf dstsOf frGo predsHold allHold Region.binds slotOf seen Is Act.put
theorem nRT_Book : ¬ RT 44 := fun h => by rcases h with h | h <;> revert h <;> decide
theorem nRT2_Book : ¬ (RT 44 ∨ 44 = 9) := fun h => by
  rcases h with h | h
  · exact nRT_Book h
  · revert h; decide
/-- what turns only a block of another type leaves the disk -/
theorem RkS.away {w w' : World} {q gg n : Nat} {S : Dst} {B m x : Nat} {t : TypeId} {cs : Array Value} (h : RkS w q gg n S B m) (hx : Blk w x t cs) (o : Only (fun b => b = x) w w') (ht : ¬ (RT t ∨ t = 9)) : RkS w' q gg n S B m := by
  obtain ⟨h1, h2, c, A, c2, D⟩ := h
  have t1 : 47 ≠ t := fun e => ht (.inl (.inl e.symm))
  have t2 : 132 ≠ t := fun e => ht (.inl (.inr e.symm))
  have t3 : 9 ≠ t := fun e => ht (.inr e.symm)
  exact ⟨h1, h2, c, A, c2, ⟨o.blk D.blk (Blk.ne_ D.blk hx t1), o.owns D.good (fun k hk e => own_blk_ne D.good hx t3 (hk.trans (congrArg some e))), o.owns D.own (fun k hk e => own_blk_ne D.own hx t2 (hk.trans (congrArg some e))), D.lo, D.ok⟩⟩
theorem TextRow.only {w w' : World} {A : Option Addr} {xs : List ByteArray} (h : TextRow w A xs) (o : Only (fun _ => False) w w') : TextRow w' A xs := ⟨fun k hk => by
  obtain ⟨g, off, h1, h2, h3⟩ := h.at_ k hk
  exact ⟨g, off, h1, Nat.lt_of_lt_of_le h2 o.size, (o.cell (p := ⟨g, off + k, none⟩) h2 (fun h => h)).trans h3⟩⟩
set_option maxHeartbeats 4000000 in
set_option maxRecDepth 100000 in
theorem rappend_any (w : World) (q gg n f nn x : Nat) (S : Dst) (B m : Nat) (t : List UInt8) (br : Bool) (xs : List ByteArray) (A : Option Addr) (c : Nat)
    (D : RkS w q gg n S B m) (hb : BookR w x q f nn (sB t) br) (hBx : B ≤ x) (hx : TextRow w A xs) (hn : f + nn ≤ n) (ht : t.length ≤ nn * 127) (hm : m + 6000 ≤ 1000000) (hxl : xs.length ≤ 1000000) (hxs : ∀ x ∈ xs, x.size ≤ 4294967296) :
    Calls Tryz.prog 26 #[.pointer (some ⟨x, 0, none⟩), .slice A xs.length c] w fun e w' =>
      e = .returned (.int .i64 (appS n f nn S t br xs).1) ∧ RkS w' q gg n (appS n f nn S t br xs).2.1 B (m + nn + 2) ∧ BookR w' x q f nn (sB (appS n f nn S t br xs).2.2.1) (appS n f nn S t br xs).2.2.2 ∧
      FarG RT (fun b => b = gg ∨ b = x) w w' ∧ Only (fun b => B ≤ b) w w' := by
  have hn4 : n ≤ 4096 := D.1.2.1
  have HD := Lib.hid D
  have HBk := Lib.hid hb
  have HBx := Lib.hid hBx
  have HXR := Lib.hid hx
  obtain ⟨R, hR⟩ : ∃ R, R = appS n f nn S t br xs := ⟨_, rfl⟩
  rw [← hR]
  have HR := Lib.hid hR
  have c4 : w.cell? ⟨x, 4, none⟩ = some (.bool br) := hb.cell 4
  clear D hb hBx hx hR
  cases br with
  | true =>
    have hRe : Hid (R = (3, S, t, true)) := Lib.hid (by rw [HR.out]; rfl)
    go_enter Tryz.func26, Tryz.ntmps26
    go_wp2_with fail
    go_ret
    rw [hRe.out]
    exact ⟨rfl, HD.out.more (by omega) (by omega), HBk.out, FarG.refl _ _ _, Only.refl _ _⟩
  | false =>
    have HE0 : Hid (ByteArray.empty = sB (frsB (xs.take 0))) := Lib.hid rfl
    go_enter Tryz.func26, Tryz.ntmps26
    go_wp2_with fail
    clear c4
    go_loopw [5, 6] (fun sv i wr => ∃ k : Nat, k ≤ xs.length ∧ i = .int .i64 (k : Int) ∧ sv = .string (sB (frsB (xs.take k))) ∧ (∀ x ∈ xs.take k, x.size ≤ 131072) ∧ Only (fun _ => False) w wr) (fun _ i _ => xs.length - (intOf i).toNat)
    case atStart => exact ⟨0, by omega, rfl, rfl, by simp, Only.refl _ _⟩
    case round =>
      obtain ⟨k, hk, rfl, rfl, hall, b1⟩ := hrel
      have B1 := Lib.hid b1
      clear b1
      by_cases hlt : k < xs.length
      · obtain ⟨g, off, hA, hg, hck⟩ := (HXR.out.only B1.out).at_ k hlt
        subst hA
        have hmem := List.getElem_mem hlt
        have hsn : xs.take (k + 1) = xs.take k ++ [xs[k]] := by rw [List.take_add_one, List.getElem?_eq_getElem hlt]; rfl
        have hxk := hxs _ hmem
        have hfl := fsz_le (xs.take k) hall
        have hfb := frsB_len (xs.take k) hall
        rw [List.length_take] at hfl
        generalize xs[k] = y at *
        have hlti : (k : Int) < (xs.length : Int) := by omega
        have hloi : (0 : Int) ≤ (k : Int) := by omega
        have HSN := Lib.hid hsn
        have HAL := Lib.hid hall
        have HMEM := Lib.hid hmem
        clear hsn hall hmem
        by_cases hlong : y.size ≤ 131072
        · have hli : ¬ (131072 : Int) < (y.size : Int) := by omega
          have hfx := fsize_le y.size hlong
          have hfy := frB_len y hlong
          have HRW : Hid (∀ W, Calls Tryz.prog 55 #[.int .u8 1, .string y] W fun e w'' => e = .returned (.string (fraw 1 y)) ∧ Only (fun _ => False) W w'') := Lib.hid (fun W => by
            refine (fraw_any 1 y W (by omega) (by omega)).mono ?_
            rintro e w'' ⟨he, hb⟩
            exact ⟨he, Only.below_ hb⟩)
          have hs1 : (sB (frsB (xs.take k))).size ≤ 200000000000 := by rw [sB_size, hfb]; omega
          have hs2 : (fraw 1 y).size ≤ 200000 := by
            have : (fraw 1 y).size = (frB y).length := by simp [frB]
            omega
          have hcat : sB (frsB (xs.take k)) ++ fraw 1 y = sB (frsB (xs.take (k + 1))) := by rw [sB_fr, HSN.out, frsB_snoc]
          go_wp2_with fail
          refine (HRW.out _).mono ?_
          rintro e w1 ⟨rfl, o1⟩
          have O1 := Lib.hid o1
          clear o1 hck
          go_wp2_with fail
          go_roundw
          case rel =>
            refine ⟨k + 1, by omega, by go_num, rfl, fun z hz => ?_, B1.out.trans O1.out⟩
            rw [HSN.out] at hz
            rcases List.mem_append.1 hz with h | h
            · exact HAL.out z h
            · rw [List.mem_singleton.1 h]; exact hlong
          case measure => simp [intOf] <;> omega
        · have hli : (131072 : Int) < (y.size : Int) := by omega
          have hRe : Hid (R = (4, S, t, false)) := Lib.hid (by
            rw [HR.out]
            unfold appS
            rw [if_neg (by simp), if_neg (fun h => hlong (by have := List.all_eq_true.1 h _ HMEM.out; simpa using this))])
          go_wp2_with fail
          go_ret
          rw [hRe.out]
          exact ⟨rfl, (HD.out.only B1.out).more (by omega) (by omega), B1.out.blk HBk.out (fun h => h), FarG.none B1.out, B1.out.mono fun _ h => h.elim⟩
      · obtain rfl : k = xs.length := by omega
        rw [List.take_length] at hall ⊢
        have hfl := fsz_le xs hall
        have hfb := frsB_len xs hall
        have HAL := Lib.hid hall
        have HFB := Lib.hid hfb
        have hsF : (sB (frsB xs)).size = fsz xs := by rw [sB_size, hfb]
        have HB1 : Hid (BookR wr x q f nn (sB t) false) := Lib.hid (B1.out.blk HBk.out (fun h => h))
        clear hall hfb
        go_wp2_with fail
        refine (rroom_any q f nn x t false wr HB1.out (by omega) (by omega)).mono ?_
        rintro e w2 ⟨rfl, o2⟩
        have O2 := Lib.hid (B1.out.trans o2)
        clear o2 HB1
        by_cases hroom : nn * 127 < t.length + fsz xs
        · have hri : (nn : Int) * 127 - (t.length : Int) < (fsz xs : Int) := by omega
          have hRe : Hid (R = (6, S, t, false)) := Lib.hid (by
            rw [HR.out]
            unfold appS
            rw [if_neg (by simp), if_pos (List.all_eq_true.2 fun x hx => by simpa using HAL.out x hx), if_pos hroom])
          go_wp2_with fail
          go_ret
          rw [hRe.out]
          exact ⟨rfl, (HD.out.only O2.out).more (by omega) (by omega), O2.out.blk HBk.out (fun h => h), FarG.none O2.out, O2.out.mono fun _ h => h.elim⟩
        · have hri : ¬ (nn : Int) * 127 - (t.length : Int) < (fsz xs : Int) := by omega
          have hb2 : BookR w2 x q f nn (sB t) false := O2.out.blk HBk.out (fun h => h)
          have c3 : w2.cell? ⟨x, 3, none⟩ = some (.string (sB t)) := hb2.cell 3
          have f3 : w2.frozen? ⟨x, 3, none⟩ = false := hb2.frozen 3
          have hsz : (sB t).size = t.length := sB_size t
          obtain ⟨t2, ht2⟩ : ∃ t2, t2 = t ++ frsB xs := ⟨_, rfl⟩
          have hcat : sB t ++ sB (frsB xs) = sB t2 := by rw [sB_append, ht2]
          have hl2 : t2.length = t.length + fsz xs := by rw [ht2, List.length_append, HFB.out]
          obtain ⟨Y, hY⟩ : ∃ Y, Y = docW n f t t2 nn 0 S := ⟨_, rfl⟩
          have hRY : R = (Y.1, Y.2, t2, Y.1 != 0) := by rw [HR.out, docW_appS HAL.out hroom, hY, ht2]
          have HRY := Lib.hid hRY
          have HYY := Lib.hid hY
          have os : Only (fun b => b = x) w2 (w2.setCell ⟨x, 3, none⟩ (.string (sB t2))) := (Only.refl (fun b => b = x) w2).setCell (p := ⟨x, 3, none⟩) (.inl rfl) _
          have I1 : Hid (BookR (w2.setCell ⟨x, 3, none⟩ (.string (sB t2))) x q f nn (sB t2) false) := Lib.hid (hb2.set_ 3 _)
          have I2 := Lib.hid ((HD.out.only O2.out).away hb2 os nRT2_Book)
          have I3 : Hid (FarG RT (fun b => b = gg ∨ b = x) w (w2.setCell ⟨x, 3, none⟩ (.string (sB t2)))) := Lib.hid ((FarG.none O2.out).trans (FarG.of_only os (fun _ h => .inl (.inr h))))
          have I4 : Hid (Only (fun b => B ≤ b) w (w2.setCell ⟨x, 3, none⟩ (.string (sB t2)))) := Lib.hid ((O2.out.mono fun _ h => h.elim).trans (os.mono fun b h => by rw [h]; exact HBx.out))
          clear hb2 os ht2 hRY hY
          go_wp2_with fail
          go_loopw [8] (fun iv wz => ∃ (i : Nat) (S2 : Dst), i ≤ nn ∧ iv = .int .i64 (i : Int) ∧ docW n f t t2 (nn - i) i S2 = Y ∧ BookR wz x q f nn (sB t2) false ∧ RkS wz q gg n S2 B (m + i) ∧ FarG RT (fun b => b = gg ∨ b = x) w wz ∧ Only (fun b => B ≤ b) w wz) (fun i _ => nn + 1 - (intOf i).toNat)
          case atStart => exact ⟨0, S, by omega, rfl, HYY.out.symm, I1.out, I2.out, I3.out, I4.out⟩
          case round =>
            obtain ⟨i, S2, hi1, rfl, hap, b1, b2, b3, b4⟩ := hrel
            rename World => wz
            have J1 := Lib.hid b1
            have J2 := Lib.hid b2
            have J3 := Lib.hid b3
            have J4 := Lib.hid b4
            have HAP := Lib.hid hap
            have c2 : wz.cell? ⟨x, 2, none⟩ = some (.int .i64 (nn : Int)) := b1.cell 2
            clear b1 b2 b3 b4 hap c3 f3 I1 I2 I3 I4
            by_cases hil : i < nn
            · have hili : (i : Int) < (nn : Int) := by omega
              have c3 : wz.cell? ⟨x, 3, none⟩ = some (.string (sB t2)) := J1.out.cell 3
              have HIN : Hid (nn - i = (nn - i - 1) + 1) := Lib.hid (by omega)
              have hMd : ∀ W, Hid (Calls Tryz.prog 56 #[.string (sB t2), .int .i64 (i : Int)] W fun e w' => e = .returned (.string (sB (madeL t2 i))) ∧ Only (fun _ => False) W w') := fun W => Lib.hid ((rmade_any t2 i W (by omega) (by omega)).mono (by rintro e w' ⟨he, hb⟩; exact ⟨he, Only.below_ hb⟩))
              have hMt : ∀ W, Hid (Calls Tryz.prog 56 #[.string (sB t), .int .i64 (i : Int)] W fun e w' => e = .returned (.string (sB (madeL t i))) ∧ Only (fun _ => False) W w') := fun W => Lib.hid ((rmade_any t i W (by omega) (by omega)).mono (by rintro e w' ⟨he, hb⟩; exact ⟨he, Only.below_ hb⟩))
              go_wp2_with fail
              refine (hMd _).out.mono ?_
              rintro e w5 ⟨rfl, o5⟩
              have O5 := Lib.hid o5
              clear o5
              go_wp2_with fail
              refine (hMt _).out.mono ?_
              rintro e w7 ⟨rfl, o7⟩
              have O7 := Lib.hid (O5.out.trans o7)
              clear o7 O5 hMt c2 c3
              by_cases hmm : madeL t2 i = madeL t i
              · have HMM := Lib.hid hmm
                rw [hmm]
                clear hmm
                go_wp2_with fail
                go_roundw
                case rel =>
                  refine ⟨i + 1, S2, by omega, by go_num, ?_, O7.out.blk J1.out (fun h => h), (J2.out.only O7.out).more (by omega) (by omega), J3.out.trans (FarG.none O7.out), J4.out.trans (O7.out.mono fun _ h => h.elim)⟩
                  have := HAP.out
                  rw [HIN.out] at this
                  simp only [docW] at this
                  rw [if_pos HMM.out] at this
                  rw [show nn - (i + 1) = nn - i - 1 by omega]
                  exact this
                case measure => simp [intOf]; omega
              · have hne := sB_ne hmm
                have HMM := Lib.hid hmm
                obtain ⟨y0, hy0⟩ : ∃ y0, y0 = wrS n S2 ((f : Int) + (i : Int)) (madeL t2 i) := ⟨_, rfl⟩
                have HY0 := Lib.hid hy0
                go_wp2_with fail
                clear hne hmm
                obtain ⟨W7, hW7⟩ : ∃ W7, W7 = w7.drew := ⟨_, rfl⟩
                have hN7 : Only (fun _ => False) wz W7 := by rw [hW7]; exact O7.out.drew
                have H7 : Hid (BookR W7 x q f nn (sB t2) false) := Lib.hid (hN7.blk J1.out (fun h => h))
                have HN7 := Lib.hid hN7
                have HW7 := Lib.hid hW7
                have HWR : Hid (∀ W, Only (fun _ => False) W7 W → Calls Tryz.prog 50 #[.pointer (some ⟨q, 0, none⟩), .int .i64 ((f : Int) + (i : Int)), .string (sB (madeL t2 i))] W fun e w' => e = .returned (.int .i64 y0.1) ∧ RkS w' q gg n y0.2 B (m + i + 1) ∧ FarG RT (fun _ => False) W w' ∧ Only (fun b => B ≤ b) W w') := Lib.hid (fun W hW => by
                  have h := rwrite_any W q gg n S2 B (m + i) ((f : Int) + (i : Int)) (madeL t2 i) ((J2.out.only hN7).only hW) (by omega) (by rw [madeL_len]; omega)
                  rw [← hy0] at h
                  exact h.mono (by rintro e w' ⟨h1, h2, h3, h4⟩; exact ⟨h1, h2, h4, h3⟩))
                have hadd : IntKind.i64.wrap ((f : Int) + (i : Int)) = (f : Int) + (i : Int) := IntWalk.i64_in _ (by omega)
                clear hW7 hN7 hy0
                refine wp_region_st (by kernel_rfl) (fun dn y => Stg (fun y => BookR y x q f nn (sB t2) false) (fun y => Only (fun _ => False) W7 y) (fun y => RkS y q gg n y0.2 B (m + i + 1) ∧ FarG RT (fun b => b = gg ∨ b = x) W7 y ∧ Only (fun b => B ≤ b) W7 y) (dn 15) (dn 16) y) [Is (.pointer (some ⟨x, 0, none⟩)), Is (.pointer (some ⟨x, 0, none⟩)), Is (.pointer (some ⟨x, 0, none⟩)), Is (.pointer (some ⟨q, 0, none⟩)), Is (.pointer (some ⟨x, 0, none⟩)), Is (.pointer (some ⟨x, 0, none⟩)), Is (.pointer (some ⟨x, 1, none⟩)), Is (.int .i64 (f : Int)), Is (.int .i64 (i : Int)), Is (.int .i64 ((f : Int) + (i : Int))), Is (.pointer (some ⟨x, 0, none⟩)), Is (.pointer (some ⟨x, 0, none⟩)), Is (.pointer (some ⟨x, 3, none⟩)), Is (.string (sB t2)), Is (.int .i64 (i : Int)), Is (.string (sB (madeL t2 i))), Is (.int .i64 y0.1), Is (.int .i64 y0.1)] (by kernel_rfl)
                  ⟨is_stab _ _, is_stab _ _, is_stab _ _, is_stab _ _, is_stab _ _, is_stab _ _, is_stab _ _, is_stab _ _, is_stab _ _, is_stab _ _, is_stab _ _, is_stab _ _, is_stab _ _, is_stab _ _, is_stab _ _, is_stab _ _, is_stab _ _, is_stab _ _, trivial⟩ (by rw [← HW7.out]; exact Stg.start H7.out (Only.refl _ _)) ⟨?_, ?_, ?_, ?_, ?_, ?_, ?_, ?_, ?_, ?_, ?_, ?_, ?_, ?_, ?_, ?_, ?_, ?_, trivial⟩ ?_
                · intro dn u w1 hi he hS hp K hK
                  refine ord_plain rfl ?_
                  simp at hp hK ⊢
                  go_simp
                  exact hK _ _ (by simpa [ldW] using hS) rfl
                · intro dn u w1 hi he hS hp K hK
                  refine ord_plain rfl ?_
                  simp at hp hK ⊢
                  simp only [hp] at hK
                  go_simp
                  exact hK _ _ (by simpa [ldW] using hS) rfl
                · intro dn u w1 hi he hS hp K hK
                  refine ord_plain rfl ?_
                  simp at hp hK ⊢
                  simp only [hp] at hK
                  go_simp
                  exact hK _ _ (by simpa [ldW] using hS) rfl
                · intro dn u w1 hi he hS hp K hK
                  refine ord_plain rfl ?_
                  simp at hp hK ⊢
                  simp only [hp] at hK
                  have hc0 : w1.cell? ⟨x, 0, none⟩ = some (.pointer (some ⟨q, 0, none⟩)) := hS.all.cell 0
                  go_simp
                  exact hK _ _ (by simpa [ldW] using hS) rfl
                · intro dn u w1 hi he hS hp K hK
                  refine ord_plain rfl ?_
                  simp at hp hK ⊢
                  go_simp
                  exact hK _ _ (by simpa [ldW] using hS) rfl
                · intro dn u w1 hi he hS hp K hK
                  refine ord_plain rfl ?_
                  simp at hp hK ⊢
                  simp only [hp] at hK
                  go_simp
                  exact hK _ _ (by simpa [ldW] using hS) rfl
                · intro dn u w1 hi he hS hp K hK
                  refine ord_plain rfl ?_
                  simp at hp hK ⊢
                  simp only [hp] at hK
                  go_simp
                  exact hK _ _ (by simpa [ldW] using hS) rfl
                · intro dn u w1 hi he hS hp K hK
                  refine ord_plain rfl ?_
                  simp at hp hK ⊢
                  simp only [hp] at hK
                  have hc1 : w1.cell? ⟨x, 1, none⟩ = some (.int .i64 (f : Int)) := hS.all.cell 1
                  go_simp
                  exact hK _ _ (by simpa [ldW] using hS) rfl
                · intro dn u w1 hi he hS hp K hK
                  refine ord_plain rfl ?_
                  simp at hp hK ⊢
                  go_simp
                  exact hK _ _ (by simpa [ldW] using hS) rfl
                · intro dn u w1 hi he hS hp K hK
                  refine ord_plain rfl ?_
                  simp at hp hK ⊢
                  simp only [hp] at hK
                  go_simp
                  exact hK _ _ (by simpa [ldW] using hS) rfl
                · intro dn u w1 hi he hS hp K hK
                  refine ord_plain rfl ?_
                  simp at hp hK ⊢
                  go_simp
                  exact hK _ _ (by simpa [ldW] using hS) rfl
                · intro dn u w1 hi he hS hp K hK
                  refine ord_plain rfl ?_
                  simp at hp hK ⊢
                  simp only [hp] at hK
                  go_simp
                  exact hK _ _ (by simpa [ldW] using hS) rfl
                · intro dn u w1 hi he hS hp K hK
                  refine ord_plain rfl ?_
                  simp at hp hK ⊢
                  simp only [hp] at hK
                  go_simp
                  exact hK _ _ (by simpa [ldW] using hS) rfl
                · intro dn u w1 hi he hS hp K hK
                  refine ord_plain rfl ?_
                  simp at hp hK ⊢
                  simp only [hp] at hK
                  have hc3 : w1.cell? ⟨x, 3, none⟩ = some (.string (sB t2)) := hS.all.cell 3
                  go_simp
                  exact hK _ _ (by simpa [ldW] using hS) rfl
                · intro dn u w1 hi he hS hp K hK
                  refine ord_plain rfl ?_
                  simp at hp hK ⊢
                  go_simp
                  exact hK _ _ (by simpa [ldW] using hS) rfl
                · intro dn u w1 hi he hS hp K hK
                  refine ord_plain rfl ?_
                  simp at hp hK ⊢
                  simp only [hp] at hK
                  go_simp
                  refine (hMd _).out.mono ?_
                  rintro e w2 ⟨rfl, ob⟩
                  exact hK _ _ (Stg.grow hS hi (ob.blk hS.all (fun h => h)) (fun h => h.trans ob)) rfl
                · intro dn u w1 hi he hS hp K hK
                  refine ord_plain rfl ?_
                  simp at hp hK ⊢
                  simp only [hp] at hK
                  go_simp
                  have hP := hS.was hi
                  have h15 : dn 15 = true := by simp [edgesDone] at he; simp [he]
                  refine (HWR.out w1 hP).mono ?_
                  rintro e w2 ⟨rfl, k1, k2, k3⟩
                  exact hK _ _ (Stg.put h15 (k2.blk _ _ _ hS.all nRT_Book (fun h => h)) ⟨k1, (FarG.none hP).trans (k2.mono fun _ h => h.elim), (hP.mono fun _ h => h.elim).trans k3⟩) rfl
                · intro dn u w1 hi he hS hp K hK
                  refine ord_plain rfl ?_
                  simp at hp hK ⊢
                  simp only [hp] at hK
                  go_simp
                  exact hK _ _ (by simpa [ldW] using hS) rfl
                · intro u w1 dn hld hS hp
                  simp at hp ⊢
                  have h17 := hp.2.2.2.2.2.2.2.2.2.2.2.2.2.2.2.2.2
                  simp only [h17]
                  have hQ := hS.got (hld 16 (by decide))
                  have H8 := Lib.hid hS.all
                  obtain ⟨k1, k2, k3⟩ := hQ
                  obtain ⟨w8, rfl⟩ : ∃ w8, w8 = w1 := ⟨_, rfl⟩
                  have K1 := Lib.hid k1
                  have K2 := Lib.hid (J3.out.trans ((FarG.none HN7.out).trans k2))
                  have K3 := Lib.hid (J4.out.trans ((HN7.out.mono fun _ h => h.elim).trans k3))
                  have hf4 : w8.frozen? ⟨x, 4, none⟩ = false := H8.out.frozen 4
                  have hc4 : w8.cell? ⟨x, 4, none⟩ = some (.bool false) := H8.out.cell 4
                  clear k1 k2 k3 h17 hp hS hld
                  by_cases hy : y0.1 = 0
                  · rw [hy]
                    clear hf4 hc4
                    go_wp2_with fail
                    go_roundw
                    case rel =>
                      refine ⟨i + 1, y0.2, by omega, by go_num, ?_, H8.out, K1.out.more (by omega) (by omega), K2.out, K3.out⟩
                      have := HAP.out
                      rw [HIN.out] at this
                      simp only [docW] at this
                      rw [if_neg HMM.out, ← HY0.out, if_pos hy] at this
                      rw [show nn - (i + 1) = nn - i - 1 by omega]
                      exact this
                    case measure => simp [intOf]; omega
                  · have hYe : Hid (Y = y0) := Lib.hid (by
                      have := HAP.out
                      rw [HIN.out] at this
                      simp only [docW] at this
                      rw [if_neg HMM.out, ← HY0.out, if_neg hy] at this
                      exact this.symm)
                    have ob : Only (fun b => b = x) w8 (w8.setCell ⟨x, 4, none⟩ (.bool true)) := (Only.refl (fun b => b = x) w8).setCell (p := ⟨x, 4, none⟩) (.inl rfl) _
                    have OB := Lib.hid ob
                    have HYN : Hid ((y0.1 != 0) = true) := Lib.hid (by simpa using hy)
                    clear ob
                    go_wp2_with fail
                    go_ret
                    rw [HRY.out, hYe.out]
                    refine ⟨rfl, (K1.out.away H8.out OB.out nRT2_Book).more (by omega) (by omega), ?_, K2.out.trans (FarG.of_only OB.out (fun _ h => .inl (.inr h))), K3.out.trans (OB.out.mono fun b h => by rw [h]; exact HBx.out)⟩
                    rw [HYN.out]
                    exact H8.out.set_ 4 _
            · obtain rfl : i = nn := by omega
              have hYe : Hid (Y = (0, S2)) := Lib.hid (by
                have := HAP.out
                rw [Nat.sub_self] at this
                exact this.symm)
              go_wp2_with fail
              go_ret
              rw [HRY.out, hYe.out]
              exact ⟨rfl, J2.out.more (by omega) (by omega), J1.out, J3.out, J4.out⟩
set_option maxHeartbeats 2000000 in
set_option maxRecDepth 100000 in
theorem rbsync_any (w : World) (q gg n f nn x : Nat) (S : Dst) (B m : Nat) (t : List UInt8) (br : Bool) (D : RkS w q gg n S B m) (hb : BookR w x q f nn (sB t) br) (hBx : B ≤ x) (hgx : x ≠ gg) :
    Calls Tryz.prog 23 #[.pointer (some ⟨x, 0, none⟩)] w fun e w' =>
      e = .returned (.int .i64 (bsyS S br).1) ∧ RkS w' q gg n (bsyS S br).2.1 B m ∧ BookR w' x q f nn (sB t) (bsyS S br).2.2 ∧ FarG RT (fun b => b = gg ∨ b = x) w w' ∧ Only (fun b => B ≤ b) w w' := by
  have HD := Lib.hid D
  have HBk := Lib.hid hb
  have HBx := Lib.hid hBx
  obtain ⟨R, hR⟩ : ∃ R, R = bsyS S br := ⟨_, rfl⟩
  rw [← hR]
  have HR := Lib.hid hR
  have c4 : w.cell? ⟨x, 4, none⟩ = some (.bool br) := hb.cell 4
  have c0 : w.cell? ⟨x, 0, none⟩ = some (.pointer (some ⟨q, 0, none⟩)) := hb.cell 0
  clear D hb hBx hR
  cases br with
  | true =>
    have hRe : Hid (R = (3, S, true)) := Lib.hid (by rw [HR.out]; rfl)
    go_enter Tryz.func23, Tryz.ntmps23
    go_wp2_with fail
    go_ret
    rw [hRe.out]
    exact ⟨rfl, HD.out, HBk.out, FarG.refl _ _ _, Only.refl _ _⟩
  | false =>
    have hRe : Hid (R = ((syS S).1, (syS S).2, (syS S).1 != 0)) := Lib.hid (by rw [HR.out]; rfl)
    go_enter Tryz.func23, Tryz.ntmps23
    go_wp2_with fail
    refine (rsync_any w q gg n S B m HD.out).mono ?_
    rintro e w2 ⟨rfl, k1, k2⟩
    obtain ⟨y, hy⟩ : ∃ y, y = syS S := ⟨_, rfl⟩
    rw [← hy] at k1 hRe ⊢
    have hb2 : BookR w2 x q f nn (sB t) false := k2.blk HBk.out (fun h => by
      rcases h with h | h
      · obtain ⟨_, _, c, A, c2, D⟩ := HD.out
        exact Blk.ne_ HBk.out D.blk (by decide) h
      · exact hgx h)
    have f4 : w2.frozen? ⟨x, 4, none⟩ = false := hb2.frozen 4
    have d4 : w2.cell? ⟨x, 4, none⟩ = some (.bool false) := hb2.cell 4
    have K1 := Lib.hid k1
    have K2 : Hid (FarG RT (fun b => b = gg ∨ b = x) w w2 ∧ Only (fun b => B ≤ b) w w2) := Lib.hid (by
      obtain ⟨⟨h1, _, _, _⟩, h2, c, A, c2, D⟩ := HD.out
      have hl := D.lts h1
      refine ⟨FarG.of_only k2 (fun b hb => ?_), k2.mono (fun b hb => ?_)⟩
      · rcases hb with rfl | rfl
        · exact .inr fun t cs hb => by rw [blk_same hb D.blk]; exact .inl rfl
        · exact .inl (.inl rfl)
      · rcases hb with rfl | rfl
        · exact D.lo
        · exact hl.2.2)
    have B2 := Lib.hid hb2
    clear k1 k2 hb2 c0 c4 hy
    obtain ⟨bb, hbb⟩ : ∃ bb, bb = (y.1 != 0) := ⟨_, rfl⟩
    have os : Only (fun b => b = x) w2 (w2.setCell ⟨x, 4, none⟩ (.bool bb)) := (Only.refl (fun b => b = x) w2).setCell (p := ⟨x, 4, none⟩) (.inl rfl) _
    have HF : Hid (RkS (w2.setCell ⟨x, 4, none⟩ (.bool bb)) q gg n y.2 B m ∧ BookR (w2.setCell ⟨x, 4, none⟩ (.bool bb)) x q f nn (sB t) bb ∧ FarG RT (fun b => b = gg ∨ b = x) w (w2.setCell ⟨x, 4, none⟩ (.bool bb)) ∧ Only (fun b => B ≤ b) w (w2.setCell ⟨x, 4, none⟩ (.bool bb))) := Lib.hid
      ⟨K1.out.away B2.out os nRT2_Book, B2.out.set_ 4 _, K2.out.1.trans (FarG.of_only os (fun _ h => .inl (.inr h))), K2.out.2.trans (os.mono fun b h => by rw [h]; exact HBx.out)⟩
    rw [← hbb] at hRe
    clear os
    by_cases hy0 : y.1 = 0
    · have hbf : bb = false := by rw [hbb, hy0]; rfl
      subst hbf
      clear hbb
      rw [hy0] at hRe ⊢
      go_wp2_with fail
      go_ret
      rw [hRe.out]
      exact ⟨rfl, HF.out⟩
    · have hyb : (y.1 != 0) = true := by simpa using hy0
      have hbf : bb = true := by rw [hbb]; exact hyb
      subst hbf
      have HYB := Lib.hid hyb
      clear hbb hyb
      go_wp2_with fail
      go_ret
      rw [hRe.out, HYB.out]
      exact ⟨rfl, HF.out⟩
end Go.Proofs.YtmneflpjoaocbaaGreat
/- Books: a part that may not be; the disk's Read while its fuse is burnt down, its Fuse, its Loose. No conditions beyond what each states. -/
namespace Go.Proofs.YtmneflpjoaocbaaGreat
set_option maxRecDepth 100000
open Go.RowKit
set_option linter.unusedVariables false
set_option maxRecDepth 100000
theorem check_bad (p gs n : Nat) (S : Dst) (B m : Nat) (f k : Int) (w : World) (D : DkS w p gs n S B m) (hk0 : -9223372036854775808 ≤ k) (hk1 : k ≤ 9223372036854775807) (hmay : mayB n f k = false) :
    Calls Tryz.prog 32 #[partV p f k] w fun e w' => e = .returned (.int .i64 2) ∧ Only (fun _ => False) w w' := by
  have hn : 1 ≤ n := D.1.1
  have hn2 : n ≤ 4096 := D.1.2.1
  have o1 : Only (fun _ => False) w (w.alloc (.cells #[.pointer (some ⟨p, 0, none⟩), .int .i64 f, .int .i64 k] 71)) := (Only.refl _ w).alloc _
  obtain ⟨w1, hw1⟩ : ∃ w1, w1 = w.alloc (.cells #[.pointer (some ⟨p, 0, none⟩), .int .i64 f, .int .i64 k] 71) := ⟨_, rfl⟩
  rw [← hw1] at o1
  have HD : Hid (∀ j, DkS (w1.drewN j) p gs n S B m) := Lib.hid (fun j => D.only (o1.drewN j))
  have HO := Lib.hid o1
  have HL := Lib.hid (dk_len p gs n S B m w1 (D.only o1))
  have HW := Lib.hid hw1.symm
  have hne : ¬ (n : Int) = 0 := by omega
  obtain ⟨q, hq⟩ : ∃ q, q = w.heap.size := ⟨_, rfl⟩
  have hb : Blk w1 q 71 #[.pointer (some ⟨p, 0, none⟩), .int .i64 f, .int .i64 k] := by rw [hw1, hq]; exact Blk.new w _ _
  have c0 : w1.cell? ⟨q, 0, none⟩ = some (.pointer (some ⟨p, 0, none⟩)) := hb.cell 0
  have c1 : w1.cell? ⟨q, 1, none⟩ = some (.int .i64 f) := hb.cell 1
  have c2 : w1.cell? ⟨q, 2, none⟩ = some (.int .i64 k) := hb.cell 2
  have HQ := Lib.hid hq.symm
  clear hb hw1 hq
  unfold partV
  clear D o1
  have HM : Hid (¬ (0 ≤ f ∧ 1 ≤ k ∧ f ≤ (n : Int) ∧ k ≤ (n : Int) - f)) := Lib.hid (by unfold mayB at hmay; exact of_decide_eq_false hmay)
  clear hmay
  by_cases i1 : f < 0
  · have e1 : decide (f < 0) = true := decide_eq_true i1
    go_enter Tryz.func32, Tryz.ntmps32
    go_wp2_with fail
    rw [HW.out, HQ.out]
    refine HL.out.mono ?_
    rintro e w2 ⟨rfl, rfl⟩
    go_wp2_with fail
    go_quiet ((go_at_call 58; exact quiet_left (dk_len p gs n S B m _ (HD.out _))))
    go_wp2_with fail
    go_ret
    exact ⟨rfl, HO.out.drewN nq⟩
  by_cases i2 : k < 1
  · have e1 : decide (f < 0) = false := decide_eq_false i1
    have e2 : decide (k < 1) = true := decide_eq_true i2
    go_enter Tryz.func32, Tryz.ntmps32
    go_wp2_with fail
    rw [HW.out, HQ.out]
    refine HL.out.mono ?_
    rintro e w2 ⟨rfl, rfl⟩
    go_wp2_with fail
    go_quiet ((go_at_call 58; exact quiet_left (dk_len p gs n S B m _ (HD.out _))))
    go_wp2_with fail
    go_ret
    exact ⟨rfl, HO.out.drewN nq⟩
  by_cases i3 : (n : Int) < k
  · have e1 : decide (f < 0) = false := decide_eq_false i1
    have e2 : decide (k < 1) = false := decide_eq_false i2
    have e3 : decide ((n : Int) < k) = true := decide_eq_true i3
    go_enter Tryz.func32, Tryz.ntmps32
    go_wp2_with fail
    rw [HW.out, HQ.out]
    refine HL.out.mono ?_
    rintro e w2 ⟨rfl, rfl⟩
    go_wp2_with fail
    go_quiet ((go_at_call 58; exact quiet_left (dk_len p gs n S B m _ (HD.out _))))
    go_wp2_with fail
    go_ret
    exact ⟨rfl, HO.out.drewN nq⟩
  · have hh := HM.out
    have i4 : (n : Int) - k < f := by omega
    have e1 : decide (f < 0) = false := decide_eq_false i1
    have e2 : decide (k < 1) = false := decide_eq_false i2
    have e3 : decide ((n : Int) < k) = false := decide_eq_false i3
    have e4 : decide ((n : Int) - k < f) = true := decide_eq_true i4
    have hwr : IntKind.i64.wrap ((n : Int) - k) = (n : Int) - k := IntWalk.i64_in _ (by omega)
    clear hh
    go_enter Tryz.func32, Tryz.ntmps32
    go_wp2_with fail
    rw [HW.out, HQ.out]
    refine HL.out.mono ?_
    rintro e w2 ⟨rfl, rfl⟩
    go_wp2_with fail
    go_quiet ((go_at_call 58; exact quiet_left (dk_len p gs n S B m _ (HD.out _))))
    go_wp2_with fail
    go_ret
    exact ⟨rfl, HO.out.drewN nq⟩
theorem dk_loose (p gs n : Nat) (S : Dst) (B m : Nat) (w : World) (D : DkS w p gs n S B m) :
    Calls Tryz.prog 13 #[.pointer (some ⟨p, 0, none⟩)] w fun e w' => e = .returned (.int .i64 (S.l.length : Nat)) ∧ w = w' := by
  obtain ⟨_, A, c, fb, left, D, _⟩ := D
  exact loose_any _ _ _ _ _ _ _ _ _ _ D.blk
theorem dk_fuse (p gs n : Nat) (S : Dst) (B m k : Nat) (w : World) (D : DkS w p gs n S B m) (hk : (k : Int) ≤ 9223372036854775807) :
    Calls Tryz.prog 53 #[.pointer (some ⟨p, 0, none⟩), .int .i64 (k : Int)] w fun e w' => e = .returned (.int .i64 0) ∧ DkS w' p gs n ⟨S.g, S.l, some k⟩ B m ∧ Only (fun b => B ≤ b) w w' ∧ Far w w' := by
  obtain ⟨⟨h1, h2, h3, h4⟩, A, c, fb, left, D, hl, hr, f1, f2⟩ := D
  refine (fuse_any p ⟨gs, 0, none⟩ n n _ fb left k w D.blk (by omega) hk).mono ?_
  rintro e w' ⟨rfl, rfl⟩
  have o : Only (fun b => b = p) w ((w.setCell ⟨p, 2, none⟩ (.bool true)).setCell ⟨p, 3, none⟩ (.int .i64 (k : Int))) := ((Only.refl (fun b => b = p) w).setCell (p := ⟨p, 2, none⟩) (.inl rfl) _).setCell (p := ⟨p, 3, none⟩) (.inl rfl) _
  refine ⟨rfl, ⟨⟨h1, h2, h3, h4⟩, A, c, true, (k : Int), ⟨(D.blk.set_ 2 _).set_ 3 _, o.blk D.sec (Blk.ne_ D.sec D.blk (by decide)), o.owns D.own (fun j hj e => own_blk_ne D.own D.blk (by decide) (hj.trans (congrArg some e))), D.lo, D.ok⟩, by omega, hk, (fun h => by cases h), (fun j hj => by injection hj with hj; subst hj; exact ⟨rfl, rfl⟩)⟩, (o.mono fun b h => by rw [h]; exact D.lo.1), Far.of_only o (fun j t cs hj hb => ?_)⟩
  rw [hj] at hb
  rw [blk_same hb D.blk]
  exact .inl rfl
theorem dk_fuse_bad (p gs n : Nat) (S : Dst) (B m : Nat) (k : Int) (w : World) (D : DkS w p gs n S B m) (hk : k < 0) :
    Calls Tryz.prog 53 #[.pointer (some ⟨p, 0, none⟩), .int .i64 k] w fun e w' => e = .returned (.int .i64 2) ∧ w = w' := by
  obtain ⟨_, A, c, fb, left, D, _⟩ := D
  have HD := Lib.hid D.blk
  clear D
  go_enter Tryz.func53, Tryz.ntmps53
  go_wp2_with fail
  refine (none_any _ _ _ _ _ _ _ _ HD.out).mono ?_
  rintro e w1 ⟨rfl, rfl⟩
  go_wp2
  go_ret
  exact ⟨rfl, rfl⟩
theorem read_still (p gs n : Nat) (S : Dst) (B m : Nat) (k : Int) (w : World) (D : DkS w p gs n S B m) (hst : S.still = true) :
    Calls Tryz.prog 51 #[.pointer (some ⟨p, 0, none⟩), .int .i64 k] w fun e w' => e = .returned (.tuple #[.string ⟨#[]⟩, .int .i64 51]) ∧ Only (fun _ => False) w w' := by
  obtain ⟨_, A, c, fb, left, D, hl, hr, f1, f2⟩ := D
  obtain ⟨rfl, rfl⟩ := still_on hst f2
  obtain ⟨w1, hw1⟩ : ∃ w1, w1 = w.alloc (.cells #[.int .i64 k] 3) := ⟨_, rfl⟩
  have o1 : Only (fun _ => False) w w1 := by rw [hw1]; exact (Only.refl _ w).alloc _
  have HD := Lib.hid (o1.blk D.blk (fun h => h))
  have HO := Lib.hid o1
  have HW := Lib.hid hw1.symm
  clear D o1 hw1
  go_enter Tryz.func51, Tryz.ntmps51
  go_wp2_with fail
  rw [HW.out]
  refine (none_any _ _ _ _ _ _ _ _ HD.out).mono ?_
  rintro e w2 ⟨rfl, rfl⟩
  go_wp2_with fail
  refine (still_any _ _ _ _ _ _ HD.out).mono ?_
  rintro e w2 ⟨rfl, rfl⟩
  go_wp2_with fail
  go_ret2
  exact ⟨rfl, HO.out⟩
end Go.Proofs.YtmneflpjoaocbaaGreat
/- Books: Open and Clear in all cases. No conditions beyond what each states. -/
namespace Go.Proofs.YtmneflpjoaocbaaGreat
set_option maxRecDepth 100000
open Go.RowKit
set_option linter.unusedVariables false
set_option maxHeartbeats 1000000 in
set_option maxRecDepth 100000 in
theorem all_still (p gs n f nn : Nat) (S : Dst) (B m : Nat) (w : World) (D : DkS w p gs n S B m) (hn1 : 1 ≤ nn) (hfn : f + nn ≤ n) (hst : S.still = true) :
    Calls Tryz.prog 33 #[partV p f nn] w fun e w' => e = .returned (.tuple #[.slice none 0 0, .int .i64 51]) ∧ Only (fun _ => False) w w' := by
  have hn4 : n ≤ 4096 := D.1.2.1
  have o1 : Only (fun _ => False) w (w.alloc (.cells #[.pointer (some ⟨p, 0, none⟩), .int .i64 f, .int .i64 nn] 71)) := (Only.refl _ w).alloc _
  obtain ⟨w1, hw1⟩ : ∃ w1, w1 = w.alloc (.cells #[.pointer (some ⟨p, 0, none⟩), .int .i64 f, .int .i64 nn] 71) := ⟨_, rfl⟩
  obtain ⟨q, hq⟩ : ∃ q, q = w.heap.size := ⟨_, rfl⟩
  have hb : Blk w1 q 71 #[.pointer (some ⟨p, 0, none⟩), .int .i64 f, .int .i64 nn] := by rw [hw1, hq]; exact Blk.new w _ _
  rw [← hw1] at o1
  have HO1 := Lib.hid o1
  have HW := Lib.hid hw1.symm
  have HQ := Lib.hid hq.symm
  have HC := Lib.hid (read_still p gs n S B m (f : Int) w1 (D.only o1) hst)
  have c0 : w1.cell? ⟨q, 0, none⟩ = some (.pointer (some ⟨p, 0, none⟩)) := hb.cell 0
  have c1 : w1.cell? ⟨q, 1, none⟩ = some (.int .i64 f) := hb.cell 1
  have c2 : w1.cell? ⟨q, 2, none⟩ = some (.int .i64 nn) := hb.cell 2
  have hlt' : (0 : Int) < (nn : Int) := by omega
  have hadd : IntKind.i64.wrap ((f : Int) + 0) = (f : Int) := by rw [IntWalk.i64_in _ (by omega)]; omega
  have hadd2 : IntKind.i64.wrap ((f : Int)) = (f : Int) := by rw [IntWalk.i64_in _ (by omega)]
  clear o1 hb hw1 hq D hst
  unfold partV
  go_enter Tryz.func33, Tryz.ntmps33
  go_wp2_with fail
  rw [HW.out, HQ.out]
  go_wp2_with fail
  go_loopw [9] (fun i wr => i = .int .i64 0 ∧ w1 = wr) (fun _ _ => 0)
  case atStart => exact ⟨rfl, rfl⟩
  case round =>
    obtain ⟨rfl, rfl⟩ := hrel
    go_wp2_with fail
    refine HC.out.mono ?_
    rintro e w2 ⟨rfl, o2⟩
    have O2 := Lib.hid o2
    clear o2
    go_wp2_with fail
    go_ret2
    exact ⟨rfl, HO1.out.trans O2.out⟩
set_option maxHeartbeats 1000000 in
set_option maxRecDepth 100000 in
theorem bopen_bad (p gs n : Nat) (S : Dst) (B m : Nat) (f nn : Int) (w : World) (D : DkS w p gs n S B m) (hk0 : -9223372036854775808 ≤ nn) (hk1 : nn ≤ 9223372036854775807) (hmay : mayB n f nn = false) :
    Calls Tryz.prog 17 #[.pointer (some ⟨p, 0, none⟩), .int .i64 f, .int .i64 nn] w fun e w' => e = .returned (.tuple #[.pointer none, .slice none 0 0, .int .i64 2]) ∧ Only (fun _ => False) w w' := by
  obtain ⟨w1, hw1⟩ : ∃ w1, w1 = w.alloc (.cells #[.pointer (some ⟨p, 0, none⟩), .int .i64 f, .int .i64 nn, .string ⟨#[]⟩, .bool false] 73) := ⟨_, rfl⟩
  obtain ⟨q, hq⟩ : ∃ q, q = w.heap.size := ⟨_, rfl⟩
  have o1 : Only (fun _ => False) w w1 := by rw [hw1]; exact (Only.refl _ w).alloc _
  have b0 : Blk w1 q 73 #[.pointer (some ⟨p, 0, none⟩), .int .i64 f, .int .i64 nn, .string ⟨#[]⟩, .bool false] := by rw [hw1, hq]; exact Blk.new w _ _
  have HO1 := Lib.hid o1
  have HB0 := Lib.hid b0
  have HD := Lib.hid (D.only o1)
  have HW := Lib.hid hw1.symm
  have HQ := Lib.hid hq.symm
  have c0 : w1.cell? ⟨q, 0, none⟩ = some (.pointer (some ⟨p, 0, none⟩)) := b0.cell 0
  have c1 : w1.cell? ⟨q, 1, none⟩ = some (.int .i64 f) := b0.cell 1
  have c2 : w1.cell? ⟨q, 2, none⟩ = some (.int .i64 nn) := b0.cell 2
  clear o1 b0 hw1 hq D
  go_enter Tryz.func17, Tryz.ntmps17
  go_wp2_with fail
  rw [HW.out, HQ.out]
  have hck := check_bad p gs n S B m f nn w1 HD.out hk0 hk1 hmay
  unfold partV at hck
  refine hck.mono ?_
  rintro e w2 ⟨rfl, o2⟩
  have O2 := Lib.hid o2
  clear o2 hck c0 c1 c2
  go_wp2_with fail
  (try go_ret3)
  exact ⟨rfl, HO1.out.trans O2.out⟩
set_option maxHeartbeats 1000000 in
set_option maxRecDepth 100000 in
theorem bopen_still (p gs n f nn : Nat) (S : Dst) (B m : Nat) (w : World) (D : DkS w p gs n S B m) (hn1 : 1 ≤ nn) (hfn : f + nn ≤ n) (hst : S.still = true) :
    Calls Tryz.prog 17 #[.pointer (some ⟨p, 0, none⟩), .int .i64 f, .int .i64 nn] w fun e w' => e = .returned (.tuple #[.pointer none, .slice none 0 0, .int .i64 51]) ∧ Only (fun _ => False) w w' := by
  obtain ⟨hn0, hn4⟩ : 1 ≤ n ∧ n ≤ 4096 := ⟨D.1.1, D.1.2.1⟩
  obtain ⟨w1, hw1⟩ : ∃ w1, w1 = w.alloc (.cells #[.pointer (some ⟨p, 0, none⟩), .int .i64 f, .int .i64 nn, .string ⟨#[]⟩, .bool false] 73) := ⟨_, rfl⟩
  obtain ⟨q, hq⟩ : ∃ q, q = w.heap.size := ⟨_, rfl⟩
  have o1 : Only (fun _ => False) w w1 := by rw [hw1]; exact (Only.refl _ w).alloc _
  have b0 : Blk w1 q 73 #[.pointer (some ⟨p, 0, none⟩), .int .i64 f, .int .i64 nn, .string ⟨#[]⟩, .bool false] := by rw [hw1, hq]; exact Blk.new w _ _
  have HO1 := Lib.hid o1
  have HB0 := Lib.hid b0
  have HD := Lib.hid (D.only o1)
  have HW := Lib.hid hw1.symm
  have HQ := Lib.hid hq.symm
  have c0 : w1.cell? ⟨q, 0, none⟩ = some (.pointer (some ⟨p, 0, none⟩)) := b0.cell 0
  have c1 : w1.cell? ⟨q, 1, none⟩ = some (.int .i64 f) := b0.cell 1
  have c2 : w1.cell? ⟨q, 2, none⟩ = some (.int .i64 nn) := b0.cell 2
  clear o1 b0 hw1 hq D
  go_enter Tryz.func17, Tryz.ntmps17
  go_wp2_with fail
  rw [HW.out, HQ.out]
  have hck := check_any p gs n S B m (f : Int) (nn : Int) w1 HD.out hn0 hn4 (by omega) (by omega) (by omega) (by omega)
  unfold partV at hck
  refine hck.mono ?_
  rintro e w2 ⟨rfl, o2⟩
  have O2 := Lib.hid o2
  clear o2 hck c0 c1 c2
  have c0 : w2.cell? ⟨q, 0, none⟩ = some (.pointer (some ⟨p, 0, none⟩)) := (O2.out.blk HB0.out (fun h => h)).cell 0
  have c1 : w2.cell? ⟨q, 1, none⟩ = some (.int .i64 f) := (O2.out.blk HB0.out (fun h => h)).cell 1
  have c2 : w2.cell? ⟨q, 2, none⟩ = some (.int .i64 nn) := (O2.out.blk HB0.out (fun h => h)).cell 2
  have hal := all_still p gs n f nn S B m w2 (HD.out.only O2.out) hn1 hfn hst
  unfold partV at hal
  clear hst
  go_wp2_with fail
  refine hal.mono ?_
  rintro e w3 ⟨rfl, o3⟩
  have O3 := Lib.hid o3
  clear o3 hal c0 c1 c2
  go_wp2_with fail
  (try go_ret3)
  exact ⟨rfl, (HO1.out.trans O2.out).trans O3.out⟩
set_option maxHeartbeats 1000000 in
set_option maxRecDepth 100000 in
theorem bclear_bad (p gs n : Nat) (S : Dst) (B m : Nat) (f nn : Int) (w : World) (D : DkS w p gs n S B m) (hk0 : -9223372036854775808 ≤ nn) (hk1 : nn ≤ 9223372036854775807) (hmay : mayB n f nn = false) :
    Calls Tryz.prog 16 #[.pointer (some ⟨p, 0, none⟩), .int .i64 f, .int .i64 nn] w fun e w' => e = .returned (.int .i64 2) ∧ Only (fun _ => False) w w' := by
  obtain ⟨w1, hw1⟩ : ∃ w1, w1 = w.alloc (.cells #[.pointer (some ⟨p, 0, none⟩), .int .i64 f, .int .i64 nn] 71) := ⟨_, rfl⟩
  obtain ⟨q, hq⟩ : ∃ q, q = w.heap.size := ⟨_, rfl⟩
  have o1 : Only (fun _ => False) w w1 := by rw [hw1]; exact (Only.refl _ w).alloc _
  have b0 : Blk w1 q 71 #[.pointer (some ⟨p, 0, none⟩), .int .i64 f, .int .i64 nn] := by rw [hw1, hq]; exact Blk.new w _ _
  have HO1 := Lib.hid o1
  have HB0 := Lib.hid b0
  have HD := Lib.hid (D.only o1)
  have HW := Lib.hid hw1.symm
  have HQ := Lib.hid hq.symm
  have c0 : w1.cell? ⟨q, 0, none⟩ = some (.pointer (some ⟨p, 0, none⟩)) := b0.cell 0
  have c1 : w1.cell? ⟨q, 1, none⟩ = some (.int .i64 f) := b0.cell 1
  have c2 : w1.cell? ⟨q, 2, none⟩ = some (.int .i64 nn) := b0.cell 2
  clear o1 b0 hw1 hq D
  go_enter Tryz.func16, Tryz.ntmps16
  go_wp2_with fail
  rw [HW.out, HQ.out]
  go_wp2_with fail
  have hck := check_bad p gs n S B m f nn w1 HD.out hk0 hk1 hmay
  unfold partV at hck
  refine hck.mono ?_
  rintro e w2 ⟨rfl, o2⟩
  have O2 := Lib.hid o2
  clear o2 hck c0 c1 c2
  go_wp2_with fail
  go_ret
  exact ⟨rfl, HO1.out.trans O2.out⟩
set_option maxHeartbeats 1000000 in
set_option maxRecDepth 100000 in
theorem bclear_still (p gs n f nn : Nat) (S : Dst) (B m : Nat) (w : World) (D : DkS w p gs n S B m) (hn1 : 1 ≤ nn) (hfn : f + nn ≤ n) (hst : S.still = true) :
    Calls Tryz.prog 16 #[.pointer (some ⟨p, 0, none⟩), .int .i64 f, .int .i64 nn] w fun e w' => e = .returned (.int .i64 51) ∧ Only (fun _ => False) w w' := by
  obtain ⟨hn0, hn4⟩ : 1 ≤ n ∧ n ≤ 4096 := ⟨D.1.1, D.1.2.1⟩
  obtain ⟨w1, hw1⟩ : ∃ w1, w1 = w.alloc (.cells #[.pointer (some ⟨p, 0, none⟩), .int .i64 f, .int .i64 nn] 71) := ⟨_, rfl⟩
  obtain ⟨q, hq⟩ : ∃ q, q = w.heap.size := ⟨_, rfl⟩
  have o1 : Only (fun _ => False) w w1 := by rw [hw1]; exact (Only.refl _ w).alloc _
  have b0 : Blk w1 q 71 #[.pointer (some ⟨p, 0, none⟩), .int .i64 f, .int .i64 nn] := by rw [hw1, hq]; exact Blk.new w _ _
  have HO1 := Lib.hid o1
  have HB0 := Lib.hid b0
  have HD := Lib.hid (D.only o1)
  have HW := Lib.hid hw1.symm
  have HQ := Lib.hid hq.symm
  have c0 : w1.cell? ⟨q, 0, none⟩ = some (.pointer (some ⟨p, 0, none⟩)) := b0.cell 0
  have c1 : w1.cell? ⟨q, 1, none⟩ = some (.int .i64 f) := b0.cell 1
  have c2 : w1.cell? ⟨q, 2, none⟩ = some (.int .i64 nn) := b0.cell 2
  clear o1 b0 hw1 hq D
  go_enter Tryz.func16, Tryz.ntmps16
  go_wp2_with fail
  rw [HW.out, HQ.out]
  go_wp2_with fail
  have hck := check_any p gs n S B m (f : Int) (nn : Int) w1 HD.out hn0 hn4 (by omega) (by omega) (by omega) (by omega)
  unfold partV at hck
  refine hck.mono ?_
  rintro e w2 ⟨rfl, o2⟩
  have O2 := Lib.hid o2
  clear o2 hck c0 c1 c2
  have c0 : w2.cell? ⟨q, 0, none⟩ = some (.pointer (some ⟨p, 0, none⟩)) := (O2.out.blk HB0.out (fun h => h)).cell 0
  have c1 : w2.cell? ⟨q, 1, none⟩ = some (.int .i64 f) := (O2.out.blk HB0.out (fun h => h)).cell 1
  have c2 : w2.cell? ⟨q, 2, none⟩ = some (.int .i64 nn) := (O2.out.blk HB0.out (fun h => h)).cell 2
  have hal := all_still p gs n f nn S B m w2 (HD.out.only O2.out) hn1 hfn hst
  unfold partV at hal
  clear hst
  go_wp2_with fail
  refine hal.mono ?_
  rintro e w3 ⟨rfl, o3⟩
  have O3 := Lib.hid o3
  clear o3 hal c0 c1 c2
  go_wp2_with fail
  go_ret
  exact ⟨rfl, (HO1.out.trans O2.out).trans O3.out⟩
set_option maxHeartbeats 2000000 in
set_option maxRecDepth 100000 in
theorem bclear_ok (p gs n f nn : Nat) (S : Dst) (B m : Nat) (w : World) (D : DkS w p gs n S B m) (hn1 : 1 ≤ nn) (hfn : f + nn ≤ n) (hst : S.still = false) (hm : m + 12000 ≤ 1000000) :
    Calls Tryz.prog 16 #[.pointer (some ⟨p, 0, none⟩), .int .i64 f, .int .i64 nn] w fun e w' => e = .returned (.int .i64 (anewS n f [] (openT f nn fun j => S.cur.getD j []) S).1) ∧
      DkS w' p gs n (anewS n f [] (openT f nn fun j => S.cur.getD j []) S).2.1 B (m + 2 * nn + 2) ∧ Far w w' ∧ Only (fun b => B ≤ b) w w' := by
  obtain ⟨hn0, hn4⟩ : 1 ≤ n ∧ n ≤ 4096 := ⟨D.1.1, D.1.2.1⟩
  have hBs := D.size
  obtain ⟨C, hC⟩ : ∃ C : Nat → List UInt8, C = fun j => S.cur.getD j [] := ⟨_, rfl⟩
  obtain ⟨Ts, hT⟩ : ∃ Ts, Ts = openT f nn C := ⟨_, rfl⟩
  have hTl : Ts.length = nn := by rw [hT]; simp [openT]
  have hTa : ∀ t ∈ Ts, t.length = 128 := by
    intro t ht
    rw [hT] at ht
    obtain ⟨j, hj, rfl⟩ := List.mem_map.1 ht
    rw [hC]
    exact cur_len D.ok (by have := List.mem_range.1 hj; omega)
  rw [← hC, ← hT]
  obtain ⟨R, hR⟩ : ∃ R, R = anewS n f [] Ts S := ⟨_, rfl⟩
  rw [← hR]
  obtain ⟨w1, hw1⟩ : ∃ w1, w1 = w.alloc (.cells #[.pointer (some ⟨p, 0, none⟩), .int .i64 f, .int .i64 nn] 71) := ⟨_, rfl⟩
  obtain ⟨q, hq⟩ : ∃ q, q = w.heap.size := ⟨_, rfl⟩
  have o1 : Only (fun _ => False) w w1 := by rw [hw1]; exact (Only.refl _ w).alloc _
  have b0 : Blk w1 q 71 #[.pointer (some ⟨p, 0, none⟩), .int .i64 f, .int .i64 nn] := by rw [hw1, hq]; exact Blk.new w _ _
  have HO1 := Lib.hid o1
  have HB0 := Lib.hid b0
  have HD := Lib.hid (D.only o1)
  have HW := Lib.hid hw1.symm
  have HQ := Lib.hid hq.symm
  have c0 : w1.cell? ⟨q, 0, none⟩ = some (.pointer (some ⟨p, 0, none⟩)) := b0.cell 0
  have c1 : w1.cell? ⟨q, 1, none⟩ = some (.int .i64 f) := b0.cell 1
  have c2 : w1.cell? ⟨q, 2, none⟩ = some (.int .i64 nn) := b0.cell 2
  have HT := Lib.hid hT
  have HC := Lib.hid hC
  have HTL := Lib.hid hTl
  have HTA := Lib.hid hTa
  have HR := Lib.hid hR
  clear o1 b0 hw1 hq D hT hC hTl hTa hR
  go_enter Tryz.func16, Tryz.ntmps16
  go_wp2_with fail
  rw [HW.out, HQ.out]
  go_wp2_with fail
  have hck := check_any p gs n S B m (f : Int) (nn : Int) w1 HD.out hn0 hn4 (by omega) (by omega) (by omega) (by omega)
  unfold partV at hck
  refine hck.mono ?_
  rintro e w2 ⟨rfl, o2⟩
  have O2 := Lib.hid o2
  clear o2 hck c0 c1 c2
  have c0 : w2.cell? ⟨q, 0, none⟩ = some (.pointer (some ⟨p, 0, none⟩)) := (O2.out.blk HB0.out (fun h => h)).cell 0
  have c1 : w2.cell? ⟨q, 1, none⟩ = some (.int .i64 f) := (O2.out.blk HB0.out (fun h => h)).cell 1
  have c2 : w2.cell? ⟨q, 2, none⟩ = some (.int .i64 nn) := (O2.out.blk HB0.out (fun h => h)).cell 2
  have hal := all_any p f nn C w2 (by omega) (by omega) (fun W hW j hj => by
    have h := read_cur p gs n S B m (f + j) W ((HD.out.only O2.out).only hW) (by omega) hst
    rw [HC.out]
    simpa using h)
  unfold partV at hal
  have HST := Lib.hid hst
  clear hst
  go_wp2_with fail
  refine hal.mono ?_
  rintro e w3 ⟨v, rfl, h3, o3⟩
  have hT' : (List.range nn).map (fun j => C (f + j)) = Ts := HT.out.symm
  rw [hT'] at h3
  obtain ⟨g, cap, hv, hg0, hg1⟩ : ∃ g cap, v = .slice (some ⟨g, 0, none⟩) nn cap ∧ w2.heap.size ≤ g ∧ g < w3.heap.size := by
    obtain ⟨g, cap, h1, h2, h3, _⟩ := own_cells h3 (by omega)
    exact ⟨g, cap, h1, h2, h3⟩
  subst hv
  have H3 := Lib.hid h3
  have O3 := Lib.hid o3
  clear h3 o3 hal c0 c1 c2 hT'
  have c0 : w3.cell? ⟨q, 0, none⟩ = some (.pointer (some ⟨p, 0, none⟩)) := (O3.out.blk (O2.out.blk HB0.out (fun h => h)) (fun h => h)).cell 0
  have c1 : w3.cell? ⟨q, 1, none⟩ = some (.int .i64 f) := (O3.out.blk (O2.out.blk HB0.out (fun h => h)) (fun h => h)).cell 1
  have c2 : w3.cell? ⟨q, 2, none⟩ = some (.int .i64 nn) := (O3.out.blk (O2.out.blk HB0.out (fun h => h)) (fun h => h)).cell 2
  have hs2 := O2.out.size
  have hs1 := HO1.out.size
  have han := anew_any p gs n f nn S B m Ts [] g cap w2.heap.size w3 ((HD.out.only O2.out).only O3.out) (by rw [HTL.out]; exact H3.out) (by omega) (by omega) (by rw [HTL.out]; omega) hm (by simp) HTA.out
  rw [HTL.out, ← HR.out] at han
  unfold partV at han
  go_wp2_with fail
  refine han.mono ?_
  rintro e w4 ⟨rfl, k1, k2, k3⟩
  have K1 := Lib.hid k1
  have K2 : Hid (Far w w4) := Lib.hid (by
    have h := (((FarX.none HO1.out).trans (FarX.none O2.out)).trans (FarX.none O3.out)).trans k2
    exact ⟨h.os, h.tape, h.output, h.size, fun k t cs hb ht => h.blk k t cs hb ht (fun e => by have := hb.lt; omega)⟩)
  have K3 : Hid (Only (fun b => B ≤ b) w w4) := Lib.hid ((((HO1.out.mono fun _ h => h.elim).trans (O2.out.mono fun _ h => h.elim)).trans (O3.out.mono fun _ h => h.elim)).trans k3)
  clear k1 k2 k3 han c0 c1 c2
  go_wp2_with fail
  go_ret
  exact ⟨rfl, K1.out, K2.out, K3.out⟩
end Go.Proofs.YtmneflpjoaocbaaGreat
/- Books: Open and Clear as one function of the disk; a book that is none. No conditions beyond what each states. -/
namespace Go.Proofs.YtmneflpjoaocbaaGreat
set_option maxRecDepth 100000
open Go.RowKit
set_option linter.unusedVariables false
theorem bopen_full (p gs n : Nat) (S : Dst) (B m : Nat) (f nn : Int) (w : World) (D : DkS w p gs n S B m) (hk0 : -9223372036854775808 ≤ nn) (hk1 : nn ≤ 9223372036854775807) (hm : m + 12000 ≤ 1000000) :
    Calls Tryz.prog 17 #[.pointer (some ⟨p, 0, none⟩), .int .i64 f, .int .i64 nn] w fun e w' =>
      DkS w' p gs n (opS n f nn S).2 B (m + 2 * n + 2) ∧ Far w w' ∧ Only (fun b => B ≤ b) w w' ∧
      (((opS n f nn S).1 = 0 ∧ ∃ b v, e = .returned (.tuple #[.pointer (some ⟨b, 0, none⟩), v, .int .i64 0]) ∧ w.heap.size ≤ b ∧ BookB w' b p f nn (sB (openX f.toNat nn.toNat fun j => S.cur.getD j [])) false ∧
          w'.ownsRow w.heap.size 9 1 v (openF f.toNat nn.toNat fun j => S.cur.getD j []).length ((openF f.toNat nn.toNat fun j => S.cur.getD j []).map fun x => .string x.2)) ∨
       ((opS n f nn S).1 ≠ 0 ∧ e = .returned (.tuple #[.pointer none, .slice none 0 0, .int .i64 (opS n f nn S).1]))) := by
  have hn4 : n ≤ 4096 := D.1.2.1
  by_cases hmay : mayB n f nn = true
  · obtain ⟨h1, h2, h3, h4⟩ : 0 ≤ f ∧ 1 ≤ nn ∧ f ≤ (n : Int) ∧ nn ≤ (n : Int) - f := by unfold mayB at hmay; simpa using hmay
    obtain ⟨f, rfl⟩ : ∃ j : Nat, f = j := ⟨f.toNat, by omega⟩
    obtain ⟨nn, rfl⟩ : ∃ j : Nat, nn = j := ⟨nn.toNat, by omega⟩
    by_cases hst : S.still = true
    · have hRe : opS n f nn S = (51, S) := by unfold opS; rw [if_pos hmay, if_pos hst]
      rw [hRe]
      refine (bopen_still p gs n f nn S B m w D (by omega) (by omega) hst).mono ?_
      rintro e w' ⟨rfl, o⟩
      exact ⟨(D.only o).more (by omega) (by omega), Far.of_only o (fun _ _ _ h => h.elim), o.mono fun _ h => h.elim, .inr ⟨by simp, rfl⟩⟩
    · have hst' : S.still = false := by simpa using hst
      have h := open_any p gs n f nn S B m (fun j => S.cur.getD j []) w D (by omega) (by omega) hm (fun j hj => cur_len D.ok (by omega)) (fun W hW j hj => by
        have h := read_cur p gs n S B m (f + j) W (D.only hW) (by omega) hst'
        simpa using h)
      obtain ⟨Z, hZ⟩ : ∃ Z, Z = anewS n f (openX f nn fun j => S.cur.getD j []) (openT f nn fun j => S.cur.getD j []) S := ⟨_, rfl⟩
      have hRe : opS n f nn S = (Z.1, Z.2.1) := by unfold opS; rw [if_pos hmay, if_neg hst, hZ]; rfl
      rw [hRe]
      rw [← hZ] at h
      refine h.mono ?_
      rintro e w' ⟨k1, k2, k3, k4⟩
      refine ⟨k1.more (by omega) (by omega), k2, k3, ?_⟩
      rcases k4 with ⟨h0, b, v, he, hb, hB, hR⟩ | ⟨h0, he⟩
      · exact .inl ⟨h0, b, v, he, hb, hB, hR⟩
      · exact .inr ⟨h0, he⟩
  · have hRe : opS n f nn S = (2, S) := by unfold opS; rw [if_neg hmay]
    rw [hRe]
    refine (bopen_bad p gs n S B m f nn w D hk0 hk1 (by simpa using hmay)).mono ?_
    rintro e w' ⟨rfl, o⟩
    exact ⟨(D.only o).more (by omega) (by have := D.1.2.2.1; omega), Far.of_only o (fun _ _ _ h => h.elim), o.mono fun _ h => h.elim, .inr ⟨by simp, rfl⟩⟩
theorem bclear_full (p gs n : Nat) (S : Dst) (B m : Nat) (f nn : Int) (w : World) (D : DkS w p gs n S B m) (hk0 : -9223372036854775808 ≤ nn) (hk1 : nn ≤ 9223372036854775807) (hm : m + 12000 ≤ 1000000) :
    Calls Tryz.prog 16 #[.pointer (some ⟨p, 0, none⟩), .int .i64 f, .int .i64 nn] w fun e w' =>
      e = .returned (.int .i64 (clS n f nn S).1) ∧ DkS w' p gs n (clS n f nn S).2 B (m + 2 * n + 2) ∧ Far w w' ∧ Only (fun b => B ≤ b) w w' := by
  have hn4 : n ≤ 4096 := D.1.2.1
  by_cases hmay : mayB n f nn = true
  · obtain ⟨h1, h2, h3, h4⟩ : 0 ≤ f ∧ 1 ≤ nn ∧ f ≤ (n : Int) ∧ nn ≤ (n : Int) - f := by unfold mayB at hmay; simpa using hmay
    obtain ⟨f, rfl⟩ : ∃ j : Nat, f = j := ⟨f.toNat, by omega⟩
    obtain ⟨nn, rfl⟩ : ∃ j : Nat, nn = j := ⟨nn.toNat, by omega⟩
    by_cases hst : S.still = true
    · have hRe : clS n f nn S = (51, S) := by unfold clS; rw [if_pos hmay, if_pos hst]
      rw [hRe]
      refine (bclear_still p gs n f nn S B m w D (by omega) (by omega) hst).mono ?_
      rintro e w' ⟨rfl, o⟩
      exact ⟨rfl, (D.only o).more (by omega) (by omega), Far.of_only o (fun _ _ _ h => h.elim), o.mono fun _ h => h.elim⟩
    · have hst' : S.still = false := by simpa using hst
      have hRe : clS n f nn S = ((anewS n f [] (openT f nn fun j => S.cur.getD j []) S).1, (anewS n f [] (openT f nn fun j => S.cur.getD j []) S).2.1) := by unfold clS; rw [if_pos hmay, if_neg hst]; rfl
      rw [hRe]
      refine (bclear_ok p gs n f nn S B m w D (by omega) (by omega) hst' hm).mono ?_
      rintro e w' ⟨rfl, k1, k2, k3⟩
      exact ⟨rfl, k1.more (by omega) (by omega), k2, k3⟩
  · have hRe : clS n f nn S = (2, S) := by unfold clS; rw [if_neg hmay]
    rw [hRe]
    refine (bclear_bad p gs n S B m f nn w D hk0 hk1 (by simpa using hmay)).mono ?_
    rintro e w' ⟨rfl, o⟩
    exact ⟨rfl, (D.only o).more (by omega) (by have := D.1.2.2.1; omega), Far.of_only o (fun _ _ _ h => h.elim), o.mono fun _ h => h.elim⟩
set_option maxRecDepth 100000 in
theorem bnone_nil (w : World) : Calls Tryz.prog 27 #[.pointer none] w fun e w' => e = .returned (.bool true) ∧ w = w' := by
  go_enter Tryz.func27, Tryz.ntmps27
  go_wp2
  go_ret
  exact ⟨rfl, rfl⟩
set_option maxRecDepth 100000 in
theorem bsync_nil (w : World) : Calls Tryz.prog 19 #[.pointer none] w fun e w' => e = .returned (.int .i64 1) ∧ w = w' := by
  go_enter Tryz.func19, Tryz.ntmps19
  go_wp2_with fail
  refine (bnone_nil w).mono ?_
  rintro e w1 ⟨rfl, rfl⟩
  go_wp2_with fail
  go_ret
  exact ⟨rfl, rfl⟩
set_option maxRecDepth 100000 in
theorem bappend_nil (w : World) (v : Value) : Calls Tryz.prog 18 #[.pointer none, v] w fun e w' => e = .returned (.int .i64 1) ∧ w = w' := by
  go_enter Tryz.func18, Tryz.ntmps18
  go_wp2_with fail
  refine (bnone_nil w).mono ?_
  rintro e w1 ⟨rfl, rfl⟩
  go_wp2_with fail
  go_ret
  exact ⟨rfl, rfl⟩
set_option maxRecDepth 100000 in
theorem blen_any (b p : Nat) (f n : Int) (t : List UInt8) (br : Bool) (w : World) (h : BookB w b p f n (sB t) br) :
    Calls Tryz.prog 10 #[.pointer (some ⟨b, 0, none⟩)] w fun e w' => e = .returned (.int .i64 (t.length : Nat)) ∧ w = w' := by
  have c3 : w.cell? ⟨b, 3, none⟩ = some (.string (sB t)) := h.cell 3
  have hsz : (sB t).size = t.length := sB_size t
  have HH := Lib.hid h
  clear h
  go_enter Tryz.func10, Tryz.ntmps10
  go_wp2_with fail
  refine (bnone_any b p f n (sB t) br w HH.out).mono ?_
  rintro e w1 ⟨rfl, rfl⟩
  go_wp2_with fail
  go_ret
  exact ⟨rfl, rfl⟩
end Go.Proofs.YtmneflpjoaocbaaGreat
/- Both disks; a call of each (thresherlaw05.Do). No conditions beyond what each states. -/
namespace Go.Proofs.YtmneflpjoaocbaaGreat
set_option maxRecDepth 100000
open Go.RowKit
set_option linter.unusedVariables false
attribute [local simp] frOf dstsOf frGo predsHold allHold Region.binds slotOf seen Is Act.put
/-- A region with two effects, one behind the other: what stands all the while, ahead of both, between them, behind them. -/
structure Two (K P0 P1 P2 : World → Prop) (b1 b2 : Bool) (y : World) : Prop where
  all : K y
  ord : b2 = true → b1 = true
  zero : b1 = false → P0 y
  mid : b1 = true → b2 = false → P1 y
  end_ : b2 = true → P2 y
section
variable {K P0 P1 P2 : World → Prop} {b1 b2 : Bool} {y y' : World}
theorem Two.start (h : K y) (hp : P0 y) : Two K P0 P1 P2 false false y := ⟨h, by simp, fun _ => hp, by simp, by simp⟩
theorem Two.one (h : Two K P0 P1 P2 b1 b2 y) (hb : b1 = false) (hk : K y') (hp : P1 y') : Two K P0 P1 P2 true b2 y' := by
  have h2 : b2 = false := by
    cases hb2 : b2 with
    | false => rfl
    | true => have := h.ord hb2; rw [hb] at this; cases this
  subst h2
  exact ⟨hk, by simp, by simp, fun _ _ => hp, by simp⟩
theorem Two.two (hb : b1 = true) (hk : K y') (hp : P2 y') : Two K P0 P1 P2 b1 true y' := ⟨hk, fun _ => hb, (by rw [hb]; simp), by simp, fun _ => hp⟩
end
/-- the program's disk holds S1, the document's S2 -/
structure HalfD (w : World) (p gs q gg n : Nat) (S1 S2 : Dst) (B m : Nat) : Prop where
  d : DkS w p gs n S1 B m
  r : RkS w q gg n S2 B m
def PairD (w : World) (p gs q gg n : Nat) (S : Dst) (B m : Nat) : Prop := HalfD w p gs q gg n S S B m
/-- only memory of the disks' types has turned, and the document's sectors -/
def PT (t : TypeId) : Prop := DT t ∨ RT t
def FarP (gg : Nat) (w w' : World) : Prop := FarG PT (fun b => b = gg) w w'
section
variable {w w' : World} {p gs q gg n : Nat} {S S1 S2 : Dst} {B m : Nat} {T : TypeId → Prop} {X : Nat → Prop}
theorem FarG.wide {T' : TypeId → Prop} (h : FarG T X w w') (ht : ∀ t, T t → T' t) : FarG T' X w w' := ⟨h.os, h.tape, h.output, h.size, fun k t cs hb hn hx => h.blk k t cs hb (fun e => hn (ht t e)) hx⟩
theorem Far.toG (h : Far w w') : FarG DT X w w' := ⟨h.os, h.tape, h.output, h.size, fun k t cs hb ht _ => h.blk k t cs hb ht⟩
theorem FarP.refl (gg : Nat) (w : World) : FarP gg w w := FarG.refl _ _ _
theorem FarP.trans {a : World} (h : FarP gg a w) (k : FarP gg w w') : FarP gg a w' := FarG.trans h k
theorem FarP.far (h : Far w w') : FarP gg w w' := (Far.toG h).wide fun _ h => .inl h
theorem FarP.ref (h : FarG RT (fun b => b = gg) w w') : FarP gg w w' := h.wide fun _ h => .inr h
theorem FarP.none (h : Only (fun _ => False) w w') : FarP gg w w' := FarG.none h
/-- the document's disk stands where only the program's turns -/
theorem RkS.far (h : RkS w q gg n S B m) (f : Far w w') : RkS w' q gg n S B m := by
  obtain ⟨h1, h2, c, A, c2, D⟩ := h
  exact ⟨h1, h2, c, A, c2, D.far (X := fun _ => False) (Far.toG f) (fun h => by rcases h with h | h | h <;> revert h <;> decide) nDT_string (fun h => by rcases h with h | h | h <;> revert h <;> decide) (fun h => h) (fun h => h) (fun _ _ h => h)⟩
/-- the program's disk stands where only the document's turns -/
theorem DkS.ref (h : DkS w p gs n S B m) (f : FarG RT X w w') (hx : ∀ k, X k → ∀ t cs, Blk w k t cs → ¬ DT t) : DkS w' p gs n S B m := by
  obtain ⟨hb, A, c, fb, left, D, hl⟩ := h
  refine ⟨hb, A, c, fb, left, ⟨f.blk _ _ _ D.blk (fun h => by rcases h with h | h <;> revert h <;> decide) (fun e => hx _ e _ _ D.blk (.inl rfl)), f.blk _ _ _ D.sec (fun h => by rcases h with h | h <;> revert h <;> decide) (fun e => hx _ e _ _ D.sec (.inr (.inl rfl))), f.owns D.own (fun h => by rcases h with h | h <;> revert h <;> decide) (fun k hk e => ?_), D.lo, D.ok⟩, hl⟩
  rcases owns_form D.own with ⟨h1, _⟩ | ⟨g', cap, h1, _⟩
  · rw [h1] at hk; simp [Value.ownBlock] at hk
  · rw [h1] at hk
    have hk' : k = g' := by simpa [Value.ownBlock] using hk.symm
    subst hk'
    obtain ⟨cur, hc⟩ : ∃ cur, Blk w k 99 cur := by
      rcases D.own.2 with ⟨h0, _⟩ | ⟨g2, cap2, cur, hv, hb2, hk2, _⟩
      · rw [h1] at h0; cases h0
      · rw [h1] at hv
        injection hv with e1 e2 e3
        injection e1 with e1
        injection e1 with e1
        subst e1
        exact ⟨cur, hk2⟩
    exact hx k e _ _ hc (.inr (.inr rfl))
theorem RkS.ggBlk (h : RkS w q gg n S B m) : ∃ cur, Blk w gg 9 cur := by
  obtain ⟨_, _, c, A, c2, D⟩ := h
  exact own_blk D.good
theorem HalfD.only (h : HalfD w p gs q gg n S1 S2 B m) (o : Only (fun _ => False) w w') : HalfD w' p gs q gg n S1 S2 B m := ⟨h.d.only o, h.r.only o⟩
theorem HalfD.more {m' : Nat} (h : HalfD w p gs q gg n S1 S2 B m) (h1 : m ≤ m') (h2 : m' ≤ 1000000) : HalfD w p gs q gg n S1 S2 B m' := ⟨h.d.more h1 h2, h.r.more h1 h2⟩
/-- behind a call of the document's that turns its own types, its sectors, and blocks of another type -/
theorem HalfD.ref {S2' : Dst} {m' : Nat} (h : HalfD w p gs q gg n S1 S2 B m) (f : FarG RT X w w') (hx : ∀ k, X k → k = gg ∨ ∀ t cs, Blk w k t cs → ¬ DT t) (hr : RkS w' q gg n S2' B m') (hm : m ≤ m') : HalfD w' p gs q gg n S1 S2' B m' := by
  have hm2 : m' ≤ 1000000 := hr.1.2.2.1
  refine ⟨(h.d.ref f (fun k hk t cs hb => ?_)).more hm hm2, hr⟩
  rcases hx k hk with rfl | h2
  · obtain ⟨cur, hc⟩ := h.r.ggBlk
    rw [blk_same hb hc]
    exact nDT_string
  · exact h2 t cs hb
theorem HalfD.prog {S1' : Dst} {m' : Nat} (h : HalfD w p gs q gg n S1 S2 B m) (f : Far w w') (hd : DkS w' p gs n S1' B m') (hm : m ≤ m') : HalfD w' p gs q gg n S1' S2 B m' :=
  ⟨hd, (h.r.far f).more hm hd.1.2.2.1⟩
end
theorem nSP : ¬ DT 67 := fun h => by rcases h with h | h | h <;> revert h <;> decide
theorem nSPR : ¬ RT 67 := fun h => by rcases h with h | h <;> revert h <;> decide
set_option maxHeartbeats 2000000 in
set_option maxRecDepth 100000 in
theorem do_write (w : World) (p gs q gg n : Nat) (S : Dst) (B m : Nat) (k : Int) (t : List UInt8) (D : PairD w p gs q gg n S B m) (hm : m < 1000000) (ht : t.length ≤ 9223372036854775807) :
    Calls Tryz.prog 24 #[.pointer (some ⟨p, 0, none⟩), .pointer (some ⟨q, 0, none⟩), .agg #[.int .u8 0, .int .i64 k, .string (sB t), .slice none 0 0]] w fun e w' => e = .returned (.bool true) ∧ PairD w' p gs q gg n (wrS n S k t).2 B (m + 1) ∧ Only (fun b => B ≤ b) w w' ∧ FarP gg w w' := by
  obtain ⟨w1, hw1⟩ : ∃ w1, w1 = w.alloc (.cells #[.int .u8 0, .int .i64 k, .string (sB t), .slice none 0 0] 67) := ⟨_, rfl⟩
  obtain ⟨xb, hxb⟩ : ∃ xb, xb = w.heap.size := ⟨_, rfl⟩
  have o1 : Only (fun _ => False) w w1 := by rw [hw1]; exact (Only.refl _ w).alloc _
  have b0 : Blk w1 xb 67 #[.int .u8 0, .int .i64 k, .string (sB t), .slice none 0 0] := by rw [hw1, hxb]; exact Blk.new w _ _
  have c0 : w1.cell? ⟨xb, 0, none⟩ = some (.int .u8 0) := b0.cell 0
  obtain ⟨y0, hy0⟩ : ∃ y0, y0 = wrS n S k t := ⟨_, rfl⟩
  have HW := Lib.hid hw1.symm
  have HQ := Lib.hid hxb.symm
  have HY0 := Lib.hid hy0
  have HO1 := Lib.hid o1
  obtain ⟨W2, hW2⟩ : ∃ W2, W2 = w1.drew := ⟨_, rfl⟩
  have o2 : Only (fun _ => False) w1 W2 := by rw [hW2]; exact (Only.refl _ w1).drew
  have HO2 := Lib.hid (o1.trans o2)
  have H2 := Lib.hid (o2.blk b0 (fun h => h))
  have HP2 : Hid (PairD W2 p gs q gg n S B m) := Lib.hid ((HalfD.only D o1).only o2)
  have HWD : Hid (∀ W, PairD W p gs q gg n S B m → Calls Tryz.prog 39 #[.pointer (some ⟨p, 0, none⟩), .int .i64 k, .string (sB t)] W fun e w' => e = .returned (.int .i64 y0.1) ∧ HalfD w' p gs q gg n y0.2 S B (m + 1) ∧ Only (fun b => B ≤ b) W w' ∧ Far W w') := Lib.hid (fun W h => by
    have h2 := dk_write p gs n S B m k (sB t) W h.d hm (by rw [sB_size]; exact ht)
    rw [sB_list, ← hy0] at h2
    exact h2.mono (by rintro e w' ⟨h3, h4, h5, h6⟩; exact ⟨h3, h.prog h6 h4 (by omega), h5, h6⟩))
  have HWR : Hid (∀ W, HalfD W p gs q gg n y0.2 S B (m + 1) → Calls Tryz.prog 50 #[.pointer (some ⟨q, 0, none⟩), .int .i64 k, .string (sB t)] W fun e w' => e = .returned (.int .i64 y0.1) ∧ PairD w' p gs q gg n y0.2 B (m + 1) ∧ Only (fun b => B ≤ b) W w' ∧ FarG RT (fun _ => False) W w') := Lib.hid (fun W h => by
    have hr : RkS W q gg n S B m := by
      obtain ⟨⟨a1, a2, a3, a4⟩, b, c⟩ := h.r
      obtain ⟨⟨_, _, _, a5⟩, _⟩ := D.r
      exact ⟨⟨a1, a2, by omega, a5⟩, b, c⟩
    have h2 := rwrite_any W q gg n S B m k t hr hm ht
    rw [← hy0] at h2
    exact h2.mono (by rintro e w' ⟨h3, h4, h5, h6⟩; exact ⟨h3, h.ref h6 (fun _ h => h.elim) h4 (Nat.le_refl _), h5, h6⟩))
  have HW2 := Lib.hid hW2
  rw [← hy0]
  clear D o1 b0 hw1 hxb hy0 o2 hW2
  go_enter Tryz.func24, Tryz.ntmps24
  go_wp2_with fail
  rw [HW.out, HQ.out]
  go_wp2_with fail
  clear c0
  refine wp_region_st (by kernel_rfl) (fun dn y => Two (fun y => Blk y xb 67 #[.int .u8 0, .int .i64 k, .string (sB t), .slice none 0 0]) (fun y => PairD y p gs q gg n S B m ∧ Only (fun b => B ≤ b) W2 y ∧ FarP gg W2 y) (fun y => HalfD y p gs q gg n y0.2 S B (m + 1) ∧ Only (fun b => B ≤ b) W2 y ∧ FarP gg W2 y) (fun y => PairD y p gs q gg n y0.2 B (m + 1) ∧ Only (fun b => B ≤ b) W2 y ∧ FarP gg W2 y) (dn 5) (dn 11) y) [Is (.pointer (some ⟨p, 0, none⟩)), Is (.pointer (some ⟨xb, 1, none⟩)), Is (.int .i64 k), Is (.pointer (some ⟨xb, 2, none⟩)), Is (.string (sB t)), Is (.int .i64 y0.1), Is (.pointer (some ⟨q, 0, none⟩)), Is (.pointer (some ⟨xb, 1, none⟩)), Is (.int .i64 k), Is (.pointer (some ⟨xb, 2, none⟩)), Is (.string (sB t)), Is (.int .i64 y0.1), Is (.bool true), Is (.bool true)] (by kernel_rfl)
    ⟨is_stab _ _, is_stab _ _, is_stab _ _, is_stab _ _, is_stab _ _, is_stab _ _, is_stab _ _, is_stab _ _, is_stab _ _, is_stab _ _, is_stab _ _, is_stab _ _, is_stab _ _, is_stab _ _, trivial⟩ (by rw [← HW2.out]; exact Two.start H2.out ⟨HP2.out, Only.refl _ _, FarP.refl _ _⟩) ⟨?_, ?_, ?_, ?_, ?_, ?_, ?_, ?_, ?_, ?_, ?_, ?_, ?_, ?_, trivial⟩ ?_
  · intro dn u w1 hi he hS hp K hK
    refine ord_plain rfl ?_
    simp at hp hK ⊢
    go_simp
    exact hK _ _ (by simpa [ldW] using hS) rfl
  · intro dn u w1 hi he hS hp K hK
    refine ord_plain rfl ?_
    simp at hp hK ⊢
    go_simp
    exact hK _ _ (by simpa [ldW] using hS) rfl
  · intro dn u w1 hi he hS hp K hK
    refine ord_plain rfl ?_
    simp at hp hK ⊢
    simp only [hp] at hK
    have hc1 : w1.cell? ⟨xb, 1, none⟩ = some (.int .i64 k) := hS.all.cell 1
    go_simp
    exact hK _ _ (by simpa [ldW] using hS) rfl
  · intro dn u w1 hi he hS hp K hK
    refine ord_plain rfl ?_
    simp at hp hK ⊢
    go_simp
    exact hK _ _ (by simpa [ldW] using hS) rfl
  · intro dn u w1 hi he hS hp K hK
    refine ord_plain rfl ?_
    simp at hp hK ⊢
    simp only [hp] at hK
    have hc2 : w1.cell? ⟨xb, 2, none⟩ = some (.string (sB t)) := hS.all.cell 2
    go_simp
    exact hK _ _ (by simpa [ldW] using hS) rfl
  · intro dn u w1 hi he hS hp K hK
    refine ord_plain rfl ?_
    simp at hp hK ⊢
    simp only [hp] at hK
    go_simp
    obtain ⟨hP, hO, hF⟩ := hS.zero hi
    refine (HWD.out w1 hP).mono ?_
    rintro e w2 ⟨rfl, k1, k2, k3⟩
    exact hK _ _ (Two.one hS hi (k3.blk _ _ _ hS.all nSP) ⟨k1, hO.trans k2, hF.trans (FarP.far k3)⟩) rfl
  · intro dn u w1 hi he hS hp K hK
    refine ord_plain rfl ?_
    simp at hp hK ⊢
    go_simp
    exact hK _ _ (by simpa [ldW] using hS) rfl
  · intro dn u w1 hi he hS hp K hK
    refine ord_plain rfl ?_
    simp at hp hK ⊢
    go_simp
    exact hK _ _ (by simpa [ldW] using hS) rfl
  · intro dn u w1 hi he hS hp K hK
    refine ord_plain rfl ?_
    simp at hp hK ⊢
    simp only [hp] at hK
    have hc1 : w1.cell? ⟨xb, 1, none⟩ = some (.int .i64 k) := hS.all.cell 1
    go_simp
    exact hK _ _ (by simpa [ldW] using hS) rfl
  · intro dn u w1 hi he hS hp K hK
    refine ord_plain rfl ?_
    simp at hp hK ⊢
    go_simp
    exact hK _ _ (by simpa [ldW] using hS) rfl
  · intro dn u w1 hi he hS hp K hK
    refine ord_plain rfl ?_
    simp at hp hK ⊢
    simp only [hp] at hK
    have hc2 : w1.cell? ⟨xb, 2, none⟩ = some (.string (sB t)) := hS.all.cell 2
    go_simp
    exact hK _ _ (by simpa [ldW] using hS) rfl
  · intro dn u w1 hi he hS hp K hK
    refine ord_plain rfl ?_
    simp at hp hK ⊢
    simp only [hp] at hK
    go_simp
    have h5 : dn 5 = true := by simp [edgesDone] at he; simp [he]
    obtain ⟨hP, hO, hF⟩ := hS.mid h5 hi
    refine (HWR.out w1 hP).mono ?_
    rintro e w2 ⟨rfl, k1, k2, k3⟩
    exact hK _ _ (Two.two h5 (k3.blk _ _ _ hS.all nSPR (fun h => h)) ⟨k1, hO.trans k2, hF.trans (FarP.ref (k3.mono fun _ h => h.elim))⟩) rfl
  · intro dn u w1 hi he hS hp K hK
    refine ord_plain rfl ?_
    simp at hp hK ⊢
    simp only [hp] at hK
    go_simp
    exact hK _ _ (by simpa [ldW] using hS) rfl
  · intro dn u w1 hi he hS hp K hK
    refine ord_plain rfl ?_
    simp at hp hK ⊢
    simp only [hp] at hK
    go_simp
    exact hK _ _ (by simpa [ldW] using hS) rfl
  · intro u w1 dn hld hS hp
    simp at hp ⊢
    have h13 := hp.2.2.2.2.2.2.2.2.2.2.2.2.2
    simp only [h13]
    obtain ⟨k1, k2, k3⟩ := hS.end_ (hld 11 (by decide))
    have K1 := Lib.hid k1
    have K2 := Lib.hid k2
    have K3 := Lib.hid k3
    clear h13 hp hS hld k1 k2 k3
    go_wp2_with fail
    go_ret
    exact ⟨rfl, K1.out, (HO2.out.mono fun _ h => h.elim).trans K2.out, (FarP.none HO2.out).trans K3.out⟩
end Go.Proofs.YtmneflpjoaocbaaGreat
/- Both disks: a fuse, a crash (thresherlaw05.Do). No conditions beyond what each states. -/
namespace Go.Proofs.YtmneflpjoaocbaaGreat
set_option maxRecDepth 100000
open Go.RowKit
set_option linter.unusedVariables false
set_option maxHeartbeats 2000000 in
set_option maxRecDepth 100000 in
theorem do_fuse_bad (w : World) (p gs q gg n : Nat) (S : Dst) (B m : Nat) (k : Int) (D : PairD w p gs q gg n S B m) (hk : k < 0) :
    Calls Tryz.prog 24 #[.pointer (some ⟨p, 0, none⟩), .pointer (some ⟨q, 0, none⟩), .agg #[.int .u8 3, .int .i64 k, .string ⟨#[]⟩, .slice none 0 0]] w fun e w' => e = .returned (.bool true) ∧ PairD w' p gs q gg n S B m ∧ Only (fun b => B ≤ b) w w' ∧ FarP gg w w' := by
  obtain ⟨w1, hw1⟩ : ∃ w1, w1 = w.alloc (.cells #[.int .u8 3, .int .i64 k, .string ⟨#[]⟩, .slice none 0 0] 67) := ⟨_, rfl⟩
  obtain ⟨xb, hxb⟩ : ∃ xb, xb = w.heap.size := ⟨_, rfl⟩
  have o1 : Only (fun _ => False) w w1 := by rw [hw1]; exact (Only.refl _ w).alloc _
  have b0 : Blk w1 xb 67 #[.int .u8 3, .int .i64 k, .string ⟨#[]⟩, .slice none 0 0] := by rw [hw1, hxb]; exact Blk.new w _ _
  have c0 : w1.cell? ⟨xb, 0, none⟩ = some (.int .u8 3) := b0.cell 0
  have c1 : w1.cell? ⟨xb, 1, none⟩ = some (.int .i64 k) := b0.cell 1
  have HW := Lib.hid hw1.symm
  have HQ := Lib.hid hxb.symm
  have HO1 := Lib.hid o1
  have HP := Lib.hid (HalfD.only D o1)
  clear D o1 b0 hw1 hxb
  go_enter Tryz.func24, Tryz.ntmps24
  go_wp2_with fail
  rw [HW.out, HQ.out]
  go_wp2_with fail
  refine (dk_fuse_bad p gs n S B m k w1 HP.out.d hk).mono ?_
  rintro e w2 ⟨rfl, rfl⟩
  go_wp2_with fail
  go_ret
  exact ⟨rfl, HP.out, HO1.out.mono fun _ h => h.elim, FarP.none HO1.out⟩
set_option maxHeartbeats 2000000 in
set_option maxRecDepth 100000 in
theorem do_fuse (w : World) (p gs q gg n : Nat) (S : Dst) (B m k : Nat) (D : PairD w p gs q gg n S B m) (hk : (k : Int) ≤ 9223372036854775807) :
    Calls Tryz.prog 24 #[.pointer (some ⟨p, 0, none⟩), .pointer (some ⟨q, 0, none⟩), .agg #[.int .u8 3, .int .i64 (k : Int), .string ⟨#[]⟩, .slice none 0 0]] w fun e w' => e = .returned (.bool true) ∧ PairD w' p gs q gg n ⟨S.g, S.l, some k⟩ B m ∧ Only (fun b => B ≤ b) w w' ∧ FarP gg w w' := by
  obtain ⟨w1, hw1⟩ : ∃ w1, w1 = w.alloc (.cells #[.int .u8 3, .int .i64 (k : Int), .string ⟨#[]⟩, .slice none 0 0] 67) := ⟨_, rfl⟩
  obtain ⟨xb, hxb⟩ : ∃ xb, xb = w.heap.size := ⟨_, rfl⟩
  have o1 : Only (fun _ => False) w w1 := by rw [hw1]; exact (Only.refl _ w).alloc _
  have b0 : Blk w1 xb 67 #[.int .u8 3, .int .i64 (k : Int), .string ⟨#[]⟩, .slice none 0 0] := by rw [hw1, hxb]; exact Blk.new w _ _
  have c0 : w1.cell? ⟨xb, 0, none⟩ = some (.int .u8 3) := b0.cell 0
  have c1 : w1.cell? ⟨xb, 1, none⟩ = some (.int .i64 (k : Int)) := b0.cell 1
  have hk0 : ¬ (k : Int) < 0 := by omega
  have P1 := HalfD.only D o1
  obtain ⟨⟨r1, r2, r3, r4⟩, rf, c, A, c2, R⟩ := P1.r
  have R2 := R.fuse (some k)
  have hv : fuV (some k) = (k : Int) := rfl
  rw [hv] at R2
  obtain ⟨w2, hw2⟩ : ∃ w2, w2 = w1.setCell ⟨q, 2, none⟩ (.int .i64 (k : Int)) := ⟨_, rfl⟩
  rw [← hw2] at R2
  have fq : w1.frozen? ⟨q, 2, none⟩ = false := R.blk.frozen 2
  have cq : w1.cell? ⟨q, 2, none⟩ = some (.int .i64 (fuV S.fu)) := R.blk.cell 2
  have f2 : FarG RT (fun _ => False) w1 w2 := FarG.of_only R2.2 (fun b h => .inr fun t cs hb => by subst h; rw [blk_same hb R.blk]; exact .inl rfl)
  have HR : Hid (RkS w2 q gg n ⟨S.g, S.l, some k⟩ B m) := Lib.hid ⟨⟨r1, r2, r3, r4⟩, fun j hj => (by injection hj with hj; subst hj; exact hk), c, A, c2, R2.1⟩
  have HP2 : Hid (HalfD w2 p gs q gg n S ⟨S.g, S.l, some k⟩ B m) := Lib.hid (P1.ref f2 (fun _ h => h.elim) HR.out (Nat.le_refl _))
  have d1 : w2.cell? ⟨xb, 1, none⟩ = some (.int .i64 (k : Int)) := (f2.blk _ _ _ b0 nSPR (fun h => h)).cell 1
  rw [hw2, hw1, hxb] at d1
  rw [hw1] at fq cq
  have HF : Hid (FarP gg w w2) := Lib.hid ((FarP.none o1).trans (FarP.ref (f2.mono fun _ h => h.elim)))
  have HO : Hid (Only (fun b => B ≤ b) w w2) := Lib.hid ((o1.mono fun _ h => h.elim).trans (R2.2.mono fun b h => by rw [h]; exact R.lo))
  have HW := Lib.hid hw1.symm
  have HQ := Lib.hid hxb.symm
  have HW2 := Lib.hid hw2.symm
  clear D o1 b0 hw1 hxb P1 R R2 f2 hw2 hv rf
  go_enter Tryz.func24, Tryz.ntmps24
  go_wp2_with fail
  rw [HW.out, HQ.out, HW2.out]
  refine (dk_fuse p gs n S B m k w2 HP2.out.d hk).mono ?_
  rintro e w3 ⟨rfl, k1, k2, k3⟩
  have K1 := Lib.hid (HP2.out.prog k3 k1 (Nat.le_refl _))
  have K2 := Lib.hid (HO.out.trans k2)
  have K3 := Lib.hid (HF.out.trans (FarP.far k3))
  clear k1 k2 k3
  go_wp2_with fail
  go_ret
  exact ⟨rfl, K1.out, K2.out, K3.out⟩
set_option maxHeartbeats 2000000 in
set_option maxRecDepth 100000 in
theorem do_crash (w : World) (p gs q gg n : Nat) (S : Dst) (B m : Nat) (ps : List Int) (AP : Option Addr) (cp : Nat) (D : PairD w p gs q gg n S B m) (hps : Reads w B 1 AP ps.length (ps.map (Value.int .i64))) :
    Calls Tryz.prog 24 #[.pointer (some ⟨p, 0, none⟩), .pointer (some ⟨q, 0, none⟩), .agg #[.int .u8 4, .int .i64 0, .string ⟨#[]⟩, .slice AP ps.length cp]] w fun e w' => e = .returned (.bool true) ∧ PairD w' p gs q gg n (crS S ps) B m ∧ Only (fun b => B ≤ b) w w' ∧ FarP gg w w' := by
  obtain ⟨w1, hw1⟩ : ∃ w1, w1 = w.alloc (.cells #[.int .u8 4, .int .i64 0, .string ⟨#[]⟩, .slice AP ps.length cp] 67) := ⟨_, rfl⟩
  obtain ⟨xb, hxb⟩ : ∃ xb, xb = w.heap.size := ⟨_, rfl⟩
  have o1 : Only (fun _ => False) w w1 := by rw [hw1]; exact (Only.refl _ w).alloc _
  have b0 : Blk w1 xb 67 #[.int .u8 4, .int .i64 0, .string ⟨#[]⟩, .slice AP ps.length cp] := by rw [hw1, hxb]; exact Blk.new w _ _
  have c0 : w1.cell? ⟨xb, 0, none⟩ = some (.int .u8 4) := b0.cell 0
  have c3 : w1.cell? ⟨xb, 3, none⟩ = some (.slice AP ps.length cp) := b0.cell 3
  have HPS : Hid (∀ W, Only (fun b => B ≤ b) w W → Reads W B 1 AP ps.length (ps.map (Value.int .i64))) := Lib.hid (fun W hW => hps.below (hW.below (fun _ h => h) (by have := D.d.size; omega)))
  have hBw : B ≤ w.heap.size := by have := D.d.size; omega
  have P1 := HalfD.only D o1
  have HP1 := Lib.hid P1
  have HO1 := Lib.hid o1
  have HB0 := Lib.hid b0
  have HAV : Hid (0 < ps.length → ∀ ad, AP = some ad → ad.block < B) := Lib.hid (fun h ad had => by
    obtain ⟨ad', h1, h2, _⟩ := hps.2 h
    rw [had] at h1
    injection h1 with h1
    subst h1
    exact h2)
  have HW := Lib.hid hw1.symm
  have HQ := Lib.hid hxb.symm
  clear D o1 b0 hw1 hxb P1 hps
  go_enter Tryz.func24, Tryz.ntmps24
  go_wp2_with fail
  rw [HW.out, HQ.out]
  go_wp2_with fail
  have hlt : B ≤ q ∧ B ≤ gg := by
    obtain ⟨⟨h1, _⟩, _, c, A, c2, R⟩ := HP1.out.r
    exact ⟨R.lo, (R.lts h1).2.2⟩
  have hcr := rcrash_any w1 q gg n S B m ps AP cp B HP1.out.r (HPS.out w1 (HO1.out.mono fun _ h => h.elim)) (by have := HO1.out.size; omega) (fun h ad had => by have := HAV.out h ad had; omega)
  refine hcr.mono ?_
  rintro e w2 ⟨rfl, k1, k2⟩
  have hf : FarG RT (fun b => b = gg) w1 w2 ∧ Only (fun b => B ≤ b) w1 w2 := by
    obtain ⟨⟨h1, _⟩, _, c, A, c2, R⟩ := HP1.out.r
    refine ⟨FarG.of_only k2 (fun b hb => ?_), k2.mono (fun b hb => ?_)⟩
    · rcases hb with rfl | rfl
      · exact .inr fun t cs hb => by rw [blk_same hb R.blk]; exact .inl rfl
      · exact .inl rfl
    · rcases hb with rfl | rfl
      · exact hlt.1
      · exact hlt.2
  have HP2 : Hid (HalfD w2 p gs q gg n S (crS S ps) B m) := Lib.hid (HP1.out.ref hf.1 (fun _ h => .inl h) k1 (Nat.le_refl _))
  have b2 : Blk w2 xb 67 #[.int .u8 4, .int .i64 0, .string ⟨#[]⟩, .slice AP ps.length cp] := hf.1.blk _ _ _ HB0.out nSPR (fun e => by
    obtain ⟨cur, hc⟩ := HP1.out.r.ggBlk
    exact Blk.ne_ HB0.out hc (by decide) e)
  have d3 : w2.cell? ⟨xb, 3, none⟩ = some (.slice AP ps.length cp) := b2.cell 3
  have HO2 : Hid (Only (fun b => B ≤ b) w w2) := Lib.hid ((HO1.out.mono fun _ h => h.elim).trans hf.2)
  have HF2 : Hid (FarP gg w w2) := Lib.hid ((FarP.none HO1.out).trans (FarP.ref hf.1))
  have HG2 : Hid (B ≤ p ∧ B ≤ gs) := Lib.hid (by
    obtain ⟨_, A, c, fb, left, D, _⟩ := HP1.out.d
    exact D.lo)
  clear hcr k1 k2 hf b2 c0 c3
  go_wp2_with fail
  have hdc := dk_crash p gs n S B m ps AP cp B w2 HP2.out.d (HPS.out w2 HO2.out) (by have := HO2.out.size; omega) (fun h ad had => by have := HAV.out h ad had; have := HG2.out; omega)
  refine hdc.mono ?_
  rintro e w3 ⟨rfl, k1, k2, k3⟩
  have K1 := Lib.hid (HP2.out.prog k3 k1 (Nat.le_refl _))
  have K2 := Lib.hid (HO2.out.trans k2)
  have K3 := Lib.hid (HF2.out.trans (FarP.far k3))
  clear k1 k2 k3 hdc
  go_wp2_with fail
  go_ret
  exact ⟨rfl, K1.out, K2.out, K3.out⟩
end Go.Proofs.YtmneflpjoaocbaaGreat
/- A book and the document's, opened alike; both in one word. No conditions beyond what each states. -/
namespace Go.Proofs.YtmneflpjoaocbaaGreat
set_option maxRecDepth 100000
open Go.RowKit
set_option linter.unusedVariables false
/-- no pointer, or one to a block -/
def ptrV : Option Nat → Value
  | none => .pointer none
  | some b => .pointer (some ⟨b, 0, none⟩)
/-- the text and the records that an Open comes to -/
def txU (f nn : Int) (S : Dst) : List UInt8 := openX f.toNat nn.toNat fun j => S.cur.getD j []
def rsU (n : Nat) (f nn : Int) (S : Dst) : List ByteArray := if (opS n f nn S).1 = 0 then (openF f.toNat nn.toNat fun j => S.cur.getD j []).map (·.2) else []
theorem txU_len (f nn : Int) (S : Dst) : (txU f nn S).length ≤ nn.toNat * 127 := by
  unfold txU openX
  rw [List.length_take]
  have := stream_len (openT f.toNat nn.toNat fun j => S.cur.getD j [])
  have e : (openT f.toNat nn.toNat fun j => S.cur.getD j []).length = nn.toNat := by simp [openT]
  rw [e] at this
  omega
theorem text_own {w : World} {base c : Nat} {A : Option Addr} {rs : List ByteArray} (h : w.ownsRow base 9 1 (.slice A rs.length c) rs.length (rs.map Value.string)) : TextRow w A rs := ⟨fun j hj => by
  obtain ⟨g', cap', hgv, _, hgl, hc⟩ := own_cells h (by omega)
  injection hgv with h1
  refine ⟨g', 0, h1, hgl, ?_⟩
  rw [Nat.zero_add]
  exact hc j _ (by rw [List.getElem?_map, List.getElem?_eq_getElem hj]; rfl)⟩
theorem own_texts {w : World} {base : Nat} {v : Value} {l : List (Nat × ByteArray)} (h : w.ownsRow base 9 1 v l.length (l.map fun x => .string x.2)) : ∃ A c, v = .slice A (l.map (·.2)).length c ∧ w.ownsRow base 9 1 (.slice A (l.map (·.2)).length c) (l.map (·.2)).length ((l.map (·.2)).map Value.string) := by
  obtain ⟨A, c, hv, _⟩ := own_form h
  refine ⟨A, c, by rw [hv, List.length_map], ?_⟩
  rw [List.length_map, List.map_map, ← hv]
  exact h
theorem rsU_len {n : Nat} {f nn : Int} {S : Dst} : (rsU n f nn S).length ≤ n * 127 := by
  unfold rsU
  split
  · rename_i h
    have hmay : mayB n f nn = true := by
      unfold opS at h
      split at h
      · assumption
      · simp at h
    obtain ⟨h1, h2, h3, h4⟩ : 0 ≤ f ∧ 1 ≤ nn ∧ f ≤ (n : Int) ∧ nn ≤ (n : Int) - f := by unfold mayB at hmay; simpa using hmay
    rw [List.length_map]
    have g1 := fs_len (openF f.toNat nn.toNat fun j => S.cur.getD j [])
    have g2 := recsF_le (framesOf (sB (streamL (openT f.toNat nn.toNat fun j => S.cur.getD j []))))
    have g3 := (framesOf_ok (sB (streamL (openT f.toNat nn.toNat fun j => S.cur.getD j [])))).1
    rw [sB_size] at g3
    have g4 := stream_len (openT f.toNat nn.toNat fun j => S.cur.getD j [])
    have e : (openT f.toNat nn.toNat fun j => S.cur.getD j []).length = nn.toNat := by simp [openT]
    rw [e] at g4
    have g5 : gsum (openF f.toNat nn.toNat fun j => S.cur.getD j []) = gsum (recsF (framesOf (sB (streamL (openT f.toNat nn.toNat fun j => S.cur.getD j []))))) := rfl
    have g6 : nn.toNat ≤ n := by omega
    have g7 : nn.toNat * 127 ≤ n * 127 := Nat.mul_le_mul_right _ g6
    omega
  · simp
theorem bopen_u (p gs n : Nat) (S : Dst) (B m : Nat) (f nn : Int) (w : World) (D : DkS w p gs n S B m) (hk0 : -9223372036854775808 ≤ nn) (hk1 : nn ≤ 9223372036854775807) (hm : m + 12000 ≤ 1000000) :
    Calls Tryz.prog 17 #[.pointer (some ⟨p, 0, none⟩), .int .i64 f, .int .i64 nn] w fun e w' =>
      DkS w' p gs n (opS n f nn S).2 B (m + 2 * n + 2) ∧ Far w w' ∧ Only (fun b => B ≤ b) w w' ∧
      ∃ (bo : Option Nat) (A : Option Addr) (c : Nat), e = .returned (.tuple #[ptrV bo, .slice A (rsU n f nn S).length c, .int .i64 (opS n f nn S).1]) ∧ w'.ownsRow w.heap.size 9 1 (.slice A (rsU n f nn S).length c) (rsU n f nn S).length ((rsU n f nn S).map Value.string) ∧ (bo = none ↔ (opS n f nn S).1 ≠ 0) ∧ (∀ b, bo = some b → B ≤ b ∧ BookB w' b p f nn (sB (txU f nn S)) false) := by
  refine (bopen_full p gs n S B m f nn w D hk0 hk1 hm).mono ?_
  rintro e w' ⟨k1, k2, k3, k4⟩
  refine ⟨k1, k2, k3, ?_⟩
  rcases k4 with ⟨h0, b, v, he, hb, hB, hR⟩ | ⟨h0, he⟩
  · obtain ⟨A, c, hv, ht⟩ := own_texts hR
    have hr : rsU n f nn S = (openF f.toNat nn.toNat fun j => S.cur.getD j []).map (·.2) := by unfold rsU; rw [if_pos h0]
    refine ⟨some b, A, c, by rw [he, h0, hr, hv]; rfl, by rw [hr]; exact ht, by simp [h0], fun b' hb' => ?_⟩
    injection hb' with hb'
    subst hb'
    exact ⟨by have := D.size; omega, hB⟩
  · have hr : rsU n f nn S = [] := by unfold rsU; rw [if_neg h0]
    exact ⟨none, none, 0, by rw [he, hr]; rfl, by rw [hr]; exact World.ownsRow_nil _ _ _ _, by simp [h0], fun b hb => by cases hb⟩
theorem ropen_u (w : World) (q gg n : Nat) (S : Dst) (B m : Nat) (f nn : Int) (D : RkS w q gg n S B m) (hm : m + 12000 ≤ 1000000) :
    Calls Tryz.prog 22 #[.pointer (some ⟨q, 0, none⟩), .int .i64 f, .int .i64 nn] w fun e w' =>
      RkS w' q gg n (opS n f nn S).2 B (m + 2 * n + 2) ∧ FarG RT (fun b => b = gg) w w' ∧ Only (fun b => B ≤ b) w w' ∧
      ∃ (xo : Option Nat) (A : Option Addr) (c : Nat), e = .returned (.tuple #[ptrV xo, .slice A (rsU n f nn S).length c, .int .i64 (opS n f nn S).1]) ∧ w'.ownsRow w.heap.size 9 1 (.slice A (rsU n f nn S).length c) (rsU n f nn S).length ((rsU n f nn S).map Value.string) ∧ (xo = none ↔ (opS n f nn S).1 ≠ 0) ∧ (∀ x, xo = some x → w.heap.size ≤ x ∧ BookR w' x q f nn (sB (txU f nn S)) false) := by
  refine (ropen_any w q gg n S B m f nn D hm).mono ?_
  rintro e w' ⟨k1, k2, k3, k4⟩
  refine ⟨k1, k2, k3, ?_⟩
  rcases k4 with ⟨h0, b, v, he, hb, hB, hR⟩ | ⟨h0, he⟩
  · obtain ⟨A, c, hv, ht⟩ := own_texts hR
    have hr : rsU n f nn S = (openF f.toNat nn.toNat fun j => S.cur.getD j []).map (·.2) := by unfold rsU; rw [if_pos h0]
    refine ⟨some b, A, c, by rw [he, h0, hr, hv]; rfl, by rw [hr]; exact ht, by simp [h0], fun b' hb' => ?_⟩
    injection hb' with hb'
    subst hb'
    exact ⟨hb, hB⟩
  · have hr : rsU n f nn S = [] := by unfold rsU; rw [if_neg h0]
    exact ⟨none, none, 0, by rw [he, hr]; rfl, by rw [hr]; exact World.ownsRow_nil _ _ _ _, by simp [h0], fun b hb => by cases hb⟩
/-- a pair: both disks hold the same, both books are none, or both are there and hold the same -/
structure PW (w : World) (pb p gs q gg n : Nat) (f nn : Int) (S : Dst) (bo xo : Option Nat) (t : List UInt8) (br : Bool) (B m : Nat) : Prop where
  blk : Blk w pb 36 #[.pointer (some ⟨p, 0, none⟩), .pointer (some ⟨q, 0, none⟩), ptrV bo, ptrV xo, .int .i64 f, .int .i64 nn]
  lo : B ≤ pb
  d : PairD w p gs q gg n S B m
  no : bo = none ↔ xo = none
  b : ∀ b, bo = some b → B ≤ b ∧ BookB w b p f nn (sB t) br
  x : ∀ x, xo = some x → B ≤ x ∧ x ≠ gg ∧ BookR w x q f nn (sB t) br
  tl : bo ≠ none → t.length ≤ nn.toNat * 127 ∧ mayB n f nn = true
/-- a book was opened: it may be -/
theorem opS_may {n : Nat} {f nn : Int} {S : Dst} (h : (opS n f nn S).1 = 0) : mayB n f nn = true := by
  unfold opS at h
  split at h
  · assumption
  · simp at h
end Go.Proofs.YtmneflpjoaocbaaGreat
