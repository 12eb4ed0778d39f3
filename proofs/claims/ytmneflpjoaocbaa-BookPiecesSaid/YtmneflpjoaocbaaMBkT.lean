/- Several texts in one: BkT. -/
import Derived.Test.YtmneflpjoaocbaaMBkN
import Derived.Test.YtmneflpjoaocbaaMBkO
import Derived.Test.YtmneflpjoaocbaaMBkQ
import Derived.Test.YtmneflpjoaocbaaMBkR
import Derived.Test.YtmneflpjoaocbaaMBkS
import Derived.Test.YtmneflpjoaocbaaMBookW
/- BookPieces: its walk. No conditions beyond what each states. -/
namespace Go.Proofs.Ytmneflpjoaocbaa
open Go.RowKit
set_option linter.unusedVariables false
attribute [local simp] frOf dstsOf frGo predsHold allHold Region.binds slotOf seen Is Act.put
theorem row_texts {w : World} {base : Nat} {A : Option Addr} {c : Nat} {xs : List ByteArray} (h : w.ownsRow base 9 1 (.slice A xs.length c) xs.length (xs.map .string)) : TextRow w A xs := ⟨fun j hj => by
  obtain ⟨g, cap, hv, _, hg, hc⟩ := own_cells h (by omega)
  injection hv with h1
  exact ⟨g, 0, h1, hg, by rw [Nat.zero_add]; exact hc j _ (by simp [hj])⟩⟩
theorem open_made (p gs n B m : Nat) (xs : List ByteArray) (w : World) (D : DkS w p gs n ⟨sectorsL (frsB xs) n, [], none⟩ B m) (hx : ∀ x ∈ xs, x.size ≤ 131072) (hl : (frsB xs).length ≤ n * 127) (hn : 1 ≤ n) (hm : m + 12000 ≤ 1000000) :
    Calls Try.prog 5 #[.pointer (some ⟨p, 0, none⟩), .int .i64 ((0 : Nat) : Int), .int .i64 (n : Int)] w fun e w' => ∃ b v, e = .returned (.tuple #[.pointer (some ⟨b, 0, none⟩), v, .int .i64 0]) ∧
      (w.heap.size ≤ b ∧ BookB w' b p (0 : Nat) n (sB (frsB xs)) false) ∧ w'.ownsRow w.heap.size 9 1 v xs.length (xs.map .string) ∧ DkS w' p gs n ⟨sectorsL (frsB xs) n, [], none⟩ B (m + 2 * n + 2) ∧ Far w w' ∧ Only (fun b => B ≤ b) w w' := by
  obtain ⟨C, hC⟩ : ∃ C : Nat → List UInt8, C = madeL (frsB xs) := ⟨_, rfl⟩
  obtain ⟨h1, h2, h3⟩ := open_ones xs n hx hl C (fun j hj => by rw [hC, Nat.zero_add])
  have h := open_any p gs n 0 n _ B m C w D hn (by omega) hm (fun j hj => by rw [hC]; exact madeL_len _ _) (fun W hW j hj => by
    rw [show (((0 : Nat) : Int) + (j : Int)) = (j : Int) by omega]
    refine (read_any p gs n _ B m j (madeL (frsB xs) j) W (D.only hW) hj (sectorsL_get _ _ _ hj)).mono ?_
    rintro e w' ⟨he, _, o⟩
    refine ⟨?_, o⟩
    rw [he, hC, Nat.zero_add]
    rfl)
  rw [h1, h2, h3, anewS_same] at h
  refine h.mono ?_
  rintro e w' ⟨d1, d2, d3, d4⟩
  rcases d4 with ⟨_, b, v, rfl, hb, hB, ho⟩ | ⟨hne, _⟩
  · refine ⟨b, v, rfl, ⟨hb, hB⟩, ?_, d1, d2, d3⟩
    have : (ones xs).map (fun x => Value.string x.2) = xs.map .string := by unfold ones; rw [List.map_map]; rfl
    rw [this] at ho
    rwa [show (ones xs).length = xs.length by simp [ones]] at ho
  · exact absurd rfl hne
theorem max_zero {a b : Int} (ha : 0 ≤ a) (hb : 0 ≤ b) : max a b = 0 → a = 0 ∧ b = 0 := by omega
theorem TextRow.part {w : World} {A : Option Addr} {xs : List ByteArray} (h : TextRow w A xs) (k : Nat) : TextRow w A (xs.take k) := ⟨fun j hj => by
  have hj' : j < xs.length := by rw [List.length_take] at hj; omega
  obtain ⟨g, off, h1, h2, h3⟩ := h.at_ j hj'
  exact ⟨g, off, h1, h2, by rw [h3]; simp⟩⟩
theorem TextRow.rest {w : World} {A : Option Addr} {xs : List ByteArray} (h : TextRow w A xs) (k c : Nat) (hc : xs.length ≤ c) : TextRow w (if c = k then A else A.map (·.add k)) (xs.drop k) := ⟨fun j hj => by
  have hj' : k + j < xs.length := by rw [List.length_drop] at hj; omega
  obtain ⟨g, off, h1, h2, h3⟩ := h.at_ (k + j) hj'
  rw [if_neg (by omega)]
  refine ⟨g, off + k, ?_, h2, ?_⟩
  · rw [h1, Option.map_some, addr_plus]
  · rw [Nat.add_assoc, h3]; simp⟩
set_option maxHeartbeats 8000000 in
set_option maxRecDepth 100000 in
theorem pieces_any (xs : List ByteArray) (A : Option Addr) (c : Nat) (x1 : Int) (w : World) (hr : TextRow w A xs) (hn : xs.length ≤ c) (hcap : c ≤ 9223372036854775807) (hs : ∀ x ∈ xs, x.size ≤ 9223372036854775807) (h0 : 0 ≤ x1) (h1 : x1 ≤ 255) :
    Calls Try.prog 4 #[.slice A xs.length c, .int .u8 x1] w fun e w' => e = .returned (.bool true) ∧ Below w.heap.size w w' := by
  obtain ⟨i0, hi, hz0, hz1, hz2⟩ := info_parts strInfo
  have HI := Lib.hid hi
  have HRr := Lib.hid hr
  have HSs := Lib.hid hs
  clear hi hr hs
  go_enter Try.func4, Try.ntmps4
  go_wp2_with fail
  have hmx : xs.length ≤ maxLen := by unfold maxLen; omega
  obtain ⟨wh, hwh⟩ : ∃ wh, wh = w.alloc (.cells #[.int .u8 0, .slice A xs.length c, .int .i64 0, .slice none 0 0] 37) := ⟨_, rfl⟩
  have bh : Blk wh w.heap.size 37 #[.int .u8 0, .slice A xs.length c, .int .i64 0, .slice none 0 0] := by rw [hwh]; exact Blk.new w _ _
  have oh : Only (fun _ => False) w wh := by rw [hwh]; exact (Only.refl _ w).alloc _
  have hsc : ScrB wh wh.heap.size (some ⟨w.heap.size, 0, none⟩) [⟨0, xs, A, c, 0, [], none, 0⟩] := by
    intro i s hs
    obtain ⟨rfl, rfl⟩ : i = 0 ∧ s = ⟨0, xs, A, c, 0, [], none, 0⟩ := by
      cases i with
      | zero => simp at hs; exact ⟨rfl, hs.symm⟩
      | succ i => simp at hs
    refine ⟨w.heap.size, 0, rfl, bh.lt, bh.cell 0, bh.cell 1, bh.cell 2, bh.cell 3, fun j hj => ?_, Reads.none_, fun x hx => by unfold maxLen; exact HSs.out x hx, hn, by unfold maxLen; omega, by simp, by simp, by simp, by simp⟩
    obtain ⟨g, off, e1, e2, e3⟩ := HRr.out.at_ j hj
    exact ⟨g, off, e1, by have := oh.size; omega, (oh.cell (p := ⟨g, off + j, none⟩) e2 (fun h => h)).trans e3⟩
  rw [← hwh]
  have hhv := heavyB_any wh.heap.size (some ⟨w.heap.size, 0, none⟩) 1 [⟨0, xs, A, c, 0, [], none, 0⟩] wh hsc (by simp [maxLen])
  have HOH := Lib.hid oh
  clear hwh bh oh hsc
  refine hhv.mono ?_
  rintro e w1 ⟨⟨b, rfl, hb1⟩, rfl⟩
  clear hhv
  rcases b with _ | _
  case true =>
    clear hb1
    go_wp2_with fail
    refine (alive_any _).mono ?_
    rintro e wa ⟨rfl, ba⟩
    have BA := Lib.hid ba
    clear ba
    go_wp2_with fail
    go_ret
    exact ⟨rfl, (HOH.out.below (fun _ h => h.elim) (Nat.le_refl _)).trans (BA.out.mono HOH.out.size)⟩
  obtain ⟨_, hl1⟩ := hb1 rfl
  obtain ⟨hx20, _, hxz⟩ : xs.length ≤ 20 ∧ 0 ≤ 300 ∧ ∀ x ∈ xs, x.size ≤ 262144 := hl1 ⟨0, xs, A, c, 0, [], none, 0⟩ (by simp)
  have HXZ := Lib.hid hxz
  have hx20i : ¬ (20 : Int) < (xs.length : Int) := by omega
  clear hb1 hl1 hxz
  obtain ⟨kk, hkk⟩ : ∃ kk : Nat, (kk : Int) = x1 % ((xs.length : Int) + 1) := ⟨(x1 % ((xs.length : Int) + 1)).toNat, by have := Int.emod_nonneg x1 (show ((xs.length : Int) + 1) ≠ 0 by omega); omega⟩
  have hkkl : kk ≤ xs.length := by have := Int.emod_lt_of_pos x1 (show (0 : Int) < (xs.length : Int) + 1 by omega); omega
  have hwk : IntKind.i64.wrap ((xs.length : Int) + 1) = (xs.length : Int) + 1 := IntWalk.i64_in _ (by omega)
  have hrk : x1.tmod ((xs.length : Int) + 1) = (kk : Int) := by rw [hkk, Int.tmod_eq_emod_of_nonneg h0]
  have hwk2 : IntKind.i64.wrap (kk : Int) = (kk : Int) := IntWalk.i64_in _ (by omega)
  go_wp2_with fail
  obtain ⟨G, hG⟩ : ∃ G, G = strG (sectorsL (frsB xs) 12) := ⟨_, rfl⟩
  have HG := Lib.hid hG
  have HROW : Hid (∀ W, Below w.heap.size w W → TextRow W A xs) := Lib.hid (fun W hW => HRr.out.below hW)
  rw [← hkk]
  clear hG hkk hwk hrk hwk2
  go_loopw [6, 7] (fun sv i wr => ∃ k : Nat, k ≤ 3 ∧ i = .int .i64 (k : Int) ∧ wr.ownsRow w.heap.size 9 1 sv k (List.replicate k (.string G)) ∧ Below w.heap.size w wr) (fun _ i _ => 3 - (intOf i).toNat)
  case atStart => exact ⟨0, by omega, rfl, World.ownsRow_nil _ _ _ _, HOH.out.below (fun _ h => h.elim) (Nat.le_refl _)⟩
  case round =>
    obtain ⟨wo, rfl⟩ : ∃ wo, wo = wr := ⟨_, rfl⟩
    obtain ⟨k, hk, rfl, b1, b2⟩ := hrel
    have HB1 := Lib.hid b1
    have HB2 := Lib.hid b2
    clear b1 b2
    by_cases hlt : (k : Int) < 3
    · go_wp2_with fail
      refine (dk_new 12 wo (by omega) (by omega)).mono ?_
      rintro e wd ⟨rfl, d1, d2⟩
      obtain ⟨p, hp⟩ : ∃ p, p = wo.heap.size + 1 := ⟨_, rfl⟩
      obtain ⟨gs, hgs⟩ : ∃ gs, gs = wo.heap.size := ⟨_, rfl⟩
      obtain ⟨B, hB⟩ : ∃ B, B = wo.heap.size := ⟨_, rfl⟩
      have hzg : zeroG 12 = sectorsL (frsB []) 12 := by rw [show frsB [] = [] from rfl, sectorsL_nil]; rfl
      have d1' : DkS wd p gs 12 ⟨sectorsL (frsB []) 12, [], none⟩ B 0 := by rw [hp, hgs, hB, ← hzg]; exact d1
      have HD := Lib.hid d1'
      have HOD := Lib.hid (d2.mono (T := fun b => B ≤ b) fun _ h => h.elim)
      have HWB := Lib.hid (show w.heap.size ≤ B by rw [hB]; exact HB2.out.size)
      have HBB := Lib.hid hB
      rw [← hp]
      clear hp hgs hB d1 d1' d2 hzg
      go_wp2_with fail
      refine (open_made p gs 12 B 0 [] wd HD.out (by simp) (by simp [frsB]) (by omega) (by omega)).mono ?_
      rintro e we ⟨bb, vv, rfl, ⟨hbb, hBk⟩, _, d1, d2, d3⟩
      have HBk := Lib.hid hBk
      obtain ⟨mo, hmo, d1⟩ : ∃ mo, mo ≤ 100 ∧ DkS we p gs 12 ⟨sectorsL (frsB []) 12, [], none⟩ B mo := ⟨_, by omega, d1⟩
      have HDo := Lib.hid d1
      have HOo := Lib.hid (HOD.out.trans d3)
      have HBB2 := Lib.hid (show B ≤ bb by have := HD.out.size; omega)
      clear hBk d1 d2 d3
      have hk3 : k = 0 ∨ k = 1 ∨ k = 2 := by omega
      rcases hk3 with rfl | rfl | rfl
      · go_wp2_with fail
        have hok := appS_ok 12 (frsB []) ⟨sectorsL (frsB []) 12, [], none⟩ xs (made_PB _ _) (by simp [frsB])
        have HP0 := Lib.hid (made_PB 12 (frsB []))
        have HL0 : Hid ((frsB []).length ≤ 12 * 127) := Lib.hid (by simp [frsB])
        have ha := append_any p gs 12 0 12 bb ⟨sectorsL (frsB []) 12, [], none⟩ B mo (frsB []) false xs A c we HDo.out HBk.out HBB2.out (fun W _ hW => HROW.out W (HB2.out.trans ((HOo.out.trans hW).below (fun b hb => Nat.le_trans HWB.out hb) HB2.out.size))) (by omega) (by simp [frsB]) (by omega) (by omega) HSs.out
        obtain ⟨R, hR⟩ : ∃ R, R = appS 12 0 12 ⟨sectorsL (frsB []) 12, [], none⟩ (frsB []) false xs := ⟨_, rfl⟩
        rw [← hR] at ha hok
        refine ha.mono ?_
        rintro e yz ⟨rfl, k1, k2, k3, k4⟩
        clear ha hR k3
        obtain ⟨z, Sz, tz, bz⟩ := R
        simp only at k1 k2 hok ⊢
        obtain ⟨hP, hL, rfl, hzn, hzz⟩ : PB 12 tz Sz ∧ tz.length ≤ 12 * 127 ∧ bz = false ∧ 0 ≤ z ∧ (z = 0 → tz = frsB xs ∧ ∀ x ∈ xs, x.size ≤ 131072) := by
          rcases hok with ⟨hz, he⟩ | ⟨hz, h1, he, h2, h3⟩
          · injection he with e1 e2
            injection e2 with e2 e3
            subst e1 e2 e3
            exact ⟨HP0.out, HL0.out, rfl, by omega, fun h => by omega⟩
          · injection he with e1 e2
            subst e1 e2
            exact ⟨h2, h3, rfl, by omega, fun _ => ⟨rfl, h1⟩⟩
        obtain ⟨mz, hmz, k1⟩ : ∃ mz, mz ≤ 2000 ∧ DkS yz p gs 12 Sz B mz := ⟨_, by omega, k1⟩
        have HDz := Lib.hid k1
        have HBz := Lib.hid k2
        have HPz := Lib.hid hP
        have HLz := Lib.hid hL
        have HZ := Lib.hid hzz
        have HOz := Lib.hid (HOo.out.trans k4)
        clear k1 k2 k4 hok hP hL hzz HP0 HL0
        have hmz' := hmz
        by_cases hz : z = 0
        · obtain ⟨htz, hsz0⟩ := HZ.out hz
          have hlen := HLz.out
          subst hz
          have HT := Lib.hid htz
          have HSZ := Lib.hid hsz0
          clear htz hsz0 hlen
          go_wp2_with fail
          have hsy := bsync_any p gs 12 0 12 bb Sz B mz tz false yz HDz.out HBz.out HBB2.out (by omega)
          have hsyS : bsyS Sz false = (0, ⟨sectorsL tz 12, [], none⟩, false) := by
            unfold bsyS
            rw [if_neg (by simp), syS_ok HPz.out]
            rfl
          rw [hsyS] at hsy
          refine hsy.mono ?_
          rintro e ya ⟨rfl, d1, d2, d3, d4⟩
          have HDa := Lib.hid d1
          have HOa := Lib.hid (HOz.out.trans d4)
          clear d1 d2 d3 d4 hsy hsyS
          go_wp2_with fail
          refine (dk_crash p gs 12 _ B (mz + 1) [] none 0 0 ya HDa.out Reads.none_ (by omega) (fun h => absurd h (by simp))).mono ?_
          rintro e yb ⟨rfl, d1, d2, d3⟩
          have hcr : crS ⟨sectorsL tz 12, [], none⟩ [] = ⟨sectorsL tz 12, [], none⟩ := rfl
          rw [hcr, HT.out] at d1
          have HDb := Lib.hid d1
          have HOb := Lib.hid (HOa.out.trans d2)
          clear d1 d2 d3 hcr
          go_wp2_with fail
          refine (open_made p gs 12 B (mz + 1) xs yb HDb.out HSZ.out (by rw [← HT.out]; exact HLz.out) (by omega) (by omega)).mono ?_
          rintro e yc ⟨b2, v2, rfl, d0, d1, d2, d3, d4⟩
          obtain ⟨A2, c2, hv2, _⟩ := own_form d1
          subst hv2
          have HDc := Lib.hid d2
          have HOc := Lib.hid (HOb.out.trans d4)
          have HR2 := Lib.hid (row_texts d1)
          clear d0 d1 d2 d3 d4
          have hfc : xs.length ≤ 20 := hx20
          go_wp2_with fail
          have hlc : ∀ Y, Only (fun b => B ≤ b) wo Y → TextRow Y A xs := fun Y hY => HROW.out Y (HB2.out.trans (hY.below (fun b hb => Nat.le_trans HWB.out hb) HB2.out.size))
          have htx := texts_same xs xs A2 A c2 c yc HR2.out (hlc yc HOc.out) (by omega) (by omega)
          rw [decide_eq_true rfl] at htx
          refine htx.mono ?_
          rintro e yd ⟨rfl, o9⟩
          have HDd := Lib.hid (HDc.out.only o9)
          have HOd := Lib.hid (HOc.out.trans (o9.mono fun _ h => h.elim))
          clear o9 htx hlc
          go_wp2_with fail
          refine (dk_sure p gs 12 _ B _ yd HDd.out).mono ?_
          rintro e ye ⟨rfl, o9⟩
          have HDe := Lib.hid (HDd.out.only o9)
          have HOe := Lib.hid (HOd.out.trans (o9.mono fun _ h => h.elim))
          clear o9
          have HOR := Lib.hid (((HOe.out.owns HB1.out (fun q hq => by have := (HB1.out.lt q hq).2; have := HBB.out; omega))))
          have HQ := Lib.hid HB1.out.lt
          obtain ⟨As, cs, hsv, _⟩ := own_form HB1.out
          subst hsv
          go_wp2_with (at_builtin; refine wpList_append_any _ rfl (.tmp 109) (.tmp 112) 24 rfl w.heap.size 9 i0 (.string ⟨#[]⟩) 1 16 Try.underlying24 HI.out hz0 hz1 hz2 rfl (by decide) _ _ _ rfl (((Only.refl (fun _ => False) ye).alloc _).owns HOR.out (fun _ _ h => h)) _ _ _ _ _ rfl (reads_one _) ?c2 ?c3 ?c4 ?c5 ?_)
          case c2 => first | rfl | (intro u hu; simp at hu; subst hu; rfl)
          case c3 => unfold maxLen; omega
          case c4 => omega
          case c5 => have := HDe.out.size; have := HWB.out; simp; omega
          intro v' w' hown' hgrow hnew
          have Hb : Below w.heap.size w w' := by
            have b1 : Below w.heap.size w ye := HB2.out.trans (HOe.out.below (fun b hb => Nat.le_trans HWB.out hb) HB2.out.size)
            exact b1.trans ((((Below.refl w.heap.size ye).alloc (by have := HDe.out.size; have := HWB.out; omega) _).grown hgrow (by have := HDe.out.size; have := HWB.out; simp; omega) (fun q hq => (HQ.out q hq).1)))
          have Ho := Lib.hid hown'
          have HBb := Lib.hid Hb
          clear hown' hgrow hnew Hb
          go_wp2_with fail
          go_roundw
          case rel => exact ⟨0 + 1, by omega, by go_num, by have := Ho.out; (first | rw [HG.out] at this ⊢ | rw [HG.out]); simpa [List.replicate] using this, HBb.out⟩
          case measure => simp [intOf]
        · go_wp2_with fail
          refine (alive_any _).mono ?_
          rintro e wa ⟨rfl, ba⟩
          have BA := Lib.hid ba
          clear ba
          go_wp2_with fail
          go_ret
          exact ⟨rfl, (HB2.out.trans (HOz.out.below (fun b hb => Nat.le_trans HWB.out hb) HB2.out.size)).trans (BA.out.mono (HB2.out.trans (HOz.out.below (fun b hb => Nat.le_trans HWB.out hb) HB2.out.size)).size)⟩
      · go_wp2_with fail
        have hkki : (kk : Int) ≤ (xs.length : Int) := by omega
        have hkkc : (kk : Int) ≤ (c : Int) := by omega
        have hok1 := appS_ok 12 (frsB []) ⟨sectorsL (frsB []) 12, [], none⟩ (xs.take kk) (made_PB _ _) (by simp [frsB])
        obtain ⟨R1, hR1⟩ : ∃ R, R = appS 12 0 12 ⟨sectorsL (frsB []) 12, [], none⟩ (frsB []) false (xs.take kk) := ⟨_, rfl⟩
        have hP1 : PB 12 R1.2.2.1 R1.2.1 ∧ R1.2.2.1.length ≤ 12 * 127 ∧ R1.2.2.2 = false ∧ 0 ≤ R1.1 ∧ (R1.1 = 0 → R1.2.2.1 = frsB (xs.take kk) ∧ ∀ x ∈ xs.take kk, x.size ≤ 131072) := by
          rw [← hR1] at hok1
          rcases hok1 with ⟨hz, he⟩ | ⟨hz, h1, he, h2, h3⟩
          · rw [he]
            exact ⟨made_PB _ _, by simp [frsB], rfl, by omega, fun h => by omega⟩
          · rw [he]
            exact ⟨h2, h3, rfl, by omega, fun _ => ⟨rfl, h1⟩⟩
        obtain ⟨hp1, hp2, hp3, hp4, hp5⟩ := hP1
        have hok2 := appS_ok 12 R1.2.2.1 R1.2.1 (xs.drop kk) hp1 hp2
        obtain ⟨R2, hR2⟩ : ∃ R, R = appS 12 0 12 R1.2.1 R1.2.2.1 false (xs.drop kk) := ⟨_, rfl⟩
        have hP2 : PB 12 R2.2.2.1 R2.2.1 ∧ R2.2.2.1.length ≤ 12 * 127 ∧ R2.2.2.2 = false ∧ 0 ≤ R2.1 ∧ (R2.1 = 0 → R2.2.2.1 = R1.2.2.1 ++ frsB (xs.drop kk) ∧ ∀ x ∈ xs.drop kk, x.size ≤ 131072) := by
          rw [← hR2] at hok2
          rcases hok2 with ⟨hz, he⟩ | ⟨hz, h1, he, h2, h3⟩
          · rw [he]
            exact ⟨hp1, hp2, rfl, by omega, fun h => by omega⟩
          · rw [he]
            exact ⟨h2, h3, rfl, by omega, fun _ => ⟨rfl, h1⟩⟩
        have HP2 := Lib.hid hP2
        have HP5 := Lib.hid hp5
        have HP4 := Lib.hid hp4
        have HP3 := Lib.hid hp3
        obtain ⟨W2, hW2⟩ : ∃ W2, W2 = we.drew := ⟨_, rfl⟩
        have oW : Only (fun _ => False) we W2 := by rw [hW2]; exact (Only.refl _ we).drew
        have HOW := Lib.hid oW
        have hrw : ∀ W, Only (fun b => B ≤ b) W2 W → TextRow W A xs := fun W hW => HROW.out W (HB2.out.trans ((HOo.out.trans ((oW.mono fun _ h => h.elim).trans hW)).below (fun b hb => Nat.le_trans HWB.out hb) HB2.out.size))
        have HA1 : Hid (Calls Try.prog 7 #[.pointer (some ⟨bb, 0, none⟩), .slice A kk c] W2 fun e w' => e = .returned (.int .i64 R1.1) ∧ DkS w' p gs 12 R1.2.1 B (mo + 14) ∧ BookB w' bb p (0 : Nat) (12 : Nat) (sB R1.2.2.1) R1.2.2.2 ∧ FarX (fun b => b = bb) W2 w' ∧ Only (fun b => B ≤ b) W2 w') := Lib.hid (by
          have h := append_any p gs 12 0 12 bb ⟨sectorsL (frsB []) 12, [], none⟩ B mo (frsB []) false (xs.take kk) A c W2 (HDo.out.only oW) (oW.blk HBk.out (fun h => h)) HBB2.out (fun W _ hW => (hrw W hW).part kk) (by omega) (by simp [frsB]) (by omega) (by rw [List.length_take]; omega) (fun x hx => HSs.out x (List.mem_of_mem_take hx))
          rw [← hR1, List.length_take, Nat.min_eq_left hkkl] at h
          exact h)
        have HA2 : Hid (∀ y, Only (fun b => B ≤ b) W2 y → DkS y p gs 12 R1.2.1 B (mo + 14) → BookB y bb p (0 : Nat) (12 : Nat) (sB R1.2.2.1) R1.2.2.2 → Calls Try.prog 7 #[.pointer (some ⟨bb, 0, none⟩), .slice (if c = kk then A else A.map (·.add kk)) (xs.length - kk) (c - kk)] y fun e w' => e = .returned (.int .i64 R2.1) ∧ DkS w' p gs 12 R2.2.1 B (mo + 28) ∧ BookB w' bb p (0 : Nat) (12 : Nat) (sB R2.2.2.1) R2.2.2.2 ∧ FarX (fun b => b = bb) y w' ∧ Only (fun b => B ≤ b) y w') := Lib.hid (fun y hO hD hB => by
          rw [HP3.out] at hB
          have h := append_any p gs 12 0 12 bb R1.2.1 B (mo + 14) R1.2.2.1 false (xs.drop kk) (if c = kk then A else A.map (·.add kk)) (c - kk) y hD hB HBB2.out (fun W _ hW => (hrw W (hO.trans hW)).rest kk c hn) (by omega) hp2 (by omega) (by rw [List.length_drop]; omega) (fun x hx => HSs.out x (List.mem_of_mem_drop hx))
          rw [← hR2, List.length_drop] at h
          exact h)
        have HW2 := Lib.hid hW2
        clear hok1 hok2 hR1 hR2 hp1 hp2 hp3 hp4 hp5 hP2 hW2 oW hrw
        refine wp_region_st (by kernel_rfl) (fun dn y => Sti2 (fun b => B ≤ b) W2 true (dn 4) (dn 9) (fun y => DkS y p gs 12 R1.2.1 B (mo + 14) ∧ BookB y bb p (0 : Nat) (12 : Nat) (sB R1.2.2.1) R1.2.2.2) (fun y => DkS y p gs 12 R2.2.1 B (mo + 28) ∧ BookB y bb p (0 : Nat) (12 : Nat) (sB R2.2.2.1) R2.2.2.2) y) [Is (.pointer (some ⟨bb, 0, none⟩)), Is (.slice A xs.length c), Is (.int .i64 (kk : Int)), Is (.slice A kk c), Is (.int .i64 R1.1), Is (.pointer (some ⟨bb, 0, none⟩)), Is (.slice A xs.length c), Is (.int .i64 (kk : Int)), Is (.slice (if c = kk then A else A.map (·.add kk)) (xs.length - kk) (c - kk)), Is (.int .i64 R2.1), Is (.int .i64 (max R1.1 R2.1)), Is (.int .i64 (max R1.1 R2.1))] (by kernel_rfl)
          ⟨is_stab _ _, is_stab _ _, is_stab _ _, is_stab _ _, is_stab _ _, is_stab _ _, is_stab _ _, is_stab _ _, is_stab _ _, is_stab _ _, is_stab _ _, is_stab _ _, trivial⟩ (by rw [← HW2.out]; exact Sti2.start) ⟨?_, ?_, ?_, ?_, ?_, ?_, ?_, ?_, ?_, ?_, ?_, ?_, trivial⟩ ?_
        · intro dn u w1 hi he hS hp K hK
          refine ord_plain rfl ?_
          simp at hp hK ⊢
          go_simp
          exact hK _ _ (by simpa [ldW] using hS) rfl
        · intro dn u w1 hi he hS hp K hK
          refine ord_plain rfl ?_
          simp at hp hK ⊢
          go_simp
          exact hK _ _ (by simpa [ldW] using hS) rfl
        · intro dn u w1 hi he hS hp K hK
          refine ord_plain rfl ?_
          simp at hp hK ⊢
          go_simp
          exact hK _ _ (by simpa [ldW] using hS) rfl
        · intro dn u w1 hi he hS hp K hK
          refine ord_plain rfl ?_
          simp at hp hK ⊢
          simp only [hp] at hK
          go_simp
          exact hK _ _ (by simpa [ldW] using hS) rfl
        · intro dn u w1 hi he hS hp K hK
          refine ord_plain rfl ?_
          simp at hp hK ⊢
          simp only [hp] at hK
          go_simp
          obtain ⟨rfl, _⟩ := hS.was hi
          refine HA1.out.mono ?_
          rintro e wz ⟨rfl, k1, k2, k3, k4⟩
          exact hK _ _ (Sti2.put1 hS hi k4 ⟨k1, k2⟩) rfl
        · intro dn u w1 hi he hS hp K hK
          refine ord_plain rfl ?_
          simp at hp hK ⊢
          go_simp
          exact hK _ _ (by simpa [ldW] using hS) rfl
        · intro dn u w1 hi he hS hp K hK
          refine ord_plain rfl ?_
          simp at hp hK ⊢
          go_simp
          exact hK _ _ (by simpa [ldW] using hS) rfl
        · intro dn u w1 hi he hS hp K hK
          refine ord_plain rfl ?_
          simp at hp hK ⊢
          go_simp
          exact hK _ _ (by simpa [ldW] using hS) rfl
        · intro dn u w1 hi he hS hp K hK
          refine ord_plain rfl ?_
          simp at hp hK ⊢
          simp only [hp] at hK
          go_simp
          exact hK _ _ (by simpa [ldW] using hS) rfl
        · intro dn u w1 hi he hS hp K hK
          refine ord_plain rfl ?_
          simp at hp hK ⊢
          simp only [hp] at hK
          go_simp
          have h4 : dn 4 = true := by simp [edgesDone] at he; simp [he]
          have hq := hS.mid h4 hi
          have hO := hS.1
          refine (HA2.out w1 hO hq.1 hq.2).mono ?_
          rintro e wz ⟨rfl, k1, k2, k3, k4⟩
          exact hK _ _ (Sti2.put2 (by simp [ldW, h4]) rfl (hO.trans k4) ⟨k1, k2⟩) rfl
        · intro dn u w1 hi he hS hp K hK
          refine ord_plain rfl ?_
          simp at hp hK ⊢
          simp only [hp] at hK
          go_simp
          exact hK _ _ (by simpa [ldW] using hS) rfl
        · intro dn u w1 hi he hS hp K hK
          refine ord_plain rfl ?_
          simp at hp hK ⊢
          simp only [hp] at hK
          go_simp
          exact hK _ _ (by simpa [ldW] using hS) rfl
        · intro u w1 dn hld hS hp
          simp at hp ⊢
          have hQ := hS.got (hld 9 (by decide))
          have hO2 := hS.1
          have h11 := hp.2.2.2.2.2.2.2.2.2.2.2
          simp only [h11]
          clear hp h11 hS hld
          obtain ⟨yz, rfl⟩ : ∃ yz, yz = w1 := ⟨_, rfl⟩
          obtain ⟨k1, k2⟩ := hQ
          obtain ⟨z, hz⟩ : ∃ z, z = max R1.1 R2.1 := ⟨_, rfl⟩
          rw [← hz]
          obtain ⟨hP, hL, hbz, hn2, h2z⟩ := HP2.out
          rw [hbz] at k2
          obtain ⟨Sz, hSz⟩ : ∃ Sz, Sz = R2.2.1 := ⟨_, rfl⟩
          obtain ⟨tz, htz⟩ : ∃ tz, tz = R2.2.2.1 := ⟨_, rfl⟩
          rw [← hSz] at k1 hP
          rw [← htz] at k2 hP hL
          have hzz : z = 0 → tz = frsB xs ∧ ∀ x ∈ xs, x.size ≤ 131072 := fun h0 => by
            rw [h0] at hz
            obtain ⟨e1, e2⟩ := max_zero HP4.out hn2 hz.symm
            obtain ⟨f1, f2⟩ := HP5.out e1
            obtain ⟨g1, g2⟩ := h2z e2
            refine ⟨by rw [htz, g1, f1, ← frsB_append, List.take_append_drop], fun x hx => ?_⟩
            rw [← List.take_append_drop kk xs] at hx
            rcases List.mem_append.1 hx with h | h
            · exact f2 x h
            · exact g2 x h
          obtain ⟨mz, hmz, k1⟩ : ∃ mz, mz ≤ 2000 ∧ DkS yz p gs 12 Sz B mz := ⟨_, by omega, k1⟩
          have HDz := Lib.hid k1
          have HBz := Lib.hid k2
          have HPz := Lib.hid hP
          have HLz := Lib.hid hL
          have HZ := Lib.hid hzz
          have HOz := Lib.hid (HOo.out.trans ((HOW.out.mono fun _ h => h.elim).trans hO2))
          clear k1 k2 hP hL hzz hz hbz hn2 h2z hSz htz hO2 HA1 HA2 HP2 HP3 HP4 HP5
          have hmz' := hmz
          by_cases hz : z = 0
          · obtain ⟨htz, hsz0⟩ := HZ.out hz
            have hlen := HLz.out
            subst hz
            have HT := Lib.hid htz
            have HSZ := Lib.hid hsz0
            clear htz hsz0 hlen
            go_wp2_with fail
            have hsy := bsync_any p gs 12 0 12 bb Sz B mz tz false yz HDz.out HBz.out HBB2.out (by omega)
            have hsyS : bsyS Sz false = (0, ⟨sectorsL tz 12, [], none⟩, false) := by
              unfold bsyS
              rw [if_neg (by simp), syS_ok HPz.out]
              rfl
            rw [hsyS] at hsy
            refine hsy.mono ?_
            rintro e ya ⟨rfl, d1, d2, d3, d4⟩
            have HDa := Lib.hid d1
            have HOa := Lib.hid (HOz.out.trans d4)
            clear d1 d2 d3 d4 hsy hsyS
            go_wp2_with fail
            refine (dk_crash p gs 12 _ B (mz + 1) [] none 0 0 ya HDa.out Reads.none_ (by omega) (fun h => absurd h (by simp))).mono ?_
            rintro e yb ⟨rfl, d1, d2, d3⟩
            have hcr : crS ⟨sectorsL tz 12, [], none⟩ [] = ⟨sectorsL tz 12, [], none⟩ := rfl
            rw [hcr, HT.out] at d1
            have HDb := Lib.hid d1
            have HOb := Lib.hid (HOa.out.trans d2)
            clear d1 d2 d3 hcr
            go_wp2_with fail
            refine (open_made p gs 12 B (mz + 1) xs yb HDb.out HSZ.out (by rw [← HT.out]; exact HLz.out) (by omega) (by omega)).mono ?_
            rintro e yc ⟨b2, v2, rfl, d0, d1, d2, d3, d4⟩
            obtain ⟨A2, c2, hv2, _⟩ := own_form d1
            subst hv2
            have HDc := Lib.hid d2
            have HOc := Lib.hid (HOb.out.trans d4)
            have HR2 := Lib.hid (row_texts d1)
            clear d0 d1 d2 d3 d4
            have hfc : xs.length ≤ 20 := hx20
            go_wp2_with fail
            have hlc : ∀ Y, Only (fun b => B ≤ b) wo Y → TextRow Y A xs := fun Y hY => HROW.out Y (HB2.out.trans (hY.below (fun b hb => Nat.le_trans HWB.out hb) HB2.out.size))
            have htx := texts_same xs xs A2 A c2 c yc HR2.out (hlc yc HOc.out) (by omega) (by omega)
            rw [decide_eq_true rfl] at htx
            refine htx.mono ?_
            rintro e yd ⟨rfl, o9⟩
            have HDd := Lib.hid (HDc.out.only o9)
            have HOd := Lib.hid (HOc.out.trans (o9.mono fun _ h => h.elim))
            clear o9 htx hlc
            go_wp2_with fail
            refine (dk_sure p gs 12 _ B _ yd HDd.out).mono ?_
            rintro e ye ⟨rfl, o9⟩
            have HDe := Lib.hid (HDd.out.only o9)
            have HOe := Lib.hid (HOd.out.trans (o9.mono fun _ h => h.elim))
            clear o9
            have HOR := Lib.hid (((HOe.out.owns HB1.out (fun q hq => by have := (HB1.out.lt q hq).2; have := HBB.out; omega))))
            have HQ := Lib.hid HB1.out.lt
            obtain ⟨As, cs, hsv, _⟩ := own_form HB1.out
            subst hsv
            go_wp2_with (at_builtin; refine wpList_append_any _ rfl (.tmp 109) (.tmp 112) 24 rfl w.heap.size 9 i0 (.string ⟨#[]⟩) 1 16 Try.underlying24 HI.out hz0 hz1 hz2 rfl (by decide) _ _ _ rfl (((Only.refl (fun _ => False) ye).alloc _).owns HOR.out (fun _ _ h => h)) _ _ _ _ _ rfl (reads_one _) ?c2 ?c3 ?c4 ?c5 ?_)
            case c2 => first | rfl | (intro u hu; simp at hu; subst hu; rfl)
            case c3 => unfold maxLen; omega
            case c4 => omega
            case c5 => have := HDe.out.size; have := HWB.out; simp; omega
            intro v' w' hown' hgrow hnew
            have Hb : Below w.heap.size w w' := by
              have b1 : Below w.heap.size w ye := HB2.out.trans (HOe.out.below (fun b hb => Nat.le_trans HWB.out hb) HB2.out.size)
              exact b1.trans ((((Below.refl w.heap.size ye).alloc (by have := HDe.out.size; have := HWB.out; omega) _).grown hgrow (by have := HDe.out.size; have := HWB.out; simp; omega) (fun q hq => (HQ.out q hq).1)))
            have Ho := Lib.hid hown'
            have HBb := Lib.hid Hb
            clear hown' hgrow hnew Hb
            go_wp2_with fail
            go_roundw
            case rel => exact ⟨1 + 1, by omega, by go_num, by have := Ho.out; (first | rw [HG.out] at this ⊢ | rw [HG.out]); simpa [List.replicate] using this, HBb.out⟩
            case measure => simp [intOf]
          · go_wp2_with fail
            refine (alive_any _).mono ?_
            rintro e wa ⟨rfl, ba⟩
            have BA := Lib.hid ba
            clear ba
            go_wp2_with fail
            go_ret
            exact ⟨rfl, (HB2.out.trans (HOz.out.below (fun b hb => Nat.le_trans HWB.out hb) HB2.out.size)).trans (BA.out.mono (HB2.out.trans (HOz.out.below (fun b hb => Nat.le_trans HWB.out hb) HB2.out.size)).size)⟩
      · go_wp2_with fail
        go_loopw [13, 14] (fun fv i yr => ∃ (j : Nat) (z : Int) (Sz : Dst) (tz : List UInt8) (mz : Nat), j ≤ xs.length ∧ i = .int .i64 (j : Int) ∧ fv = .int .i64 z ∧ 0 ≤ z ∧ mz ≤ 100 + 20 * j ∧ DkS yr p gs 12 Sz B mz ∧ BookB yr bb p (0 : Nat) (12 : Nat) (sB tz) false ∧ PB 12 tz Sz ∧ tz.length ≤ 12 * 127 ∧ (z = 0 → tz = frsB (xs.take j) ∧ ∀ x ∈ xs.take j, x.size ≤ 131072) ∧ Only (fun b => B ≤ b) wo yr) (fun _ i _ => xs.length - (intOf i).toNat)
        case atStart => exact ⟨0, 0, _, _, mo, by omega, rfl, rfl, by omega, by omega, HDo.out, HBk.out, made_PB _ _, by simp [frsB], fun _ => ⟨rfl, by simp⟩, HOo.out⟩
        case round =>
          obtain ⟨yz, rfl⟩ : ∃ yz, yz = wr := ⟨_, rfl⟩
          obtain ⟨j, z, Sz, tz, mz, hj, rfl, rfl, hzn, hmz, k1, k2, hP, hL, hzz, hO⟩ := hrel
          have HDz := Lib.hid k1
          have HBz := Lib.hid k2
          have HPz := Lib.hid hP
          have HLz := Lib.hid hL
          have HOz := Lib.hid hO
          by_cases hjl : j < xs.length
          · have HZ := Lib.hid hzz
            obtain ⟨g, off, hA, hg, hck⟩ := (HROW.out yz (HB2.out.trans (HOz.out.below (fun b hb => Nat.le_trans HWB.out hb) HB2.out.size))).at_ j hjl
            have hsn : xs.take (j + 1) = xs.take j ++ [xs[j]] := by rw [List.take_add_one, List.getElem?_eq_getElem hjl]; rfl
            have hxs := HSs.out _ (List.getElem_mem hjl)
            generalize xs[j] = x at *
            have hok := appS_ok 12 tz Sz [x] hP hL
            obtain ⟨R, hR⟩ : ∃ R, R = appS 12 0 12 Sz tz false [x] := ⟨_, rfl⟩
            rw [← hR] at hok
            have hlj : (0 : Int) ≤ (j : Int) := by omega
            have hjli : (j : Int) < (xs.length : Int) := by omega
            obtain ⟨yv, hyv⟩ : ∃ yv, yv = yz.alloc (.cells #[.string x] 9) := ⟨_, rfl⟩
            have bv : Blk yv yz.heap.size 9 #[.string x] := by rw [hyv]; exact Blk.new yz _ _
            have ov : Only (fun _ => False) yz yv := by rw [hyv]; exact (Only.refl _ yz).alloc _
            have hnb : ¬ yz.heap.size = bb := fun e => by have := k2.lt; omega
            have ha := append_any p gs 12 0 12 bb Sz B mz tz false [x] (some ⟨yz.heap.size, 0, none⟩) 1 yv (k1.only ov) (ov.blk k2 (fun h => h)) HBB2.out (fun W hF _ => ⟨fun i hi => by
              obtain rfl : i = 0 := by simpa using hi
              have b' := hF.blk _ _ _ bv nDT_string hnb
              exact ⟨yz.heap.size, 0, rfl, b'.lt, b'.cell 0⟩⟩) (by omega) hL (by omega) (by simp) (by simpa using hxs)
            rw [← hR] at ha
            have HA := Lib.hid ha
            have HOV := Lib.hid ov
            have HYV := Lib.hid hyv.symm
            have HSN := Lib.hid hsn
            have HOK := Lib.hid hok
            obtain ⟨b0, hA0⟩ : ∃ b0, b0 = A := ⟨_, rfl⟩
            subst hA
            clear k1 k2 hP hL hzz hO ha ov hyv hsn hok hR bv hA0
            go_wp2_with fail
            rw [HYV.out]
            refine HA.out.mono ?_
            rintro e yw ⟨rfl, k1, k2, k3, k4⟩
            have K1 := Lib.hid k1
            have K2 := Lib.hid k2
            have K4 := Lib.hid (HOz.out.trans ((HOV.out.mono fun _ h => h.elim).trans k4))
            clear k1 k2 k3 k4
            go_wp2_with fail
            go_roundw
            case rel =>
              have hok := HOK.out
              have h1 := K1.out
              have h2 := K2.out
              obtain ⟨hP, hL, hb, h0, hzz⟩ : PB 12 R.2.2.1 R.2.1 ∧ R.2.2.1.length ≤ 12 * 127 ∧ R.2.2.2 = false ∧ 0 ≤ R.1 ∧ (R.1 = 0 → R.2.2.1 = tz ++ frsB [x] ∧ x.size ≤ 131072) := by
                rcases hok with ⟨hz, he⟩ | ⟨hz, h1, he, h2, h3⟩
                · rw [he]
                  exact ⟨HPz.out, HLz.out, rfl, by omega, fun h => by omega⟩
                · rw [he]
                  exact ⟨h2, h3, rfl, by omega, fun _ => ⟨rfl, h1 x (by simp)⟩⟩
              rw [hb] at h2
              refine ⟨j + 1, max z R.1, R.2.1, R.2.2.1, mz + 12 + 2, by omega, by go_num, rfl, by omega, by omega, h1, h2, hP, hL, fun hm => ?_, K4.out⟩
              obtain ⟨e1, e2⟩ := max_zero hzn h0 hm
              obtain ⟨f1, f2⟩ := HZ.out e1
              obtain ⟨g1, g2⟩ := hzz e2
              rw [HSN.out, frsB_append, g1, f1]
              refine ⟨rfl, fun y hy => ?_⟩
              rcases List.mem_append.1 hy with h | h
              · exact f2 y h
              · rw [List.mem_singleton.1 h]; exact g2
            case measure => simp [intOf]; omega
          · obtain rfl : j = xs.length := by omega
            rw [List.take_length] at hzz
            have HZ := Lib.hid hzz
            clear k1 k2 hP hL hzz hO
            obtain ⟨mz, hmz, k1⟩ : ∃ mz, mz ≤ 2000 ∧ DkS yz p gs 12 Sz B mz := ⟨_, by omega, HDz.out⟩
            have HDz := Lib.hid k1
            clear k1
            have hmz' := hmz
            by_cases hz : z = 0
            · obtain ⟨htz, hsz0⟩ := HZ.out hz
              have hlen := HLz.out
              subst hz
              have HT := Lib.hid htz
              have HSZ := Lib.hid hsz0
              clear htz hsz0 hlen
              go_wp2_with fail
              have hsy := bsync_any p gs 12 0 12 bb Sz B mz tz false yz HDz.out HBz.out HBB2.out (by omega)
              have hsyS : bsyS Sz false = (0, ⟨sectorsL tz 12, [], none⟩, false) := by
                unfold bsyS
                rw [if_neg (by simp), syS_ok HPz.out]
                rfl
              rw [hsyS] at hsy
              refine hsy.mono ?_
              rintro e ya ⟨rfl, d1, d2, d3, d4⟩
              have HDa := Lib.hid d1
              have HOa := Lib.hid (HOz.out.trans d4)
              clear d1 d2 d3 d4 hsy hsyS
              go_wp2_with fail
              refine (dk_crash p gs 12 _ B (mz + 1) [] none 0 0 ya HDa.out Reads.none_ (by omega) (fun h => absurd h (by simp))).mono ?_
              rintro e yb ⟨rfl, d1, d2, d3⟩
              have hcr : crS ⟨sectorsL tz 12, [], none⟩ [] = ⟨sectorsL tz 12, [], none⟩ := rfl
              rw [hcr, HT.out] at d1
              have HDb := Lib.hid d1
              have HOb := Lib.hid (HOa.out.trans d2)
              clear d1 d2 d3 hcr
              go_wp2_with fail
              refine (open_made p gs 12 B (mz + 1) xs yb HDb.out HSZ.out (by rw [← HT.out]; exact HLz.out) (by omega) (by omega)).mono ?_
              rintro e yc ⟨b2, v2, rfl, d0, d1, d2, d3, d4⟩
              obtain ⟨A2, c2, hv2, _⟩ := own_form d1
              subst hv2
              have HDc := Lib.hid d2
              have HOc := Lib.hid (HOb.out.trans d4)
              have HR2 := Lib.hid (row_texts d1)
              clear d0 d1 d2 d3 d4
              have hfc : xs.length ≤ 20 := hx20
              go_wp2_with fail
              have hlc : ∀ Y, Only (fun b => B ≤ b) wo Y → TextRow Y A xs := fun Y hY => HROW.out Y (HB2.out.trans (hY.below (fun b hb => Nat.le_trans HWB.out hb) HB2.out.size))
              have htx := texts_same xs xs A2 A c2 c yc HR2.out (hlc yc HOc.out) (by omega) (by omega)
              rw [decide_eq_true rfl] at htx
              refine htx.mono ?_
              rintro e yd ⟨rfl, o9⟩
              have HDd := Lib.hid (HDc.out.only o9)
              have HOd := Lib.hid (HOc.out.trans (o9.mono fun _ h => h.elim))
              clear o9 htx hlc
              go_wp2_with fail
              refine (dk_sure p gs 12 _ B _ yd HDd.out).mono ?_
              rintro e ye ⟨rfl, o9⟩
              have HDe := Lib.hid (HDd.out.only o9)
              have HOe := Lib.hid (HOd.out.trans (o9.mono fun _ h => h.elim))
              clear o9
              have HOR := Lib.hid (((HOe.out.owns HB1.out (fun q hq => by have := (HB1.out.lt q hq).2; have := HBB.out; omega))))
              have HQ := Lib.hid HB1.out.lt
              obtain ⟨As, cs, hsv, _⟩ := own_form HB1.out
              subst hsv
              go_wp2_with (at_builtin; refine wpList_append_any _ rfl (.tmp 109) (.tmp 112) 24 rfl w.heap.size 9 i0 (.string ⟨#[]⟩) 1 16 Try.underlying24 HI.out hz0 hz1 hz2 rfl (by decide) _ _ _ rfl (((Only.refl (fun _ => False) ye).alloc _).owns HOR.out (fun _ _ h => h)) _ _ _ _ _ rfl (reads_one _) ?c2 ?c3 ?c4 ?c5 ?_)
              case c2 => first | rfl | (intro u hu; simp at hu; subst hu; rfl)
              case c3 => unfold maxLen; omega
              case c4 => omega
              case c5 => have := HDe.out.size; have := HWB.out; simp; omega
              intro v' w' hown' hgrow hnew
              have Hb : Below w.heap.size w w' := by
                have b1 : Below w.heap.size w ye := HB2.out.trans (HOe.out.below (fun b hb => Nat.le_trans HWB.out hb) HB2.out.size)
                exact b1.trans ((((Below.refl w.heap.size ye).alloc (by have := HDe.out.size; have := HWB.out; omega) _).grown hgrow (by have := HDe.out.size; have := HWB.out; simp; omega) (fun q hq => (HQ.out q hq).1)))
              have Ho := Lib.hid hown'
              have HBb := Lib.hid Hb
              clear hown' hgrow hnew Hb
              go_wp2_with fail
              go_roundw
              case rel => exact ⟨2 + 1, by omega, by go_num, by have := Ho.out; (first | rw [HG.out] at this ⊢ | rw [HG.out]); simpa [List.replicate] using this, HBb.out⟩
              case measure => simp [intOf]
            · go_wp2_with fail
              refine (alive_any _).mono ?_
              rintro e wa ⟨rfl, ba⟩
              have BA := Lib.hid ba
              clear ba
              go_wp2_with fail
              go_ret
              exact ⟨rfl, (HB2.out.trans (HOz.out.below (fun b hb => Nat.le_trans HWB.out hb) HB2.out.size)).trans (BA.out.mono (HB2.out.trans (HOz.out.below (fun b hb => Nat.le_trans HWB.out hb) HB2.out.size)).size)⟩
    · obtain rfl : k = 3 := by omega
      obtain ⟨g9, cap9, hsv, hg1, hg2, hgc⟩ := own_cells HB1.out (by omega)
      subst hsv
      have C0 := Lib.hid (hgc 0 (.string G) rfl)
      have C1 := Lib.hid (hgc 1 (.string G) rfl)
      have C2 := Lib.hid (hgc 2 (.string G) rfl)
      obtain ⟨W2, hW2⟩ : ∃ W2, W2 = wo.drew := ⟨_, rfl⟩
      have C0' : Hid (W2.cell? ⟨g9, 0, none⟩ = some (.string G)) := Lib.hid (by rw [hW2]; exact C0.out)
      have C1' : Hid (W2.cell? ⟨g9, 1, none⟩ = some (.string G)) := Lib.hid (by rw [hW2]; exact C1.out)
      have C2' : Hid (W2.cell? ⟨g9, 2, none⟩ = some (.string G)) := Lib.hid (by rw [hW2]; exact C2.out)
      have hg3 : Hid (g9 < W2.heap.size) := Lib.hid (by rw [hW2]; exact hg2)
      have HW2 := Lib.hid hW2
      clear hgc hW2 C0 C1 C2
      go_wp2_with fail
      refine wp_region_st (by kernel_rfl) (fun ld y => Only (fun _ => False) W2 y) [Is (.slice (some ⟨g9, 0, none⟩) 3 cap9), Is (.pointer (some ⟨g9, 0, none⟩)), Is (.string G), Is (.slice (some ⟨g9, 0, none⟩) 3 cap9), Is (.pointer (some ⟨g9, 1, none⟩)), Is (.string G), Is (.bool true), Is (.bool true), Is (.slice (some ⟨g9, 0, none⟩) 3 cap9), Is (.pointer (some ⟨g9, 1, none⟩)), Is (.string G), Is (.slice (some ⟨g9, 0, none⟩) 3 cap9), Is (.pointer (some ⟨g9, 2, none⟩)), Is (.string G), Is (.bool true), Is (.bool true), Is (.bool true), Is (.bool true), Is (.bool true), Is (.bool true)] (by kernel_rfl)
        ⟨is_stab _ _, is_stab _ _, is_stab _ _, is_stab _ _, is_stab _ _, is_stab _ _, is_stab _ _, is_stab _ _, is_stab _ _, is_stab _ _, is_stab _ _, is_stab _ _, is_stab _ _, is_stab _ _, is_stab _ _, is_stab _ _, is_stab _ _, is_stab _ _, is_stab _ _, is_stab _ _, trivial⟩ (by rw [HW2.out]; exact Only.refl _ _) ⟨?_, ?_, ?_, ?_, ?_, ?_, ?_, ?_, ?_, ?_, ?_, ?_, ?_, ?_, ?_, ?_, ?_, ?_, ?_, ?_, trivial⟩ ?_
      · intro ld u w1 hi he hS hp K hK
        refine ord_plain rfl ?_
        simp at hp hK ⊢
        go_simp
        exact hK _ _ hS rfl
      · intro ld u w1 hi he hS hp K hK
        refine ord_plain rfl ?_
        simp at hp hK ⊢
        simp only [hp] at hK
        go_simp
        exact hK _ _ hS rfl
      · intro ld u w1 hi he hS hp K hK
        refine ord_plain rfl ?_
        simp at hp hK ⊢
        simp only [hp] at hK
        have hc := (hS.cell (p := ⟨g9, 0, none⟩) hg3.out (fun h => h)).trans C0'.out
        go_simp
        exact hK _ _ hS rfl
      · intro ld u w1 hi he hS hp K hK
        refine ord_plain rfl ?_
        simp at hp hK ⊢
        go_simp
        exact hK _ _ hS rfl
      · intro ld u w1 hi he hS hp K hK
        refine ord_plain rfl ?_
        simp at hp hK ⊢
        simp only [hp] at hK
        go_simp
        exact hK _ _ hS rfl
      · intro ld u w1 hi he hS hp K hK
        refine ord_plain rfl ?_
        simp at hp hK ⊢
        simp only [hp] at hK
        have hc := (hS.cell (p := ⟨g9, 1, none⟩) hg3.out (fun h => h)).trans C1'.out
        go_simp
        exact hK _ _ hS rfl
      · intro ld u w1 hi he hS hp K hK
        refine ord_plain rfl ?_
        simp at hp hK ⊢
        obtain ⟨hp1, hp2⟩ := hp
        simp only [hp1, hp2] at hK
        go_simp
        exact hK _ _ hS rfl
      · intro ld u w1 hi he hS hp K hK
        refine ord_plain rfl ?_
        simp at hp hK ⊢
        simp only [hp] at hK
        go_simp
        exact hK _ _ hS rfl
      · intro ld u w1 hi he hS hp K hK
        simp at hp hK
        refine ord_guard rfl (by simp [yielded, hp]) ?_
        simp only [hp] at hK
        go_simp
        exact hK _ _ hS rfl
      · intro ld u w1 hi he hS hp K hK
        simp at hp hK
        refine ord_guard rfl (by simp [yielded, hp]) ?_
        obtain ⟨hp1, hp2⟩ := hp
        simp only [hp1, hp2] at hK
        go_simp
        exact hK _ _ hS rfl
      · intro ld u w1 hi he hS hp K hK
        simp at hp hK
        refine ord_guard rfl (by simp [yielded, hp]) ?_
        obtain ⟨hp1, hp2⟩ := hp
        simp only [hp1, hp2] at hK
        have hc := (hS.cell (p := ⟨g9, 1, none⟩) hg3.out (fun h => h)).trans C1'.out
        go_simp
        exact hK _ _ hS rfl
      · intro ld u w1 hi he hS hp K hK
        simp at hp hK
        refine ord_guard rfl (by simp [yielded, hp]) ?_
        simp only [hp] at hK
        go_simp
        exact hK _ _ hS rfl
      · intro ld u w1 hi he hS hp K hK
        simp at hp hK
        refine ord_guard rfl (by simp [yielded, hp]) ?_
        obtain ⟨hp1, hp2⟩ := hp
        simp only [hp1, hp2] at hK
        go_simp
        exact hK _ _ hS rfl
      · intro ld u w1 hi he hS hp K hK
        simp at hp hK
        refine ord_guard rfl (by simp [yielded, hp]) ?_
        obtain ⟨hp1, hp2⟩ := hp
        simp only [hp1, hp2] at hK
        have hc := (hS.cell (p := ⟨g9, 2, none⟩) hg3.out (fun h => h)).trans C2'.out
        go_simp
        exact hK _ _ hS rfl
      · intro ld u w1 hi he hS hp K hK
        simp at hp hK
        refine ord_guard rfl (by simp [yielded, hp]) ?_
        obtain ⟨hp1, hp2, hp3⟩ := hp
        simp only [hp1, hp2, hp3] at hK
        go_simp
        exact hK _ _ hS rfl
      · intro ld u w1 hi he hS hp K hK
        refine ord_plain rfl ?_
        simp at hp hK ⊢
        obtain ⟨hp1, hp2⟩ := hp
        simp only [hp1, hp2] at hK
        go_simp
        exact hK _ _ hS rfl
      · intro ld u w1 hi he hS hp K hK
        refine ord_plain rfl ?_
        simp at hp hK ⊢
        obtain ⟨hp1, hp2⟩ := hp
        simp only [hp1, hp2] at hK
        go_simp
        exact hK _ _ hS rfl
      · intro ld u w1 hi he hS hp K hK
        simp at hp hK
        refine ord_guard rfl (by simp [yielded, hp]) ?_
        simp only [hp] at hK
        go_simp
        refine (alive_any w1).mono ?_
        rintro e w9 ⟨rfl, hb2⟩
        exact hK _ _ (hS.trans (Only.below_ hb2)) rfl
      · intro ld u w1 hi he hS hp K hK
        refine ord_plain rfl ?_
        simp at hp hK ⊢
        obtain ⟨hp1, hp2⟩ := hp
        simp only [hp1, hp2] at hK
        go_simp
        exact hK _ _ hS rfl
      · intro ld u w1 hi he hS hp K hK
        refine ord_plain rfl ?_
        simp at hp hK ⊢
        obtain ⟨hp1, hp2, hp3, hp4, hp5, hp6, hp7, hp8, hp9, hp10, hp11, hp12, hp13, hp14, hp15, hp16, hp17, hp18, hp19, hp20, hp21⟩ := hp
        simp only [hp1, hp2, hp3, hp4, hp5, hp6, hp7, hp8, hp9, hp10, hp11, hp12, hp13, hp14, hp15, hp16, hp17, hp18, hp19] at hK
        go_simp
        exact hK _ _ hS rfl
      · intro u w1 ld hld hS hp
        simp at hp ⊢
        have h19 := hp.2.2.2.2.2.2.2.2.2.2.2.2.2.2.2.2.2.2.2
        simp only [h19]
        go_wp2_with fail
        go_ret
        exact ⟨rfl, HB2.out.trans ((((Only.refl (fun _ => False) wo).drew).trans (HW2.out ▸ hS)).below (fun _ h => h.elim) HB2.out.size)⟩
end Go.Proofs.Ytmneflpjoaocbaa
