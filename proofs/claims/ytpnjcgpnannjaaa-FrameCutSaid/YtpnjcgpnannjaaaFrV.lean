/- The iterator of frame.Scan. -/
import Derived.Test.YtpnjcgpnannjaaaFrT
import Derived.RangeFuncNested
import Derived.RangeFuncBound
import Derived.RangeFuncCalls
import Derived.RangeFuncLeaves
import Derived.OwnWalkIn
import Derived.TacticsInMore
import Derived.LoopNIn
import Derived.LoopIn
import Derived.Deep.RegionHeld3
import Derived.Deep.DeepCutAuto
namespace Go.Proofs.Ytpnjcgpnannjaaa
open Go.RowKit
set_option linter.unusedVariables false

/-- how memory stands between two rounds -/
structure FJ (w : World) (s : ByteArray) (most : Int) (rec : Loop) (pre : List (Nat × ByteArray)) (p ev : Nat) (W : World) : Prop where
  below : Below w.heap.size w W
  l : ∃ v, Blk W w.heap.size 36 #[v] ∧ W.ownsRow (w.heap.size + 8) 31 2 v pre.length (fcells pre)
  g : Blk W (w.heap.size + 1) 3 #[.int .i64 p]
  e : Blk W (w.heap.size + 2) 24 #[.int .i64 ev]
  bs : Blk W (w.heap.size + 3) 9 #[.string s]
  bm : Blk W (w.heap.size + 4) 3 #[.int .i64 most]
  be : Blk W (w.heap.size + 5) 68 #[.pointer (some ⟨w.heap.size + 2, 0, none⟩)]
  d : W.heap[w.heap.size + 6]? = some (.deferred (some []))
  r : W.heap[w.heap.size + 7]? = some (.loop rec)
theorem FJ.grows {w : World} {s : ByteArray} {most : Int} {rec : Loop} {pre : List (Nat × ByteArray)} {p ev : Nat} {W W' : World} (h : FJ w s most rec pre p ev W) (hb : Grows W W') : FJ w s most rec pre p ev W' := by
  obtain ⟨v, hv, ho⟩ := h.l
  exact ⟨h.below.trans (Below.mono hb h.below.size), ⟨v, hb.blk hv, owns_below ho hb⟩, hb.blk h.g, hb.blk h.e, hb.blk h.bs, hb.blk h.bm, hb.blk h.be,
    (Below.block hb _ (Array.getElem?_eq_some_iff.1 h.d).1).trans h.d, (Below.block hb _ (Array.getElem?_eq_some_iff.1 h.r).1).trans h.r⟩
theorem FJ.setE {w : World} {s : ByteArray} {most : Int} {rec : Loop} {pre : List (Nat × ByteArray)} {p ev : Nat} {W : World} (h : FJ w s most rec pre p ev W) (ev' : Nat) :
    FJ w s most rec pre p ev' (W.setCell ⟨w.heap.size + 2, 0, none⟩ (.int .i64 ev')) := by
  obtain ⟨v, hv, ho⟩ := h.l
  have hO : Only (fun k => k = w.heap.size + 2) W (W.setCell ⟨w.heap.size + 2, 0, none⟩ (.int .i64 ev')) := (Only.refl (fun k => k = w.heap.size + 2) W).setCell (p := ⟨w.heap.size + 2, 0, none⟩) (.inl rfl) _
  refine ⟨h.below.setCell (by simp) _, ⟨v, hO.blk hv (by omega), hO.owns ho ?_⟩, hO.blk h.g (by omega), h.e.set_ 0 _, hO.blk h.bs (by omega), hO.blk h.bm (by omega), hO.blk h.be (by omega),
    (hO.block _ (Array.getElem?_eq_some_iff.1 h.d).1 (by omega)).trans h.d, (hO.block _ (Array.getElem?_eq_some_iff.1 h.r).1 (by omega)).trans h.r⟩
  intro k hk he
  have := (ho.lt k hk).1
  omega

set_option maxHeartbeats 3000000 in
set_option maxRecDepth 100000 in
theorem frames1_any (w : World) (s : ByteArray) (most : Int) (rec : Loop) (hs : s.size ≤ 17179869184) (hm1 : -9223372036854775808 ≤ most) (hm2 : most ≤ 9223372036854775807) (nn : Nat)
    (hY : ∀ (pre : List (Nat × ByteArray)) (p p' : Nat) (W1 : World) (tag : Nat) (text : ByteArray), FJ w s most rec pre p 0 W1 → pre.length ≤ s.size → p' ≤ s.size → YieldAt Fence.wide (nn - 1) Try.prog (w.heap.size + 7) #[.int .i64 p', .agg #[.int .u8 tag, .string text]] W1 fun e W' => e = .returned (.bool true) ∧ FJ w s most rec (pre ++ [(tag, text)]) p' 0 W')
    (W : World) (h0 : FJ w s most rec [] 0 0 W) :
    CallsIn Fence.wide nn Try.prog 43 #[.func (.yield (w.heap.size + 7)) #[] #[], .pointer (some ⟨w.heap.size + 3, 0, none⟩), .pointer (some ⟨w.heap.size + 4, 0, none⟩), .pointer (some ⟨w.heap.size + 5, 0, none⟩)] W
      fun e W' => (∃ v, e = .returned v) ∧ FJ w s most rec (scanFrom s most 0).1 (scanFrom s most 0).2.1 (scanFrom s most 0).2.2 W' := by
  refine callsIn_of_wp Try.func43 rfl trivial ?_ rfl
  simp only [Try.ntmps43, List.size_toArray, List.length_cons, List.length_nil, Nat.reduceAdd, Nat.reduceSub, Array.replicate_succ, Array.replicate_zero, List.push_toArray, List.append_toArray, List.nil_append, List.cons_append]
  refine wpIn_wide.2 ?_
  have H0 := Lib.hid h0
  clear h0
  go_wp2_with fail
  go_loopw [5] (fun i wr => ∃ (p : Nat) (pre : List (Nat × ByteArray)), p ≤ s.size ∧ pre.length ≤ p ∧ i = .int .i64 p ∧ scanFrom s most 0 = (pre ++ (scanFrom s most p).1, (scanFrom s most p).2) ∧ FJ w s most rec pre p 0 wr) (fun i _ => s.size - (intOf i).toNat)
  case atStart => exact ⟨0, [], by omega, by simp, rfl, by simp, H0.out⟩
  case round =>
    obtain ⟨p, pre, hp, hpl, rfl, he, hJ⟩ := hrel
    have HE := Lib.hid he
    have HJ := Lib.hid hJ
    have hcs : wr.cell? ⟨w.heap.size + 3, 0, none⟩ = some (.string s) := by rw [hJ.bs.cell]; rfl
    have hcm : wr.cell? ⟨w.heap.size + 4, 0, none⟩ = some (.int .i64 most) := by rw [hJ.bm.cell]; rfl
    clear he hJ
    by_cases hlt : p < s.size
    · have hsz : (s.extract p s.size).size = s.size - p := by rw [ByteArray.size_extract]; omega
      have hN : ∀ W, Hid (Calls Try.prog 12 #[.string (s.extract p s.size), .int .i64 most] W (FRead (s.extract p s.size) most W)) := fun W => Lib.hid (fread_any (s.extract p s.size) most W (by omega) hm1 hm2)
      have hok := @fread_ok (s.extract p s.size) most
      rw [hsz] at hok
      have hst := @scan_stop s most p hlt
      have hnx := @scan_next s most p hlt
      unfold FRead at hN
      clear hsz
      generalize fread (s.extract p s.size) most = r at *
      obtain ⟨tag, text, n, er⟩ := r
      simp only at hok hst hnx hN
      have hb2 : (p : Int) ≤ (s.size : Int) := by omega
      have hb3 : (0 : Int) ≤ (p : Int) := by omega
      go_upto_region 2 with fail
      go_cut [6, 7, 8, 13] (fun s6 s7 s8 s13 wx => s7 = .int .i64 n ∧ s8 = .int .i64 er ∧ ∃ g : Nat, s6 = .pointer (some ⟨g, 0, none⟩) ∧ wr.heap.size ≤ g ∧ Blk wx g 31 #[.int .u8 tag, .string text] ∧ Grows wr wx)
      case first =>
        obtain ⟨v0, hv0, ho0⟩ := HJ.out.l
        have hl3 := HJ.out.bs.lt
        have hl4 := HJ.out.bm.lt
        have HV := Lib.hid (Grows.drew wr)
        have HVA := Lib.hid (Grows.trans (Grows.alloc wr (.cells #[.int .u8 0, .string ⟨#[]⟩] 31)) (Grows.drew _))
        have HBA : Hid (Blk (wr.alloc (.cells #[.int .u8 0, .string ⟨#[]⟩] 31)).drew wr.heap.size 31 #[.int .u8 0, .string ⟨#[]⟩]) := Lib.hid (Blk.new wr _ _)
        clear hv0 ho0
        have n3 := World.new_ne wr ⟨w.heap.size + 3, 0, none⟩ hcs
        have n4 := World.new_ne wr ⟨w.heap.size + 4, 0, none⟩ hcm
        go_region_held3 (fun w' => w'.cell? ⟨w.heap.size + 3, 0, none⟩ = some (.string s) ∧ w'.cell? ⟨w.heap.size + 4, 0, none⟩ = some (.int .i64 most)) (go_keep) (first
          | (go_at_call 12; refine (hN wr.drew).out.mono ?_; rintro e w1 ⟨rfl, hb⟩; have HX := Lib.hid (Grows.trans HV.out hb); have c3 : w1.cell? ⟨w.heap.size + 3, 0, none⟩ = some (.string s) := ((HX.out.blk HJ.out.bs).cell 0); have c4 : w1.cell? ⟨w.heap.size + 4, 0, none⟩ = some (.int .i64 most) := ((HX.out.blk HJ.out.bm).cell 0); have HY : Hid (Blk (w1.alloc (.cells #[.int .u8 tag, .string text] 31)) w1.heap.size 31 #[.int .u8 tag, .string text] ∧ wr.heap.size ≤ w1.heap.size ∧ Grows wr (w1.alloc (.cells #[.int .u8 tag, .string text] 31))) := Lib.hid ⟨Blk.new _ _ _, Below.size HX.out, Grows.trans HX.out (Grows.alloc _ _)⟩; clear hb)
          | (go_at_call 12; refine (hN (wr.alloc (.cells #[.int .u8 0, .string ⟨#[]⟩] 31)).drew).out.mono ?_; rintro e w1 ⟨rfl, hb⟩; have HX := Lib.hid (Grows.trans HVA.out hb); have c3 : w1.cell? ⟨w.heap.size + 3, 0, none⟩ = some (.string s) := ((HX.out.blk HJ.out.bs).cell 0); have c4 : w1.cell? ⟨w.heap.size + 4, 0, none⟩ = some (.int .i64 most) := ((HX.out.blk HJ.out.bm).cell 0); have HZ := Lib.hid (Grows.blk hb HBA.out); have c5 : w1.cell? ⟨wr.heap.size, 0, none⟩ = some (.int .u8 0) := HZ.out.cell 0; have c6 : w1.cell? ⟨wr.heap.size, 1, none⟩ = some (.string ⟨#[]⟩) := HZ.out.cell 1; have f5 : w1.frozen? ⟨wr.heap.size, 0, none⟩ = false := HZ.out.frozen 0; have f6 : w1.frozen? ⟨wr.heap.size, 1, none⟩ = false := HZ.out.frozen 1; clear hb))
        · go_wp2_with fail
          go_meet
          case rel => exact ⟨rfl, rfl, w1.heap.size, rfl, HY.out.2.1, HY.out.1, HY.out.2.2⟩
        · go_wp2_with fail
          go_meet
          case rel => exact ⟨rfl, rfl, wr.heap.size, rfl, Nat.le_refl _, (HZ.out.set_ 0 _).set_ 1 _, (Below.setCell (Below.setCell HX.out (p := ⟨wr.heap.size, 0, none⟩) (Nat.le_refl _) _) (p := ⟨wr.heap.size, 1, none⟩) (Nat.le_refl _) _)⟩
      case rest =>
        obtain ⟨rfl, rfl, g, rfl, hge, hbg, hgr⟩ := hcut
        have HJ1 := Lib.hid (HJ.out.grows hgr)
        have HBG := Lib.hid hbg
        have e1 := HJ.out.e.lt
        have hne : g ≠ w.heap.size + 2 := by omega
        clear hbg hgr HJ hge e1
        have HJ2 := Lib.hid (HJ1.out.setE er)
        have HBG2 := Lib.hid (HBG.out.far (p := ⟨w.heap.size + 2, 0, none⟩) hne (.int .i64 er))
        have d1 : wc.cell? ⟨w.heap.size + 5, 0, none⟩ = some (.pointer (some ⟨w.heap.size + 2, 0, none⟩)) := HJ1.out.be.cell 0
        have d2 : wc.cell? ⟨w.heap.size + 2, 0, none⟩ = some (.int .i64 ((0 : Nat) : Int)) := HJ1.out.e.cell 0
        have d3 : wc.frozen? ⟨w.heap.size + 2, 0, none⟩ = false := HJ1.out.e.frozen 0
        by_cases h0 : er = 0
        · have hok' := hok h0
          have HNX := Lib.hid (hnx h0)
          clear hok hst hnx
          subst h0
          have hb1 : p + n ≤ s.size := by omega
          have hya := hY pre p (p + n) _ tag text HJ2.out (by omega) hb1
          simp only [Int.natCast_add, show ((0 : Nat) : Int) = 0 from rfl] at hya
          obtain ⟨fn, tmps, assign, body, hy, hR⟩ := hya
          have HRD := Lib.hid hR
          have d4 : (wc.setCell ⟨w.heap.size + 2, 0, none⟩ (.int .i64 0)).cell? ⟨g, 0, none⟩ = some (.int .u8 tag) := HBG2.out.cell 0
          have d5 : (wc.setCell ⟨w.heap.size + 2, 0, none⟩ (.int .i64 0)).cell? ⟨g, 1, none⟩ = some (.string text) := HBG2.out.cell 1
          clear hR
          go_upto_region 6 with fail
          refine (wpIn_wide (n := nn)).1 ?_
          gi_wp2
          refine ⟨fun h => (by cases h), ?_⟩
          refine HRD.out.mono ?_
          rintro e W' ⟨rfl, hJ'⟩
          have HJ' := Lib.hid hJ'
          clear hJ'
          gi_wp2
          go_wp2_with fail
          go_roundw
          case rel => exact ⟨p + n, pre ++ [(tag, text)], hb1, by simp; omega, by go_num, by rw [HE.out, HNX.out]; simp, by simpa using HJ'.out⟩
          case measure => simp [intOf]; omega
        · have HST := Lib.hid (hst h0)
          clear hok hst hnx
          have h0' : ((er : Int) == 0) = false := by simp; omega
          have h0'' : ((er : Int) != 0) = true := by simp; omega
          go_wp2_with fail
          refine bodyPost_ret (results_none rfl _ _ _) rfl ?_
          refine ⟨⟨_, rfl⟩, ?_⟩
          rw [HE.out, HST.out]
          simpa using HJ2.out
    · have HED := Lib.hid (@scan_end s most p (by omega))
      go_wp2
      go_end0
      refine ⟨⟨_, rfl⟩, ?_⟩
      rw [HE.out, HED.out]
      simpa using HJ.out
end Go.Proofs.Ytpnjcgpnannjaaa
