/- The walk of thresherref04.Scan. -/
import Derived.Test.YtpnjcgpnannjaaaFrD
import Derived.Test.YtpnjcgpnannjaaaFrS
namespace Go.Proofs.Ytpnjcgpnannjaaa
open Go.RowKit
set_option linter.unusedVariables false

theorem reads_pair {w : World} {t : TypeId} (u v : Value) : Reads (w.alloc (.cells #[u, v] t)) (w.heap.size + 1) 2 (some ⟨w.heap.size, 0, none⟩) 1 [u, v] :=
  ⟨by simp, fun _ => ⟨_, rfl, by simp, fun j x hx => by
    match j, hx with
    | 0, hx => simp at hx; subst hx; simp [Addr.add]
    | 1, hx => simp at hx; subst hx; simp [Addr.add]⟩⟩
theorem reads_pair_at {w : World} {t : TypeId} {n : Nat} (h : w.heap.size = n) (u v : Value) : Reads (w.alloc (.cells #[u, v] t)) (n + 1) 2 (some ⟨n, 0, none⟩) 1 [u, v] := by
  subst h
  exact reads_pair u v
theorem frame_info : (Try.prog.info? 31).map (fun i => (i.zero, i.size, i.bytes)) = some (some (.agg #[.int .u8 0, .string ⟨#[]⟩]), 2, 24) := by kernel_rfl

set_option maxHeartbeats 3000000 in
set_option maxRecDepth 100000 in
theorem vscan_any (s : ByteArray) (most : Int) (w : World) (hs : s.size ≤ 1099511627776) (hm1 : -9223372036854775808 ≤ most) (hm2 : most ≤ 9223372036854775807) (hs2 : s.size ≤ 17179869184) :
    Calls Try.prog 15 #[.string s, .int .i64 most] w (FScan s most w) := by
  obtain ⟨i0, hi, hz0, hz1, hz2⟩ := info_parts frame_info
  go_enter Try.func15, Try.ntmps15
  go_wp2
  go_loopw [7, 8] (fun l g wr => ∃ (p : Nat) (pre : List (Nat × ByteArray)), p ≤ s.size ∧ pre.length ≤ p ∧ g = .int .i64 p ∧ scanFrom s most 0 = (pre ++ (scanFrom s most p).1, (scanFrom s most p).2) ∧ wr.ownsRow w.heap.size 31 2 l pre.length (fcells pre) ∧ Below w.heap.size w wr) (fun _ g _ => s.size - (intOf g).toNat)
  case atStart => exact ⟨0, [], by omega, by simp, rfl, by simp, World.ownsRow_nil _ _ _ _, Below.refl _ _⟩
  case round =>
    obtain ⟨p, pre, hp, hpl, rfl, he, how, hbl⟩ := hrel
    have HE := Lib.hid he
    have HW := Lib.hid how
    have HB := Lib.hid hbl
    clear he how hbl
    by_cases hlt : p < s.size
    · have hsz : (s.extract p s.size).size = s.size - p := by rw [ByteArray.size_extract]; omega
      have hN := Lib.hid (vfread_any (s.extract p s.size) most wr (by omega) hm1 hm2)
      have hok := @fread_ok (s.extract p s.size) most
      rw [hsz] at hok
      have hst := @scan_stop s most p hlt
      have hnx := @scan_next s most p hlt
      unfold FRead at hN
      clear hsz
      generalize fread (s.extract p s.size) most = r at *
      obtain ⟨tag, text, n, er⟩ := r
      simp only at hok hst hnx
      have her : er ≤ 100 ∨ 100 < er := by omega
      by_cases h0 : er = 0
      · have hok' := hok h0
        have HNX := Lib.hid (hnx h0)
        clear hok hst hnx her
        subst h0
        have hb1 : p + n ≤ s.size := by omega
        have hb2 : (p : Int) ≤ (s.size : Int) := by omega
        go_wp2_with fail
        refine hN.out.mono ?_
        rintro e w1 ⟨rfl, hb⟩
        have HB1 := Lib.hid (HB.out.trans (hb.mono HB.out.size))
        have HW1 := Lib.hid (owns_below HW.out hb)
        clear hb hN
        go_wp2_with (at_builtin; refine wpList_append_any _ rfl (.tmp 30) (.tmp 32) 36 rfl w.heap.size 31 i0 (.agg #[.int .u8 0, .string ⟨#[]⟩]) 2 24 Try.underlying36 hi hz0 hz1 hz2 rfl (by decide) _ _ _ rfl ((HW1.out.alloc _).alloc _) _ _ _ _ _ rfl (reads_pair_at ?c6 _ _) ?c2 ?c3 ?c4 ?c5 ?_)
        case c6 => simp
        case c2 => intro u hu; simp at hu; rcases hu with rfl | rfl <;> rfl
        case c3 => unfold maxLen; omega
        case c4 => omega
        case c5 => simp; have := HB1.out.size; omega
        intro v' w2 hown' hgrow hnew
        have hlt2 := HW1.out.lt
        have Hb := Lib.hid (HB1.out.trans ((((Below.refl w.heap.size w1).alloc HB1.out.size (.cells #[.int .u8 (tag : Int), .string text] 31)).alloc (by simp; have := HB1.out.size; omega) (.cells #[.int .u8 (tag : Int), .string text] 31)).grown hgrow (by simp; have := HB1.out.size; omega) (fun k hk => (hlt2 k hk).1)))
        have Ho := Lib.hid hown'
        clear hown' hgrow hnew hlt2
        go_wp2_with fail
        go_roundw
        case rel =>
          refine ⟨p + n, pre ++ [(tag, text)], by omega, by simp; omega, by go_num, ?_, ?_, Hb.out⟩
          · rw [HE.out, HNX.out]; simp
          · rw [fcells_snoc]; simpa using Ho.out
        case measure => simp [intOf]; omega
      · have HST := Lib.hid (hst h0)
        clear hok hst hnx
        have h0' : ((er : Int) == 0) = false := by simp; omega
        have h0'' : ((er : Int) != 0) = true := by simp; omega
        have hb2 : (p : Int) ≤ (s.size : Int) := by omega
        go_wp2_with fail
        refine hN.out.mono ?_
        rintro e w1 ⟨rfl, hb⟩
        have HB1 := Lib.hid (HB.out.trans (hb.mono HB.out.size))
        have HW1 := Lib.hid (owns_below HW.out hb)
        clear hb hN
        go_wp2
        go_ret3
        unfold FScan
        rw [HE.out, HST.out]
        refine ⟨_, rfl, ?_, HB1.out.alloc HB1.out.size _⟩
        simpa using HW1.out.alloc _
    · have HED := Lib.hid (@scan_end s most p (by omega))
      go_wp2
      go_ret3
      unfold FScan
      rw [HE.out, HED.out]
      refine ⟨_, rfl, ?_, HB.out⟩
      simpa using HW.out
end Go.Proofs.Ytpnjcgpnannjaaa
