/- The walks of the document's sum: bits, Of, On, Join. -/
import Derived.Test.YtpnjcgpnannjaaaSumR
namespace Go.Proofs.Ytpnjcgpnannjaaa
open Go.RowKit
set_option linter.unusedVariables false

theorem Try.infoB : (Try.prog.info? 4).map (fun i => (i.zero, i.size, i.bytes)) = some (some (.bool false), 1, 1) := by kernel_rfl
theorem reads_one {w : World} {t : TypeId} (v : Value) : Reads (w.alloc (.cells #[v] t)) (w.heap.size + 1) 1 (some ⟨w.heap.size, 0, none⟩) 1 [v] :=
  ⟨by simp, fun _ => ⟨_, rfl, by simp, fun j u hu => by
    match j, hu with
    | 0, hu => simp at hu; subst hu; simp [Addr.add]⟩⟩
def rawBits (s : ByteArray) : List Bool := Crc.textBits (bs s) ++ List.replicate 32 false
structure BitsOf (s : ByteArray) (w : World) (e : Ending) (w' : World) : Prop where
  ex : ∃ g cap, e = .returned (.slice (some ⟨g, 0, none⟩) (8 * s.size + 32) cap) ∧ BoolRow w' g (rawBits s) ∧ 8 * s.size + 32 ≤ cap ∧ cap ≤ 9223372036854775807 ∧ w.heap.size ≤ g
  below : Below w.heap.size w w'
theorem bools_oneCell {xs : List Bool} : ∀ u ∈ xs.map Value.bool, u.oneCell' = true := by
  intro u hu
  obtain ⟨x, _, rfl⟩ := List.mem_map.1 hu
  rfl

theorem bit_walk (c j : Nat) (hc : c < 256) : (bits .and .u8 ((c : Int) / 2 ^ j) 1 == 1) = c.testBit j := by
  have h1 : (c : Int) / 2 ^ j = ((c / 2 ^ j : Nat) : Int) := by rw [Int.natCast_ediv, Int.natCast_pow]; rfl
  have h2 := u8_and_nat (c / 2 ^ j) 1 (Nat.lt_of_le_of_lt (Nat.div_le_self _ _) hc) (by omega)
  rw [show ((1 : Nat) : Int) = 1 from rfl] at h2
  rw [h1, h2, Nat.and_one_is_mod, Nat.testBit_eq_decide_div_mod_eq]
  rcases (show c / 2 ^ j % 2 = 0 ∨ c / 2 ^ j % 2 = 1 by omega) with h | h <;> rw [h] <;> rfl

set_option maxHeartbeats 2000000 in
set_option maxRecDepth 100000 in
theorem bits_any (s : ByteArray) (w : World) (hs : s.size ≤ 137438953472) :
    Calls Try.prog 38 #[.string s] w (BitsOf s w) := by
  obtain ⟨i0, hi, hz0, hz1, hz2⟩ := info_parts Try.infoB
  have hlen := bs_len s
  go_enter Try.func38, Try.ntmps38
  go_wp2_with (at_make; refine wpList_make_own _ rfl (.const (.int .i64 0)) (.tmp 10) 81 rfl w.heap.size 4 i0 (.bool false) 1 Try.underlying81 hi hz0 hz1 .i64 .i64 _ (8 * s.size + 32) rfl rfl ?hC ?b2 ?b3 (Nat.le_refl _) ?_)
  case hC => omega
  case b2 => rw [hz2]; omega
  case b3 => unfold maxLen; omega
  intro w1 hown hgrow
  have HO := Lib.hid hown
  have HG := Lib.hid ((Below.refl w.heap.size w).grown hgrow (Nat.le_refl _) (fun k h => by cases h))
  clear hown hgrow
  go_wp2_with fail
  go_loopw [3, 4] (fun v s4 wr => ∃ k : Nat, k ≤ s.size ∧ s4 = .int .i64 k ∧ wr.ownsRow w.heap.size 4 1 v (8 * k) ((Crc.textBits ((bs s).take k)).map Value.bool) ∧ Below w.heap.size w wr) (fun _ s4 _ => s.size - (intOf s4).toNat)
  case atStart => exact ⟨0, by omega, rfl, by simpa [Crc.textBits] using HO.out, HG.out⟩
  case round =>
    obtain ⟨k, hk, rfl, how, hbl⟩ := hrel
    clear HO HG
    have HW := Lib.hid how
    have HB := Lib.hid hbl
    clear how hbl
    by_cases hlt : k < s.size
    · go_wp2
      obtain ⟨wo, hwo⟩ : ∃ wo : World, wo = wr := ⟨_, rfl⟩
      rw [← hwo] at HB HW ⊢
      clear hwo
      have hts : (bs s).take (k + 1) = (bs s).take k ++ [(bs s).getD k 0] := by
        rw [List.take_succ_eq_append_getElem (by omega)]
        simp [List.getD, List.getElem?_eq_getElem (show k < (bs s).length by omega)]
      have htb : Crc.textBits ((bs s).take (k + 1)) = Crc.textBits ((bs s).take k) ++ Crc.byteBits ((bs s).getD k 0) := by
        rw [hts]; simp [Crc.textBits]
      have hc8 : (bs s).getD k 0 < 256 := by
        have hm : (bs s).getD k 0 ∈ bs s := by simp [List.getD, List.getElem?_eq_getElem (show k < (bs s).length by omega)]
        exact bs_lt s _ hm
      have hix : (s[k]'hlt).toNat = (bs s).getD k 0 := by
        have hk' : k < s.data.size := hlt
        simp [bs, List.getD]
        rw [Array.getElem?_eq_getElem hk']
        rfl
      have HTB := Lib.hid htb
      have HIX := Lib.hid hix
      clear hts htb hix
      generalize (bs s).getD k 0 = cc at *
      go_loopw [3, 5] (fun v s5 wi => ∃ j : Nat, j ≤ 8 ∧ s5 = .int .i64 j ∧ wi.ownsRow w.heap.size 4 1 v (8 * k + j) ((Crc.textBits ((bs s).take k) ++ (Crc.byteBits cc).take j).map Value.bool) ∧ Below w.heap.size w wi) (fun _ s5 _ => 8 - (intOf s5).toNat)
      case atStart => exact ⟨0, by omega, rfl, by simpa using HW.out, HB.out⟩
      case round =>
        obtain ⟨j, hj, rfl, how, hbl⟩ := hrel
        have HW2 := Lib.hid how
        have HB2 := Lib.hid hbl
        clear how hbl
        by_cases hj8 : j < 8
        · have hbw := bit_walk cc j hc8
          rw [← HIX.out] at hbw
          have hbt : (Crc.byteBits cc).take (j + 1) = (Crc.byteBits cc).take j ++ [cc.testBit j] := by
            rw [List.take_succ_eq_append_getElem (by simp [Crc.byteBits]; omega)]
            simp [Crc.byteBits]
          rw [HIX.out] at hbw
          have hbw' : (bits .and .u8 (((s[k]'hlt).toNat : Int) / 2 ^ j) 1 == 1) = cc.testBit j := by rw [HIX.out]; exact hbw
          have HBT := Lib.hid hbt
          clear hbt hbw
          generalize cc.testBit j = bb at *
          go_wp2_with (at_builtin; refine wpList_append_any _ rfl (.tmp 22) (.tmp 31) 81 rfl w.heap.size 4 i0 (.bool false) 1 1 Try.underlying81 hi hz0 hz1 hz2 rfl (by decide) _ _ _ rfl (HW2.out.alloc _) _ _ _ _ _ rfl (reads_one (.bool bb)) ?c2 ?c3 ?c4 ?c5 ?_)
          case c2 => intro u hu; simp at hu; subst hu; rfl
          case c3 => unfold maxLen; omega
          case c4 => omega
          case c5 => simp; have := HB2.out.size; omega
          intro v' w2 hown' hgrow hnew
          have hlt2 := HW2.out.lt
          have Hb := Lib.hid (HB2.out.trans (((Below.refl w.heap.size wr).alloc HB2.out.size (.cells #[.bool bb] 4)).grown hgrow (by simp; have := HB2.out.size; omega) (fun k hk => (hlt2 k hk).1)))
          have Ho := Lib.hid hown'
          clear hown' hgrow hnew hlt2
          go_wp2_with fail
          go_roundw
          case rel =>
            refine ⟨j + 1, by omega, by go_num, ?_, Hb.out⟩
            rw [HBT.out]
            simpa [Nat.add_assoc] using Ho.out
          case measure => simp [intOf]; omega
        · obtain rfl : j = 8 := by omega
          have ht8 : (Crc.byteBits cc).take 8 = Crc.byteBits cc := List.take_of_length_le (by simp [Crc.byteBits])
          rw [ht8, ← HTB.out] at HW2
          clear hj8 hj
          go_wp2_with fail
          go_roundw
          case rel => exact ⟨k + 1, by omega, by go_num, HW2.out, HB2.out⟩
          case measure => simp [intOf]; omega
    · obtain rfl : k = s.size := by omega
      have htk : (bs s).take s.size = bs s := List.take_of_length_le (by rw [bs_len]; exact Nat.le_refl _)
      rw [htk] at HW
      clear hk htk
      go_wp2_with fail
      go_loopw [3, 6] (fun v s6 wi => ∃ j : Nat, j ≤ 32 ∧ s6 = .int .i64 j ∧ wi.ownsRow w.heap.size 4 1 v (8 * s.size + j) ((Crc.textBits (bs s) ++ List.replicate j false).map Value.bool) ∧ Below w.heap.size w wi) (fun _ s6 _ => 32 - (intOf s6).toNat)
      case atStart => exact ⟨0, by omega, rfl, by simpa using HW.out, HB.out⟩
      case round =>
        clear HW HB
        obtain ⟨j, hj, rfl, how, hbl⟩ := hrel
        have HW2 := Lib.hid how
        have HB2 := Lib.hid hbl
        clear how hbl
        by_cases hj8 : j < 32
        · go_wp2_with (at_builtin; refine wpList_append_any _ rfl (.tmp 37) (.tmp 38) 81 rfl w.heap.size 4 i0 (.bool false) 1 1 Try.underlying81 hi hz0 hz1 hz2 rfl (by decide) _ _ _ rfl (HW2.out.alloc _) _ _ _ _ _ rfl (reads_one (.bool false)) ?d2 ?d3 ?d4 ?d5 ?_)
          case d2 => intro u hu; simp at hu; subst hu; rfl
          case d3 => unfold maxLen; omega
          case d4 => omega
          case d5 => simp; have := HB2.out.size; omega
          intro v' w2 hown' hgrow hnew
          have hlt2 := HW2.out.lt
          have Hb := Lib.hid (HB2.out.trans (((Below.refl w.heap.size wr).alloc HB2.out.size (.cells #[.bool false] 4)).grown hgrow (by simp; have := HB2.out.size; omega) (fun k hk => (hlt2 k hk).1)))
          have Ho := Lib.hid hown'
          clear hown' hgrow hnew hlt2
          go_wp2_with fail
          go_roundw
          case rel =>
            refine ⟨j + 1, by omega, by go_num, ?_, Hb.out⟩
            rw [List.replicate_succ']
            simpa [Nat.add_assoc] using Ho.out
          case measure => simp [intOf]; omega
        · obtain rfl : j = 32 := by omega
          obtain ⟨g, cap, hv, hc1, hc2, hc3, hc4⟩ : ∃ g cap, u3 = .slice (some ⟨g, 0, none⟩) (8 * s.size + 32) cap ∧ 8 * s.size + 32 ≤ cap ∧ cap ≤ maxLen ∧ w.heap.size ≤ g ∧ g < wr.heap.size := by
            rcases owns_form HW2.out with ⟨_, h0⟩ | ⟨g, cap, h1, h2, h3, h4, h5⟩
            · omega
            · exact ⟨g, cap, h1, h2, h3, h4, h5⟩
          subst hv
          have hrow : BoolRow wr g (rawBits s) := by
            have hl : (rawBits s).length = 8 * s.size + 32 := by rw [rawBits, List.length_append, Crc.textBits_len, List.length_replicate, hlen]
            refine ⟨hc4, fun j hj => ?_, fun j hj => HW2.out.frozenAt j⟩
            rw [HW2.out.cellAt j (by omega), List.getElem?_map]
            show Option.map Value.bool (rawBits s)[j]? = _
            rw [List.getElem?_eq_getElem hj]
            simp [List.getD, hj]
          have HF := Lib.hid hrow
          unfold maxLen at hc2
          clear hrow
          go_wp2
          go_ret
          exact ⟨⟨g, cap, rfl, HF.out, hc1, by omega, hc3⟩, HB2.out⟩
end Go.Proofs.Ytpnjcgpnannjaaa
