/- SumCuts: its walk. -/
import Derived.Test.YtfegdejbcakamaaSumL
import Derived.Deep.RegionWith
namespace Go.Proofs.Ytfegdejbcakamaa
open Go.RowKit
set_option linter.unusedVariables false

theorem bs_cut (s : ByteArray) (k : Nat) (hk : k ≤ s.size) : bs s = bs (s.extract 0 k) ++ bs (s.extract k s.size) := by
  have e : s = s.extract 0 k ++ s.extract k s.size := by
    apply ByteArray.ext
    rw [ByteArray.data_append, ByteArray.data_extract, ByteArray.data_extract]
    have h0 : s.data.extract 0 k ++ s.data.extract k s.size = s.data.extract 0 s.size := by
      rw [Array.extract_append_extract]; congr 1 <;> omega
    rw [h0]
    exact (Array.extract_size (xs := s.data)).symm
  unfold bs
  conv => lhs; rw [e]
  rw [ByteArray.data_append, Array.toList_append, List.map_append]
theorem join_int (a b : Nat) (n : Int) (w : World) (ha : a < 4294967296) (hb : b < 4294967296) (h0 : 0 ≤ n) (hn : n ≤ 1099511627776) :
    Calls Try.prog 15 #[.int .u32 a, .int .u32 b, .int .i64 n] w fun e w' => e = .returned (.int .u32 (Crc.join a b n.toNat)) ∧ Below w.heap.size w w' := by
  obtain ⟨m, rfl⟩ := Int.eq_ofNat_of_zero_le h0
  rw [Int.toNat_natCast]
  exact join_any a b m w ha hb (by omega)

set_option maxHeartbeats 3000000 in
set_option maxRecDepth 100000 in
theorem cuts_any (s : ByteArray) (x : Int) (w : World) (hs : s.size ≤ 9223372036854775807) (hx0 : 0 ≤ x) (hx1 : x ≤ 65535) :
    Calls Try.prog 6 #[.string s, .int .u16 x] w fun e w' => e = .returned (.bool true) ∧ Below w.heap.size w w' := by
  by_cases hbig : 4096 < s.size
  · go_enter Try.func6, Try.ntmps6
    go_wp2_with fail
    refine (alive_any w).mono ?_
    rintro e w1 ⟨rfl, hb⟩
    go_wp2
    go_ret
    exact ⟨rfl, hb⟩
  · obtain ⟨k, hk, hkl⟩ : ∃ k : Nat, x % ((s.size : Int) + 1) = (k : Int) ∧ k ≤ s.size := ⟨(x % ((s.size : Int) + 1)).toNat, by have := Int.emod_nonneg x (show ((s.size : Int) + 1) ≠ 0 by omega); omega, by have h1 := Int.emod_nonneg x (show ((s.size : Int) + 1) ≠ 0 by omega); have h2 := Int.emod_lt_of_pos x (show (0 : Int) < (s.size : Int) + 1 by omega); omega⟩
    have hcut := bs_cut s k hkl
    have hsz : (bs (s.extract k s.size)).length = s.size - k := by rw [bs_len, ByteArray.size_extract]; omega
    have e1 : Crc.join (Crc.on 0 (bs (s.extract 0 k))) (Crc.on 0 (bs (s.extract k s.size))) ((s.size : Int) - (k : Int)).toNat = Crc.on 0 (bs s) := by
      rw [show ((s.size : Int) - (k : Int)).toNat = s.size - k by omega, ← hsz, ← Crc.cut_join, ← hcut]
    have e2 : Crc.on (Crc.on 0 (bs (s.extract 0 k))) (bs (s.extract k s.size)) = Crc.on 0 (bs s) := by rw [← Crc.on_append, ← hcut]
    have l1 := Crc.on_lt (a := 0) (by omega) (bs_lt (s.extract 0 k))
    have l2 := Crc.on_lt (a := 0) (by omega) (bs_lt (s.extract k s.size))
    have z1 : (s.extract 0 k).size ≤ 17592186044416 := by rw [ByteArray.size_extract]; omega
    have z2 : (s.extract k s.size).size ≤ 17592186044416 := by rw [ByteArray.size_extract]; omega
    have z0 : s.size ≤ 17592186044416 := by omega
    have h0 : (0 : Int) ≤ (s.size : Int) - (k : Int) := by omega
    have h9 : (s.size : Int) - (k : Int) ≤ 1099511627776 := by omega
    clear hcut hsz hs
    go_enter Try.func6, Try.ntmps6
    go_wp2_with fail
    refine (of_any _ _ z1).mono ?_
    rintro e w1 ⟨rfl, hb⟩
    have HB := Lib.hid hb.drew
    have Hz := Lib.hid (show w.heap.size ≤ w1.heap.size from hb.size)
    clear hb
    go_wp2_with fail
    have hwr : IntKind.i64.wrap ((s.size : Int) - (k : Int)) = (s.size : Int) - (k : Int) := IntWalk.i64_in _ (by omega)
    go_region_with (first
      | (go_at_call_of 9 (Value.string s); refine (of_any _ _ z0).mono ?_; rintro e w' ⟨rfl, hb⟩; replace HB := Lib.hid (HB.out.trans (hb.mono HB.out.size)); clear hb)
      | (go_at_call 9; refine (of_any _ _ z2).mono ?_; rintro e w' ⟨rfl, hb⟩; replace HB := Lib.hid (HB.out.trans (hb.mono HB.out.size)); clear hb)
      | (go_at_call 15; refine (join_int _ _ _ _ l1 l2 h0 h9).mono ?_; rintro e w' ⟨rfl, hb⟩; replace HB := Lib.hid (HB.out.trans (hb.mono HB.out.size)); clear hb; rw [e1])
      | (go_at_call 10; refine (on_any _ _ _ l1 z2).mono ?_; rintro e w' ⟨rfl, hb⟩; replace HB := Lib.hid (HB.out.trans (hb.mono HB.out.size)); clear hb; rw [e2])
      | (go_at_call 7; refine (alive_any _).mono ?_; rintro e w' ⟨rfl, hb⟩; replace HB := Lib.hid (HB.out.trans (hb.mono HB.out.size)); clear hb))
    go_wp2
    go_ret
    exact ⟨rfl, HB.out⟩
end Go.Proofs.Ytfegdejbcakamaa
