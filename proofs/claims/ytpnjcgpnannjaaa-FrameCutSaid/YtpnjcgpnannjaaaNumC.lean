/- The walks of thresherref01.Read, thresherref03.Uint, Text. -/
import Derived.Test.YtpnjcgpnannjaaaNumB
import Derived.IntWalk
namespace Go.Proofs.Ytpnjcgpnannjaaa
open Go.RowKit
set_option linter.unusedVariables false

namespace Var
theorem val_drop (l : List Nat) (i : Nat) (h : i < l.length) : val (l.drop i) = l.getD i 0 % 128 + 128 * val (l.drop (i + 1)) := by
  rw [List.drop_eq_getElem_cons h]
  simp [val, List.getD, List.getElem?_eq_getElem h]
theorem read_lt (l : List Nat) : (read l).1 < 18446744073709551616 := by
  unfold read
  split
  · simp
  · split
    · simp
    · split
      · exact Nat.mod_lt _ (by omega)
      · simp
end Var
theorem bs_cut' (s : ByteArray) (k : Nat) (hk : k ≤ s.size) : bs s = bs (s.extract 0 k) ++ bs (s.extract k s.size) := by
  have e : s = s.extract 0 k ++ s.extract k s.size := by
    apply ByteArray.ext
    rw [ByteArray.data_append, ByteArray.data_extract, ByteArray.data_extract]
    have h0 : s.data.extract 0 k ++ s.data.extract k s.size = s.data.extract 0 s.size := by
      rw [Array.extract_append_extract]; congr 1 <;> omega
    rw [h0]
    exact (Array.extract_size (xs := s.data)).symm
  unfold bs
  conv => lhs; rw [e]
  rw [ByteArray.data_append, Array.toList_append, List.map_append]
theorem bs_prefix (s : ByteArray) (k : Nat) (hk : k ≤ s.size) : bs (s.extract 0 k) = (bs s).take k := by
  have h := bs_cut' s k hk
  have hl : (bs (s.extract 0 k)).length = k := by rw [bs_len, ByteArray.size_extract]; omega
  rw [h, List.take_left' hl]
theorem strs_eq {a b : ByteArray} (h : a.toList = b.toList) : a = b := by
  rw [ByteArray.toList_eq, ByteArray.toList_eq] at h
  exact ByteArray.ext (Array.toList_inj.1 h)
theorem take_at (l : List Nat) (k j : Nat) (h : j < k) : (l.take k).getD j 0 = l.getD j 0 := by
  simp [List.getD, h]

theorem wrap_step (V d : Nat) : IntKind.u64.wrap (IntKind.u64.wrap (128 * ((V % 18446744073709551616 : Nat) : Int)) + (d : Int) % 128) = (((d % 128 + 128 * V) % 18446744073709551616 : Nat) : Int) := by
  simp only [IntKind.wrap, IntKind.signed, IntKind.bits]
  simp
  omega

set_option maxHeartbeats 3000000 in
set_option maxRecDepth 100000 in
theorem vread_any (s : ByteArray) (w : World) (hs : s.size ≤ 9223372036854775807) :
    Calls Try.prog 28 #[.string s] w fun e w' => e = .returned (.tuple #[.int .u64 (Var.read (bs s)).1, .int .i64 (Var.read (bs s)).2.1, .int .i64 (Var.read (bs s)).2.2]) ∧ Below w.heap.size w w' := by
  go_enter Try.func28, Try.ntmps28
  go_wp2_with fail
  go_loop [5] (fun n => ∃ k : Nat, k ≤ 10 ∧ k ≤ s.size ∧ n = .int .i64 k ∧ ∀ j, j < k → 128 ≤ (bs s).getD j 0) (fun n => 10 - (intOf n).toNat)
  case atStart => exact ⟨0, by omega, by omega, rfl, by omega⟩
  case round =>
    obtain ⟨k, hk, hks, rfl, hall⟩ := hrel
    have HA := Lib.hid hall
    clear hall
    by_cases hk10 : k < 10
    · by_cases hlt : k < s.size
      · have hix : (s[k]'hlt).toNat = (bs s).getD k 0 := by
          have hk' : k < s.data.size := hlt
          simp [bs, List.getD]
          rw [Array.getElem?_eq_getElem hk']
          rfl
        have hr : (bs s).getD k 0 < 128 → _ := fun hz => Var.read_at HA.out (bs_lt s) hk10 (by rw [bs_len]; exact hlt) hz
        have HR := Lib.hid hr
        clear hr
        generalize hc : (bs s).getD k 0 = c at *
        by_cases hcs : c < 128
        · have hf : Var.read (bs s) = if Var.enc 9 (Var.val ((bs s).take (k + 1)) % 18446744073709551616) = (bs s).take (k + 1) then (Var.val ((bs s).take (k + 1)) % 18446744073709551616, k + 1, 0) else (0, 0, 8) := by
            unfold Var.read
            rw [Var.lead_eq 10 (bs s) k HA.out (by omega) (by rw [bs_len]; omega) (.inr (.inr (by rw [hc]; exact hcs))), if_neg (show ¬ k = 10 by omega), if_neg (show ¬ k = (bs s).length by rw [bs_len]; omega)]
          have hlen : ((bs s).take (k + 1)).length = k + 1 := by rw [List.length_take, bs_len]; omega
          have hpre := bs_prefix s (k + 1) (by omega)
          have hbt : ∀ j, j < k + 1 → ((bs s).take (k + 1)).getD j 0 = (bs s).getD j 0 := fun j hj => take_at _ _ _ hj
          have HF := Lib.hid hf
          have HL := Lib.hid hlen
          have HP := Lib.hid hpre
          have HT := Lib.hid hbt
          clear hf hlen hpre hbt HR
          have h01 : ¬ (128 : Int) ≤ (c : Int) := by omega
          go_wp2_with fail
          go_loop [6, 7] (fun x i => ∃ j : Nat, j ≤ k + 1 ∧ i = .int .i64 ((j : Int) - 1) ∧ x = .int .u64 ((Var.val (((bs s).take (k + 1)).drop j) % 18446744073709551616 : Nat) : Int)) (fun _ i => (intOf i + 1).toNat)
          case atStart => exact ⟨k + 1, by omega, by simp, by rw [List.drop_eq_nil_of_le (by rw [HL.out]; omega)]; rfl⟩
          case round =>
            obtain ⟨j, hj, rfl, rfl⟩ := hrel
            cases j with
            | zero =>
              rw [List.drop_zero]
              generalize hX : Var.val ((bs s).take (k + 1)) % 18446744073709551616 = X at *
              have hX64 : X < 18446744073709551616 := by rw [← hX]; exact Nat.mod_lt _ (by omega)
              have hX128 : X < 128 ^ (9 + 1) := Nat.lt_of_lt_of_le hX64 (by decide)
              have HU : ∀ W, Hid (Calls Try.prog 42 #[.int .u64 X] W fun e w' => e = .returned (.string (str (Var.enc 9 X))) ∧ Below W.heap.size W w') := fun W => Lib.hid (vuint_any 9 X W (by omega) hX128 hX64)
              have hbe : bs (str (Var.enc 9 X)) = Var.enc 9 X := bs_str _ (Var.enc_lt 9 X hX128)
              have HB := Lib.hid (Below.refl w.heap.size w)
              go_wp2_with fail
              have hwr : IntKind.i64.wrap ((k : Int) + 1) = (k : Int) + 1 := IntWalk.i64_in _ (by omega)
              have h0 : (0 : Int) ≤ (k : Int) + 1 := by omega
              have htn : ((k : Int) + 1).toNat = k + 1 := by omega
              by_cases heq : Var.enc 9 X = (bs s).take (k + 1)
              · have hse : str (Var.enc 9 X) = s.extract 0 (k + 1) := bs_inj (by rw [hbe, heq, HP.out])
                rw [hse] at HU
                rw [if_pos heq] at HF
                clear hse heq hbe hX128 hX hX64
                go_region_with (first
                  | (go_at_call 42; refine (HU w.drew).out.mono ?_; rintro e w' ⟨rfl, hb⟩; replace HB := Lib.hid ((Below.refl _ w).drew.trans hb); clear hb))
                all_goals clear hwr h0 htn
                all_goals go_wp2_with fail
                all_goals go_ret3
                all_goals rw [HF.out]
                all_goals first
                  | exact ⟨rfl, HB.out⟩
                  | contradiction
                  | (exfalso; rename_i hx; simp [hse2] at hx; done)
                  | exact ⟨by simp, HB.out⟩
              · have hse : ¬ str (Var.enc 9 X) = s.extract 0 (k + 1) := fun h => heq (by rw [← hbe, h, HP.out])
                have hse2 : (str (Var.enc 9 X)).toList ≠ (s.extract 0 (k + 1)).toList := fun h => hse (strs_eq h)
                generalize str (Var.enc 9 X) = st at *
                rw [if_neg heq] at HF
                clear heq hbe hX128 hX hX64
                go_region_with (first
                  | (go_at_call 42; refine (HU w.drew).out.mono ?_; rintro e w' ⟨rfl, hb⟩; replace HB := Lib.hid ((Below.refl _ w).drew.trans hb); clear hb))
                all_goals clear hwr h0 htn
                all_goals go_wp2_with fail
                all_goals go_ret3
                all_goals rw [HF.out]
                all_goals first
                  | exact ⟨rfl, HB.out⟩
                  | contradiction
                  | (exfalso; rename_i hx; simp [hse2] at hx; done)
                  | exact ⟨by simp, HB.out⟩
            | succ j =>
              have hd := Var.val_drop ((bs s).take (k + 1)) j (by rw [HL.out]; omega)
              rw [HT.out j (by omega)] at hd
              have hlj : j < s.size := by omega
              have hjx : (s[j]'hlj).toNat = (bs s).getD j 0 := by
                have hk' : j < s.data.size := hlj
                simp [bs, List.getD]
                rw [Array.getElem?_eq_getElem hk']
                rfl
              have hc8 : (bs s).getD j 0 < 256 := by
                have hm : (bs s).getD j 0 ∈ bs s := by simp [List.getD, List.getElem?_eq_getElem (show j < (bs s).length by rw [bs_len]; omega)]
                exact bs_lt s _ hm
              have HD := Lib.hid hd
              clear hd
              generalize (bs s).getD j 0 = d at *
              have hz := wrap_step (Var.val (((bs s).take (k + 1)).drop (j + 1))) d
              rw [← HD.out] at hz
              generalize Var.val (((bs s).take (k + 1)).drop (j + 1)) % 18446744073709551616 = V at *
              go_wp2
              go_round
              case rel => exact ⟨j, by omega, by go_num, by simp⟩
              case measure => simp [intOf] <;> omega
        · go_wp2
          go_round
          case rel => exact ⟨k + 1, by omega, by omega, by go_num, fun j hj => by
            rcases Nat.lt_or_ge j k with h | h
            · exact HA.out j h
            · obtain rfl : j = k := by omega
              omega⟩
          case measure => simp [intOf]; omega
      · obtain rfl : k = s.size := by omega
        have hr := Lib.hid (Var.read_short (l := bs s) (by rw [bs_len]; exact HA.out) (by rw [bs_len]; exact hk10))
        go_wp2
        go_ret3
        rw [hr.out]
        exact ⟨rfl, Below.refl _ _⟩
    · obtain rfl : k = 10 := by omega
      have hr := Lib.hid (Var.read_ten (l := bs s) HA.out (by rw [bs_len]; exact hks))
      go_wp2
      all_goals go_ret3
      all_goals rw [hr.out]
      all_goals exact ⟨rfl, Below.refl _ _⟩
end Go.Proofs.Ytpnjcgpnannjaaa
