/- SectorSure: did some write put that byte there. -/
import Derived.Test.YtlpnhikoipkjbaaSecT
namespace Go.Proofs.Ytlpnhikoipkjbaa
open Go.RowKit Go.WideShapes Go.ChangeShapes
set_option linter.unusedVariables false
def byteAt (s : ByteArray) (i : Nat) : UInt8 := s.data.toList.getD i 0
set_option maxHeartbeats 2000000 in
set_option maxRecDepth 100000 in
theorem written_any (R : Nat) (A : Option Addr) (cp : Nat) (ss : List SP) (k : Int) (at' : Nat) (c : UInt8) (w : World) (h : Scr w R A ss) (hl : ss.length ≤ 200) (ha : at' < 128) (j0 : Nat) (s0 : SP) (hs0 : ss[j0]? = some s0) (h0 : s0.k = k ∧ s0.text.size ≤ 128 ∧ byteAt s0.text at' = c) :
    Calls Try.prog 15 #[.slice A ss.length cp, .int .i64 k, .int .i64 (at' : Int), .int .u8 (c.toNat : Int)] w fun e w' => e = .returned (.bool true) ∧ w = w' := by
  have H := Lib.hid h
  have HS0 := Lib.hid hs0
  have H00 := Lib.hid h0
  have hjl : j0 < ss.length := (List.getElem?_eq_some_iff.1 hs0).1
  have hc := c.toNat_lt
  clear h hs0 h0
  go_enter Try.func15, Try.ntmps15
  go_wp2
  go_loop [9] (fun i => ∃ j : Nat, j ≤ j0 ∧ i = .int .i64 j) (fun i => ss.length - (intOf i).toNat)
  case atStart => exact ⟨0, by omega, rfl⟩
  case round =>
    obtain ⟨j, hj, rfl⟩ := hrel
    have hjs : j < ss.length := by omega
    have hji : (j : Int) < (ss.length : Int) := by omega
    obtain ⟨s, hs⟩ : ∃ s, ss[j]? = some s := ⟨_, List.getElem?_eq_getElem hjs⟩
    obtain ⟨b, off, rfl, hb, c0, c1, c2, c3, hr, ht, hlc, hlc', hd⟩ := H.out j s hs
    unfold maxLen at ht hlc'
    clear hr c0 c3
    have HS := Lib.hid hs
    have hlast : j = j0 → s.k = k ∧ s.text.size ≤ 128 ∧ byteAt s.text at' = c := fun e => by
      have h1 := HS0.out
      rw [← e, HS.out] at h1
      cases h1
      exact H00.out
    have HL := Lib.hid hlast
    clear hs hlast
    by_cases hk : s.k = k
    · by_cases hz : s.text.size ≤ 128
      · have hz' : ¬ (128 : Int) < (s.text.size : Int) := by omega
        by_cases hat : at' < s.text.size
        · have hat' : (at' : Int) < (s.text.size : Int) := by omega
          have hbyte : byteAt s.text at' = s.text[at'] := by
            unfold byteAt
            rw [List.getD_eq_getElem?_getD, List.getElem?_eq_getElem (by simpa using hat)]
            rfl
          have HB := Lib.hid hbyte
          clear hbyte
          go_wp2
          · go_ret
            exact ⟨rfl, rfl⟩
          · rename_i hA hB hC
            refine ⟨⟨j + 1, ?_, by go_num⟩, by simp [intOf]; omega⟩
            rcases Nat.lt_or_ge j j0 with h | h
            · omega
            · exact absurd (by rw [← HB.out, (HL.out (by omega)).2.2]) hA
        · have hat' : ¬ (at' : Int) < (s.text.size : Int) := by omega
          by_cases hc0 : c = 0
          · have hcc : ((c.toNat : Int) == 0) = true := by subst hc0; rfl
            go_wp2
            go_ret
            exact ⟨rfl, rfl⟩
          · have hcc : ((c.toNat : Int) == 0) = false := by
              have : c.toNat ≠ 0 := fun e => hc0 (UInt8.toNat_inj.1 e)
              simp; omega
            go_wp2
            refine ⟨⟨j + 1, ?_, by go_num⟩, by simp [intOf]; omega⟩
            rcases Nat.lt_or_ge j j0 with h | h
            · omega
            · have h1 := (HL.out (by omega)).2.2
              have h2 : byteAt s.text at' = 0 := by
                unfold byteAt
                rw [List.getD_eq_getElem?_getD, List.getElem?_eq_none (by simpa using hat)]
                rfl
              exact absurd (h1.symm.trans h2) hc0
      · have hz' : (128 : Int) < (s.text.size : Int) := by omega
        go_wp2
        go_round
        case rel =>
          refine ⟨j + 1, ?_, by go_num⟩
          rcases Nat.lt_or_ge j j0 with h | h
          · omega
          · have := HL.out (by omega); omega
        case measure => simp [intOf]; omega
    · have hk' : (s.k != k) = true := by simp [hk]
      go_wp2
      go_round
      case rel =>
        refine ⟨j + 1, ?_, by go_num⟩
        rcases Nat.lt_or_ge j j0 with h | h
        · omega
        · exact absurd (HL.out (by omega)).1 hk
      case measure => simp [intOf]; omega
end Go.Proofs.Ytlpnhikoipkjbaa
