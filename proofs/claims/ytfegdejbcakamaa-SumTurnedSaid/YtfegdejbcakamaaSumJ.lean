/- The walk of sum.Join. -/
import Derived.Test.YtfegdejbcakamaaSumB
import Derived.Test.YtfegdejbcakamaaShelf
namespace Go.Proofs.Ytfegdejbcakamaa
open Go.RowKit
set_option linter.unusedVariables false

theorem on_nil (a : Nat) : Crc.on a [] = a := by unfold Crc.on; exact Crc.xor_FF a
theorem bs_zeros (c : Nat) : bs ⟨(Lib.repeatL [0] c).toArray⟩ = List.replicate c 0 := by
  unfold bs
  simp only
  induction c with
  | zero => rfl
  | succ c ih =>
    simp only [Lib.repeatL]
    rw [List.replicate_succ]
    simp at ih ⊢
    exact ih
theorem zeros_size (c : Nat) : (⟨(Lib.repeatL [0] c).toArray⟩ : ByteArray).size = c := by
  rw [← bs_len, bs_zeros, List.length_replicate]
theorem zeros_lt (n : Nat) : ∀ c ∈ List.replicate n 0, c < 256 := by intro c hc; have := List.eq_of_mem_replicate hc; omega

set_option maxHeartbeats 1000000 in
set_option maxRecDepth 100000 in
theorem behind_any (x0 n : Nat) (p : Addr) (w : World) (hx : x0 < 4294967296) (hn : n ≤ 1099511627776) (hc : w.cell? p = some (.int .i64 n)) :
    Calls Try.prog 21 #[.int .u32 x0, .pointer (some p)] w fun e w' => e = .returned (.int .u32 (Crc.on x0 (List.replicate n 0))) ∧ Below w.heap.size w w' := by
  go_enter Try.func21, Try.ntmps21
  go_wp2
  go_loopw [0, 4] (fun x k wr => ∃ i : Nat, 4096 * i < n + 4096 ∧ k = .int .i64 ((n : Int) - 4096 * i) ∧ x = .int .u32 (Crc.on x0 (List.replicate (min (4096 * i) n) 0)) ∧ Below w.heap.size w wr) (fun _ k _ => (intOf k).toNat)
  case atStart => exact ⟨0, by omega, by simp, by simp [on_nil], Below.refl _ _⟩
  case round =>
    obtain ⟨i, hi, rfl, rfl, hb⟩ := hrel
    have hlt := Crc.on_lt (a := x0) hx (zeros_lt (min (4096 * i) n))
    have HB := Lib.hid hb
    clear hb
    by_cases hk : 4096 * i < n
    · have hch : ∃ c : Nat, c ≤ 4096 ∧ 1 ≤ c ∧ (c = 4096 ∨ (c = n - 4096 * i)) ∧ min (4096 * (i + 1)) n = 4096 * i + c ∧ min ((n : Int) - 4096 * i) 4096 = (c : Int) := by
        by_cases h : n - 4096 * i ≤ 4096
        · exact ⟨n - 4096 * i, by omega, by omega, .inr rfl, by omega, by omega⟩
        · exact ⟨4096, by omega, by omega, .inl rfl, by omega, by omega⟩
      obtain ⟨c, hc1, hc2, hc3, hc4, hc5⟩ := hch
      have hon : Crc.on (Crc.on x0 (List.replicate (min (4096 * i) n) 0)) (List.replicate c 0) = Crc.on x0 (List.replicate (min (4096 * (i + 1)) n) 0) := by
        rw [← Crc.on_append, List.replicate_append_replicate, hc4, show min (4096 * i) n = 4096 * i by omega]
      have HON := Lib.hid hon
      have HC4 := Lib.hid hc4
      have HC5 := Lib.hid hc5
      clear hon hc4 hc5 hc3
      generalize Crc.on x0 (List.replicate (min (4096 * i) n) 0) = y at *
      go_wp2_with fail
      rw [HC5.out]
      refine (Try.strings_Repeat ⟨#[0]⟩ c _ (by omega) (by show 1 * c ≤ _; omega)).mono ?_
      rintro e w1 ⟨rfl, hb1⟩
      have HB1 := Lib.hid hb1
      clear hb1
      go_wp2_with fail
      refine (on_any y _ _ hlt (by rw [zeros_size]; omega)).mono ?_
      rintro e w2 ⟨rfl, hb2⟩
      rw [bs_zeros, HON.out]
      have Hfin := Lib.hid ((HB.out.trans (HB1.out.mono HB.out.size)).trans (hb2.mono (Nat.le_trans HB.out.size HB1.out.size)))
      clear hb2 HON
      go_wp2
      go_roundw
      case rel => exact ⟨i + 1, by omega, by congr 1; omega, rfl, Hfin.out⟩
      case measure => simp [intOf]; omega
    · have hfin : min (4096 * i) n = n := by omega
      rw [hfin] at hlt ⊢
      clear hfin
      go_wp2
      go_ret
      exact ⟨rfl, HB.out⟩

set_option maxHeartbeats 1000000 in
theorem join_any (a b n : Nat) (w : World) (ha : a < 4294967296) (hb : b < 4294967296) (hn : n ≤ 1099511627776) :
    Calls Try.prog 15 #[.int .u32 a, .int .u32 b, .int .i64 n] w fun e w' => e = .returned (.int .u32 (Crc.join a b n)) ∧ Below w.heap.size w w' := by
  have h1 := Crc.on_lt (a := a) ha (zeros_lt n)
  have h2 := Crc.on_lt (a := 0) (by omega) (zeros_lt n)
  have h3 : Crc.on a (List.replicate n 0) ^^^ Crc.on 0 (List.replicate n 0) < 4294967296 := Nat.xor_lt_two_pow (n := 32) h1 h2
  have e1 := u32_xor_nat _ _ h1 h2
  have e2 := u32_xor_nat _ _ h3 hb
  have e3 : Crc.on a (List.replicate n 0) ^^^ Crc.on 0 (List.replicate n 0) ^^^ b = Crc.join a b n := rfl
  rw [e3] at e2
  generalize Crc.on a (List.replicate n 0) ^^^ Crc.on 0 (List.replicate n 0) = z at *
  have E2 := Lib.hid e2
  have E1 := Lib.hid e1
  clear e1 e2 e3
  go_enter Try.func15, Try.ntmps15
  go_wp2_with fail
  refine (behind_any a n _ _ ha hn (by simp)).mono ?_
  rintro e w1 ⟨rfl, hb1⟩
  simp only [World.size_alloc] at hb1
  have hc1 := (hb1.cell (p := ⟨w.heap.size, 0, none⟩) (by simp)).trans (by simp : (w.alloc (.cells #[.int .i64 (n : Int)] 3)).cell? ⟨w.heap.size, 0, none⟩ = some (.int .i64 n))
  have HB1 := Lib.hid hb1
  clear hb1
  go_wp2_with fail
  refine (behind_any 0 n _ _ (by omega) hn hc1).mono ?_
  rintro e w2 ⟨rfl, hb2⟩
  have HB2 := Lib.hid hb2
  have e1 := E1.out
  have e2 := E2.out
  clear hb2 hc1
  go_wp2
  go_ret
  have hA : Below w.heap.size w w1 := ((Below.refl w.heap.size w).alloc (Nat.le_refl _) _).trans (HB1.out.mono (by omega))
  exact ⟨rfl, hA.trans (HB2.out.mono hA.size)⟩
theorem join_neg (a b : Nat) (n : Int) (w : World) (hn : n < 0) :
    Calls Try.prog 15 #[.int .u32 a, .int .u32 b, .int .i64 n] w fun e w' => e = .returned (.int .u32 0) ∧ Below w.heap.size w w' := by
  go_enter Try.func15, Try.ntmps15
  go_wp2
  go_ret
  exact ⟨rfl, (Below.refl _ _).alloc (Nat.le_refl _) _⟩
end Go.Proofs.Ytfegdejbcakamaa
