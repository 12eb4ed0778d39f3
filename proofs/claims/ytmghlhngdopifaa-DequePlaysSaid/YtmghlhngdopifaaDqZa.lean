/- Deques: alone: the size; a new one. -/
import Derived.Test.YtmghlhngdopifaaDqZ
namespace Go.Proofs.Ytmghlhngdopifaa
open Go.RowKit
set_option linter.unusedVariables false
theorem solo_size {w : World} {B m d : Nat} {L : List Int} {P N X : Int} (h : SoloS w B m d L P N X) (hP : P ≤ 1000) :
    Calls Try.prog 15 #[.pointer (some ⟨d, 0, none⟩)] w fun e w' => e = .returned (.int .i64 (L.length : Int)) ∧ SoloS w' B m d L P N X ∧ Only (fun _ => False) w w' := by
  obtain ⟨n, v, C, ps, acts, on, hW, hM, ho, hX⟩ := h
  obtain ⟨ws, cur, q, hc, hO, hs, hL, hT⟩ := hM.ex
  rw [own_over ho] at hO hL
  simp only [hold, pend, List.append_nil] at hL
  have hB : ld C (((0 : Nat) : Int) + 1) = ld C ((0 : Nat) : Int) + q.length := hO
  have h0 := hc.top0
  have hP' := hc.topP
  refine (size_any B m d 0 n v _ C w hW.dq (by unfold bd; omega) (by unfold bd; omega)).mono ?_
  rintro e w' ⟨rfl, o⟩
  have hq : ¬ ld C (((0 : Nat) : Int) + 1) - ld C ((0 : Nat) : Int) < 0 := by omega
  refine ⟨?_, ⟨n, v, C, ps, acts, on, ⟨⟨hW.dq.mem.only o (fun e => e) (fun _ _ e => e), o.blk hW.dq.blk (fun e => e), hW.dq.base⟩, fun i a ha => ?_, hW.len, hW.nodup, hW.ge⟩, hM, ho, hX⟩, o⟩
  · rw [if_neg hq, hL]
    congr 2
    omega
  · obtain ⟨p, hp, hA⟩ := hW.act i a ha
    exact ⟨p, hp, hA.keep o (fun e => e) (fun _ _ _ e => e) (fun _ _ _ _ e => e) (fun _ e => .inl e)⟩
theorem solo_new (B m : Nat) (v : Value) (lg : Nat) (hl : lg ≤ 8) (w : World) (h : CMem w B m 0 v []) (N : Int) (hN : 256 ≤ N) :
    Calls Try.prog 9 #[.pointer (some ⟨m, 0, none⟩), .int .i64 (lg : Int)] w fun e w' => ∃ d, e = .returned (.tuple #[.pointer (some ⟨d, 0, none⟩), .int .i64 0]) ∧ SoloS w' B m d [] 0 N 0 ∧ Only (fun x => B ≤ x) w w' := by
  refine (dnew_any B m v lg hl w h).mono ?_
  rintro e w' ⟨d, v', rfl, k, o⟩
  have h2 : 2 ^ lg ≤ 256 := Nat.le_trans (Nat.pow_le_pow_right (by decide) hl) (by decide)
  exact ⟨d, rfl, ⟨0, v', _, [], [], none, k, mach_new (2 ^ lg) Nat.one_le_two_pow N (by omega), fun j b hb => by simp at hb, by omega⟩, o⟩
end Go.Proofs.Ytmghlhngdopifaa
