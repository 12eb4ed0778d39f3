/- DequePlays: the machine's steps and begins, with the blocks that they turn. -/
import Derived.Test.YtmghlhngdopifaaDqOp
namespace Go.Proofs.Ytmghlhngdopifaa
open Go.RowKit
set_option linter.unusedVariables false
theorem mstep2_any (B m d z p i : Nat) (n : Int) (v : Value) (C : List Int) (ps : List Nat) (acts : List PAct) (on : Option Nat) (L : List Int) (P N : Int) (a : PAct) (w : World) (hW : MachW w B m d z n v C ps acts on) (hM : Mach z C acts on L P N) (hP : P ≤ 1000) (hN : N ≤ 10000) (hz : z ≤ 1000)
    (hn : n + 3 ≤ 4611686018427387904) (ha : acts[i]? = some a) (hp : ps[i]? = some p) (h0 : a.told = 0) :
    Calls Try.prog 13 #[.pointer (some ⟨p, 0, none⟩)] w fun e w' => e = .returned (.tuple #[.int .u8 ((pstep z C a).what : Int), .int .i64 (pstep z C a).val, .int .i64 0]) ∧ (Only (fun x => B ≤ x) w w' ∧ Far w w') ∧
      ∃ v' L', MachW w' B m d z (n + cnt a) v' (pstep z C a).C ps (acts.set i (pstep z C a).a) on ∧ Mach z (pstep z C a).C (acts.set i (pstep z C a).a) on L' P N ∧ Came a (pstep z C a) L L' ∧ (pstep z C a).a.kind = a.kind ∧ ((pstep z C a).what = 0 → rank P (pstep z C a).a + 1 ≤ rank P a) ∧ Only (fun x => mine m v x ∨ x = d ∨ x = p) w w' ∧ (∀ k, v'.ownBlock = some k → v.ownBlock = some k ∨ w.heap.size ≤ k) := by
  obtain ⟨p', hp', hA⟩ := hW.act i a ha
  have hpe : p' = p := by rw [hp] at hp'; exact (Option.some.inj hp').symm
  subst hpe
  obtain ⟨hS, hV⟩ := mach_safe hM hP hN hz ha h0 hA.k2
  obtain ⟨L', m1, m2, m3, m4⟩ := mach_step hM ha h0
  refine (astep_any B m d z p' n v _ C a w hW.dq hA hn hS h0 hV).mono ?_
  rintro e w' ⟨rfl, v', s⟩
  refine ⟨rfl, ⟨s.only.mono ?_, Far.of s.only ?_⟩, v', L', ⟨s.dq, fun j b hb => ?_, by rw [List.length_set]; exact hW.len, hW.nodup, hW.ge⟩, m1, m2, m3, m4, s.only, s.row⟩
  · rintro x (hx | rfl | rfl)
    · exact mine_ge hW.dq x hx
    · exact hW.dq.base
    · exact hW.ge _ (List.mem_of_getElem? hp)
  · rintro x (hx | rfl | rfl) _
    · exact hW.dq.dts (.inl hx)
    · exact hW.dq.dts (.inr rfl)
    · exact hA.dts
  · by_cases hj : j = i
    · subst hj
      rw [getElem?_set_same ha] at hb
      cases hb
      exact ⟨p', hp, s.act⟩
    · rw [getElem?_set_other hj] at hb
      obtain ⟨q, hq, hA2⟩ := hW.act j b hb
      exact ⟨q, hq, hA2.other hW.dq hA s.only (nodup_ne hW.nodup hp hq hj) s.row⟩
section
variable (B m d z : Nat) (n : Int) (v : Value) (C : List Int) (ps : List Nat) (acts : List PAct) (on : Option Nat) (L : List Int) (P N : Int) (w : World)
theorem mpush_free2 (x : Int) (hW : MachW w B m d z n v C ps acts on) (hM : Mach z C acts on L P N) (hf : own acts on = none) :
    Calls Try.prog 10 #[.pointer (some ⟨d, 0, none⟩), .int .i64 x] w fun e w' => e = .returned (.tuple #[.pointer (some ⟨w.heap.size, 0, none⟩), .int .i64 0]) ∧ MachW w' B m d z n v C (ps ++ [w.heap.size]) (acts ++ [newA 0 x]) (some acts.length) ∧ Only (fun x => B ≤ x) w w' ∧ Far w w' ∧ Only (fun x => x = d) w w' := by
  have hB : B ≤ w.heap.size := by have := hW.dq.base; have := hW.dq.blk.lt; omega
  refine (push_free B m d z n v _ C x w hW.dq (hW.free hf (onlen hM.onk))).mono ?_
  rintro e w' ⟨rfl, k⟩
  have ko := k.2.2
  refine (fun hz => ⟨rfl, hz.1, hz.2.1, hz.2.2, ko⟩) (hW.begin_ (onlen hM.onk) (on' := some acts.length) ?_ hB)
  have : onv (ps ++ [w.heap.size]) (some acts.length) = .pointer (some ⟨w.heap.size, 0, none⟩) := by
    simp only [onv]
    rw [List.getD_eq_getElem?_getD, ← hW.len]
    simp
  rw [this]
  exact k
theorem mpop_free2 (hW : MachW w B m d z n v C ps acts on) (hM : Mach z C acts on L P N) (hf : own acts on = none) :
    Calls Try.prog 11 #[.pointer (some ⟨d, 0, none⟩)] w fun e w' => e = .returned (.tuple #[.pointer (some ⟨w.heap.size, 0, none⟩), .int .i64 0]) ∧ MachW w' B m d z n v C (ps ++ [w.heap.size]) (acts ++ [newA 1 0]) (some acts.length) ∧ Only (fun x => B ≤ x) w w' ∧ Far w w' ∧ Only (fun x => x = d) w w' := by
  have hB : B ≤ w.heap.size := by have := hW.dq.base; have := hW.dq.blk.lt; omega
  refine (pop_free B m d z n v _ C w hW.dq (hW.free hf (onlen hM.onk))).mono ?_
  rintro e w' ⟨rfl, k⟩
  have ko := k.2.2
  refine (fun hz => ⟨rfl, hz.1, hz.2.1, hz.2.2, ko⟩) (hW.begin_ (onlen hM.onk) (on' := some acts.length) ?_ hB)
  have : onv (ps ++ [w.heap.size]) (some acts.length) = .pointer (some ⟨w.heap.size, 0, none⟩) := by
    simp only [onv]
    rw [List.getD_eq_getElem?_getD, ← hW.len]
    simp
  rw [this]
  exact k
theorem msteal_any2 (hW : MachW w B m d z n v C ps acts on) (hM : Mach z C acts on L P N) :
    Calls Try.prog 12 #[.pointer (some ⟨d, 0, none⟩)] w fun e w' => e = .returned (.tuple #[.pointer (some ⟨w.heap.size, 0, none⟩), .int .i64 0]) ∧ MachW w' B m d z n v C (ps ++ [w.heap.size]) (acts ++ [newA 2 0]) on ∧ Only (fun x => B ≤ x) w w' ∧ Far w w' ∧ Only (fun x => x = d) w w' := by
  have hB : B ≤ w.heap.size := by have := hW.dq.base; have := hW.dq.blk.lt; omega
  refine (steal_free B m d z n v _ C w hW.dq).mono ?_
  rintro e w' ⟨rfl, k⟩
  have ko := k.2.2
  refine (fun hz => ⟨rfl, hz.1, hz.2.1, hz.2.2, ko⟩) (hW.begin_ (onlen hM.onk) (on' := on) ?_ hB)
  rw [onv_append hW.len (onlen hM.onk)]
  exact k
end
end Go.Proofs.Ytmghlhngdopifaa
