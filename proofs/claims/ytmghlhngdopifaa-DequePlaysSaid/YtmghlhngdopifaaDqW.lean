/- Deques: acts begin on the machine. -/
import Derived.Test.YtmghlhngdopifaaDqV
namespace Go.Proofs.Ytmghlhngdopifaa
open Go.RowKit
set_option linter.unusedVariables false
section
variable {w w' : World} {B m d z : Nat} {n : Int} {v : Value} {C : List Int} {ps : List Nat} {acts : List PAct} {on : Option Nat}
theorem MachW.lt (h : MachW w B m d z n v C ps acts on) : ∀ p ∈ ps, p < w.heap.size := by
  intro p hp
  obtain ⟨i, hi⟩ := List.getElem?_of_mem hp
  have hl := (List.getElem?_eq_some_iff.1 hi).1
  rw [h.len] at hl
  obtain ⟨p', h1, h2⟩ := h.act i _ (List.getElem?_eq_getElem hl)
  rw [hi] at h1
  cases h1
  obtain ⟨dv, h3, _⟩ := h2.ex
  exact h3.lt
theorem MachW.begin_ (h : MachW w B m d z n v C ps acts on) (hon : ∀ i, on = some i → i < acts.length) {a : PAct} {on' : Option Nat} (hb : Begun B m d z w.heap.size n v (onv (ps ++ [w.heap.size]) on') C a w w') (hB : B ≤ w.heap.size) : MachW w' B m d z n v C (ps ++ [w.heap.size]) (acts ++ [a]) on' ∧ Only (fun x => B ≤ x) w w' ∧ Far w w' := by
  obtain ⟨h1, h2, h3⟩ := hb
  refine ⟨⟨h1, fun i b hi => ?_, by simp [h.len], ?_, fun p hp => ?_⟩, h3.mono fun x hx => by rw [hx]; exact h.dq.base, Far.of h3 fun x hx _ => h.dq.dts (.inr hx)⟩
  · rcases get_append hi with hi | ⟨rfl, rfl⟩
    · obtain ⟨p, hp, hA⟩ := h.act i b hi
      refine ⟨p, by rw [List.getElem?_append_left (List.getElem?_eq_some_iff.1 hp).1]; exact hp, ?_⟩
      obtain ⟨dv, hbl, _⟩ := hA.ex
      exact hA.keep h3 (fun e => Blk.ne_ hbl h.dq.blk (by decide) e) (fun ba cs hb e => Blk.ne_ hb h.dq.blk (by decide) e) (fun bv cs hb _ e => Blk.ne_ hb h.dq.blk (by decide) e) (fun _ e => .inl e)
    · exact ⟨w.heap.size, by rw [← h.len]; simp, h2⟩
  · rw [List.nodup_append]
    refine ⟨h.nodup, by simp, fun p hp q hq e => ?_⟩
    simp at hq
    subst hq e
    exact absurd (h.lt _ hp) (Nat.lt_irrefl _)
  · rcases List.mem_append.1 hp with hp | hp
    · exact h.ge p hp
    · simp at hp
      rw [hp]; exact hB
theorem onv_append (hl : ps.length = acts.length) (hon : ∀ i, on = some i → i < acts.length) (x : Nat) : onv (ps ++ [x]) on = onv ps on := by
  cases on with
  | none => rfl
  | some i =>
    have := hon i rfl
    simp only [onv]
    rw [List.getD_eq_getElem?_getD, List.getElem?_append_left (by omega), List.getD_eq_getElem?_getD]
theorem MachW.free (h : MachW w B m d z n v C ps acts on) (hf : own acts on = none) (hon : ∀ i, on = some i → i < acts.length) : onv ps on = .pointer none ∨ ∃ p c, onv ps on = .pointer (some ⟨p, 0, none⟩) ∧ Blk w p 79 (AC.arr c d) ∧ c.dv = .nilFunc := by
  cases on with
  | none => exact .inl rfl
  | some i =>
    have hi := hon i rfl
    obtain ⟨p, hp, hA⟩ := h.act i _ (List.getElem?_eq_getElem hi)
    obtain ⟨dv, h1, h2⟩ := hA.ex
    have ht : acts[i].told ≠ 0 := fun e => by
      simp only [own, List.getElem?_eq_getElem hi, e, if_true] at hf
      cases hf
    unfold Does at h2
    rw [if_neg ht] at h2
    refine .inr ⟨p, _, ?_, h1, h2⟩
    simp only [onv]
    rw [List.getD_eq_getElem?_getD, hp]
    rfl
theorem MachW.busy (h : MachW w B m d z n v C ps acts on) {a : PAct} (hf : own acts on = some a) : ∃ p c fn fs cp, onv ps on = .pointer (some ⟨p, 0, none⟩) ∧ Blk w p 79 (AC.arr c d) ∧ c.dv = .func fn fs cp := by
  cases on with
  | none => cases hf
  | some i =>
    have hi : ∃ b, acts[i]? = some b ∧ b.told = 0 := by
      simp only [own] at hf
      split at hf
      · cases hf
      · rename_i b hb
        split at hf
        · rename_i h0; exact ⟨b, hb, h0⟩
        · cases hf
    obtain ⟨b, hb, h0⟩ := hi
    obtain ⟨p, hp, hA⟩ := h.act i _ hb
    obtain ⟨dv, h1, h2⟩ := hA.ex
    unfold Does at h2
    rw [if_pos h0] at h2
    have hv : onv ps (some i) = .pointer (some ⟨p, 0, none⟩) := by
      simp only [onv]
      rw [List.getD_eq_getElem?_getD, hp]
      rfl
    split at h2
    · obtain ⟨ba, bv, e, _⟩ := h2
      exact ⟨p, _, _, _, _, hv, h1, e⟩
    · exact ⟨p, _, _, _, _, hv, h1, h2⟩
end
section
variable (B m d z : Nat) (n : Int) (v : Value) (C : List Int) (ps : List Nat) (acts : List PAct) (on : Option Nat) (L : List Int) (P N : Int) (w : World)
theorem onlen {on : Option Nat} {acts : List PAct} (h : ∀ i, on = some i → ∃ a, acts[i]? = some a ∧ a.kind ≠ 2) : ∀ i, on = some i → i < acts.length := by
  intro i hi
  obtain ⟨a, ha, _⟩ := h i hi
  exact (List.getElem?_eq_some_iff.1 ha).1
theorem mpush_free (x : Int) (hW : MachW w B m d z n v C ps acts on) (hM : Mach z C acts on L P N) (hf : own acts on = none) :
    Calls Try.prog 10 #[.pointer (some ⟨d, 0, none⟩), .int .i64 x] w fun e w' => e = .returned (.tuple #[.pointer (some ⟨w.heap.size, 0, none⟩), .int .i64 0]) ∧ MachW w' B m d z n v C (ps ++ [w.heap.size]) (acts ++ [newA 0 x]) (some acts.length) ∧ Only (fun x => B ≤ x) w w' ∧ Far w w' := by
  have hB : B ≤ w.heap.size := by have := hW.dq.base; have := hW.dq.blk.lt; omega
  refine (push_free B m d z n v _ C x w hW.dq (hW.free hf (onlen hM.onk))).mono ?_
  rintro e w' ⟨rfl, k⟩
  refine ⟨rfl, hW.begin_ (onlen hM.onk) (on' := some acts.length) ?_ hB⟩
  have : onv (ps ++ [w.heap.size]) (some acts.length) = .pointer (some ⟨w.heap.size, 0, none⟩) := by
    simp only [onv]
    rw [List.getD_eq_getElem?_getD, ← hW.len]
    simp
  rw [this]
  exact k
theorem mpop_free (hW : MachW w B m d z n v C ps acts on) (hM : Mach z C acts on L P N) (hf : own acts on = none) :
    Calls Try.prog 11 #[.pointer (some ⟨d, 0, none⟩)] w fun e w' => e = .returned (.tuple #[.pointer (some ⟨w.heap.size, 0, none⟩), .int .i64 0]) ∧ MachW w' B m d z n v C (ps ++ [w.heap.size]) (acts ++ [newA 1 0]) (some acts.length) ∧ Only (fun x => B ≤ x) w w' ∧ Far w w' := by
  have hB : B ≤ w.heap.size := by have := hW.dq.base; have := hW.dq.blk.lt; omega
  refine (pop_free B m d z n v _ C w hW.dq (hW.free hf (onlen hM.onk))).mono ?_
  rintro e w' ⟨rfl, k⟩
  refine ⟨rfl, hW.begin_ (onlen hM.onk) (on' := some acts.length) ?_ hB⟩
  have : onv (ps ++ [w.heap.size]) (some acts.length) = .pointer (some ⟨w.heap.size, 0, none⟩) := by
    simp only [onv]
    rw [List.getD_eq_getElem?_getD, ← hW.len]
    simp
  rw [this]
  exact k
theorem msteal_any (hW : MachW w B m d z n v C ps acts on) (hM : Mach z C acts on L P N) :
    Calls Try.prog 12 #[.pointer (some ⟨d, 0, none⟩)] w fun e w' => e = .returned (.tuple #[.pointer (some ⟨w.heap.size, 0, none⟩), .int .i64 0]) ∧ MachW w' B m d z n v C (ps ++ [w.heap.size]) (acts ++ [newA 2 0]) on ∧ Only (fun x => B ≤ x) w w' ∧ Far w w' := by
  have hB : B ≤ w.heap.size := by have := hW.dq.base; have := hW.dq.blk.lt; omega
  refine (steal_free B m d z n v _ C w hW.dq).mono ?_
  rintro e w' ⟨rfl, k⟩
  refine ⟨rfl, hW.begin_ (onlen hM.onk) (on' := on) ?_ hB⟩
  rw [onv_append hW.len (onlen hM.onk)]
  exact k
theorem mpush_busy (x : Int) {a : PAct} (hW : MachW w B m d z n v C ps acts on) (hf : own acts on = some a) :
    Calls Try.prog 10 #[.pointer (some ⟨d, 0, none⟩), .int .i64 x] w fun e w' => e = .returned (.tuple #[.pointer none, .int .i64 3]) ∧ w = w' := by
  obtain ⟨p, c, fn, fs, cp, h1, h2, h3⟩ := hW.busy hf
  have hd := hW.dq
  rw [h1] at hd
  exact push_busy B m d z p n v C c fn fs cp x w hd h2 h3
theorem mpop_busy {a : PAct} (hW : MachW w B m d z n v C ps acts on) (hf : own acts on = some a) :
    Calls Try.prog 11 #[.pointer (some ⟨d, 0, none⟩)] w fun e w' => e = .returned (.tuple #[.pointer none, .int .i64 3]) ∧ w = w' := by
  obtain ⟨p, c, fn, fs, cp, h1, h2, h3⟩ := hW.busy hf
  have hd := hW.dq
  rw [h1] at hd
  exact pop_busy B m d z p n v C c fn fs cp w hd h2 h3
end
end Go.Proofs.Ytmghlhngdopifaa
