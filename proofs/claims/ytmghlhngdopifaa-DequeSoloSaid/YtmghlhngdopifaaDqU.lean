/- Deques: many acts on one deque, in one word; each step of each. -/
import Derived.Test.YtmghlhngdopifaaDqS
import Derived.Test.YtmghlhngdopifaaDqT
namespace Go.Proofs.Ytmghlhngdopifaa
open Go.RowKit
set_option linter.unusedVariables false
def onv (ps : List Nat) : Option Nat → Value
  | none => .pointer none
  | some i => .pointer (some ⟨ps.getD i 0, 0, none⟩)
/-- a deque, its memory, and all acts on it, by the blocks where they lie -/
structure MachW (w : World) (B m d z : Nat) (n : Int) (v : Value) (C : List Int) (ps : List Nat) (acts : List PAct) (on : Option Nat) : Prop where
  dq : DqS w B m d z n v C (onv ps on)
  act : ∀ (i : Nat) a, acts[i]? = some a → ∃ p, ps[i]? = some p ∧ ActI w p d v a
  len : ps.length = acts.length
  nodup : ps.Nodup
  ge : ∀ p ∈ ps, B ≤ p
section
variable {w w' : World} {B m d z p q : Nat} {n : Int} {v v' on : Value} {C : List Int} {a : PAct}
theorem ActI.keep {S : Nat → Prop} (h : ActI w p d v a) (ho : Only S w w') (hp : ¬ S p) (hs : ∀ ba (cs : Array Value), Blk w ba 37 cs → ¬ S ba) (hv : ∀ bv (cs : Array Value), Blk w bv 2 cs → v.ownBlock ≠ some bv → ¬ S bv)
    (hr : ∀ k, v'.ownBlock = some k → v.ownBlock = some k ∨ w.heap.size ≤ k) : ActI w' p d v' a := by
  obtain ⟨⟨dv, h1, h2⟩, h3, h4, h5⟩ := h
  exact ⟨⟨dv, ho.blk h1 hp, h2.keep ho hs hv hr⟩, h3, h4, h5⟩
theorem mine_types (h : DqS w B m d z n v C on) {x : Nat} {t : TypeId} {cs : Array Value} (hx : Blk w x t cs) (h1 : t ≠ 72) (h2 : 2 ≠ t) : ¬ mine m v x := by
  rintro (e | e)
  · exact Blk.ne_ hx h.mem.blk h1 e
  · exact own_blk_ne h.mem.own hx h2 e
theorem mine_int (h : DqS w B m d z n v C on) {x : Nat} {cs : Array Value} (hx : Blk w x 2 cs) (hv : v.ownBlock ≠ some x) : ¬ mine m v x := by
  rintro (e | e)
  · exact Blk.ne_ hx h.mem.blk (by decide) e
  · exact hv e
/-- a step of one act keeps another one -/
theorem ActI.other (h : ActI w q d v a) (hd : DqS w B m d z n v C on) {r : PAct} (hp : ActI w p d v r) (ho : Only (fun x => mine m v x ∨ x = d ∨ x = p) w w') (hne : q ≠ p) (hr : ∀ k, v'.ownBlock = some k → v.ownBlock = some k ∨ w.heap.size ≤ k) : ActI w' q d v' a := by
  obtain ⟨dv, hq, _⟩ := h.ex
  obtain ⟨dv2, hp2, _⟩ := hp.ex
  refine h.keep ho ?_ (fun ba cs hb => ?_) (fun bv cs hb hv => ?_) hr
  · rintro (e | e | e)
    · exact mine_types hd hq (by decide) (by decide) e
    · exact Blk.ne_ hq hd.blk (by decide) e
    · exact hne e
  · rintro (e | e | e)
    · exact mine_types hd hb (by decide) (by decide) e
    · exact Blk.ne_ hb hd.blk (by decide) e
    · exact Blk.ne_ hb hp2 (by decide) e
  · rintro (e | e | e)
    · exact mine_int hd hb hv e
    · exact Blk.ne_ hb hd.blk (by decide) e
    · exact Blk.ne_ hb hp2 (by decide) e
theorem mine_ge (h : DqS w B m d z n v C on) : ∀ x, mine m v x → B ≤ x := by
  rintro x (rfl | e)
  · exact h.mem.base
  · rcases owns_form h.mem.own with ⟨rfl, _⟩ | ⟨g, cap, rfl, _, _, hg, _⟩
    · cases e
    · cases e; exact hg
end
theorem nodup_ne {ps : List Nat} (h : ps.Nodup) {i j : Nat} {p q : Nat} (hi : ps[i]? = some p) (hj : ps[j]? = some q) (hne : j ≠ i) : q ≠ p := by
  rintro rfl
  obtain ⟨h1, e1⟩ := List.getElem?_eq_some_iff.1 hi
  obtain ⟨h2, e2⟩ := List.getElem?_eq_some_iff.1 hj
  exact hne ((List.getElem_inj h).1 (e2.trans e1.symm))
/-- A step of an act of the machine. -/
theorem mstep_any (B m d z p i : Nat) (n : Int) (v : Value) (C : List Int) (ps : List Nat) (acts : List PAct) (on : Option Nat) (L : List Int) (P N : Int) (a : PAct) (w : World) (hW : MachW w B m d z n v C ps acts on) (hM : Mach z C acts on L P N) (hP : P ≤ 1000) (hN : N ≤ 10000) (hz : z ≤ 1000)
    (hn : n + 3 ≤ 4611686018427387904) (ha : acts[i]? = some a) (hp : ps[i]? = some p) (h0 : a.told = 0) :
    Calls Try.prog 13 #[.pointer (some ⟨p, 0, none⟩)] w fun e w' => e = .returned (.tuple #[.int .u8 ((pstep z C a).what : Int), .int .i64 (pstep z C a).val, .int .i64 0]) ∧ Only (fun x => B ≤ x) w w' ∧
      ∃ v' L', MachW w' B m d z (n + cnt a) v' (pstep z C a).C ps (acts.set i (pstep z C a).a) on ∧ Mach z (pstep z C a).C (acts.set i (pstep z C a).a) on L' P N ∧ Came a (pstep z C a) L L' ∧ (pstep z C a).a.kind = a.kind ∧ ((pstep z C a).what = 0 → rank P (pstep z C a).a + 1 ≤ rank P a) := by
  obtain ⟨p', hp', hA⟩ := hW.act i a ha
  have hpe : p' = p := by rw [hp] at hp'; exact (Option.some.inj hp').symm
  subst hpe
  obtain ⟨hS, hV⟩ := mach_safe hM hP hN hz ha h0 hA.k2
  obtain ⟨L', m1, m2, m3, m4⟩ := mach_step hM ha h0
  refine (astep_any B m d z p' n v _ C a w hW.dq hA hn hS h0 hV).mono ?_
  rintro e w' ⟨rfl, v', s⟩
  refine ⟨rfl, s.only.mono ?_, v', L', ⟨s.dq, fun j b hb => ?_, by rw [List.length_set]; exact hW.len, hW.nodup, hW.ge⟩, m1, m2, m3, m4⟩
  · rintro x (hx | rfl | rfl)
    · exact mine_ge hW.dq x hx
    · exact hW.dq.base
    · exact hW.ge _ (List.mem_of_getElem? hp)
  · by_cases hj : j = i
    · subst hj
      rw [getElem?_set_same ha] at hb
      cases hb
      exact ⟨p', hp, s.act⟩
    · rw [getElem?_set_other hj] at hb
      obtain ⟨q, hq, hA2⟩ := hW.act j b hb
      exact ⟨q, hq, hA2.other hW.dq hA s.only (nodup_ne hW.nodup hp hq hj) s.row⟩
end Go.Proofs.Ytmghlhngdopifaa
