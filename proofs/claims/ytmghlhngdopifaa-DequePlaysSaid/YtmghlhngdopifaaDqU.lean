/- Deques: many acts on one deque, in one word; each step of each. -/
import Derived.Test.YtmghlhngdopifaaDqS
import Derived.Test.YtmghlhngdopifaaDqT
namespace Go.Proofs.Ytmghlhngdopifaa
open Go.RowKit
set_option linter.unusedVariables false
def onv (ps : List Nat) : Option Nat → Value
  | none => .pointer none
  | some i => .pointer (some ⟨ps.getD i 0, 0, none⟩)
/-- a deque, its memory, and all acts on it, by the blocks where they lie -/
structure MachW (w : World) (B m d z : Nat) (n : Int) (v : Value) (C : List Int) (ps : List Nat) (acts : List PAct) (on : Option Nat) : Prop where
  dq : DqS w B m d z n v C (onv ps on)
  act : ∀ (i : Nat) a, acts[i]? = some a → ∃ p, ps[i]? = some p ∧ ActI w p d v a
  len : ps.length = acts.length
  nodup : ps.Nodup
  ge : ∀ p ∈ ps, B ≤ p
section
variable {w w' : World} {B m d z p q : Nat} {n : Int} {v v' on : Value} {C : List Int} {a : PAct}
theorem ActI.keep {S : Nat → Prop} (h : ActI w p d v a) (ho : Only S w w') (hp : ¬ S p) (hs : ∀ ba (cs : Array Value), Blk w ba 37 cs → ¬ S ba) (hv : ∀ bv (cs : Array Value), Blk w bv 2 cs → v.ownBlock ≠ some bv → ¬ S bv)
    (hr : ∀ k, v'.ownBlock = some k → v.ownBlock = some k ∨ w.heap.size ≤ k) : ActI w' p d v' a := by
  obtain ⟨⟨dv, h1, h2⟩, h3, h4, h5⟩ := h
  exact ⟨⟨dv, ho.blk h1 hp, h2.keep ho hs hv hr⟩, h3, h4, h5⟩
theorem mine_types (h : DqS w B m d z n v C on) {x : Nat} {t : TypeId} {cs : Array Value} (hx : Blk w x t cs) (h1 : t ≠ 72) (h2 : 2 ≠ t) : ¬ mine m v x := by
  rintro (e | e)
  · exact Blk.ne_ hx h.mem.blk h1 e
  · exact own_blk_ne h.mem.own hx h2 e
theorem mine_int (h : DqS w B m d z n v C on) {x : Nat} {cs : Array Value} (hx : Blk w x 2 cs) (hv : v.ownBlock ≠ some x) : ¬ mine m v x := by
  rintro (e | e)
  · exact Blk.ne_ hx h.mem.blk (by decide) e
  · exact hv e
/-- a step of one act keeps another one -/
theorem ActI.other (h : ActI w q d v a) (hd : DqS w B m d z n v C on) {r : PAct} (hp : ActI w p d v r) (ho : Only (fun x => mine m v x ∨ x = d ∨ x = p) w w') (hne : q ≠ p) (hr : ∀ k, v'.ownBlock = some k → v.ownBlock = some k ∨ w.heap.size ≤ k) : ActI w' q d v' a := by
  obtain ⟨dv, hq, _⟩ := h.ex
  obtain ⟨dv2, hp2, _⟩ := hp.ex
  refine h.keep ho ?_ (fun ba cs hb => ?_) (fun bv cs hb hv => ?_) hr
  · rintro (e | e | e)
    · exact mine_types hd hq (by decide) (by decide) e
    · exact Blk.ne_ hq hd.blk (by decide) e
    · exact hne e
  · rintro (e | e | e)
    · exact mine_types hd hb (by decide) (by decide) e
    · exact Blk.ne_ hb hd.blk (by decide) e
    · exact Blk.ne_ hb hp2 (by decide) e
  · rintro (e | e | e)
    · exact mine_int hd hb hv e
    · exact Blk.ne_ hb hd.blk (by decide) e
    · exact Blk.ne_ hb hp2 (by decide) e
theorem mine_ge (h : DqS w B m d z n v C on) : ∀ x, mine m v x → B ≤ x := by
  rintro x (rfl | e)
  · exact h.mem.base
  · rcases owns_form h.mem.own with ⟨rfl, _⟩ | ⟨g, cap, rfl, _, _, hg, _⟩
    · cases e
    · cases e; exact hg
end
theorem nodup_ne {ps : List Nat} (h : ps.Nodup) {i j : Nat} {p q : Nat} (hi : ps[i]? = some p) (hj : ps[j]? = some q) (hne : j ≠ i) : q ≠ p := by
  rintro rfl
  obtain ⟨h1, e1⟩ := List.getElem?_eq_some_iff.1 hi
  obtain ⟨h2, e2⟩ := List.getElem?_eq_some_iff.1 hj
  exact hne ((List.getElem_inj h).1 (e2.trans e1.symm))
/-- the types of a deque's own blocks -/
def Dts (t : TypeId) : Prop := t = 72 ∨ t = 2 ∨ t = 74 ∨ t = 79
/-- blocks of other types are as they were -/
structure Far (w w' : World) : Prop where
  size : w.heap.size ≤ w'.heap.size
  keep : ∀ (i : Nat) o, w.heap[i]? = some o → (∀ cs t k, o = .cells cs t k → ¬ Dts t) → w'.heap[i]? = some o
theorem Far.refl (w : World) : Far w w := ⟨Nat.le_refl _, fun _ _ h _ => h⟩
theorem Far.trans {a b c : World} (h : Far a b) (k : Far b c) : Far a c := ⟨Nat.le_trans h.size k.size, fun i o ho ht => k.keep i o (h.keep i o ho ht) ht⟩
theorem Far.of {S : Nat → Prop} {w w' : World} (ho : Only S w w') (hS : ∀ x, S x → x < w.heap.size → ∃ cs t, Blk w x t cs ∧ Dts t) : Far w w' := by
  refine ⟨ho.size, fun i o h ht => ?_⟩
  have hi : i < w.heap.size := (Array.getElem?_eq_some_iff.1 h).1
  rw [ho.block i hi (fun hs => ?_)]
  · exact h
  · obtain ⟨cs, t, hb, hd⟩ := hS i hs hi
    unfold Blk at hb
    rw [hb] at h
    exact ht _ _ _ (Option.some.inj h).symm hd
theorem Far.owns {w w' : World} (h : Far w w') {base : Nat} {e : TypeId} {size n : Nat} {v : Value} {xs : List Value} (ho : w.ownsRow base e size v n xs) (he : ¬ Dts e) : w'.ownsRow base e size v n xs := by
  refine ⟨ho.1, ?_⟩
  rcases ho.2 with hn | ⟨g, cap, cur, rfl, hb, hgg, rest⟩
  · exact .inl hn
  · exact .inr ⟨g, cap, cur, rfl, hb, h.keep _ _ hgg (fun cs t k e => by cases e; exact he), rest⟩
theorem DqS.dts {w : World} {B m d z : Nat} {n : Int} {v on : Value} {C : List Int} (h : DqS w B m d z n v C on) {x : Nat} (hx : mine m v x ∨ x = d) : ∃ cs t, Blk w x t cs ∧ Dts t := by
  rcases hx with (rfl | e) | rfl
  · exact ⟨_, _, h.mem.blk, .inl rfl⟩
  · rcases h.mem.own.2 with ⟨rfl, _⟩ | ⟨g, cap, cur, rfl, _, hh, _⟩
    · cases e
    · cases e
      exact ⟨_, _, hh, .inr (.inl rfl)⟩
  · exact ⟨_, _, h.blk, .inr (.inr (.inl rfl))⟩
theorem ActI.dts {w : World} {p d : Nat} {v : Value} {a : PAct} (h : ActI w p d v a) : ∃ cs t, Blk w p t cs ∧ Dts t := by
  obtain ⟨dv, h1, _⟩ := h.ex
  exact ⟨_, _, h1, .inr (.inr (.inr rfl))⟩
/-- A step of an act of the machine. -/
theorem mstep_any (B m d z p i : Nat) (n : Int) (v : Value) (C : List Int) (ps : List Nat) (acts : List PAct) (on : Option Nat) (L : List Int) (P N : Int) (a : PAct) (w : World) (hW : MachW w B m d z n v C ps acts on) (hM : Mach z C acts on L P N) (hP : P ≤ 1000) (hN : N ≤ 10000) (hz : z ≤ 1000)
    (hn : n + 3 ≤ 4611686018427387904) (ha : acts[i]? = some a) (hp : ps[i]? = some p) (h0 : a.told = 0) :
    Calls Try.prog 13 #[.pointer (some ⟨p, 0, none⟩)] w fun e w' => e = .returned (.tuple #[.int .u8 ((pstep z C a).what : Int), .int .i64 (pstep z C a).val, .int .i64 0]) ∧ (Only (fun x => B ≤ x) w w' ∧ Far w w') ∧
      ∃ v' L', MachW w' B m d z (n + cnt a) v' (pstep z C a).C ps (acts.set i (pstep z C a).a) on ∧ Mach z (pstep z C a).C (acts.set i (pstep z C a).a) on L' P N ∧ Came a (pstep z C a) L L' ∧ (pstep z C a).a.kind = a.kind ∧ ((pstep z C a).what = 0 → rank P (pstep z C a).a + 1 ≤ rank P a) := by
  obtain ⟨p', hp', hA⟩ := hW.act i a ha
  have hpe : p' = p := by rw [hp] at hp'; exact (Option.some.inj hp').symm
  subst hpe
  obtain ⟨hS, hV⟩ := mach_safe hM hP hN hz ha h0 hA.k2
  obtain ⟨L', m1, m2, m3, m4⟩ := mach_step hM ha h0
  refine (astep_any B m d z p' n v _ C a w hW.dq hA hn hS h0 hV).mono ?_
  rintro e w' ⟨rfl, v', s⟩
  refine ⟨rfl, ⟨s.only.mono ?_, Far.of s.only ?_⟩, v', L', ⟨s.dq, fun j b hb => ?_, by rw [List.length_set]; exact hW.len, hW.nodup, hW.ge⟩, m1, m2, m3, m4⟩
  · rintro x (hx | rfl | rfl)
    · exact mine_ge hW.dq x hx
    · exact hW.dq.base
    · exact hW.ge _ (List.mem_of_getElem? hp)
  · rintro x (hx | rfl | rfl) _
    · exact hW.dq.dts (.inl hx)
    · exact hW.dq.dts (.inr rfl)
    · exact hA.dts
  · by_cases hj : j = i
    · subst hj
      rw [getElem?_set_same ha] at hb
      cases hb
      exact ⟨p', hp, s.act⟩
    · rw [getElem?_set_other hj] at hb
      obtain ⟨q, hq, hA2⟩ := hW.act j b hb
      exact ⟨q, hq, hA2.other hW.dq hA s.only (nodup_ne hW.nodup hp hq hj) s.row⟩
end Go.Proofs.Ytmghlhngdopifaa
