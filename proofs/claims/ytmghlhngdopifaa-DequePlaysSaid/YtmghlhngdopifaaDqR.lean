/- Deques: what is known of acts lets each step be done. -/
import Derived.Test.YtmghlhngdopifaaDqQ
namespace Go.Proofs.Ytmghlhngdopifaa
section
variable {z : Nat} {C : List Int} {ws : List (Int × Int)} {cur : Int × Int} {q : List Int} {P : Int}
theorem bot_bd (hc : Core z C ws cur q P) {o : Option PAct} (h : OwnI (ld C z) (ld C ((z : Int) + 1)) cur C ws q P o) : -1 ≤ ld C ((z : Int) + 1) ∧ ld C ((z : Int) + 1) ≤ P := by
  have h0 := hc.top0
  have h1 := hc.topP
  cases o with
  | none =>
    have h' : ld C ((z : Int) + 1) = ld C z + q.length := h
    omega
  | some a =>
    obtain ⟨_, h⟩ := h
    rcases h with ⟨_, hB, _, _⟩ | ⟨_, hp⟩
    · omega
    · cases hp with
      | s0 e hB => omega
      | s1 e hB hb => omega
      | s2 e hB hb hw => omega
      | s3 e hb hq hw => omega
      | s4 e hb hq ht => subst hq; simp at h1; omega
      | s5 e hb hq hw ht hf => omega
      | s6 e hb hq hw ht hf hn => omega
      | s7 e hb hq ht ht' hr => omega
      | s8 e hb hq ht hi => subst hq; simp at h1; omega
theorem mach_safe {acts : List PAct} {on : Option Nat} {L : List Int} {N : Int} (h : Mach z C acts on L P N) (hP : P ≤ 1000) (hN : N ≤ 10000) (hz : z ≤ 1000) {i : Nat} {a : PAct} (ha : acts[i]? = some a) (h0 : a.told = 0) (hk : a.kind ≤ 2) : Safe z C a ∧ Valid a := by
  obtain ⟨ws, cur, q, hc, ho, hs, hL, hT⟩ := h.ex
  have hb := bot_bd hc ho
  have t0 := hc.top0
  have tP := hc.topP
  have hdl := hc.dl
  have hlen : (C.length : Int) ≤ 40000 := by have := hs.1; have := hs.2; omega
  have hin : ∀ p ∈ ws, 1 ≤ p.2 ∧ (z : Int) + 2 < p.1 ∧ p.1 + p.2 < C.length := fun p hp => by have := hc.lay p hp; omega
  have base : (z : Int) + 2 < C.length ∧ C.length ≤ 65536 ∧ bd (ld C ((z : Int) + 1)) := ⟨hdl, by omega, by unfold bd; omega⟩
  have hcur := hin cur hc.curm
  unfold Safe
  obtain ⟨kind, av, at', b, t, aw, an, nw, ii, rd, told, got⟩ := a
  simp only at h0 hk
  subst h0
  by_cases hk2 : kind = 2
  · subst hk2
    have ht := hT i _ ha rfl rfl
    cases ht with
    | s0 e => simp only at e; subst e; exact ⟨⟨base, trivial⟩, .inr (.inr ⟨rfl, by simp⟩)⟩
    | s1 e ht => simp only at e; subst e; exact ⟨⟨base, trivial⟩, .inr (.inr ⟨rfl, by simp⟩)⟩
    | s2 e ht hq => simp only at e; subst e; exact ⟨⟨base, trivial⟩, .inr (.inr ⟨rfl, by simp⟩)⟩
    | s3 e ht hq hw hx =>
      simp only at e ht hw
      subst e
      have := hin _ hw.1
      simp only at this
      exact ⟨⟨base, by simp only; omega⟩, .inr (.inr ⟨rfl, by simp⟩)⟩
    | s4 e ht hq hw hx hn =>
      simp only at e ht hw hn
      subst e
      have := hin _ hw.1
      simp only at this
      exact ⟨⟨base, by simp only [pok]; omega⟩, .inr (.inr ⟨rfl, by simp⟩)⟩
    | s5 e ht hq hr =>
      simp only at e ht
      subst e
      exact ⟨⟨base, by simp only [bd]; omega⟩, .inr (.inr ⟨rfl, by simp⟩)⟩
  · have hon := h.kinds i _ ha rfl hk2
    subst hon
    have hown : own acts (some i) = some ⟨kind, av, at', b, t, aw, an, nw, ii, rd, 0, got⟩ := by simp only [own, ha, if_true]
    rw [hown] at ho
    obtain ⟨_, ho⟩ := ho
    simp only at ho
    rcases ho with ⟨hk0, hB, hP1, hp⟩ | ⟨hk1, hp⟩
    · subst hk0
      cases hp with
      | s0 e => simp only at e; subst e; exact ⟨⟨base, trivial⟩, .inl ⟨rfl, by simp⟩⟩
      | s1 e hb1 => simp only at e; subst e; exact ⟨⟨base, trivial⟩, .inl ⟨rfl, by simp⟩⟩
      | s2 e hb1 ht => simp only at e; subst e; exact ⟨⟨base, trivial⟩, .inl ⟨rfl, by simp⟩⟩
      | s3 e hb1 ht hw => simp only [PT] at e hb1 ht hw; subst e; exact ⟨⟨base, by simp only [bd]; omega⟩, .inl ⟨rfl, by simp⟩⟩
      | s10 e hb1 ht hw hn he => simp only [PT] at e hb1 ht hw hn he; subst e; exact ⟨⟨base, by simp only; omega⟩, .inl ⟨rfl, by simp⟩⟩
      | s11 e hb1 ht hw hn g hi => simp only [PT, Grow] at e hb1 ht hw hn hi g; subst e; exact ⟨⟨base, by simp only [pok]; omega⟩, .inl ⟨rfl, by simp⟩⟩
      | s12 e hb1 ht hw hn g hi hr =>
        simp only [PT, Grow] at e hb1 ht hw hn hi g
        subst e
        have := hin _ g.1
        simp only at this
        exact ⟨⟨base, by simp only [pok]; omega⟩, .inl ⟨rfl, by simp⟩⟩
      | s13 e hb1 ht hw hn g hi => simp only [PT, Grow] at e hb1 ht hw hn hi g; subst e; exact ⟨⟨base, by simp only; omega⟩, .inl ⟨rfl, by simp⟩⟩
      | s20 e hb1 ht hw hn hl => simp only [PT] at e hb1 ht hw hn hl; subst e; exact ⟨⟨base, by simp only [pok]; omega⟩, .inl ⟨rfl, by simp⟩⟩
      | s21 e hb1 ht hw hn hl hv => simp only [PT] at e hb1 ht hw hn hl; subst e; exact ⟨⟨base, by simp only [bd]; omega⟩, .inl ⟨rfl, by simp⟩⟩
    · subst hk1
      cases hp with
      | s0 e hB => simp only at e; subst e; exact ⟨⟨base, trivial⟩, .inr (.inl ⟨rfl, by simp⟩)⟩
      | s1 e hB hb1 => simp only at e; subst e; exact ⟨⟨base, trivial⟩, .inr (.inl ⟨rfl, by simp⟩)⟩
      | s2 e hB hb1 hw => simp only at e; subst e; exact ⟨⟨base, trivial⟩, .inr (.inl ⟨rfl, by simp⟩)⟩
      | s3 e hb1 hq hw => simp only at e hb1 hq hw; subst e; exact ⟨⟨base, by simp only [bd]; omega⟩, .inr (.inl ⟨rfl, by simp⟩)⟩
      | s4 e hb1 hq ht => simp only at e hb1 hq ht; subst e; exact ⟨⟨base, by simp only [bd]; omega⟩, .inr (.inl ⟨rfl, by simp⟩)⟩
      | s5 e hb1 hq hw ht hf => simp only at e hb1 hq hw ht; subst e; exact ⟨⟨base, by simp only; omega⟩, .inr (.inl ⟨rfl, by simp⟩)⟩
      | s6 e hb1 hq hw ht hf hn => simp only at e hb1 hq hw ht hn; subst e; exact ⟨⟨base, by simp only [pok, bd]; omega⟩, .inr (.inl ⟨rfl, by simp⟩)⟩
      | s7 e hb1 hq ht ht' hr => simp only at e hb1 hq ht ht'; subst e; exact ⟨⟨base, by simp only [bd]; omega⟩, .inr (.inl ⟨rfl, by simp⟩)⟩
      | s8 e hb1 hq ht hi => simp only at e hb1 hq ht; subst e; exact ⟨⟨base, by simp only [bd]; omega⟩, .inr (.inl ⟨rfl, by simp⟩)⟩
end
end Go.Proofs.Ytmghlhngdopifaa
