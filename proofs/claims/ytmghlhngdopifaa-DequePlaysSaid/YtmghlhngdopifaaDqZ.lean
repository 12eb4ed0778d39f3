/- Deques: alone: one act at a time, each done whole. -/
import Derived.Test.YtmghlhngdopifaaDqY
namespace Go.Proofs.Ytmghlhngdopifaa
open Go.RowKit
set_option linter.unusedVariables false
/-- all acts are over -/
def SoloS (w : World) (B m d : Nat) (L : List Int) (P N X : Int) : Prop :=
  ∃ n v C ps acts on, MachW w B m d 0 n v C ps acts on ∧ Mach (0 : Nat) C acts on L P N ∧ (∀ (j : Nat) b, acts[j]? = some b → b.told ≠ 0) ∧ n ≤ X
/-- one act is under way: it has just begun -/
def SoloOne (w : World) (B m d p kind : Nat) (L : List Int) (P N X : Int) : Prop :=
  ∃ n v C ps acts on x, MachW w B m d 0 n v C ps (acts ++ [newA kind x]) on ∧ Mach (0 : Nat) C (acts ++ [newA kind x]) on L P N ∧ ps[acts.length]? = some p ∧ (∀ (j : Nat) b, acts[j]? = some b → b.told ≠ 0) ∧ n ≤ X
theorem own_over {acts : List PAct} {on : Option Nat} (h : ∀ (j : Nat) b, acts[j]? = some b → b.told ≠ 0) : own acts on = none := by
  cases on with
  | none => rfl
  | some i =>
    simp only [own]
    cases hi : acts[i]? with
    | none => rfl
    | some b => simp [h i b hi]
section
variable {w : World} {B m d : Nat} {L : List Int} {P N X : Int}
theorem solo_push (x : Int) (h : SoloS w B m d L P N X) (hN : 2 * (P + 1) ≤ N) :
    Calls Try.prog 10 #[.pointer (some ⟨d, 0, none⟩), .int .i64 x] w fun e w' => ∃ p, e = .returned (.tuple #[.pointer (some ⟨p, 0, none⟩), .int .i64 0]) ∧ SoloOne w' B m d p 0 (L ++ [x]) (P + 1) N X ∧ Only (fun x => B ≤ x) w w' ∧ Far w w' := by
  obtain ⟨n, v, C, ps, acts, on, hW, hM, ho, hX⟩ := h
  refine (mpush_free B m d 0 n v C ps acts on L P N w x hW hM (own_over ho)).mono ?_
  rintro e w' ⟨rfl, k1, k2, k3⟩
  exact ⟨_, rfl, ⟨n, v, C, _, acts, _, x, k1, by simpa using mach_own hM (own_over ho) 0 x (.inl ⟨rfl, hN⟩), by rw [← hW.len]; simp, ho, hX⟩, k2, k3⟩
theorem solo_pop (h : SoloS w B m d L P N X) :
    Calls Try.prog 11 #[.pointer (some ⟨d, 0, none⟩)] w fun e w' => ∃ p, e = .returned (.tuple #[.pointer (some ⟨p, 0, none⟩), .int .i64 0]) ∧ SoloOne w' B m d p 1 L P N X ∧ Only (fun x => B ≤ x) w w' ∧ Far w w' := by
  obtain ⟨n, v, C, ps, acts, on, hW, hM, ho, hX⟩ := h
  refine (mpop_free B m d 0 n v C ps acts on L P N w hW hM (own_over ho)).mono ?_
  rintro e w' ⟨rfl, k1, k2, k3⟩
  exact ⟨_, rfl, ⟨n, v, C, _, acts, _, 0, k1, by simpa using mach_own hM (own_over ho) 1 0 (.inr rfl), by rw [← hW.len]; simp, ho, hX⟩, k2, k3⟩
theorem solo_steal (h : SoloS w B m d L P N X) :
    Calls Try.prog 12 #[.pointer (some ⟨d, 0, none⟩)] w fun e w' => ∃ p, e = .returned (.tuple #[.pointer (some ⟨p, 0, none⟩), .int .i64 0]) ∧ SoloOne w' B m d p 2 L P N X ∧ Only (fun x => B ≤ x) w w' ∧ Far w w' := by
  obtain ⟨n, v, C, ps, acts, on, hW, hM, ho, hX⟩ := h
  refine (msteal_any B m d 0 n v C ps acts on L P N w hW hM).mono ?_
  rintro e w' ⟨rfl, k1, k2, k3⟩
  exact ⟨_, rfl, ⟨n, v, C, _, acts, _, 0, k1, mach_steal hM, by rw [← hW.len]; simp, ho, hX⟩, k2, k3⟩
def KT (C : List Int) (b : PAct) : Prop := b.kind = 2 → 1 ≤ b.at_ → b.t = ld C 0
theorem KT_step {C : List Int} {b : PAct} (h : KT C b) (h0 : b.told = 0) (hw : (pstep (0 : Nat) C b).what = 0) : KT (pstep (0 : Nat) C b).C (pstep (0 : Nat) C b).a := by
  intro hk hat
  have hkb : b.kind = 2 := by
    by_cases hb : b.kind = 2
    · exact hb
    · exfalso
      unfold pstep at hk
      split at hk
      · rename_i e; unfold pushS at hk; split at hk <;> simp [goes, over] at hk <;> omega
      · rename_i e; unfold popS at hk; split at hk <;> (try split at hk) <;> simp [goes, over] at hk <;> omega
      · rw [stealS_kind] at hk; exact hb hk
  have hst : pstep (0 : Nat) C b = stealS (0 : Nat) C b := by simp only [pstep, hkb]
  rw [hst] at hw hat ⊢
  have hb := h hkb
  obtain ⟨kind, av, at', bb, t, aw, an, nw, i, rd, told, got⟩ := b
  simp only at hb
  revert hw hat
  unfold stealS
  split
  · intro _ _; simp [goes]
  · split
    · intro hw; simp [over] at hw
    · intro _ _; simp only [goes]; exact hb (by simp only at *; omega)
  · intro _ _; simp only [goes]; exact hb (by simp only at *; omega)
  · intro _ _; simp only [goes]; exact hb (by simp only at *; omega)
  · intro _ _; simp only [goes]; exact hb (by simp only at *; omega)
  · split
    · intro hw; simp [over] at hw
    · intro hw; simp [over] at hw
theorem set_told {acts : List PAct} {k : Nat} {x : Int} {a' : PAct} (ho : ∀ (j : Nat) b, acts[j]? = some b → b.told ≠ 0) {j : Nat} {b : PAct} (h : ((acts ++ [newA k x]).set acts.length a')[j]? = some b) : b.told ≠ 0 ∨ (j = acts.length ∧ b = a') := by
  by_cases hj : j = acts.length
  · subst hj
    rw [getElem?_set_same (a := newA k x) (by simp)] at h
    cases h
    exact .inr ⟨rfl, rfl⟩
  · rw [getElem?_set_other hj] at h
    rcases get_append h with h | ⟨h, _⟩
    · exact .inl (ho j b h)
    · exact absurd h hj
/-- a thief that is alone loses to nobody -/
theorem thief_alone {Cf : List Int} {acts : List PAct} {k : Nat} {x : Int} {bf : PAct} {on : Option Nat} (ho : ∀ (j : Nat) b, acts[j]? = some b → b.told ≠ 0) (hM : Mach (0 : Nat) Cf ((acts ++ [newA k x]).set acts.length bf) on L P N) (h0 : bf.told = 0) (hk : bf.kind = 2) (hK : KT Cf bf) (hw : (pstep (0 : Nat) Cf bf).what ≠ 0) : L = [] ∧ (pstep (0 : Nat) Cf bf).what = 3 ∨ (pstep (0 : Nat) Cf bf).what = 2 := by
  have hget : ((acts ++ [newA k x]).set acts.length bf)[acts.length]? = some bf := getElem?_set_same (a := newA k x) (by simp)
  have hown : own ((acts ++ [newA k x]).set acts.length bf) on = none := by
    cases on with
    | none => rfl
    | some i =>
      obtain ⟨b, hb, hb2⟩ := hM.onk i rfl
      rcases set_told ho hb with ht | ⟨_, rfl⟩
      · simp only [own, hb, ht, if_false]
      · exact absurd hk hb2
  obtain ⟨ws, cur, q, hc, hO, hs, hL, hT⟩ := hM.ex
  have ht := hT _ bf hget h0 hk
  rw [hown] at hO hL ht
  have hB : ld Cf (((0 : Nat) : Int) + 1) = ld Cf ((0 : Nat) : Int) + q.length := hO
  simp only [hold, pend, List.append_nil] at hL
  have hst : pstep (0 : Nat) Cf bf = stealS (0 : Nat) Cf bf := by simp only [pstep, hk]
  rw [hst] at hw ⊢
  have hK' := hK hk
  have ez : ld Cf ((0 : Nat) : Int) = ld Cf 0 := rfl
  cases ht with
  | s0 e => exfalso; apply hw; unfold stealS; rw [e]; rfl
  | s1 e ht =>
    have h1 := hK' (by omega)
    unfold stealS at hw ⊢
    rw [e] at hw ⊢
    by_cases hge : bf.t ≥ ld Cf (((0 : Nat) : Int) + 1)
    · simp only [if_pos hge]
      refine .inl ⟨?_, rfl⟩
      rw [hL]
      exact List.eq_nil_of_length_eq_zero (by omega)
    · simp only [if_neg hge] at hw
      exact absurd rfl hw
  | s2 e ht hq => exfalso; apply hw; unfold stealS; rw [e]; rfl
  | s3 e ht hq hw' hs => exfalso; apply hw; unfold stealS; rw [e]; rfl
  | s4 e ht hq hw' hs hn => exfalso; apply hw; unfold stealS; rw [e]; rfl
  | s5 e ht hq hr =>
    have h1 := hK' (by omega)
    unfold stealS
    rw [e]
    simp only
    rw [if_pos (by rw [ez, h1])]
    exact .inr rfl
theorem solo_whole {p kind : Nat} (h : SoloOne w B m d p kind L P N X) (hP : P ≤ 1000) (hN : N ≤ 10000) (hX : X ≤ 4000000000000000000) (hk : kind ≤ 2) :
    Calls Try.prog 14 #[.pointer (some ⟨p, 0, none⟩)] w fun e w' => ∃ (what : Nat) (val : Int) (L' : List Int), e = .returned (.tuple #[.int .u8 (what : Int), .int .i64 val, .bool true]) ∧ Ended kind what val L L' ∧ (kind = 2 → L = [] ∧ what = 3 ∨ what = 2) ∧ SoloS w' B m d L' P N (X + 5000) ∧ Only (fun x => B ≤ x) w w' ∧ Far w w' := by
  obtain ⟨n, v, C, ps, acts, on, x, hW, hM, hp, ho, hn⟩ := h
  refine (whole_with KT B m d 0 p acts.length n v C ps _ on L P N (newA kind x) w hW hM hP hN (by omega) (by omega) (by simp) hp rfl hk (fun _ h => by simp [newA] at h) (fun C' b kb b0 _ hw => KT_step kb b0 hw)).mono ?_
  rintro e w' ⟨what, val, rfl, ⟨Cf, bf, k1, k2, k3, k4, k5, k6⟩, o, fr, v', n', C', a', L', hn', w2, m2, he, ht, hk'⟩
  refine ⟨what, val, L', rfl, he, fun hk2 => ?_, ⟨n', v', C', ps, _, on, w2, m2, fun j b hb => ?_, by omega⟩, o, fr⟩
  · have hbk : bf.kind = 2 := k4.trans hk2
    have := thief_alone ho k2 k3 hbk k1 (by rw [← k5]; exact k6)
    rw [← k5] at this
    exact this
  · rcases set_told ho hb with h | ⟨_, rfl⟩
    · exact h
    · exact ht
end
end Go.Proofs.Ytmghlhngdopifaa
