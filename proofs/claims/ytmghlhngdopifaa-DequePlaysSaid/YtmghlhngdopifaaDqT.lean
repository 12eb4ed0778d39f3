/- Deques, plain: acts begin; a deque begins; an act that is done whole. -/
import Derived.Test.YtmghlhngdopifaaDqI
namespace Go.Proofs.Ytmghlhngdopifaa
section
variable {d : Int} {C : List Int} {acts : List PAct} {on : Option Nat} {L : List Int} {P N : Int}
theorem own_append (hon : ∀ i, on = some i → ∃ a, acts[i]? = some a ∧ a.kind ≠ 2) (b : PAct) : own (acts ++ [b]) on = own acts on := by
  cases on with
  | none => rfl
  | some i =>
    obtain ⟨a, ha, _⟩ := hon i rfl
    have := (List.getElem?_eq_some_iff.1 ha).1
    simp only [own, List.getElem?_append_left this]
theorem get_append {b : PAct} {i : Nat} {a : PAct} (h : (acts ++ [b])[i]? = some a) : acts[i]? = some a ∨ (i = acts.length ∧ a = b) := by
  rcases Nat.lt_or_ge i acts.length with hi | hi
  · rw [List.getElem?_append_left hi] at h; exact .inl h
  · rw [List.getElem?_append_right hi] at h
    obtain ⟨k, hk⟩ : ∃ k, i - acts.length = k := ⟨_, rfl⟩
    rw [hk] at h
    cases k with
    | zero => simp at h; exact .inr ⟨by omega, h.symm⟩
    | succ k => simp at h
theorem mach_steal (h : Mach d C acts on L P N) : Mach d C (acts ++ [newA 2 0]) on L P N := by
  obtain ⟨ws, cur, q, hc, ho, hs, hL, hT⟩ := h.ex
  have hown := own_append h.onk (newA 2 0)
  refine ⟨h.hN, fun i hi => ?_, fun i a ha h0 hk => ?_, ws, cur, q, hc, by rw [hown]; exact ho, by rw [hown]; exact hs, by rw [hown]; exact hL, fun i a ha h0 hk => ?_⟩
  · obtain ⟨a, ha, hk⟩ := h.onk i hi
    exact ⟨a, by rw [List.getElem?_append_left (List.getElem?_eq_some_iff.1 ha).1]; exact ha, hk⟩
  · rcases get_append ha with ha | ⟨_, rfl⟩
    · exact h.kinds i a ha h0 hk
    · exact absurd rfl hk
  · rw [hown]
    rcases get_append ha with ha | ⟨_, rfl⟩
    · exact hT i a ha h0 hk
    · exact .s0 rfl
theorem mach_own (h : Mach d C acts on L P N) (hf : own acts on = none) (k : Nat) (v : Int) (hk : k = 0 ∧ 2 * (P + 1) ≤ N ∨ k = 1) :
    Mach d C (acts ++ [newA k v]) (some acts.length) (L ++ (if k = 0 then [v] else [])) (if k = 0 then P + 1 else P) N := by
  obtain ⟨ws, cur, q, hc, ho, hs, hL, hT⟩ := h.ex
  rw [hf] at ho hs hL hT
  have hown : own (acts ++ [newA k v]) (some acts.length) = some (newA k v) := by simp [own, newA]
  have hk2 : k ≠ 2 := by omega
  have hnone : ∀ (i : Nat) a, acts[i]? = some a → a.told = 0 → a.kind ≠ 2 → False := by
    intro i a ha h0 hka
    have := h.kinds i a ha h0 hka
    subst this
    simp only [own, ha, h0, if_true] at hf
    cases hf
  have hB : ld C (d + 1) = ld C d + q.length := ho
  have hnd : need (some (newA k v)) = 1 := by rcases hk with ⟨rfl, _⟩ | rfl <;> simp [need, newA]
  have hhd : hold (some (newA k v)) = [] := by simp [hold, newA]
  have hcap : capNow cur (some (newA k v)) = cur.2 := by simp [capNow, newA]
  have hP : P ≤ (if k = 0 then P + 1 else P) := by split <;> omega
  refine ⟨by split <;> rcases hk with ⟨rfl, hk⟩ | rfl <;> first | omega | exact h.hN | (simp at *; omega), fun i hi => ?_, fun i a ha h0 hka => ?_, ws, cur, q, ⟨hc.d0, hc.dl, hc.lay, hc.apart, hc.curm, hc.wh, hc.top0, by have := hc.topP; omega, hc.room, hc.cont⟩, ?_, by rw [hown, Sz, hcap]; exact hs, ?_, fun i a ha h0 hka => ?_⟩
  · cases hi
    exact ⟨newA k v, by simp, hk2⟩
  · rcases get_append ha with ha | ⟨hi, rfl⟩
    · exact (hnone i a ha h0 hka).elim
    · rw [hi]
  · rw [hown]
    refine ⟨rfl, ?_⟩
    rcases hk with ⟨rfl, _⟩ | rfl
    · exact .inl ⟨rfl, hB, by have := hc.topP; simp; omega, .s0 rfl⟩
    · exact .inr ⟨rfl, .s0 rfl hB⟩
  · rw [hown, hhd, hL]
    rcases hk with ⟨rfl, _⟩ | rfl <;> simp [hold, pend, newA]
  · rw [hown, hnd]
    rcases get_append ha with ha | ⟨_, rfl⟩
    · exact hT i a ha h0 hka
    · exact absurd hka hk2
end
/-- a new deque's cells -/
def newC (n : Nat) : List Int := 0 :: 0 :: 3 :: (n : Int) :: List.replicate n 0
theorem mach_new (n : Nat) (hn : 1 ≤ n) (N : Int) (hN : (n : Int) ≤ N) : Mach 0 (newC n) [] none [] 0 N := by
  have hlen : (newC n).length = n + 4 := by simp [newC]
  refine ⟨by omega, (fun i hi => by cases hi), (fun i a ha => by simp at ha), [(3, (n : Int))], (3, (n : Int)), [], ⟨by omega, by rw [hlen]; omega, fun p hp => ?_, fun p hp r hr => ?_, by simp, ?_, ?_, ?_, by simp, fun j hj => by simp at hj⟩, ?_, ⟨?_, ?_⟩, rfl, fun i a ha => by simp at ha⟩
  · simp at hp
    subst hp
    simp only
    refine ⟨by omega, by omega, by rw [hlen]; omega, ?_⟩
    unfold ld
    rw [if_pos ⟨by omega, by rw [hlen]; omega⟩]
    rfl
  · simp at hp hr
    exact .inl (hp.trans hr.symm)
  · unfold ld; rw [if_pos ⟨by omega, by rw [hlen]; omega⟩]; rfl
  · unfold ld; rw [if_pos ⟨by omega, by rw [hlen]; omega⟩]; simp [newC]
  · unfold ld; rw [if_pos ⟨by omega, by rw [hlen]; omega⟩]; simp [newC]
  · show ld (newC n) (0 + 1) = ld (newC n) 0 + (([] : List Int).length : Int)
    unfold ld; rw [if_pos ⟨by omega, by rw [hlen]; omega⟩, if_pos ⟨by omega, by rw [hlen]; omega⟩]; simp [newC]
  · rw [hlen]; simp only [own, capNow]; omega
  · simp only [own, capNow]; exact hN
end Go.Proofs.Ytmghlhngdopifaa
