/- The walk of thresherlaw04.same. -/
import Derived.Test.YtpnjcgpnannjaaaFrS
import Derived.Test.YtpnjcgpnannjaaaOrd
namespace Go.Proofs.Ytpnjcgpnannjaaa
open Go.RowKit
set_option linter.unusedVariables false
attribute [local simp] frOf dstsOf frGo predsHold allHold Region.binds slotOf seen Is Act.put

/-- a row of frames that may be read -/
structure FRow (w : World) (A : Option Addr) (xs : List (Nat × ByteArray)) : Prop where
  at_ : ∀ k (h : k < xs.length), ∃ g off, A = some ⟨g, off, none⟩ ∧ g < w.heap.size ∧ w.cell? ⟨g, off + k * 2, none⟩ = some (.int .u8 (xs[k].1 : Int)) ∧ w.cell? ⟨g, off + k * 2 + 1, none⟩ = some (.string xs[k].2)
theorem FRow.below {w w' : World} {A : Option Addr} {xs : List (Nat × ByteArray)} (h : FRow w A xs) (hb : Below w.heap.size w w') : FRow w' A xs :=
  ⟨fun k hk => by
    obtain ⟨g, off, h1, h2, h3, h4⟩ := h.at_ k hk
    exact ⟨g, off, h1, Nat.lt_of_lt_of_le h2 hb.size, (hb.cell (p := ⟨g, off + k * 2, none⟩) h2).trans h3, (hb.cell (p := ⟨g, off + k * 2 + 1, none⟩) h2).trans h4⟩⟩
theorem fcells_at (l : List (Nat × ByteArray)) : ∀ (k : Nat) (h : k < l.length), (fcells l)[k * 2]? = some (.int .u8 (l[k].1 : Int)) ∧ (fcells l)[k * 2 + 1]? = some (.string l[k].2) := by
  induction l with
  | nil => intro k h; simp at h
  | cons a l ih =>
    intro k h
    have e : fcells (a :: l) = .int .u8 (a.1 : Int) :: .string a.2 :: fcells l := rfl
    rw [e]
    cases k with
    | zero => exact ⟨rfl, rfl⟩
    | succ k =>
      have := ih k (by simpa using h)
      rw [show (k + 1) * 2 = k * 2 + 2 by omega]
      simpa using this
theorem FRow.of_own {w : World} {base n cap : Nat} {A : Option Addr} {xs : List (Nat × ByteArray)} (h : w.ownsRow base 31 2 (.slice A n cap) xs.length (fcells xs)) : FRow w A xs :=
  ⟨fun k hk => by
    obtain ⟨g, c, hv, _, hlt⟩ := h.form (by omega)
    injection hv with hA hn hc
    subst hA
    obtain ⟨h1, h2⟩ := fcells_at xs k hk
    refine ⟨g, 0, rfl, hlt, ?_, ?_⟩
    · have := h.cells (g := g) rfl (k * 2) _ h1
      rw [Nat.zero_add]
      rcases Nat.eq_zero_or_pos (k * 2) with h0 | h0
      · rw [h0] at this ⊢; simpa [Addr.add] using this
      · rw [show (⟨g, 0, none⟩ : Addr).add (k * 2) = ⟨g, k * 2, none⟩ by simp [Addr.add]; omega] at this; exact this
    · have := h.cells (g := g) rfl (k * 2 + 1) _ h2
      rw [Nat.zero_add]
      rw [show (⟨g, 0, none⟩ : Addr).add (k * 2 + 1) = ⟨g, k * 2 + 1, none⟩ by simp [Addr.add]] at this; exact this⟩

theorem pair_neq {α : Type} (p q : Nat × ByteArray) (X : Bool → α) : (if (p.1 : Int) = (q.1 : Int) then if p.2.toList = q.2.toList then X false else X true else X true) = X (!decide (p = q)) := by
  by_cases h : p = q
  · subst h; simp
  · have hd : decide (p = q) = false := by simpa using h
    rw [hd]
    split
    · rename_i h1
      split
      · rename_i h2
        exact absurd (Prod.ext (by omega) (strs_eq h2)) h
      · rfl
    · rfl
set_option maxHeartbeats 3000000 in
set_option maxRecDepth 100000 in
theorem same_any (xs ys : List (Nat × ByteArray)) (A C : Option Addr) (ca cc : Nat) (w : World) (hx : FRow w A xs) (hy : FRow w C ys) (h1 : xs.length ≤ ca) (h2 : ca ≤ 9223372036854775807) (h3 : ys.length ≤ cc) (h4 : cc ≤ 9223372036854775807) :
    Calls Try.prog 16 #[.slice A xs.length ca, .slice C ys.length cc] w fun e w' => e = .returned (.bool (decide (xs = ys))) ∧ Below w.heap.size w w' := by
  by_cases hl : xs.length = ys.length
  · have HX := Lib.hid hx
    have HY := Lib.hid hy
    have HL := Lib.hid hl
    clear hx hy
    rw [← hl]
    rw [← hl] at h3
    clear hl
    go_enter Try.func16, Try.ntmps16
    go_wp2
    go_loopw [5] (fun i wr => ∃ (k : Nat), k ≤ xs.length ∧ i = .int .i64 k ∧ xs.take k = ys.take k ∧ Below w.heap.size w wr) (fun i _ => xs.length - (intOf i).toNat)
    case atStart => exact ⟨0, by omega, rfl, rfl, Below.refl _ _⟩
    case round =>
      obtain ⟨k, hk, rfl, ht, hb⟩ := hrel
      have HBB := Lib.hid hb
      have HT := Lib.hid ht
      clear ht
      by_cases hlt : k < xs.length
      · obtain ⟨g, off, rfl, hg, a1, a2⟩ := HX.out.at_ k hlt
        obtain ⟨g', off', rfl, hg', b1, b2⟩ := HY.out.at_ k (by rw [← HL.out]; exact hlt)
        have hb0 : (0 : Int) ≤ (k : Int) := by omega
        have hb1 : (k : Int) < (xs.length : Int) := by omega
        have hlt2 : k < ys.length := by rw [← HL.out]; exact hlt
        go_wp2_with fail
        have a1' := (hb.drew.cell (p := ⟨g, off + k * 2, none⟩) hg).trans a1
        have a2' := (hb.drew.cell (p := ⟨g, off + k * 2 + 1, none⟩) hg).trans a2
        have b1' := (hb.drew.cell (p := ⟨g', off' + k * 2, none⟩) hg').trans b1
        have b2' := (hb.drew.cell (p := ⟨g', off' + k * 2 + 1, none⟩) hg').trans b2
        have hG : g < wr.drew.heap.size := Nat.lt_of_lt_of_le hg hb.drew.size
        have hG' : g' < wr.drew.heap.size := Nat.lt_of_lt_of_le hg' hb.drew.size
        clear a1 a2 b1 b2 hb
        refine wp_region_ord (by kernel_rfl) Grows [Is (.slice (some ⟨g, off, none⟩) xs.length ca), Is (.int .i64 k), Is (.pointer (some ⟨g, off + k * 2, none⟩)), Is (.agg #[.int .u8 (xs[k].1 : Int), .string xs[k].2]), Is (.slice (some ⟨g', off', none⟩) xs.length cc), Is (.int .i64 k), Is (.pointer (some ⟨g', off' + k * 2, none⟩)), Is (.agg #[.int .u8 ((ys[k]'hlt2).1 : Int), .string (ys[k]'hlt2).2]), Is (.bool (!(decide (xs[k] = ys[k]'hlt2))))] (by kernel_rfl) Grows.refl Grows.trans
          ⟨is_stab _ _, is_stab _ _, is_stab _ _, is_stab _ _, is_stab _ _, is_stab _ _, is_stab _ _, is_stab _ _, is_stab _ _, trivial⟩ ⟨?_, ?_, ?_, ?_, ?_, ?_, ?_, ?_, ?_, trivial⟩ ?_
        · intro u w1 hR hp K hK
          refine ord_plain rfl ?_
          simp at hp hK ⊢
          go_simp
          exact hK _ _ (Grows.refl _) rfl
        · intro u w1 hR hp K hK
          refine ord_plain rfl ?_
          simp at hp hK ⊢
          go_simp
          exact hK _ _ (Grows.refl _) rfl
        · intro u w1 hR hp K hK
          refine ord_plain rfl ?_
          simp at hp hK ⊢
          obtain ⟨hp1, hp2⟩ := hp
          simp only [hp1, hp2] at hK
          go_simp
          exact hK _ _ (Grows.refl _) rfl
        · intro u w1 hR hp K hK
          refine ord_plain rfl ?_
          simp at hp hK ⊢
          have c1 := (Below.cell hR (p := ⟨g, off + k * 2, none⟩) hG).trans a1'
          have c2 := (Below.cell hR (p := ⟨g, off + k * 2 + 1, none⟩) hG).trans a2'
          simp only [hp] at hK
          go_simp
          exact hK _ _ (Grows.refl _) rfl
        · intro u w1 hR hp K hK
          refine ord_plain rfl ?_
          simp at hp hK ⊢
          go_simp
          exact hK _ _ (Grows.refl _) rfl
        · intro u w1 hR hp K hK
          refine ord_plain rfl ?_
          simp at hp hK ⊢
          go_simp
          exact hK _ _ (Grows.refl _) rfl
        · intro u w1 hR hp K hK
          refine ord_plain rfl ?_
          simp at hp hK ⊢
          obtain ⟨hp1, hp2⟩ := hp
          simp only [hp1, hp2] at hK
          go_simp
          exact hK _ _ (Grows.refl _) rfl
        · intro u w1 hR hp K hK
          refine ord_plain rfl ?_
          simp at hp hK ⊢
          have c1 := (Below.cell hR (p := ⟨g', off' + k * 2, none⟩) hG').trans b1'
          have c2 := (Below.cell hR (p := ⟨g', off' + k * 2 + 1, none⟩) hG').trans b2'
          simp only [hp] at hK
          go_simp
          exact hK _ _ (Grows.refl _) rfl
        · intro u w1 hR hp K hK
          refine ord_plain rfl ?_
          simp at hp hK ⊢
          obtain ⟨hp1, hp2⟩ := hp
          simp only [hp1, hp2] at hK
          go_simp
          rw [pair_neq xs[k] (ys[k]'hlt2) (fun b => Result.ok (Next.value (Value.bool b)) w1)]
          go_simp
          exact hK _ _ (Grows.refl _) rfl
        · intro u w1 hR hp
          simp at hp ⊢
          have h9 := hp.2.2.2.2.2.2.2.2
          simp only [h9]
          have HB := Lib.hid (HBB.out.drew.trans (Below.mono hR HBB.out.drew.size))
          have htk : xs[k] = (ys[k]'hlt2) → xs.take (k + 1) = ys.take (k + 1) := fun h => by rw [take_snoc xs k hlt, take_snoc ys k hlt2, HT.out, h]
          clear hp hR a1' a2' b1' b2' hG hG'
          by_cases hxy : xs[k] = (ys[k]'hlt2)
          · have hd : decide (xs[k] = (ys[k]'hlt2)) = true := by simpa using hxy
            have HTK := Lib.hid (htk hxy)
            rw [hd]
            clear htk hxy hd h9
            go_wp2_with fail
            go_roundw
            case rel => exact ⟨k + 1, by omega, by go_num, HTK.out, HB.out⟩
            case measure => simp [intOf]; omega
          · have hd : decide (xs[k] = (ys[k]'hlt2)) = false := by simpa using hxy
            have hne : decide (xs = ys) = false := by
              simp only [decide_eq_false_iff_not]
              intro e
              subst e
              exact hxy rfl
            have HN := Lib.hid hne
            rw [hd]
            clear htk hxy hd hne h9
            go_wp2
            go_ret
            exact ⟨by rw [HN.out]; rfl, HB.out⟩
      · obtain rfl : k = xs.length := by omega
        have he : decide (xs = ys) = true := by
          rw [decide_eq_true_eq, ← List.take_length (l := xs), HT.out, HL.out, List.take_length]
        have HE := Lib.hid he
        clear hb he
        go_wp2
        go_ret
        exact ⟨by rw [HE.out]; rfl, HBB.out⟩
  · have hne : decide (xs = ys) = false := by simp; intro e; exact hl (by rw [e])
    rw [hne]
    have hl' : ((xs.length : Int) == (ys.length : Int)) = false := by simp; omega
    have hl'' : ((xs.length : Int) != (ys.length : Int)) = true := by simp; omega
    go_enter Try.func16, Try.ntmps16
    go_wp2
    go_ret
    exact ⟨rfl, Below.refl _ _⟩
end Go.Proofs.Ytpnjcgpnannjaaa
