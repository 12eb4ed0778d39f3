/- The walk of strings.Join with nothing between. -/
import Derived.Test.YtpnjcgpnannjaaaStrC
namespace Go.Proofs.Ytpnjcgpnannjaaa
open Go.RowKit
set_option linter.unusedVariables false

def cat (xs : List ByteArray) : ByteArray := xs.foldl (· ++ ·) ⟨#[]⟩
theorem bs_cat (xs : List ByteArray) : bs (cat xs) = (xs.map bs).flatten := by
  have : ∀ (xs : List ByteArray) (a : ByteArray), bs (xs.foldl (· ++ ·) a) = bs a ++ (xs.map bs).flatten := by
    intro xs
    induction xs with
    | nil => intro a; simp
    | cons x xs ih => intro a; simp only [List.foldl_cons, ih, bs_append, List.map_cons, List.flatten_cons, List.append_assoc]
  have h := this xs ⟨#[]⟩
  rw [show bs ⟨#[]⟩ = [] from rfl, List.nil_append] at h
  exact h
theorem cat_snoc (xs : List ByteArray) (y : ByteArray) : cat (xs ++ [y]) = cat xs ++ y := by simp [cat, List.foldl_append]
theorem cat_one (y : ByteArray) : cat [y] = y := by
  apply bs_inj; rw [bs_cat]; simp
def sum (xs : List ByteArray) : Nat := (cat xs).size
theorem sum_snoc (xs : List ByteArray) (y : ByteArray) : sum (xs ++ [y]) = sum xs + y.size := by unfold sum; rw [cat_snoc, ByteArray.size_append]
theorem take_snoc {α : Type} (xs : List α) (k : Nat) (h : k < xs.length) : xs.take (k + 1) = xs.take k ++ [xs[k]] := List.take_succ_eq_append_getElem h
theorem sum_take (xs : List ByteArray) (k : Nat) (h : k < xs.length) : sum (xs.take (k + 1)) = sum (xs.take k) + xs[k].size := by rw [take_snoc _ _ h, sum_snoc]
theorem sum_take_le (xs : List ByteArray) (k : Nat) : sum (xs.take k) ≤ sum xs := by
  have h1 := congrArg List.length (bs_cat (xs.take k))
  have h2 := congrArg List.length (bs_cat xs)
  rw [bs_len] at h1 h2
  unfold sum
  have e : (xs.map bs).flatten = ((xs.take k).map bs).flatten ++ ((xs.drop k).map bs).flatten := by rw [← List.flatten_append, ← List.map_append, List.take_append_drop]
  rw [h1, h2, e, List.length_append]
  omega
theorem strCells_append (a b : ByteArray) : Lib.strCells (a ++ b) = Lib.strCells a ++ Lib.strCells b := by simp [Lib.strCells]

/-- a row of texts -/
structure TextRow (w : World) (A : Option Addr) (xs : List ByteArray) : Prop where
  at_ : ∀ j, (h : j < xs.length) → ∃ g off, A = some ⟨g, off, none⟩ ∧ g < w.heap.size ∧ w.cell? ⟨g, off + j, none⟩ = some (.string xs[j])
theorem TextRow.below {w w' : World} {A : Option Addr} {xs : List ByteArray} (h : TextRow w A xs) (hb : Below w.heap.size w w') : TextRow w' A xs :=
  ⟨fun j hj => by
    obtain ⟨g, off, h1, h2, h3⟩ := h.at_ j hj
    exact ⟨g, off, h1, Nat.lt_of_lt_of_le h2 hb.size, (hb.cell (p := ⟨g, off + j, none⟩) h2).trans h3⟩⟩

set_option maxHeartbeats 3000000 in
set_option maxRecDepth 100000 in
theorem sjoin_any (xs : List ByteArray) (A : Option Addr) (cap : Nat) (w : World) (hr : TextRow w A xs) (hn : xs.length ≤ cap) (hcap : cap ≤ 9223372036854775807) (hs : sum xs ≤ 1099511627776) :
    Calls Try.prog 19 #[.slice A xs.length cap, .string ⟨#[]⟩] w fun e w' => e = .returned (.string (cat xs)) ∧ Below w.heap.size w w' := by
  have HR := Lib.hid hr
  clear hr
  by_cases h0 : xs.length = 0
  · have : xs = [] := List.eq_nil_of_length_eq_zero h0
    subst this
    go_enter Try.func19, Try.ntmps19
    go_wp2
    go_ret
    exact ⟨rfl, Below.refl _ _⟩
  · obtain ⟨g, off, rfl, hg, hc0⟩ := HR.out.at_ 0 (by omega)
    by_cases h1 : xs.length = 1
    · obtain ⟨y, rfl⟩ := List.length_eq_one_iff.1 h1
      have hc : w.cell? ⟨g, off, none⟩ = some (.string y) := hc0
      rw [cat_one]
      go_enter Try.func19, Try.ntmps19
      go_wp2
      go_ret
      exact ⟨rfl, Below.refl _ _⟩
    · have hcell : ∀ j, (h : j < xs.length) → w.cell? ⟨g, off + j, none⟩ = some (.string xs[j]) := by
        intro j hj
        obtain ⟨g', off', e, _, h⟩ := HR.out.at_ j hj
        injection e with e; injection e with e1 e2; subst e1; subst e2
        exact h
      have HC := Lib.hid hcell
      have hlen : 2 ≤ xs.length := by omega
      have hl63 : xs.length ≤ 9223372036854775807 := by omega
      have HS := Lib.hid hs
      clear hcell hc0 h0 h1 HR hs
      go_enter Try.func19, Try.ntmps19
      go_wp2_with fail
      go_loop [5, 41] (fun n i => ∃ k : Nat, k ≤ xs.length ∧ i = .int .i64 k ∧ n = .int .i64 ((sum (xs.take k) : Nat) : Int)) (fun _ i => xs.length - (intOf i).toNat)
      case atStart => exact ⟨0, by omega, rfl, rfl⟩
      case round =>
        obtain ⟨k, hk, rfl, rfl⟩ := hrel
        by_cases hlt : k < xs.length
        · have hck := HC.out k hlt
          have hst := sum_take xs k hlt
          have hle := sum_take_le xs (k + 1)
          have hle2 := HS.out
          generalize xs[k] = y at *
          generalize hS : sum (xs.take k) = S at *
          have HST := Lib.hid hst
          have hb1 : S + y.size ≤ 1099511627776 := by omega
          clear hst hle hle2
          go_wp2_with fail
          go_round
          case rel => exact ⟨k + 1, by omega, by go_num, by rw [HST.out]; go_num⟩
          case measure => simp [intOf] <;> omega
        · obtain rfl : k = xs.length := by omega
          go_wp2_with fail
          have HB0 := Lib.hid ((Below.refl w.heap.size w).alloc (Nat.le_refl _) (.cells #[.pointer none, .slice none 0 0] 73))
          have hs2 := HS.out
          refine (Try.Builder_Grow_fresh w.heap.size w.heap.size (sum xs) (w.alloc (.cells #[.pointer none, .slice none 0 0] 73)) (Nat.le_refl _) (heap_alloc_new _ _) HB0.out.size (by omega)).mono ?_
          rintro e w1 ⟨rfl, hu1, hb1⟩
          have HU1 := Lib.hid (Or.inr (a := Lib.BuilderAt 73 5 w.heap.size w.heap.size (.pointer none) [] w1) hu1)
          have HB1 := Lib.hid (HB0.out.trans hb1)
          have hck := (HB1.out.cell (p := ⟨g, off + 0, none⟩) hg).trans (HC.out 0 (by omega))
          rw [Nat.add_zero] at hck
          clear hb1 hu1 HB0 hs2 hk hlt
          have hx0 : xs.take 1 = [xs[0]] := by rw [show (1 : Nat) = 0 + 1 from rfl, take_snoc xs 0 (by omega)]; simp
          have hy : (xs[0]).size ≤ 1099511627776 := by
            have h1 := sum_take_le xs 1
            have h2 := HS.out
            rw [hx0] at h1
            unfold sum at h1 h2
            rw [cat_one] at h1
            omega
          have HX := Lib.hid hx0
          clear hx0
          generalize xs[0] = y at *
          go_wp2_with fail
          refine (wstring_any w.heap.size w.heap.size [] y w1 HU1.out (by simp; omega) HB1.out.size).mono ?_
          rintro e w2 ⟨rfl, hu2, hb2⟩
          have HU2 : Hid (Lib.IsBuilder 73 5 w.heap.size w.heap.size (Lib.strCells (cat (xs.take 1))) w2) := Lib.hid (.inr (by rw [HX.out, cat_one]; simpa using hu2))
          have HB2 := Lib.hid (HB1.out.trans hb2)
          clear hu2 hb2 HU1 HB1 HX hck hy
          go_wp2_with fail
          go_loopw [65] (fun i wr => ∃ k : Nat, k + 1 ≤ xs.length ∧ i = .int .i64 k ∧ Lib.IsBuilder 73 5 w.heap.size w.heap.size (Lib.strCells (cat (xs.take (k + 1)))) wr ∧ Below w.heap.size w wr) (fun i _ => xs.length - (intOf i).toNat)
          case atStart => exact ⟨0, by omega, rfl, HU2.out, HB2.out⟩
          case round =>
            obtain ⟨k, hk, rfl, hbu, hbl⟩ := hrel
            have HU := Lib.hid hbu
            have HB := Lib.hid hbl
            have hsz : Hid ((Lib.strCells (cat (xs.take (k + 1)))).length ≤ 1099511627776) := Lib.hid (by
              rw [Lib.strCells_length]
              have h1 := sum_take_le xs (k + 1)
              have h2 := HS.out
              unfold sum at h1 h2
              omega)
            clear hbu hbl HU2 HB2
            by_cases hlt : k + 1 < xs.length
            · have hck := (HB.out.cell (p := ⟨g, off + (k + 1), none⟩) hg).trans (HC.out (k + 1) hlt)
              have hnx := take_snoc xs (k + 1) hlt
              have hy : Hid (xs[k + 1].size ≤ 1099511627776) := Lib.hid (by
                have h1 := sum_take_le xs (k + 1 + 1)
                have h2 := HS.out
                have h3 := sum_take xs (k + 1) hlt
                omega)
              have HX := Lib.hid hnx
              clear hnx
              generalize xs[k + 1] = y at *
              have e1 : off + (k + 1) = off + 1 + k := by omega
              rw [e1] at hck
              go_wp2_with fail
              refine (wstring_any w.heap.size w.heap.size _ ⟨#[]⟩ wr HU.out (by have := hsz.out; simp [ByteArray.size]; omega) HB.out.size).mono ?_
              rintro e w3 ⟨rfl, hu3, hb3⟩
              have HU3 : Hid (Lib.IsBuilder 73 5 w.heap.size w.heap.size (Lib.strCells (cat (xs.take (k + 1)))) w3) := Lib.hid (.inr (by simpa [Lib.strCells] using hu3))
              have HB3 := Lib.hid (HB.out.trans hb3)
              clear hu3 hb3 HU HB hck
              go_wp2_with fail
              refine (wstring_any w.heap.size w.heap.size _ y w3 HU3.out (by have := hsz.out; have := hy.out; omega) HB3.out.size).mono ?_
              rintro e w4 ⟨rfl, hu4, hb4⟩
              have HU4 : Hid (Lib.IsBuilder 73 5 w.heap.size w.heap.size (Lib.strCells (cat (xs.take (k + 1 + 1)))) w4) := Lib.hid (.inr (by rw [HX.out, cat_snoc, strCells_append]; exact hu4))
              have HB4 := Lib.hid (HB3.out.trans hb4)
              clear hu4 hb4 HU3 HB3
              go_wp2_with fail
              go_roundw
              case rel => exact ⟨k + 1, by omega, by go_num, HU4.out, HB4.out⟩
              case measure => simp [intOf] <;> omega
            · have hkl : xs.length = k + 1 := by omega
              have hta : xs.take (k + 1) = xs := List.take_of_length_le (by omega)
              rw [hta] at HU
              go_wp2_with fail
              refine (bstring_any w.heap.size w.heap.size (cat xs) wr HU.out HB.out.size).mono ?_
              rintro e w5 ⟨rfl, hb5⟩
              have HB5 := Lib.hid (HB.out.trans hb5)
              clear hb5 HU HB
              go_wp2
              go_ret
              exact ⟨rfl, HB5.out⟩
end Go.Proofs.Ytpnjcgpnannjaaa
