/- The walks of package cell: each method of a memory, by its cells. No conditions beyond what each states. -/
import Derived.Test.YtmghlhngdopifaaWords
import Derived.Test.YtmghlhngdopifaaRows
namespace Go.Proofs.Ytmghlhngdopifaa
open Go.RowKit

/-- A memory of package cell: its struct in block b: steps n, made, cells v, which hold xs. -/
structure CMem (w : World) (B b : Nat) (n : Int) (v : Value) (xs : List Int) : Prop where
  blk : Blk w b 72 #[.int .i64 n, .bool true, v]
  own : w.ownsRow B 2 1 v xs.length (xs.map (.int .i64))
  base : B ≤ b
  n0 : 0 ≤ n
  n1 : n ≤ 4611686018427387904
  len : xs.length ≤ 4611686018427387904

/-- What a step at a place answers of cells xs: the value; the error; how many steps it makes; the cells behind a store. -/
def cellV (xs : List Int) (k : Int) : Int := if 0 ≤ k ∧ k < xs.length then xs.getD k.toNat 0 else 0
def cellE (xs : List Int) (k : Int) : Int := if 0 ≤ k ∧ k < xs.length then 0 else 5
def cellN (xs : List Int) (k : Int) : Int := if 0 ≤ k ∧ k < xs.length then 1 else 0
def cellS (xs : List Int) (k v : Int) : List Int := if 0 ≤ k ∧ k < xs.length then xs.set k.toNat v else xs
def cellIs (xs : List Int) (k old : Int) : Bool := decide (0 ≤ k) && decide (k < xs.length) && (xs.getD k.toNat 0 == old)
def cellW (xs : List Int) (k old v : Int) : List Int := if cellIs xs k old = true then xs.set k.toNat v else xs

theorem cellN_bd (xs : List Int) (k : Int) : 0 ≤ cellN xs k ∧ cellN xs k ≤ 1 := by unfold cellN; split <;> omega
theorem cellS_len (xs : List Int) (k v : Int) : (cellS xs k v).length = xs.length := by unfold cellS; split <;> simp
theorem cellW_len (xs : List Int) (k old v : Int) : (cellW xs k old v).length = xs.length := by unfold cellW; split <;> simp

theorem one_any (b : Nat) (n : Int) (w : World) (h0 : 0 ≤ n) (h1 : n ≤ 4611686018427387904) (hc : w.cell? ⟨b, 0, none⟩ = some (.int .i64 n)) (hf : w.frozen? ⟨b, 0, none⟩ = false) :
    Calls Try.prog 46 #[.pointer (some ⟨b, 0, none⟩)] w fun e w' => e = .returned (.tuple #[]) ∧ w' = w.setCell ⟨b, 0, none⟩ (.int .i64 (n + 1)) := by
  go_enter Try.func46, Try.ntmps46
  go_wp2
  go_end0
  exact ⟨rfl, rfl⟩

/-- step: there is such a cell. -/
theorem step_yes (b g k len cap : Nat) (n : Int) (w : World) (h0 : 0 ≤ n) (h1 : n ≤ 4611686018427387904) (_hlen : len ≤ 4611686018427387904) (hat : k < len)
    (hb : Blk w b 72 #[.int .i64 n, .bool true, .slice (some ⟨g, 0, none⟩) len cap]) :
    Calls Try.prog 35 #[.pointer (some ⟨b, 0, none⟩), .int .i64 k] w fun e w' => e = .returned (.tuple #[.pointer (some ⟨g, k, none⟩), .int .i64 0]) ∧ w' = w.setCell ⟨b, 0, none⟩ (.int .i64 (n + 1)) := by
  have c0 : w.cell? ⟨b, 0, none⟩ = some (.int .i64 n) := hb.cell 0
  have c1 : w.cell? ⟨b, 1, none⟩ = some (.bool true) := hb.cell 1
  have c2 : w.cell? ⟨b, 2, none⟩ = some (.slice (some ⟨g, 0, none⟩) len cap) := hb.cell 2
  have f0 : w.frozen? ⟨b, 0, none⟩ = false := hb.frozen 0
  have c2' : (w.setCell ⟨b, 0, none⟩ (.int .i64 (n + 1))).cell? ⟨b, 2, none⟩ = some (.slice (some ⟨g, 0, none⟩) len cap) := by rw [World.cell?_setCell_other _ _ _ _ (by simp)]; exact c2
  clear hb
  go_enter Try.func35, Try.ntmps35
  go_wp2_with (go_at_call 46; refine (one_any _ _ _ h0 h1 c0 f0).mono ?_; rintro e w' ⟨rfl, rfl⟩)
  go_ret2
  exact ⟨rfl, rfl⟩

/-- step: there is none. -/
theorem step_no (b len cap : Nat) (A : Option Addr) (n k : Int) (w : World) (_hlen : len ≤ 4611686018427387904) (hat : k < 0 ∨ (len : Int) ≤ k)
    (hb : Blk w b 72 #[.int .i64 n, .bool true, .slice A len cap]) :
    Calls Try.prog 35 #[.pointer (some ⟨b, 0, none⟩), .int .i64 k] w fun e w' => e = .returned (.tuple #[.pointer none, .int .i64 5]) ∧ w = w' := by
  have c1 : w.cell? ⟨b, 1, none⟩ = some (.bool true) := hb.cell 1
  have c2 : w.cell? ⟨b, 2, none⟩ = some (.slice A len cap) := hb.cell 2
  clear hb
  by_cases hk : k < 0
  · clear hat
    go_enter Try.func35, Try.ntmps35
    go_wp2_with fail
    go_ret2
    exact ⟨rfl, rfl⟩
  · have hat' : (len : Int) ≤ k := by omega
    clear hat
    go_enter Try.func35, Try.ntmps35
    go_wp2_with fail
    go_ret2
    exact ⟨rfl, rfl⟩

theorem step_nil (k : Int) (w : World) :
    Calls Try.prog 35 #[.pointer none, .int .i64 k] w fun e w' => e = .returned (.tuple #[.pointer none, .int .i64 1]) ∧ w = w' := by
  go_enter Try.func35, Try.ntmps35
  go_wp2_with fail
  go_ret2
  exact ⟨rfl, rfl⟩

theorem CMem.slice {w : World} {B b : Nat} {n : Int} {v : Value} {xs : List Int} (h : CMem w B b n v xs) : ∃ A cap, v = .slice A xs.length cap := by
  rcases owns_form h.own with ⟨rfl, h0⟩ | ⟨g, cap, rfl, _⟩
  · exact ⟨none, 0, by rw [h0]⟩
  · exact ⟨_, cap, rfl⟩
theorem CMem.at_ {w : World} {B b : Nat} {n : Int} {v : Value} {xs : List Int} (h : CMem w B b n v xs) {k : Nat} (hk : k < xs.length) : ∃ g cap, v = .slice (some ⟨g, 0, none⟩) xs.length cap ∧ B ≤ g ∧ g < w.heap.size ∧ g ≠ b ∧ w.cell? ⟨g, k, none⟩ = some (.int .i64 (xs.getD k 0)) ∧ w.frozen? ⟨g, k, none⟩ = false := by
  rcases owns_form h.own with ⟨rfl, h0⟩ | ⟨g, cap, rfl, _, _, h3, h4⟩
  · omega
  · refine ⟨g, cap, rfl, h3, h4, ?_, ?_, h.own.frozenAt k⟩
    · rintro rfl
      exact own_blk_ne h.own h.blk (by decide) rfl
    · rw [h.own.cellAt k (by omega), List.getElem?_map, List.getElem?_eq_getElem hk]; simp [List.getD, hk]

theorem CMem.setN {w : World} {B b : Nat} {n : Int} {v : Value} {xs : List Int} (h : CMem w B b n v xs) (m : Int) (hm0 : 0 ≤ m) (hm1 : m ≤ 4611686018427387904) : CMem (w.setCell ⟨b, 0, none⟩ (.int .i64 m)) B b m v xs :=
  ⟨h.blk.set_ 0 _, Only.owns (S := (· = b)) ((Only.refl (· = b) w).setCell (p := ⟨b, 0, none⟩) (.inl rfl) _) h.own (fun k hk => by rintro rfl; exact own_blk_ne h.own h.blk (by decide) hk), h.base, hm0, hm1, h.len⟩
theorem CMem.store {w : World} {B b g cap : Nat} {n : Int} {xs : List Int} (h : CMem w B b n (.slice (some ⟨g, 0, none⟩) xs.length cap) xs) (hg : g ≠ b) (k : Nat) (x : Int) :
    CMem (w.setCell ⟨g, k, none⟩ (.int .i64 x)) B b n (.slice (some ⟨g, 0, none⟩) xs.length cap) (xs.set k x) := by
  refine ⟨h.blk.far (by simpa using fun e => hg e.symm) _, ?_, h.base, h.n0, h.n1, by simpa using h.len⟩
  have h1 := (h.own.stored k (.int .i64 x)).1
  rw [List.length_set, ← List.map_set] at *
  exact h1
theorem CMem.only {S : Nat → Prop} {w w' : World} {B b : Nat} {n : Int} {v : Value} {xs : List Int} (h : CMem w B b n v xs) (ho : Only S w w') (hb : ¬ S b) (hv : ∀ k, v.ownBlock = some k → ¬ S k) : CMem w' B b n v xs :=
  ⟨ho.blk h.blk hb, ho.owns h.own hv, h.base, h.n0, h.n1, h.len⟩

theorem CMem.drewN {w : World} {B b : Nat} {n : Int} {v : Value} {xs : List Int} (h : CMem w B b n v xs) (k : Nat) : CMem (w.drewN k) B b n v xs := ⟨h.blk, h.own, h.base, h.n0, h.n1, h.len⟩
/-- The blocks of a memory. -/
def mine (b : Nat) (v : Value) (i : Nat) : Prop := i = b ∨ v.ownBlock = some i

theorem load_any (B b : Nat) (n k : Int) (v : Value) (xs : List Int) (w : World) (h : CMem w B b n v xs) (hn : n + 1 ≤ 4611686018427387904) :
    Calls Try.prog 24 #[.pointer (some ⟨b, 0, none⟩), .int .i64 k] w fun e w' => e = .returned (.tuple #[.int .i64 (cellV xs k), .int .i64 (cellE xs k)]) ∧ CMem w' B b (n + cellN xs k) v xs ∧ Only (mine b v) w w' := by
  have hl := h.len
  have hn0 := h.n0
  by_cases hk : 0 ≤ k ∧ k < xs.length
  · have e1 : cellV xs k = xs.getD k.toNat 0 := if_pos hk
    have e2 : cellE xs k = 0 := if_pos hk
    have e3 : cellN xs k = 1 := if_pos hk
    rw [e1, e2, e3]
    clear e1 e2 e3
    obtain ⟨j, rfl⟩ := Int.eq_ofNat_of_zero_le hk.1
    have hj : j < xs.length := by omega
    clear hk
    obtain ⟨g, cap, rfl, _, hg, hgb, hc, hf⟩ := h.at_ hj
    have hs := h.setN (n + 1) (by omega) hn
    have hc' : (w.setCell ⟨b, 0, none⟩ (.int .i64 (n + 1))).cell? ⟨g, j, none⟩ = some (.int .i64 (xs.getD j 0)) := by rw [World.cell?_setCell_other _ _ _ _ (by intro e; injection e with e; exact hgb e.symm)]; exact hc
    have hfin : CMem (w.setCell ⟨b, 0, none⟩ (.int .i64 (n + 1))) B b (n + 1) (.slice (some ⟨g, 0, none⟩) xs.length cap) xs ∧ Only (mine b (.slice (some ⟨g, 0, none⟩) xs.length cap)) w (w.setCell ⟨b, 0, none⟩ (.int .i64 (n + 1))) := ⟨hs, (Only.refl _ _).setCell (.inl (.inl rfl)) _⟩
    have H := Lib.hid hfin
    have Hb := Lib.hid h.blk
    clear hs hfin h hc hf
    simp only [Int.toNat_natCast]
    generalize xs.getD j 0 = x at hc' ⊢
    go_enter Try.func24, Try.ntmps24
    go_wp2_with (go_at_call 35; refine (step_yes _ _ _ _ _ _ _ hn0 (by omega) hl hj Hb.out).mono ?_; rintro e w' ⟨rfl, rfl⟩)
    go_ret2
    exact ⟨rfl, H.out⟩
  · have e1 : cellV xs k = 0 := if_neg hk
    have e2 : cellE xs k = 5 := if_neg hk
    have e3 : cellN xs k = 0 := if_neg hk
    rw [e1, e2, e3, Int.add_zero]
    clear e1 e2 e3
    obtain ⟨A, cap, rfl⟩ := h.slice
    have H := Lib.hid h
    clear h
    go_enter Try.func24, Try.ntmps24
    go_wp2_with (go_at_call 35; refine (step_no _ _ _ _ _ _ _ hl (by omega) H.out.blk).mono ?_; rintro e w' ⟨rfl, rfl⟩)
    go_ret2
    exact ⟨rfl, H.out, Only.refl _ _⟩

theorem store_any (B b : Nat) (n k x : Int) (v : Value) (xs : List Int) (w : World) (h : CMem w B b n v xs) (hn : n + 1 ≤ 4611686018427387904) :
    Calls Try.prog 60 #[.pointer (some ⟨b, 0, none⟩), .int .i64 k, .int .i64 x] w fun e w' => e = .returned (.int .i64 (cellE xs k)) ∧ CMem w' B b (n + cellN xs k) v (cellS xs k x) ∧ Only (mine b v) w w' := by
  have hl := h.len
  have hn0 := h.n0
  by_cases hk : 0 ≤ k ∧ k < xs.length
  · have e1 : cellS xs k x = xs.set k.toNat x := if_pos hk
    have e2 : cellE xs k = 0 := if_pos hk
    have e3 : cellN xs k = 1 := if_pos hk
    rw [e1, e2, e3]
    clear e1 e2 e3
    obtain ⟨j, rfl⟩ := Int.eq_ofNat_of_zero_le hk.1
    have hj : j < xs.length := by omega
    clear hk
    obtain ⟨g, cap, rfl, _, hg, hgb, hc, hf⟩ := h.at_ hj
    have hs := h.setN (n + 1) (by omega) hn
    have hc' : (w.setCell ⟨b, 0, none⟩ (.int .i64 (n + 1))).cell? ⟨g, j, none⟩ = some (.int .i64 (xs.getD j 0)) := by rw [World.cell?_setCell_other _ _ _ _ (by intro e; injection e with e; exact hgb e.symm)]; exact hc
    have hf' : (w.setCell ⟨b, 0, none⟩ (.int .i64 (n + 1))).frozen? ⟨g, j, none⟩ = false := by rw [World.frozen?_setCell]; exact hf
    have hfin : CMem ((w.setCell ⟨b, 0, none⟩ (.int .i64 (n + 1))).setCell ⟨g, j, none⟩ (.int .i64 x)) B b (n + 1) (.slice (some ⟨g, 0, none⟩) xs.length cap) (xs.set j x) ∧ Only (mine b (.slice (some ⟨g, 0, none⟩) xs.length cap)) w ((w.setCell ⟨b, 0, none⟩ (.int .i64 (n + 1))).setCell ⟨g, j, none⟩ (.int .i64 x)) :=
      ⟨hs.store hgb j x, ((Only.refl _ _).setCell (.inl (.inl rfl)) _).setCell (.inl (.inr rfl)) _⟩
    have H := Lib.hid hfin
    have Hb := Lib.hid h.blk
    clear hs hfin h hc hf
    simp only [Int.toNat_natCast]
    generalize xs.getD j 0 = y at hc'
    go_enter Try.func60, Try.ntmps60
    go_wp2_with (go_at_call 35; refine (step_yes _ _ _ _ _ _ _ hn0 (by omega) hl hj Hb.out).mono ?_; rintro e w' ⟨rfl, rfl⟩)
    go_ret
    exact ⟨rfl, H.out⟩
  · have e1 : cellS xs k x = xs := if_neg hk
    have e2 : cellE xs k = 5 := if_neg hk
    have e3 : cellN xs k = 0 := if_neg hk
    rw [e1, e2, e3, Int.add_zero]
    clear e1 e2 e3
    obtain ⟨A, cap, rfl⟩ := h.slice
    have H := Lib.hid h
    clear h
    go_enter Try.func60, Try.ntmps60
    go_wp2_with (go_at_call 35; refine (step_no _ _ _ _ _ _ _ hl (by omega) H.out.blk).mono ?_; rintro e w' ⟨rfl, rfl⟩)
    go_ret
    exact ⟨rfl, H.out, Only.refl _ _⟩

theorem swap_any (B b : Nat) (n k old x : Int) (v : Value) (xs : List Int) (w : World) (h : CMem w B b n v xs) (hn : n + 1 ≤ 4611686018427387904) :
    Calls Try.prog 74 #[.pointer (some ⟨b, 0, none⟩), .int .i64 k, .int .i64 old, .int .i64 x] w fun e w' => e = .returned (.tuple #[.bool (cellIs xs k old), .int .i64 (cellE xs k)]) ∧ CMem w' B b (n + cellN xs k) v (cellW xs k old x) ∧ Only (mine b v) w w' := by
  have hl := h.len
  have hn0 := h.n0
  by_cases hk : 0 ≤ k ∧ k < xs.length
  · have e2 : cellE xs k = 0 := if_pos hk
    have e3 : cellN xs k = 1 := if_pos hk
    rw [e2, e3]
    clear e2 e3
    obtain ⟨j, rfl⟩ := Int.eq_ofNat_of_zero_le hk.1
    have hj : j < xs.length := by omega
    have e4 : cellIs xs (j : Int) old = (xs.getD j 0 == old) := by simp [cellIs, hj]
    clear hk
    obtain ⟨g, cap, rfl, _, hg, hgb, hc, hf⟩ := h.at_ hj
    have hs := h.setN (n + 1) (by omega) hn
    have hc' : (w.setCell ⟨b, 0, none⟩ (.int .i64 (n + 1))).cell? ⟨g, j, none⟩ = some (.int .i64 (xs.getD j 0)) := by rw [World.cell?_setCell_other _ _ _ _ (by intro e; injection e with e; exact hgb e.symm)]; exact hc
    have hf' : (w.setCell ⟨b, 0, none⟩ (.int .i64 (n + 1))).frozen? ⟨g, j, none⟩ = false := by rw [World.frozen?_setCell]; exact hf
    by_cases hold : xs.getD j 0 = old
    · have e5 : cellIs xs (j : Int) old = true := by rw [e4, hold]; simp
      have e6 : cellW xs (j : Int) old x = xs.set j x := by rw [cellW, if_pos e5]; simp
      have hfin : CMem ((w.setCell ⟨b, 0, none⟩ (.int .i64 (n + 1))).setCell ⟨g, j, none⟩ (.int .i64 x)) B b (n + 1) (.slice (some ⟨g, 0, none⟩) xs.length cap) (xs.set j x) ∧ Only (mine b (.slice (some ⟨g, 0, none⟩) xs.length cap)) w ((w.setCell ⟨b, 0, none⟩ (.int .i64 (n + 1))).setCell ⟨g, j, none⟩ (.int .i64 x)) :=
        ⟨hs.store hgb j x, ((Only.refl _ _).setCell (.inl (.inl rfl)) _).setCell (.inl (.inr rfl)) _⟩
      have H := Lib.hid hfin
      have Hb := Lib.hid h.blk
      rw [e5, e6]
      clear hs hfin h hc hf e4 e5 e6
      rw [hold] at hc'
      clear hold
      go_enter Try.func74, Try.ntmps74
      go_wp2_with (go_at_call 35; refine (step_yes _ _ _ _ _ _ _ hn0 (by omega) hl hj Hb.out).mono ?_; rintro e w' ⟨rfl, rfl⟩)
      go_ret2
      exact ⟨rfl, H.out⟩
    · have e5 : cellIs xs (j : Int) old = false := by rw [e4]; simpa using hold
      have e6 : cellW xs (j : Int) old x = xs := by rw [cellW, e5]; simp
      have hfin : CMem (w.setCell ⟨b, 0, none⟩ (.int .i64 (n + 1))) B b (n + 1) (.slice (some ⟨g, 0, none⟩) xs.length cap) xs ∧ Only (mine b (.slice (some ⟨g, 0, none⟩) xs.length cap)) w (w.setCell ⟨b, 0, none⟩ (.int .i64 (n + 1))) :=
        ⟨hs, (Only.refl _ _).setCell (.inl (.inl rfl)) _⟩
      have H := Lib.hid hfin
      have Hb := Lib.hid h.blk
      rw [e5, e6]
      clear hs hfin h hc hf e4 e5 e6
      generalize xs.getD j 0 = y at hc' hold
      have hne : (y != old) = true := by simpa using hold
      clear hold
      go_enter Try.func74, Try.ntmps74
      go_wp2_with (go_at_call 35; refine (step_yes _ _ _ _ _ _ _ hn0 (by omega) hl hj Hb.out).mono ?_; rintro e w' ⟨rfl, rfl⟩)
      go_ret2
      exact ⟨rfl, H.out⟩
  · have e0 : cellIs xs k old = false := by
      unfold cellIs
      by_cases h0 : 0 ≤ k
      · have : ¬ k < xs.length := fun h1 => hk ⟨h0, h1⟩
        simp [this]
      · simp [h0]
    have e1 : cellW xs k old x = xs := by rw [cellW, e0]; simp
    have e2 : cellE xs k = 5 := if_neg hk
    have e3 : cellN xs k = 0 := if_neg hk
    rw [e0, e1, e2, e3, Int.add_zero]
    clear e0 e1 e2 e3
    obtain ⟨A, cap, rfl⟩ := h.slice
    have H := Lib.hid h
    clear h
    go_enter Try.func74, Try.ntmps74
    go_wp2_with (go_at_call 35; refine (step_no _ _ _ _ _ _ _ hl (by omega) H.out.blk).mono ?_; rintro e w' ⟨rfl, rfl⟩)
    go_ret2
    exact ⟨rfl, H.out, Only.refl _ _⟩

theorem len_any (B b : Nat) (n : Int) (v : Value) (xs : List Int) (w : World) (h : CMem w B b n v xs) :
    Calls Try.prog 17 #[.pointer (some ⟨b, 0, none⟩)] w fun e w' => e = .returned (.int .i64 xs.length) ∧ w = w' := by
  obtain ⟨A, cap, rfl⟩ := h.slice
  have c2 : w.cell? ⟨b, 2, none⟩ = some (.slice A xs.length cap) := h.blk.cell 2
  clear h
  go_enter Try.func17, Try.ntmps17
  go_wp2
  go_ret
  exact ⟨rfl, rfl⟩
theorem steps_any (B b : Nat) (n : Int) (v : Value) (xs : List Int) (w : World) (h : CMem w B b n v xs) :
    Calls Try.prog 22 #[.pointer (some ⟨b, 0, none⟩)] w fun e w' => e = .returned (.int .i64 n) ∧ w = w' := by
  have c2 : w.cell? ⟨b, 0, none⟩ = some (.int .i64 n) := h.blk.cell 0
  clear h
  go_enter Try.func22, Try.ntmps22
  go_wp2
  go_ret
  exact ⟨rfl, rfl⟩
theorem new_any (w : World) :
    Calls Try.prog 8 #[] w fun e w' => e = .returned (.pointer (some ⟨w.heap.size, 0, none⟩)) ∧ w' = w.alloc (.cells #[.int .i64 0, .bool true, .slice none 0 0] 72) := by
  go_enter Try.func8, Try.ntmps8
  go_wp2
  go_ret
  exact ⟨rfl, rfl⟩
theorem CMem.new (w : World) (B : Nat) (hB : B ≤ w.heap.size) : CMem (w.alloc (.cells #[.int .i64 0, .bool true, .slice none 0 0] 72)) B w.heap.size 0 (.slice none 0 0) [] :=
  ⟨Blk.new _ _ _, World.ownsRow_nil _ _ _ _, hB, by omega, by omega, by simp⟩

/-- What More answers. -/
def moreA (xs vals : List Int) : Int := if 65536 - (xs.length : Int) < vals.length then 0 else xs.length
def moreE (xs vals : List Int) : Int := if 65536 - (xs.length : Int) < vals.length then 6 else 0
def moreX (xs vals : List Int) : List Int := if 65536 - (xs.length : Int) < vals.length then xs else xs ++ vals
theorem moreX_len (xs vals : List Int) (h : xs.length ≤ 65536) : (moreX xs vals).length ≤ 65536 := by
  unfold moreX
  split
  · exact h
  · rw [List.length_append]; omega

/-- What is new behind a row v: it is the old one's block, or one that was not there. -/
def Newer (w : World) (v v' : Value) : Prop := ∀ k, v'.ownBlock = some k → v.ownBlock = some k ∨ w.heap.size ≤ k
structure Mored (B b : Nat) (n : Int) (v : Value) (xs : List Int) (w w' : World) : Prop where
  ex : ∃ v', CMem w' B b n v' xs ∧ Newer w v v'
  only : Only (mine b v) w w'

theorem Try.infoI : (Try.prog.info? 2).map (fun i => (i.zero, i.size, i.bytes)) = some (some (.int .i64 0), 1, 8) := by kernel_rfl

set_option maxHeartbeats 400000 in
theorem more_any (B b : Nat) (n : Int) (v : Value) (xs vals : List Int) (R : Nat) (A : Option Addr) (c : Nat) (w : World) (h : CMem w B b n v xs) (hr : Reads w R 1 A vals.length (vals.map (.int .i64))) (hx : xs.length ≤ 65536) (_hv : vals.length ≤ maxLen) (hB : B ≤ w.heap.size) :
    Calls Try.prog 18 #[.pointer (some ⟨b, 0, none⟩), .slice A vals.length c] w fun e w' => e = .returned (.tuple #[.int .i64 (moreA xs vals), .int .i64 (moreE xs vals)]) ∧ Mored B b n v (moreX xs vals) w w' := by
  unfold maxLen at _hv
  by_cases hk : 65536 - (xs.length : Int) < vals.length
  · have e1 : moreA xs vals = 0 := if_pos hk
    have e2 : moreE xs vals = 6 := if_pos hk
    have e3 : moreX xs vals = xs := if_pos hk
    rw [e1, e2, e3]
    have H := Lib.hid (show Mored B b n v xs w w from ⟨⟨v, h, fun k hk => .inl hk⟩, Only.refl _ _⟩)
    obtain ⟨A', cap, rfl⟩ := h.slice
    have c1 : w.cell? ⟨b, 1, none⟩ = some (.bool true) := h.blk.cell 1
    have c2 : w.cell? ⟨b, 2, none⟩ = some (.slice A' xs.length cap) := h.blk.cell 2
    clear e1 e2 e3 h hr
    go_enter Try.func18, Try.ntmps18
    go_wp2_with fail
    go_ret2
    exact ⟨rfl, H.out⟩
  · have e1 : moreA xs vals = xs.length := if_neg hk
    have e2 : moreE xs vals = 0 := if_neg hk
    have e3 : moreX xs vals = xs ++ vals := if_neg hk
    rw [e1, e2, e3]
    have H := Lib.hid h
    have Hr := Lib.hid hr
    have hown := Lib.hid h.own
    have hbw := h.blk.lt
    obtain ⟨A', cap, rfl⟩ := h.slice
    have c1 : w.cell? ⟨b, 1, none⟩ = some (.bool true) := h.blk.cell 1
    have c2 : w.cell? ⟨b, 2, none⟩ = some (.slice A' xs.length cap) := h.blk.cell 2
    obtain ⟨i0, hi, hz0, hz1, hz2⟩ := info_parts Try.infoI
    clear e1 e2 e3 h hr
    go_enter Try.func18, Try.ntmps18
    go_wp2_with (at_builtin; refine wpList_append_any _ rfl (.tmp 36) (.tmp 37) 47 rfl B 2 i0 (.int .i64 0) 1 8 Try.underlying47 hi hz0 hz1 hz2 rfl (by decide) _ _ _ rfl hown.out R _ _ _ _ rfl Hr.out ints_oneCell ?c3 ?c4 hB ?_)
    case c3 => unfold maxLen; omega
    case c4 => omega
    intro v' w1 hown' hgrow hnew
    have hne : (Value.slice A' xs.length cap).ownBlock ≠ some b := own_blk_ne hown.out H.out.blk (by decide)
    have hb1 : Blk w1 b 72 #[.int .i64 n, .bool true, .slice A' xs.length cap] := H.out.blk.grown hgrow (fun e => hne e.symm)
    have hfin : Mored B b n (.slice A' xs.length cap) (xs ++ vals) w (w1.setCell ⟨b, 2, none⟩ v') := by
      refine ⟨⟨v', ⟨hb1.set_ 2 v', ?_, H.out.base, H.out.n0, H.out.n1, by simp; omega⟩, ?_⟩, ?_⟩
      · have h1 : w1.ownsRow B 2 1 v' (xs ++ vals).length ((xs ++ vals).map (.int .i64)) := by rw [List.length_append, List.map_append]; exact hown'
        refine Only.owns (S := (· = b)) ((Only.refl (· = b) w1).setCell (p := ⟨b, 2, none⟩) (.inl rfl) _) h1 (fun k hk e => ?_)
        subst e
        exact own_blk_ne h1 hb1 (by decide) hk
      · intro k hk
        rcases hnew with h1 | h1
        · exact .inl (h1 ▸ hk)
        · rw [h1] at hk; injection hk with hk; exact .inr (by omega)
      · exact ((Only.refl _ _).grown hgrow (fun k hk => .inl (.inr hk))).setCell (.inl (.inl rfl)) _
    have c2' : w1.cell? ⟨b, 2, none⟩ = some (.slice A' xs.length cap) := hb1.cell 2
    have f2' : w1.frozen? ⟨b, 2, none⟩ = false := hb1.frozen 2
    have hform : ∃ A2 l2 c2, v' = .slice A2 l2 c2 := by
      rcases owns_form hown' with ⟨h1, _⟩ | ⟨g, cap, h1, _⟩
      · exact ⟨_, _, _, h1⟩
      · exact ⟨_, _, _, h1⟩
    have HF := Lib.hid hfin
    clear hfin hown' hgrow hnew hb1 hne
    obtain ⟨A2, l2, c2, rfl⟩ := hform
    go_wp2_with fail
    go_ret2
    exact ⟨rfl, HF.out⟩
end Go.Proofs.Ytmghlhngdopifaa
