/- The walks of the document's memory (thresherref15). No conditions beyond what each states. -/
import Derived.Test.YtmghlhngdopifaaCellA
namespace Go.Proofs.Ytmghlhngdopifaa
open Go.RowKit

/-- The document's memory: its struct in block b: cells v, which hold xs; steps n. -/
structure DMem (w : World) (B b : Nat) (n : Int) (v : Value) (xs : List Int) : Prop where
  blk : Blk w b 56 #[v, .int .i64 n]
  own : w.ownsRow B 2 1 v xs.length (xs.map (.int .i64))
  base : B ≤ b
  n0 : 0 ≤ n
  n1 : n ≤ 4611686018427387904
  len : xs.length ≤ 4611686018427387904

theorem DMem.slice {w : World} {B b : Nat} {n : Int} {v : Value} {xs : List Int} (h : DMem w B b n v xs) : ∃ A cap, v = .slice A xs.length cap := by
  rcases owns_form h.own with ⟨rfl, h0⟩ | ⟨g, cap, rfl, _⟩
  · exact ⟨none, 0, by rw [h0]⟩
  · exact ⟨_, cap, rfl⟩
theorem DMem.at_ {w : World} {B b : Nat} {n : Int} {v : Value} {xs : List Int} (h : DMem w B b n v xs) {k : Nat} (hk : k < xs.length) : ∃ g cap, v = .slice (some ⟨g, 0, none⟩) xs.length cap ∧ B ≤ g ∧ g < w.heap.size ∧ g ≠ b ∧ w.cell? ⟨g, k, none⟩ = some (.int .i64 (xs.getD k 0)) ∧ w.frozen? ⟨g, k, none⟩ = false := by
  rcases owns_form h.own with ⟨rfl, h0⟩ | ⟨g, cap, rfl, _, _, h3, h4⟩
  · omega
  · refine ⟨g, cap, rfl, h3, h4, ?_, ?_, h.own.frozenAt k⟩
    · rintro rfl
      exact own_blk_ne h.own h.blk (by decide) rfl
    · rw [h.own.cellAt k (by omega), List.getElem?_map, List.getElem?_eq_getElem hk]; simp [List.getD, hk]
theorem DMem.setN {w : World} {B b : Nat} {n : Int} {v : Value} {xs : List Int} (h : DMem w B b n v xs) (m : Int) (hm0 : 0 ≤ m) (hm1 : m ≤ 4611686018427387904) : DMem (w.setCell ⟨b, 1, none⟩ (.int .i64 m)) B b m v xs :=
  ⟨h.blk.set_ 1 _, Only.owns (S := (· = b)) ((Only.refl (· = b) w).setCell (p := ⟨b, 1, none⟩) (.inl rfl) _) h.own (fun k hk => by rintro rfl; exact own_blk_ne h.own h.blk (by decide) hk), h.base, hm0, hm1, h.len⟩
theorem DMem.store {w : World} {B b g cap : Nat} {n : Int} {xs : List Int} (h : DMem w B b n (.slice (some ⟨g, 0, none⟩) xs.length cap) xs) (hg : g ≠ b) (k : Nat) (x : Int) :
    DMem (w.setCell ⟨g, k, none⟩ (.int .i64 x)) B b n (.slice (some ⟨g, 0, none⟩) xs.length cap) (xs.set k x) := by
  refine ⟨h.blk.far (by simpa using fun e => hg e.symm) _, ?_, h.base, h.n0, h.n1, by simpa using h.len⟩
  have h1 := (h.own.stored k (.int .i64 x)).1
  rw [List.length_set, ← List.map_set] at *
  exact h1
theorem DMem.only {S : Nat → Prop} {w w' : World} {B b : Nat} {n : Int} {v : Value} {xs : List Int} (h : DMem w B b n v xs) (ho : Only S w w') (hb : ¬ S b) (hv : ∀ k, v.ownBlock = some k → ¬ S k) : DMem w' B b n v xs :=
  ⟨ho.blk h.blk hb, ho.owns h.own hv, h.base, h.n0, h.n1, h.len⟩

theorem there_yes (b k len cap : Nat) (A : Option Addr) (n : Int) (w : World) (_hlen : len ≤ 4611686018427387904) (hat : k < len)
    (hb : Blk w b 56 #[.slice A len cap, .int .i64 n]) :
    Calls Try.prog 53 #[.pointer (some ⟨b, 0, none⟩), .int .i64 k] w fun e w' => e = .returned (.bool true) ∧ w = w' := by
  have c0 : w.cell? ⟨b, 0, none⟩ = some (.slice A len cap) := hb.cell 0
  clear hb
  go_enter Try.func53, Try.ntmps53
  go_wp2
  go_ret
  exact ⟨rfl, rfl⟩
theorem there_no (b len cap : Nat) (A : Option Addr) (n k : Int) (w : World) (_hlen : len ≤ 4611686018427387904) (hat : k < 0 ∨ (len : Int) ≤ k)
    (hb : Blk w b 56 #[.slice A len cap, .int .i64 n]) :
    Calls Try.prog 53 #[.pointer (some ⟨b, 0, none⟩), .int .i64 k] w fun e w' => e = .returned (.bool false) ∧ w = w' := by
  have c0 : w.cell? ⟨b, 0, none⟩ = some (.slice A len cap) := hb.cell 0
  clear hb
  by_cases hk : k < 0
  · clear hat
    go_enter Try.func53, Try.ntmps53
    go_wp2
    go_ret
    exact ⟨rfl, rfl⟩
  · have hat' : (len : Int) ≤ k := by omega
    have hk' : 0 ≤ k := by omega
    have hd : decide (k < (len : Int)) = false := by simpa using hat'
    clear hat hk
    go_enter Try.func53, Try.ntmps53
    go_wp2
    go_ret
    exact ⟨rfl, rfl⟩

theorem dload_any (B b : Nat) (n k : Int) (v : Value) (xs : List Int) (w : World) (h : DMem w B b n v xs) (hn : n + 1 ≤ 4611686018427387904) :
    Calls Try.prog 51 #[.pointer (some ⟨b, 0, none⟩), .int .i64 k] w fun e w' => e = .returned (.tuple #[.int .i64 (cellV xs k), .int .i64 (cellE xs k)]) ∧ DMem w' B b (n + cellN xs k) v xs ∧ Only (mine b v) w w' := by
  have hl := h.len
  have hn0 := h.n0
  by_cases hk : 0 ≤ k ∧ k < xs.length
  · have e1 : cellV xs k = xs.getD k.toNat 0 := if_pos hk
    have e2 : cellE xs k = 0 := if_pos hk
    have e3 : cellN xs k = 1 := if_pos hk
    rw [e1, e2, e3]
    clear e1 e2 e3
    obtain ⟨j, rfl⟩ := Int.eq_ofNat_of_zero_le hk.1
    have hj : j < xs.length := by omega
    clear hk
    obtain ⟨g, cap, rfl, _, hg, hgb, hc, hf⟩ := h.at_ hj
    have hs := h.setN (n + 1) (by omega) hn
    have c0 : w.cell? ⟨b, 1, none⟩ = some (.int .i64 n) := h.blk.cell 1
    have f0 : w.frozen? ⟨b, 1, none⟩ = false := h.blk.frozen 1
    have c1 : (w.setCell ⟨b, 1, none⟩ (.int .i64 (n + 1))).cell? ⟨b, 0, none⟩ = some (.slice (some ⟨g, 0, none⟩) xs.length cap) := hs.blk.cell 0
    have hc' : (w.setCell ⟨b, 1, none⟩ (.int .i64 (n + 1))).cell? ⟨g, j, none⟩ = some (.int .i64 (xs.getD j 0)) := by rw [World.cell?_setCell_other _ _ _ _ (by intro e; injection e with e; exact hgb e.symm)]; exact hc
    have hfin : DMem (w.setCell ⟨b, 1, none⟩ (.int .i64 (n + 1))) B b (n + 1) (.slice (some ⟨g, 0, none⟩) xs.length cap) xs ∧ Only (mine b (.slice (some ⟨g, 0, none⟩) xs.length cap)) w (w.setCell ⟨b, 1, none⟩ (.int .i64 (n + 1))) := ⟨hs, (Only.refl _ _).setCell (.inl (.inl rfl)) _⟩
    have H := Lib.hid hfin
    have Hb := Lib.hid h.blk
    clear hs hfin h hc hf
    simp only [Int.toNat_natCast]
    generalize xs.getD j 0 = x at hc' ⊢
    go_enter Try.func51, Try.ntmps51
    go_wp2_with (go_at_call 53; refine (there_yes _ _ _ _ _ _ _ hl hj Hb.out).mono ?_; rintro e w' ⟨rfl, rfl⟩)
    go_ret2
    exact ⟨rfl, H.out⟩
  · have e1 : cellV xs k = 0 := if_neg hk
    have e2 : cellE xs k = 5 := if_neg hk
    have e3 : cellN xs k = 0 := if_neg hk
    rw [e1, e2, e3, Int.add_zero]
    clear e1 e2 e3
    obtain ⟨A, cap, rfl⟩ := h.slice
    have H := Lib.hid h
    clear h
    go_enter Try.func51, Try.ntmps51
    go_wp2_with (go_at_call 53; refine (there_no _ _ _ _ _ _ _ hl (by omega) H.out.blk).mono ?_; rintro e w' ⟨rfl, rfl⟩)
    go_ret2
    exact ⟨rfl, H.out, Only.refl _ _⟩

theorem dstore_any (B b : Nat) (n k x : Int) (v : Value) (xs : List Int) (w : World) (h : DMem w B b n v xs) (hn : n + 1 ≤ 4611686018427387904) :
    Calls Try.prog 52 #[.pointer (some ⟨b, 0, none⟩), .int .i64 k, .int .i64 x] w fun e w' => e = .returned (.int .i64 (cellE xs k)) ∧ DMem w' B b (n + cellN xs k) v (cellS xs k x) ∧ Only (mine b v) w w' := by
  have hl := h.len
  have hn0 := h.n0
  by_cases hk : 0 ≤ k ∧ k < xs.length
  · have e1 : cellS xs k x = xs.set k.toNat x := if_pos hk
    have e2 : cellE xs k = 0 := if_pos hk
    have e3 : cellN xs k = 1 := if_pos hk
    rw [e1, e2, e3]
    clear e1 e2 e3
    obtain ⟨j, rfl⟩ := Int.eq_ofNat_of_zero_le hk.1
    have hj : j < xs.length := by omega
    clear hk
    obtain ⟨g, cap, rfl, _, hg, hgb, hc, hf⟩ := h.at_ hj
    have hs := h.setN (n + 1) (by omega) hn
    have c0 : w.cell? ⟨b, 1, none⟩ = some (.int .i64 n) := h.blk.cell 1
    have f0 : w.frozen? ⟨b, 1, none⟩ = false := h.blk.frozen 1
    have c1 : (w.setCell ⟨b, 1, none⟩ (.int .i64 (n + 1))).cell? ⟨b, 0, none⟩ = some (.slice (some ⟨g, 0, none⟩) xs.length cap) := hs.blk.cell 0
    have hc' : (w.setCell ⟨b, 1, none⟩ (.int .i64 (n + 1))).cell? ⟨g, j, none⟩ = some (.int .i64 (xs.getD j 0)) := by rw [World.cell?_setCell_other _ _ _ _ (by intro e; injection e with e; exact hgb e.symm)]; exact hc
    have hf' : (w.setCell ⟨b, 1, none⟩ (.int .i64 (n + 1))).frozen? ⟨g, j, none⟩ = false := by rw [World.frozen?_setCell]; exact hf
    have hfin : DMem ((w.setCell ⟨b, 1, none⟩ (.int .i64 (n + 1))).setCell ⟨g, j, none⟩ (.int .i64 x)) B b (n + 1) (.slice (some ⟨g, 0, none⟩) xs.length cap) (xs.set j x) ∧ Only (mine b (.slice (some ⟨g, 0, none⟩) xs.length cap)) w ((w.setCell ⟨b, 1, none⟩ (.int .i64 (n + 1))).setCell ⟨g, j, none⟩ (.int .i64 x)) :=
      ⟨hs.store hgb j x, ((Only.refl _ _).setCell (.inl (.inl rfl)) _).setCell (.inl (.inr rfl)) _⟩
    have H := Lib.hid hfin
    have Hb := Lib.hid h.blk
    clear hs hfin h hc hf
    simp only [Int.toNat_natCast]
    generalize xs.getD j 0 = y at hc'
    go_enter Try.func52, Try.ntmps52
    go_wp2_with (go_at_call 53; refine (there_yes _ _ _ _ _ _ _ hl hj Hb.out).mono ?_; rintro e w' ⟨rfl, rfl⟩)
    go_ret
    exact ⟨rfl, H.out⟩
  · have e1 : cellS xs k x = xs := if_neg hk
    have e2 : cellE xs k = 5 := if_neg hk
    have e3 : cellN xs k = 0 := if_neg hk
    rw [e1, e2, e3, Int.add_zero]
    clear e1 e2 e3
    obtain ⟨A, cap, rfl⟩ := h.slice
    have H := Lib.hid h
    clear h
    go_enter Try.func52, Try.ntmps52
    go_wp2_with (go_at_call 53; refine (there_no _ _ _ _ _ _ _ hl (by omega) H.out.blk).mono ?_; rintro e w' ⟨rfl, rfl⟩)
    go_ret
    exact ⟨rfl, H.out, Only.refl _ _⟩

theorem dswap_any (B b : Nat) (n k old x : Int) (v : Value) (xs : List Int) (w : World) (h : DMem w B b n v xs) (hn : n + 1 ≤ 4611686018427387904) :
    Calls Try.prog 45 #[.pointer (some ⟨b, 0, none⟩), .int .i64 k, .int .i64 old, .int .i64 x] w fun e w' => e = .returned (.tuple #[.bool (cellIs xs k old), .int .i64 (cellE xs k)]) ∧ DMem w' B b (n + cellN xs k) v (cellW xs k old x) ∧ Only (mine b v) w w' := by
  have hl := h.len
  have hn0 := h.n0
  by_cases hk : 0 ≤ k ∧ k < xs.length
  · have e2 : cellE xs k = 0 := if_pos hk
    have e3 : cellN xs k = 1 := if_pos hk
    rw [e2, e3]
    clear e2 e3
    obtain ⟨j, rfl⟩ := Int.eq_ofNat_of_zero_le hk.1
    have hj : j < xs.length := by omega
    have e4 : cellIs xs (j : Int) old = (xs.getD j 0 == old) := by simp [cellIs, hj]
    clear hk
    obtain ⟨g, cap, rfl, _, hg, hgb, hc, hf⟩ := h.at_ hj
    have hs := h.setN (n + 1) (by omega) hn
    have c0 : w.cell? ⟨b, 1, none⟩ = some (.int .i64 n) := h.blk.cell 1
    have f0 : w.frozen? ⟨b, 1, none⟩ = false := h.blk.frozen 1
    have c1 : (w.setCell ⟨b, 1, none⟩ (.int .i64 (n + 1))).cell? ⟨b, 0, none⟩ = some (.slice (some ⟨g, 0, none⟩) xs.length cap) := hs.blk.cell 0
    have hc' : (w.setCell ⟨b, 1, none⟩ (.int .i64 (n + 1))).cell? ⟨g, j, none⟩ = some (.int .i64 (xs.getD j 0)) := by rw [World.cell?_setCell_other _ _ _ _ (by intro e; injection e with e; exact hgb e.symm)]; exact hc
    have hf' : (w.setCell ⟨b, 1, none⟩ (.int .i64 (n + 1))).frozen? ⟨g, j, none⟩ = false := by rw [World.frozen?_setCell]; exact hf
    by_cases hold : xs.getD j 0 = old
    · have e5 : cellIs xs (j : Int) old = true := by rw [e4, hold]; simp
      have e6 : cellW xs (j : Int) old x = xs.set j x := by rw [cellW, if_pos e5]; simp
      have hfin : DMem ((w.setCell ⟨b, 1, none⟩ (.int .i64 (n + 1))).setCell ⟨g, j, none⟩ (.int .i64 x)) B b (n + 1) (.slice (some ⟨g, 0, none⟩) xs.length cap) (xs.set j x) ∧ Only (mine b (.slice (some ⟨g, 0, none⟩) xs.length cap)) w ((w.setCell ⟨b, 1, none⟩ (.int .i64 (n + 1))).setCell ⟨g, j, none⟩ (.int .i64 x)) :=
        ⟨hs.store hgb j x, ((Only.refl _ _).setCell (.inl (.inl rfl)) _).setCell (.inl (.inr rfl)) _⟩
      have H := Lib.hid hfin
      have Hb := Lib.hid h.blk
      rw [e5, e6]
      clear hs hfin h hc hf e4 e5 e6
      rw [hold] at hc'
      clear hold
      go_enter Try.func45, Try.ntmps45
      go_wp2_with (go_at_call 53; refine (there_yes _ _ _ _ _ _ _ hl hj Hb.out).mono ?_; rintro e w' ⟨rfl, rfl⟩)
      go_ret2
      exact ⟨rfl, H.out⟩
    · have e5 : cellIs xs (j : Int) old = false := by rw [e4]; simpa using hold
      have e6 : cellW xs (j : Int) old x = xs := by rw [cellW, e5]; simp
      have hfin : DMem (w.setCell ⟨b, 1, none⟩ (.int .i64 (n + 1))) B b (n + 1) (.slice (some ⟨g, 0, none⟩) xs.length cap) xs ∧ Only (mine b (.slice (some ⟨g, 0, none⟩) xs.length cap)) w (w.setCell ⟨b, 1, none⟩ (.int .i64 (n + 1))) :=
        ⟨hs, (Only.refl _ _).setCell (.inl (.inl rfl)) _⟩
      have H := Lib.hid hfin
      have Hb := Lib.hid h.blk
      rw [e5, e6]
      clear hs hfin h hc hf e4 e5 e6
      generalize xs.getD j 0 = y at hc' hold
      have hne : (y != old) = true := by simpa using hold
      clear hold
      go_enter Try.func45, Try.ntmps45
      go_wp2_with (go_at_call 53; refine (there_yes _ _ _ _ _ _ _ hl hj Hb.out).mono ?_; rintro e w' ⟨rfl, rfl⟩)
      go_ret2
      exact ⟨rfl, H.out⟩
  · have e0 : cellIs xs k old = false := by
      unfold cellIs
      by_cases h0 : 0 ≤ k
      · have : ¬ k < xs.length := fun h1 => hk ⟨h0, h1⟩
        simp [this]
      · simp [h0]
    have e1 : cellW xs k old x = xs := by rw [cellW, e0]; simp
    have e2 : cellE xs k = 5 := if_neg hk
    have e3 : cellN xs k = 0 := if_neg hk
    rw [e0, e1, e2, e3, Int.add_zero]
    clear e0 e1 e2 e3
    obtain ⟨A, cap, rfl⟩ := h.slice
    have H := Lib.hid h
    clear h
    go_enter Try.func45, Try.ntmps45
    go_wp2_with (go_at_call 53; refine (there_no _ _ _ _ _ _ _ hl (by omega) H.out.blk).mono ?_; rintro e w' ⟨rfl, rfl⟩)
    go_ret2
    exact ⟨rfl, H.out, Only.refl _ _⟩

structure DMored (B b : Nat) (n : Int) (v : Value) (xs : List Int) (w w' : World) : Prop where
  ex : ∃ v', DMem w' B b n v' xs ∧ Newer w v v'
  only : Only (mine b v) w w'

set_option maxHeartbeats 400000 in
theorem dmore_any (B b : Nat) (n : Int) (v : Value) (xs vals : List Int) (R : Nat) (A : Option Addr) (c : Nat) (w : World) (h : DMem w B b n v xs) (hr : Reads w R 1 A vals.length (vals.map (.int .i64))) (hx : xs.length ≤ 65536) (_hv : vals.length ≤ maxLen) (hB : B ≤ w.heap.size) :
    Calls Try.prog 31 #[.pointer (some ⟨b, 0, none⟩), .slice A vals.length c] w fun e w' => e = .returned (.tuple #[.int .i64 (moreA xs vals), .int .i64 (moreE xs vals)]) ∧ DMored B b n v (moreX xs vals) w w' := by
  unfold maxLen at _hv
  by_cases hk : 65536 - (xs.length : Int) < vals.length
  · have e1 : moreA xs vals = 0 := if_pos hk
    have e2 : moreE xs vals = 6 := if_pos hk
    have e3 : moreX xs vals = xs := if_pos hk
    rw [e1, e2, e3]
    have H := Lib.hid (show DMored B b n v xs w w from ⟨⟨v, h, fun k hk => .inl hk⟩, Only.refl _ _⟩)
    obtain ⟨A', cap, rfl⟩ := h.slice
    have c2 : w.cell? ⟨b, 0, none⟩ = some (.slice A' xs.length cap) := h.blk.cell 0
    clear e1 e2 e3 h hr
    go_enter Try.func31, Try.ntmps31
    go_wp2_with fail
    go_ret2
    exact ⟨rfl, H.out⟩
  · have e1 : moreA xs vals = xs.length := if_neg hk
    have e2 : moreE xs vals = 0 := if_neg hk
    have e3 : moreX xs vals = xs ++ vals := if_neg hk
    rw [e1, e2, e3]
    have H := Lib.hid h
    have Hr := Lib.hid hr
    have hown := Lib.hid h.own
    have hbw := h.blk.lt
    obtain ⟨A', cap, rfl⟩ := h.slice
    have c2 : w.cell? ⟨b, 0, none⟩ = some (.slice A' xs.length cap) := h.blk.cell 0
    obtain ⟨i0, hi, hz0, hz1, hz2⟩ := info_parts Try.infoI
    clear e1 e2 e3 h hr
    go_enter Try.func31, Try.ntmps31
    go_wp2_with (at_builtin; refine wpList_append_any _ rfl (.tmp 25) (.tmp 26) 47 rfl B 2 i0 (.int .i64 0) 1 8 Try.underlying47 hi hz0 hz1 hz2 rfl (by decide) _ _ _ rfl hown.out R _ _ _ _ rfl Hr.out ints_oneCell ?c3 ?c4 hB ?_)
    case c3 => unfold maxLen; omega
    case c4 => omega
    intro v' w1 hown' hgrow hnew
    have hne : (Value.slice A' xs.length cap).ownBlock ≠ some b := own_blk_ne hown.out H.out.blk (by decide)
    have hb1 : Blk w1 b 56 #[.slice A' xs.length cap, .int .i64 n] := H.out.blk.grown hgrow (fun e => hne e.symm)
    have hfin : DMored B b n (.slice A' xs.length cap) (xs ++ vals) w (w1.setCell ⟨b, 0, none⟩ v') := by
      refine ⟨⟨v', ⟨hb1.set_ 0 v', ?_, H.out.base, H.out.n0, H.out.n1, by rw [List.length_append]; omega⟩, ?_⟩, ?_⟩
      · have h1 : w1.ownsRow B 2 1 v' (xs ++ vals).length ((xs ++ vals).map (.int .i64)) := by rw [List.length_append, List.map_append]; exact hown'
        refine Only.owns (S := (· = b)) ((Only.refl (· = b) w1).setCell (p := ⟨b, 0, none⟩) (.inl rfl) _) h1 (fun k hk e => ?_)
        subst e
        exact own_blk_ne h1 hb1 (by decide) hk
      · intro k hk
        rcases hnew with h1 | h1
        · exact .inl (h1 ▸ hk)
        · rw [h1] at hk; injection hk with hk; exact .inr (by omega)
      · exact ((Only.refl _ _).grown hgrow (fun k hk => .inl (.inr hk))).setCell (.inl (.inl rfl)) _
    have c2' : w1.cell? ⟨b, 0, none⟩ = some (.slice A' xs.length cap) := hb1.cell 0
    have f2' : w1.frozen? ⟨b, 0, none⟩ = false := hb1.frozen 0
    have hform : ∃ A2 l2 c2, v' = .slice A2 l2 c2 := by
      rcases owns_form hown' with ⟨h1, _⟩ | ⟨g, cap, h1, _⟩
      · exact ⟨_, _, _, h1⟩
      · exact ⟨_, _, _, h1⟩
    have HF := Lib.hid hfin
    clear hfin hown' hgrow hnew hb1 hne
    obtain ⟨A2, l2, c2, rfl⟩ := hform
    go_wp2_with fail
    go_ret2
    exact ⟨rfl, HF.out⟩
end Go.Proofs.Ytmghlhngdopifaa
