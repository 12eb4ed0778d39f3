/- The walks of what the statements of layer 15 share: works, heavy; scripts as they lie in memory. -/
import Derived.Test.YtncajdkbdionoaaCellR
namespace Go.Proofs.Ytncajdkbdionoaa
open Go.RowKit

theorem new_cm (w : World) (B : Nat) (hB : B ≤ w.heap.size) :
    Calls Try.prog 8 #[] w fun e w' => e = .returned (.pointer (some ⟨w.heap.size, 0, none⟩)) ∧ CMem w' B w.heap.size 0 (.slice none 0 0) [] ∧ Only (fun _ => False) w w' :=
  (new_any w).mono fun _ _ ⟨he, hw⟩ => ⟨he, hw ▸ CMem.new w B hB, hw ▸ (Only.refl _ _).alloc _⟩

theorem CMem.mine {w : World} {B b : Nat} {n : Int} {v : Value} {xs : List Int} (h : CMem w B b n v xs) : ∀ i, mine b v i → B ≤ i := by
  rintro i (rfl | hi)
  · exact h.base
  · exact (h.own.lt i hi).1
theorem DMem.mine {w : World} {B b : Nat} {n : Int} {v : Value} {xs : List Int} (h : DMem w B b n v xs) : ∀ i, mine b v i → B ≤ i := by
  rintro i (rfl | hi)
  · exact h.base
  · exact (h.own.lt i hi).1

theorem reads_new {w : World} {xs : List Int} {t : TypeId} : Reads (w.alloc (.cells (xs.map (Value.int .i64)).toArray t)) (w.heap.size + 1) 1 (some ⟨w.heap.size, 0, none⟩) xs.length (xs.map (.int .i64)) :=
  ⟨by simp, fun _ => ⟨_, rfl, by simp, fun j u hu => by
    have e : (⟨w.heap.size, 0, none⟩ : Addr).add j = ⟨w.heap.size, j, none⟩ := by unfold Addr.add; split <;> simp_all
    rw [e, World.cell?_alloc_new]
    simpa using hu⟩⟩

theorem reads_two {w : World} {t : TypeId} (x y : Int) : Reads (w.alloc (.cells #[.int .i64 x, .int .i64 y] t)) (w.heap.size + 1) 1 (some ⟨w.heap.size, 0, none⟩) 2 ([x, y].map (.int .i64)) :=
  reads_new (xs := [x, y])

set_option maxHeartbeats 1000000 in
theorem works_any (w : World) : Calls Try.prog 7 #[] w fun e w' => e = .returned (.bool true) ∧ Below w.heap.size w w' := by
  go_enter Try.func7, Try.ntmps7
  go_wp2_with fail
  refine (new_cm w w.heap.size (Nat.le_refl _)).mono ?_
  rintro e w1 ⟨rfl, h1, o1⟩
  have hz1 := o1.size
  have hl1 := h1.blk.lt
  have H1 := Lib.hid h1
  have O1 := Lib.hid o1
  clear h1 o1
  go_wp2_with fail
  have a1 : moreA [] [7, 8] = 0 := by decide
  have a2 : moreE [] [7, 8] = 0 := by decide
  have h2 := H1.out.only ((Only.refl (fun _ => False) w1).alloc (.cells #[.int .i64 7, .int .i64 8] 2)) (fun h => h) (fun _ _ h => h)
  refine (more_any w.heap.size _ 0 _ [] [7, 8] _ _ _ _ h2 (reads_two 7 8) (by simp) (by simp [maxLen]) (by simp; omega)).mono ?_
  rintro e w2 ⟨rfl, ⟨v2, h3, _⟩, o3⟩
  have a3 : moreX [] [7, 8] = [7, 8] := by decide
  have B1 := ((O1.out.below (B := w.heap.size) (fun _ h => h.elim) (Nat.le_refl _)).alloc (by omega) (.cells #[.int .i64 7, .int .i64 8] 2)).trans (o3.below h2.mine (by simp; omega))
  have H3 := Lib.hid (a3 ▸ h3)
  have O3 := Lib.hid o3
  clear h2 h3 o3 a3
  go_wp2_with fail
  have a4 : cellIs [7, 8] 1 8 = true := by decide
  have a5 : cellE [7, 8] 1 = 0 := by decide
  refine (swap_any _ _ _ _ _ _ _ _ _ H3.out (by omega)).mono ?_
  rintro e w3 ⟨rfl, h4, o4⟩
  have a6 : cellW [7, 8] 1 8 9 = [7, 9] := by decide
  have a7 : (0 : Int) + cellN [7, 8] 1 = 1 := by decide
  have H4 := Lib.hid (a7 ▸ a6 ▸ h4)
  have O4 := Lib.hid o4
  clear h4 o4 a6 a7
  go_wp2_with fail
  have a8 : cellIs [7, 9] 1 8 = false := by decide
  have a9 : cellE [7, 9] 1 = 0 := by decide
  refine (swap_any _ _ _ _ _ _ _ _ _ H4.out (by omega)).mono ?_
  rintro e w4 ⟨rfl, h5, o5⟩
  have b1 : cellW [7, 9] 1 8 9 = [7, 9] := by decide
  have b2 : (1 : Int) + cellN [7, 9] 1 = 2 := by decide
  have H5 := Lib.hid (b2 ▸ b1 ▸ h5)
  have O5 := Lib.hid o5
  clear h5 o5 b1 b2
  go_wp2_with fail
  have b3 : cellV [7, 9] 1 = 9 := by decide
  refine (load_any _ _ _ _ _ _ _ H5.out (by omega)).mono ?_
  rintro e w5 ⟨rfl, h6, o6⟩
  have b4 : (2 : Int) + cellN [7, 9] 1 = 3 := by decide
  have H6 := Lib.hid (b4 ▸ h6)
  have O6 := Lib.hid o6
  clear h6 o6 b4
  go_wp2_with (first
    | (go_at_call 18; refine (steps_any _ _ _ _ _ _ H6.out).mono ?_; rintro e w' ⟨rfl, rfl⟩)
    | (go_at_call 17; refine (len_any _ _ _ _ _ _ H6.out).mono ?_; rintro e w' ⟨rfl, rfl⟩))
  go_ret
  have s2 := B1.size
  have B3 := B1.trans (O4.out.below H3.out.mine s2)
  have B4 := B3.trans (O5.out.below H4.out.mine B3.size)
  exact ⟨rfl, B4.trans (O6.out.below H5.out.mine B4.size)⟩

/-- A step of a script, as the arguments' memory holds it. -/
structure SD where
  kind : Int
  place : Int
  val : Int
  old : Int
  list : List Int
  la : Option Addr
  lc : Nat

/-- A script that lies in memory below block R. -/
def Scr (w : World) (R : Nat) (A : Option Addr) (ss : List SD) : Prop :=
  ∀ i s, ss[i]? = some s → ∃ b off, A = some ⟨b, off, none⟩ ∧ b < R ∧ w.cell? ⟨b, off + i * 5, none⟩ = some (.int .i64 s.kind) ∧ w.cell? ⟨b, off + i * 5 + 1, none⟩ = some (.int .i64 s.place) ∧
    w.cell? ⟨b, off + i * 5 + 2, none⟩ = some (.int .i64 s.val) ∧ w.cell? ⟨b, off + i * 5 + 3, none⟩ = some (.int .i64 s.old) ∧ w.cell? ⟨b, off + i * 5 + 4, none⟩ = some (.slice s.la s.list.length s.lc) ∧
    Reads w R 1 s.la s.list.length (s.list.map (.int .i64)) ∧ s.list.length ≤ s.lc ∧ s.lc ≤ maxLen
theorem Scr.below {w w' : World} {R : Nat} {A : Option Addr} {ss : List SD} (h : Scr w R A ss) (hb : Below R w w') : Scr w' R A ss := by
  intro i s hs
  obtain ⟨b, off, h1, h2, c0, c1, c2, c3, c4, hr, h3⟩ := h i s hs
  exact ⟨b, off, h1, h2, (hb.cell (p := ⟨b, _, none⟩) h2).trans c0, (hb.cell (p := ⟨b, _, none⟩) h2).trans c1, (hb.cell (p := ⟨b, _, none⟩) h2).trans c2, (hb.cell (p := ⟨b, _, none⟩) h2).trans c3, (hb.cell (p := ⟨b, _, none⟩) h2).trans c4, hr.below hb, h3⟩

def lens (ss : List SD) (k : Nat) : Int := ((ss.take k).map (fun s => min (s.list.length : Int) 1048576)).sum
theorem lens_succ (ss : List SD) (k : Nat) (s : SD) (h : ss[k]? = some s) : lens ss (k + 1) = lens ss k + min (s.list.length : Int) 1048576 := by
  unfold lens
  have hk : k < ss.length := (List.getElem?_eq_some_iff.1 h).1
  have e : ss[k] = s := (List.getElem?_eq_some_iff.1 h).2
  rw [List.take_succ_eq_append_getElem hk, e]
  simp
theorem lens_bd (ss : List SD) (k : Nat) : 0 ≤ lens ss k ∧ lens ss k ≤ k * 1048576 := by
  induction k with
  | zero => simp [lens]
  | succ k ih =>
    cases h : ss[k]? with
    | none =>
      have e : lens ss (k + 1) = lens ss k := by
        have : ss.length ≤ k := by simpa using h
        unfold lens
        rw [List.take_of_length_le (by omega), List.take_of_length_le (by omega)]
      rw [e]; omega
    | some s => rw [lens_succ ss k s h]; omega
theorem lens_mem (ss : List SD) (k j : Nat) (s : SD) (h : ss[k]? = some s) (hj : k < j) : min (s.list.length : Int) 1048576 ≤ lens ss j := by
  induction j with
  | zero => omega
  | succ j ih =>
    have hb := lens_bd ss j
    by_cases e : k = j
    · subst e; rw [lens_succ ss k s h]; omega
    · cases h' : ss[j]? with
      | none =>
        have : ss.length ≤ j := by simpa using h'
        have e2 : lens ss (j + 1) = lens ss j := by unfold lens; rw [List.take_of_length_le (by omega), List.take_of_length_le (by omega)]
        rw [e2]; exact ih (by omega)
      | some t => have := ih (by omega); rw [lens_succ ss j t h']; omega
def heavyB (ss : List SD) : Bool := decide (300 < ss.length) || decide (16384 < lens ss (min ss.length 400))

set_option maxHeartbeats 400000 in
set_option maxRecDepth 100000 in
theorem heavy_any (R : Nat) (A : Option Addr) (c : Nat) (ss : List SD) (w : World) (h : Scr w R A ss) (hl : ss.length ≤ maxLen) :
    Calls Try.prog 6 #[.slice A ss.length c] w fun e w' => e = .returned (.bool (heavyB ss)) ∧ w = w' := by
  unfold maxLen at hl
  have H := Lib.hid h
  clear h
  go_enter Try.func6, Try.ntmps6
  go_wp2
  go_loop [3, 4] (fun n i => ∃ k : Nat, k ≤ ss.length ∧ k ≤ 400 ∧ i = .int .i64 k ∧ n = .int .i64 (lens ss k)) (fun _ i => ss.length - (intOf i).toNat)
  case atStart => exact ⟨0, by omega, by omega, rfl, by simp [lens]⟩
  case round =>
    obtain ⟨k, hk, hk4, rfl, rfl⟩ := hrel
    have hd := lens_bd ss k
    by_cases hlt : k < ss.length
    · by_cases hlt4 : k < 400
      · obtain ⟨s, hs⟩ : ∃ s, ss[k]? = some s := ⟨_, List.getElem?_eq_getElem hlt⟩
        obtain ⟨b, off, rfl, hb, c0, c1, c2, c3, c4, hr, hlc, hlc'⟩ := H.out k s hs
        have hn := Lib.hid (lens_succ ss k s hs)
        unfold maxLen at hlc'
        clear hr hs c0 c1 c2 c3
        generalize hL : lens ss k = L at *
        have HL := Lib.hid hL
        clear hL
        go_wp2
        go_round
        case rel => exact ⟨k + 1, by omega, by omega, by go_num, by rw [hn.out]; exact congrArg (fun z => Value.int .i64 (L + z)) (by split <;> omega)⟩
        case measure => simp [intOf]; omega
      · have hfin : heavyB ss = true := by simp [heavyB]; omega
        have HF := Lib.hid hfin
        clear hfin
        have hd4 : decide ((k : Int) < 400) = false := by simp; omega
        have h3 : (300 : Int) < ss.length := by omega
        generalize hL : lens ss k = L at *
        clear hL
        go_wp2
        go_ret
        exact ⟨ret_bool HF.out.symm, rfl⟩
    · have hfin : heavyB ss = (decide (300 < (ss.length : Int)) || decide (16384 < lens ss k)) := by
        have e : min ss.length 400 = k := by omega
        have e1 : decide (300 < ss.length) = decide ((300 : Int) < ss.length) := decide_eq_decide.2 (by omega)
        unfold heavyB
        rw [e, e1]
      have HF := Lib.hid hfin
      clear hfin
      generalize hL : lens ss k = L at *
      clear hL
      by_cases h3 : (300 : Int) < ss.length
      · go_wp2
        go_ret
        exact ⟨ret_bool (by rw [HF.out]; simp [h3]), rfl⟩
      · have h3' : decide ((300 : Int) < ss.length) = false := by simpa using h3
        clear h3
        go_wp2
        go_ret
        exact ⟨ret_bool (by rw [HF.out, h3']; simp), rfl⟩
end Go.Proofs.Ytncajdkbdionoaa
