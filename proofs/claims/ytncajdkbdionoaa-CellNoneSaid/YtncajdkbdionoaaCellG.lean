/- CellNone: its walk. -/
import Derived.Test.YtncajdkbdionoaaCellB
import Derived.Deep.RegionWith
namespace Go.Proofs.Ytncajdkbdionoaa
open Go.RowKit
set_option linter.unusedVariables false

theorem more_nil (A : Option Addr) (n c : Nat) (w : World) : Calls Try.prog 9 #[.pointer none, .slice A n c] w fun e w' => e = .returned (.tuple #[.int .i64 0, .int .i64 1]) ∧ w = w' := by
  go_enter Try.func9, Try.ntmps9
  go_wp2_with fail
  go_ret2
  exact ⟨rfl, rfl⟩
theorem load_nil (k : Int) (w : World) : Calls Try.prog 11 #[.pointer none, .int .i64 k] w fun e w' => e = .returned (.tuple #[.int .i64 0, .int .i64 1]) ∧ w = w' := by
  go_enter Try.func11, Try.ntmps11
  go_wp2_with (go_at_call 19; refine (step_nil _ _).mono ?_; rintro e w' ⟨rfl, rfl⟩)
  go_ret2
  exact ⟨rfl, rfl⟩
theorem store_nil (k x : Int) (w : World) : Calls Try.prog 13 #[.pointer none, .int .i64 k, .int .i64 x] w fun e w' => e = .returned (.int .i64 1) ∧ w = w' := by
  go_enter Try.func13, Try.ntmps13
  go_wp2_with (go_at_call 19; refine (step_nil _ _).mono ?_; rintro e w' ⟨rfl, rfl⟩)
  go_ret
  exact ⟨rfl, rfl⟩
theorem swap_nil (k o x : Int) (w : World) : Calls Try.prog 15 #[.pointer none, .int .i64 k, .int .i64 o, .int .i64 x] w fun e w' => e = .returned (.tuple #[.bool false, .int .i64 1]) ∧ w = w' := by
  go_enter Try.func15, Try.ntmps15
  go_wp2_with (go_at_call 19; refine (step_nil _ _).mono ?_; rintro e w' ⟨rfl, rfl⟩)
  go_ret2
  exact ⟨rfl, rfl⟩
theorem len_nil (w : World) : Calls Try.prog 17 #[.pointer none] w fun e w' => e = .returned (.int .i64 0) ∧ w = w' := by
  go_enter Try.func17, Try.ntmps17
  go_wp2
  go_ret
  exact ⟨rfl, rfl⟩
theorem steps_nil (w : World) : Calls Try.prog 18 #[.pointer none] w fun e w' => e = .returned (.int .i64 0) ∧ w = w' := by
  go_enter Try.func18, Try.ntmps18
  go_wp2
  go_ret
  exact ⟨rfl, rfl⟩

def zeros : List Int := List.replicate 65536 0
theorem zeros_len : zeros.length = 65536 := List.length_replicate
def zerosRow : Array Value := (zeros.map (.int .i64)).toArray
theorem zerosRow_eq : madeCells #[Value.int .i64 0] 65536 = zerosRow := by
  apply Array.ext'
  rw [toList_madeCells_one]
  unfold zerosRow zeros
  rw [List.map_replicate]
theorem make_zeros (W : World) : (Instr.makeSlice 28 (.int .i64 65536) (.int .i64 65536)).run Try.prog W = .ok (.slice (some ⟨W.heap.size, 0, none⟩) 65536 65536) (W.alloc (.cells zerosRow 2)) := by
  obtain ⟨i0, hi, hz0, hz1, hz2⟩ := info_parts Try.infoI
  have h := run_make_rowN (P := Try.prog) 28 2 i0 (.int .i64 0) Try.underlying28 hi hz0 .i64 .i64 65536 65536 (Nat.le_refl _) (by rw [hz2]; decide) (by decide) W
  rw [hz1, Nat.mul_one, show (Value.int .i64 0).cells = #[Value.int .i64 0] from rfl, zerosRow_eq] at h
  exact h
theorem more_zeros_A : moreA [] zeros = 0 := by unfold moreA; rw [zeros_len]; decide
theorem more_zeros_E : moreE [] zeros = 0 := by unfold moreE; rw [zeros_len]; decide
theorem more_zeros_X : moreX [] zeros = zeros := by unfold moreX; rw [zeros_len]; rw [if_neg (by decide)]; rfl
theorem more_full_A (x : Int) : moreA zeros [x] = 0 := by unfold moreA; rw [zeros_len]; rw [if_pos (by simp)]
theorem more_full_E (x : Int) : moreE zeros [x] = 6 := by unfold moreE; rw [zeros_len]; rw [if_pos (by simp)]
theorem more_full_X (x : Int) : moreX zeros [x] = zeros := by unfold moreX; rw [zeros_len]; rw [if_pos (by simp)]
theorem more_none_E : moreE zeros [] = 0 := by unfold moreE; rw [zeros_len]; rw [if_neg (by simp)]
theorem more_none_X : moreX zeros [] = zeros := by unfold moreX; rw [zeros_len]; rw [if_neg (by simp)]; simp
attribute [irreducible] zeros zerosRow

set_option maxHeartbeats 2000000 in
set_option maxRecDepth 100000 in
theorem none_any (k x : Int) (w : World) :
    Calls Try.prog 5 #[.int .i64 k, .int .i64 x] w fun e w' => e = .returned (.bool true) ∧ Below w.heap.size w w' := by
  go_enter Try.func5, Try.ntmps5
  go_wp2_with fail
  refine (more_nil _ _ _ _).mono ?_
  rintro e w0 ⟨rfl, rfl⟩
  go_wp2_with fail
  refine (load_nil _ _).mono ?_
  rintro e w0 ⟨rfl, rfl⟩
  go_wp2_with fail
  refine (swap_nil _ _ _ _).mono ?_
  rintro e w0 ⟨rfl, rfl⟩
  go_wp2_with fail
  refine (new_cm _ w.heap.size (by simp)).mono ?_
  rintro e w1 ⟨rfl, h1, o1⟩
  have hz1 := o1.size
  simp only [World.size_alloc] at hz1 h1
  have hl1 := h1.blk.lt
  have hb1 := Lib.hid ((((Below.refl w.heap.size w).alloc (Nat.le_refl _) _).trans (o1.below (B := w.heap.size) (fun _ h => h.elim) (by simp))))
  have H1 := Lib.hid h1
  clear h1 o1
  have hmk := make_zeros
  simp only [World.size_alloc]
  go_wp2_with fail
  have h2 := H1.out.only ((Only.refl (fun _ => False) w1).alloc (.cells zerosRow 2)) (fun h => h) (fun _ _ h => h)
  have hrz : Reads (w1.alloc (.cells zerosRow 2)) (w1.heap.size + 1) 1 (some ⟨w1.heap.size, 0, none⟩) zeros.length (zeros.map (.int .i64)) := by
    have := reads_new (w := w1) (xs := zeros) (t := 2)
    rw [show (zeros.map (Value.int .i64)).toArray = zerosRow by unfold zerosRow; rfl] at this
    exact this
  have hcall := more_any w.heap.size (w.heap.size + 1) 0 _ [] zeros _ _ 65536 _ h2 hrz (by simp) (by rw [zeros_len]; simp [maxLen]) (by simp; omega)
  rw [zeros_len, more_zeros_A, more_zeros_E, more_zeros_X] at hcall
  have HC := Lib.hid hcall
  have hb2 := Lib.hid (hb1.out.alloc (by omega) (.cells zerosRow 2))
  have hm2 := Lib.hid h2.mine
  clear hcall hrz h2 hmk
  refine HC.out.mono ?_
  clear HC
  rintro e w2 ⟨rfl, ⟨v2, h3, _⟩, o3⟩
  have hb3 := Lib.hid (hb2.out.trans (o3.below hm2.out (by simp; omega)))
  have hz2 := hb3.out.size
  have H3 := Lib.hid h3
  clear h3 o3
  go_wp2_with fail
  have h4 := H3.out.only ((Only.refl (fun _ => False) w2).alloc (.cells #[.int .i64 x] 2)) (fun h => h) (fun _ _ h => h)
  have hcall := more_any w.heap.size (w.heap.size + 1) 0 _ zeros [x] _ _ 1 _ h4 (reads_new (w := w2) (xs := [x]) (t := 2)) (by rw [zeros_len]; omega) (by simp [maxLen]) (by simp; omega)
  rw [more_full_A, more_full_E, more_full_X] at hcall
  have HC := Lib.hid hcall
  have hb4 := Lib.hid (hb3.out.alloc (by omega) (.cells #[.int .i64 x] 2))
  have hm4 := Lib.hid h4.mine
  clear hcall h4
  refine HC.out.mono ?_
  clear HC
  rintro e w3 ⟨rfl, ⟨v3, h5, _⟩, o5⟩
  have hb5 := Lib.hid (hb4.out.trans (o5.below hm4.out (by simp; omega)))
  have hz3 := hb5.out.size
  have H5 := Lib.hid h5
  clear h5 o5
  go_wp2_with fail
  have hcall := more_any w.heap.size (w.heap.size + 1) 0 _ zeros [] 0 none 0 _ H5.out Reads.none_ (by rw [zeros_len]; omega) (by simp) (by omega)
  rw [more_none_E, more_none_X] at hcall
  have HC := Lib.hid hcall
  clear hcall
  refine HC.out.mono ?_
  clear HC
  rintro e w4 ⟨rfl, ⟨v4, h6, _⟩, o6⟩
  have hb6 := Lib.hid (hb5.out.trans (o6.below H5.out.mine (by omega)))
  have H6 := Lib.hid h6
  have hlz := zeros_len
  clear h6 o6
  go_wp2_with (first
    | (go_at_call 13; refine (store_nil _ _ _).mono ?_; rintro e w' ⟨rfl, rfl⟩)
    | (go_at_call_of 17 (Value.pointer none); refine (len_nil _).mono ?_; rintro e w' ⟨rfl, rfl⟩)
    | (go_at_call 18; refine (steps_nil _).mono ?_; rintro e w' ⟨rfl, rfl⟩)
    | (go_at_call 17; refine (len_any _ _ _ _ _ _ H6.out).mono ?_; rintro e w' ⟨rfl, rfl⟩)
    | (go_at_call 7; refine (works_any _).mono ?_; rintro e w5 ⟨rfl, hb7⟩))
  go_ret
  exact ⟨rfl, hb6.out.trans (hb7.mono hb6.out.size)⟩
end Go.Proofs.Ytncajdkbdionoaa
