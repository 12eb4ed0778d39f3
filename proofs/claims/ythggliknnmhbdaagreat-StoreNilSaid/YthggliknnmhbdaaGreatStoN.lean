/- What no store, and no disk, answer; StoreNil's walk. -/
import Derived.Test.YthggliknnmhbdaaGreatStoreW
import Derived.Test.YthggliknnmhbdaaGreatWords
import Derived.Test.YthggliknnmhbdaaGreatRows
namespace Go.Proofs.YthggliknnmhbdaaGreat
open Go.RowKit Go.Proofs.YthggliknnmhbdaaGreat.Abs
set_option linter.unusedVariables false
noncomputable def no_plan : Plan := ⟨fun _ => false, fun _ _ => none⟩
set_option maxRecDepth 1000000 in
theorem open_run : callF Tryz.prog no_plan (execF Tryz.prog no_plan 10000) .h 6 [.nilp] .h .lf (kIs (.tup [.nilp, .str [], .nils, .int .i64 1])) = some [] := by kernel_rfl
set_option maxRecDepth 1000000 in
theorem make_run : callF Tryz.prog no_plan (execF Tryz.prog no_plan 10000) .h 7 [.nilp, .sym 1] .h .lf (kIs (.int .i64 1)) = some [] := by kernel_rfl
set_option maxRecDepth 1000000 in
theorem append_run : callF Tryz.prog no_plan (execF Tryz.prog no_plan 10000) .h 8 [.nilp, .sym 1] .h .lf (kIs (.int .i64 1)) = some [] := by kernel_rfl
set_option maxRecDepth 1000000 in
theorem sync_run : callF Tryz.prog no_plan (execF Tryz.prog no_plan 10000) .h 9 [.nilp] .h .lf (kIs (.int .i64 1)) = some [] := by kernel_rfl
set_option maxRecDepth 1000000 in
theorem trim_run : callF Tryz.prog no_plan (execF Tryz.prog no_plan 10000) .h 10 [.nilp, .sym 1] .h .lf (kIs (.int .i64 1)) = some [] := by kernel_rfl
set_option maxRecDepth 1000000 in
theorem gen_run : callF Tryz.prog no_plan (execF Tryz.prog no_plan 10000) .h 11 [.nilp] .h .lf (kIs (.int .u64 0)) = some [] := by kernel_rfl
set_option maxRecDepth 1000000 in
theorem room_run : callF Tryz.prog no_plan (execF Tryz.prog no_plan 10000) .h 12 [.nilp] .h .lf (kIs (.int .i64 0)) = some [] := by kernel_rfl
theorem sopen_nil (w : World) : Calls Tryz.prog 6 #[.pointer none] w fun e w' => e = .returned (.tuple #[.pointer none, .string ⟨#[]⟩, .slice none 0 0, .int .i64 1]) ∧ Below w.heap.size w w' :=
  run_isN no_hook 10000 _ (us := [.pointer none]) (by intro u hu cs; simp only [List.mem_cons, List.not_mem_nil, or_false] at hu; subst hu; exact ⟨(fun e => by cases e), (fun e => by cases e)⟩) [.nilp] (fun ρ _ => ⟨_, rfl, rfl⟩) _ _ (fun ρ _ => rfl) open_run w
theorem smake_nil (s : ByteArray) (w : World) : Calls Tryz.prog 7 #[.pointer none, .string s] w fun e w' => e = .returned (.int .i64 1) ∧ Below w.heap.size w w' :=
  run_isN no_hook 10000 _ (us := [.pointer none, .string s]) (by intro u hu cs; simp only [List.mem_cons, List.not_mem_nil, or_false] at hu; rcases hu with rfl | rfl <;> exact ⟨(fun e => by cases e), (fun e => by cases e)⟩) [.nilp, .sym 1] (fun ρ h => ⟨_, rfl, by rw [h]; rfl⟩) _ _ (fun ρ _ => rfl) make_run w
theorem sappend_nil (A : Option Addr) (n c : Nat) (w : World) : Calls Tryz.prog 8 #[.pointer none, .slice A n c] w fun e w' => e = .returned (.int .i64 1) ∧ Below w.heap.size w w' :=
  run_isN no_hook 10000 _ (us := [.pointer none, .slice A n c]) (by intro u hu cs; simp only [List.mem_cons, List.not_mem_nil, or_false] at hu; rcases hu with rfl | rfl <;> exact ⟨(fun e => by cases e), (fun e => by cases e)⟩) [.nilp, .sym 1] (fun ρ h => ⟨_, rfl, by rw [h]; rfl⟩) _ _ (fun ρ _ => rfl) append_run w
theorem ssync_nil (w : World) : Calls Tryz.prog 9 #[.pointer none] w fun e w' => e = .returned (.int .i64 1) ∧ Below w.heap.size w w' :=
  run_isN no_hook 10000 _ (us := [.pointer none]) (by intro u hu cs; simp only [List.mem_cons, List.not_mem_nil, or_false] at hu; subst hu; exact ⟨(fun e => by cases e), (fun e => by cases e)⟩) [.nilp] (fun ρ _ => ⟨_, rfl, rfl⟩) _ _ (fun ρ _ => rfl) sync_run w
theorem strim_nil (s : ByteArray) (w : World) : Calls Tryz.prog 10 #[.pointer none, .string s] w fun e w' => e = .returned (.int .i64 1) ∧ Below w.heap.size w w' :=
  run_isN no_hook 10000 _ (us := [.pointer none, .string s]) (by intro u hu cs; simp only [List.mem_cons, List.not_mem_nil, or_false] at hu; rcases hu with rfl | rfl <;> exact ⟨(fun e => by cases e), (fun e => by cases e)⟩) [.nilp, .sym 1] (fun ρ h => ⟨_, rfl, by rw [h]; rfl⟩) _ _ (fun ρ _ => rfl) trim_run w
theorem sgen_nil (w : World) : Calls Tryz.prog 11 #[.pointer none] w fun e w' => e = .returned (.int .u64 0) ∧ Below w.heap.size w w' :=
  run_isN no_hook 10000 _ (us := [.pointer none]) (by intro u hu cs; simp only [List.mem_cons, List.not_mem_nil, or_false] at hu; subst hu; exact ⟨(fun e => by cases e), (fun e => by cases e)⟩) [.nilp] (fun ρ _ => ⟨_, rfl, rfl⟩) _ _ (fun ρ _ => rfl) gen_run w
theorem sroom_nil (w : World) : Calls Tryz.prog 12 #[.pointer none] w fun e w' => e = .returned (.int .i64 0) ∧ Below w.heap.size w w' :=
  run_isN no_hook 10000 _ (us := [.pointer none]) (by intro u hu cs; simp only [List.mem_cons, List.not_mem_nil, or_false] at hu; subst hu; exact ⟨(fun e => by cases e), (fun e => by cases e)⟩) [.nilp] (fun ρ _ => ⟨_, rfl, rfl⟩) _ _ (fun ρ _ => rfl) room_run w
theorem storeNil_any (s : ByteArray) (w : World) (hs : s.size ≤ maxLen) : Calls Tryz.prog 3 #[.string s] w fun e w' => e = .returned (.bool true) ∧ Below w.heap.size w w' := by
  by_cases hlen : (s.size : Int) > 4096
  · go_enter Tryz.func3, Tryz.ntmps3
    go_wp2_with fail
    refine (alive_any _).mono ?_
    rintro e w1 ⟨rfl, hb1⟩
    go_wp2
    go_ret
    exact ⟨rfl, hb1⟩
  · go_enter Tryz.func3, Tryz.ntmps3
    go_wp2_with fail
    refine (sopen_nil _).mono ?_
    rintro e w1 ⟨rfl, hb1⟩
    have HB1 := Lib.hid hb1
    clear hb1
    go_wp2_with fail
    refine (smake_nil s _).mono ?_
    rintro e w2 ⟨rfl, hb2⟩
    have HB2 := Lib.hid hb2
    clear hb2
    go_wp2_with fail
    refine (sappend_nil _ _ _ _).mono ?_
    rintro e w3 ⟨rfl, hb3⟩
    have HB3 := Lib.hid hb3
    clear hb3
    go_wp2_with fail
    refine (ssync_nil _).mono ?_
    rintro e w4 ⟨rfl, hb4⟩
    have HB4 := Lib.hid hb4
    clear hb4
    go_wp2_with fail
    refine (strim_nil s _).mono ?_
    rintro e w5 ⟨rfl, hb5⟩
    have HB5 := Lib.hid hb5
    clear hb5
    go_wp2_with fail
    refine (sgen_nil _).mono ?_
    rintro e w6 ⟨rfl, hb6⟩
    have HB6 := Lib.hid hb6
    clear hb6
    go_wp2_with fail
    refine (sroom_nil _).mono ?_
    rintro e w7 ⟨rfl, hb7⟩
    have HB7 := Lib.hid hb7
    clear hb7
    go_wp2_with fail
    refine (alive_any _).mono ?_
    rintro e w8 ⟨rfl, hb8⟩
    have HB8 := Lib.hid hb8
    clear hb8
    go_wp2_with fail
    go_ret
    have k2 := HB1.out.trans (HB2.out.mono HB1.out.size)
    have k2a := k2.alloc k2.size (.cells #[.string s] 9)
    have k3 := k2a.trans (HB3.out.mono k2a.size)
    have k4 := k3.trans (HB4.out.mono k3.size)
    have k5 := k4.trans (HB5.out.mono k4.size)
    have k6 := k5.trans (HB6.out.mono k5.size)
    have k7 := k6.trans (HB7.out.mono k6.size)
    exact ⟨rfl, k7.trans (HB8.out.mono k7.size)⟩
end Go.Proofs.YthggliknnmhbdaaGreat
