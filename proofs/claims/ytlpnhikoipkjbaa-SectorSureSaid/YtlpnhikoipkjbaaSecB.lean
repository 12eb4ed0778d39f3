/- The fuse of a disk of sectors; how long it is. -/
import Derived.Test.YtlpnhikoipkjbaaSecA
import Derived.Lib.Hide
namespace Go.Proofs.Ytlpnhikoipkjbaa
open Go.RowKit
theorem still_any (b : Nat) (S L : Value) (f : Bool) (l : Int) (w : World) (h : Blk w b 50 #[S, L, .bool f, .int .i64 l]) :
    Calls Try.prog 24 #[.pointer (some ⟨b, 0, none⟩)] w fun e w' => e = .returned (.bool (f && decide (l = 0))) ∧ w = w' := by
  have c2 : w.cell? ⟨b, 2, none⟩ = some (.bool f) := h.cell 2
  have c3 : w.cell? ⟨b, 3, none⟩ = some (.int .i64 l) := h.cell 3
  clear h
  cases f
  · go_enter Try.func24, Try.ntmps24
    go_wp2
    go_ret
    exact ⟨rfl, rfl⟩
  · go_enter Try.func24, Try.ntmps24
    go_wp2
    go_ret
    exact ⟨by simp [show (l == 0) = decide (l = 0) from rfl], rfl⟩
/-- a call goes on: one less is left -/
theorem burn_yes (b : Nat) (S L : Value) (f : Bool) (l : Int) (w : World) (h : Blk w b 50 #[S, L, .bool f, .int .i64 l]) (hs : (f && decide (l = 0)) = false)
    (h0 : -4611686018427387904 ≤ l) (h1 : l ≤ 9223372036854775807) :
    Calls Try.prog 20 #[.pointer (some ⟨b, 0, none⟩)] w fun e w' => e = .returned (.bool true) ∧ w' = w.setCell ⟨b, 3, none⟩ (.int .i64 (l - 1)) := by
  have c3 : w.cell? ⟨b, 3, none⟩ = some (.int .i64 l) := h.cell 3
  have f3 : w.frozen? ⟨b, 3, none⟩ = false := h.frozen 3
  have HH := Lib.hid h
  clear h
  go_enter Try.func20, Try.ntmps20
  go_wp2_with (go_at_call 24; refine (still_any _ _ _ _ _ _ HH.out).mono ?_; rintro e w' ⟨rfl, rfl⟩)
  go_ret
  exact ⟨rfl, rfl⟩
theorem burn_no (b : Nat) (S L : Value) (w : World) (h : Blk w b 50 #[S, L, .bool true, .int .i64 0]) :
    Calls Try.prog 20 #[.pointer (some ⟨b, 0, none⟩)] w fun e w' => e = .returned (.bool false) ∧ w = w' := by
  have HH := Lib.hid h
  clear h
  go_enter Try.func20, Try.ntmps20
  go_wp2_with (go_at_call 24; refine (still_any _ _ _ _ _ _ HH.out).mono ?_; rintro e w' ⟨rfl, rfl⟩)
  go_ret
  exact ⟨rfl, rfl⟩
theorem len_any (b : Nat) (A : Addr) (n c : Nat) (v f l : Value) (w : World) (h : Blk w b 50 #[.slice (some A) n c, v, f, l]) :
    Calls Try.prog 17 #[.pointer (some ⟨b, 0, none⟩)] w fun e w' => e = .returned (.int .i64 n) ∧ w = w' := by
  have c0 : w.cell? ⟨b, 0, none⟩ = some (.slice (some A) n c) := h.cell 0
  have HH := Lib.hid h
  clear h
  go_enter Try.func17, Try.ntmps17
  go_wp2_with (go_at_call 19; refine (none_any _ _ _ _ _ _ _ _ HH.out).mono ?_; rintro e w' ⟨rfl, rfl⟩)
  go_ret
  exact ⟨rfl, rfl⟩
theorem loose_any (b : Nat) (A : Addr) (B : Option Addr) (n c m d : Nat) (f l : Value) (w : World) (h : Blk w b 50 #[.slice (some A) n c, .slice B m d, f, l]) :
    Calls Try.prog 12 #[.pointer (some ⟨b, 0, none⟩)] w fun e w' => e = .returned (.int .i64 m) ∧ w = w' := by
  have c1 : w.cell? ⟨b, 1, none⟩ = some (.slice B m d) := h.cell 1
  have HH := Lib.hid h
  clear h
  go_enter Try.func12, Try.ntmps12
  go_wp2_with (go_at_call 19; refine (none_any _ _ _ _ _ _ _ _ HH.out).mono ?_; rintro e w' ⟨rfl, rfl⟩)
  go_ret
  exact ⟨rfl, rfl⟩
end Go.Proofs.Ytlpnhikoipkjbaa
