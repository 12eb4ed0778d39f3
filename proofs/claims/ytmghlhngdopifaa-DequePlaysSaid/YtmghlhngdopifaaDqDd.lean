/- The document's deques: Step. -/
import Derived.Test.YtmghlhngdopifaaDqDa
import Derived.Test.YtmghlhngdopifaaDqDb
import Derived.Test.YtmghlhngdopifaaDqDc
import Derived.Test.YtmghlhngdopifaaDqDe
namespace Go.Proofs.Ytmghlhngdopifaa
open Go.RowKit
set_option linter.unusedVariables false
set_option maxRecDepth 100000 in
set_option maxHeartbeats 1000000 in
theorem rstep_any (B m d p : Nat) (n : Int) (v on : Value) (C : List Int) (a : PAct) (w : World) (h : RStp w w B m d p n v v on C a) (hn : n + 3 ≤ 4611686018427387904) (hS : Safe 0 C a) (h0 : a.told = 0) (g0 : a.got = 0) (hi : a.kind = 1 → a.at_ ≤ 7 → a.i = 0) (hV : Valid a) :
    Calls Try.prog 20 #[.pointer (some ⟨p, 0, none⟩)] w fun e w' => e = .returned (.tuple #[.int .u8 ((pstep (0 : Nat) C a).what : Int), .int .i64 (pstep (0 : Nat) C a).val, .int .i64 0]) ∧ ∃ v', RStp w w' B m d p (n + cnt a) v v' on (pstep (0 : Nat) C a).C (pstep (0 : Nat) C a).a := by
  have c11 : w.cell? ⟨p, 11, none⟩ = some (.int .u8 0) := by have := h.act.cell 11; simpa [rarr, h0] using this
  have c1 : w.cell? ⟨p, 1, none⟩ = some (.int .i64 (a.kind : Int)) := h.act.cell 1
  rcases hV with ⟨hk, hv⟩ | ⟨hk, hv⟩ | ⟨hk, hv⟩
  · have hc := rpush_any B m d p n v v on C a w w h hn hS hk h0 g0 hi hv
    rw [hk] at c1
    have HC := Lib.hid hc
    clear h hS h0 g0 hi hk hv hc
    generalize pstep ((0 : Nat) : Int) C a = r at *
    go_enter Try.func20, Try.ntmps20
    go_wp2_with fail
    refine HC.out.mono ?_
    rintro e w' ⟨rfl, h⟩
    have H := Lib.hid h
    clear h
    go_wp2_with fail
    go_ret3
    exact ⟨rfl, H.out⟩
  · have hc := rpop_any B m d p n v v on C a w w h hn hS hk h0 g0 hi hv
    rw [hk] at c1
    have HC := Lib.hid hc
    clear h hS h0 g0 hi hk hv hc
    generalize pstep ((0 : Nat) : Int) C a = r at *
    go_enter Try.func20, Try.ntmps20
    go_wp2_with fail
    refine HC.out.mono ?_
    rintro e w' ⟨rfl, h⟩
    have H := Lib.hid h
    clear h
    go_wp2_with fail
    go_ret3
    exact ⟨rfl, H.out⟩
  · have hc := rsteal_any B m d p n v v on C a w w h hn hS hk h0 g0 hi hv
    rw [hk] at c1
    have HC := Lib.hid hc
    clear h hS h0 g0 hi hk hv hc
    generalize pstep ((0 : Nat) : Int) C a = r at *
    go_enter Try.func20, Try.ntmps20
    go_wp2_with fail
    refine HC.out.mono ?_
    rintro e w' ⟨rfl, h⟩
    have H := Lib.hid h
    clear h
    go_wp2_with fail
    go_ret3
    exact ⟨rfl, H.out⟩
end Go.Proofs.Ytmghlhngdopifaa
