/- A disk of sectors: the fuse is set; a disk is made. -/
import Derived.Test.YtlpnhikoipkjbaaSecB
namespace Go.Proofs.Ytlpnhikoipkjbaa
open Go.RowKit Go.WideShapes Go.ChangeShapes
theorem fuse_any (b : Nat) (A : Addr) (n c : Nat) (L : Value) (f : Bool) (l k : Int) (w : World) (h : Blk w b 50 #[.slice (some A) n c, L, .bool f, .int .i64 l]) (hk : 0 ≤ k) (hk1 : k ≤ 9223372036854775807) :
    Calls Try.prog 16 #[.pointer (some ⟨b, 0, none⟩), .int .i64 k] w fun e w' => e = .returned (.int .i64 0) ∧ w' = (w.setCell ⟨b, 2, none⟩ (.bool true)).setCell ⟨b, 3, none⟩ (.int .i64 k) := by
  have c2 : w.cell? ⟨b, 2, none⟩ = some (.bool f) := h.cell 2
  have c3 : w.cell? ⟨b, 3, none⟩ = some (.int .i64 l) := h.cell 3
  have f2 : w.frozen? ⟨b, 2, none⟩ = false := h.frozen 2
  have f3 : w.frozen? ⟨b, 3, none⟩ = false := h.frozen 3
  have HH := Lib.hid h
  clear h
  go_enter Try.func16, Try.ntmps16
  go_wp2_with (go_at_call 19; refine (none_any _ _ _ _ _ _ _ _ HH.out).mono ?_; rintro e w' ⟨rfl, rfl⟩)
  go_ret
  exact ⟨rfl, rfl⟩
/-- what an empty sector is -/
def zeroB : Value := .agg (Array.replicate 128 (.int .u8 0))
theorem infoB : ∃ i, Try.prog.info? 52 = some i ∧ i.zero = some zeroB ∧ i.size = 128 ∧ i.bytes = 128 := by
  have h : (Try.prog.info? 52).map (fun i => (i.zero, i.size, i.bytes)) = some (some zeroB, 128, 128) := by kernel_rfl
  cases hp : Try.prog.info? 52 with
  | none => rw [hp] at h; cases h
  | some i =>
    rw [hp] at h
    simp only [Option.map_some, Option.some.injEq, Prod.mk.injEq] at h
    exact ⟨i, rfl, h.1, h.2.1, h.2.2⟩
theorem dnew_any (n : Nat) (w : World) (h0 : 1 ≤ n) (h1 : n ≤ 4096) :
    Calls Try.prog 8 #[.int .i64 n] w fun e w' => e = .returned (.tuple #[.pointer (some ⟨w.heap.size + 1, 0, none⟩), .int .i64 0]) ∧
      w' = (w.alloc (.cells (madeCells zeroB.cells (n * 128)) 52)).alloc (.cells #[.slice (some ⟨w.heap.size, 0, none⟩) n n, .slice none 0 0, .bool false, .int .i64 0] 50) := by
  obtain ⟨i, hi, hz, hs, hb⟩ := infoB
  have hm := run_make_rowN 47 52 i zeroB (by kernel_rfl) hi hz .i64 .i64 n n (Nat.le_refl _) (by rw [hb]; omega) (by omega) w
  rw [hs] at hm
  generalize madeCells zeroB.cells (n * 128) = M at hm ⊢
  clear hi hz hs hb
  go_enter Try.func8, Try.ntmps8
  go_wp2
  go_ret2
  exact ⟨rfl, rfl⟩
end Go.Proofs.Ytlpnhikoipkjbaa
