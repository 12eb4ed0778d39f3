/- Several texts in one: BkA. -/
import Derived.Test.YthggliknnmhbdaaGreatProg
import Derived.Test.YthggliknnmhbdaaGreatMWAA
import Derived.Test.YthggliknnmhbdaaGreatMWAL
/- Books: small calls: none, kept, size, Room. No conditions beyond what each states. -/
namespace Go.Proofs.YthggliknnmhbdaaGreat
set_option maxRecDepth 100000
open Go.RowKit
set_option linter.unusedVariables false
/-- a part of a disk, by value -/
def partV (p : Nat) (f n : Int) : Value := .agg #[.pointer (some ⟨p, 0, none⟩), .int .i64 f, .int .i64 n]
/-- a book in block b -/
def BookB (w : World) (b p : Nat) (f n : Int) (t : ByteArray) (br : Bool) : Prop := Blk w b 72 #[.pointer (some ⟨p, 0, none⟩), .int .i64 f, .int .i64 n, .string t, .bool br]
section
variable (b p : Nat) (f n : Int) (t : ByteArray) (br : Bool) (w : World)
theorem bnone_any (h : BookB w b p f n t br) :
    Calls Tryz.prog 49 #[.pointer (some ⟨b, 0, none⟩)] w fun e w' => e = .returned (.bool false) ∧ w = w' := by
  have c0 : w.cell? ⟨b, 0, none⟩ = some (.pointer (some ⟨p, 0, none⟩)) := h.cell 0
  clear h
  go_enter Tryz.func49, Tryz.ntmps49
  go_wp2_with fail
  go_ret
  exact ⟨rfl, rfl⟩
theorem bkept_any (x : Int) (h : BookB w b p f n t br) :
    Calls Tryz.prog 53 #[.pointer (some ⟨b, 0, none⟩), .int .i64 x] w fun e w' => e = .returned (.int .i64 x) ∧ BookB w' b p f n t (x != 0) ∧ Only (fun y => y = b) w w' := by
  have c4 : w.cell? ⟨b, 4, none⟩ = some (.bool br) := h.cell 4
  have f4 : w.frozen? ⟨b, 4, none⟩ = false := h.frozen 4
  have HF : Hid (BookB (w.setCell ⟨b, 4, none⟩ (.bool (x != 0))) b p f n t (x != 0) ∧ Only (fun y => y = b) w (w.setCell ⟨b, 4, none⟩ (.bool (x != 0)))) := Lib.hid ⟨h.set_ 4 _, (Only.refl (fun y => y = b) w).setCell (p := ⟨b, 4, none⟩) (.inl rfl) _⟩
  clear h
  go_enter Tryz.func53, Tryz.ntmps53
  go_wp2_with fail
  go_ret
  exact ⟨rfl, HF.out⟩
theorem psize_any (hn : 0 ≤ n) (hn2 : n ≤ 100000) :
    Calls Tryz.prog 55 #[partV p f n] w fun e w' => e = .returned (.int .i64 (n * 127)) ∧ Only (fun _ => False) w w' := by
  unfold partV
  go_enter Tryz.func55, Tryz.ntmps55
  go_wp2_with fail
  go_ret
  exact ⟨rfl, (Only.refl _ w).alloc _⟩
end
end Go.Proofs.YthggliknnmhbdaaGreat
