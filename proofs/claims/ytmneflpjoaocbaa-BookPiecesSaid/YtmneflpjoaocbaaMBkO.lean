/- Several texts in one: BkO. -/
import Derived.Test.YtmneflpjoaocbaaMBkM
/- Books: the walk of Sync; two lists of texts. No conditions beyond what each states. -/
namespace Go.Proofs.Ytmneflpjoaocbaa
open Go.RowKit
set_option linter.unusedVariables false
/-- a Sync: its answer; the disk; is the book broken? -/
def bsyS (S : Dst) (br : Bool) : Int × Dst × Bool := if br then (3, S, br) else ((syS S).1, (syS S).2, (syS S).1 != 0)
set_option maxRecDepth 100000 in
theorem bsync_any (p gs n f nn bb : Nat) (S : Dst) (B m : Nat) (t : List UInt8) (br : Bool) (w : World) (D : DkS w p gs n S B m) (hb : BookB w bb p f nn (sB t) br) (hBb : B ≤ bb) (hm : m < 1000000) :
    Calls Try.prog 8 #[.pointer (some ⟨bb, 0, none⟩)] w fun e w' =>
      e = .returned (.int .i64 (bsyS S br).1) ∧ DkS w' p gs n (bsyS S br).2.1 B (m + 1) ∧ BookB w' bb p f nn (sB t) (bsyS S br).2.2 ∧ FarX (fun b => b = bb) w w' ∧ Only (fun b => B ≤ b) w w' := by
  have HD := Lib.hid D
  have HBk := Lib.hid hb
  have HBb := Lib.hid hBb
  obtain ⟨R, hR⟩ : ∃ R, R = bsyS S br := ⟨_, rfl⟩
  rw [← hR]
  have HR := Lib.hid hR
  have c0 : w.cell? ⟨bb, 0, none⟩ = some (.pointer (some ⟨p, 0, none⟩)) := hb.cell 0
  have c4 : w.cell? ⟨bb, 4, none⟩ = some (.bool br) := hb.cell 4
  clear D hb hBb hR
  cases br with
  | true =>
    have hRe : Hid (R = (3, S, true)) := Lib.hid (by rw [HR.out]; rfl)
    go_enter Try.func8, Try.ntmps8
    go_wp2_with fail
    refine (bnone_any bb p f nn (sB t) true w HBk.out).mono ?_
    rintro e w1 ⟨rfl, rfl⟩
    go_wp2_with fail
    go_ret
    rw [hRe.out]
    exact ⟨rfl, HD.out.more (by omega) (by omega), HBk.out, FarX.refl _ _, Only.refl _ _⟩
  | false =>
    have hRe : Hid (R = ((syS S).1, (syS S).2, (syS S).1 != 0)) := Lib.hid (by rw [HR.out]; rfl)
    go_enter Try.func8, Try.ntmps8
    go_wp2_with fail
    refine (bnone_any bb p f nn (sB t) false w HBk.out).mono ?_
    rintro e w1 ⟨rfl, rfl⟩
    go_wp2_with fail
    refine (dk_sync p gs n S B m w HD.out hm).mono ?_
    rintro e w2 ⟨rfl, k1, k2, k3⟩
    have K1 := Lib.hid k1
    have K2 := Lib.hid k2
    have K3 := Lib.hid k3
    have B2 := Lib.hid (k3.blk _ _ _ HBk.out nDT_Book)
    clear k1 k2 k3 c0 c4
    go_wp2_with fail
    refine (bkept_any bb p (f : Int) (nn : Int) (sB t) false w2 (syS S).1 B2.out).mono ?_
    rintro e w3 ⟨rfl, b3, o3⟩
    have B3 := Lib.hid b3
    have O3 := Lib.hid o3
    clear b3 o3
    go_wp2_with fail
    go_ret
    rw [hRe.out]
    exact ⟨rfl, K1.out.away B2.out O3.out nDT_Book, B3.out, (FarX.far K3.out).trans (FarX.of_only O3.out (fun _ h => h)), K2.out.trans (O3.out.mono fun b h => by rw [h]; exact HBb.out)⟩
end Go.Proofs.Ytmneflpjoaocbaa
