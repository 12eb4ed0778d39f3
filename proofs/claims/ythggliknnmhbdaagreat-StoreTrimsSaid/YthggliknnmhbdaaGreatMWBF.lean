/- Several texts in one: StJ. -/
import Derived.Test.YthggliknnmhbdaaGreatMStI
/- The walk of store.Append of one record. No conditions beyond what it states. -/
namespace Go.Proofs.YthggliknnmhbdaaGreat
open Go.RowKit
set_option linter.unusedVariables false
/-- behind an Append -/
structure SApp (p gs s k g bb : Nat) (X Y : List (List UInt8)) (xs : List ByteArray) (B m : Nat) (w w' : World) : Prop where
  d : DiskIs p gs B m (X ++ sectorsL (frsB xs) 10 ++ Y) w'
  b : BookB w' bb p (k * 10 : Nat) (10 : Nat) (sB (frsB xs)) false
  s : StoW w' s p bb k g
  l : (frsB xs).length ≤ 1270
  only : Only (fun b => B ≤ b) w w'
/-- how an Append ends -/
def SAppE (p gs s k g bb : Nat) (X Y : List (List UInt8)) (xs : List ByteArray) (x : ByteArray) (B m : Nat) (w : World) (e : Ending) (w' : World) : Prop :=
  ∃ r xs', (r = 0 ∨ r = 6) ∧ e = .returned (.int .i64 r) ∧ (xs' = xs ∨ xs' = xs ++ [x]) ∧ SApp p gs s k g bb X Y xs' B m w w'
theorem frsB_snoc' (xs : List ByteArray) (x : ByteArray) : frsB (xs ++ [x]) = frsB xs ++ frsB [x] := by simp [frsB]
set_option maxHeartbeats 2000000 in
set_option maxRecDepth 100000 in
theorem stapp_ok (p gs s k g bb : Nat) (X Y : List (List UInt8)) (xs : List ByteArray) (x : ByteArray) (A : Option Addr) (c B m : Nat) (w : World) (D : DiskIs p gs B m (X ++ sectorsL (frsB xs) 10 ++ Y) w) (hX : X.length = k * 10) (hk : k < 2) (hb : BookB w bb p (k * 10 : Nat) (10 : Nat) (sB (frsB xs)) false) (hBb : B ≤ bb) (hS : StoW w s p bb k g) (hBs : B ≤ s)
    (hr : ∀ W, FarX (fun b => b = bb) w W → TextRow W A [x]) (hx : x.size ≤ 1024) (hl : (frsB xs).length ≤ 1270) (hm : m + 10000 ≤ 1000000) :
    Calls Tryz.prog 8 #[.pointer (some ⟨s, 0, none⟩), .slice A 1 c] w (SAppE p gs s k g bb X Y xs x B (m + 12) w) := by
  obtain ⟨S, D, hc⟩ := D
  have hap := appS_okH 20 (k * 10) 10 X Y hX (frsB xs) S [x] hc (by omega) (fun y hy => by rw [List.mem_singleton.1 hy]; omega)
  have hapl := append_any p gs 20 (k * 10) 10 bb S B m (frsB xs) false [x] A c w D hb hBb (fun W h _ => hr W h) (by omega) (by omega) (by omega) (by simp) (fun y hy => by rw [List.mem_singleton.1 hy]; omega)
  have HN := Lib.hid (stnone_ok hS)
  have c0 : w.cell? ⟨s, 0, none⟩ = some (.pointer (some ⟨bb, 0, none⟩)) := Blk.cell hS 0
  obtain ⟨R, hR⟩ : ∃ R, R = appS 20 (k * 10) 10 S (frsB xs) false [x] := ⟨_, rfl⟩
  rw [← hR] at hap hapl
  obtain ⟨r, xs', hr2, h1, h2, h3, h4, h5⟩ : ∃ r xs', (r = 0 ∨ r = 6) ∧ R.1 = r ∧ (xs' = xs ∨ xs' = xs ++ [x]) ∧ R.2.2 = (frsB xs', false) ∧ CurIs 20 R.2.1 (X ++ sectorsL (frsB xs') 10 ++ Y) ∧ (frsB xs').length ≤ 1270 := by
    rcases hap with ⟨h, _⟩ | ⟨a1, a2, a3, a4⟩
    · rw [h]
      exact ⟨6, xs, .inr rfl, rfl, .inl rfl, rfl, hc, hl⟩
    · rw [← frsB_snoc'] at a2 a3 a4
      exact ⟨0, xs ++ [x], .inl rfl, a1, .inr rfl, a2, a3, by omega⟩
  rw [h1, h3] at hapl
  have HA : Hid (Calls Tryz.prog 29 #[.pointer (some ⟨bb, 0, none⟩), .slice A 1 c] w fun e w' => e = .returned (.int .i64 r) ∧ SApp p gs s k g bb X Y xs' B (m + 12) w w') := Lib.hid (hapl.mono fun e w' h => by
    obtain ⟨k1, k2, k3, k4, k5⟩ := h
    exact ⟨k1, ⟨_, k2, h4⟩, k3, k4.blk _ _ _ hS nDT_store (fun e => Blk.ne_ hS hb (by decide) e), h5, k5⟩)
  have HR2 := Lib.hid hr2
  have HX2 := Lib.hid h2
  have hr51 : r ≠ 51 := by omega
  have hr50 : r ≠ 50 := by omega
  clear hap hapl D hc hb hS hr hR h1 h2 h3 h4 h5 hr2
  go_enter Tryz.func8, Tryz.ntmps8
  go_wp2_with fail
  refine HN.out.mono ?_
  rintro e w1 ⟨rfl, rfl⟩
  go_wp2_with fail
  refine HA.out.mono ?_
  rintro e w1 ⟨rfl, k1⟩
  have HK := Lib.hid k1
  have HKE := Lib.hid (stkept_ok r k1.s hr51 hr50)
  clear k1 c0
  go_wp2_with fail
  refine HKE.out.mono ?_
  rintro e w2 ⟨rfl, k1, k2⟩
  have K1 := Lib.hid k1
  have K2 := Lib.hid k2
  clear k1 k2
  go_wp2_with fail
  go_ret
  refine ⟨r, xs', HR2.out, rfl, HX2.out, ?_, ?_, K1.out, HK.out.l, ?_⟩
  · obtain ⟨S1, a1, a2⟩ := HK.out.d
    exact ⟨S1, a1.away HK.out.s K2.out nDT_store, a2⟩
  · exact K2.out.blk HK.out.b (fun e => Blk.ne_ HK.out.b HK.out.s (by decide) e)
  · exact HK.out.only.trans (K2.out.mono fun b hb => by rw [hb]; exact hBs)
end Go.Proofs.YthggliknnmhbdaaGreat
