/- Several texts in one: RqD, RqE, RqF, RqG, RqH, RqI, RqJ, RqK, RqL, RqM. -/
import Derived.Test.YtmneflpjoaocbaaGreatMWAY
/- Both books are opened. No conditions beyond what each states. -/
namespace Go.Proofs.YtmneflpjoaocbaaGreat
set_option maxRecDepth 100000
open Go.RowKit
set_option linter.unusedVariables false
theorem nDT_pair : ¬ DT 36 := fun h => by rcases h with h | h | h <;> revert h <;> decide
theorem nRT_BookB : ¬ RT 73 := fun h => by rcases h with h | h <;> revert h <;> decide
theorem nRT_pair : ¬ RT 36 := fun h => by rcases h with h | h <;> revert h <;> decide
section
variable {w W W1 W2 W4 : World} {pb p gs q gg n : Nat} {f nn : Int} {S S2 : Dst} {bo xo bo1 xo1 : Option Nat} {t tx : List UInt8} {br : Bool} {B m m' c c' : Nat} {rs : List ByteArray} {A A' : Option Addr} {vs : Array Value}
theorem open_end (h : PairD W p gs q gg n S B m) (k1 : DkS W1 p gs n S2 B m') (k2 : Far W W1) (k3 : Only (fun b => B ≤ b) W W1) (hp : Blk W1 pb 36 vs)
    (hR : W1.ownsRow W.heap.size 9 1 (.slice A rs.length c) rs.length (rs.map Value.string)) (hb : ∀ b, bo1 = some b → B ≤ b ∧ BookB W1 b p f nn (sB tx) false)
    (j1 : RkS W2 q gg n S2 B m') (j2 : FarG RT (fun b => b = gg) W1.drew W2) (j3 : Only (fun b => B ≤ b) W1.drew W2)
    (hR' : W2.ownsRow W1.drew.heap.size 9 1 (.slice A' rs.length c') rs.length (rs.map Value.string)) (hx : ∀ x, xo1 = some x → W1.drew.heap.size ≤ x ∧ BookR W2 x q f nn (sB tx) false) :
    Blk W2 pb 36 vs ∧ PairD W2 p gs q gg n S2 B m' ∧ Only (fun b => B ≤ b) W W2 ∧ W2.ownsRow W.heap.size 9 1 (.slice A rs.length c) rs.length (rs.map Value.string) ∧ W2.ownsRow W1.drew.heap.size 9 1 (.slice A' rs.length c') rs.length (rs.map Value.string) ∧
      (∀ b, bo1 = some b → B ≤ b ∧ BookB W2 b p f nn (sB tx) false) ∧ (∀ x, xo1 = some x → B ≤ x ∧ x ≠ gg ∧ BookR W2 x q f nn (sB tx) false) := by
  have hdr : Only (fun _ => False) W1 W1.drew := (Only.refl (fun _ => False) W1).drew
  obtain ⟨cur, hg⟩ := (h.r.far k2).ggBlk
  have hgl : gg < W.heap.size := by
    obtain ⟨cur, hg⟩ := h.r.ggBlk
    exact hg.lt
  have hsz := k3.size
  have hBs := k1.size
  have F : FarG RT (fun b => b = gg) W1 W2 := (FarG.none hdr).trans j2
  refine ⟨F.blk _ _ _ hp nRT_pair (fun e => Blk.ne_ hp hg (by decide) e), ⟨k1.ref F (fun k hk tt cs hb => ?_), j1⟩, k3.trans ((hdr.mono fun _ h => h.elim).trans j3), F.owns hR nRT_string (fun k hk e => ?_), hR', fun b hb' => ⟨(hb b hb').1, F.blk _ _ _ (hb b hb').2 nRT_BookB (fun e => Blk.ne_ (hb b hb').2 hg (by decide) e)⟩, fun x hx' => ?_⟩
  · subst hk
    rw [blk_same hb hg]
    exact nDT_string
  · have := (hR.lt k hk).1
    omega
  · obtain ⟨h1, h2⟩ := hx x hx'
    have h3 : W1.heap.size ≤ x := h1
    exact ⟨by omega, by omega, h2⟩
theorem PW.only (h : PW w pb p gs q gg n f nn S bo xo t br B m) (o : Only (fun _ => False) w W) : PW W pb p gs q gg n f nn S bo xo t br B m :=
  ⟨o.blk h.blk (fun h => h), h.lo, h.d.only o, h.no, fun b hb => ⟨(h.b b hb).1, o.blk (h.b b hb).2 (fun h => h)⟩, fun x hx => ⟨(h.x x hx).1, (h.x x hx).2.1, o.blk (h.x x hx).2.2 (fun h => h)⟩, h.tl⟩
/-- what turns only the pair's block leaves the rest -/
theorem HalfD.pair {S1 : Dst} {cs : Array Value} (h : HalfD W2 p gs q gg n S1 S2 B m) (hp : Blk W2 pb 36 cs) (o : Only (fun b => b = pb) W2 W4) : HalfD W4 p gs q gg n S1 S2 B m :=
  ⟨h.d.away hp o nDT_pair, h.r.away hp o (fun e => by
    rcases e with e | e
    · exact nRT_pair e
    · revert e; decide)⟩
theorem open_fin (h : PW w pb p gs q gg n f nn S bo xo t br B m) (P2 : Blk W2 pb 36 #[.pointer (some ⟨p, 0, none⟩), .pointer (some ⟨q, 0, none⟩), ptrV bo, ptrV xo, .int .i64 f, .int .i64 nn])
    (P4 : Blk W4 pb 36 #[.pointer (some ⟨p, 0, none⟩), .pointer (some ⟨q, 0, none⟩), ptrV bo1, ptrV xo1, .int .i64 f, .int .i64 nn]) (E2 : PairD W2 p gs q gg n S2 B m') (O2 : Only (fun b => B ≤ b) W W2) (BB : ∀ b, bo1 = some b → B ≤ b ∧ BookB W2 b p f nn (sB tx) false)
    (XX : ∀ x, xo1 = some x → B ≤ x ∧ x ≠ gg ∧ BookR W2 x q f nn (sB tx) false) (o4 : Only (fun b => b = pb) W2 W4) (hW : Only (fun _ => False) w W) (htl : bo1 ≠ none → tx.length ≤ nn.toNat * 127 ∧ mayB n f nn = true) (hno : bo1 = none ↔ xo1 = none) :
    PW W4 pb p gs q gg n f nn S2 bo1 xo1 tx false B m' ∧ Only (fun b => B ≤ b) w W4 :=
  ⟨⟨P4, h.lo, HalfD.pair E2 P2 o4, hno, fun b hb => ⟨(BB b hb).1, o4.blk (BB b hb).2 (Blk.ne_ (BB b hb).2 P2 (by decide))⟩, fun x hx => ⟨(XX x hx).1, (XX x hx).2.1, o4.blk (XX x hx).2.2 (Blk.ne_ (XX x hx).2.2 P2 (by decide))⟩, htl⟩,
    ((hW.mono fun _ h => h.elim).trans O2).trans (o4.mono fun b hb => by rw [hb]; exact h.lo)⟩
end
set_option maxHeartbeats 2000000 in
set_option maxRecDepth 100000 in
theorem popen_any (w : World) (pb p gs q gg n : Nat) (f nn : Int) (S : Dst) (bo xo : Option Nat) (t : List UInt8) (br : Bool) (B m : Nat) (D : PW w pb p gs q gg n f nn S bo xo t br B m)
    (hk0 : -9223372036854775808 ≤ nn) (hk1 : nn ≤ 9223372036854775807) (hm : m + 20000 ≤ 1000000) :
    Calls Tryz.prog 8 #[.pointer (some ⟨pb, 0, none⟩)] w fun e w' => e = .returned (.bool true) ∧ (∃ bo' xo', PW w' pb p gs q gg n f nn (opS n f nn S).2 bo' xo' (txU f nn S) false B (m + 2 * n + 2)) ∧ Only (fun b => B ≤ b) w w' := by
  have hn4 : n ≤ 4096 := D.d.d.1.2.1
  have HG : Hid (PairD w.drew p gs q gg n S B m) := Lib.hid (HalfD.only D.d (Only.refl _ w).drew)
  have hb := (Only.refl (fun _ => False) w).drew.blk D.blk (fun h => h)
  have c0 : w.drew.cell? ⟨pb, 0, none⟩ = some (.pointer (some ⟨p, 0, none⟩)) := hb.cell 0
  have c4 : w.drew.cell? ⟨pb, 4, none⟩ = some (.int .i64 f) := hb.cell 4
  have c5 : w.drew.cell? ⟨pb, 5, none⟩ = some (.int .i64 nn) := hb.cell 5
  have HB := Lib.hid hb
  have HO1 : Hid (∀ W, PairD W p gs q gg n S B m → Calls Tryz.prog 17 #[.pointer (some ⟨p, 0, none⟩), .int .i64 f, .int .i64 nn] W fun e w' =>
      DkS w' p gs n (opS n f nn S).2 B (m + 2 * n + 2) ∧ Far W w' ∧ Only (fun b => B ≤ b) W w' ∧
      ∃ (bo : Option Nat) (A : Option Addr) (c : Nat), e = .returned (.tuple #[ptrV bo, .slice A (rsU n f nn S).length c, .int .i64 (opS n f nn S).1]) ∧ w'.ownsRow W.heap.size 9 1 (.slice A (rsU n f nn S).length c) (rsU n f nn S).length ((rsU n f nn S).map Value.string) ∧ (bo = none ↔ (opS n f nn S).1 ≠ 0) ∧ (∀ b, bo = some b → B ≤ b ∧ BookB w' b p f nn (sB (txU f nn S)) false)) := Lib.hid (fun W h => bopen_u p gs n S B m f nn W h.d hk0 hk1 (by omega))
  have HO2 : Hid (∀ W, RkS W q gg n S B m → Calls Tryz.prog 22 #[.pointer (some ⟨q, 0, none⟩), .int .i64 f, .int .i64 nn] W fun e w' =>
      RkS w' q gg n (opS n f nn S).2 B (m + 2 * n + 2) ∧ FarG RT (fun b => b = gg) W w' ∧ Only (fun b => B ≤ b) W w' ∧
      ∃ (xo : Option Nat) (A : Option Addr) (c : Nat), e = .returned (.tuple #[ptrV xo, .slice A (rsU n f nn S).length c, .int .i64 (opS n f nn S).1]) ∧ w'.ownsRow W.heap.size 9 1 (.slice A (rsU n f nn S).length c) (rsU n f nn S).length ((rsU n f nn S).map Value.string) ∧ (xo = none ↔ (opS n f nn S).1 ≠ 0) ∧ (∀ x, xo = some x → W.heap.size ≤ x ∧ BookR w' x q f nn (sB (txU f nn S)) false)) := Lib.hid (fun W h => ropen_u W q gg n S B m f nn h (by omega))
  have HTL : Hid ((opS n f nn S).1 = 0 → (txU f nn S).length ≤ nn.toNat * 127 ∧ mayB n f nn = true) := Lib.hid (fun h => ⟨txU_len f nn S, opS_may h⟩)
  have HD := Lib.hid D
  have hrl := rsU_len (n := n) (f := f) (nn := nn) (S := S)
  generalize hRs : rsU n f nn S = rs at *
  generalize hTx : txU f nn S = tx at *
  generalize hRo : opS n f nn S = ro at *
  clear D hb
  by_cases h0 : ro.1 = 0
  ·
    go_enter Tryz.func8, Tryz.ntmps8
    go_wp2_with fail
    go_region_held3 (fun w' => w'.cell? ⟨pb, 0, none⟩ = some (.pointer (some ⟨p, 0, none⟩)) ∧ w'.cell? ⟨pb, 4, none⟩ = some (.int .i64 f) ∧ w'.cell? ⟨pb, 5, none⟩ = some (.int .i64 nn)) (go_keep) (
      (go_at_call 17; refine (HO1.out _ HG.out).mono ?_; rintro e W1 ⟨k1, k2, k3, bo1, A, c, rfl, hR, hno, hb⟩; obtain ⟨bb, rfl⟩ : ∃ bb, bo1 = some bb := Option.ne_none_iff_exists'.1 (fun e => hno.1 e h0); have K1 := Lib.hid k1; have K2 := Lib.hid k2; have K3 := Lib.hid k3; have HR := Lib.hid hR; have HBB := Lib.hid hb; have KP := Lib.hid (k2.blk _ _ _ HB.out nDT_pair); have r0 : W1.cell? ⟨pb, 0, none⟩ = some (.pointer (some ⟨p, 0, none⟩)) := (k2.blk _ _ _ HB.out nDT_pair).cell 0; have r4 : W1.cell? ⟨pb, 4, none⟩ = some (.int .i64 f) := (k2.blk _ _ _ HB.out nDT_pair).cell 4; have r5 : W1.cell? ⟨pb, 5, none⟩ = some (.int .i64 nn) := (k2.blk _ _ _ HB.out nDT_pair).cell 5; clear k1 k2 k3 hR hno hb))
    go_wp2_with fail
    have hdr := (Only.refl (fun _ => False) W1).drew
    have d0 : W1.drew.cell? ⟨pb, 1, none⟩ = some (.pointer (some ⟨q, 0, none⟩)) := (hdr.blk KP.out (fun h => h)).cell 1
    have d4 : W1.drew.cell? ⟨pb, 4, none⟩ = some (.int .i64 f) := (hdr.blk KP.out (fun h => h)).cell 4
    have d5 : W1.drew.cell? ⟨pb, 5, none⟩ = some (.int .i64 nn) := (hdr.blk KP.out (fun h => h)).cell 5
    have HH : Hid (RkS W1.drew q gg n S B m) := Lib.hid ((HG.out.r.far K2.out).only hdr)
    clear hdr r0 r4 r5
    go_region_held3 (fun w' => w'.cell? ⟨pb, 1, none⟩ = some (.pointer (some ⟨q, 0, none⟩)) ∧ w'.cell? ⟨pb, 4, none⟩ = some (.int .i64 f) ∧ w'.cell? ⟨pb, 5, none⟩ = some (.int .i64 nn)) (go_keep) (
      (go_at_call 22; refine (HO2.out _ HH.out).mono ?_; rintro e W2 ⟨k1, k2, k3, xo1, A', c', rfl, hR', hno2, hx⟩; obtain ⟨xx, rfl⟩ : ∃ xx, xo1 = some xx := Option.ne_none_iff_exists'.1 (fun e => hno2.1 e h0); have HE := Lib.hid (open_end HG.out K1.out K2.out K3.out KP.out HR.out HBB.out k1 k2 k3 hR' hx); have s1 : W2.cell? ⟨pb, 1, none⟩ = some (.pointer (some ⟨q, 0, none⟩)) := HE.out.1.cell 1; have s4 : W2.cell? ⟨pb, 4, none⟩ = some (.int .i64 f) := HE.out.1.cell 4; have s5 : W2.cell? ⟨pb, 5, none⟩ = some (.int .i64 nn) := HE.out.1.cell 5; clear k1 k2 k3 hR' hno2 hx))
    obtain ⟨P2, E2, O2, R1, R2, BB, XX⟩ := HE.out
    obtain ⟨W3, hW3⟩ : ∃ W3, W3 = W2.setCell ⟨pb, 2, none⟩ (.pointer (some ⟨bb, 0, none⟩)) := ⟨_, rfl⟩
    obtain ⟨W4, hW4⟩ : ∃ W4, W4 = W3.setCell ⟨pb, 3, none⟩ (.pointer (some ⟨xx, 0, none⟩)) := ⟨_, rfl⟩
    have e2 : W2.cell? ⟨pb, 2, none⟩ = some (ptrV bo) := P2.cell 2
    have f2 : W2.frozen? ⟨pb, 2, none⟩ = false := P2.frozen 2
    have P3 := P2.set_ 2 (.pointer (some ⟨bb, 0, none⟩))
    have e3 : (W2.setCell ⟨pb, 2, none⟩ (.pointer (some ⟨bb, 0, none⟩))).cell? ⟨pb, 3, none⟩ = some (ptrV xo) := P3.cell 3
    have f3 : (W2.setCell ⟨pb, 2, none⟩ (.pointer (some ⟨bb, 0, none⟩))).frozen? ⟨pb, 3, none⟩ = false := P3.frozen 3
    rw [← hW3] at P3
    have P4 := P3.set_ 3 (.pointer (some ⟨xx, 0, none⟩))
    rw [← hW4] at P4
    have o4 : Only (fun b => b = pb) W2 W4 := by rw [hW4, hW3]; exact ((Only.refl (fun b => b = pb) W2).setCell (p := ⟨pb, 2, none⟩) (.inl rfl) _).setCell (p := ⟨pb, 3, none⟩) (.inl rfl) _
    have hT := texts_same rs rs A A' c c' W4 (text_own (o4.owns R1 (fun k hk e => own_blk_ne R1 P2 (by decide) (hk.trans (congrArg some e))))) (text_own (o4.owns R2 (fun k hk e => own_blk_ne R2 P2 (by decide) (hk.trans (congrArg some e))))) (by omega) (by omega)
    have hdd : decide (rs = rs) = true := decide_eq_true rfl
    rw [hdd] at hT
    have HPW : Hid (PW W4 pb p gs q gg n f nn ro.2 (some bb) (some xx) tx false B (m + 2 * n + 2) ∧ Only (fun b => B ≤ b) w W4) := Lib.hid (open_fin HD.out P2 P4 E2 O2 BB XX o4 (Only.refl (fun _ => False) w).drew (fun _ => HTL.out h0) (by simp))
    have HT := Lib.hid hT
    have HW3 := Lib.hid hW3.symm
    have HW4 := Lib.hid hW4.symm
    clear s1 s4 s5 P2 E2 O2 R1 R2 BB XX P3 P4 o4 hT hdd hW3 hW4 HE d0 d4 d5 HH
    simp only [ptrV]
    go_wp2_with fail
    rw [HW3.out, HW4.out]
    refine HT.out.mono ?_
    rintro e W5 ⟨rfl, o5⟩
    have O5 := Lib.hid o5
    clear o5
    go_wp2_with fail
    go_ret
    refine ⟨rfl, ⟨_, _, HPW.out.1.only O5.out⟩, HPW.out.2.trans (O5.out.mono fun _ h => h.elim)⟩
  ·
    go_enter Tryz.func8, Tryz.ntmps8
    go_wp2_with fail
    go_region_held3 (fun w' => w'.cell? ⟨pb, 0, none⟩ = some (.pointer (some ⟨p, 0, none⟩)) ∧ w'.cell? ⟨pb, 4, none⟩ = some (.int .i64 f) ∧ w'.cell? ⟨pb, 5, none⟩ = some (.int .i64 nn)) (go_keep) (
      (go_at_call 17; refine (HO1.out _ HG.out).mono ?_; rintro e W1 ⟨k1, k2, k3, bo1, A, c, rfl, hR, hno, hb⟩; obtain rfl := hno.2 h0; have K1 := Lib.hid k1; have K2 := Lib.hid k2; have K3 := Lib.hid k3; have HR := Lib.hid hR; have HBB := Lib.hid hb; have KP := Lib.hid (k2.blk _ _ _ HB.out nDT_pair); have r0 : W1.cell? ⟨pb, 0, none⟩ = some (.pointer (some ⟨p, 0, none⟩)) := (k2.blk _ _ _ HB.out nDT_pair).cell 0; have r4 : W1.cell? ⟨pb, 4, none⟩ = some (.int .i64 f) := (k2.blk _ _ _ HB.out nDT_pair).cell 4; have r5 : W1.cell? ⟨pb, 5, none⟩ = some (.int .i64 nn) := (k2.blk _ _ _ HB.out nDT_pair).cell 5; clear k1 k2 k3 hR hno hb))
    go_wp2_with fail
    have hdr := (Only.refl (fun _ => False) W1).drew
    have d0 : W1.drew.cell? ⟨pb, 1, none⟩ = some (.pointer (some ⟨q, 0, none⟩)) := (hdr.blk KP.out (fun h => h)).cell 1
    have d4 : W1.drew.cell? ⟨pb, 4, none⟩ = some (.int .i64 f) := (hdr.blk KP.out (fun h => h)).cell 4
    have d5 : W1.drew.cell? ⟨pb, 5, none⟩ = some (.int .i64 nn) := (hdr.blk KP.out (fun h => h)).cell 5
    have HH : Hid (RkS W1.drew q gg n S B m) := Lib.hid ((HG.out.r.far K2.out).only hdr)
    clear hdr r0 r4 r5
    go_region_held3 (fun w' => w'.cell? ⟨pb, 1, none⟩ = some (.pointer (some ⟨q, 0, none⟩)) ∧ w'.cell? ⟨pb, 4, none⟩ = some (.int .i64 f) ∧ w'.cell? ⟨pb, 5, none⟩ = some (.int .i64 nn)) (go_keep) (
      (go_at_call 22; refine (HO2.out _ HH.out).mono ?_; rintro e W2 ⟨k1, k2, k3, xo1, A', c', rfl, hR', hno2, hx⟩; obtain rfl := hno2.2 h0; have HE := Lib.hid (open_end HG.out K1.out K2.out K3.out KP.out HR.out HBB.out k1 k2 k3 hR' hx); have s1 : W2.cell? ⟨pb, 1, none⟩ = some (.pointer (some ⟨q, 0, none⟩)) := HE.out.1.cell 1; have s4 : W2.cell? ⟨pb, 4, none⟩ = some (.int .i64 f) := HE.out.1.cell 4; have s5 : W2.cell? ⟨pb, 5, none⟩ = some (.int .i64 nn) := HE.out.1.cell 5; clear k1 k2 k3 hR' hno2 hx))
    obtain ⟨P2, E2, O2, R1, R2, BB, XX⟩ := HE.out
    obtain ⟨W3, hW3⟩ : ∃ W3, W3 = W2.setCell ⟨pb, 2, none⟩ (.pointer none) := ⟨_, rfl⟩
    obtain ⟨W4, hW4⟩ : ∃ W4, W4 = W3.setCell ⟨pb, 3, none⟩ (.pointer none) := ⟨_, rfl⟩
    have e2 : W2.cell? ⟨pb, 2, none⟩ = some (ptrV bo) := P2.cell 2
    have f2 : W2.frozen? ⟨pb, 2, none⟩ = false := P2.frozen 2
    have P3 := P2.set_ 2 (.pointer none)
    have e3 : (W2.setCell ⟨pb, 2, none⟩ (.pointer none)).cell? ⟨pb, 3, none⟩ = some (ptrV xo) := P3.cell 3
    have f3 : (W2.setCell ⟨pb, 2, none⟩ (.pointer none)).frozen? ⟨pb, 3, none⟩ = false := P3.frozen 3
    rw [← hW3] at P3
    have P4 := P3.set_ 3 (.pointer none)
    rw [← hW4] at P4
    have o4 : Only (fun b => b = pb) W2 W4 := by rw [hW4, hW3]; exact ((Only.refl (fun b => b = pb) W2).setCell (p := ⟨pb, 2, none⟩) (.inl rfl) _).setCell (p := ⟨pb, 3, none⟩) (.inl rfl) _
    have hT := texts_same rs rs A A' c c' W4 (text_own (o4.owns R1 (fun k hk e => own_blk_ne R1 P2 (by decide) (hk.trans (congrArg some e))))) (text_own (o4.owns R2 (fun k hk e => own_blk_ne R2 P2 (by decide) (hk.trans (congrArg some e))))) (by omega) (by omega)
    have hdd : decide (rs = rs) = true := decide_eq_true rfl
    rw [hdd] at hT
    have HPW : Hid (PW W4 pb p gs q gg n f nn ro.2 ((none : Option Nat)) ((none : Option Nat)) tx false B (m + 2 * n + 2) ∧ Only (fun b => B ≤ b) w W4) := Lib.hid (open_fin HD.out P2 P4 E2 O2 BB XX o4 (Only.refl (fun _ => False) w).drew (fun e => absurd rfl e) (by simp))
    have HT := Lib.hid hT
    have HW3 := Lib.hid hW3.symm
    have HW4 := Lib.hid hW4.symm
    clear s1 s4 s5 P2 E2 O2 R1 R2 BB XX P3 P4 o4 hT hdd hW3 hW4 HE d0 d4 d5 HH
    simp only [ptrV]
    go_wp2_with fail
    rw [HW3.out, HW4.out]
    refine HT.out.mono ?_
    rintro e W5 ⟨rfl, o5⟩
    have O5 := Lib.hid o5
    clear o5
    go_wp2_with fail
    go_ret
    refine ⟨rfl, ⟨_, _, HPW.out.1.only O5.out⟩, HPW.out.2.trans (O5.out.mono fun _ h => h.elim)⟩
end Go.Proofs.YtmneflpjoaocbaaGreat
/- A step of a pair: Sync. No conditions beyond what each states. -/
namespace Go.Proofs.YtmneflpjoaocbaaGreat
set_option maxRecDepth 100000
open Go.RowKit
set_option linter.unusedVariables false
/-- a step, as a value -/
def stepV (dv : Nat) (tv : Value) (nv : Int) (pv : Value) : Value := .agg #[.int .u8 (dv : Int), tv, .int .i64 nv, pv]
theorem rem9 (dv r : Nat) (hr : dv % 9 = r) : (dv : Int) % 9 = (r : Int) := by omega
set_option maxHeartbeats 2000000 in
set_option maxRecDepth 100000 in
theorem pdo_sync_nil (w : World) (pb p gs q gg n : Nat) (f nn : Int) (S : Dst) (t : List UInt8) (br : Bool) (B m : Nat) (D : PW w pb p gs q gg n f nn S none none t br B m) (dv : Nat) (tv pv : Value) (nv : Int) (hd : dv < 256) (hr : dv % 9 = 3) :
    Calls Tryz.prog 9 #[.pointer (some ⟨pb, 0, none⟩), stepV dv tv nv pv] w fun e w' => e = .returned (.bool true) ∧ PW w' pb p gs q gg n f nn S none none t br B m ∧ Only (fun b => B ≤ b) w w' := by
  obtain ⟨w1, hw1⟩ : ∃ w1, w1 = w.alloc (.cells #[.int .u8 (dv : Int), tv, .int .i64 nv, pv] 41) := ⟨_, rfl⟩
  obtain ⟨sb, hsb⟩ : ∃ sb, sb = w.heap.size := ⟨_, rfl⟩
  have o1 : Only (fun _ => False) w w1 := by rw [hw1]; exact (Only.refl _ w).alloc _
  have b0 : Blk w1 sb 41 #[.int .u8 (dv : Int), tv, .int .i64 nv, pv] := by rw [hw1, hsb]; exact Blk.new w _ _
  have D1 := D.only o1
  have c0 : w1.cell? ⟨sb, 0, none⟩ = some (.int .u8 (dv : Int)) := b0.cell 0
  have c2 : w1.cell? ⟨pb, 2, none⟩ = some (.pointer none) := D1.blk.cell 2
  have c3 : w1.cell? ⟨pb, 3, none⟩ = some (.pointer none) := D1.blk.cell 3
  rw [hw1] at c0 c2 c3
  rw [hsb] at c0
  have hrem : (dv : Int) % 9 = 3 := rem9 dv 3 hr
  have HD1 := Lib.hid D1
  have HO1 := Lib.hid o1
  have HW := Lib.hid hw1.symm
  have HQ := Lib.hid hsb.symm
  clear D D1 o1 b0 hw1 hsb hr
  unfold stepV
  go_enter Tryz.func9, Tryz.ntmps9
  go_wp2_with fail
  rw [HW.out]
  refine (bsync_nil w1).mono ?_
  rintro e w2 ⟨rfl, rfl⟩
  go_wp2_with fail
  go_ret
  exact ⟨rfl, HD1.out, HO1.out.mono fun _ h => h.elim⟩
end Go.Proofs.YtmneflpjoaocbaaGreat
/- A step of a pair: Sync of both books. No conditions beyond what each states. -/
namespace Go.Proofs.YtmneflpjoaocbaaGreat
set_option maxRecDepth 100000
open Go.RowKit
set_option linter.unusedVariables false
theorem nDT_BookR : ¬ DT 44 := fun h => by rcases h with h | h | h <;> revert h <;> decide
section
variable {w w1 w2 : World} {pb p gs q gg n : Nat} {f nn : Int} {S S' : Dst} {bb xx : Nat} {t t' : List UInt8} {br br' : Bool} {B m m' : Nat}
/-- behind the program's call -/
theorem pw_mid (h : PW w pb p gs q gg n f nn S (some bb) (some xx) t br B m) (k1 : DkS w1 p gs n S' B m') (hm : m ≤ m') (k3 : FarX (fun b => b = bb) w w1) :
    RkS w1 q gg n S B m ∧ BookR w1 xx q f nn (sB t) br ∧ Blk w1 pb 36 #[.pointer (some ⟨p, 0, none⟩), .pointer (some ⟨q, 0, none⟩), .pointer (some ⟨bb, 0, none⟩), .pointer (some ⟨xx, 0, none⟩), .int .i64 f, .int .i64 nn] := by
  have hb := (h.b bb rfl).2
  have hx := (h.x xx rfl).2.2
  refine ⟨?_, k3.blk _ _ _ hx nDT_BookR (fun e => Blk.ne_ hx hb (by decide) e), k3.blk _ _ _ h.blk nDT_pair (fun e => Blk.ne_ h.blk hb (by decide) e)⟩
  obtain ⟨h1, h2, c, A, c2, D⟩ := h.d.r
  obtain ⟨cur, hg⟩ := own_blk D.good
  exact ⟨h1, h2, c, A, c2, D.far (X := fun b => b = bb) k3.toG (fun h => by rcases h with h | h | h <;> revert h <;> decide) nDT_string (fun h => by rcases h with h | h | h <;> revert h <;> decide) (fun e => Blk.ne_ D.blk hb (by decide) e) (fun e => Blk.ne_ hg hb (by decide) e) (fun k hk e => own_blk_ne D.own hb (by decide) (hk.trans (congrArg some e)))⟩
/-- behind the document's -/
theorem pw_fin (h : PW w pb p gs q gg n f nn S (some bb) (some xx) t br B m) (k1 : DkS w1 p gs n S' B m') (k2 : BookB w1 bb p f nn (sB t') br') (k3 : FarX (fun b => b = bb) w w1) (hm : m ≤ m') (j1 : RkS w2 q gg n S' B m') (j2 : BookR w2 xx q f nn (sB t') br')
    (j3 : FarG RT (fun b => b = gg ∨ b = xx) w1 w2) (ht : t'.length ≤ nn.toNat * 127) : PW w2 pb p gs q gg n f nn S' (some bb) (some xx) t' br' B m' := by
  obtain ⟨r1, rx, rp⟩ := pw_mid h k1 hm k3
  obtain ⟨cur, hg⟩ := r1.ggBlk
  refine ⟨j3.blk _ _ _ rp nRT_pair (fun e => ?_), h.lo, ⟨k1.ref j3 (fun k hk tt cs hb => ?_), j1⟩, by simp, fun b hb => ?_, fun x hx => ?_, fun _ => ⟨ht, (h.tl (by simp)).2⟩⟩
  · rcases e with e | e
    · exact Blk.ne_ rp hg (by decide) e
    · exact Blk.ne_ rp rx (by decide) e
  · rcases hk with rfl | rfl
    · rw [blk_same hb hg]; exact nDT_string
    · rw [blk_same hb rx]; exact nDT_BookR
  · injection hb with hb
    subst hb
    refine ⟨(h.b _ rfl).1, j3.blk _ _ _ k2 nRT_BookB (fun e => ?_)⟩
    rcases e with e | e
    · exact Blk.ne_ k2 hg (by decide) e
    · exact Blk.ne_ k2 rx (by decide) e
  · injection hx with hx
    subst hx
    exact ⟨(h.x _ rfl).1, (h.x _ rfl).2.1, j2⟩
end
set_option maxHeartbeats 2000000 in
set_option maxRecDepth 100000 in
theorem pdo_sync (w : World) (pb p gs q gg n : Nat) (f nn : Int) (S : Dst) (bb xx : Nat) (t : List UInt8) (br : Bool) (B m : Nat) (D : PW w pb p gs q gg n f nn S (some bb) (some xx) t br B m) (hm : m < 1000000) (dv : Nat) (tv pv : Value) (nv : Int) (hr : dv % 9 = 3) :
    Calls Tryz.prog 9 #[.pointer (some ⟨pb, 0, none⟩), stepV dv tv nv pv] w fun e w' => e = .returned (.bool true) ∧ PW w' pb p gs q gg n f nn (bsyS S br).2.1 (some bb) (some xx) t (bsyS S br).2.2 B (m + 1) ∧ Only (fun b => B ≤ b) w w' := by
  have hmay := (D.tl (by simp)).2
  obtain ⟨h1, h2, h3, h4⟩ : 0 ≤ f ∧ 1 ≤ nn ∧ f ≤ (n : Int) ∧ nn ≤ (n : Int) - f := by unfold mayB at hmay; simpa using hmay
  obtain ⟨f, rfl⟩ : ∃ j : Nat, f = j := ⟨f.toNat, by omega⟩
  obtain ⟨nn, rfl⟩ : ∃ j : Nat, nn = j := ⟨nn.toNat, by omega⟩
  obtain ⟨y, hy⟩ : ∃ y, y = bsyS S br := ⟨_, rfl⟩
  rw [← hy]
  have HY := Lib.hid hy
  obtain ⟨w1, hw1⟩ : ∃ w1, w1 = w.alloc (.cells #[.int .u8 (dv : Int), tv, .int .i64 nv, pv] 41) := ⟨_, rfl⟩
  obtain ⟨sb, hsb⟩ : ∃ sb, sb = w.heap.size := ⟨_, rfl⟩
  have o1 : Only (fun _ => False) w w1 := by rw [hw1]; exact (Only.refl _ w).alloc _
  have b0 : Blk w1 sb 41 #[.int .u8 (dv : Int), tv, .int .i64 nv, pv] := by rw [hw1, hsb]; exact Blk.new w _ _
  have D1 := D.only o1
  have c0 : w1.cell? ⟨sb, 0, none⟩ = some (.int .u8 (dv : Int)) := b0.cell 0
  have c3 : w1.cell? ⟨pb, 3, none⟩ = some (.pointer (some ⟨xx, 0, none⟩)) := D1.blk.cell 3
  rw [hw1] at c0 c3
  rw [hsb] at c0
  have hrem : (dv : Int) % 9 = 3 := rem9 dv 3 hr
  have odr : Only (fun _ => False) w1 w1.drew := (Only.refl _ w1).drew
  have HD1 := Lib.hid (D1.only odr)
  have HO1 := Lib.hid (o1.trans odr)
  have HW := Lib.hid hw1.symm
  have HQ := Lib.hid hsb.symm
  have d2 : w1.drew.cell? ⟨pb, 2, none⟩ = some (.pointer (some ⟨bb, 0, none⟩)) := (D1.only odr).blk.cell 2
  have d3 : w1.drew.cell? ⟨pb, 3, none⟩ = some (.pointer (some ⟨xx, 0, none⟩)) := (D1.only odr).blk.cell 3
  clear D D1 o1 b0 hw1 hsb hr hy odr
  unfold stepV
  go_enter Tryz.func9, Tryz.ntmps9
  go_wp2_with fail
  rw [HW.out]
  clear c0 c3
  go_region_held3 (fun w' => w'.cell? ⟨pb, 2, none⟩ = some (.pointer (some ⟨bb, 0, none⟩)) ∧ w'.cell? ⟨pb, 3, none⟩ = some (.pointer (some ⟨xx, 0, none⟩))) (go_keep) (first
    | (go_at_call 19; refine (bsync_any p gs n f nn bb S B m t br _ HD1.out.d.d (HD1.out.b bb rfl).2 (HD1.out.b bb rfl).1 hm).mono ?_; rw [← HY.out]; rintro e W1 ⟨rfl, k1, k2, k3, k4⟩; have HM := Lib.hid (pw_mid HD1.out k1 (Nat.le_add_right m 1) k3); have K1 := Lib.hid k1; have K2 := Lib.hid k2; have K3 := Lib.hid k3; have K4 := Lib.hid k4; have r2 : W1.cell? ⟨pb, 2, none⟩ = some (.pointer (some ⟨bb, 0, none⟩)) := HM.out.2.2.cell 2; have r3 : W1.cell? ⟨pb, 3, none⟩ = some (.pointer (some ⟨xx, 0, none⟩)) := HM.out.2.2.cell 3; clear k1 k2 k3 k4)
    | (go_at_call 23; refine (rbsync_any _ q gg n f nn xx S B m t br HM.out.1 HM.out.2.1 (HD1.out.x xx rfl).1 (HD1.out.x xx rfl).2.1).mono ?_; rw [← HY.out]; rintro e W2 ⟨rfl, k1, k2, k3, k4⟩; have HF := Lib.hid (pw_fin HD1.out K1.out K2.out K3.out (Nat.le_add_right m 1) (k1.more (Nat.le_add_right m 1) (by omega)) k2 k3 (HD1.out.tl (by simp)).1); have HO := Lib.hid (((HO1.out.mono fun _ h => h.elim).trans K4.out).trans k4); have s2 : W2.cell? ⟨pb, 2, none⟩ = some (.pointer (some ⟨bb, 0, none⟩)) := HF.out.blk.cell 2; have s3 : W2.cell? ⟨pb, 3, none⟩ = some (.pointer (some ⟨xx, 0, none⟩)) := HF.out.blk.cell 3; clear k1 k2 k3 k4))
  go_wp2_with fail
  go_ret
  exact ⟨rfl, HF.out, HO.out⟩
end Go.Proofs.YtmneflpjoaocbaaGreat
/- Steps of a pair: open, crash, fuse. No conditions beyond what each states. -/
namespace Go.Proofs.YtmneflpjoaocbaaGreat
set_option maxRecDepth 100000
open Go.RowKit
set_option linter.unusedVariables false
set_option maxHeartbeats 2000000 in
set_option maxRecDepth 100000 in
theorem pdo_open (w : World) (pb p gs q gg n : Nat) (f nn : Int) (S : Dst) (bo xo : Option Nat) (t : List UInt8) (br : Bool) (B m : Nat) (D : PW w pb p gs q gg n f nn S bo xo t br B m)
    (hk0 : -9223372036854775808 ≤ nn) (hk1 : nn ≤ 9223372036854775807) (hm : m + 20000 ≤ 1000000) (dv : Nat) (tv pv : Value) (nv : Int) (hr : dv % 9 = 6) :
    Calls Tryz.prog 9 #[.pointer (some ⟨pb, 0, none⟩), stepV dv tv nv pv] w fun e w' => e = .returned (.bool true) ∧ (∃ bo' xo', PW w' pb p gs q gg n f nn (opS n f nn S).2 bo' xo' (txU f nn S) false B (m + 2 * n + 2)) ∧ Only (fun b => B ≤ b) w w' := by
  obtain ⟨w1, hw1⟩ : ∃ w1, w1 = w.alloc (.cells #[.int .u8 (dv : Int), tv, .int .i64 nv, pv] 41) := ⟨_, rfl⟩
  obtain ⟨sb, hsb⟩ : ∃ sb, sb = w.heap.size := ⟨_, rfl⟩
  have o1 : Only (fun _ => False) w w1 := by rw [hw1]; exact (Only.refl _ w).alloc _
  have b0 : Blk w1 sb 41 #[.int .u8 (dv : Int), tv, .int .i64 nv, pv] := by rw [hw1, hsb]; exact Blk.new w _ _
  have D1 := D.only o1
  have c0 : w1.cell? ⟨sb, 0, none⟩ = some (.int .u8 (dv : Int)) := b0.cell 0
  rw [hw1, hsb] at c0
  have hrem : (dv : Int) % 9 = 6 := rem9 dv 6 hr
  have HD1 := Lib.hid D1
  have HO1 := Lib.hid o1
  have HB0 := Lib.hid b0
  have HW := Lib.hid hw1.symm
  have HQ := Lib.hid hsb.symm
  clear D D1 o1 b0 hw1 hsb hr
  unfold stepV
  go_enter Tryz.func9, Tryz.ntmps9
  go_wp2_with fail
  rw [HW.out]
  refine (popen_any w1 pb p gs q gg n f nn S bo xo t br B m HD1.out hk0 hk1 hm).mono ?_
  rintro e w2 ⟨rfl, ⟨bo', xo', hp⟩, o2⟩
  have HP := Lib.hid hp
  have O2 := Lib.hid o2
  clear hp o2
  go_wp2_with fail
  go_ret
  exact ⟨rfl, ⟨_, _, HP.out⟩, (HO1.out.mono fun _ h => h.elim).trans O2.out⟩
end Go.Proofs.YtmneflpjoaocbaaGreat
/- Steps of a pair: crash. No conditions beyond what each states. -/
namespace Go.Proofs.YtmneflpjoaocbaaGreat
set_option maxRecDepth 100000
open Go.RowKit
set_option linter.unusedVariables false
section
variable {w w' : World} {pb p gs q gg n : Nat} {f nn : Int} {S S' : Dst} {bo xo : Option Nat} {t : List UInt8} {br : Bool} {B m m' : Nat}
/-- a call of both disks leaves the pair and its books -/
theorem pw_disk (h : PW w pb p gs q gg n f nn S bo xo t br B m) (d : PairD w' p gs q gg n S' B m') (F : FarP gg w w') : PW w' pb p gs q gg n f nn S' bo xo t br B m' := by
  obtain ⟨cur, hg⟩ := h.d.r.ggBlk
  refine ⟨F.blk _ _ _ h.blk (fun e => e.elim nDT_pair nRT_pair) (fun e => Blk.ne_ h.blk hg (by decide) e), h.lo, d, h.no, fun b hb => ⟨(h.b b hb).1, F.blk _ _ _ (h.b b hb).2 (fun e => e.elim nDT_Book nRT_BookB) (fun e => Blk.ne_ (h.b b hb).2 hg (by decide) e)⟩, fun x hx => ⟨(h.x x hx).1, (h.x x hx).2.1, F.blk _ _ _ (h.x x hx).2.2 (fun e => e.elim nDT_BookR nRT_Book) (fun e => Blk.ne_ (h.x x hx).2.2 hg (by decide) e)⟩, h.tl⟩
end
theorem nPT_Step : ¬ PT 41 := fun h => by rcases h with (h | h | h) | (h | h) <;> revert h <;> decide
set_option maxHeartbeats 2000000 in
set_option maxRecDepth 100000 in
theorem pdo_crash (w : World) (pb p gs q gg n : Nat) (f nn : Int) (S : Dst) (bo xo : Option Nat) (t : List UInt8) (br : Bool) (B m : Nat) (D : PW w pb p gs q gg n f nn S bo xo t br B m)
    (ps : List Int) (AP : Option Addr) (cp : Nat) (hps : Reads w B 1 AP ps.length (ps.map (Value.int .i64))) (dv : Nat) (tv : Value) (nv : Int) (hr : dv % 9 = 4) :
    Calls Tryz.prog 9 #[.pointer (some ⟨pb, 0, none⟩), stepV dv tv nv (.slice AP ps.length cp)] w fun e w' => e = .returned (.bool true) ∧ PW w' pb p gs q gg n f nn (crS S ps) bo xo t br B m ∧ Only (fun b => B ≤ b) w w' := by
  obtain ⟨w1, hw1⟩ : ∃ w1, w1 = w.alloc (.cells #[.int .u8 (dv : Int), tv, .int .i64 nv, .slice AP ps.length cp] 41) := ⟨_, rfl⟩
  obtain ⟨sb, hsb⟩ : ∃ sb, sb = w.heap.size := ⟨_, rfl⟩
  have o1 : Only (fun _ => False) w w1 := by rw [hw1]; exact (Only.refl _ w).alloc _
  have b0 : Blk w1 sb 41 #[.int .u8 (dv : Int), tv, .int .i64 nv, .slice AP ps.length cp] := by rw [hw1, hsb]; exact Blk.new w _ _
  have odr : Only (fun _ => False) w1 w1.drew := (Only.refl _ w1).drew
  have D1 := (D.only o1).only odr
  have c0 : w1.cell? ⟨sb, 0, none⟩ = some (.int .u8 (dv : Int)) := b0.cell 0
  rw [hw1, hsb] at c0
  have hrem : (dv : Int) % 9 = 4 := rem9 dv 4 hr
  have hP : Reads w1.drew B 1 AP ps.length (ps.map (Value.int .i64)) := hps.below ((o1.trans odr).below (fun _ h => h.elim) (by have := D.d.d.size; omega))
  have bd := odr.blk b0 (fun h => h)
  have d0 : w1.drew.cell? ⟨pb, 0, none⟩ = some (.pointer (some ⟨p, 0, none⟩)) := D1.blk.cell 0
  have d1 : w1.drew.cell? ⟨pb, 1, none⟩ = some (.pointer (some ⟨q, 0, none⟩)) := D1.blk.cell 1
  have d3 : w1.drew.cell? ⟨sb, 3, none⟩ = some (.slice AP ps.length cp) := bd.cell 3
  have HPS := Lib.hid hP
  have HD1 := Lib.hid D1
  have HO1 := Lib.hid (o1.trans odr)
  have HBD := Lib.hid bd
  have HGG := Lib.hid D1.d.r.ggBlk
  have HW := Lib.hid hw1.symm
  have HQ := Lib.hid hsb.symm
  clear D D1 o1 b0 hw1 hsb hr hP bd odr hps
  unfold stepV
  go_enter Tryz.func9, Tryz.ntmps9
  go_wp2_with fail
  rw [HW.out, HQ.out]
  clear c0
  go_region_held3 (fun w' => w'.cell? ⟨pb, 0, none⟩ = some (.pointer (some ⟨p, 0, none⟩)) ∧ w'.cell? ⟨pb, 1, none⟩ = some (.pointer (some ⟨q, 0, none⟩)) ∧ w'.cell? ⟨sb, 3, none⟩ = some (.slice AP ps.length cp)) (go_keep) (
    (go_at_call 24; refine (do_crash _ p gs q gg n S B m ps AP cp HD1.out.d HPS.out).mono ?_; rintro e W1 ⟨rfl, k1, k2, k3⟩; have HF := Lib.hid (pw_disk HD1.out k1 k3); have HO := Lib.hid ((HO1.out.mono fun _ h => h.elim).trans k2); have HB2 := Lib.hid (FarG.blk k3 _ _ _ HBD.out nPT_Step (fun e => by obtain ⟨cur, hg⟩ := HGG.out; exact Blk.ne_ HBD.out hg (by decide) e)); have s0 : W1.cell? ⟨pb, 0, none⟩ = some (.pointer (some ⟨p, 0, none⟩)) := HF.out.blk.cell 0; have s1 : W1.cell? ⟨pb, 1, none⟩ = some (.pointer (some ⟨q, 0, none⟩)) := HF.out.blk.cell 1; have s3 : W1.cell? ⟨sb, 3, none⟩ = some (.slice AP ps.length cp) := HB2.out.cell 3; clear k1 k2 k3))
  go_wp2_with fail
  go_ret
  exact ⟨rfl, HF.out, HO.out⟩
end Go.Proofs.YtmneflpjoaocbaaGreat
/- Steps of a pair: fuse. No conditions beyond what each states. -/
namespace Go.Proofs.YtmneflpjoaocbaaGreat
set_option maxRecDepth 100000
open Go.RowKit
set_option linter.unusedVariables false
set_option maxHeartbeats 2000000 in
set_option maxRecDepth 100000 in
theorem pdo_fuse_bad (w : World) (pb p gs q gg n : Nat) (f nn : Int) (S : Dst) (bo xo : Option Nat) (t : List UInt8) (br : Bool) (B m : Nat) (D : PW w pb p gs q gg n f nn S bo xo t br B m)
    (dv : Nat) (tv pv : Value) (nv : Int) (hr : dv % 9 = 5) (hk : nv < 0) :
    Calls Tryz.prog 9 #[.pointer (some ⟨pb, 0, none⟩), stepV dv tv nv pv] w fun e w' => e = .returned (.bool true) ∧ PW w' pb p gs q gg n f nn S bo xo t br B m ∧ Only (fun b => B ≤ b) w w' := by
  obtain ⟨w1, hw1⟩ : ∃ w1, w1 = w.alloc (.cells #[.int .u8 (dv : Int), tv, .int .i64 nv, pv] 41) := ⟨_, rfl⟩
  obtain ⟨sb, hsb⟩ : ∃ sb, sb = w.heap.size := ⟨_, rfl⟩
  have o1 : Only (fun _ => False) w w1 := by rw [hw1]; exact (Only.refl _ w).alloc _
  have b0 : Blk w1 sb 41 #[.int .u8 (dv : Int), tv, .int .i64 nv, pv] := by rw [hw1, hsb]; exact Blk.new w _ _
  have odr : Only (fun _ => False) w1 w1.drew := (Only.refl _ w1).drew
  have D1 := (D.only o1).only odr
  have c0 : w1.cell? ⟨sb, 0, none⟩ = some (.int .u8 (dv : Int)) := b0.cell 0
  rw [hw1, hsb] at c0
  have hrem : (dv : Int) % 9 = 5 := rem9 dv 5 hr
  have bd := odr.blk b0 (fun h => h)
  have d0 : w1.drew.cell? ⟨pb, 0, none⟩ = some (.pointer (some ⟨p, 0, none⟩)) := D1.blk.cell 0
  have d1 : w1.drew.cell? ⟨pb, 1, none⟩ = some (.pointer (some ⟨q, 0, none⟩)) := D1.blk.cell 1
  have d3 : w1.drew.cell? ⟨sb, 2, none⟩ = some (.int .i64 nv) := bd.cell 2
  have HD1 := Lib.hid D1
  have HO1 := Lib.hid (o1.trans odr)
  have HBD := Lib.hid bd
  have HGG := Lib.hid D1.d.r.ggBlk
  have HW := Lib.hid hw1.symm
  have HQ := Lib.hid hsb.symm
  clear D D1 o1 b0 hw1 hsb hr bd odr
  unfold stepV
  go_enter Tryz.func9, Tryz.ntmps9
  go_wp2_with fail
  rw [HW.out, HQ.out]
  clear c0
  go_region_held3 (fun w' => w'.cell? ⟨pb, 0, none⟩ = some (.pointer (some ⟨p, 0, none⟩)) ∧ w'.cell? ⟨pb, 1, none⟩ = some (.pointer (some ⟨q, 0, none⟩)) ∧ w'.cell? ⟨sb, 2, none⟩ = some (.int .i64 nv)) (go_keep) (
    (go_at_call 24; refine (do_fuse_bad _ p gs q gg n S B m nv HD1.out.d hk).mono ?_; rintro e W1 ⟨rfl, k1, k2, k3⟩; have HF := Lib.hid (pw_disk HD1.out k1 k3); have HO := Lib.hid ((HO1.out.mono fun _ h => h.elim).trans k2); have HB2 := Lib.hid (FarG.blk k3 _ _ _ HBD.out nPT_Step (fun e => by obtain ⟨cur, hg⟩ := HGG.out; exact Blk.ne_ HBD.out hg (by decide) e)); have s0 : W1.cell? ⟨pb, 0, none⟩ = some (.pointer (some ⟨p, 0, none⟩)) := HF.out.blk.cell 0; have s1 : W1.cell? ⟨pb, 1, none⟩ = some (.pointer (some ⟨q, 0, none⟩)) := HF.out.blk.cell 1; have s3 : W1.cell? ⟨sb, 2, none⟩ = some (.int .i64 nv) := HB2.out.cell 2; clear k1 k2 k3))
  go_wp2_with fail
  go_ret
  exact ⟨rfl, HF.out, HO.out⟩
set_option maxHeartbeats 2000000 in
set_option maxRecDepth 100000 in
theorem pdo_fuse (w : World) (pb p gs q gg n : Nat) (f nn : Int) (S : Dst) (bo xo : Option Nat) (t : List UInt8) (br : Bool) (B m : Nat) (D : PW w pb p gs q gg n f nn S bo xo t br B m)
    (dv : Nat) (tv pv : Value) (nv : Nat) (hr : dv % 9 = 5) (hk : (nv : Int) ≤ 9223372036854775807) :
    Calls Tryz.prog 9 #[.pointer (some ⟨pb, 0, none⟩), stepV dv tv nv pv] w fun e w' => e = .returned (.bool true) ∧ PW w' pb p gs q gg n f nn ⟨S.g, S.l, some nv⟩ bo xo t br B m ∧ Only (fun b => B ≤ b) w w' := by
  obtain ⟨w1, hw1⟩ : ∃ w1, w1 = w.alloc (.cells #[.int .u8 (dv : Int), tv, .int .i64 (nv : Int), pv] 41) := ⟨_, rfl⟩
  obtain ⟨sb, hsb⟩ : ∃ sb, sb = w.heap.size := ⟨_, rfl⟩
  have o1 : Only (fun _ => False) w w1 := by rw [hw1]; exact (Only.refl _ w).alloc _
  have b0 : Blk w1 sb 41 #[.int .u8 (dv : Int), tv, .int .i64 (nv : Int), pv] := by rw [hw1, hsb]; exact Blk.new w _ _
  have odr : Only (fun _ => False) w1 w1.drew := (Only.refl _ w1).drew
  have D1 := (D.only o1).only odr
  have c0 : w1.cell? ⟨sb, 0, none⟩ = some (.int .u8 (dv : Int)) := b0.cell 0
  rw [hw1, hsb] at c0
  have hrem : (dv : Int) % 9 = 5 := rem9 dv 5 hr
  have bd := odr.blk b0 (fun h => h)
  have d0 : w1.drew.cell? ⟨pb, 0, none⟩ = some (.pointer (some ⟨p, 0, none⟩)) := D1.blk.cell 0
  have d1 : w1.drew.cell? ⟨pb, 1, none⟩ = some (.pointer (some ⟨q, 0, none⟩)) := D1.blk.cell 1
  have d3 : w1.drew.cell? ⟨sb, 2, none⟩ = some (.int .i64 (nv : Int)) := bd.cell 2
  have HD1 := Lib.hid D1
  have HO1 := Lib.hid (o1.trans odr)
  have HBD := Lib.hid bd
  have HGG := Lib.hid D1.d.r.ggBlk
  have HW := Lib.hid hw1.symm
  have HQ := Lib.hid hsb.symm
  clear D D1 o1 b0 hw1 hsb hr bd odr
  unfold stepV
  go_enter Tryz.func9, Tryz.ntmps9
  go_wp2_with fail
  rw [HW.out, HQ.out]
  clear c0
  go_region_held3 (fun w' => w'.cell? ⟨pb, 0, none⟩ = some (.pointer (some ⟨p, 0, none⟩)) ∧ w'.cell? ⟨pb, 1, none⟩ = some (.pointer (some ⟨q, 0, none⟩)) ∧ w'.cell? ⟨sb, 2, none⟩ = some (.int .i64 (nv : Int))) (go_keep) (
    (go_at_call 24; refine (do_fuse _ p gs q gg n S B m nv HD1.out.d hk).mono ?_; rintro e W1 ⟨rfl, k1, k2, k3⟩; have HF := Lib.hid (pw_disk HD1.out k1 k3); have HO := Lib.hid ((HO1.out.mono fun _ h => h.elim).trans k2); have HB2 := Lib.hid (FarG.blk k3 _ _ _ HBD.out nPT_Step (fun e => by obtain ⟨cur, hg⟩ := HGG.out; exact Blk.ne_ HBD.out hg (by decide) e)); have s0 : W1.cell? ⟨pb, 0, none⟩ = some (.pointer (some ⟨p, 0, none⟩)) := HF.out.blk.cell 0; have s1 : W1.cell? ⟨pb, 1, none⟩ = some (.pointer (some ⟨q, 0, none⟩)) := HF.out.blk.cell 1; have s3 : W1.cell? ⟨sb, 2, none⟩ = some (.int .i64 (nv : Int)) := HB2.out.cell 2; clear k1 k2 k3))
  go_wp2_with fail
  go_ret
  exact ⟨rfl, HF.out, HO.out⟩
end Go.Proofs.YtmneflpjoaocbaaGreat
/- Steps of a pair: Clear. No conditions beyond what each states. -/
namespace Go.Proofs.YtmneflpjoaocbaaGreat
set_option maxRecDepth 100000
open Go.RowKit
set_option linter.unusedVariables false
set_option maxHeartbeats 2000000 in
set_option maxRecDepth 100000 in
theorem pdo_clear (w : World) (pb p gs q gg n : Nat) (f nn : Int) (S : Dst) (bo xo : Option Nat) (t : List UInt8) (br : Bool) (B m : Nat) (D : PW w pb p gs q gg n f nn S bo xo t br B m)
    (hk0 : -9223372036854775808 ≤ nn) (hk1 : nn ≤ 9223372036854775807) (hm : m + 20000 ≤ 1000000) (dv : Nat) (tv pv : Value) (nv : Int) (hr : dv % 9 = 8) :
    Calls Tryz.prog 9 #[.pointer (some ⟨pb, 0, none⟩), stepV dv tv nv pv] w fun e w' => e = .returned (.bool true) ∧ PW w' pb p gs q gg n f nn (clS n f nn S).2 bo xo t br B (m + 2 * n + 2) ∧ Only (fun b => B ≤ b) w w' := by
  obtain ⟨y, hy⟩ : ∃ y, y = clS n f nn S := ⟨_, rfl⟩
  rw [← hy]
  have HY := Lib.hid hy
  obtain ⟨w1, hw1⟩ : ∃ w1, w1 = w.alloc (.cells #[.int .u8 (dv : Int), tv, .int .i64 nv, pv] 41) := ⟨_, rfl⟩
  obtain ⟨sb, hsb⟩ : ∃ sb, sb = w.heap.size := ⟨_, rfl⟩
  have o1 : Only (fun _ => False) w w1 := by rw [hw1]; exact (Only.refl _ w).alloc _
  have b0 : Blk w1 sb 41 #[.int .u8 (dv : Int), tv, .int .i64 nv, pv] := by rw [hw1, hsb]; exact Blk.new w _ _
  have odr : Only (fun _ => False) w1 w1.drew := (Only.refl _ w1).drew
  have D1 := (D.only o1).only odr
  have c0 : w1.cell? ⟨sb, 0, none⟩ = some (.int .u8 (dv : Int)) := b0.cell 0
  rw [hw1, hsb] at c0
  have hrem : (dv : Int) % 9 = 8 := rem9 dv 8 hr
  have d0 : w1.drew.cell? ⟨pb, 0, none⟩ = some (.pointer (some ⟨p, 0, none⟩)) := D1.blk.cell 0
  have d1 : w1.drew.cell? ⟨pb, 1, none⟩ = some (.pointer (some ⟨q, 0, none⟩)) := D1.blk.cell 1
  have d4 : w1.drew.cell? ⟨pb, 4, none⟩ = some (.int .i64 f) := D1.blk.cell 4
  have d5 : w1.drew.cell? ⟨pb, 5, none⟩ = some (.int .i64 nn) := D1.blk.cell 5
  have HD1 := Lib.hid D1
  have HO1 := Lib.hid (o1.trans odr)
  have HW := Lib.hid hw1.symm
  have HQ := Lib.hid hsb.symm
  clear D D1 o1 b0 hw1 hsb hr odr hy
  unfold stepV
  go_enter Tryz.func9, Tryz.ntmps9
  go_wp2_with fail
  rw [HW.out]
  clear c0
  go_region_held3 (fun w' => w'.cell? ⟨pb, 0, none⟩ = some (.pointer (some ⟨p, 0, none⟩)) ∧ w'.cell? ⟨pb, 1, none⟩ = some (.pointer (some ⟨q, 0, none⟩)) ∧ w'.cell? ⟨pb, 4, none⟩ = some (.int .i64 f) ∧ w'.cell? ⟨pb, 5, none⟩ = some (.int .i64 nn)) (go_keep) (first
    | (go_at_call 16; refine (bclear_full p gs n S B m f nn _ HD1.out.d.d hk0 hk1 (by omega)).mono ?_; rw [← HY.out]; rintro e W1 ⟨rfl, k1, k2, k3⟩; have HH := Lib.hid (HalfD.prog HD1.out.d k2 k1 (by omega)); have HR := Lib.hid (HD1.out.d.r.far k2); have K2 := Lib.hid (FarP.far (gg := gg) k2); have K3 := Lib.hid k3; have KP := Lib.hid (k2.blk _ _ _ HD1.out.blk nDT_pair); have r0 : W1.cell? ⟨pb, 0, none⟩ = some (.pointer (some ⟨p, 0, none⟩)) := KP.out.cell 0; have r1 : W1.cell? ⟨pb, 1, none⟩ = some (.pointer (some ⟨q, 0, none⟩)) := KP.out.cell 1; have r4 : W1.cell? ⟨pb, 4, none⟩ = some (.int .i64 f) := KP.out.cell 4; have r5 : W1.cell? ⟨pb, 5, none⟩ = some (.int .i64 nn) := KP.out.cell 5; clear k1 k2 k3)
    | (go_at_call 25; refine (rclear_any _ q gg n S B m f nn HR.out (by omega)).mono ?_; rw [← HY.out]; rintro e W2 ⟨rfl, k1, k2, k3⟩; have HF := Lib.hid (pw_disk HD1.out (HalfD.ref HH.out k2 (fun _ h => .inl h) k1 (Nat.le_refl _)) (K2.out.trans (FarP.ref k2))); have HO := Lib.hid (((HO1.out.mono fun _ h => h.elim).trans K3.out).trans k3); have s0 : W2.cell? ⟨pb, 0, none⟩ = some (.pointer (some ⟨p, 0, none⟩)) := HF.out.blk.cell 0; have s1 : W2.cell? ⟨pb, 1, none⟩ = some (.pointer (some ⟨q, 0, none⟩)) := HF.out.blk.cell 1; have s4 : W2.cell? ⟨pb, 4, none⟩ = some (.int .i64 f) := HF.out.blk.cell 4; have s5 : W2.cell? ⟨pb, 5, none⟩ = some (.int .i64 nn) := HF.out.blk.cell 5; clear k1 k2 k3))
  go_wp2_with fail
  go_ret
  exact ⟨rfl, HF.out, HO.out⟩
end Go.Proofs.YtmneflpjoaocbaaGreat
/- Steps of a pair: Append where there is no book. No conditions beyond what each states. -/
namespace Go.Proofs.YtmneflpjoaocbaaGreat
set_option maxRecDepth 100000
open Go.RowKit
set_option linter.unusedVariables false
set_option maxHeartbeats 2000000 in
set_option maxRecDepth 100000 in
theorem pdo_app_nil0 (w : World) (pb p gs q gg n : Nat) (f nn : Int) (S : Dst) (t : List UInt8) (br : Bool) (B m : Nat) (D : PW w pb p gs q gg n f nn S none none t br B m) (dv : Nat) (tv pv : Value) (nv : Int) (hr : dv % 9 = 0) :
    Calls Tryz.prog 9 #[.pointer (some ⟨pb, 0, none⟩), stepV dv tv nv pv] w fun e w' => e = .returned (.bool true) ∧ PW w' pb p gs q gg n f nn S none none t br B m ∧ Only (fun b => B ≤ b) w w' := by
  obtain ⟨w1, hw1⟩ : ∃ w1, w1 = w.alloc (.cells #[.int .u8 (dv : Int), tv, .int .i64 nv, pv] 41) := ⟨_, rfl⟩
  obtain ⟨sb, hsb⟩ : ∃ sb, sb = w.heap.size := ⟨_, rfl⟩
  have o1 : Only (fun _ => False) w w1 := by rw [hw1]; exact (Only.refl _ w).alloc _
  have b0 : Blk w1 sb 41 #[.int .u8 (dv : Int), tv, .int .i64 nv, pv] := by rw [hw1, hsb]; exact Blk.new w _ _
  have odr : Only (fun _ => False) w1 w1.drew := (Only.refl _ w1).drew
  have D0 := D.only o1
  have D1 := D0.only odr
  have c0 : w1.cell? ⟨sb, 0, none⟩ = some (.int .u8 (dv : Int)) := b0.cell 0
  have c3 : w1.cell? ⟨pb, 3, none⟩ = some (.pointer none) := D0.blk.cell 3
  rw [hw1] at c0 c3
  rw [hsb] at c0
  have hrem : (dv : Int) % 9 = 0 := rem9 dv 0 hr
  have d2 : w1.drew.cell? ⟨pb, 2, none⟩ = some (.pointer none) := D1.blk.cell 2
  have d1 : w1.drew.cell? ⟨sb, 1, none⟩ = some tv := (odr.blk b0 (fun h => h)).cell 1
  have HD1 := Lib.hid D1
  have HO1 := Lib.hid (o1.trans odr)
  have HW := Lib.hid hw1.symm
  have HQ := Lib.hid hsb.symm
  clear D D0 D1 o1 b0 hw1 hsb hr odr
  unfold stepV
  go_enter Tryz.func9, Tryz.ntmps9
  go_wp2_with fail
  rw [HW.out, HQ.out]
  clear c0 c3
  go_region_held3 (fun w' => w'.cell? ⟨pb, 2, none⟩ = some (.pointer none) ∧ w'.cell? ⟨sb, 1, none⟩ = some tv) (go_keep) (
    (go_at_call 18; refine (bappend_nil _ _).mono ?_; rintro e W1 ⟨rfl, rfl⟩))
  go_wp2_with fail
  go_ret
  exact ⟨rfl, HD1.out, HO1.out.mono fun _ h => h.elim⟩
set_option maxHeartbeats 2000000 in
set_option maxRecDepth 100000 in
theorem pdo_app_nil1 (w : World) (pb p gs q gg n : Nat) (f nn : Int) (S : Dst) (t : List UInt8) (br : Bool) (B m : Nat) (D : PW w pb p gs q gg n f nn S none none t br B m) (dv : Nat) (tv pv : Value) (nv : Int) (hr : dv % 9 = 1) :
    Calls Tryz.prog 9 #[.pointer (some ⟨pb, 0, none⟩), stepV dv tv nv pv] w fun e w' => e = .returned (.bool true) ∧ PW w' pb p gs q gg n f nn S none none t br B m ∧ Only (fun b => B ≤ b) w w' := by
  obtain ⟨w1, hw1⟩ : ∃ w1, w1 = w.alloc (.cells #[.int .u8 (dv : Int), tv, .int .i64 nv, pv] 41) := ⟨_, rfl⟩
  obtain ⟨sb, hsb⟩ : ∃ sb, sb = w.heap.size := ⟨_, rfl⟩
  have o1 : Only (fun _ => False) w w1 := by rw [hw1]; exact (Only.refl _ w).alloc _
  have b0 : Blk w1 sb 41 #[.int .u8 (dv : Int), tv, .int .i64 nv, pv] := by rw [hw1, hsb]; exact Blk.new w _ _
  have odr : Only (fun _ => False) w1 w1.drew := (Only.refl _ w1).drew
  have D0 := D.only o1
  have D1 := D0.only odr
  have c0 : w1.cell? ⟨sb, 0, none⟩ = some (.int .u8 (dv : Int)) := b0.cell 0
  have c3 : w1.cell? ⟨pb, 3, none⟩ = some (.pointer none) := D0.blk.cell 3
  rw [hw1] at c0 c3
  rw [hsb] at c0
  have hrem : (dv : Int) % 9 = 1 := rem9 dv 1 hr
  have d2 : w1.drew.cell? ⟨pb, 2, none⟩ = some (.pointer none) := D1.blk.cell 2
  have d1 : w1.drew.cell? ⟨sb, 1, none⟩ = some tv := (odr.blk b0 (fun h => h)).cell 1
  have HD1 := Lib.hid D1
  have HO1 := Lib.hid (o1.trans odr)
  have HW := Lib.hid hw1.symm
  have HQ := Lib.hid hsb.symm
  clear D D0 D1 o1 b0 hw1 hsb hr odr
  unfold stepV
  go_enter Tryz.func9, Tryz.ntmps9
  go_wp2_with fail
  rw [HW.out, HQ.out]
  clear c0 c3
  go_region_held3 (fun w' => w'.cell? ⟨pb, 2, none⟩ = some (.pointer none) ∧ w'.cell? ⟨sb, 1, none⟩ = some tv) (go_keep) (
    (go_at_call 18; refine (bappend_nil _ _).mono ?_; rintro e W1 ⟨rfl, rfl⟩))
  go_wp2_with fail
  go_ret
  exact ⟨rfl, HD1.out, HO1.out.mono fun _ h => h.elim⟩
set_option maxHeartbeats 2000000 in
set_option maxRecDepth 100000 in
theorem pdo_app_nil2 (w : World) (pb p gs q gg n : Nat) (f nn : Int) (S : Dst) (t : List UInt8) (br : Bool) (B m : Nat) (D : PW w pb p gs q gg n f nn S none none t br B m) (dv : Nat) (tv pv : Value) (nv : Int) (hr : dv % 9 = 2) :
    Calls Tryz.prog 9 #[.pointer (some ⟨pb, 0, none⟩), stepV dv tv nv pv] w fun e w' => e = .returned (.bool true) ∧ PW w' pb p gs q gg n f nn S none none t br B m ∧ Only (fun b => B ≤ b) w w' := by
  obtain ⟨w1, hw1⟩ : ∃ w1, w1 = w.alloc (.cells #[.int .u8 (dv : Int), tv, .int .i64 nv, pv] 41) := ⟨_, rfl⟩
  obtain ⟨sb, hsb⟩ : ∃ sb, sb = w.heap.size := ⟨_, rfl⟩
  have o1 : Only (fun _ => False) w w1 := by rw [hw1]; exact (Only.refl _ w).alloc _
  have b0 : Blk w1 sb 41 #[.int .u8 (dv : Int), tv, .int .i64 nv, pv] := by rw [hw1, hsb]; exact Blk.new w _ _
  have odr : Only (fun _ => False) w1 w1.drew := (Only.refl _ w1).drew
  have D0 := D.only o1
  have D1 := D0.only odr
  have c0 : w1.cell? ⟨sb, 0, none⟩ = some (.int .u8 (dv : Int)) := b0.cell 0
  have c3 : w1.cell? ⟨pb, 3, none⟩ = some (.pointer none) := D0.blk.cell 3
  rw [hw1] at c0 c3
  rw [hsb] at c0
  have hrem : (dv : Int) % 9 = 2 := rem9 dv 2 hr
  have d2 : w1.drew.cell? ⟨pb, 2, none⟩ = some (.pointer none) := D1.blk.cell 2
  have d1 : w1.drew.cell? ⟨sb, 1, none⟩ = some tv := (odr.blk b0 (fun h => h)).cell 1
  have HD1 := Lib.hid D1
  have HO1 := Lib.hid (o1.trans odr)
  have HW := Lib.hid hw1.symm
  have HQ := Lib.hid hsb.symm
  clear D D0 D1 o1 b0 hw1 hsb hr odr
  unfold stepV
  go_enter Tryz.func9, Tryz.ntmps9
  go_wp2_with fail
  rw [HW.out, HQ.out]
  clear c0 c3
  go_region_held3 (fun w' => w'.cell? ⟨pb, 2, none⟩ = some (.pointer none) ∧ w'.cell? ⟨sb, 1, none⟩ = some tv) (go_keep) (
    (go_at_call 18; refine (bappend_nil _ _).mono ?_; rintro e W1 ⟨rfl, rfl⟩))
  go_wp2_with fail
  go_ret
  exact ⟨rfl, HD1.out, HO1.out.mono fun _ h => h.elim⟩
end Go.Proofs.YtmneflpjoaocbaaGreat
/- Steps of a pair: Append of both books. No conditions beyond what each states. -/
namespace Go.Proofs.YtmneflpjoaocbaaGreat
set_option maxRecDepth 100000
open Go.RowKit
set_option linter.unusedVariables false
/-- texts that lie below B -/
def LowRow (w : World) (B : Nat) (A : Option Addr) (xs : List ByteArray) : Prop := TextRow w A xs ∧ (0 < xs.length → ∀ ad, A = some ad → ad.block < B)
theorem LowRow.only {w W : World} {B : Nat} {A : Option Addr} {xs : List ByteArray} (h : LowRow w B A xs) (hB : B ≤ w.heap.size) (o : Only (fun b => B ≤ b) w W) : LowRow W B A xs :=
  ⟨⟨fun k hk => by
    obtain ⟨g, off, h1, h2, h3⟩ := h.1.at_ k hk
    have h4 : g < B := h.2 (by omega) _ h1
    exact ⟨g, off, h1, Nat.lt_of_lt_of_le h2 o.size, ((o.below (fun _ h => h) hB).cell (p := ⟨g, off + k, none⟩) h4).trans h3⟩⟩, h.2⟩
theorem appS_len {n f nn : Nat} {S : Dst} {t : List UInt8} {br : Bool} {xs : List ByteArray} (ht : t.length ≤ nn * 127) : (appS n f nn S t br xs).2.2.1.length ≤ nn * 127 := by
  unfold appS
  split
  · exact ht
  · split
    · rename_i hall
      split
      · exact ht
      · split
        · exact ht
        · rename_i hroom _
          have h1 := frsB_len xs (fun x hx => by have := List.all_eq_true.1 hall x hx; simpa using this)
          simp only [List.length_append]
          omega
    · exact ht
set_option maxHeartbeats 2000000 in
set_option maxRecDepth 100000 in
theorem pdo_app0 (w : World) (pb p gs q gg n : Nat) (f nn : Int) (S : Dst) (bb xx : Nat) (t : List UInt8) (br : Bool) (B m : Nat) (D : PW w pb p gs q gg n f nn S (some bb) (some xx) t br B m) (hm : m + 10000 ≤ 1000000)
    (xs : List ByteArray) (A : Option Addr) (c : Nat) (hx : LowRow w B A xs) (hxl : xs.length ≤ 1000000) (hxs : ∀ x ∈ xs, x.size ≤ 4294967296) (dv : Nat) (pv : Value) (nv : Int) (hr : dv % 9 = 0) :
    Calls Tryz.prog 9 #[.pointer (some ⟨pb, 0, none⟩), stepV dv (.slice A xs.length c) nv pv] w fun e w' => e = .returned (.bool true) ∧ PW w' pb p gs q gg n f nn (appS n f.toNat nn.toNat S t br xs).2.1 (some bb) (some xx) (appS n f.toNat nn.toNat S t br xs).2.2.1 (appS n f.toNat nn.toNat S t br xs).2.2.2 B (m + n + 2) ∧ Only (fun b => B ≤ b) w w' := by
  have hmay := (D.tl (by simp)).2
  obtain ⟨h1, h2, h3, h4⟩ : 0 ≤ f ∧ 1 ≤ nn ∧ f ≤ (n : Int) ∧ nn ≤ (n : Int) - f := by unfold mayB at hmay; simpa using hmay
  obtain ⟨f, rfl⟩ : ∃ j : Nat, f = j := ⟨f.toNat, by omega⟩
  obtain ⟨nn, rfl⟩ : ∃ j : Nat, nn = j := ⟨nn.toNat, by omega⟩
  rw [Int.toNat_natCast, Int.toNat_natCast]
  have htl : t.length ≤ nn * 127 := by have := (D.tl (by simp)).1; simpa using this
  obtain ⟨y, hy⟩ : ∃ y, y = appS n f nn S t br xs := ⟨_, rfl⟩
  have hyl : y.2.2.1.length ≤ (nn : Int).toNat * 127 := by rw [hy]; exact appS_len htl
  have hn4 : n ≤ 4096 := D.d.d.1.2.1
  rw [← hy]
  have HY := Lib.hid hy
  obtain ⟨w1, hw1⟩ : ∃ w1, w1 = w.alloc (.cells #[.int .u8 (dv : Int), .slice A xs.length c, .int .i64 nv, pv] 41) := ⟨_, rfl⟩
  obtain ⟨sb, hsb⟩ : ∃ sb, sb = w.heap.size := ⟨_, rfl⟩
  have o1 : Only (fun _ => False) w w1 := by rw [hw1]; exact (Only.refl _ w).alloc _
  have b0 : Blk w1 sb 41 #[.int .u8 (dv : Int), .slice A xs.length c, .int .i64 nv, pv] := by rw [hw1, hsb]; exact Blk.new w _ _
  have odr : Only (fun _ => False) w1 w1.drew := (Only.refl _ w1).drew
  have D0 := D.only o1
  have D1 := D0.only odr
  have hBw : B ≤ w.heap.size := by have := D.d.d.size; omega
  have hl1 := hx.only hBw ((o1.trans odr).mono fun _ h => h.elim)
  have c0 : w1.cell? ⟨sb, 0, none⟩ = some (.int .u8 (dv : Int)) := b0.cell 0
  have c3 : w1.cell? ⟨pb, 3, none⟩ = some (.pointer (some ⟨xx, 0, none⟩)) := D0.blk.cell 3
  rw [hw1] at c0 c3
  rw [hsb] at c0
  have hrem : (dv : Int) % 9 = 0 := rem9 dv 0 hr
  have bd := odr.blk b0 (fun h => h)
  have d2 : w1.drew.cell? ⟨pb, 2, none⟩ = some (.pointer (some ⟨bb, 0, none⟩)) := D1.blk.cell 2
  have d3 : w1.drew.cell? ⟨pb, 3, none⟩ = some (.pointer (some ⟨xx, 0, none⟩)) := D1.blk.cell 3
  have d1 : w1.drew.cell? ⟨sb, 1, none⟩ = some (.slice A xs.length c) := bd.cell 1
  have HL := Lib.hid hl1
  have HD1 := Lib.hid D1
  have HO1 := Lib.hid (o1.trans odr)
  have HBD := Lib.hid bd
  have HYL := Lib.hid hyl
  have HBW : Hid (B ≤ w1.drew.heap.size) := Lib.hid (by have := (o1.trans odr).size; omega)
  have HW := Lib.hid hw1.symm
  have HQ := Lib.hid hsb.symm
  clear D D0 D1 o1 b0 hw1 hsb hr odr hl1 bd hx hy hyl hBw hmay
  unfold stepV
  go_enter Tryz.func9, Tryz.ntmps9
  go_wp2_with fail
  rw [HW.out, HQ.out]
  clear c0 c3
  go_region_held3 (fun w' => w'.cell? ⟨pb, 2, none⟩ = some (.pointer (some ⟨bb, 0, none⟩)) ∧ w'.cell? ⟨pb, 3, none⟩ = some (.pointer (some ⟨xx, 0, none⟩)) ∧ w'.cell? ⟨sb, 1, none⟩ = some (.slice A xs.length c)) (go_keep) (first
    | (go_at_call 18; refine (append_any p gs n f nn bb S B m t br xs A c _ HD1.out.d.d (HD1.out.b bb rfl).2 (HD1.out.b bb rfl).1 (fun W _ hW => (HL.out.only HBW.out hW).1) (by omega) htl (by omega) hxl (fun x hx => by have := hxs x hx; omega)).mono ?_; rw [← HY.out]; rintro e W1 ⟨rfl, k1, k2, k3, k4⟩; have K1 := Lib.hid (k1.more (m' := m + n + 2) (by omega) (by omega)); have HM := Lib.hid (pw_mid HD1.out K1.out (by omega) k3); have K2 := Lib.hid k2; have K3 := Lib.hid k3; have K4 := Lib.hid k4; have HB1 := Lib.hid (k3.blk _ _ _ HBD.out (fun e => by rcases e with e | e | e <;> revert e <;> decide) (fun e => Blk.ne_ HBD.out (HD1.out.b bb rfl).2 (by decide) e)); have r2 : W1.cell? ⟨pb, 2, none⟩ = some (.pointer (some ⟨bb, 0, none⟩)) := HM.out.2.2.cell 2; have r3 : W1.cell? ⟨pb, 3, none⟩ = some (.pointer (some ⟨xx, 0, none⟩)) := HM.out.2.2.cell 3; have r1 : W1.cell? ⟨sb, 1, none⟩ = some (.slice A xs.length c) := HB1.out.cell 1; clear k1 k2 k3 k4)
    | (go_at_call 26; refine (rappend_any _ q gg n f nn xx S B m t br xs A c HM.out.1 HM.out.2.1 (HD1.out.x xx rfl).1 (HL.out.only HBW.out K4.out).1 (by omega) htl (by omega) hxl hxs).mono ?_; rw [← HY.out]; rintro e W2 ⟨rfl, k1, k2, k3, k4⟩; have HF := Lib.hid (pw_fin HD1.out K1.out K2.out K3.out (by omega) (k1.more (by omega) (by omega)) k2 k3 HYL.out); have HO := Lib.hid (((HO1.out.mono fun _ h => h.elim).trans K4.out).trans k4); have HB2 := Lib.hid (k3.blk _ _ _ HB1.out (fun e => by rcases e with e | e <;> revert e <;> decide) (fun e => e.elim (fun e => HM.out.1.ggBlk.elim fun cur hg => Blk.ne_ HB1.out hg (by decide) e) (fun e => Blk.ne_ HB1.out HM.out.2.1 (by decide) e))); have s2 : W2.cell? ⟨pb, 2, none⟩ = some (.pointer (some ⟨bb, 0, none⟩)) := HF.out.blk.cell 2; have s3 : W2.cell? ⟨pb, 3, none⟩ = some (.pointer (some ⟨xx, 0, none⟩)) := HF.out.blk.cell 3; have s1 : W2.cell? ⟨sb, 1, none⟩ = some (.slice A xs.length c) := HB2.out.cell 1; clear k1 k2 k3 k4))
  go_wp2_with fail
  go_ret
  exact ⟨rfl, HF.out, HO.out⟩
set_option maxHeartbeats 2000000 in
set_option maxRecDepth 100000 in
theorem pdo_app1 (w : World) (pb p gs q gg n : Nat) (f nn : Int) (S : Dst) (bb xx : Nat) (t : List UInt8) (br : Bool) (B m : Nat) (D : PW w pb p gs q gg n f nn S (some bb) (some xx) t br B m) (hm : m + 10000 ≤ 1000000)
    (xs : List ByteArray) (A : Option Addr) (c : Nat) (hx : LowRow w B A xs) (hxl : xs.length ≤ 1000000) (hxs : ∀ x ∈ xs, x.size ≤ 4294967296) (dv : Nat) (pv : Value) (nv : Int) (hr : dv % 9 = 1) :
    Calls Tryz.prog 9 #[.pointer (some ⟨pb, 0, none⟩), stepV dv (.slice A xs.length c) nv pv] w fun e w' => e = .returned (.bool true) ∧ PW w' pb p gs q gg n f nn (appS n f.toNat nn.toNat S t br xs).2.1 (some bb) (some xx) (appS n f.toNat nn.toNat S t br xs).2.2.1 (appS n f.toNat nn.toNat S t br xs).2.2.2 B (m + n + 2) ∧ Only (fun b => B ≤ b) w w' := by
  have hmay := (D.tl (by simp)).2
  obtain ⟨h1, h2, h3, h4⟩ : 0 ≤ f ∧ 1 ≤ nn ∧ f ≤ (n : Int) ∧ nn ≤ (n : Int) - f := by unfold mayB at hmay; simpa using hmay
  obtain ⟨f, rfl⟩ : ∃ j : Nat, f = j := ⟨f.toNat, by omega⟩
  obtain ⟨nn, rfl⟩ : ∃ j : Nat, nn = j := ⟨nn.toNat, by omega⟩
  rw [Int.toNat_natCast, Int.toNat_natCast]
  have htl : t.length ≤ nn * 127 := by have := (D.tl (by simp)).1; simpa using this
  obtain ⟨y, hy⟩ : ∃ y, y = appS n f nn S t br xs := ⟨_, rfl⟩
  have hyl : y.2.2.1.length ≤ (nn : Int).toNat * 127 := by rw [hy]; exact appS_len htl
  have hn4 : n ≤ 4096 := D.d.d.1.2.1
  rw [← hy]
  have HY := Lib.hid hy
  obtain ⟨w1, hw1⟩ : ∃ w1, w1 = w.alloc (.cells #[.int .u8 (dv : Int), .slice A xs.length c, .int .i64 nv, pv] 41) := ⟨_, rfl⟩
  obtain ⟨sb, hsb⟩ : ∃ sb, sb = w.heap.size := ⟨_, rfl⟩
  have o1 : Only (fun _ => False) w w1 := by rw [hw1]; exact (Only.refl _ w).alloc _
  have b0 : Blk w1 sb 41 #[.int .u8 (dv : Int), .slice A xs.length c, .int .i64 nv, pv] := by rw [hw1, hsb]; exact Blk.new w _ _
  have odr : Only (fun _ => False) w1 w1.drew := (Only.refl _ w1).drew
  have D0 := D.only o1
  have D1 := D0.only odr
  have hBw : B ≤ w.heap.size := by have := D.d.d.size; omega
  have hl1 := hx.only hBw ((o1.trans odr).mono fun _ h => h.elim)
  have c0 : w1.cell? ⟨sb, 0, none⟩ = some (.int .u8 (dv : Int)) := b0.cell 0
  have c3 : w1.cell? ⟨pb, 3, none⟩ = some (.pointer (some ⟨xx, 0, none⟩)) := D0.blk.cell 3
  rw [hw1] at c0 c3
  rw [hsb] at c0
  have hrem : (dv : Int) % 9 = 1 := rem9 dv 1 hr
  have bd := odr.blk b0 (fun h => h)
  have d2 : w1.drew.cell? ⟨pb, 2, none⟩ = some (.pointer (some ⟨bb, 0, none⟩)) := D1.blk.cell 2
  have d3 : w1.drew.cell? ⟨pb, 3, none⟩ = some (.pointer (some ⟨xx, 0, none⟩)) := D1.blk.cell 3
  have d1 : w1.drew.cell? ⟨sb, 1, none⟩ = some (.slice A xs.length c) := bd.cell 1
  have HL := Lib.hid hl1
  have HD1 := Lib.hid D1
  have HO1 := Lib.hid (o1.trans odr)
  have HBD := Lib.hid bd
  have HYL := Lib.hid hyl
  have HBW : Hid (B ≤ w1.drew.heap.size) := Lib.hid (by have := (o1.trans odr).size; omega)
  have HW := Lib.hid hw1.symm
  have HQ := Lib.hid hsb.symm
  clear D D0 D1 o1 b0 hw1 hsb hr odr hl1 bd hx hy hyl hBw hmay
  unfold stepV
  go_enter Tryz.func9, Tryz.ntmps9
  go_wp2_with fail
  rw [HW.out, HQ.out]
  clear c0 c3
  go_region_held3 (fun w' => w'.cell? ⟨pb, 2, none⟩ = some (.pointer (some ⟨bb, 0, none⟩)) ∧ w'.cell? ⟨pb, 3, none⟩ = some (.pointer (some ⟨xx, 0, none⟩)) ∧ w'.cell? ⟨sb, 1, none⟩ = some (.slice A xs.length c)) (go_keep) (first
    | (go_at_call 18; refine (append_any p gs n f nn bb S B m t br xs A c _ HD1.out.d.d (HD1.out.b bb rfl).2 (HD1.out.b bb rfl).1 (fun W _ hW => (HL.out.only HBW.out hW).1) (by omega) htl (by omega) hxl (fun x hx => by have := hxs x hx; omega)).mono ?_; rw [← HY.out]; rintro e W1 ⟨rfl, k1, k2, k3, k4⟩; have K1 := Lib.hid (k1.more (m' := m + n + 2) (by omega) (by omega)); have HM := Lib.hid (pw_mid HD1.out K1.out (by omega) k3); have K2 := Lib.hid k2; have K3 := Lib.hid k3; have K4 := Lib.hid k4; have HB1 := Lib.hid (k3.blk _ _ _ HBD.out (fun e => by rcases e with e | e | e <;> revert e <;> decide) (fun e => Blk.ne_ HBD.out (HD1.out.b bb rfl).2 (by decide) e)); have r2 : W1.cell? ⟨pb, 2, none⟩ = some (.pointer (some ⟨bb, 0, none⟩)) := HM.out.2.2.cell 2; have r3 : W1.cell? ⟨pb, 3, none⟩ = some (.pointer (some ⟨xx, 0, none⟩)) := HM.out.2.2.cell 3; have r1 : W1.cell? ⟨sb, 1, none⟩ = some (.slice A xs.length c) := HB1.out.cell 1; clear k1 k2 k3 k4)
    | (go_at_call 26; refine (rappend_any _ q gg n f nn xx S B m t br xs A c HM.out.1 HM.out.2.1 (HD1.out.x xx rfl).1 (HL.out.only HBW.out K4.out).1 (by omega) htl (by omega) hxl hxs).mono ?_; rw [← HY.out]; rintro e W2 ⟨rfl, k1, k2, k3, k4⟩; have HF := Lib.hid (pw_fin HD1.out K1.out K2.out K3.out (by omega) (k1.more (by omega) (by omega)) k2 k3 HYL.out); have HO := Lib.hid (((HO1.out.mono fun _ h => h.elim).trans K4.out).trans k4); have HB2 := Lib.hid (k3.blk _ _ _ HB1.out (fun e => by rcases e with e | e <;> revert e <;> decide) (fun e => e.elim (fun e => HM.out.1.ggBlk.elim fun cur hg => Blk.ne_ HB1.out hg (by decide) e) (fun e => Blk.ne_ HB1.out HM.out.2.1 (by decide) e))); have s2 : W2.cell? ⟨pb, 2, none⟩ = some (.pointer (some ⟨bb, 0, none⟩)) := HF.out.blk.cell 2; have s3 : W2.cell? ⟨pb, 3, none⟩ = some (.pointer (some ⟨xx, 0, none⟩)) := HF.out.blk.cell 3; have s1 : W2.cell? ⟨sb, 1, none⟩ = some (.slice A xs.length c) := HB2.out.cell 1; clear k1 k2 k3 k4))
  go_wp2_with fail
  go_ret
  exact ⟨rfl, HF.out, HO.out⟩
set_option maxHeartbeats 2000000 in
set_option maxRecDepth 100000 in
theorem pdo_app2 (w : World) (pb p gs q gg n : Nat) (f nn : Int) (S : Dst) (bb xx : Nat) (t : List UInt8) (br : Bool) (B m : Nat) (D : PW w pb p gs q gg n f nn S (some bb) (some xx) t br B m) (hm : m + 10000 ≤ 1000000)
    (xs : List ByteArray) (A : Option Addr) (c : Nat) (hx : LowRow w B A xs) (hxl : xs.length ≤ 1000000) (hxs : ∀ x ∈ xs, x.size ≤ 4294967296) (dv : Nat) (pv : Value) (nv : Int) (hr : dv % 9 = 2) :
    Calls Tryz.prog 9 #[.pointer (some ⟨pb, 0, none⟩), stepV dv (.slice A xs.length c) nv pv] w fun e w' => e = .returned (.bool true) ∧ PW w' pb p gs q gg n f nn (appS n f.toNat nn.toNat S t br xs).2.1 (some bb) (some xx) (appS n f.toNat nn.toNat S t br xs).2.2.1 (appS n f.toNat nn.toNat S t br xs).2.2.2 B (m + n + 2) ∧ Only (fun b => B ≤ b) w w' := by
  have hmay := (D.tl (by simp)).2
  obtain ⟨h1, h2, h3, h4⟩ : 0 ≤ f ∧ 1 ≤ nn ∧ f ≤ (n : Int) ∧ nn ≤ (n : Int) - f := by unfold mayB at hmay; simpa using hmay
  obtain ⟨f, rfl⟩ : ∃ j : Nat, f = j := ⟨f.toNat, by omega⟩
  obtain ⟨nn, rfl⟩ : ∃ j : Nat, nn = j := ⟨nn.toNat, by omega⟩
  rw [Int.toNat_natCast, Int.toNat_natCast]
  have htl : t.length ≤ nn * 127 := by have := (D.tl (by simp)).1; simpa using this
  obtain ⟨y, hy⟩ : ∃ y, y = appS n f nn S t br xs := ⟨_, rfl⟩
  have hyl : y.2.2.1.length ≤ (nn : Int).toNat * 127 := by rw [hy]; exact appS_len htl
  have hn4 : n ≤ 4096 := D.d.d.1.2.1
  rw [← hy]
  have HY := Lib.hid hy
  obtain ⟨w1, hw1⟩ : ∃ w1, w1 = w.alloc (.cells #[.int .u8 (dv : Int), .slice A xs.length c, .int .i64 nv, pv] 41) := ⟨_, rfl⟩
  obtain ⟨sb, hsb⟩ : ∃ sb, sb = w.heap.size := ⟨_, rfl⟩
  have o1 : Only (fun _ => False) w w1 := by rw [hw1]; exact (Only.refl _ w).alloc _
  have b0 : Blk w1 sb 41 #[.int .u8 (dv : Int), .slice A xs.length c, .int .i64 nv, pv] := by rw [hw1, hsb]; exact Blk.new w _ _
  have odr : Only (fun _ => False) w1 w1.drew := (Only.refl _ w1).drew
  have D0 := D.only o1
  have D1 := D0.only odr
  have hBw : B ≤ w.heap.size := by have := D.d.d.size; omega
  have hl1 := hx.only hBw ((o1.trans odr).mono fun _ h => h.elim)
  have c0 : w1.cell? ⟨sb, 0, none⟩ = some (.int .u8 (dv : Int)) := b0.cell 0
  have c3 : w1.cell? ⟨pb, 3, none⟩ = some (.pointer (some ⟨xx, 0, none⟩)) := D0.blk.cell 3
  rw [hw1] at c0 c3
  rw [hsb] at c0
  have hrem : (dv : Int) % 9 = 2 := rem9 dv 2 hr
  have bd := odr.blk b0 (fun h => h)
  have d2 : w1.drew.cell? ⟨pb, 2, none⟩ = some (.pointer (some ⟨bb, 0, none⟩)) := D1.blk.cell 2
  have d3 : w1.drew.cell? ⟨pb, 3, none⟩ = some (.pointer (some ⟨xx, 0, none⟩)) := D1.blk.cell 3
  have d1 : w1.drew.cell? ⟨sb, 1, none⟩ = some (.slice A xs.length c) := bd.cell 1
  have HL := Lib.hid hl1
  have HD1 := Lib.hid D1
  have HO1 := Lib.hid (o1.trans odr)
  have HBD := Lib.hid bd
  have HYL := Lib.hid hyl
  have HBW : Hid (B ≤ w1.drew.heap.size) := Lib.hid (by have := (o1.trans odr).size; omega)
  have HW := Lib.hid hw1.symm
  have HQ := Lib.hid hsb.symm
  clear D D0 D1 o1 b0 hw1 hsb hr odr hl1 bd hx hy hyl hBw hmay
  unfold stepV
  go_enter Tryz.func9, Tryz.ntmps9
  go_wp2_with fail
  rw [HW.out, HQ.out]
  clear c0 c3
  go_region_held3 (fun w' => w'.cell? ⟨pb, 2, none⟩ = some (.pointer (some ⟨bb, 0, none⟩)) ∧ w'.cell? ⟨pb, 3, none⟩ = some (.pointer (some ⟨xx, 0, none⟩)) ∧ w'.cell? ⟨sb, 1, none⟩ = some (.slice A xs.length c)) (go_keep) (first
    | (go_at_call 18; refine (append_any p gs n f nn bb S B m t br xs A c _ HD1.out.d.d (HD1.out.b bb rfl).2 (HD1.out.b bb rfl).1 (fun W _ hW => (HL.out.only HBW.out hW).1) (by omega) htl (by omega) hxl (fun x hx => by have := hxs x hx; omega)).mono ?_; rw [← HY.out]; rintro e W1 ⟨rfl, k1, k2, k3, k4⟩; have K1 := Lib.hid (k1.more (m' := m + n + 2) (by omega) (by omega)); have HM := Lib.hid (pw_mid HD1.out K1.out (by omega) k3); have K2 := Lib.hid k2; have K3 := Lib.hid k3; have K4 := Lib.hid k4; have HB1 := Lib.hid (k3.blk _ _ _ HBD.out (fun e => by rcases e with e | e | e <;> revert e <;> decide) (fun e => Blk.ne_ HBD.out (HD1.out.b bb rfl).2 (by decide) e)); have r2 : W1.cell? ⟨pb, 2, none⟩ = some (.pointer (some ⟨bb, 0, none⟩)) := HM.out.2.2.cell 2; have r3 : W1.cell? ⟨pb, 3, none⟩ = some (.pointer (some ⟨xx, 0, none⟩)) := HM.out.2.2.cell 3; have r1 : W1.cell? ⟨sb, 1, none⟩ = some (.slice A xs.length c) := HB1.out.cell 1; clear k1 k2 k3 k4)
    | (go_at_call 26; refine (rappend_any _ q gg n f nn xx S B m t br xs A c HM.out.1 HM.out.2.1 (HD1.out.x xx rfl).1 (HL.out.only HBW.out K4.out).1 (by omega) htl (by omega) hxl hxs).mono ?_; rw [← HY.out]; rintro e W2 ⟨rfl, k1, k2, k3, k4⟩; have HF := Lib.hid (pw_fin HD1.out K1.out K2.out K3.out (by omega) (k1.more (by omega) (by omega)) k2 k3 HYL.out); have HO := Lib.hid (((HO1.out.mono fun _ h => h.elim).trans K4.out).trans k4); have HB2 := Lib.hid (k3.blk _ _ _ HB1.out (fun e => by rcases e with e | e <;> revert e <;> decide) (fun e => e.elim (fun e => HM.out.1.ggBlk.elim fun cur hg => Blk.ne_ HB1.out hg (by decide) e) (fun e => Blk.ne_ HB1.out HM.out.2.1 (by decide) e))); have s2 : W2.cell? ⟨pb, 2, none⟩ = some (.pointer (some ⟨bb, 0, none⟩)) := HF.out.blk.cell 2; have s3 : W2.cell? ⟨pb, 3, none⟩ = some (.pointer (some ⟨xx, 0, none⟩)) := HF.out.blk.cell 3; have s1 : W2.cell? ⟨sb, 1, none⟩ = some (.slice A xs.length c) := HB2.out.cell 1; clear k1 k2 k3 k4))
  go_wp2_with fail
  go_ret
  exact ⟨rfl, HF.out, HO.out⟩
end Go.Proofs.YtmneflpjoaocbaaGreat
/- Steps of a pair: a write of both disks. No conditions beyond what each states. -/
namespace Go.Proofs.YtmneflpjoaocbaaGreat
open Go.RowKit
set_option linter.unusedVariables false
set_option maxHeartbeats 2000000 in
set_option maxRecDepth 100000 in
theorem pdo_write (w : World) (pb p gs q gg n : Nat) (f nn : Int) (S : Dst) (bo xo : Option Nat) (t : List UInt8) (br : Bool) (B m : Nat) (D : PW w pb p gs q gg n f nn S bo xo t br B m) (hm : m < 1000000)
    (xs : List ByteArray) (A : Option Addr) (c : Nat) (hx : LowRow w B A xs) (h0 : 0 < xs.length) (tx : List UInt8) (htx : tx = (xs[0]'h0).data.toList) (htl : tx.length ≤ 9223372036854775807) (dv : Nat) (pv : Value) (nv : Int) (hr : dv % 9 = 7) :
    Calls Tryz.prog 9 #[.pointer (some ⟨pb, 0, none⟩), stepV dv (.slice A xs.length c) nv pv] w fun e w' => e = .returned (.bool true) ∧ PW w' pb p gs q gg n f nn (wrS n S nv tx).2 bo xo t br B (m + 1) ∧ Only (fun b => B ≤ b) w w' := by
  obtain ⟨w1, hw1⟩ : ∃ w1, w1 = w.alloc (.cells #[.int .u8 (dv : Int), .slice A xs.length c, .int .i64 nv, pv] 41) := ⟨_, rfl⟩
  obtain ⟨sb, hsb⟩ : ∃ sb, sb = w.heap.size := ⟨_, rfl⟩
  have o1 : Only (fun _ => False) w w1 := by rw [hw1]; exact (Only.refl _ w).alloc _
  have b0 : Blk w1 sb 41 #[.int .u8 (dv : Int), .slice A xs.length c, .int .i64 nv, pv] := by rw [hw1, hsb]; exact Blk.new w _ _
  have odr : Only (fun _ => False) w1 w1.drew := (Only.refl _ w1).drew
  have D1 := (D.only o1).only odr
  have c0 : w1.cell? ⟨sb, 0, none⟩ = some (.int .u8 (dv : Int)) := b0.cell 0
  have c1 : w1.cell? ⟨sb, 1, none⟩ = some (.slice A xs.length c) := b0.cell 1
  rw [hw1, hsb] at c0 c1
  obtain ⟨g, off, hA, hg, hck⟩ := hx.1.at_ 0 (by omega)
  have hgB : g < B := hx.2 (by omega) _ hA
  subst hA
  have hg1 : w1.cell? ⟨g, off + 0, none⟩ = some (.string (xs[0]'(by omega))) := (o1.cell (p := ⟨g, off + 0, none⟩) hg (fun h => h)).trans hck
  have hln : (0 : Int) < (xs.length : Int) := by omega
  have hx0 : sB tx = xs[0]'(by omega) := by rw [htx]; exact sB_self _
  rw [← hx0, Nat.add_zero] at hg1
  rw [hw1] at hg1
  clear htx hx0 hck
  have hrem : (dv : Int) % 9 = 7 := rem9 dv 7 hr
  have bd := odr.blk b0 (fun h => h)
  have d0 : w1.drew.cell? ⟨pb, 0, none⟩ = some (.pointer (some ⟨p, 0, none⟩)) := D1.blk.cell 0
  have d1 : w1.drew.cell? ⟨pb, 1, none⟩ = some (.pointer (some ⟨q, 0, none⟩)) := D1.blk.cell 1
  have d2 : w1.drew.cell? ⟨sb, 2, none⟩ = some (.int .i64 nv) := bd.cell 2
  have HD1 := Lib.hid D1
  have HO1 := Lib.hid (o1.trans odr)
  have HBD := Lib.hid bd
  have HGG := Lib.hid D1.d.r.ggBlk
  have HW := Lib.hid hw1.symm
  have HQ := Lib.hid hsb.symm
  clear D D1 o1 b0 hw1 hsb hr bd odr hx
  unfold stepV
  go_enter Tryz.func9, Tryz.ntmps9
  
  go_wp2_with fail
  
  rw [HW.out, HQ.out]
  clear c0 c1
  go_region_held3 (fun w' => w'.cell? ⟨pb, 0, none⟩ = some (.pointer (some ⟨p, 0, none⟩)) ∧ w'.cell? ⟨pb, 1, none⟩ = some (.pointer (some ⟨q, 0, none⟩)) ∧ w'.cell? ⟨sb, 2, none⟩ = some (.int .i64 nv)) (go_keep) (
    (go_at_call 24; refine (do_write _ p gs q gg n S B m nv tx HD1.out.d hm htl).mono ?_; rintro e W1 ⟨rfl, k1, k2, k3⟩; have HF := Lib.hid (pw_disk HD1.out k1 k3); have HO := Lib.hid ((HO1.out.mono fun _ h => h.elim).trans k2); have HB2 := Lib.hid (FarG.blk k3 _ _ _ HBD.out nPT_Step (fun e => by obtain ⟨cur, hg⟩ := HGG.out; exact Blk.ne_ HBD.out hg (by decide) e)); have s0 : W1.cell? ⟨pb, 0, none⟩ = some (.pointer (some ⟨p, 0, none⟩)) := HF.out.blk.cell 0; have s1 : W1.cell? ⟨pb, 1, none⟩ = some (.pointer (some ⟨q, 0, none⟩)) := HF.out.blk.cell 1; have s2 : W1.cell? ⟨sb, 2, none⟩ = some (.int .i64 nv) := HB2.out.cell 2; clear k1 k2 k3))
  go_wp2_with fail
  go_ret
  exact ⟨rfl, HF.out, HO.out⟩
set_option maxHeartbeats 2000000 in
set_option maxRecDepth 100000 in
theorem pdo_write_none (w : World) (pb p gs q gg n : Nat) (f nn : Int) (S : Dst) (bo xo : Option Nat) (t : List UInt8) (br : Bool) (B m : Nat) (D : PW w pb p gs q gg n f nn S bo xo t br B m) (hm : m < 1000000)
    (xs : List ByteArray) (A : Option Addr) (c : Nat) (hx : LowRow w B A xs) (h0 : xs.length = 0) (dv : Nat) (pv : Value) (nv : Int) (hr : dv % 9 = 7) :
    Calls Tryz.prog 9 #[.pointer (some ⟨pb, 0, none⟩), stepV dv (.slice A xs.length c) nv pv] w fun e w' => e = .returned (.bool true) ∧ PW w' pb p gs q gg n f nn (wrS n S nv []).2 bo xo t br B (m + 1) ∧ Only (fun b => B ≤ b) w w' := by
  rw [h0]
  obtain ⟨w1, hw1⟩ : ∃ w1, w1 = w.alloc (.cells #[.int .u8 (dv : Int), .slice A 0 c, .int .i64 nv, pv] 41) := ⟨_, rfl⟩
  obtain ⟨sb, hsb⟩ : ∃ sb, sb = w.heap.size := ⟨_, rfl⟩
  have o1 : Only (fun _ => False) w w1 := by rw [hw1]; exact (Only.refl _ w).alloc _
  have b0 : Blk w1 sb 41 #[.int .u8 (dv : Int), .slice A 0 c, .int .i64 nv, pv] := by rw [hw1, hsb]; exact Blk.new w _ _
  have odr : Only (fun _ => False) w1 w1.drew := (Only.refl _ w1).drew
  have D1 := (D.only o1).only odr
  have c0 : w1.cell? ⟨sb, 0, none⟩ = some (.int .u8 (dv : Int)) := b0.cell 0
  have c1 : w1.cell? ⟨sb, 1, none⟩ = some (.slice A 0 c) := b0.cell 1
  rw [hw1, hsb] at c0 c1
  have hrem : (dv : Int) % 9 = 7 := rem9 dv 7 hr
  have bd := odr.blk b0 (fun h => h)
  have d0 : w1.drew.cell? ⟨pb, 0, none⟩ = some (.pointer (some ⟨p, 0, none⟩)) := D1.blk.cell 0
  have d1 : w1.drew.cell? ⟨pb, 1, none⟩ = some (.pointer (some ⟨q, 0, none⟩)) := D1.blk.cell 1
  have d2 : w1.drew.cell? ⟨sb, 2, none⟩ = some (.int .i64 nv) := bd.cell 2
  have HD1 := Lib.hid D1
  have HO1 := Lib.hid (o1.trans odr)
  have HBD := Lib.hid bd
  have HGG := Lib.hid D1.d.r.ggBlk
  have HW := Lib.hid hw1.symm
  have HQ := Lib.hid hsb.symm
  clear D D1 o1 b0 hw1 hsb hr bd odr hx
  unfold stepV
  go_enter Tryz.func9, Tryz.ntmps9
  
  go_wp2_with fail
  
  rw [HW.out, HQ.out]
  clear c0 c1
  go_region_held3 (fun w' => w'.cell? ⟨pb, 0, none⟩ = some (.pointer (some ⟨p, 0, none⟩)) ∧ w'.cell? ⟨pb, 1, none⟩ = some (.pointer (some ⟨q, 0, none⟩)) ∧ w'.cell? ⟨sb, 2, none⟩ = some (.int .i64 nv)) (go_keep) (
    (go_at_call 24; refine (do_write _ p gs q gg n S B m nv [] HD1.out.d hm (by simp)).mono ?_; rintro e W1 ⟨rfl, k1, k2, k3⟩; have HF := Lib.hid (pw_disk HD1.out k1 k3); have HO := Lib.hid ((HO1.out.mono fun _ h => h.elim).trans k2); have HB2 := Lib.hid (FarG.blk k3 _ _ _ HBD.out nPT_Step (fun e => by obtain ⟨cur, hg⟩ := HGG.out; exact Blk.ne_ HBD.out hg (by decide) e)); have s0 : W1.cell? ⟨pb, 0, none⟩ = some (.pointer (some ⟨p, 0, none⟩)) := HF.out.blk.cell 0; have s1 : W1.cell? ⟨pb, 1, none⟩ = some (.pointer (some ⟨q, 0, none⟩)) := HF.out.blk.cell 1; have s2 : W1.cell? ⟨sb, 2, none⟩ = some (.int .i64 nv) := HB2.out.cell 2; clear k1 k2 k3))
  go_wp2_with fail
  go_ret
  exact ⟨rfl, HF.out, HO.out⟩
end Go.Proofs.YtmneflpjoaocbaaGreat
