/- CellLast: its walk. -/
import Derived.Test.YtncajdkbdionoaaCellC
namespace Go.Proofs.Ytncajdkbdionoaa
open Go.RowKit
set_option linter.unusedVariables false

theorem and7 (a : Int) : ∃ k : Nat, k < 8 ∧ bits .and .i64 a 7 = (k : Int) := by
  have h7 : (BitVec.ofInt 64 7).toNat = 7 := by decide
  have hx : ((BitVec.ofInt 64 a) &&& (BitVec.ofInt 64 7)).toNat < 8 := by
    rw [BitVec.toNat_and, h7]
    exact Nat.lt_of_le_of_lt Nat.and_le_right (by omega)
  refine ⟨((BitVec.ofInt 64 a) &&& (BitVec.ofInt 64 7)).toNat, hx, ?_⟩
  show IntKind.i64.wrap ((BitVec.ofInt 64 a &&& BitVec.ofInt 64 7).toNat : Int) = _
  generalize (BitVec.ofInt 64 a &&& BitVec.ofInt 64 7).toNat = z at *
  rw [IntKind.wrap_i64]
  omega

/-- A memory and, beside it, what was put into each of its eight cells last. -/
structure Held8 (N b hb : Nat) (w wr : World) (t : Int) (k : Nat) : Prop where
  ex : ∃ (v : Value) (xs : List Int), CMem wr N b t v xs ∧ Blk wr hb 2 (xs.map (Value.int .i64)).toArray ∧ xs.length = 8 ∧ v.ownBlock ≠ some hb
  t2 : t ≤ 2 * k
  below : Below N w wr
  hb : N ≤ hb
theorem Held8.drewN {N b hb : Nat} {w wr : World} {t : Int} {k : Nat} (h : Held8 N b hb w wr t k) (j : Nat) : Held8 N b hb w (wr.drewN j) t k := by
  obtain ⟨⟨v, xs, hm, h1, h2, h3⟩, ht, hb, hh⟩ := h
  exact ⟨⟨v, xs, hm.drewN j, h1, h2, h3⟩, ht, ⟨hb.os, hb.tape, hb.output, hb.size, hb.block⟩, hh⟩

theorem map_set_toArray (xs : List Int) (k : Nat) (x : Int) : (xs.map (Value.int .i64)).toArray.setIfInBounds k (.int .i64 x) = ((xs.set k x).map (Value.int .i64)).toArray := by
  rw [List.map_set, List.setIfInBounds_toArray]
theorem blk_at {w : World} {hb : Nat} {t : TypeId} {xs : List Int} (h : Blk w hb t (xs.map (Value.int .i64)).toArray) (k : Nat) (hk : k < xs.length) : w.cell? ⟨hb, k, none⟩ = some (.int .i64 (xs.getD k 0)) := by
  rw [h.cell k]; simp [List.getD, hk]
/-- A row elsewhere is none of the memory's blocks. -/
theorem CMem.offRow {w : World} {B b g : Nat} {n : Int} {v : Value} {xs : List Int} {cs : Array Value} (h : CMem w B b n v xs) (hb : Blk w g 2 cs) (hv : v.ownBlock ≠ some g) : ¬ Go.Proofs.Ytncajdkbdionoaa.mine b v g := by
  rintro (e | e)
  · exact Blk.ne_ hb h.blk (by decide) e
  · exact hv e
theorem CMem.offStep {w : World} {B b g : Nat} {n : Int} {v : Value} {xs : List Int} {cs : Array Value} (h : CMem w B b n v xs) (hb : Blk w g 32 cs) : ¬ Go.Proofs.Ytncajdkbdionoaa.mine b v g := by
  rintro (e | e)
  · exact Blk.ne_ hb h.blk (by decide) e
  · exact own_blk_ne h.own hb (by decide) e

set_option maxHeartbeats 4000000 in
set_option maxRecDepth 100000 in
theorem last_any (A : Option Addr) (c : Nat) (ss : List SD) (w : World) (h : Scr w w.heap.size A ss) (hl : ss.length ≤ maxLen) :
    Calls Try.prog 4 #[.slice A ss.length c] w fun e w' => e = .returned (.bool true) ∧ Below w.heap.size w w' := by
  have H := Lib.hid h
  by_cases hh : heavyB ss = true
  · clear h
    go_enter Try.func4, Try.ntmps4
    go_wp2_with fail
    refine (heavy_any _ A c ss w H.out hl).mono ?_
    rintro e w1 ⟨rfl, rfl⟩
    go_wp2_with fail
    refine (works_any _).mono ?_
    rintro e w1 ⟨rfl, hb⟩
    go_wp2
    go_ret
    exact ⟨rfl, hb⟩
  · have hlen : ss.length ≤ 300 := by
      unfold heavyB at hh
      simp at hh
      exact hh.1
    have hh' : heavyB ss = false := by simpa using hh
    clear h hh hl
    go_enter Try.func4, Try.ntmps4
    go_wp2_with fail
    refine (heavy_any _ A c ss w H.out (by unfold maxLen; omega)).mono ?_
    rintro e w1 ⟨rfl, rfl⟩
    go_wp2_with fail
    refine (new_cm w w.heap.size (Nat.le_refl _)).mono ?_
    rintro e w1 ⟨rfl, h1, o1⟩
    have hz1 := o1.size
    have hl1 := h1.blk.lt
    have H1 := Lib.hid h1
    have O1 := Lib.hid o1
    clear h1 o1 hh'
    go_wp2_with fail
    have a1 : moreA [] [0, 1, 2, 3, 4, 5, 6, 7] = 0 := by decide
    have a2 : moreE [] [0, 1, 2, 3, 4, 5, 6, 7] = 0 := by decide
    have h2 := H1.out.only ((Only.refl (fun _ => False) w1).alloc (.cells ([0, 1, 2, 3, 4, 5, 6, 7].map (Value.int .i64)).toArray 2)) (fun h => h) (fun _ _ h => h)
    refine (more_any w.heap.size _ 0 _ [] [0, 1, 2, 3, 4, 5, 6, 7] _ _ _ _ h2 (reads_new (xs := [0, 1, 2, 3, 4, 5, 6, 7])) (by simp) (by simp [maxLen]) (by simp; omega)).mono ?_
    rintro e w2 ⟨rfl, ⟨v2, h3, _⟩, o3⟩
    have a3 : moreX [] [0, 1, 2, 3, 4, 5, 6, 7] = [0, 1, 2, 3, 4, 5, 6, 7] := by decide
    have hb2 := ((O1.out.below (B := w.heap.size) (fun _ h => h.elim) (Nat.le_refl _)).alloc hz1 (.cells ([0, 1, 2, 3, 4, 5, 6, 7].map (Value.int .i64)).toArray 2)).trans (o3.below h2.mine (by simp; omega))
    rw [a3] at h3
    have S0 : Held8 w.heap.size w.heap.size w2.heap.size w (w2.alloc (.cells ([0, 1, 2, 3, 4, 5, 6, 7].map (Value.int .i64)).toArray 2)) 0 0 :=
      ⟨⟨v2, _, h3.only ((Only.refl (fun _ => False) w2).alloc _) (fun h => h) (fun _ _ h => h), Blk.new _ _ _, by simp, fun e => by have := (h3.own.lt _ e).2; omega⟩, by omega, hb2.alloc hb2.size _, hb2.size⟩
    have HS0 := Lib.hid S0
    have hl2 := o3.size
    clear S0 h2 h3 o3 hb2 a3 H1 O1
    simp only [World.size_alloc] at hl2
    go_wp2_with fail
    go_loopw [7, 8] (fun t i wr => ∃ (k : Nat) (n : Int), k ≤ ss.length ∧ i = .int .i64 k ∧ t = .int .i64 n ∧ Held8 w.heap.size w.heap.size w2.heap.size w wr n k) (fun _ i _ => ss.length - (intOf i).toNat)
    case atStart => exact ⟨0, 0, by omega, rfl, rfl, HS0.out⟩
    case round =>
      clear HS0 a1 a2
      obtain ⟨k, n, hk, rfl, rfl, ⟨v, xs, hm, hbk, hx8, hv⟩, ht2, hbel, hhb⟩ := hrel
      by_cases hlt : k < ss.length
      · obtain ⟨s, hs⟩ : ∃ s, ss[k]? = some s := ⟨_, List.getElem?_eq_getElem hlt⟩
        obtain ⟨b, off, rfl, hb, c0, c1, c2, c3, c4, hr, hlc, hlc'⟩ := (H.out.below hbel) k s hs
        obtain ⟨kk, hk8, hand⟩ := and7 s.place
        have e2 : cellE xs (kk : Int) = 0 := if_pos (by omega)
        have e3 : cellN xs (kk : Int) = 1 := if_pos (by omega)
        have e1 : cellV xs (kk : Int) = xs.getD kk 0 := by rw [cellV, if_pos (by omega), Int.toNat_natCast]
        have e4 : ∀ old, cellIs xs (kk : Int) old = (xs.getD kk 0 == old) := by intro old; simp only [cellIs, hx8, Int.toNat_natCast]; rw [decide_eq_true (show (0 : Int) ≤ kk by omega), decide_eq_true (show (kk : Int) < (8 : Nat) by omega)]; simp
        have hn0 := hm.n0
        have o0 := (Only.refl (fun _ => False) wr).alloc (.cells #[.int .i64 s.kind, .int .i64 s.place, .int .i64 s.val, .int .i64 s.old, .slice s.la s.list.length s.lc] 32)
        have B6 : Blk (wr.alloc (.cells #[.int .i64 s.kind, .int .i64 s.place, .int .i64 s.val, .int .i64 s.old, .slice s.la s.list.length s.lc] 32)) wr.heap.size 32 #[.int .i64 s.kind, .int .i64 s.place, .int .i64 s.val, .int .i64 s.old, .slice s.la s.list.length s.lc] := Blk.new _ _ _
        have HM := Lib.hid (hm.only o0 (fun h => h) (fun _ _ h => h))
        have HK := Lib.hid (o0.blk hbk (fun h => h))
        have HB := Lib.hid (hbel.alloc hbel.size (.cells #[.int .i64 s.kind, .int .i64 s.place, .int .i64 s.val, .int .i64 s.old, .slice s.la s.list.length s.lc] 32))
        have HV := Lib.hid hv
        have B6' := Lib.hid B6
        have Hs0 := Lib.hid hm
        clear hm hbk hs hbel hv hr B6 o0 hlc hlc'
        go_upto_block 2 with fail
        generalize wr.alloc (.cells #[.int .i64 s.kind, .int .i64 s.place, .int .i64 s.val, .int .i64 s.old, .slice s.la s.list.length s.lc] 32) = W0 at *
        generalize wr.heap.size = g6 at *
        have q0 : W0.cell? ⟨g6, 0, none⟩ = some (.int .i64 s.kind) := B6'.out.cell 0
        have q1 : W0.cell? ⟨g6, 1, none⟩ = some (.int .i64 s.place) := B6'.out.cell 1
        have q2 : W0.cell? ⟨g6, 2, none⟩ = some (.int .i64 s.val) := B6'.out.cell 2
        have q3 : W0.cell? ⟨g6, 3, none⟩ = some (.int .i64 s.old) := B6'.out.cell 3
        have hkn : n + 1 ≤ 4611686018427387904 := by omega
        have hkx : kk < xs.length := by omega
        have E4 := Lib.hid e4
        clear e4
        generalize hy : xs.getD kk 0 = y at *
        have HY := Lib.hid hy
        clear hy
        by_cases hk1 : s.kind = 1
        · have hk1' : (s.kind == 1) = true := by simpa using hk1
          clear hk1
          go_wp2_with fail
          refine (load_any _ _ _ _ _ _ _ HM.out hkn).mono ?_
          rintro e W1 ⟨rfl, hm2, ho2⟩
          have hK2 := ho2.blk HK.out (HM.out.offRow HK.out HV.out)
          have r0 : W1.cell? ⟨w2.heap.size, kk, none⟩ = some (.int .i64 y) := by rw [← HY.out]; exact blk_at hK2 kk hkx
          rw [e3] at hm2
          have Hfin := Lib.hid (show Held8 w.heap.size w.heap.size w2.heap.size w W1 (n + 1) (k + 1) from ⟨⟨v, xs, hm2, hK2, hx8, HV.out⟩, by omega, HB.out.trans (ho2.below HM.out.mine HB.out.size), hhb⟩)
          clear hm2 ho2 hK2 e3
          go_wp2_with fail
          go_roundw
          case rel => exact ⟨k + 1, n + 1, by omega, by go_num, rfl, Hfin.out⟩
          case measure => simp [intOf]; omega
        · have hk1' : (s.kind == 1) = false := by simpa using hk1
          clear hk1
          by_cases hk2 : s.kind = 2
          · have hk2' : (s.kind == 2) = true := by simpa using hk2
            clear hk2
            go_wp2_with fail
            refine (store_any _ _ _ _ _ _ _ _ HM.out hkn).mono ?_
            rintro e W1 ⟨rfl, hm2, ho2⟩
            have hK2 := ho2.blk HK.out (HM.out.offRow HK.out HV.out)
            have B7 := ho2.blk B6'.out (HM.out.offStep B6'.out)
            have r0 : W1.cell? ⟨w2.heap.size, kk, none⟩ = some (.int .i64 y) := by rw [← HY.out]; exact blk_at hK2 kk hkx
            have r1 : W1.frozen? ⟨w2.heap.size, kk, none⟩ = false := hK2.frozen kk
            have r2 : W1.cell? ⟨g6, 2, none⟩ = some (.int .i64 s.val) := B7.cell 2
            have e5 : cellS xs (kk : Int) s.val = xs.set kk s.val := by rw [cellS, if_pos (by omega), Int.toNat_natCast]
            rw [e3, e5] at hm2
            have o3 := (Only.refl (· = w2.heap.size) W1).setCell (p := ⟨w2.heap.size, kk, none⟩) (.inl rfl) (.int .i64 s.val)
            have hm3 := hm2.only o3 (fun e => Blk.ne_ hK2 hm2.blk (by decide) e.symm) (fun i hi e => by subst e; exact HV.out hi)
            have hK3 := hK2.set_ kk (.int .i64 s.val)
            rw [map_set_toArray] at hK3
            have hb3 := HB.out.trans (ho2.below HM.out.mine HB.out.size)
            have Hfin := Lib.hid (show Held8 w.heap.size w.heap.size w2.heap.size w (W1.setCell ⟨w2.heap.size, kk, none⟩ (.int .i64 s.val)) (n + 1) (k + 1) from ⟨⟨v, _, hm3, hK3, by simpa using hx8, HV.out⟩, by omega, hb3.setCell hhb _, hhb⟩)
            clear hm2 ho2 hK2 e3 hm3 hK3 hb3 o3 B7 e5
            go_wp2_with fail
            go_roundw
            case rel => exact ⟨k + 1, n + 1, by omega, by go_num, rfl, Hfin.out⟩
            case measure => simp [intOf]; omega
          · have hk2' : (s.kind == 2) = false := by simpa using hk2
            clear hk2
            by_cases hk3 : s.kind = 3
            · have hk3' : (s.kind == 3) = true := by simpa using hk3
              clear hk3
              have e5 := E4.out s.old
              by_cases hold : y = s.old
              · have hyt : (y == s.old) = true := by simpa using hold
                have hvv : ∃ bb : Bool, (s.val == s.old) = bb ∧ (s.old == s.val) = bb := ⟨_, rfl, by rw [Bool.eq_iff_iff]; simp; exact eq_comm⟩
                obtain ⟨bb, hb1, hb2⟩ := hvv
                clear hold
                rw [hyt] at e5
                go_wp2_with fail
                refine (swap_any _ _ _ _ _ _ _ _ _ HM.out hkn).mono ?_
                rintro e W1 ⟨rfl, hm2, ho2⟩
                have hK2 := ho2.blk HK.out (HM.out.offRow HK.out HV.out)
                have B7 := Lib.hid (ho2.blk B6'.out (HM.out.offStep B6'.out))
                have r0 : W1.cell? ⟨w2.heap.size, kk, none⟩ = some (.int .i64 y) := by rw [← HY.out]; exact blk_at hK2 kk hkx
                have r1 : W1.frozen? ⟨w2.heap.size, kk, none⟩ = false := hK2.frozen kk
                have r2 : W1.cell? ⟨g6, 2, none⟩ = some (.int .i64 s.val) := B7.out.cell 2
                have r3 : W1.cell? ⟨g6, 3, none⟩ = some (.int .i64 s.old) := B7.out.cell 3
                have e6 : cellW xs (kk : Int) s.old s.val = xs.set kk s.val := by rw [cellW, if_pos e5, Int.toNat_natCast]
                rw [e3, e6] at hm2
                have o3 := fun j => (Only.refl (· = w2.heap.size) (W1.drewN j)).setCell (p := ⟨w2.heap.size, kk, none⟩) (.inl rfl) (.int .i64 s.val)
                have hm3 := Lib.hid (fun j => (hm2.drewN j).only (o3 j) (fun e => Blk.ne_ hK2 hm2.blk (by decide) e.symm) (fun i hi e => by subst e; exact HV.out hi))
                have hK3 : ∀ j, Blk ((W1.drewN j).setCell ⟨w2.heap.size, kk, none⟩ (.int .i64 s.val)) w2.heap.size 2 ((xs.set kk s.val).map (Value.int .i64)).toArray := fun j => by rw [← map_set_toArray]; exact (hK2.drewN j).set_ kk (.int .i64 s.val)
                have HK3 := Lib.hid hK3
                have B8 := Lib.hid (fun j => (o3 j).blk (B7.out.drewN j) (fun e => Blk.ne_ B7.out hK2 (by decide) e))
                have t2 : ∀ j, ((W1.drewN j).setCell ⟨w2.heap.size, kk, none⟩ (.int .i64 s.val)).cell? ⟨g6, 2, none⟩ = some (.int .i64 s.val) := fun j => (B8.out j).cell 2
                have t3 : ∀ j, ((W1.drewN j).setCell ⟨w2.heap.size, kk, none⟩ (.int .i64 s.val)).cell? ⟨g6, 3, none⟩ = some (.int .i64 s.old) := fun j => (B8.out j).cell 3
                have hb3 := Lib.hid (fun j => (below_drewN (HB.out.trans (ho2.below HM.out.mine HB.out.size)) j).setCell (p := ⟨w2.heap.size, kk, none⟩) hhb (.int .i64 s.val))
                clear hm2 ho2 hK2 e6 hK3 o3
                go_wp2_with fail
                go_quiet (fail)
                go_wp2_with fail
                have e7 : cellE (xs.set kk s.val) (kk : Int) = 0 := by rw [cellE, if_pos (by rw [List.length_set]; omega)]
                have e8 : cellN (xs.set kk s.val) (kk : Int) = 1 := by rw [cellN, if_pos (by rw [List.length_set]; omega)]
                have e9 : cellIs (xs.set kk s.val) (kk : Int) s.old = bb := by
                  rw [← hb1]
                  have h8 : (kk : Int) < 8 := by omega
                  simp [cellIs, hx8, h8, List.getD, hk8]
                have e10 : cellW (xs.set kk s.val) (kk : Int) s.old s.val = xs.set kk s.val := by
                  rw [cellW]; split <;> simp
                refine (swap_any _ _ _ _ _ _ _ _ _ (hm3.out _) (by omega)).mono ?_
                rintro e W3 ⟨rfl, hm4, ho4⟩
                have u2 : W3.cell? ⟨g6, 2, none⟩ = some (.int .i64 s.val) := (ho4.blk (B8.out _) ((hm3.out 0).offStep (B8.out 0))).cell 2
                have u3 : W3.cell? ⟨g6, 3, none⟩ = some (.int .i64 s.old) := (ho4.blk (B8.out _) ((hm3.out 0).offStep (B8.out 0))).cell 3
                rw [e8, e10] at hm4
                have hb4 := (hb3.out _).trans (ho4.below (hm3.out 0).mine (hb3.out _).size)
                have Hfin := Lib.hid (show Held8 w.heap.size w.heap.size w2.heap.size w W3 (n + 1 + 1) (k + 1) from ⟨⟨v, _, hm4, ho4.blk (HK3.out _) ((hm3.out 0).offRow (HK3.out 0) HV.out), by simpa using hx8, HV.out⟩, by omega, hb4, hhb⟩)
                clear hm4 ho4 hb4 e8 e10
                go_wp2_with fail
                go_roundw
                case rel => exact ⟨k + 1, n + 1 + 1, by omega, by go_num, rfl, Hfin.out⟩
                case measure => simp [intOf]; omega
              · have hne : (y == s.old) = false := by simpa using hold
                clear hold
                rw [hne] at e5
                go_wp2_with fail
                refine (swap_any _ _ _ _ _ _ _ _ _ HM.out hkn).mono ?_
                rintro e W1 ⟨rfl, hm2, ho2⟩
                have hK2 := ho2.blk HK.out (HM.out.offRow HK.out HV.out)
                have B7 := ho2.blk B6'.out (HM.out.offStep B6'.out)
                have r0 : W1.cell? ⟨w2.heap.size, kk, none⟩ = some (.int .i64 y) := by rw [← HY.out]; exact blk_at hK2 kk hkx
                have r3 : W1.cell? ⟨g6, 3, none⟩ = some (.int .i64 s.old) := B7.cell 3
                have e6 : cellW xs (kk : Int) s.old s.val = xs := by rw [cellW, e5]; simp
                rw [e3, e6] at hm2
                have Hfin := Lib.hid (show Held8 w.heap.size w.heap.size w2.heap.size w W1 (n + 1) (k + 1) from ⟨⟨v, xs, hm2, hK2, hx8, HV.out⟩, by omega, HB.out.trans (ho2.below HM.out.mine HB.out.size), hhb⟩)
                clear hm2 ho2 hK2 e3 e6 B7
                go_wp2_with fail
                go_quiet (fail)
                go_wp2_with fail
                go_roundw
                case rel => exact ⟨k + 1, n + 1, by omega, by go_num, rfl, Hfin.out.drewN _⟩
                case measure => simp [intOf]; omega
            · have hk3' : (s.kind == 3) = false := by simpa using hk3
              clear hk3
              have Hfin := Lib.hid (show Held8 w.heap.size w.heap.size w2.heap.size w W0 n (k + 1) from ⟨⟨v, xs, HM.out, HK.out, hx8, HV.out⟩, by omega, HB.out, hhb⟩)
              go_wp2_with fail
              go_roundw
              case rel => exact ⟨k + 1, n, by omega, by go_num, rfl, Hfin.out⟩
              case measure => simp [intOf]; omega
      · obtain rfl : k = ss.length := by omega
        have HM := Lib.hid hm
        have HB := Lib.hid hbel
        clear hm hbk hv hbel
        go_wp2_with fail
        refine (steps_any _ _ _ _ _ _ HM.out).mono ?_
        rintro e w' ⟨rfl, rfl⟩
        go_wp2_with fail
        refine (len_any _ _ _ _ _ _ HM.out).mono ?_
        rintro e w' ⟨rfl, rfl⟩
        go_wp2_with fail
        refine (works_any _).mono ?_
        rintro e W2 ⟨rfl, hb⟩
        go_wp2
        go_ret
        exact ⟨rfl, HB.out.trans (hb.mono HB.out.size)⟩
end Go.Proofs.Ytncajdkbdionoaa
