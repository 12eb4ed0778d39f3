/- CellPlays: its walk. -/
import Derived.Test.YtncajdkbdionoaaCellB
import Derived.Deep.QuietTactic
import Derived.BigQuiet
import Derived.Deep.RegionHeld3
import Derived.Deep.Cut
import Derived.Deep.CutRange
import Derived.Deep.CutBlock
import Derived.Deep.RegionWith
namespace Go.Proofs.Ytncajdkbdionoaa
open Go.RowKit

theorem DMem.new (w : World) (B : Nat) (hB : B ≤ w.heap.size) : DMem (w.alloc (.cells #[.slice none 0 0, .int .i64 0] 30)) B w.heap.size 0 (.slice none 0 0) [] :=
  ⟨Blk.new _ _ _, World.ownsRow_nil _ _ _ _, hB, by omega, by omega, by simp⟩

/-- Both memories, apart, behind k steps. -/
structure Both (N b d : Nat) (w wr : World) (k : Nat) : Prop where
  ex : ∃ (n : Int) (v u : Value) (xs : List Int), CMem wr N b n v xs ∧ DMem wr N d n u xs ∧ n ≤ k ∧ xs.length ≤ 65536 ∧ ∀ i, v.ownBlock = some i → u.ownBlock ≠ some i
  below : Below N w wr

/-- Both memories at a world, apart. -/
structure Two (N b d : Nat) (n q : Int) (v u : Value) (xs : List Int) (wr : World) : Prop where
  mm : CMem wr N b n v xs
  dd : DMem wr N d q u xs
  apart : ∀ i, v.ownBlock = some i → u.ownBlock ≠ some i
  ne : b ≠ d
theorem Two.alloc {N b d : Nat} {n q : Int} {v u : Value} {xs : List Int} {wr : World} (h : Two N b d n q v u xs wr) (o : Obj) : Two N b d n q v u xs (wr.alloc o) :=
  ⟨h.mm.only ((Only.refl (fun _ => False) wr).alloc o) (fun h => h) (fun _ _ h => h), h.dd.only ((Only.refl (fun _ => False) wr).alloc o) (fun h => h) (fun _ _ h => h), h.apart, h.ne⟩
theorem Two.drew {N b d : Nat} {n q : Int} {v u : Value} {xs : List Int} {wr : World} (h : Two N b d n q v u xs wr) : Two N b d n q v u xs wr.drew :=
  ⟨h.mm.drewN 1, ⟨h.dd.blk, h.dd.own, h.dd.base, h.dd.n0, h.dd.n1, h.dd.len⟩, h.apart, h.ne⟩
theorem Two.dOff {N b d : Nat} {n q : Int} {v u : Value} {xs : List Int} {wr : World} (h : Two N b d n q v u xs wr) : ¬ mine b v d := by
  rintro (e | e)
  · exact h.ne e.symm
  · exact own_blk_ne h.mm.own h.dd.blk (by decide) e
theorem Two.uOff {N b d : Nat} {n q : Int} {v u : Value} {xs : List Int} {wr : World} (h : Two N b d n q v u xs wr) : ∀ k, u.ownBlock = some k → ¬ mine b v k := by
  rintro k hk (e | e)
  · subst e; exact own_blk_ne h.dd.own h.mm.blk (by decide) hk
  · exact h.apart k e hk
theorem Two.bOff {N b d : Nat} {n q : Int} {v u : Value} {xs : List Int} {wr : World} (h : Two N b d n q v u xs wr) : ¬ mine d u b := by
  rintro (e | e)
  · exact h.ne e
  · exact own_blk_ne h.dd.own h.mm.blk (by decide) e
theorem Two.vOff {N b d : Nat} {n q : Int} {v u : Value} {xs : List Int} {wr : World} (h : Two N b d n q v u xs wr) : ∀ k, v.ownBlock = some k → ¬ mine d u k := by
  rintro k hk (e | e)
  · subst e; exact own_blk_ne h.mm.own h.dd.blk (by decide) hk
  · exact h.apart k hk e
theorem Two.stepOff {N b d g : Nat} {n q : Int} {v u : Value} {xs : List Int} {wr : World} {cs : Array Value} (h : Two N b d n q v u xs wr) (hb : Blk wr g 32 cs) : ¬ mine b v g ∧ ¬ mine d u g := by
  refine ⟨?_, ?_⟩
  · rintro (e | e)
    · exact Blk.ne_ hb h.mm.blk (by decide) e
    · exact own_blk_ne h.mm.own hb (by decide) e
  · rintro (e | e)
    · exact Blk.ne_ hb h.dd.blk (by decide) e
    · exact own_blk_ne h.dd.own hb (by decide) e

theorem Both.drewN {N b d : Nat} {w wr : World} {k : Nat} (h : Both N b d w wr k) (j : Nat) : Both N b d w (wr.drewN j) k := by
  obtain ⟨⟨n, v, u, xs, hm, hd, h1, h2, h3⟩, hb⟩ := h
  exact ⟨⟨n, v, u, xs, hm.drewN j, ⟨hd.blk, hd.own, hd.base, hd.n0, hd.n1, hd.len⟩, h1, h2, h3⟩, ⟨hb.os, hb.tape, hb.output, hb.size, hb.block⟩⟩

set_option maxHeartbeats 4000000 in
set_option maxRecDepth 100000 in
theorem plays_any (A : Option Addr) (c : Nat) (ss : List SD) (w : World) (h : Scr w w.heap.size A ss) (hl : ss.length ≤ maxLen) :
    Calls Try.prog 3 #[.slice A ss.length c] w fun e w' => e = .returned (.bool true) ∧ Below w.heap.size w w' := by
  have H := Lib.hid h
  by_cases hh : heavyB ss = true
  · clear h
    go_enter Try.func3, Try.ntmps3
    go_wp2_with fail
    refine (heavy_any _ A c ss w H.out hl).mono ?_
    rintro e w1 ⟨rfl, rfl⟩
    go_wp2_with fail
    refine (works_any _).mono ?_
    rintro e w1 ⟨rfl, hb⟩
    go_wp2
    go_ret
    exact ⟨rfl, hb⟩
  · have hlen : ss.length ≤ 300 := by
      unfold heavyB at hh
      simp at hh
      exact hh.1
    have hmem : ∀ (k : Nat) (s : SD), ss[k]? = some s → s.list.length ≤ 16384 := by
      intro k s hs
      have h1 := lens_mem ss k (min ss.length 400) s hs (by have := (List.getElem?_eq_some_iff.1 hs).1; omega)
      unfold heavyB at hh
      simp at hh
      omega
    have HMEM := Lib.hid hmem
    clear hmem
    have hh' : heavyB ss = false := by simpa using hh
    clear h hh hl
    go_enter Try.func3, Try.ntmps3
    go_wp2_with fail
    refine (heavy_any _ A c ss w H.out (by unfold maxLen; omega)).mono ?_
    rintro e w1 ⟨rfl, rfl⟩
    go_wp2_with fail
    refine (new_cm w w.heap.size (Nat.le_refl _)).mono ?_
    rintro e w1 ⟨rfl, h1, o1⟩
    have H1 := Lib.hid h1
    have O1 := Lib.hid o1
    have hz1 := o1.size
    clear h1 o1 hh'
    go_wp2_with fail
    have h2 := (H1.out.only ((Only.refl (fun _ => False) w1).alloc (.cells #[.slice none 0 0, .int .i64 0] 30)) (fun h => h) (fun _ _ h => h))
    have d2 := DMem.new w1 w.heap.size (by omega)
    have hb2 : Below w.heap.size w (w1.alloc (.cells #[.slice none 0 0, .int .i64 0] 30)) := (O1.out.below (B := w.heap.size) (fun _ h => h.elim) (Nat.le_refl _)).alloc (by omega) _
    have S0 := Lib.hid (show Both w.heap.size w.heap.size w1.heap.size w (w1.alloc (.cells #[.slice none 0 0, .int .i64 0] 30)) 0 from ⟨⟨0, _, _, [], h2, d2, by omega, by simp, fun i hi => by cases hi⟩, hb2⟩)
    have hbd : w.heap.size < w1.heap.size := H1.out.blk.lt
    have H0 : Hid (w.heap.size = w.heap.size) := rfl
    clear h2 d2 hb2 H1 O1
    go_loopw [5] (fun i wr => ∃ k : Nat, k ≤ ss.length ∧ i = .int .i64 k ∧ Both w.heap.size w.heap.size w1.heap.size w wr k) (fun i _ => ss.length - (intOf i).toNat)
    case atStart => exact ⟨0, by omega, rfl, S0.out⟩
    case round =>
      clear S0
      obtain ⟨k, hk, rfl, ⟨n, v, u, xs, hm, hd, hn, hx, hvu⟩, hbel⟩ := hrel
      by_cases hlt : k < ss.length
      · obtain ⟨s, hs⟩ : ∃ s, ss[k]? = some s := ⟨_, List.getElem?_eq_getElem hlt⟩
        obtain ⟨b, off, rfl, hb, c0, c1, c2, c3, c4, hr, hlc, hlc'⟩ := (H.out.below hbel) k s hs
        have HM := Lib.hid hm
        have HD := Lib.hid hd
        have HS := Lib.hid hs
        have HB := Lib.hid hbel
        have HV := Lib.hid hvu
        have HR := Lib.hid hr
        clear hm hd hs hbel hvu hr
        have B6 : Blk (wr.alloc (.cells #[.int .i64 s.kind, .int .i64 s.place, .int .i64 s.val, .int .i64 s.old, .slice s.la s.list.length s.lc] 32)) wr.heap.size 32 #[.int .i64 s.kind, .int .i64 s.place, .int .i64 s.val, .int .i64 s.old, .slice s.la s.list.length s.lc] := Blk.new _ _ _
        have T0 : Two w.heap.size w.heap.size w1.heap.size n n v u xs wr := ⟨HM.out, HD.out, HV.out, by omega⟩
        have T1 := Lib.hid (T0.alloc (.cells #[.int .i64 s.kind, .int .i64 s.place, .int .i64 s.val, .int .i64 s.old, .slice s.la s.list.length s.lc] 32))
        have hBw := Lib.hid (HB.out.alloc HB.out.size (.cells #[.int .i64 s.kind, .int .i64 s.place, .int .i64 s.val, .int .i64 s.old, .slice s.la s.list.length s.lc] 32))
        have HR1 := Lib.hid (HR.out.alloc HB.out.size (.cells #[.int .i64 s.kind, .int .i64 s.place, .int .i64 s.val, .int .i64 s.old, .slice s.la s.list.length s.lc] 32))
        have B6' := Lib.hid B6
        clear T0 B6 HM HD HV
        go_upto_block 2 with fail
        go_cut [7] from 31 to 159 (fun f wx => f = .bool true ∧ Both w.heap.size w.heap.size w1.heap.size w wx (k + 1))
        case first =>
          generalize wr.alloc (.cells #[.int .i64 s.kind, .int .i64 s.place, .int .i64 s.val, .int .i64 s.old, .slice s.la s.list.length s.lc] 32) = W0 at *
          generalize wr.heap.size = g6 at *
          have q0 : W0.cell? ⟨g6, 0, none⟩ = some (.int .i64 s.kind) := B6'.out.cell 0
          have q1 : W0.cell? ⟨g6, 1, none⟩ = some (.int .i64 s.place) := B6'.out.cell 1
          have q2 : W0.cell? ⟨g6, 2, none⟩ = some (.int .i64 s.val) := B6'.out.cell 2
          have q3 : W0.cell? ⟨g6, 3, none⟩ = some (.int .i64 s.old) := B6'.out.cell 3
          have q4 : W0.cell? ⟨g6, 4, none⟩ = some (.slice s.la s.list.length s.lc) := B6'.out.cell 4
          have hkn : n + 1 ≤ 4611686018427387904 := by omega
          by_cases hk0 : s.kind = 0
          · have hk0' : (s.kind == 0) = true := by simpa using hk0
            clear hk0
            have hlz : s.list.length ≤ 16384 := HMEM.out k s HS.out
            clear hlc hlc'
            obtain ⟨i0, hi, hz0, hz1, hz2⟩ := info_parts Try.infoI
            go_wp2_with (at_builtin; refine wpList_append_any _ rfl (.const (.slice none 0 0)) (.tmp 48) 28 rfl w.heap.size 2 i0 (.int .i64 0) 1 8 Try.underlying28 hi hz0 hz1 hz2 rfl (by decide) _ _ _ rfl (World.ownsRow_nil _ _ _ _) w.heap.size _ _ _ _ rfl HR1.out ints_oneCell ?c3 ?c4 hBw.out.size ?_)
            case c3 => unfold maxLen; omega
            case c4 => omega
            intro v' W1 hown' hgrow hnew
            have hown2 := hown'
            clear hown'
            have hown' : W1.ownsRow w.heap.size 2 1 v' s.list.length (s.list.map (.int .i64)) := by simpa using hown2
            clear hown2
            have hv' : ∃ A2 c2, v' = .slice A2 s.list.length c2 := by
              rcases owns_form hown' with ⟨h1, h2⟩ | ⟨g, cap, h1, _⟩
              · exact ⟨none, 0, by rw [h1, h2]⟩
              · exact ⟨_, _, h1⟩
            obtain ⟨A2, c2, rfl⟩ := hv'
            have ho1 : Only (fun _ => False) W0 W1 := (Only.refl _ _).grown hgrow (fun k hk => by cases hk)
            have T2 := Lib.hid (show Two w.heap.size w.heap.size w1.heap.size n n v u xs W1 from ⟨T1.out.mm.only ho1 (fun h => h) (fun _ _ h => h), T1.out.dd.only ho1 (fun h => h) (fun _ _ h => h), T1.out.apart, T1.out.ne⟩)
            have B6a := Lib.hid (ho1.blk B6'.out (fun h => h))
            have hb1 := Lib.hid (hBw.out.trans (ho1.below (fun _ h => h.elim) hBw.out.size))
            have HR2 := Lib.hid (HR1.out.below (ho1.below (fun _ h => h.elim) hBw.out.size))
            have hrd := Lib.hid (Reads.of_own hown')
            clear ho1 hown' hgrow hnew q0 q1 q2 q3 q4
            go_wp2_with fail
            refine (more_any _ _ _ _ _ _ _ _ _ _ T2.out.mm hrd.out hx (by unfold maxLen; omega) hb1.out.size).mono ?_
            rintro e W2 ⟨rfl, ⟨v2, hm2, hnew2⟩, ho2⟩
            have r1 : W2.cell? ⟨g6, 4, none⟩ = some (.slice s.la s.list.length s.lc) := (ho2.blk B6a.out (T2.out.stepOff B6a.out).1).cell 4
            have hd2 := T2.out.dd.only ho2 T2.out.dOff T2.out.uOff
            have hb2 := Lib.hid (hb1.out.trans (ho2.below T2.out.mm.mine hb1.out.size))
            have HR3 := Lib.hid (HR2.out.below (ho2.below T2.out.mm.mine hb1.out.size))
            have hap : ∀ i, v2.ownBlock = some i → u.ownBlock ≠ some i := by
              intro i hi1 hi2
              rcases hnew2 i hi1 with h1 | h1
              · exact T2.out.apart i h1 hi2
              · have := (T2.out.dd.own.lt i hi2).2; omega
            have hxl := moreX_len xs s.list hx
            have HM2 := Lib.hid hm2
            have HD2 := Lib.hid hd2
            have HA2 := Lib.hid hap
            clear hm2 ho2 hd2 hap hnew2
            go_wp2_with fail
            refine (dmore_any _ _ _ _ _ _ _ _ _ _ HD2.out HR3.out hx (by unfold maxLen; omega) hb2.out.size).mono ?_
            rintro e W3 ⟨rfl, ⟨u2, hd3, hnew3⟩, ho3⟩
            have hbo : ¬ mine w1.heap.size u w.heap.size := by
              rintro (e | e)
              · omega
              · exact own_blk_ne HD2.out.own HM2.out.blk (by decide) e
            have hvo : ∀ k, v2.ownBlock = some k → ¬ mine w1.heap.size u k := by
              rintro i hi (e | e)
              · subst e; exact own_blk_ne HM2.out.own HD2.out.blk (by decide) hi
              · exact HA2.out i hi e
            have hap3 : ∀ i, v2.ownBlock = some i → u2.ownBlock ≠ some i := by
              intro i hi1 hi2
              rcases hnew3 i hi2 with h1 | h1
              · exact HA2.out i hi1 h1
              · have := (HM2.out.own.lt i hi1).2; omega
            have Hfin := Lib.hid (show Both w.heap.size w.heap.size w1.heap.size w W3 (k + 1) from
              ⟨⟨_, _, _, _, HM2.out.only ho3 hbo hvo, hd3, by omega, hxl, hap3⟩, hb2.out.trans (ho3.below HD2.out.mine hb2.out.size)⟩)
            clear hd3 ho3 hbo hvo hap3 hnew3
            go_wp2_with fail
            go_meet
            case rel => exact ⟨rfl, Hfin.out⟩
          · have hk0' : (s.kind == 0) = false := by simpa using hk0
            clear hk0
            by_cases hk1 : s.kind = 1
            · have hk1' : (s.kind == 1) = true := by simpa using hk1
              clear hk1
              go_wp2_with fail
              refine (load_any _ _ _ _ _ _ _ T1.out.mm hkn).mono ?_
              rintro e W1 ⟨rfl, hm2, ho2⟩
              have r1 : W1.cell? ⟨g6, 1, none⟩ = some (.int .i64 s.place) := (ho2.blk B6'.out (T1.out.stepOff B6'.out).1).cell 1
              have hd2 := T1.out.dd.only ho2 T1.out.dOff T1.out.uOff
              have hb2 := Lib.hid (hBw.out.trans (ho2.below T1.out.mm.mine hBw.out.size))
              have HM2 := Lib.hid hm2
              have HD2 := Lib.hid hd2
              clear hm2 ho2 hd2
              go_wp2_with fail
              refine (dload_any _ _ _ _ _ _ _ HD2.out hkn).mono ?_
              rintro e W2 ⟨rfl, hd3, ho3⟩
              have Hfin := Lib.hid (show Both w.heap.size w.heap.size w1.heap.size w W2 (k + 1) from
                ⟨⟨_, _, _, _, HM2.out.only ho3 T1.out.bOff T1.out.vOff, hd3, by have := cellN_bd xs s.place; omega, hx, T1.out.apart⟩, hb2.out.trans (ho3.below HD2.out.mine hb2.out.size)⟩)
              clear hd3 ho3
              go_wp2_with fail
              go_meet
              case rel => exact ⟨rfl, Hfin.out⟩
            · have hk1' : (s.kind == 1) = false := by simpa using hk1
              clear hk1
              by_cases hk2 : s.kind = 2
              · have hk2' : (s.kind == 2) = true := by simpa using hk2
                clear hk2
                have Td := Lib.hid T1.out.drew
                have Bd := Lib.hid (show Blk W0.drew g6 32 _ from B6'.out)
                have hBd := Lib.hid hBw.out.drew
                go_wp2_with fail
                go_region_held3 (fun w' => w'.cell? ⟨g6, 1, none⟩ = some (.int .i64 s.place) ∧ w'.cell? ⟨g6, 2, none⟩ = some (.int .i64 s.val)) (go_keep) (first
                  | (go_at_call 13; refine (store_any _ _ _ _ _ _ _ _ Td.out.mm hkn).mono ?_; rintro e W1 ⟨rfl, hm2, ho2⟩; have r1 : W1.cell? ⟨g6, 1, none⟩ = some (.int .i64 s.place) := (ho2.blk Bd.out (Td.out.stepOff Bd.out).1).cell 1; have r2 : W1.cell? ⟨g6, 2, none⟩ = some (.int .i64 s.val) := (ho2.blk Bd.out (Td.out.stepOff Bd.out).1).cell 2; have BW1 := Lib.hid (ho2.blk Bd.out (Td.out.stepOff Bd.out).1); have HD2 := Lib.hid (Td.out.dd.only ho2 Td.out.dOff Td.out.uOff); have hb2 := Lib.hid (hBd.out.trans (ho2.below Td.out.mm.mine hBd.out.size)); have HM2 := Lib.hid hm2; clear hm2 ho2)
                  | (go_at_call 14; refine (dstore_any _ _ _ _ _ _ _ _ HD2.out hkn).mono ?_; rintro e W2 ⟨rfl, hd3, ho3⟩; have t1 : W2.cell? ⟨g6, 1, none⟩ = some (.int .i64 s.place) := (ho3.blk BW1.out (Td.out.stepOff Bd.out).2).cell 1; have t2 : W2.cell? ⟨g6, 2, none⟩ = some (.int .i64 s.val) := (ho3.blk BW1.out (Td.out.stepOff Bd.out).2).cell 2; have Hfin := Lib.hid (show Both w.heap.size w.heap.size w1.heap.size w W2 (k + 1) from ⟨⟨_, _, _, _, HM2.out.only ho3 Td.out.bOff Td.out.vOff, hd3, by have := cellN_bd xs s.place; omega, by rw [cellS_len]; exact hx, Td.out.apart⟩, hb2.out.trans (ho3.below HD2.out.mine hb2.out.size)⟩); clear hd3 ho3))
                go_wp2_with fail
                go_meet
                case rel => exact ⟨rfl, Hfin.out⟩
              · have hk2' : (s.kind == 2) = false := by simpa using hk2
                clear hk2
                by_cases hk3 : s.kind = 3
                · have hk3' : (s.kind == 3) = true := by simpa using hk3
                  clear hk3
                  go_wp2_with fail
                  refine (swap_any _ _ _ _ _ _ _ _ _ T1.out.mm hkn).mono ?_
                  rintro e W1 ⟨rfl, hm2, ho2⟩
                  have r1 : W1.cell? ⟨g6, 1, none⟩ = some (.int .i64 s.place) := (ho2.blk B6'.out (T1.out.stepOff B6'.out).1).cell 1
                  have r2 : W1.cell? ⟨g6, 2, none⟩ = some (.int .i64 s.val) := (ho2.blk B6'.out (T1.out.stepOff B6'.out).1).cell 2
                  have r3 : W1.cell? ⟨g6, 3, none⟩ = some (.int .i64 s.old) := (ho2.blk B6'.out (T1.out.stepOff B6'.out).1).cell 3
                  have hd2 := T1.out.dd.only ho2 T1.out.dOff T1.out.uOff
                  have hb2 := Lib.hid (hBw.out.trans (ho2.below T1.out.mm.mine hBw.out.size))
                  have HM2 := Lib.hid hm2
                  have HD2 := Lib.hid hd2
                  clear hm2 ho2 hd2
                  go_wp2_with fail
                  refine (dswap_any _ _ _ _ _ _ _ _ _ HD2.out hkn).mono ?_
                  rintro e W2 ⟨rfl, hd3, ho3⟩
                  have Hfin := Lib.hid (show Both w.heap.size w.heap.size w1.heap.size w W2 (k + 1) from
                    ⟨⟨_, _, _, _, HM2.out.only ho3 T1.out.bOff T1.out.vOff, hd3, by have := cellN_bd xs s.place; omega, by rw [cellW_len]; exact hx, T1.out.apart⟩, hb2.out.trans (ho3.below HD2.out.mine hb2.out.size)⟩)
                  clear hd3 ho3
                  go_wp2_with fail
                  go_meet
                  case rel => exact ⟨rfl, Hfin.out⟩
                · have hk3' : (s.kind == 3) = false := by simpa using hk3
                  clear hk3
                  have Hfin := Lib.hid (show Both w.heap.size w.heap.size w1.heap.size w W0 (k + 1) from
                    ⟨⟨_, _, _, _, T1.out.mm, T1.out.dd, by omega, hx, T1.out.apart⟩, hBw.out⟩)
                  go_wp2_with fail
                  go_meet
                  case rel => exact ⟨rfl, Hfin.out⟩
        case rest =>
          obtain ⟨rfl, ⟨n2, v2, u2, xs2, hm2, hd2, hn2, hx2, hvu2⟩, hbel2⟩ := hcut
          have HF := Lib.hid (show Both w.heap.size w.heap.size w1.heap.size w wc (k + 1) from ⟨⟨n2, v2, u2, xs2, hm2, hd2, hn2, hx2, hvu2⟩, hbel2⟩)
          obtain ⟨Au, cu, rfl⟩ := hd2.slice
          have z0 : wc.cell? ⟨w1.heap.size, 0, none⟩ = some (.slice Au xs2.length cu) := hd2.blk.cell 0
          have z1 : wc.cell? ⟨w1.heap.size, 1, none⟩ = some (.int .i64 n2) := hd2.blk.cell 1
          have HM2 := Lib.hid hm2
          clear hm2 hd2 hvu2 hbel2
          go_wp2_with fail
          go_quiet ((first | (go_at_call 17; exact quiet_left (len_any _ _ _ _ _ _ (HM2.out.drewN _))) | (go_at_call 18; exact quiet_left (steps_any _ _ _ _ _ _ (HM2.out.drewN _)))))
          go_wp2
          go_roundw
          case rel => exact ⟨k + 1, by omega, by go_num, HF.out.drewN _⟩
          case measure => simp [intOf]; omega
      · obtain rfl : k = ss.length := by omega
        have HM := Lib.hid hm
        have HB := Lib.hid hbel
        obtain ⟨Au, cu, rfl⟩ := hd.slice
        have HD := Lib.hid hd
        have z0 : wr.cell? ⟨w1.heap.size, 0, none⟩ = some (.slice Au xs.length cu) := hd.blk.cell 0
        have HV := Lib.hid hvu
        clear hm hbel hvu hd
        have HT := Lib.hid (show Two w.heap.size w.heap.size w1.heap.size n n v (.slice Au xs.length cu) xs wr from ⟨HM.out, HD.out, HV.out, by omega⟩)
        go_wp2_with fail
        go_loopw [20] (fun i wr' => ∃ (j : Nat) (n' : Int), j ≤ xs.length ∧ j ≤ 1024 ∧ i = .int .i64 j ∧ n' ≤ 300 + j ∧ Two w.heap.size w.heap.size w1.heap.size n' n v (.slice Au xs.length cu) xs wr' ∧ Below w.heap.size w wr') (fun i _ => xs.length - (intOf i).toNat)
        case atStart => exact ⟨0, n, by omega, by omega, rfl, by omega, HT.out, HB.out⟩
        case round =>
          clear HT HM HB HD HV z0
          obtain ⟨j, n', hj, hj2, rfl, hn', T, hbl⟩ := hrel
          have z0 : wr.cell? ⟨w1.heap.size, 0, none⟩ = some (.slice Au xs.length cu) := T.dd.blk.cell 0
          by_cases hlt : j < xs.length
          · by_cases hlt2 : j < 1024
            · obtain ⟨gu, cu', hAu, hgN, hgu, hgd, hcu, _⟩ := T.dd.at_ hlt
              injection hAu with hAu1 hAu2 hAu3
              subst hAu1
              have e1 : cellV xs (j : Int) = xs.getD j 0 := by rw [cellV, if_pos (by omega), Int.toNat_natCast]
              have e2 : cellE xs (j : Int) = 0 := if_pos (by omega)
              have e3 : cellN xs (j : Int) = 1 := if_pos (by omega)
              generalize xs.getD j 0 = x at *
              have TT := Lib.hid T
              have HC := Lib.hid hcu
              have HB := Lib.hid hbl
              have HX := Lib.hid hAu3
              clear T hcu hbl hAu3
              go_wp2_with fail
              refine (load_any _ _ _ _ _ _ _ TT.out.mm (by omega)).mono ?_
              rintro e W1 ⟨rfl, hm, ho⟩
              have hd := TT.out.dd.only ho TT.out.dOff TT.out.uOff
              have y0 : W1.cell? ⟨w1.heap.size, 0, none⟩ = some (.slice (some ⟨gu, 0, none⟩) xs.length cu) := hd.blk.cell 0
              have y1 : W1.cell? ⟨gu, j, none⟩ = some (.int .i64 x) := (ho.cell (p := ⟨gu, j, none⟩) hgu (TT.out.uOff gu rfl)).trans HC.out
              rw [e3] at hm
              have Hfin := Lib.hid (show Two w.heap.size w.heap.size w1.heap.size (n' + 1) n v (.slice (some ⟨gu, 0, none⟩) xs.length cu) xs W1 ∧ Below w.heap.size w W1 from ⟨⟨hm, hd, TT.out.apart, TT.out.ne⟩, HB.out.trans (ho.below TT.out.mm.mine HB.out.size)⟩)
              clear hm ho hd e3
              go_wp2_with fail
              go_roundw
              case rel => exact ⟨j + 1, n' + 1, by omega, by omega, by go_num, by omega, Hfin.out.1, Hfin.out.2⟩
              case measure => simp [intOf]; omega
            · have hd2 : decide ((j : Int) < 1024) = false := by simp; omega
              have HB := Lib.hid hbl
              clear T hbl hj2
              go_wp2_with fail
              refine (works_any _).mono ?_
              rintro e W2 ⟨rfl, hb⟩
              go_wp2
              go_ret
              exact ⟨rfl, HB.out.trans (hb.mono HB.out.size)⟩
          · have hd2 : decide ((j : Int) < xs.length) = false := by simp; omega
            have HB := Lib.hid hbl
            clear T hbl hj2
            go_wp2_with fail
            refine (works_any _).mono ?_
            rintro e W2 ⟨rfl, hb⟩
            go_wp2
            go_ret
            exact ⟨rfl, HB.out.trans (hb.mono HB.out.size)⟩
end Go.Proofs.Ytncajdkbdionoaa
