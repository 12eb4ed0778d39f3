/- Several texts in one: StI. -/
import Derived.Test.YthggliknnmhbdaaGreatMWBE
/- The walk of store.Open where a head stands in the first half, and one or none in the second. No conditions beyond what it states. -/
namespace Go.Proofs.YthggliknnmhbdaaGreat
open Go.RowKit
set_option linter.unusedVariables false
attribute [local simp] frOf dstsOf frGo predsHold allHold Region.binds slotOf seen Is Act.put
/-- a store that was opened -/
structure SOp (p gs B m kk gg : Nat) (xs : List ByteArray) (L : List (List UInt8)) (sp bb : Nat) (w w' : World) : Prop where
  d : DiskIs p gs B m L w'
  s : StoW w' sp p bb kk gg
  b : BookB w' bb p (kk * 10 : Nat) (10 : Nat) (sB (frsB xs)) false
  new : B ≤ sp
  newb : B ≤ bb
  far : Far w w'
  only : Only (fun b => B ≤ b) w w'
theorem nDT_book : ¬ DT 72 := fun h => by rcases h with h | h | h <;> revert h <;> decide
theorem SOp.next {p gs B m m' kk gg : Nat} {xs : List ByteArray} {L : List (List UInt8)} {sp bb : Nat} {w w1 w2 : World} (h : SOp p gs B m kk gg xs L sp bb w w1) (d : DiskIs p gs B m' L w2) (f : Far w1 w2) (o : Only (fun b => B ≤ b) w1 w2) : SOp p gs B m' kk gg xs L sp bb w w2 :=
  ⟨d, f.blk _ _ _ h.s nDT_store, f.blk _ _ _ h.b nDT_book, h.new, h.newb, h.far.trans f, h.only.trans o⟩
/-- how far Open is: the store so far, its snapshot, its records -/
def SJ (p gs B m : Nat) (L : List (List UInt8)) (g0 : Nat) (t0 : ByteArray) (r0 : List ByteArray) (kk gg : Nat) (tt : ByteArray) (rr xs0 xs : List ByteArray) (w : World) (sv tv rv i : Value) (W : World) : Prop :=
  (i = .int .i64 0 ∧ sv = .pointer none ∧ tv = .string ⟨#[]⟩ ∧ DiskIs p gs B m L W ∧ Far w W ∧ Only (fun b => B ≤ b) w W) ∨
  (i = .int .i64 1 ∧ ∃ sp bb A c, sv = .pointer (some ⟨sp, 0, none⟩) ∧ tv = .string t0 ∧ rv = .slice A r0.length c ∧ SOp p gs B (m + 42) 0 g0 xs0 L sp bb w W) ∨
  (i = .int .i64 2 ∧ ∃ sp bb A c, sv = .pointer (some ⟨sp, 0, none⟩) ∧ tv = .string tt ∧ rv = .slice A rr.length c ∧ SOp p gs B (m + 84) kk gg xs L sp bb w W)
theorem row_head {w : World} {base c : Nat} {A : Option Addr} {h : ByteArray} {r : List ByteArray} (ho : w.ownsRow base 9 1 (.slice A (h :: r).length c) (h :: r).length ((h :: r).map .string)) : ∃ g, A = some ⟨g, 0, none⟩ ∧ w.cell? ⟨g, 0, none⟩ = some (.string h) ∧ r.length + 1 ≤ c ∧ c ≤ maxLen := by
  obtain ⟨g, cap, hv, _, hlt, hc⟩ := own_cells ho (by simp)
  obtain ⟨_, h2 | ⟨g', cap', cur, h2, _, _, h5, h6, _⟩⟩ := ho
  · obtain ⟨_, h⟩ := h2; simp at h
  · injection hv with h1 h3 h4
    injection h2 with k1 k2 k3
    subst h1 k3
    exact ⟨g, rfl, hc 0 _ rfl, by simpa using h5, h6⟩
set_option maxHeartbeats 8000000 in
set_option maxRecDepth 100000 in
theorem sopen_ok (p gs B m g0 g1 kk gg : Nat) (t0 t1 tt : ByteArray) (r0 r1 rr xs0 xs1 xs : List ByteArray) (L : List (List UInt8)) (w : World) (D : DiskIs p gs B m L w) (hL : L = sectorsL (frsB xs0) 10 ++ sectorsL (frsB xs1) 10)
    (h0 : xs0 = hdB g0 t0 :: r0) (h1 : xs1 = [] ∨ xs1 = hdB g1 t1 :: r1) (hx0 : ∀ x ∈ xs0, x.size ≤ 131072) (hx1 : ∀ x ∈ xs1, x.size ≤ 131072) (hl0 : (frsB xs0).length ≤ 1270) (hl1 : (frsB xs1).length ≤ 1270)
    (hg0 : 1 ≤ g0 ∧ g0 ≤ 4611686018427387904) (hg1 : 1 ≤ g1 ∧ g1 ≤ 4611686018427387904) (ht0 : t0.size ≤ 65536) (ht1 : t1.size ≤ 65536) (hm : m + 20000 ≤ 1000000)
    (hp : (kk = 0 ∧ gg = g0 ∧ tt = t0 ∧ rr = r0 ∧ xs = xs0 ∧ (xs1 = [] ∨ g1 ≤ g0)) ∨ (kk = 1 ∧ gg = g1 ∧ tt = t1 ∧ rr = r1 ∧ xs = xs1 ∧ xs1 = hdB g1 t1 :: r1 ∧ g0 < g1)) :
    Calls Tryz.prog 6 #[.pointer (some ⟨p, 0, none⟩)] w fun e w' => ∃ sp bb A c, e = .returned (.tuple #[.pointer (some ⟨sp, 0, none⟩), .string tt, .slice A rr.length c, .int .i64 0]) ∧ SOp p gs B (m + 84) kk gg xs L sp bb w w' := by
  have HH : Hid (Calls Tryz.prog 16 #[.pointer (some ⟨p, 0, none⟩)] w fun e w' => e = .returned (.tuple #[.int .i64 10, .int .i64 0]) ∧ w = w') := Lib.hid (by
    obtain ⟨S, a, _⟩ := D
    exact half_ok p gs S B m w a)
  have HD := Lib.hid D
  have HBw : Hid (B < w.heap.size) := Lib.hid (by obtain ⟨S, a, _⟩ := D; exact a.size)
  have HO0 : Hid (∀ W m', m' ≤ m + 100 → DiskIs p gs B m' L W → Calls Tryz.prog 17 #[.pointer (some ⟨p, 0, none⟩), .int .i64 0, .int .i64 10] W fun e w' => ∃ bb A c, e = .returned (.tuple #[.pointer (some ⟨bb, 0, none⟩), .slice A xs0.length c, .int .i64 0]) ∧ ∃ S, CurIs 20 S L ∧ OpenP p gs 0 S xs0 B (m' + 42) bb A c W w') := Lib.hid (fun W m' hm' h => by
    obtain ⟨S, a, b⟩ := h
    refine (bopen_ok p gs 0 S xs0 [] (sectorsL (frsB xs1) 10) B m' W a (by rw [List.nil_append, ← hL]; exact b) rfl hx0 hl0 (by omega)).mono ?_
    rintro e w' ⟨bb, A, c, he, hP⟩
    exact ⟨bb, A, c, he, S, b, hP⟩)
  have HO1 : Hid (∀ W m', m' ≤ m + 100 → DiskIs p gs B m' L W → Calls Tryz.prog 17 #[.pointer (some ⟨p, 0, none⟩), .int .i64 10, .int .i64 10] W fun e w' => ∃ bb A c, e = .returned (.tuple #[.pointer (some ⟨bb, 0, none⟩), .slice A xs1.length c, .int .i64 0]) ∧ ∃ S, CurIs 20 S L ∧ OpenP p gs 10 S xs1 B (m' + 42) bb A c W w') := Lib.hid (fun W m' hm' h => by
    obtain ⟨S, a, b⟩ := h
    refine (bopen_ok p gs 10 S xs1 (sectorsL (frsB xs0) 10) [] B m' W a (by rw [List.append_nil, ← hL]; exact b) (sectorsL_len _ _) hx1 hl1 (by omega)).mono ?_
    rintro e w' ⟨bb, A, c, he, hP⟩
    exact ⟨bb, A, c, he, S, b, hP⟩)
  have HR0 : Hid (∀ W, Calls Tryz.prog 18 #[.string (hdB g0 t0)] W fun e w' => e = .returned (.tuple #[.int .u64 (g0 : Int), .string t0, .bool true]) ∧ Only (fun _ => False) W w') := Lib.hid (fun W => read_ok g0 t0 W hg0.1 hg0.2 ht0)
  have HR1 : Hid (∀ W, Calls Tryz.prog 18 #[.string (hdB g1 t1)] W fun e w' => e = .returned (.tuple #[.int .u64 (g1 : Int), .string t1, .bool true]) ∧ Only (fun _ => False) W w') := Lib.hid (fun W => read_ok g1 t1 W hg1.1 hg1.2 ht1)
  have HP := Lib.hid hp
  have H0 := Lib.hid h0
  have H1 := Lib.hid h1
  clear D hL h0 h1 hx0 hx1 hl0 hl1 hp hg0 hg1 ht0 ht1
  obtain ⟨hd0, hh0⟩ : ∃ hd0, hd0 = hdB g0 t0 := ⟨_, rfl⟩
  obtain ⟨hd1, hh1⟩ : ∃ hd1, hd1 = hdB g1 t1 := ⟨_, rfl⟩
  rw [← hh0] at H0 HR0
  rw [← hh1] at H1 HR1 HP
  clear hh0 hh1
  go_enter Tryz.func6, Tryz.ntmps6
  go_wp2_with fail
  refine HH.out.mono ?_
  rintro e wx ⟨rfl, rfl⟩
  go_wp2_with fail
  go_loopw [2, 3, 4, 22] (fun sv tv rv i wr => SJ p gs B m L g0 t0 r0 kk gg tt rr xs0 xs w sv tv rv i wr) (fun _ _ _ i _ => 2 - (intOf i).toNat)
  case atStart => exact .inl ⟨rfl, rfl, rfl, HD.out, Far.refl _, Only.refl _ _⟩
  case round =>
    obtain ⟨y0, rfl⟩ : ∃ y0, y0 = wr := ⟨_, rfl⟩
    rcases hrel with ⟨rfl, rfl, rfl, k1, k2, k3⟩ | ⟨rfl, sp0, bb0, A0, c0, rfl, rfl, rfl, k1⟩ | ⟨rfl, sp0, bb0, A0, c0, rfl, rfl, rfl, k1⟩
    · have HOP := Lib.hid (HO0.out y0 m (by omega) k1)
      have K2 := Lib.hid k2
      have K3 := Lib.hid k3
      clear k1 k2 k3
      go_wp2_with fail
      refine HOP.out.mono ?_
      rintro e y1 ⟨bb, A, cc, rfl, S, hcu, OP⟩
      have hrow := OP.row
      rw [H0.out] at hrow
      obtain ⟨gg_, rfl, hcell, hcc, hcm⟩ := row_head hrow
      have hlen : xs0.length = r0.length + 1 := by rw [H0.out]; rfl
      have HCU := Lib.hid hcu
      have HOPn := Lib.hid OP
      rw [hlen]
      have hpos : ¬ ((r0.length + 1 : Nat) : Int) = 0 := by omega
      have hbeq : ((((r0.length + 1 : Nat) : Int)) == 0) = false := beq_eq_false_iff_ne.2 hpos
      have hidx : (0 : Int) < ((r0.length + 1 : Nat) : Int) := by omega
      have hidx2 : (0 : Int) < (r0.length : Int) + 1 := by omega
      clear OP hrow hlen hcu
      go_wp2_with fail
      refine (HR0.out y1).mono ?_
      rintro e y2 ⟨rfl, o2⟩
      obtain ⟨W2, hW2⟩ : ∃ W2, W2 = y2.drew := ⟨_, rfl⟩
      obtain ⟨W3, hW3⟩ : ∃ W3, W3 = W2.alloc (.cells #[.pointer (some ⟨bb, 0, none⟩), .int .i64 0, .int .u64 (g0 : Int), .pointer (some ⟨p, 0, none⟩), .bool false] 51) := ⟨_, rfl⟩
      obtain ⟨sp, hsp⟩ : ∃ sp, sp = W2.heap.size := ⟨_, rfl⟩
      have o3 : Only (fun _ => False) y1 W3 := by rw [hW3, hW2]; exact (o2.drew).alloc _
      have bs : Blk W3 sp 51 #[.pointer (some ⟨bb, 0, none⟩), .int .i64 0, .int .u64 (g0 : Int), .pointer (some ⟨p, 0, none⟩), .bool false] := by rw [hW3, hsp]; exact Blk.new W2 _ _
      have HW2 := Lib.hid hW2.symm
      have HW3 := Lib.hid hW3.symm
      have HSP := Lib.hid hsp.symm
      have HSO : Hid (SOp p gs B (m + 42) 0 g0 xs0 L sp bb w W3) := Lib.hid ⟨⟨S, HOPn.out.d.only o3, HCU.out⟩, bs, o3.blk HOPn.out.book (fun h => h), by
        have h1 := HBw.out
        have h2 := K3.out.size
        have h3 := HOPn.out.only.size
        have h4 := o2.size
        have h5 : W2.heap.size = y2.heap.size := by rw [hW2]; rfl
        omega, by have h1 := HBw.out; have h2 := K3.out.size; have h3 := HOPn.out.new; omega, K2.out.trans (HOPn.out.far.trans (Far.of_none o3)), K3.out.trans (HOPn.out.only.trans (o3.mono fun _ h => h.elim))⟩
      clear hcell o2 hW2 hW3 hsp o3 bs
      go_wp2_with fail
      refine wp_region_st (by kernel_rfl) (fun dn y => if dn 6 = true then y = W3 else y = W2) [Is (.pointer (some ⟨bb, 0, none⟩)), Is (.int .i64 0), Is (.int .u64 (g0 : Int)), Is (.agg #[.pointer (some ⟨bb, 0, none⟩), .int .i64 0, .int .u64 (g0 : Int)]), Is (.pointer (some ⟨p, 0, none⟩)), Is (.agg #[.pointer (some ⟨bb, 0, none⟩), .int .i64 0, .int .u64 (g0 : Int), .pointer (some ⟨p, 0, none⟩), .bool false]), Is (.pointer (some ⟨sp, 0, none⟩)), Is (.string t0), Is (.slice (some ⟨gg_, 0, none⟩) (r0.length + 1) cc), (fun v _ => ∃ A c, v = .slice A r0.length c), Is (.pointer (some ⟨sp, 0, none⟩)), Is (.string t0), (fun v _ => ∃ A c, v = .slice A r0.length c)] (by kernel_rfl)
        ⟨is_stab _ _, is_stab _ _, is_stab _ _, is_stab _ _, is_stab _ _, is_stab _ _, is_stab _ _, is_stab _ _, is_stab _ _, (fun _ _ _ h _ => h), is_stab _ _, is_stab _ _, (fun _ _ _ h _ => h), trivial⟩ (by simp; exact HW2.out) ⟨?_, ?_, ?_, ?_, ?_, ?_, ?_, ?_, ?_, ?_, ?_, ?_, ?_, trivial⟩ ?_
      · intro dn u w1 hi he hS hp K hK
        refine ord_plain rfl ?_
        simp at hp hK ⊢
        go_simp
        exact hK _ _ (by simpa [ldW] using hS) rfl
      · intro dn u w1 hi he hS hp K hK
        refine ord_plain rfl ?_
        simp at hp hK ⊢
        go_simp
        exact hK _ _ (by simpa [ldW] using hS) rfl
      · intro dn u w1 hi he hS hp K hK
        refine ord_plain rfl ?_
        simp at hp hK ⊢
        go_simp
        exact hK _ _ (by simpa [ldW] using hS) rfl
      · intro dn u w1 hi he hS hp K hK
        refine ord_plain rfl ?_
        simp at hp hK ⊢
        simp only [hp] at hK
        go_simp
        exact hK _ _ (by simpa [ldW] using hS) rfl
      · intro dn u w1 hi he hS hp K hK
        refine ord_plain rfl ?_
        simp at hp hK ⊢
        go_simp
        exact hK _ _ (by simpa [ldW] using hS) rfl
      · intro dn u w1 hi he hS hp K hK
        refine ord_plain rfl ?_
        simp at hp hK ⊢
        simp only [hp] at hK
        go_simp
        exact hK _ _ (by simpa [ldW] using hS) rfl
      · intro dn u w1 hi he hS hp K hK
        refine ord_plain rfl ?_
        simp at hp hK ⊢
        simp only [hp] at hK
        have hq : w1 = W2 := by simpa [hi] using hS
        go_simp
        try rw [hq]
        rw [HSP.out]
        exact hK _ _ (by simp only [ldW, if_true]; exact HW3.out) rfl
      · intro dn u w1 hi he hS hp K hK
        refine ord_plain rfl ?_
        simp at hp hK ⊢
        go_simp
        exact hK _ _ (by simpa [ldW] using hS) rfl
      · intro dn u w1 hi he hS hp K hK
        refine ord_plain rfl ?_
        simp at hp hK ⊢
        go_simp
        exact hK _ _ (by simpa [ldW] using hS) rfl
      · intro dn u w1 hi he hS hp K hK
        refine ord_plain rfl ?_
        simp at hp hK ⊢
        simp only [hp] at hK
        have hb1 : (1 : Int) ≤ ((r0.length : Nat) : Int) + 1 := by omega
        go_simp
        exact hK _ _ (by simpa [ldW] using hS) _ _ (by first | rfl | (congr 1; omega))
      · intro dn u w1 hi he hS hp K hK
        refine ord_plain rfl ?_
        simp at hp hK ⊢
        simp only [hp] at hK
        go_simp
        exact hK _ _ (by simpa [ldW] using hS) rfl
      · intro dn u w1 hi he hS hp K hK
        refine ord_plain rfl ?_
        simp at hp hK ⊢
        simp only [hp] at hK
        go_simp
        exact hK _ _ (by simpa [ldW] using hS) rfl
      · intro dn u w1 hi he hS hp K hK
        refine ord_plain rfl ?_
        simp at hp hK ⊢
        simp only [hp] at hK
        go_simp
        obtain ⟨RA, RC, h9⟩ := hp.1
        exact hK _ _ (by simpa [ldW] using hS) RA RC h9
      · intro u w1 dn hld hS hp
        simp at hp ⊢
        have h10 := hp.2.2.2.2.2.2.2.2.2.2.1
        have h11 := hp.2.2.2.2.2.2.2.2.2.2.2.1
        have h12 := hp.2.2.2.2.2.2.2.2.2.2.2.2
        obtain ⟨RA, RC, h12⟩ := h12
        simp only [h10, h11, h12]
        have hq : w1 = W3 := by have := hS; rw [if_pos (hld 6 (by decide))] at this; exact this
        rw [hq]
        clear h10 h11 h12 hp hS hld hq
        go_wp2_with fail
        go_roundw
        case rel => exact .inr (.inl ⟨by go_num, sp, bb, RA, RC, rfl, rfl, rfl, HSO.out⟩)
        case measure => simp [intOf]
    · have HOP := Lib.hid (HO1.out y0 (m + 42) (by omega) k1.d)
      have HK1 := Lib.hid k1
      clear k1
      go_wp2_with fail
      refine HOP.out.mono ?_
      rintro e y1 ⟨bb, A, cc, rfl, S, hcu, OP⟩
      have HCU := Lib.hid hcu
      have HOPn := Lib.hid OP
      have HS1 : Hid (SOp p gs B (m + 84) 0 g0 xs0 L sp0 bb0 w y1) := Lib.hid (HK1.out.next ⟨S, OP.d, hcu⟩ OP.far OP.only)
      have hp := HP.out
      rcases H1.out with hx | hx
      · have hlen : xs1.length = 0 := by rw [hx]; rfl
        rw [hlen]
        have hq : kk = 0 ∧ gg = g0 ∧ tt = t0 ∧ rr = r0 ∧ xs = xs0 := by
          rcases hp with h | h
          · exact ⟨h.1, h.2.1, h.2.2.1, h.2.2.2.1, h.2.2.2.2.1⟩
          · have h2 := h.2.2.2.2.2.1
            rw [hx] at h2
            cases h2
        have HQ := Lib.hid hq
        clear OP hcu hp hx hlen hq
        go_wp2_with fail
        go_roundw
        case rel =>
          obtain ⟨q1, q2, q3, q4, q5⟩ := HQ.out
          rw [q1, q2, q3, q4, q5]
          exact .inr (.inr ⟨by go_num, sp0, bb0, A0, c0, rfl, rfl, rfl, HS1.out⟩)
        case measure => simp [intOf]
      · have hrow := OP.row
        rw [hx] at hrow
        obtain ⟨gg_, rfl, hcell, hcc, hcm⟩ := row_head hrow
        have hlen : xs1.length = r1.length + 1 := by rw [hx]; rfl
        rw [hlen]
        have HX := Lib.hid hx
        have hpos : ¬ ((r1.length + 1 : Nat) : Int) = 0 := by omega
        have hbeq : ((((r1.length + 1 : Nat) : Int)) == 0) = false := beq_eq_false_iff_ne.2 hpos
        have hidx : (0 : Int) < ((r1.length + 1 : Nat) : Int) := by omega
        have hidx2 : (0 : Int) < (r1.length : Int) + 1 := by omega
        clear OP hrow hlen hcu hx hp
        go_wp2_with fail
        refine (HR1.out y1).mono ?_
        rintro e y2 ⟨rfl, o2⟩
        have hs2 : Blk y2 sp0 51 #[.pointer (some ⟨bb0, 0, none⟩), .int .i64 ((0 : Nat) : Int), .int .u64 (g0 : Int), .pointer (some ⟨p, 0, none⟩), .bool false] := o2.blk HS1.out.s (fun h => h)
        have cg : y2.cell? ⟨sp0, 2, none⟩ = some (.int .u64 (g0 : Int)) := hs2.cell 2
        clear hs2
        by_cases hgt : g0 < g1
        · have hq : kk = 1 ∧ gg = g1 ∧ tt = t1 ∧ rr = r1 ∧ xs = xs1 := by
            rcases HP.out with h | h
            · have h2 := h.2.2.2.2.2
              rcases h2 with h2 | h2
              · have h3 := HX.out
                rw [h2] at h3
                cases h3
              · omega
            · exact ⟨h.1, h.2.1, h.2.2.1, h.2.2.2.1, h.2.2.2.2.1⟩
          have HQ := Lib.hid hq
          have hgti : (g0 : Int) < (g1 : Int) := by omega
          obtain ⟨W2, hW2⟩ : ∃ W2, W2 = y2.drew := ⟨_, rfl⟩
          obtain ⟨W3, hW3⟩ : ∃ W3, W3 = W2.alloc (.cells #[.pointer (some ⟨bb, 0, none⟩), .int .i64 1, .int .u64 (g1 : Int), .pointer (some ⟨p, 0, none⟩), .bool false] 51) := ⟨_, rfl⟩
          obtain ⟨sp, hsp⟩ : ∃ sp, sp = W2.heap.size := ⟨_, rfl⟩
          have o3 : Only (fun _ => False) y1 W3 := by rw [hW3, hW2]; exact (o2.drew).alloc _
          have bs : Blk W3 sp 51 #[.pointer (some ⟨bb, 0, none⟩), .int .i64 1, .int .u64 (g1 : Int), .pointer (some ⟨p, 0, none⟩), .bool false] := by rw [hW3, hsp]; exact Blk.new W2 _ _
          have HW2 := Lib.hid hW2.symm
          have HW3 := Lib.hid hW3.symm
          have HSP := Lib.hid hsp.symm
          have HSO : Hid (SOp p gs B (m + 84) 1 g1 xs1 L sp bb w W3) := Lib.hid ⟨⟨S, HOPn.out.d.only o3, HCU.out⟩, bs, o3.blk HOPn.out.book (fun h => h), by
            have h1 := HBw.out
            have h2 := HS1.out.only.size
            have h4 := o2.size
            have h5 : W2.heap.size = y2.heap.size := by rw [hW2]; rfl
            omega, by have h1 := HBw.out; have h2 := HK1.out.only.size; have h3 := HOPn.out.new; omega, HS1.out.far.trans (Far.of_none o3), HS1.out.only.trans (o3.mono fun _ h => h.elim)⟩
          clear hcell o2 hW2 hW3 hsp o3 bs hgt hq
          go_wp2_with fail
          clear cg
          refine wp_region_st (by kernel_rfl) (fun dn y => if dn 6 = true then y = W3 else y = W2) [Is (.pointer (some ⟨bb, 0, none⟩)), Is (.int .i64 1), Is (.int .u64 (g1 : Int)), Is (.agg #[.pointer (some ⟨bb, 0, none⟩), .int .i64 1, .int .u64 (g1 : Int)]), Is (.pointer (some ⟨p, 0, none⟩)), Is (.agg #[.pointer (some ⟨bb, 0, none⟩), .int .i64 1, .int .u64 (g1 : Int), .pointer (some ⟨p, 0, none⟩), .bool false]), Is (.pointer (some ⟨sp, 0, none⟩)), Is (.string t1), Is (.slice (some ⟨gg_, 0, none⟩) (r1.length + 1) cc), (fun v _ => ∃ A c, v = .slice A r1.length c), Is (.pointer (some ⟨sp, 0, none⟩)), Is (.string t1), (fun v _ => ∃ A c, v = .slice A r1.length c)] (by kernel_rfl)
            ⟨is_stab _ _, is_stab _ _, is_stab _ _, is_stab _ _, is_stab _ _, is_stab _ _, is_stab _ _, is_stab _ _, is_stab _ _, (fun _ _ _ h _ => h), is_stab _ _, is_stab _ _, (fun _ _ _ h _ => h), trivial⟩ (by simp; exact HW2.out) ⟨?_, ?_, ?_, ?_, ?_, ?_, ?_, ?_, ?_, ?_, ?_, ?_, ?_, trivial⟩ ?_
          · intro dn u w1 hi he hS hp K hK
            refine ord_plain rfl ?_
            simp at hp hK ⊢
            go_simp
            exact hK _ _ (by simpa [ldW] using hS) rfl
          · intro dn u w1 hi he hS hp K hK
            refine ord_plain rfl ?_
            simp at hp hK ⊢
            go_simp
            exact hK _ _ (by simpa [ldW] using hS) rfl
          · intro dn u w1 hi he hS hp K hK
            refine ord_plain rfl ?_
            simp at hp hK ⊢
            go_simp
            exact hK _ _ (by simpa [ldW] using hS) rfl
          · intro dn u w1 hi he hS hp K hK
            refine ord_plain rfl ?_
            simp at hp hK ⊢
            simp only [hp] at hK
            go_simp
            exact hK _ _ (by simpa [ldW] using hS) rfl
          · intro dn u w1 hi he hS hp K hK
            refine ord_plain rfl ?_
            simp at hp hK ⊢
            go_simp
            exact hK _ _ (by simpa [ldW] using hS) rfl
          · intro dn u w1 hi he hS hp K hK
            refine ord_plain rfl ?_
            simp at hp hK ⊢
            simp only [hp] at hK
            go_simp
            exact hK _ _ (by simpa [ldW] using hS) rfl
          · intro dn u w1 hi he hS hp K hK
            refine ord_plain rfl ?_
            simp at hp hK ⊢
            simp only [hp] at hK
            have hq : w1 = W2 := by simpa [hi] using hS
            go_simp
            try rw [hq]
            rw [HSP.out]
            exact hK _ _ (by simp only [ldW, if_true]; exact HW3.out) rfl
          · intro dn u w1 hi he hS hp K hK
            refine ord_plain rfl ?_
            simp at hp hK ⊢
            go_simp
            exact hK _ _ (by simpa [ldW] using hS) rfl
          · intro dn u w1 hi he hS hp K hK
            refine ord_plain rfl ?_
            simp at hp hK ⊢
            go_simp
            exact hK _ _ (by simpa [ldW] using hS) rfl
          · intro dn u w1 hi he hS hp K hK
            refine ord_plain rfl ?_
            simp at hp hK ⊢
            simp only [hp] at hK
            have hb1 : (1 : Int) ≤ ((r1.length : Nat) : Int) + 1 := by omega
            go_simp
            exact hK _ _ (by simpa [ldW] using hS) _ _ (by first | rfl | (congr 1; omega))
          · intro dn u w1 hi he hS hp K hK
            refine ord_plain rfl ?_
            simp at hp hK ⊢
            simp only [hp] at hK
            go_simp
            exact hK _ _ (by simpa [ldW] using hS) rfl
          · intro dn u w1 hi he hS hp K hK
            refine ord_plain rfl ?_
            simp at hp hK ⊢
            simp only [hp] at hK
            go_simp
            exact hK _ _ (by simpa [ldW] using hS) rfl
          · intro dn u w1 hi he hS hp K hK
            refine ord_plain rfl ?_
            simp at hp hK ⊢
            simp only [hp] at hK
            go_simp
            obtain ⟨RA, RC, h9⟩ := hp.1
            exact hK _ _ (by simpa [ldW] using hS) RA RC h9
          · intro u w1 dn hld hS hp
            simp at hp ⊢
            have h10 := hp.2.2.2.2.2.2.2.2.2.2.1
            have h11 := hp.2.2.2.2.2.2.2.2.2.2.2.1
            have h12 := hp.2.2.2.2.2.2.2.2.2.2.2.2
            obtain ⟨RA, RC, h12⟩ := h12
            simp only [h10, h11, h12]
            have hq : w1 = W3 := by have := hS; rw [if_pos (hld 6 (by decide))] at this; exact this
            rw [hq]
            clear h10 h11 h12 hp hS hld hq
            go_wp2_with fail
            go_roundw
            case rel =>
              obtain ⟨q1, q2, q3, q4, q5⟩ := HQ.out
              rw [q1, q2, q3, q4, q5]
              exact .inr (.inr ⟨by go_num, sp, bb, RA, RC, rfl, rfl, rfl, HSO.out⟩)
            case measure => simp [intOf]
        · have hq : kk = 0 ∧ gg = g0 ∧ tt = t0 ∧ rr = r0 ∧ xs = xs0 := by
            rcases HP.out with h | h
            · exact ⟨h.1, h.2.1, h.2.2.1, h.2.2.2.1, h.2.2.2.2.1⟩
            · have := h.2.2.2.2.2.2; omega
          have HQ := Lib.hid hq
          have hgti : ¬ (g0 : Int) < (g1 : Int) := by omega
          have HO2 := Lib.hid o2
          clear hcell o2 hgt hq
          go_wp2_with fail
          go_roundw
          case rel =>
            obtain ⟨q1, q2, q3, q4, q5⟩ := HQ.out
            rw [q1, q2, q3, q4, q5]
            exact .inr (.inr ⟨by go_num, sp0, bb0, A0, c0, rfl, rfl, rfl, HS1.out.next (HS1.out.d.only HO2.out) (Far.of_none HO2.out) (HO2.out.mono fun _ h => h.elim)⟩)
          case measure => simp [intOf]
    · have K1 := Lib.hid k1
      clear k1
      go_wp2_with fail
      try simp only [Exit.inBlock, Exit.then]
      refine bodyPost_ret (results_tmp4 rfl _ _ _) rfl ?_
      exact ⟨sp0, bb0, A0, c0, rfl, K1.out⟩
end Go.Proofs.YthggliknnmhbdaaGreat
