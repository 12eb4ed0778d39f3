/- DequeOnce: its walk. -/
import Derived.Test.YtmghlhngdopifaaDqOp
import Derived.Test.YtmghlhngdopifaaDeqW
namespace Go.Proofs.Ytmghlhngdopifaa
open Go.RowKit Go.WideShapes Go.ChangeShapes
set_option linter.unusedVariables false
theorem SoloS.put_ {w w' : World} {B m d bl κ κ' : Nat} {L : List Int} {P N X : Int} {g g' : Int → Int} (h : SoloS w B m d L P N X) (hm : IMap w' bl κ' g') (hg : w.grownBy w' (some bl)) (im : IMap w bl κ g) : SoloS w' B m d L P N X := by
  obtain ⟨n, v, C, ps, acts, on, hW, h2, h3, h4⟩ := h
  have o : Only (fun x => x = bl) w w' := (Only.refl _ w).grown hg (fun k hk => .inl (by cases hk; rfl))
  exact ⟨n, v, C, ps, acts, on, hW.stay o (fun x cs t hx hb => absurd hx (im.ne hb)), h2, h3, h4⟩
theorem SoloS.more {w : World} {B m d : Nat} {L : List Int} {P N X X' : Int} (h : SoloS w B m d L P N X) (hX : X ≤ X') : SoloS w B m d L P N X' := by
  obtain ⟨n, v, C, ps, acts, on, h1, h2, h3, h4⟩ := h
  exact ⟨n, v, C, ps, acts, on, h1, h2, h3, Int.le_trans h4 hX⟩
set_option maxHeartbeats 8000000 in
set_option maxRecDepth 100000 in
theorem once_law (lg : Int) (hl0 : 0 ≤ lg) (hl1 : lg ≤ 255) (ss : List S16) (A : Option Addr) (c : Nat) (w : World) (hs : Scr16 w w.heap.size A ss) (hm : ss.length ≤ maxLen) :
    Calls Try.prog 3 #[.int .u8 lg, .slice A ss.length c] w fun e w' => e = .returned (.bool true) ∧ Below w.heap.size w w' := by
  unfold maxLen at hm
  have HR := Lib.hid hs
  clear hs
  have hmm := @run_makeMap Try.prog
  obtain ⟨i0, hi0, hz0, hz1, hz2⟩ := info_parts (show (Try.prog.info? 37).map (fun i => (i.zero, i.size, i.bytes)) = some (some (.pointer none), 1, 8) by kernel_rfl)
  obtain ⟨i1, hi1, hy0, hy1, hy2⟩ := info_parts (show (Try.prog.info? 4).map (fun i => (i.zero, i.size, i.bytes)) = some (some (.bool false), 1, 1) by kernel_rfl)
  obtain ⟨i2, hi2, hx0, hx1, hx2⟩ := info_parts (show (Try.prog.info? 3).map (fun i => (i.zero, i.size, i.bytes)) = some (some (.int .i64 0), 1, 8) by kernel_rfl)
  go_enter Try.func3, Try.ntmps3
  by_cases h3 : (200 : Int) < ss.length
  · go_wp2_with fail
    refine (works_any _).mono ?_
    rintro e w1 ⟨rfl, B⟩
    go_wp2_with fail
    go_ret
    exact ⟨rfl, B⟩
  go_wp2_with fail
  refine (new_any w).mono ?_
  rintro e w1 ⟨rfl, rfl⟩
  obtain ⟨B, hB⟩ : ∃ B, B = w.heap.size := ⟨_, rfl⟩
  obtain ⟨w1, hw1⟩ : ∃ w1, w1 = w.alloc (.cells #[.int .i64 0, .bool true, .slice none 0 0] 72) := ⟨_, rfl⟩
  have hcm : CMem w1 B B 0 (.slice none 0 0) [] := by rw [hw1, hB]; exact CMem.new w w.heap.size (Nat.le_refl _)
  have HO1 : Hid (Only (fun x => B ≤ x) w w1) := Lib.hid (by rw [hw1]; exact (Only.refl _ w).alloc _)
  rw [← hw1, ← hB]
  have HB := Lib.hid hB
  obtain ⟨lq, hlq⟩ : ∃ lq : Nat, (lq : Int) = lg % 4 := ⟨(lg % 4).toNat, by omega⟩
  have hlq4 : lq < 4 := by omega
  have hnew := dnew_any B B _ lq (by omega) w1 hcm
  have hmach := mach_new (2 ^ lq) Nat.one_le_two_pow 10000 (by have : 2 ^ lq ≤ 2 ^ 8 := Nat.pow_le_pow_right (by decide) (by omega); omega)
  have HM0 := Lib.hid hmach
  have HN := Lib.hid hnew
  have hlt : lg.tmod 4 = (lq : Int) := by rw [hlq, Int.tmod_eq_emod_of_nonneg hl0]
  clear hcm hw1 hB hnew hlq hmach
  go_wp2_with fail
  refine HN.out.mono ?_
  rintro e w2 ⟨d, v0, rfl, k1, k2⟩
  have HS := Lib.hid k1
  have HO := Lib.hid (HO1.out.trans k2)
  clear k1 k2
  go_wp2_with fail
  obtain ⟨bl, hbl⟩ : ∃ bl, bl = w2.heap.size := ⟨_, rfl⟩
  rw [← hbl]
  have HBL := Lib.hid hbl
  clear hbl
  have hBbl := Lib.hid (show B ≤ bl by rw [HBL.out, HB.out]; exact HO.out.size)
  go_loopw [8, 9, 10, 11, 12, 14] (fun va vo vk lv sv iv y => ∃ (i : Nat) (P st n : Int) (v : Value) (C : List Int) (ps : List Nat) (acts : List PAct) (on : Option Nat) (L : List Int) (g : Int → Int), i ≤ ss.length ∧ iv = .int .i64 i ∧ lv = .int .i64 P ∧ sv = .int .i64 st ∧ P ≤ i ∧ OnceI y [] B B d bl (40 * i) va vo vk P st n v C ps acts on L g ∧ acts.length ≤ i ∧ Only (fun x => B ≤ x) w y) (fun _ _ _ _ _ i _ => ss.length - (intOf i).toNat)
  case atStart =>
    refine ⟨0, 0, 0, 0, v0, _, [], [], none, [], fun _ => 0, by omega, rfl, rfl, rfl, by omega, ⟨⟨HS.out.stay ((Only.refl (fun _ => False) w2).alloc _) (fun _ _ _ e => e.elim), World.ownsRow_nil _ _ _ _, World.ownsRow_nil _ _ _ _, World.ownsRow_nil _ _ _ _, by rw [HBL.out]; exact IMap.made w2, .inl (fun i a ha => by simp at ha), fun _ hp => by simp at hp⟩, HM0.out, by simp, ⟨List.Pairwise.nil, by simp, by simp, by omega, by omega⟩, by simp⟩, by simp, HO.out.alloc _⟩
  case round =>
    obtain ⟨yr, rfl⟩ : ∃ yr, yr = wr := ⟨_, rfl⟩
    obtain ⟨i, P, st, n, v, C, ps, acts, on, L, g, hi, rfl, rfl, rfl, hPi, s1, hai, o1⟩ := hrel
    have hP0 := s1.dom
    have S1 := Lib.hid s1
    have O1 := Lib.hid o1
    have hscr := HR.out.below (O1.out.below (B := w.heap.size) (fun b hb => by have := HB.out; omega) (Nat.le_refl _))
    have HSC := Lib.hid hscr
    clear s1 o1 hscr
    by_cases hil : i < ss.length
    · obtain ⟨s, hs⟩ : ∃ s, ss[i]? = some s := ⟨_, List.getElem?_eq_getElem hil⟩
      obtain ⟨b, off, rfl, hb, c0, c1, c2, c3, hsn, hsk⟩ := HSC.out i s hs
      clear hs
      obtain ⟨act, sv, sn, sk⟩ := s
      simp only at c0 c1 c2 c3 hsn hsk
      obtain ⟨y1, hy1⟩ : ∃ y1, y1 = yr.alloc (.cells #[.int .i64 act, .int .i64 sv, .int .u16 sn, .int .u8 sk] 36) := ⟨_, rfl⟩
      obtain ⟨q5, hq5⟩ : ∃ q5, q5 = yr.heap.size := ⟨_, rfl⟩
      have o1' : Only (fun _ => False) yr y1 := by rw [hy1]; exact (Only.refl _ yr).alloc _
      have hblk : Blk y1 q5 36 #[.int .i64 act, .int .i64 sv, .int .u16 sn, .int .u8 sk] := by rw [hy1, hq5]; exact Blk.new yr _ _
      have S2 := Lib.hid ((S1.out.keep o1').with_ hblk)
      have O2 := Lib.hid (O1.out.trans (o1'.mono (T := fun x => B ≤ x) fun _ e => e.elim))
      have HY := Lib.hid hy1.symm
      have HQ := Lib.hid hq5.symm
      clear hy1 hq5 o1' hblk S1 HSC
      have HLA := Lib.hid (show (ps.map ptrv).length = acts.length by rw [List.length_map]; exact S2.out.lens)
      have hai' : acts.length ≤ 200 := by omega
      by_cases ha0 : act = 0
      · subst ha0
        go_wp2_with fail
        rw [HY.out, HQ.out]
        cases hown : own acts on with
        | none =>
          refine (mpush_free B B d 0 n v C ps acts on L P 10000 y1 (P + 1) S2.out.p.mw S2.out.mm hown).mono ?_
          rintro e y2 ⟨rfl, k1, k2, k3⟩
          obtain ⟨q, hq⟩ : ∃ q, q = y1.heap.size := ⟨_, rfl⟩
          rw [← hq] at k1 ⊢
          have m2 : Mach (0 : Nat) C (acts ++ [newA 0 (P + 1)]) (some acts.length) (L ++ [P + 1]) (P + 1) 10000 := by simpa using mach_own S2.out.mm hown 0 (P + 1) (.inl ⟨rfl, by omega⟩)
          have P2 := Lib.hid (S2.out.p.turn k3 k1 (.inl (no12_own m2)))
          have M2 := Lib.hid m2
          have OL2 := Lib.hid S2.out.ol.push
          have O2' := Lib.hid (O2.out.trans k2)
          clear k1 k2 k3 m2 hq hown
          go_wp2_with (at_mapUpdate; refine wpList_iput _ rfl _ _ _ rfl bl _ g rfl P2.out.im (by unfold maxLen; omega) (P + 1) 1 rfl rfl (wf64 (by omega) (by omega)) (wf64 (by omega) (by omega)) ?_)
          intro y3 im3 hg3
          have P3 := Lib.hid (P2.out.put im3 hg3)
          have O3 := Lib.hid (O2'.out.grown hg3 (fun k hk => .inl (by cases hk; exact hBbl.out)))
          clear im3 hg3
          go_wp2_with (at_builtin; refine wpList_append_any _ rfl (.tmp 168) (.tmp 170) 30 rfl B 37 i0 (.pointer none) 1 8 Try.underlying30 hi0 hz0 hz1 hz2 rfl (by decide) _ _ _ rfl (P3.out.ra.alloc _) _ _ _ _ _ rfl (reads_one _) ?c2 ?c3 ?c4 ?c5 ?_)
          case c2 => intro u hu; simp at hu; subst hu; rfl
          case c3 => rw [HLA.out]; unfold maxLen; omega
          case c4 => rw [HLA.out]; omega
          case c5 => simp; have := O3.out.size; have := HB.out; omega
          intro va' y4 ho4 hg4 _
          have P4 := Lib.hid (P3.out.appA hg4 (by rw [List.length_map]; exact ho4))
          have O4 := Lib.hid ((O3.out.alloc _).grown hg4 (fun k hk => .inl (own_ge P3.out.ra hk)))
          clear ho4 hg4
          go_wp2_with (at_builtin; refine wpList_append_any _ rfl (.tmp 172) (.tmp 173) 31 rfl B 4 i1 (.bool false) 1 1 Try.underlying31 hi1 hy0 hy1 hy2 rfl (by decide) _ _ _ rfl (P4.out.ro.alloc _) _ _ _ _ _ rfl (reads_one _) ?c2 ?c3 ?c4 ?c5 ?_)
          case c2 => intro u hu; simp at hu; subst hu; rfl
          case c3 => rw [List.length_map]; unfold maxLen; omega
          case c4 => rw [List.length_map]; omega
          case c5 => simp; have := O4.out.size; have := HB.out; omega
          intro vo' y5 ho5 hg5 _
          have P5 := Lib.hid (P4.out.appO hg5 (by rw [List.length_map]; exact ho5))
          have O5 := Lib.hid ((O4.out.alloc _).grown hg5 (fun k hk => .inl (own_ge P4.out.ro hk)))
          clear ho5 hg5
          have c5 : y5.cell? ⟨q5, 0, none⟩ = some (.int .i64 0) := (P5.out.sb _ (List.mem_cons_self ..)).cell 0
          go_wp2_with (at_builtin; refine wpList_append_any _ rfl (.tmp 175) (.tmp 178) 32 rfl B 3 i2 (.int .i64 0) 1 8 Try.underlying32 hi2 hx0 hx1 hx2 rfl (by decide) _ _ _ rfl (P5.out.rk.alloc _) _ _ _ _ _ rfl (reads_one _) ?c2 ?c3 ?c4 ?c5 ?_)
          case c2 => intro u hu; simp at hu; subst hu; rfl
          case c3 => rw [List.length_map]; unfold maxLen; omega
          case c4 => rw [List.length_map]; omega
          case c5 => simp; have := O5.out.size; have := HB.out; omega
          intro vk' y6 ho6 hg6 _
          have P6 := Lib.hid (P5.out.appK hg6 (by rw [List.length_map]; exact ho6))
          have O6 := Lib.hid ((O5.out.alloc _).grown hg6 (fun k hk => .inl (own_ge P5.out.rk hk)))
          clear ho6 hg6 c5
          have hp6 : OnceP y6 [(q5, #[.int .i64 0, .int .i64 sv, .int .u16 sn, .int .u8 sk])] B B d bl (40 * i + 1) va' vo' vk' ((ps ++ [q]).map ptrv) ((acts ++ [newA 0 (P + 1)]).map flv) ((acts ++ [newA 0 (P + 1)]).map kdv) n v C (ps ++ [q]) (acts ++ [newA 0 (P + 1)]) (some acts.length) (updI g (P + 1) 1) := by
            have := P6.out
            simp only [List.map_append, List.map_cons, List.map_nil]
            exact this
          have S7 : Hid (OnceI y6 [] B B d bl (40 * (i + 1)) va' vo' vk' (P + 1) st n v C (ps ++ [q]) (acts ++ [newA 0 (P + 1)]) (some acts.length) (L ++ [P + 1]) (updI g (P + 1) 1)) := Lib.hid ((OnceI.mk hp6 M2.out (by have := S2.out.hn; push_cast at this ⊢; omega) OL2.out (by have := S2.out.pl; simp; omega)).drop.more (by omega))
          go_wp2_with fail
          exact ⟨⟨i + 1, P + 1, st, n, v, C, ps ++ [q], acts ++ [newA 0 (P + 1)], (some acts.length), L ++ [P + 1], updI g (P + 1) 1, by omega, by go_num, rfl, rfl, by push_cast; omega, S7.out, by simp; omega, O6.out⟩, by simp [intOf]; omega⟩
        | some a0 =>
          refine (mpush_busy B B d 0 n v C ps acts on y1 (P + 1) S2.out.p.mw hown).mono ?_
          rintro e y2 ⟨rfl, rfl⟩
          go_wp2_with fail
          exact ⟨⟨i + 1, P, st, n, v, C, ps, acts, on, L, g, by omega, by go_num, rfl, rfl, by push_cast; omega, S2.out.drop.more (by omega), by omega, O2.out⟩, by simp [intOf]; omega⟩
      by_cases ha1 : act = 1
      · subst ha1
        go_wp2_with fail
        rw [HY.out, HQ.out]
        cases hown : own acts on with
        | none =>
          refine (mpop_free B B d 0 n v C ps acts on L P 10000 y1 S2.out.p.mw S2.out.mm hown).mono ?_
          rintro e y3 ⟨rfl, k1, k2, k3⟩
          obtain ⟨q, hq⟩ : ∃ q, q = y1.heap.size := ⟨_, rfl⟩
          rw [← hq] at k1 ⊢
          have m2 : Mach (0 : Nat) C (acts ++ [newA 1 0]) (some acts.length) L P 10000 := by simpa using mach_own S2.out.mm hown 1 0 (.inr rfl)
          have P3 := Lib.hid (S2.out.p.turn k3 k1 (.inl (no12_own m2)))
          have M2 := Lib.hid m2
          have OL2 := Lib.hid S2.out.ol
          have O3 := Lib.hid (O2.out.trans k2)
          clear k1 k2 k3 m2 hq hown
          go_wp2_with (at_builtin; refine wpList_append_any _ rfl (.tmp 168) (.tmp 170) 30 rfl B 37 i0 (.pointer none) 1 8 Try.underlying30 hi0 hz0 hz1 hz2 rfl (by decide) _ _ _ rfl (P3.out.ra.alloc _) _ _ _ _ _ rfl (reads_one _) ?c2 ?c3 ?c4 ?c5 ?_)
          case c2 => intro u hu; simp at hu; subst hu; rfl
          case c3 => rw [HLA.out]; unfold maxLen; omega
          case c4 => rw [HLA.out]; omega
          case c5 => simp; have := O3.out.size; have := HB.out; omega
          intro va' y4 ho4 hg4 _
          have P4 := Lib.hid (P3.out.appA hg4 (by rw [List.length_map]; exact ho4))
          have O4 := Lib.hid ((O3.out.alloc _).grown hg4 (fun k hk => .inl (own_ge P3.out.ra hk)))
          clear ho4 hg4
          go_wp2_with (at_builtin; refine wpList_append_any _ rfl (.tmp 172) (.tmp 173) 31 rfl B 4 i1 (.bool false) 1 1 Try.underlying31 hi1 hy0 hy1 hy2 rfl (by decide) _ _ _ rfl (P4.out.ro.alloc _) _ _ _ _ _ rfl (reads_one _) ?c2 ?c3 ?c4 ?c5 ?_)
          case c2 => intro u hu; simp at hu; subst hu; rfl
          case c3 => rw [List.length_map]; unfold maxLen; omega
          case c4 => rw [List.length_map]; omega
          case c5 => simp; have := O4.out.size; have := HB.out; omega
          intro vo' y5 ho5 hg5 _
          have P5 := Lib.hid (P4.out.appO hg5 (by rw [List.length_map]; exact ho5))
          have O5 := Lib.hid ((O4.out.alloc _).grown hg5 (fun k hk => .inl (own_ge P4.out.ro hk)))
          clear ho5 hg5
          have c5 : y5.cell? ⟨q5, 0, none⟩ = some (.int .i64 1) := (P5.out.sb _ (List.mem_cons_self ..)).cell 0
          go_wp2_with (at_builtin; refine wpList_append_any _ rfl (.tmp 175) (.tmp 178) 32 rfl B 3 i2 (.int .i64 0) 1 8 Try.underlying32 hi2 hx0 hx1 hx2 rfl (by decide) _ _ _ rfl (P5.out.rk.alloc _) _ _ _ _ _ rfl (reads_one _) ?c2 ?c3 ?c4 ?c5 ?_)
          case c2 => intro u hu; simp at hu; subst hu; rfl
          case c3 => rw [List.length_map]; unfold maxLen; omega
          case c4 => rw [List.length_map]; omega
          case c5 => simp; have := O5.out.size; have := HB.out; omega
          intro vk' y6 ho6 hg6 _
          have P6 := Lib.hid (P5.out.appK hg6 (by rw [List.length_map]; exact ho6))
          have O6 := Lib.hid ((O5.out.alloc _).grown hg6 (fun k hk => .inl (own_ge P5.out.rk hk)))
          clear ho6 hg6 c5
          have hp6 : OnceP y6 [(q5, #[.int .i64 1, .int .i64 sv, .int .u16 sn, .int .u8 sk])] B B d bl (40 * i) va' vo' vk' ((ps ++ [q]).map ptrv) ((acts ++ [newA 1 0]).map flv) ((acts ++ [newA 1 0]).map kdv) n v C (ps ++ [q]) (acts ++ [newA 1 0]) (some acts.length) (g) := by
            have := P6.out
            simp only [List.map_append, List.map_cons, List.map_nil]
            exact this
          have S7 : Hid (OnceI y6 [] B B d bl (40 * (i + 1)) va' vo' vk' (P) st n v C (ps ++ [q]) (acts ++ [newA 1 0]) (some acts.length) (L) (g)) := Lib.hid ((OnceI.mk hp6 M2.out (by have := S2.out.hn; push_cast at this ⊢; omega) OL2.out (by have := S2.out.pl; simp; omega)).drop.more (by omega))
          go_wp2_with fail
          exact ⟨⟨i + 1, P, st, n, v, C, ps ++ [q], acts ++ [newA 1 0], (some acts.length), L, g, by omega, by go_num, rfl, rfl, by push_cast; omega, S7.out, by simp; omega, O6.out⟩, by simp [intOf]; omega⟩
        | some a0 =>
          refine (mpop_busy B B d 0 n v C ps acts on y1 S2.out.p.mw hown).mono ?_
          rintro e y2 ⟨rfl, rfl⟩
          go_wp2_with fail
          exact ⟨⟨i + 1, P, st, n, v, C, ps, acts, on, L, g, by omega, by go_num, rfl, rfl, by push_cast; omega, S2.out.drop.more (by omega), by omega, O2.out⟩, by simp [intOf]; omega⟩
      by_cases ha2 : act = 2
      · subst ha2
        go_wp2_with fail
        rw [HY.out, HQ.out]
        refine (msteal_any B B d 0 n v C ps acts on L P 10000 y1 S2.out.p.mw S2.out.mm).mono ?_
        rintro e y3 ⟨rfl, k1, k2, k3⟩
        obtain ⟨q, hq⟩ : ∃ q, q = y1.heap.size := ⟨_, rfl⟩
        rw [← hq] at k1 ⊢
        have P3 := Lib.hid (S2.out.p.turn k3 k1 (S2.out.p.ok.imp no12_steal id))
        have M2 := Lib.hid (mach_steal S2.out.mm)
        have OL2 := Lib.hid S2.out.ol
        have O3 := Lib.hid (O2.out.trans k2)
        clear k1 k2 k3 hq
        go_wp2_with (at_builtin; refine wpList_append_any _ rfl (.tmp 168) (.tmp 170) 30 rfl B 37 i0 (.pointer none) 1 8 Try.underlying30 hi0 hz0 hz1 hz2 rfl (by decide) _ _ _ rfl (P3.out.ra.alloc _) _ _ _ _ _ rfl (reads_one _) ?c2 ?c3 ?c4 ?c5 ?_)
        case c2 => intro u hu; simp at hu; subst hu; rfl
        case c3 => rw [HLA.out]; unfold maxLen; omega
        case c4 => rw [HLA.out]; omega
        case c5 => simp; have := O3.out.size; have := HB.out; omega
        intro va' y4 ho4 hg4 _
        have P4 := Lib.hid (P3.out.appA hg4 (by rw [List.length_map]; exact ho4))
        have O4 := Lib.hid ((O3.out.alloc _).grown hg4 (fun k hk => .inl (own_ge P3.out.ra hk)))
        clear ho4 hg4
        go_wp2_with (at_builtin; refine wpList_append_any _ rfl (.tmp 172) (.tmp 173) 31 rfl B 4 i1 (.bool false) 1 1 Try.underlying31 hi1 hy0 hy1 hy2 rfl (by decide) _ _ _ rfl (P4.out.ro.alloc _) _ _ _ _ _ rfl (reads_one _) ?c2 ?c3 ?c4 ?c5 ?_)
        case c2 => intro u hu; simp at hu; subst hu; rfl
        case c3 => rw [List.length_map]; unfold maxLen; omega
        case c4 => rw [List.length_map]; omega
        case c5 => simp; have := O4.out.size; have := HB.out; omega
        intro vo' y5 ho5 hg5 _
        have P5 := Lib.hid (P4.out.appO hg5 (by rw [List.length_map]; exact ho5))
        have O5 := Lib.hid ((O4.out.alloc _).grown hg5 (fun k hk => .inl (own_ge P4.out.ro hk)))
        clear ho5 hg5
        have c5 : y5.cell? ⟨q5, 0, none⟩ = some (.int .i64 2) := (P5.out.sb _ (List.mem_cons_self ..)).cell 0
        go_wp2_with (at_builtin; refine wpList_append_any _ rfl (.tmp 175) (.tmp 178) 32 rfl B 3 i2 (.int .i64 0) 1 8 Try.underlying32 hi2 hx0 hx1 hx2 rfl (by decide) _ _ _ rfl (P5.out.rk.alloc _) _ _ _ _ _ rfl (reads_one _) ?c2 ?c3 ?c4 ?c5 ?_)
        case c2 => intro u hu; simp at hu; subst hu; rfl
        case c3 => rw [List.length_map]; unfold maxLen; omega
        case c4 => rw [List.length_map]; omega
        case c5 => simp; have := O5.out.size; have := HB.out; omega
        intro vk' y6 ho6 hg6 _
        have P6 := Lib.hid (P5.out.appK hg6 (by rw [List.length_map]; exact ho6))
        have O6 := Lib.hid ((O5.out.alloc _).grown hg6 (fun k hk => .inl (own_ge P5.out.rk hk)))
        clear ho6 hg6 c5
        have hp6 : OnceP y6 [(q5, #[.int .i64 2, .int .i64 sv, .int .u16 sn, .int .u8 sk])] B B d bl (40 * i) va' vo' vk' ((ps ++ [q]).map ptrv) ((acts ++ [newA 2 0]).map flv) ((acts ++ [newA 2 0]).map kdv) n v C (ps ++ [q]) (acts ++ [newA 2 0]) on (g) := by
          have := P6.out
          simp only [List.map_append, List.map_cons, List.map_nil]
          exact this
        have S7 : Hid (OnceI y6 [] B B d bl (40 * (i + 1)) va' vo' vk' (P) st n v C (ps ++ [q]) (acts ++ [newA 2 0]) on (L) (g)) := Lib.hid ((OnceI.mk hp6 M2.out (by have := S2.out.hn; push_cast at this ⊢; omega) OL2.out (by have := S2.out.pl; simp; omega)).drop.more (by omega))
        go_wp2_with fail
        exact ⟨⟨i + 1, P, st, n, v, C, ps ++ [q], acts ++ [newA 2 0], on, L, g, by omega, by go_num, rfl, rfl, by push_cast; omega, S7.out, by simp; omega, O6.out⟩, by simp [intOf]; omega⟩
      by_cases ha3 : act = 3
      · subst ha3
        obtain ⟨Aa, ca, hva⟩ := own_slice S2.out.p.ra
        rw [HLA.out] at hva
        subst hva
        by_cases hn0 : acts.length = 0
        · have hn0' : (acts.length : Int) = 0 := by omega
          go_wp2_with fail
          rw [HY.out]
          exact ⟨⟨i + 1, P, st, n, v, C, ps, acts, on, L, g, by omega, by go_num, rfl, rfl, by push_cast; omega, S2.out.drop.more (by omega), by omega, O2.out⟩, by simp [intOf]; omega⟩
        have hn1 : ((acts.length : Int) == 0) = false := beq_eq_false_iff_ne.2 (by omega)
        obtain ⟨at', hat⟩ : ∃ at' : Nat, sn.tmod (acts.length : Int) = (at' : Int) := ⟨(sn.tmod acts.length).toNat, by have := Int.tmod_nonneg (acts.length : Int) hsn.1; omega⟩
        have hat' : at' < acts.length := by have := Int.tmod_lt_of_pos sn (show (0 : Int) < acts.length by omega); omega
        obtain ⟨kk, hkk⟩ : ∃ kk : Nat, sk.tmod 32 = (kk : Int) := ⟨(sk.tmod 32).toNat, by have := Int.tmod_nonneg (32 : Int) hsk.1; omega⟩
        have hkk' : kk < 32 := by have := Int.tmod_lt_of_pos sk (show (0 : Int) < 32 by omega); omega
        obtain ⟨ga, ca', hva⟩ := own_some S2.out.p.ra (by rw [HLA.out]; omega)
        rw [HLA.out] at hva
        cases hva
        obtain ⟨go, co, hvo⟩ := own_some S2.out.p.ro (by rw [List.length_map]; omega)
        rw [List.length_map] at hvo
        subst hvo
        obtain ⟨gk, ck, hvk⟩ := own_some S2.out.p.rk (by rw [List.length_map]; omega)
        rw [List.length_map] at hvk
        subst hvk
        clear hn0
        go_wp2_with fail
        rw [HY.out, HQ.out]
        clear hn1
        go_loopw [12, 25] (fun zv kv y => ∃ (k : Nat) (st n : Int) (v : Value) (C : List Int) (acts' : List PAct) (L : List Int) (g : Int → Int), k ≤ 32 ∧ kv = .int .i64 k ∧ zv = .int .i64 st ∧ OnceI y [(q5, #[.int .i64 3, .int .i64 sv, .int .u16 sn, .int .u8 sk])] B B d bl (40 * i + k) (.slice (some ⟨ga, 0, none⟩) acts.length ca) (.slice (some ⟨go, 0, none⟩) acts.length co) (.slice (some ⟨gk, 0, none⟩) acts.length ck) P st n v C ps acts' on L g ∧ acts'.length = acts.length ∧ Only (fun x => B ≤ x) w y) (fun _ k _ => 33 - (intOf k).toNat)
        case atStart => exact ⟨0, st, n, v, C, acts, L, g, by omega, rfl, rfl, S2.out, rfl, O2.out⟩
        case round =>
          obtain ⟨y2, rfl⟩ : ∃ yr, yr = wr := ⟨_, rfl⟩
          obtain ⟨k, st, n, v, C, acts', L, g, hk32, rfl, rfl, s3, hl3, o3⟩ := hrel
          have S3 := Lib.hid s3
          have O3 := Lib.hid o3
          clear s3 o3
          obtain ⟨a, ha⟩ : ∃ a, acts'[at']? = some a := ⟨_, List.getElem?_eq_getElem (by omega)⟩
          have ro3 := S3.out.p.ro
          rw [List.length_map, hl3] at ro3
          have co3 := own_at ro3 (j := at') (u := flv a) (by rw [List.getElem?_map, ha]; rfl)
          have ra3 := S3.out.p.ra
          rw [List.length_map, S3.out.lens, hl3] at ra3
          obtain ⟨p, hp⟩ : ∃ p, ps[at']? = some p := ⟨_, List.getElem?_eq_getElem (by rw [S3.out.lens, hl3]; exact hat')⟩
          have ca3 := own_at ra3 (j := at') (u := ptrv p) (by rw [List.getElem?_map, hp]; rfl)
          unfold ptrv at ca3
          obtain ⟨cap3, caf3⟩ := ca3
          obtain ⟨cop3, cof3⟩ := co3
          have c53 : y2.cell? ⟨q5, 3, none⟩ = some (.int .u8 sk) := (S3.out.p.sb _ (List.mem_cons_self ..)).cell 3
          have HA := Lib.hid ha
          have HP := Lib.hid hp
          clear ha hp ro3 ra3
          have hfin : Hid (∃ (i_1 : Nat) (P_1 st_1 n_1 : Int) (v_1 : Value) (C_1 : List Int) (ps_1 : List Nat) (acts_1 : List PAct) (on_1 : Option Nat) (L_1 : List Int) (g_1 : Int → Int), i_1 ≤ ss.length ∧ (Value.int .i64 ((i : Int) + 1)) = .int .i64 i_1 ∧ (Value.int .i64 P) = .int .i64 P_1 ∧ (Value.int .i64 st) = .int .i64 st_1 ∧ P_1 ≤ i_1 ∧ OnceI y2 [] B B d bl (40 * i_1) (.slice (some ⟨ga, 0, none⟩) acts.length ca) (.slice (some ⟨go, 0, none⟩) acts.length co) (.slice (some ⟨gk, 0, none⟩) acts.length ck) P_1 st_1 n_1 v_1 C_1 ps_1 acts_1 on_1 L_1 g_1 ∧ acts_1.length ≤ i_1 ∧ Only (fun x => B ≤ x) w y2) :=
            Lib.hid ⟨i + 1, P, st, n, v, C, ps, acts', on, L, g, by omega, by go_num, rfl, rfl, by push_cast; omega, S3.out.drop.more (by omega), by omega, O3.out⟩
          by_cases hkk3 : (k : Int) ≤ (kk : Int)
          · by_cases h0 : a.told = 0
            · rw [show flv a = .bool false by simp [flv, h0]] at cop3
              go_wp2_with fail
              refine (mstep_any B B d 0 p at' n v C ps acts' on L P 10000 a y2 S3.out.p.mw S3.out.mm (by omega) (by omega) (by omega) (by have := S3.out.hn; push_cast at this; omega) HA.out HP.out h0).mono ?_
              rintro e y3 ⟨rfl, ⟨o4, f4⟩, v4, L4, w4, m4, c4, k4, r4⟩
              clear r4 hfin cop3 cof3 cap3 caf3 c53
              obtain ⟨r, hr⟩ : ∃ r, r = pstep ((0 : Nat) : Int) C a := ⟨_, rfl⟩
              rw [← hr] at w4 m4 c4 k4 ⊢
              clear hr
              have P4 := Lib.hid (S3.out.p.turn f4 w4 (ok_of m4 (k := (ps.map ptrv).length) (by have h1 := S3.out.pl; have h2 := S3.out.lens; rw [List.length_map]; omega)))
              have O4 := Lib.hid (O3.out.trans o4)
              have M4 := Lib.hid m4
              have hc4 : cnt a ≤ 1 := by unfold cnt; split <;> omega
              have HN4 := Lib.hid (show n + cnt a ≤ ((40 * i + k + 1 : Nat) : Int) by have := S3.out.hn; push_cast at this ⊢; omega)
              have PL4 := Lib.hid (show P ≤ ((acts'.set at' r.a).length : Int) by rw [List.length_set]; exact S3.out.pl)
              have OL4 := Lib.hid S3.out.ol
              have ro4 := P4.out.ro
              rw [List.length_map, hl3] at ro4
              obtain ⟨c6, f6⟩ := own_at ro4 (j := at') (u := flv a) (by rw [List.getElem?_map, HA.out]; rfl)
              have HGO : at' < (acts'.map flv).length := by rw [List.length_map]; omega
              have HXL := Lib.hid (show acts.length = (acts'.map flv).length by rw [List.length_map]; omega)
              clear o4 f4 w4 m4 ro4 hc4
              have hend : ∀ (yE : World) (b : Bool) (g' : Int → Int) (st' : Int), OnceP yE [(q5, #[.int .i64 3, .int .i64 sv, .int .u16 sn, .int .u8 sk])] B B d bl (40 * i + k + 1) (.slice (some ⟨ga, 0, none⟩) acts.length ca) (.slice (some ⟨go, 0, none⟩) acts.length co) (.slice (some ⟨gk, 0, none⟩) acts.length ck) (ps.map ptrv) ((acts'.map flv).set at' (.bool b)) (acts'.map kdv) (n + cnt a) v4 r.C ps (acts'.set at' r.a) on g' → b = decide (r.a.told ≠ 0) → OnceL L4 P st' g' → Only (fun x => B ≤ x) w yE →
                  ∃ (k_1 : Nat) (st_1 n_1 : Int) (v_1 : Value) (C_1 : List Int) (acts'_1 : List PAct) (L_1 : List Int) (g_1 : Int → Int), k_1 ≤ 32 ∧ Value.int .i64 ((k : Int) + 1) = .int .i64 k_1 ∧ Value.int .i64 st' = .int .i64 st_1 ∧ OnceI yE [(q5, #[.int .i64 3, .int .i64 sv, .int .u16 sn, .int .u8 sk])] B B d bl (40 * i + k_1) (.slice (some ⟨ga, 0, none⟩) acts.length ca) (.slice (some ⟨go, 0, none⟩) acts.length co) (.slice (some ⟨gk, 0, none⟩) acts.length ck) P st_1 n_1 v_1 C_1 ps acts'_1 on L_1 g_1 ∧ acts'_1.length = acts.length ∧ Only (fun x => B ≤ x) w yE :=
                fun yE b g' st' pE hb olE oE => ⟨k + 1, st', n + cnt a, v4, r.C, acts'.set at' r.a, L4, g', by omega, by go_num, rfl, ⟨pE.turned HA.out k4 hb, M4.out, HN4.out, olE, PL4.out⟩, by rw [List.length_set]; exact hl3, oE⟩
              have HE := Lib.hid hend
              have K4 := Lib.hid k4
              clear hend k4
              rcases c4 with ⟨e1, e2, e3, e4⟩ | ⟨e1, c4⟩
              · have hw : ((r.what : Nat) : Int) = 0 := by omega
                go_wp2_with fail
                go_roundw
                case rel => exact HE.out _ false g st ((P4.out.setO HXL.out HGO _).more (by omega)) (by simp [e3]) (by rw [e4]; exact OL4.out) (O4.out.setCell (p := ⟨go, at', none⟩) (.inl (own_ge P4.out.ro rfl)) _)
                case measure => simp [intOf]; omega
              by_cases hw2 : r.what = 2
              · have hw : ((r.what : Nat) : Int) = 2 := by omega
                have P5 := Lib.hid (P4.out.setO HXL.out HGO (.bool true))
                have O5 := Lib.hid (O4.out.setCell (p := ⟨go, at', none⟩) (.inl (own_ge P4.out.ro rfl)) (.bool true))
                obtain ⟨hgv, hvs, hks⟩ : g r.val = 1 ∧ (st < r.val ∧ r.val ≤ P) ∧ ((a.kind = 1 ∧ OnceL L4 P st (updI g r.val 0)) ∨ (a.kind = 2 ∧ OnceL L4 P r.val (updI g r.val 0))) := by
                  have := OL4.out
                  rcases c4 with ⟨_, h, _⟩ | ⟨h1, h2, h3⟩ | ⟨_, h, _⟩ | ⟨h1, h2, h3⟩ | ⟨_, h, _⟩
                  · omega
                  · rw [h3] at this
                    exact ⟨this.pop.1, this.pop.2.1, .inl ⟨h1, this.pop.2.2.2⟩⟩
                  · omega
                  · rw [h3] at this
                    exact ⟨this.steal.1, this.steal.2.1, .inr ⟨h1, this.steal.2.2⟩⟩
                  · omega
                have hst0 : 0 ≤ st := OL4.out.2.2.2.1
                have rk5 := P5.out.rk
                rw [List.length_map, hl3] at rk5
                have hkd : (acts'.map kdv)[at']? = some (.int .i64 (a.kind : Int)) := by rw [List.getElem?_map, HA.out]; rfl
                clear c4
                go_wp2_with (first | (at_lookup; refine wpList_ilook _ rfl _ _ rfl bl _ g rfl P5.out.im r.val rfl (wf64 (by omega) (by omega)) ?_) | (at_mapUpdate; refine wpList_iput _ rfl _ _ _ rfl bl _ g rfl P5.out.im (by unfold maxLen; omega) r.val 0 rfl rfl (wf64 (by omega) (by omega)) (wf64 (by omega) (by omega)) ?_))
                intro y6 im6 hg6
                have P6 := Lib.hid (P5.out.put im6 hg6)
                have O6 := Lib.hid (O5.out.grown hg6 (fun k hk => .inl (by cases hk; exact hBbl.out)))
                have rk6 := P6.out.rk
                rw [List.length_map, hl3] at rk6
                have ck6 := (own_at rk6 hkd).1
                clear im6 hg6 rk6 rk5 hkd
                rcases hks with ⟨hk1, hol⟩ | ⟨hk1, hol⟩
                · have hk1' : ((a.kind : Nat) : Int) = 1 := by omega
                  have HOL := Lib.hid hol
                  clear hol
                  go_wp2_with fail
                  go_roundw
                  case rel => exact HE.out _ true _ st P6.out (by simp [e1, hw2]) HOL.out O6.out
                  case measure => simp [intOf]; omega
                · have hk1' : ((a.kind : Nat) : Int) = 2 := by omega
                  have HOL := Lib.hid hol
                  clear hol
                  go_wp2_with fail
                  go_roundw
                  case rel => exact HE.out _ true _ r.val P6.out (by simp [e1, hw2]) HOL.out O6.out
                  case measure => simp [intOf]; omega
              · have hw : ¬ ((r.what : Nat) : Int) = 2 := by omega
                have hw0 : (((r.what : Nat) : Int) != 0) = true := bne_iff_ne.2 (by omega)
                have HW0 := Lib.hid (show r.what ≠ 0 by omega)
                have hL4 : L4 = L := by
                  rcases c4 with ⟨_, _, _, h⟩ | ⟨_, h, _⟩ | ⟨_, _, _, h, h'⟩ | ⟨_, h, _⟩ | ⟨_, _, _, h⟩
                  · exact h
                  · omega
                  · rw [h, h']
                  · omega
                  · exact h
                clear c4
                go_wp2_with fail
                go_roundw
                case rel => exact HE.out _ true g st ((P4.out.setO HXL.out HGO (.bool true)).more (X' := 40 * i + k + 1) (by omega)) (by simp [e1, HW0.out]) (by rw [hL4]; exact OL4.out) (O4.out.setCell (p := ⟨go, at', none⟩) (.inl (own_ge P4.out.ro rfl)) _)
                case measure => simp [intOf]; omega
            · rw [show flv a = .bool true by simp [flv, h0]] at cop3
              go_wp2_with fail
              exact ⟨hfin.out, by simp [intOf]; omega⟩
          · go_wp2_with fail
            exact ⟨hfin.out, by simp [intOf]; omega⟩
      · go_wp2_with fail
        rw [HY.out]
        exact ⟨⟨i + 1, P, st, n, v, C, ps, acts, on, L, g, by omega, by go_num, rfl, rfl, by push_cast; omega, S2.out.drop.more (by omega), by omega, O2.out⟩, by simp [intOf]; omega⟩
    · obtain rfl : i = ss.length := by omega
      have hai' : acts.length ≤ 200 := by omega
      have hP2 : P ≤ 200 := by omega
      have HLA := Lib.hid (show (ps.map ptrv).length = acts.length by rw [List.length_map]; exact S1.out.lens)
      obtain ⟨Aa, ca, hva⟩ := own_slice S1.out.p.ra
      rw [HLA.out] at hva
      subst hva
      have HPL := Lib.hid S1.out.pl
      have S1' := Lib.hid (S1.out.more (X' := 8000) (by omega))
      have HN1 := Lib.hid (show n ≤ 8000 + 5000 * ((0 : Nat) : Int) by have := S1'.out.hn; push_cast at this ⊢; omega)
      clear S1 HSC hPi hai h3
      go_wp2_with fail
      go_loopw [29] (fun jv y => ∃ (j : Nat) (st n : Int) (v : Value) (C : List Int) (acts' : List PAct) (L : List Int) (g : Int → Int), j ≤ acts.length ∧ jv = .int .i64 j ∧ OnceP y [] B B d bl (8000 + j) (.slice Aa acts.length ca) u9 u10 (ps.map ptrv) (acts.map flv) (acts.map kdv) n v C ps acts' on g ∧ Mach (0 : Nat) C acts' on L P 10000 ∧ n ≤ 8000 + 5000 * (j : Int) ∧ OnceL L P st g ∧ acts'.length = acts.length ∧ (∀ (j' : Nat) a, j' < j → acts'[j']? = some a → a.told ≠ 0) ∧ (∀ j' : Nat, j ≤ j' → acts'[j']? = acts[j']?) ∧ Only (fun x => B ≤ x) w y) (fun j _ => acts.length - (intOf j).toNat)
      case atStart => exact ⟨0, st, n, v, C, acts, L, g, by omega, rfl, S1'.out.p, S1'.out.mm, HN1.out, S1'.out.ol, rfl, fun _ _ h => absurd h (Nat.not_lt_zero _), fun _ _ => rfl, O1.out⟩
      case round =>
        obtain ⟨y2, rfl⟩ : ∃ yr, yr = wr := ⟨_, rfl⟩
        obtain ⟨j, st, n, v, C, acts', L, g, hj, rfl, p3, m3, hn3, ol3, hl3, hb3, ha3, o3⟩ := hrel
        have P3 := Lib.hid p3
        have M3 := Lib.hid m3
        have OL3 := Lib.hid ol3
        have HB3 := Lib.hid hb3
        have HA3 := Lib.hid ha3
        have O3 := Lib.hid o3
        have HL3 := Lib.hid hl3
        clear p3 m3 ol3 hb3 ha3 o3 hl3
        by_cases hjl : j < acts.length
        · obtain ⟨ga, ca', hva⟩ := own_some P3.out.ra (by rw [HLA.out]; omega)
          rw [HLA.out] at hva
          cases hva
          obtain ⟨go, co, hvo⟩ := own_some P3.out.ro (by rw [List.length_map]; omega)
          rw [List.length_map] at hvo
          subst hvo
          obtain ⟨a, ha⟩ : ∃ a, acts[j]? = some a := ⟨_, List.getElem?_eq_getElem hjl⟩
          have ha' : acts'[j]? = some a := by rw [HA3.out j (Nat.le_refl _)]; exact ha
          obtain ⟨p, hp⟩ : ∃ p, ps[j]? = some p := ⟨_, List.getElem?_eq_getElem (by have := HLA.out; rw [List.length_map] at this; omega)⟩
          have ro3 := P3.out.ro
          rw [List.length_map] at ro3
          have ra3 := P3.out.ra
          rw [HLA.out] at ra3
          obtain ⟨c6, f6⟩ := own_at ro3 (j := j) (u := flv a) (by rw [List.getElem?_map, ha]; rfl)
          obtain ⟨c7, f7⟩ := own_at ra3 (j := j) (u := ptrv p) (by rw [List.getElem?_map, hp]; rfl)
          unfold ptrv at c7
          have HA := Lib.hid ha'
          have HP := Lib.hid hp
          have HJ := Lib.hid hjl
          clear ha ha' hp ro3 ra3 f6 f7
          by_cases h0 : a.told = 0
          · rw [show flv a = .bool false by simp [flv, h0]] at c6
            have hk2 : a.kind ≤ 2 := by obtain ⟨_, _, hA⟩ := P3.out.mw.act j a HA.out; exact hA.k2
            have hjj := hjl
            go_wp2_with fail
            refine (whole_with (fun _ _ => True) B B d 0 p j n v C ps acts' on L P 10000 a y2 P3.out.mw M3.out (by omega) (by omega) (by omega) (by omega) HA.out HP.out h0 hk2 trivial (fun _ _ _ _ _ _ => trivial)).mono ?_
            rintro e y3 ⟨what, val, rfl, _, o4, f4, v4, n4, C4, a4, L4, hn4, w4, m4, he4, ht4, hk4⟩
            have P4 := Lib.hid (P3.out.turn f4 w4 (ok_of m4 (k := (ps.map ptrv).length) (by have h1 := P3.out.ok; rw [HLA.out]; exact HPL.out)))
            have O4 := Lib.hid (O3.out.trans o4)
            have M4 := Lib.hid m4
            have HT4 := Lib.hid ht4
            clear o4 f4 w4 m4 ht4 c6 c7
            have hend : ∀ (yE : World) (g' : Int → Int) (st' : Int), OnceP yE [] B B d bl (8000 + (j + 1)) (.slice (some ⟨ga, 0, none⟩) acts.length ca) (.slice (some ⟨go, 0, none⟩) acts.length co) u10 (ps.map ptrv) (acts.map flv) (acts.map kdv) n4 v4 C4 ps (acts'.set j a4) on g' → OnceL L4 P st' g' → Only (fun x => B ≤ x) w yE →
                ∃ (j_1 : Nat) (st_1 n_1 : Int) (v_1 : Value) (C_1 : List Int) (acts'_1 : List PAct) (L_1 : List Int) (g_1 : Int → Int), j_1 ≤ acts.length ∧ Value.int .i64 ((j : Int) + 1) = .int .i64 j_1 ∧ OnceP yE [] B B d bl (8000 + j_1) (.slice (some ⟨ga, 0, none⟩) acts.length ca) (.slice (some ⟨go, 0, none⟩) acts.length co) u10 (ps.map ptrv) (acts.map flv) (acts.map kdv) n_1 v_1 C_1 ps acts'_1 on g_1 ∧ Mach (0 : Nat) C_1 acts'_1 on L_1 P 10000 ∧ n_1 ≤ 8000 + 5000 * (j_1 : Int) ∧ OnceL L_1 P st_1 g_1 ∧ acts'_1.length = acts.length ∧ (∀ (j' : Nat) a, j' < j_1 → acts'_1[j']? = some a → a.told ≠ 0) ∧ (∀ j' : Nat, j_1 ≤ j' → acts'_1[j']? = acts[j']?) ∧ Only (fun x => B ≤ x) w yE :=
              fun yE g' st' pE olE oE => ⟨j + 1, st', n4, v4, C4, acts'.set j a4, L4, g', by omega, by go_num, pE, M4.out, by push_cast; omega, olE, by rw [List.length_set]; exact HL3.out, fun j' a hj' hA => by
                by_cases e : j' = j
                · subst e
                  rw [getElem?_set_same HA.out] at hA
                  cases hA
                  exact HT4.out
                · rw [getElem?_set_other e] at hA
                  exact HB3.out j' a (by omega) hA, fun j' hj' => by rw [getElem?_set_other (by omega)]; exact HA3.out j' (by omega), oE⟩
            have HE := Lib.hid hend
            have hst0 : 0 ≤ st := OL3.out.2.2.2.1
            clear hend hk4
            by_cases hw2 : what = 2
            · have hw : ((what : Nat) : Int) = 2 := by omega
              obtain ⟨hgv, hvs, st', hol⟩ : g val = 1 ∧ (st < val ∧ val ≤ P) ∧ ∃ st', OnceL L4 P st' (updI g val 0) := by
                have := OL3.out
                rcases he4 with ⟨_, h, _⟩ | ⟨h1, h2, h3⟩ | ⟨_, h, _⟩ | ⟨h1, h2, h3⟩ | ⟨_, h, _⟩
                · omega
                · rw [h3] at this
                  exact ⟨this.pop.1, this.pop.2.1, _, this.pop.2.2.2⟩
                · omega
                · rw [h3] at this
                  exact ⟨this.steal.1, this.steal.2.1, _, this.steal.2.2⟩
                · omega
              have HOL := Lib.hid hol
              clear he4 hol
              go_wp2_with (first | (at_lookup; refine wpList_ilook _ rfl _ _ rfl bl _ g rfl P4.out.im val rfl (wf64 (by omega) (by omega)) ?_) | (at_mapUpdate; refine wpList_iput _ rfl _ _ _ rfl bl _ g rfl P4.out.im (by unfold maxLen; omega) val 0 rfl rfl (wf64 (by omega) (by omega)) (wf64 (by omega) (by omega)) ?_))
              intro y6 im6 hg6
              have P6 := Lib.hid (P4.out.put im6 hg6)
              have O6 := Lib.hid (O4.out.grown hg6 (fun k hk => .inl (by cases hk; exact hBbl.out)))
              clear im6 hg6
              go_wp2_with fail
              go_roundw
              case rel => exact HE.out _ _ _ P6.out HOL.out O6.out
              case measure => have := HJ.out; simp [intOf]; omega
            · have hw : ¬ ((what : Nat) : Int) = 2 := by omega
              have hL4 : L4 = L := by
                rcases he4 with ⟨_, _, _, h⟩ | ⟨_, h, _⟩ | ⟨_, _, _, h, h'⟩ | ⟨_, h, _⟩ | ⟨_, _, _, h⟩
                · exact h
                · omega
                · rw [h, h']
                · omega
                · exact h
              clear he4
              go_wp2_with fail
              go_roundw
              case rel => exact HE.out _ g st (P4.out.more (by omega)) (by rw [hL4]; exact OL3.out) O4.out
              case measure => have := HJ.out; simp [intOf]; omega
          · rw [show flv a = .bool true by simp [flv, h0]] at c6
            have hjj := hjl
            go_wp2_with fail
            go_roundw
            case rel =>
              refine ⟨j + 1, st, n, v, C, acts', L, g, by omega, by go_num, P3.out.more (by omega), M3.out, by push_cast; omega, OL3.out, HL3.out, fun j' a' hj' hA => ?_, fun j' hj' => HA3.out j' (by omega), O3.out⟩
              by_cases e : j' = j
              · subst e
                rw [HA.out] at hA
                cases hA
                exact h0
              · exact HB3.out j' a' (by omega) hA
            case measure => have := HJ.out; simp [intOf]; omega
        · obtain rfl : j = acts.length := by omega
          have hall : ∀ (j : Nat) b, acts'[j]? = some b → b.told ≠ 0 := fun j b hb => HB3.out j b (by have := (List.getElem?_eq_some_iff.1 hb).1; have := HL3.out; omega) hb
          have hX : n ≤ 1008000 + 5000 * ((0 : Nat) : Int) := by omega
          have SO := Lib.hid (show SoloS y2 B B d L P 10000 (1008000 + 5000 * ((0 : Nat) : Int)) from ⟨n, v, C, ps, acts', on, P3.out.mw, M3.out, hall, hX⟩)
          have IM := Lib.hid (P3.out.im.more (κ' := 8200 + 0) (by omega))
          have hLl := OL3.out.len
          clear hall hX P3 M3 HB3 HA3
          go_wp2_with fail
          go_loopw [33] (fun bv y => ∃ (k : Nat) (bf st : Int) (L : List Int) (g : Int → Int), bv = .int .i64 bf ∧ 1 ≤ bf ∧ bf ≤ 1000 ∧ SoloS y B B d L P 10000 (1008000 + 5000 * (k : Int)) ∧ IMap y bl (8200 + k) g ∧ OnceL L P st g ∧ (∀ x ∈ L, x < bf) ∧ k + L.length ≤ 200 ∧ Only (fun x => B ≤ x) w y) (fun b _ => (intOf b).toNat)
          case atStart => exact ⟨0, P + 1, st, L, g, rfl, by omega, by omega, SO.out, IM.out, OL3.out, fun x hx => by have := (OL3.out.2.1 x hx).2; omega, by omega, O3.out⟩
          case round =>
            obtain ⟨y3, rfl⟩ : ∃ yr, yr = wr := ⟨_, rfl⟩
            obtain ⟨k, bf, st, L, g, rfl, hb1, hb2, s4, im4, ol4, hbf, hk4, o4⟩ := hrel
            have S4 := Lib.hid s4
            have IM4 := Lib.hid im4
            have OL4 := Lib.hid ol4
            have O4 := Lib.hid o4
            have HBF := Lib.hid hbf
            clear s4 im4 ol4 o4 hbf
            go_wp2_with fail
            refine (solo_pop S4.out).mono ?_
            rintro e y4 ⟨p, rfl, s5, o5, f5⟩
            have S5 := Lib.hid s5
            have O5 := Lib.hid (O4.out.trans o5)
            have F5 := Lib.hid f5
            clear s5 o5 f5
            go_wp2_with fail
            refine (solo_whole S5.out (by omega) (by omega) (by omega) (by omega)).mono ?_
            rintro e y5 ⟨what, val, L', rfl, he, _, s6, o6, f6⟩
            have S6 := Lib.hid s6
            have O6 := Lib.hid (O5.out.trans o6)
            have IM6 := Lib.hid (IM4.out.far (F5.out.trans f6))
            clear s6 o6 f6
            rcases he with ⟨e, _⟩ | ⟨_, rfl, rfl⟩ | ⟨_, rfl, rfl, rfl, rfl⟩ | ⟨e, _⟩ | ⟨e, _⟩
            · omega
            · obtain ⟨hgv, hvs, hvL, hol⟩ := OL4.out.pop
              have hst0 : 0 ≤ st := OL4.out.2.2.2.1
              have hvb : val < bf := HBF.out val (by simp)
              have hk5 : k + L'.length + 1 ≤ 200 := by simpa [Nat.add_assoc] using hk4
              have HVL := Lib.hid hvL
              have HOL := Lib.hid hol
              have hvn : ¬ bf ≤ val := by omega
              clear hvL hol
              go_wp2_with (first | (at_lookup; refine wpList_ilook _ rfl _ _ rfl bl _ g rfl IM6.out val rfl (wf64 (by omega) (by omega)) ?_) | (at_mapUpdate; refine wpList_iput _ rfl _ _ _ rfl bl _ g rfl IM6.out (by unfold maxLen; omega) val 0 rfl rfl (wf64 (by omega) (by omega)) (wf64 (by omega) (by omega)) ?_))
              intro y6 im6 hg6
              have S7 := Lib.hid (S6.out.put_ im6 hg6 IM6.out)
              have O7 := Lib.hid (O6.out.grown hg6 (fun k hk => .inl (by cases hk; exact hBbl.out)))
              have IM7 := Lib.hid im6
              clear im6 hg6
              go_wp2_with fail
              go_roundw
              case rel => exact ⟨k + 1, val, st, L', _, rfl, by omega, by omega, SoloS.more S7.out (by push_cast; omega), IM7.out, HOL.out, HVL.out, by omega, O7.out⟩
              case measure => simp [intOf]; omega
            · have hg0 : ∀ x, g x = 0 := fun x => by rw [OL4.out.2.2.1 x]; simp
              have IM7 := Lib.hid IM6.out
              go_wp2_with fail
              go_loopw [39] (fun xv y => ∃ x : Int, xv = .int .i64 x ∧ 1 ≤ x ∧ x ≤ P + 1 ∧ y = y5) (fun x _ => (P + 1 - intOf x).toNat)
              case atStart => exact ⟨1, rfl, by omega, by omega, by first | trivial | rfl⟩
              case round =>
                obtain ⟨x, rfl, hx1, hx2, rfl⟩ := hrel
                by_cases hxP : x ≤ P
                · have hgx := hg0 x
                  have hx3 := hx2
                  clear hg0
                  go_wp2_with (at_lookup; refine wpList_ilook _ rfl _ _ rfl bl _ g rfl IM7.out x rfl (wf64 (by omega) (by omega)) ?_)
                  go_roundw
                  case rel => exact ⟨x + 1, rfl, by omega, by omega, by first | trivial | rfl⟩
                  case measure => simp [intOf]; omega
                · have SZ := Lib.hid (solo_size S6.out (by omega))
                  clear hg0
                  go_wp2_with fail
                  refine SZ.out.mono ?_
                  rintro e y8 ⟨rfl, s8, o8⟩
                  have O8 := Lib.hid (O6.out.trans (o8.mono (T := fun x => B ≤ x) fun _ h => h.elim))
                  clear s8 o8
                  go_wp2_with fail
                  refine (works_any _).mono ?_
                  rintro e w1 ⟨rfl, hb⟩
                  go_wp2_with fail
                  go_ret
                  exact ⟨rfl, (O8.out.below (fun b hb => by have := HB.out; omega) (Nat.le_refl _)).trans (hb.mono O8.out.size)⟩
            · omega
            · omega
end Go.Proofs.Ytmghlhngdopifaa
