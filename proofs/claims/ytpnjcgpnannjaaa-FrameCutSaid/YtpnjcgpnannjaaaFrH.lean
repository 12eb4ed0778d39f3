/- FrameApart: its walk. -/
import Derived.Test.YtpnjcgpnannjaaaFrP
namespace Go.Proofs.Ytpnjcgpnannjaaa
open Go.RowKit
set_option linter.unusedVariables false
attribute [local simp] frOf dstsOf frGo predsHold allHold Region.binds slotOf seen Is Act.put

theorem textRow_blk {w : World} {g : Nat} {xs : List ByteArray} (h : Blk w g 9 (xs.map Value.string).toArray) : TextRow w (some ⟨g, 0, none⟩) xs :=
  ⟨fun j hj => ⟨g, 0, rfl, h.lt, by
    rw [h.cell]
    simp [hj]⟩⟩
theorem write_one (tag : Nat) (s : ByteArray) (W : World) (g : Nat) (ht : tag < 256) (hs : s.size ≤ 131072) (h : Blk W g 9 #[.string s]) :
    Calls Try.prog 9 #[.int .u8 tag, .slice (some ⟨g, 0, none⟩) 1 1] W fun e w' => e = .returned (.tuple #[.string (fraw tag s), .int .i64 0]) ∧ Below W.heap.size W w' := by
  have hc : cat [s] = s := cat_one s
  have hsm : sum [s] = s.size := by unfold sum; rw [hc]
  have := fwrite_any tag [s] (some ⟨g, 0, none⟩) 1 W ht (textRow_blk (by simpa using h)) (by simp) (by omega) (by omega)
  rw [if_neg (by omega), if_neg (by omega), hc] at this
  exact this
theorem write_three (tag : Nat) (s : ByteArray) (k : Nat) (W : World) (g : Nat) (ht : tag < 256) (hs : s.size ≤ 131072) (hk : k ≤ s.size) (h : Blk W g 9 #[.string (s.extract 0 k), .string ⟨#[]⟩, .string (s.extract k s.size)]) :
    Calls Try.prog 9 #[.int .u8 tag, .slice (some ⟨g, 0, none⟩) 3 3] W fun e w' => e = .returned (.tuple #[.string (fraw tag s), .int .i64 0]) ∧ Below W.heap.size W w' := by
  have hc : cat [s.extract 0 k, ⟨#[]⟩, s.extract k s.size] = s := by
    apply bs_inj
    rw [bs_cat, bs_cut' s k hk]
    simp [bs]
  have hsm : sum [s.extract 0 k, ⟨#[]⟩, s.extract k s.size] = s.size := by unfold sum; rw [hc]
  have := fwrite_any tag [s.extract 0 k, ⟨#[]⟩, s.extract k s.size] (some ⟨g, 0, none⟩) 3 W ht (textRow_blk (by simpa using h)) (by simp) (by omega) (by omega)
  rw [if_neg (by omega), if_neg (by omega), hc] at this
  exact this

set_option maxHeartbeats 6000000 in
set_option maxRecDepth 100000 in
theorem apart_any (ta tb : Nat) (sa sb : ByteArray) (x : Int) (w : World) (hta : ta < 256) (htb : tb < 256) (hsa : sa.size ≤ 9223372036854775807) (hsb : sb.size ≤ 9223372036854775807) (hx0 : 0 ≤ x) (hx1 : x ≤ 65535) :
    Calls Try.prog 7 #[.agg #[.int .u8 ta, .string sa], .agg #[.int .u8 tb, .string sb], .int .u16 x] w fun e w' => e = .returned (.bool true) ∧ Below w.heap.size w w' := by
  by_cases hbig : 1024 < sa.size ∨ 1024 < sb.size
  · rcases hbig with hbig | hbig
    all_goals
      go_enter Try.func7, Try.ntmps7
      go_wp2_with fail
      all_goals
        refine (alive_any4 _).mono ?_
        rintro e w1 ⟨rfl, hb⟩
        go_wp2
        go_ret
        exact ⟨rfl, (((Below.refl _ w).alloc (Nat.le_refl _) _).alloc (by simp) _).trans (Below.mono hb (by simp; omega))⟩
  · obtain ⟨k, hk, hkl⟩ : ∃ k : Nat, x % ((sa.size : Int) + 1) = (k : Int) ∧ k ≤ sa.size := ⟨(x % ((sa.size : Int) + 1)).toNat, by have := Int.emod_nonneg x (show ((sa.size : Int) + 1) ≠ 0 by omega); omega, by have h1 := Int.emod_nonneg x (show ((sa.size : Int) + 1) ≠ 0 by omega); have h2 := Int.emod_lt_of_pos x (show (0 : Int) < (sa.size : Int) + 1 by omega); omega⟩
    have hWa : ∀ W g, Blk W g 9 #[.string sa] → Hid (Calls Try.prog 9 #[.int .u8 ta, .slice (some ⟨g, 0, none⟩) 1 1] W fun e w' => e = .returned (.tuple #[.string (fraw ta sa), .int .i64 0]) ∧ Below W.heap.size W w') := fun W g h => Lib.hid (write_one ta sa W g hta (by omega) h)
    have hWb : ∀ W g, Blk W g 9 #[.string sb] → Hid (Calls Try.prog 9 #[.int .u8 tb, .slice (some ⟨g, 0, none⟩) 1 1] W fun e w' => e = .returned (.tuple #[.string (fraw tb sb), .int .i64 0]) ∧ Below W.heap.size W w') := fun W g h => Lib.hid (write_one tb sb W g htb (by omega) h)
    have hW3 : ∀ W g, Blk W g 9 #[.string (sa.extract 0 k), .string ⟨#[]⟩, .string (sa.extract k sa.size)] → Hid (Calls Try.prog 9 #[.int .u8 ta, .slice (some ⟨g, 0, none⟩) 3 3] W fun e w' => e = .returned (.tuple #[.string (fraw ta sa), .int .i64 0]) ∧ Below W.heap.size W w') := fun W g h => Lib.hid (write_three ta sa k W g hta (by omega) hkl h)
    have hZa : ∀ W, Hid (Calls Try.prog 11 #[.int .i64 (sa.size : Int)] W fun e w' => e = .returned (.int .i64 ((fraw ta sa).size : Int)) ∧ w' = W) := fun W => Lib.hid (by
      have := fsize_any (sa.size : Int) W (by omega) (by omega)
      rw [if_neg (by omega), Int.toNat_natCast, ← fraw_size ta sa (by omega)] at this
      exact this)
    have hZb : ∀ W, Hid (Calls Try.prog 11 #[.int .i64 (sb.size : Int)] W fun e w' => e = .returned (.int .i64 ((fraw tb sb).size : Int)) ∧ w' = W) := fun W => Lib.hid (by
      have := fsize_any (sb.size : Int) W (by omega) (by omega)
      rw [if_neg (by omega), Int.toNat_natCast, ← fraw_size tb sb (by omega)] at this
      exact this)
    have hinj := @fraw_inj ta tb sa sb hta htb (by omega) (by omega)
    have hF1 : (fraw ta sa).size ≤ 1000000 := by rw [fraw_size ta sa (by omega)]; have := vsize_le sa.size; unfold fsize; omega
    have hF2 : (fraw tb sb).size ≤ 1000000 := by rw [fraw_size tb sb (by omega)]; have := vsize_le sb.size; unfold fsize; omega
    have h3 : ((ta : Int) = (tb : Int) ∧ sa.toList = sb.toList ∧ (fraw ta sa).toList = (fraw tb sb).toList) ∨ ((ta : Int) = (tb : Int) ∧ ¬ sa.toList = sb.toList ∧ ¬ (fraw ta sa).toList = (fraw tb sb).toList) ∨ (¬ (ta : Int) = (tb : Int) ∧ ¬ (fraw ta sa).toList = (fraw tb sb).toList) := by
      by_cases h1 : ta = tb
      · by_cases h2 : sa = sb
        · exact .inl ⟨by rw [h1], by rw [h2], by rw [h1, h2]⟩
        · exact .inr (.inl ⟨by rw [h1], fun h => h2 (strs_eq h), fun h => h2 (hinj.1 (strs_eq h)).2⟩)
      · exact .inr (.inr ⟨by omega, fun h => h1 (hinj.1 (strs_eq h)).1⟩)
    have H3 := Lib.hid h3
    clear h3 hinj
    generalize fraw ta sa = F at *
    generalize fraw tb sb = G at *
    have hk0 : (0 : Int) ≤ (k : Int) := by omega
    have hk1 : (k : Int) ≤ (sa.size : Int) := by omega
    go_enter Try.func7, Try.ntmps7
    have k0 := Blk.new ((w.alloc (.cells #[.int .u8 ta, .string sa] 31)).alloc (.cells #[.int .u8 tb, .string sb] 31)) 9 #[.string sa]
    simp only [World.size_alloc] at k0
    have hWa0 := hWa _ _ k0
    clear k0
    go_wp2_with fail
    refine hWa0.out.mono ?_
    rintro e w1 ⟨rfl, hb⟩
    have HB1 := Lib.hid (show Below w.heap.size w w1 from ((((Below.refl _ w).alloc (Nat.le_refl _) _).alloc (by simp) _).alloc (by simp; omega) _).trans (Below.mono hb (by simp; omega)))
    have a1 := Grows.blk hb (((Blk.new w 31 #[.int .u8 ta, .string sa]).alloc (.cells #[.int .u8 tb, .string sb] 31)).alloc (.cells #[.string sa] 9))
    have b1 := Grows.blk hb ((Blk.new (w.alloc (.cells #[.int .u8 ta, .string sa] 31)) 31 #[.int .u8 tb, .string sb]).alloc (.cells #[.string sa] 9))
    rw [World.size_alloc] at b1
    have p0 := a1.cell 0
    have p1 := a1.cell 1
    have q0 := b1.cell 0
    have q1 := b1.cell 1
    have HA1' := Lib.hid a1
    have HB1' := Lib.hid b1
    clear hb a1 b1
    go_wp2_with fail
    refine (hWb _ _ (Blk.new _ _ _)).out.mono ?_
    rintro e w2 ⟨rfl, hb⟩
    have HB2 := Lib.hid (show Below w.heap.size w w2 from (HB1.out.alloc HB1.out.size _).trans (Below.mono hb (HB1.out.alloc HB1.out.size _).size))
    have HA2 := Lib.hid (Grows.blk hb (HA1'.out.alloc (.cells #[.string sb] 9)))
    have HG2 := Lib.hid (Grows.blk hb (HB1'.out.alloc (.cells #[.string sb] 9)))
    clear hb p0 p1 q0 q1
    have p0 := HA2.out.cell 0
    have p1 := HA2.out.cell 1
    have q0 := HG2.out.cell 0
    have q1 := HG2.out.cell 1
    go_wp2_with fail
    have HA0 : Hid (w2.drew.cell? ⟨w.heap.size, 0, none⟩ = some (.int .u8 ta)) := Lib.hid p0
    have HA1 : Hid (w2.drew.cell? ⟨w.heap.size, 1, none⟩ = some (.string sa)) := Lib.hid p1
    have hL : Hid (w.heap.size < w2.drew.heap.size) := Lib.hid HA2.out.lt
    clear p0 p1 q0 q1
    rw [hk]
    clear hk
    refine wp_region_ord (by kernel_rfl) Grows [Is (.pointer (some ⟨w.heap.size, 0, none⟩)), Is (.int .u8 ta), Is (.pointer (some ⟨w.heap.size, 1, none⟩)), Is (.string sa), Is (.int .i64 k), Is (.string (sa.extract 0 k)), Is (.pointer (some ⟨w.heap.size, 1, none⟩)), Is (.string sa), Is (.int .i64 k), Is (.string (sa.extract k sa.size)), IsRow 3 9 #[.string (sa.extract 0 k), .string ⟨#[]⟩, .string (sa.extract k sa.size)], Is (.tuple #[.string F, .int .i64 0]), Is (.tuple #[.string F, .int .i64 0]), Is (.string F), Is (.int .i64 0), Is (.string F), Is (.int .i64 0)] (by kernel_rfl) Grows.refl Grows.trans
      ⟨is_stab _ _, is_stab _ _, is_stab _ _, is_stab _ _, is_stab _ _, is_stab _ _, is_stab _ _, is_stab _ _, is_stab _ _, is_stab _ _, isRow_stab _ _ _, is_stab _ _, is_stab _ _, is_stab _ _, is_stab _ _, is_stab _ _, is_stab _ _, trivial⟩ ⟨?_, ?_, ?_, ?_, ?_, ?_, ?_, ?_, ?_, ?_, ?_, ?_, ?_, ?_, ?_, ?_, ?_, trivial⟩ ?_
    · intro u w1 hR hp K hK
      refine ord_plain rfl ?_
      simp at hp hK ⊢
      go_simp
      exact hK _ _ (Grows.refl _) rfl
    · intro u w1 hR hp K hK
      refine ord_plain rfl ?_
      simp at hp hK ⊢
      have d0 := (Below.cell hR (p := ⟨w.heap.size, 0, none⟩) hL.out).trans HA0.out
      simp only [hp] at hK
      go_simp
      exact hK _ _ (Grows.refl _) rfl
    · intro u w1 hR hp K hK
      refine ord_plain rfl ?_
      simp at hp hK ⊢
      go_simp
      exact hK _ _ (Grows.refl _) rfl
    · intro u w1 hR hp K hK
      refine ord_plain rfl ?_
      simp at hp hK ⊢
      have d1 := (Below.cell hR (p := ⟨w.heap.size, 1, none⟩) hL.out).trans HA1.out
      simp only [hp] at hK
      go_simp
      exact hK _ _ (Grows.refl _) rfl
    · intro u w1 hR hp K hK
      refine ord_plain rfl ?_
      simp at hp hK ⊢
      go_simp
      exact hK _ _ (Grows.refl _) rfl
    · intro u w1 hR hp K hK
      refine ord_plain rfl ?_
      simp at hp hK ⊢
      obtain ⟨hp1, hp2⟩ := hp
      simp only [hp1, hp2] at hK
      go_simp
      exact hK _ _ (Grows.refl _) rfl
    · intro u w1 hR hp K hK
      refine ord_plain rfl ?_
      simp at hp hK ⊢
      go_simp
      exact hK _ _ (Grows.refl _) rfl
    · intro u w1 hR hp K hK
      refine ord_plain rfl ?_
      simp at hp hK ⊢
      have d1 := (Below.cell hR (p := ⟨w.heap.size, 1, none⟩) hL.out).trans HA1.out
      simp only [hp] at hK
      go_simp
      exact hK _ _ (Grows.refl _) rfl
    · intro u w1 hR hp K hK
      refine ord_plain rfl ?_
      simp at hp hK ⊢
      go_simp
      exact hK _ _ (Grows.refl _) rfl
    · intro u w1 hR hp K hK
      refine ord_plain rfl ?_
      simp at hp hK ⊢
      obtain ⟨hp1, hp2⟩ := hp
      simp only [hp1, hp2] at hK
      go_simp
      exact hK _ _ (Grows.refl _) rfl
    · intro u w1 hR hp K hK
      refine ord_plain rfl ?_
      simp at hp hK ⊢
      obtain ⟨hp1, hp2⟩ := hp
      simp only [hp1, hp2] at hK
      go_simp
      exact hK _ _ (Grows.alloc _ _) ⟨_, rfl, Blk.new _ _ _⟩
    · intro u w1 hR hp K hK
      refine ord_plain rfl ?_
      simp at hp hK ⊢
      obtain ⟨hp1, g, hg, hb⟩ := hp
      have hj := hW3 w1 g hb
      simp only [hp1, hg] at hK
      go_simp
      refine hj.out.mono ?_
      rintro e w2 ⟨rfl, hb2⟩
      exact hK _ _ hb2 rfl
    · intro u w1 hR hp K hK
      refine ord_plain rfl ?_
      simp at hp hK ⊢
      simp only [hp] at hK
      go_simp
      exact hK _ _ (Grows.refl _) rfl
    · intro u w1 hR hp K hK
      refine ord_plain rfl ?_
      simp at hp hK ⊢
      simp only [hp] at hK
      go_simp
      exact hK _ _ (Grows.refl _) rfl
    · intro u w1 hR hp K hK
      refine ord_plain rfl ?_
      simp at hp hK ⊢
      simp only [hp] at hK
      go_simp
      exact hK _ _ (Grows.refl _) rfl
    · intro u w1 hR hp K hK
      refine ord_plain rfl ?_
      simp at hp hK ⊢
      simp only [hp] at hK
      go_simp
      exact hK _ _ (Grows.refl _) rfl
    · intro u w1 hR hp K hK
      refine ord_plain rfl ?_
      simp at hp hK ⊢
      simp only [hp] at hK
      go_simp
      exact hK _ _ (Grows.refl _) rfl
    · intro u w3 hR hp
      simp at hp ⊢
      obtain ⟨_, _, _, _, _, _, _, _, _, _, _, _, _, _, _, h12, h13⟩ := hp
      simp only [h12, h13]
      have HB4 := Lib.hid (HB2.out.drew.trans (Below.mono hR HB2.out.drew.size))
      have HA4 := Lib.hid (Grows.blk hR HA2.out.drew)
      have HG4 := Lib.hid (Grows.blk hR HG2.out.drew)
      have p0 := HA4.out.cell 0
      have p1 := HA4.out.cell 1
      have q0 := HG4.out.cell 0
      have q1 := HG4.out.cell 1
      clear hR h12 h13 hWa hWb hW3
      rcases H3.out with ⟨e1, e2, e3⟩ | ⟨e1, e2, e3⟩ | ⟨e1, e3⟩
      · go_wp2_with fail
        refine (hZa _).out.mono ?_
        rintro e w' ⟨rfl, rfl⟩
        go_wp2_with fail
        refine (hZb _).out.mono ?_
        rintro e w' ⟨rfl, rfl⟩
        go_wp2_with fail
        refine (alive_any4 _).mono ?_
        rintro e w5 ⟨rfl, hb⟩
        have HB5 := Lib.hid (HB4.out.trans (Below.mono hb HB4.out.size))
        clear hb
        go_wp2
        go_ret
        exact ⟨rfl, HB5.out⟩
      · have e4 : (F.toList == G.toList) = false := by simpa using e3
        go_wp2_with fail
        refine (hZa _).out.mono ?_
        rintro e w' ⟨rfl, rfl⟩
        go_wp2_with fail
        refine (hZb _).out.mono ?_
        rintro e w' ⟨rfl, rfl⟩
        go_wp2_with fail
        refine (alive_any4 _).mono ?_
        rintro e w5 ⟨rfl, hb⟩
        have HB5 := Lib.hid (HB4.out.trans (Below.mono hb HB4.out.size))
        clear hb
        go_wp2
        go_ret
        exact ⟨rfl, HB5.out⟩
      · have e4 : (F.toList == G.toList) = false := by simpa using e3
        go_wp2_with fail
        refine (hZa _).out.mono ?_
        rintro e w' ⟨rfl, rfl⟩
        go_wp2_with fail
        refine (hZb _).out.mono ?_
        rintro e w' ⟨rfl, rfl⟩
        go_wp2_with fail
        refine (alive_any4 _).mono ?_
        rintro e w5 ⟨rfl, hb⟩
        have HB5 := Lib.hid (HB4.out.trans (Below.mono hb HB4.out.size))
        clear hb
        go_wp2
        go_ret
        exact ⟨rfl, HB5.out⟩
end Go.Proofs.Ytpnjcgpnannjaaa
