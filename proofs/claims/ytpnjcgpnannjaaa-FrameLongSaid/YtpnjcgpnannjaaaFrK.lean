/- FrameLong: its walk. -/
import Derived.Test.YtpnjcgpnannjaaaFrI
import Derived.Laws.BitsAllLaws
namespace Go.Proofs.Ytpnjcgpnannjaaa
open Go.RowKit
set_option linter.unusedVariables false
attribute [local simp] frOf dstsOf frGo predsHold allHold Region.binds slotOf seen Is Act.put

theorem fread_big {tag n : Nat} {R : List Nat} {most : Int} (ht : tag < 256) (hn : n < 18446744073709551616) (hR : ∀ c ∈ R, c < 256) (hm : most < n ∨ 131072 < n) :
    fread (str (heads tag n ++ R)) most = (0, ⟨#[]⟩, 0, 4) := by
  have hh := heads_lt ht hn
  have hL := lt_append hh hR
  have hhl := heads_len tag n
  have hlen : (heads tag n ++ R).length = (heads tag n).length + R.length := by simp
  have hrd : (bs ((str (heads tag n ++ R)).extract 2 (str (heads tag n ++ R)).size)) = Var.enc 9 n ++ R := by
    rw [bs_extract, bs_str _ hL, str_size]
    rw [List.take_of_length_le (by rw [List.length_drop]; omega)]
    simp [heads]
  have h1 : (bs (str (heads tag n ++ R))).getD 0 0 = 1 := by rw [bs_str _ hL]; simp [heads]
  unfold fread
  rw [hrd, Var.read_enc n R hn, str_size, if_neg (by omega), if_neg (fun h => h h1), if_neg (by omega)]
  simp only
  unfold fbody
  rw [if_neg (by omega), if_neg (by omega), if_pos (by omega)]

def zs (n : Nat) : ByteArray := str (List.replicate n 0)
theorem zeros_lt (n : Nat) : ∀ c ∈ List.replicate n 0, c < 256 := by intro c hc; have := List.eq_of_mem_replicate hc; omega
theorem zs_size (n : Nat) : (zs n).size = n := by unfold zs; rw [str_size]; simp
theorem conv_three (a b d : Nat) (W : World) (g : Nat) (h : Blk W g 5 #[.int .u8 (a : Int), .int .u8 (b : Int), .int .u8 (d : Int)]) :
    (convert 44 9 (.slice (some ⟨g, 0, none⟩) 3 3)).run Try.prog W = .ok (.string (str [a, b, d])) W := by
  have := run_convert_bytes_arg (P := Try.prog) W 44 5 Try.underlying44 Try.underlying5 g 0 3 3 [(a : Int), (b : Int), (d : Int)] rfl
    (fun i hi => by
      rw [h.cell]
      match i, hi with
      | 0, _ => rfl
      | 1, _ => rfl
      | 2, _ => rfl) 9 Try.underlying9
  simpa [strOfNums, str] using this
theorem conv_zeros (n : Nat) (W : World) : (convert 44 9 (.slice (some ⟨W.heap.size, 0, none⟩) n n)).run Try.prog (W.alloc (.cells (madeCells (Value.int .u8 0).cells (n * 1)) 5)) = .ok (.string (zs n)) (W.alloc (.cells (madeCells (Value.int .u8 0).cells (n * 1)) 5)) := by
  have hm : (madeCells (Value.int .u8 0).cells (n * 1)).toList = List.replicate n (.int .u8 0) := by
    rw [Nat.mul_one]
    exact toList_madeCells_one _ _
  have hsz : (madeCells (Value.int .u8 0).cells (n * 1)).size = n := by rw [← Array.length_toList, hm]; simp
  have := run_convert_bytes_arg (P := Try.prog) (W.alloc (.cells (madeCells (Value.int .u8 0).cells (n * 1)) 5)) 44 5 Try.underlying44 Try.underlying5 W.heap.size 0 n n ((List.replicate n 0).map (fun c : Nat => (c : Int))) (by simp)
    (fun i hi => by
      rw [Nat.zero_add, (Blk.new W _ _).cell, ← Array.getElem?_toList, hm]
      simp [List.getD, hi]) 9 Try.underlying9
  rw [str_nums] at this
  exact this

set_option maxHeartbeats 6000000 in
set_option maxRecDepth 100000 in
theorem long_any (over : Int) (c : Nat) (w : World) (h1 : -128 ≤ over) (h2 : over ≤ 127) (hc : c < 256) :
    Calls Try.prog 5 #[.int .i8 over, .int .u8 c] w fun e w' => e = .returned (.bool true) ∧ Below w.heap.size w w' := by
  obtain ⟨n, hn⟩ : ∃ n : Nat, (131072 : Int) + over = (n : Int) := ⟨(over + 131072).toNat, by omega⟩
  obtain ⟨i0, hi, hz0, hz1, hz2⟩ := info_parts (show (Try.prog.info? 5).map (fun i => (i.zero, i.size, i.bytes)) = some (some (.int .u8 0), 1, 1) by kernel_rfl)
  have hmk := fun W => run_make_rowN (P := Try.prog) 44 5 i0 (.int .u8 0) Try.underlying44 hi hz0 .i64 .i64 n n (Nat.le_refl _) (by rw [hz2]; omega) (by omega) W
  rw [hz1] at hmk
  have hcv := fun W => conv_zeros n W
  have hzs := zs_size n
  generalize madeCells (Value.int .u8 0).cells (n * 1) = mc at *
  have hnl : 130944 ≤ n := by omega
  have hnu : n ≤ 131199 := by omega
  have hcz : zs n = str (List.replicate n 0) := rfl
  have HCZ := Lib.hid hcz
  clear hcz hi hz0 hz1 hz2
  generalize zs n = z at *
  have hcc : cat [z.extract 0 c, z.extract c n] = z := by
    apply bs_inj
    rw [bs_cat, bs_cut' z c (by omega), hzs]
    simp
  have hcs : sum [z.extract 0 c, z.extract c n] = n := by unfold sum; rw [hcc, hzs]
  have hW : ∀ W g, Blk W g 9 #[.string (z.extract 0 c), .string (z.extract c n)] → Hid (Calls Try.prog 9 #[.int .u8 1, .slice (some ⟨g, 0, none⟩) 2 2] W fun e w' => e = .returned (.tuple #[.string (if 131072 < n then ⟨#[]⟩ else fraw 1 z), .int .i64 (if 131072 < n then 4 else 0)]) ∧ Below W.heap.size W w') := fun W g h => Lib.hid (by
    have := fwrite_any 1 [z.extract 0 c, z.extract c n] (some ⟨g, 0, none⟩) 2 W (by omega) (textRow_blk (by simpa using h)) (by simp) (by omega) (by omega)
    rw [hcc, hcs] at this
    exact this)
  clear hcc hcs
  have hci : (c : Int) ≤ (z.size : Int) := by omega
  have hci0 : (0 : Int) ≤ (c : Int) := by omega
  have hcn : c ≤ n := by omega
  have hwc : IntKind.i64.wrap (c : Int) = (c : Int) := IntWalk.i64_in _ (by omega)
  have and127 : ∀ m : Nat, bits .and .u8 ((m : Int) % 256) 127 = (m : Int) % 128 := fun m => by
    have h := u8_and_nat (m % 256) 127 (by omega) (by omega)
    rw [show m % 256 &&& 127 = m % 128 by rw [show (127 : Nat) = 2 ^ 7 - 1 from rfl, Nat.and_two_pow_sub_one_eq_mod]; omega] at h
    simpa using h
  have or128 : ∀ m : Nat, bits .or .u8 ((m : Int) % 128) 128 = 128 + (m : Int) % 128 := fun m => by
    have h := u8_or_nat (m % 128 % 256) 128 (by omega) (by omega)
    rw [Var.or128 (m % 128), show m % 128 % 256 = m % 128 by omega] at h
    have h2 : ((128 + m % 128 % 128 : Nat) : Int) = 128 + (m : Int) % 128 := by omega
    rw [h2] at h
    simpa using h
  have a1 := and127 n
  have a2 := or128 n
  have a3 := and127 (n / 128)
  have a4 := or128 (n / 128)
  rw [show ((n / 128 : Nat) : Int) = (n : Int) / 128 by omega] at a3 a4
  have a5 : (n : Int) / 16384 % 256 = ((n / 16384 : Nat) : Int) := by omega
  clear and127 or128
  by_cases hov : 0 < over
  · have hW2 : ∀ W g, Blk W g 9 #[.string (z.extract 0 c), .string (z.extract c n)] → Hid (Calls Try.prog 9 #[.int .u8 1, .slice (some ⟨g, 0, none⟩) 2 2] W fun e w' => e = .returned (.tuple #[.string ⟨#[]⟩, .int .i64 4]) ∧ Below W.heap.size W w') := fun W g h => Lib.hid (by
      have := (hW W g h).out
      rw [if_pos (by omega), if_pos (by omega)] at this
      exact this)
    clear hW
    go_enter Try.func5, Try.ntmps5
    go_upto_region 3 with fail
    have HB0 := Lib.hid (show Below w.heap.size w (w.alloc (.cells mc 5)).drew from ((Below.refl _ w).alloc (Nat.le_refl _) _).drew)
    refine wp_region_ord (by kernel_rfl) Grows [Is (.string z), Is (.int .u8 c), Is (.int .i64 c), Is (.string (z.extract 0 c)), Is (.string z), Is (.int .u8 c), Is (.int .i64 c), Is (.string (z.extract c n)), IsRow 2 9 #[.string (z.extract 0 c), .string (z.extract c n)], Is (.tuple #[.string ⟨#[]⟩, .int .i64 4]), Is (.tuple #[.string ⟨#[]⟩, .int .i64 4]), Is (.string ⟨#[]⟩), Is (.int .i64 4), Is (.string ⟨#[]⟩), Is (.int .i64 4)] (by kernel_rfl) Grows.refl Grows.trans
      ⟨is_stab _ _, is_stab _ _, is_stab _ _, is_stab _ _, is_stab _ _, is_stab _ _, is_stab _ _, is_stab _ _, isRow_stab _ _ _, is_stab _ _, is_stab _ _, is_stab _ _, is_stab _ _, is_stab _ _, is_stab _ _, trivial⟩ ⟨?_, ?_, ?_, ?_, ?_, ?_, ?_, ?_, ?_, ?_, ?_, ?_, ?_, ?_, ?_, trivial⟩ ?_
    · intro u w1 hR hp K hK
      refine ord_plain rfl ?_
      simp at hp hK ⊢
      go_simp
      exact hK _ _ (Grows.refl _) rfl
    · intro u w1 hR hp K hK
      refine ord_plain rfl ?_
      simp at hp hK ⊢
      go_simp
      exact hK _ _ (Grows.refl _) rfl
    · intro u w1 hR hp K hK
      refine ord_plain rfl ?_
      simp at hp hK ⊢
      simp only [hp] at hK
      go_simp
      exact hK _ _ (Grows.refl _) rfl
    · intro u w1 hR hp K hK
      refine ord_plain rfl ?_
      simp at hp hK ⊢
      obtain ⟨hp1, hp2⟩ := hp
      simp only [hp1, hp2] at hK
      go_simp
      exact hK _ _ (Grows.refl _) rfl
    · intro u w1 hR hp K hK
      refine ord_plain rfl ?_
      simp at hp hK ⊢
      go_simp
      exact hK _ _ (Grows.refl _) rfl
    · intro u w1 hR hp K hK
      refine ord_plain rfl ?_
      simp at hp hK ⊢
      go_simp
      exact hK _ _ (Grows.refl _) rfl
    · intro u w1 hR hp K hK
      refine ord_plain rfl ?_
      simp at hp hK ⊢
      simp only [hp] at hK
      go_simp
      exact hK _ _ (Grows.refl _) rfl
    · intro u w1 hR hp K hK
      refine ord_plain rfl ?_
      simp at hp hK ⊢
      obtain ⟨hp1, hp2⟩ := hp
      simp only [hp1, hp2] at hK
      go_simp
      exact hK _ _ (Grows.refl _) rfl
    · intro u w1 hR hp K hK
      refine ord_plain rfl ?_
      simp at hp hK ⊢
      obtain ⟨hp1, hp2⟩ := hp
      simp only [hp1, hp2] at hK
      go_simp
      exact hK _ _ (Grows.alloc _ _) ⟨_, rfl, Blk.new _ _ _⟩
    · intro u w1 hR hp K hK
      refine ord_plain rfl ?_
      simp at hp hK ⊢
      obtain ⟨g, hg, hb⟩ := hp
      have hj := hW2 w1 g hb
      simp only [hg] at hK
      go_simp
      refine hj.out.mono ?_
      rintro e w2 ⟨rfl, hb2⟩
      exact hK _ _ hb2 rfl
    · intro u w1 hR hp K hK
      refine ord_plain rfl ?_
      simp at hp hK ⊢
      simp only [hp] at hK
      go_simp
      exact hK _ _ (Grows.refl _) rfl
    · intro u w1 hR hp K hK
      refine ord_plain rfl ?_
      simp at hp hK ⊢
      simp only [hp] at hK
      go_simp
      exact hK _ _ (Grows.refl _) rfl
    · intro u w1 hR hp K hK
      refine ord_plain rfl ?_
      simp at hp hK ⊢
      simp only [hp] at hK
      go_simp
      exact hK _ _ (Grows.refl _) rfl
    · intro u w1 hR hp K hK
      refine ord_plain rfl ?_
      simp at hp hK ⊢
      simp only [hp] at hK
      go_simp
      exact hK _ _ (Grows.refl _) rfl
    · intro u w1 hR hp K hK
      refine ord_plain rfl ?_
      simp at hp hK ⊢
      simp only [hp] at hK
      go_simp
      exact hK _ _ (Grows.refl _) rfl
    · intro u w3 hR hp
      simp at hp ⊢
      obtain ⟨_, _, _, _, _, _, _, _, _, _, _, _, _, h12, h13⟩ := hp
      simp only [h12, h13]
      have HB3 := Lib.hid (HB0.out.trans (Below.mono hR HB0.out.size))
      clear hR h12 h13 hW2 hcv hmk HB0
      have k3 := conv_three (128 + n % 128) (128 + n / 128 % 128) (n / 16384) _ _ (Blk.new w3 5 _)
      simp only [Int.natCast_add, Int.natCast_emod, Int.natCast_ediv, Int.cast_ofNat_Int] at k3
      have hs3 : (str [128 + n % 128, 128 + n / 128 % 128, n / 16384]).size = 3 := str_size _
      have hhd : ⟨#[1, 1]⟩ ++ str [128 + n % 128, 128 + n / 128 % 128, n / 16384] ++ z ++ ⟨#[0, 0, 0, 0]⟩ = str (heads 1 n ++ (List.replicate n 0 ++ [0, 0, 0, 0])) := by
        rw [HCZ.out, show (⟨#[1, 1]⟩ : ByteArray) = str [1, 1] from rfl, show (⟨#[0, 0, 0, 0]⟩ : ByteArray) = str [0, 0, 0, 0] from rfl, str_append, str_append, str_append]
        unfold heads
        rw [Var.enc_big 8 n (by omega), Var.enc_big 7 (n / 128) (by omega), Var.enc_small 7 (n / 128 / 128) (by omega), Nat.div_div_eq_div_mul]
        simp
      have hfr := fread_big (tag := 1) (n := n) (R := List.replicate n 0 ++ [0, 0, 0, 0]) (most := 1048576) (by omega) (by omega) (lt_append (zeros_lt n) (by simp)) (.inr (by omega))
      rw [← hhd] at hfr
      have hRd : ∀ W, Hid (Calls Try.prog 12 #[.string (⟨#[1, 1]⟩ ++ str [128 + n % 128, 128 + n / 128 % 128, n / 16384] ++ z ++ ⟨#[0, 0, 0, 0]⟩), .int .i64 1048576] W fun e w' => e = .returned (.tuple #[.agg #[.int .u8 0, .string ⟨#[]⟩], .int .i64 0, .int .i64 4]) ∧ Below W.heap.size W w') := fun W => Lib.hid (by
        have := fread_any (⟨#[1, 1]⟩ ++ str [128 + n % 128, 128 + n / 128 % 128, n / 16384] ++ z ++ ⟨#[0, 0, 0, 0]⟩) 1048576 W (by rw [ByteArray.size_append, ByteArray.size_append, ByteArray.size_append, hs3, hzs]; simp [ByteArray.size]; omega) (by omega) (by omega)
        unfold FRead at this
        rw [hfr] at this
        exact this)
      have hSz : ∀ W, Hid (Calls Try.prog 11 #[.int .i64 (n : Int)] W fun e w' => e = .returned (.int .i64 0) ∧ w' = W) := fun W => Lib.hid (by
        have := fsize_any (n : Int) W (by omega) (by omega)
        rw [if_pos (.inr (by omega))] at this
        exact this)
      clear hhd hfr
      generalize str [128 + n % 128, 128 + n / 128 % 128, n / 16384] = s3 at *
      go_wp2_with fail
      refine (hRd _).out.mono ?_
      rintro e w4 ⟨rfl, hb⟩
      have HB4 := Lib.hid (show Below w.heap.size w w4 from (HB3.out.alloc HB3.out.size _).trans (Below.mono hb (HB3.out.alloc HB3.out.size _).size))
      clear hb hRd
      go_wp2_with fail
      refine (hSz _).out.mono ?_
      rintro e w' ⟨rfl, rfl⟩
      clear hSz
      go_wp2_with fail
      refine (alive_any4 _).mono ?_
      rintro e w5 ⟨rfl, hb⟩
      have HB5 := Lib.hid (show Below w.heap.size w w5 from (HB4.out.alloc HB4.out.size _).trans (Below.mono hb (HB4.out.alloc HB4.out.size _).size))
      clear hb
      go_wp2
      go_ret
      exact ⟨rfl, HB5.out⟩
  · have hW2 : ∀ W g, Blk W g 9 #[.string (z.extract 0 c), .string (z.extract c n)] → Hid (Calls Try.prog 9 #[.int .u8 1, .slice (some ⟨g, 0, none⟩) 2 2] W fun e w' => e = .returned (.tuple #[.string (fraw 1 z), .int .i64 0]) ∧ Below W.heap.size W w') := fun W g h => Lib.hid (by
      have := (hW W g h).out
      rw [if_neg (by omega), if_neg (by omega)] at this
      exact this)
    clear hW
    have hfst : fraw 1 z = str (frameL 1 (bs z)) := fraw_str 1 z (by omega) (by omega)
    have hbz : (bs z).length = n := by rw [bs_len, hzs]
    have hr1 : fread (fraw 1 z) (n : Int) = (1, z, (fraw 1 z).size, 0) := by
      have := fread_frame (R := []) (most := (n : Int)) (tag := 1) (by omega) (bs_lt z) (by simp) (by rw [hbz]; omega) (by rw [hbz]; omega)
      rw [List.append_nil, ← hfst, str_bs] at this
      rw [this, hfst, str_size]
    have hr2 : fread (fraw 1 z) ((n : Int) - 1) = (0, ⟨#[]⟩, 0, 4) := by
      rw [hfst]
      unfold frameL
      rw [List.append_assoc, hbz]
      exact fread_big (by omega) (by omega) (lt_append (bs_lt z) (sumL_lt (Crc.on_lt (by omega) (lt_append (heads_lt (by omega) (by omega)) (bs_lt z))))) (.inl (by omega))
    have hFs : (fraw 1 z).size ≤ 1000000 := by rw [fraw_size 1 z (by omega)]; have := vsize_le z.size; unfold fsize; omega
    have hR1 : ∀ W, Hid (Calls Try.prog 12 #[.string (fraw 1 z), .int .i64 (n : Int)] W fun e w' => e = .returned (.tuple #[.agg #[.int .u8 ((1 : Nat) : Int), .string z], .int .i64 ((fraw 1 z).size : Int), .int .i64 ((0 : Nat) : Int)]) ∧ Below W.heap.size W w') := fun W => Lib.hid (by
      have := fread_any (fraw 1 z) (n : Int) W (by omega) (by omega) (by omega)
      unfold FRead at this
      rw [hr1] at this
      exact this)
    have hR2 : ∀ W, Hid (Calls Try.prog 12 #[.string (fraw 1 z), .int .i64 ((n : Int) - 1)] W fun e w' => e = .returned (.tuple #[.agg #[.int .u8 0, .string ⟨#[]⟩], .int .i64 0, .int .i64 4]) ∧ Below W.heap.size W w') := fun W => Lib.hid (by
      have := fread_any (fraw 1 z) ((n : Int) - 1) W (by omega) (by omega) (by omega)
      unfold FRead at this
      rw [hr2] at this
      exact this)
    clear hr1 hr2 hfst hbz
    generalize fraw 1 z = F at *
    go_enter Try.func5, Try.ntmps5
    go_upto_region 3 with fail
    have HB0 := Lib.hid (show Below w.heap.size w (w.alloc (.cells mc 5)).drew from ((Below.refl _ w).alloc (Nat.le_refl _) _).drew)
    refine wp_region_ord (by kernel_rfl) Grows [Is (.string z), Is (.int .u8 c), Is (.int .i64 c), Is (.string (z.extract 0 c)), Is (.string z), Is (.int .u8 c), Is (.int .i64 c), Is (.string (z.extract c n)), IsRow 2 9 #[.string (z.extract 0 c), .string (z.extract c n)], Is (.tuple #[.string F, .int .i64 0]), Is (.tuple #[.string F, .int .i64 0]), Is (.string (F)), Is (.int .i64 0), Is (.string (F)), Is (.int .i64 0)] (by kernel_rfl) Grows.refl Grows.trans
      ⟨is_stab _ _, is_stab _ _, is_stab _ _, is_stab _ _, is_stab _ _, is_stab _ _, is_stab _ _, is_stab _ _, isRow_stab _ _ _, is_stab _ _, is_stab _ _, is_stab _ _, is_stab _ _, is_stab _ _, is_stab _ _, trivial⟩ ⟨?_, ?_, ?_, ?_, ?_, ?_, ?_, ?_, ?_, ?_, ?_, ?_, ?_, ?_, ?_, trivial⟩ ?_
    · intro u w1 hR hp K hK
      refine ord_plain rfl ?_
      simp at hp hK ⊢
      go_simp
      exact hK _ _ (Grows.refl _) rfl
    · intro u w1 hR hp K hK
      refine ord_plain rfl ?_
      simp at hp hK ⊢
      go_simp
      exact hK _ _ (Grows.refl _) rfl
    · intro u w1 hR hp K hK
      refine ord_plain rfl ?_
      simp at hp hK ⊢
      simp only [hp] at hK
      go_simp
      exact hK _ _ (Grows.refl _) rfl
    · intro u w1 hR hp K hK
      refine ord_plain rfl ?_
      simp at hp hK ⊢
      obtain ⟨hp1, hp2⟩ := hp
      simp only [hp1, hp2] at hK
      go_simp
      exact hK _ _ (Grows.refl _) rfl
    · intro u w1 hR hp K hK
      refine ord_plain rfl ?_
      simp at hp hK ⊢
      go_simp
      exact hK _ _ (Grows.refl _) rfl
    · intro u w1 hR hp K hK
      refine ord_plain rfl ?_
      simp at hp hK ⊢
      go_simp
      exact hK _ _ (Grows.refl _) rfl
    · intro u w1 hR hp K hK
      refine ord_plain rfl ?_
      simp at hp hK ⊢
      simp only [hp] at hK
      go_simp
      exact hK _ _ (Grows.refl _) rfl
    · intro u w1 hR hp K hK
      refine ord_plain rfl ?_
      simp at hp hK ⊢
      obtain ⟨hp1, hp2⟩ := hp
      simp only [hp1, hp2] at hK
      go_simp
      exact hK _ _ (Grows.refl _) rfl
    · intro u w1 hR hp K hK
      refine ord_plain rfl ?_
      simp at hp hK ⊢
      obtain ⟨hp1, hp2⟩ := hp
      simp only [hp1, hp2] at hK
      go_simp
      exact hK _ _ (Grows.alloc _ _) ⟨_, rfl, Blk.new _ _ _⟩
    · intro u w1 hR hp K hK
      refine ord_plain rfl ?_
      simp at hp hK ⊢
      obtain ⟨g, hg, hb⟩ := hp
      have hj := hW2 w1 g hb
      simp only [hg] at hK
      go_simp
      refine hj.out.mono ?_
      rintro e w2 ⟨rfl, hb2⟩
      exact hK _ _ hb2 rfl
    · intro u w1 hR hp K hK
      refine ord_plain rfl ?_
      simp at hp hK ⊢
      simp only [hp] at hK
      go_simp
      exact hK _ _ (Grows.refl _) rfl
    · intro u w1 hR hp K hK
      refine ord_plain rfl ?_
      simp at hp hK ⊢
      simp only [hp] at hK
      go_simp
      exact hK _ _ (Grows.refl _) rfl
    · intro u w1 hR hp K hK
      refine ord_plain rfl ?_
      simp at hp hK ⊢
      simp only [hp] at hK
      go_simp
      exact hK _ _ (Grows.refl _) rfl
    · intro u w1 hR hp K hK
      refine ord_plain rfl ?_
      simp at hp hK ⊢
      simp only [hp] at hK
      go_simp
      exact hK _ _ (Grows.refl _) rfl
    · intro u w1 hR hp K hK
      refine ord_plain rfl ?_
      simp at hp hK ⊢
      simp only [hp] at hK
      go_simp
      exact hK _ _ (Grows.refl _) rfl
    · intro u w3 hR hp
      simp at hp ⊢
      obtain ⟨_, _, _, _, _, _, _, _, _, _, _, _, _, h12, h13⟩ := hp
      simp only [h12, h13]
      have HB3 := Lib.hid (HB0.out.trans (Below.mono hR HB0.out.size))
      clear hR h12 h13 hW2 hcv hmk HB0
      go_wp2_with fail
      refine (hR1 _).out.mono ?_
      rintro e w4 ⟨rfl, hb⟩
      have HB4 := Lib.hid ((HB3.out.trans (Below.mono hb HB3.out.size)).alloc (Nat.le_trans HB3.out.size hb.size) (.cells #[.int .u8 1, .string z] 31))
      have HF4 := Lib.hid (Blk.new w4 31 #[.int .u8 1, .string z])
      clear hb hR1
      go_wp2_with fail
      refine (hR2 _).out.mono ?_
      rintro e w5 ⟨rfl, hb⟩
      have HB5 := Lib.hid ((HB4.out.trans (Below.mono hb HB4.out.size)).alloc (Nat.le_trans HB4.out.size hb.size) (.cells #[.int .u8 0, .string ⟨#[]⟩] 31))
      have HF5 := Lib.hid ((Grows.blk hb HF4.out).alloc (.cells #[.int .u8 0, .string ⟨#[]⟩] 31))
      have c1 := HF5.out.cell 1
      clear hb hR2
      go_wp2_with fail
      refine (alive_any4 _).mono ?_
      rintro e w6 ⟨rfl, hb⟩
      have HB6 := Lib.hid (HB5.out.trans (Below.mono hb HB5.out.size))
      clear hb
      go_wp2
      go_ret
      exact ⟨rfl, HB6.out⟩
end Go.Proofs.Ytpnjcgpnannjaaa
