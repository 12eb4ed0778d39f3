/- Several texts in one: DkV. -/
import Derived.Test.YthggliknnmhbdaaGreatMWAK
import Derived.Test.YthggliknnmhbdaaGreatMWAO
/- A disk of sectors: what is read, whatever is loose. No conditions beyond what it states. -/
namespace Go.Proofs.YthggliknnmhbdaaGreat
set_option maxRecDepth 100000
open Go.RowKit Go.WideShapes Go.ChangeShapes
set_option linter.unusedVariables false
attribute [local simp] frOf dstsOf frGo predsHold allHold Region.binds slotOf seen Is Act.put
attribute [local go_sem] Oper.semAt_some
/-- the last loose write of a sector is what is read -/
theorem cur_last {n : Nat} {g : List (List UInt8)} (k : Nat) (hk : k < n) : ∀ (l : List (Nat × List UInt8)), SecOk n l g → ∀ (j : Nat) (y : Nat × List UInt8), l[j]? = some y → y.1 = k → (∀ i z, j < i → l[i]? = some z → z.1 ≠ k) → (syncW l g).getD k [] = y.2
  | [], _, j, y, h, _, _ => by simp at h
  | x :: l, hs, j, y, h, hy, hlast => by
    have e : syncW (x :: l) g = syncW l (keepW g x 128) := rfl
    have hx := hs.lo x (by simp)
    have hk' := keepW_all hs hx 128
    have hs' : SecOk n l (keepW g x 128) := ⟨hk'.len, hk'.all, fun w hw => hs.lo w (by simp [hw])⟩
    rw [e]
    cases j with
    | succ j => exact cur_last k hk l hs' j y (by simpa using h) hy (fun i z hi hz => hlast (i + 1) z (by omega) (by simpa using hz))
    | zero =>
      have hxy : x = y := by simpa using h
      subst hxy
      have hn : ∀ (l' : List (Nat × List UInt8)) (g' : List (List UInt8)), SecOk n l' g' → (∀ z ∈ l', z.1 ≠ k) → (syncW l' g').getD k [] = g'.getD k [] := by
        intro l'
        induction l' with
        | nil => intro g' _ _; rfl
        | cons z l' ih =>
          intro g' hg hz
          have hzo := hg.lo z (by simp)
          have hzk := keepW_all hg hzo 128
          have e2 : syncW (z :: l') g' = syncW l' (keepW g' z 128) := rfl
          rw [e2, ih _ ⟨hzk.len, hzk.all, fun w hw => hg.lo w (by simp [hw])⟩ (fun w hw => hz w (by simp [hw]))]
          unfold keepW
          rw [List.getD_eq_getElem?_getD, List.getElem?_set_ne (hz z (by simp)), ← List.getD_eq_getElem?_getD]
      rw [hn l _ hs' (fun z hz => by
        obtain ⟨i, hi, rfl⟩ := List.getElem_of_mem hz
        exact hlast (i + 1) _ (by omega) (by simp [hi]))]
      have hd : (g.getD x.1 []).length = 128 := hs.all _ (getD_mem g x.1 (by rw [hs.len]; exact hx.1))
      have em : (min (128 : Int) 128).toNat = 128 := rfl
      unfold keepW
      rw [em, List.take_of_length_le (by omega), List.drop_eq_nil_of_le (by omega), List.append_nil, List.getD_eq_getElem?_getD, hy, List.getElem?_set_self (by rw [hs.len]; exact hk)]
      rfl
theorem cur_none {n : Nat} (k : Nat) : ∀ (l : List (Nat × List UInt8)) (g : List (List UInt8)), SecOk n l g → (∀ z ∈ l, z.1 ≠ k) → (syncW l g).getD k [] = g.getD k []
  | [], _, _, _ => rfl
  | z :: l, g, hg, hz => by
    have hzo := hg.lo z (by simp)
    have hzk := keepW_all hg hzo 128
    have e2 : syncW (z :: l) g = syncW l (keepW g z 128) := rfl
    rw [e2, cur_none k l _ ⟨hzk.len, hzk.all, fun w hw => hg.lo w (by simp [hw])⟩ (fun w hw => hz w (by simp [hw]))]
    unfold keepW
    rw [List.getD_eq_getElem?_getD, List.getElem?_set_ne (hz z (by simp)), ← List.getD_eq_getElem?_getD]
theorem strOf_cells (w : World) (b : Nat) (t : List UInt8) (ht : t.length = 128) (h : ∀ (i : Nat) v, (t.map byteV)[i]? = some v → w.cell? ⟨b, i, none⟩ = some v) : ∀ dst, Tryz.prog.underlying dst = some .string → (convert 93 dst (.slice (some ⟨b, 0, none⟩) 128 128)).run Tryz.prog w = .ok (.string (sB t)) w := by
  intro dst hd
  have hc := run_convert_bytes_arg (P := Tryz.prog) w 93 5 Tryz.underlying93 Tryz.underlying5 b 0 128 128 (t.map (fun c : UInt8 => (c.toNat : Int))) (by simp [ht]) (fun i hi => by
    rw [Nat.zero_add, h i (.int .u8 ((t.getD i 0).toNat : Int)) (by simp [ht, hi, byteV, List.getD])]
    simp [List.getD, ht, hi]) dst hd
  have e : strOfNums (t.map (fun c : UInt8 => (c.toNat : Int))) = sB t := by
    unfold strOfNums sB
    rw [List.map_map]
    congr 2
    exact (List.map_congr_left (fun c _ => by simp)).trans (List.map_id t)
  rw [e] at hc
  exact hc
theorem only_setCells (b : Nat) : ∀ (vs : List Value) (o : Nat) (W : World), Only (fun k => k = b) W (W.setCells b o vs)
  | [], _, W => Only.refl _ W
  | v :: vs, o, W => ((Only.refl (fun k => k = b) W).setCell (p := ⟨b, o, none⟩) (.inl rfl) v).trans (only_setCells b vs (o + 1) (W.setCell ⟨b, o, none⟩ v))
theorem cur_at {n k : Nat} {l : List (Nat × List UInt8)} {g : List (List UInt8)} (h : SecOk n l g) (hk : k < n) : (∀ (j : Nat) (y : Nat × List UInt8), l[j]? = some y → y.1 = k → (∀ i z, j < i → l[i]? = some z → z.1 ≠ k) → (syncW l g).getD k [] = y.2) ∧ ((∀ z ∈ l, z.1 ≠ k) → (syncW l g).getD k [] = g.getD k []) :=
  ⟨cur_last k hk l h, cur_none k l g h⟩
set_option maxHeartbeats 4000000 in
set_option maxRecDepth 100000 in
theorem read_cur (p gs n : Nat) (S : Dst) (B m k : Nat) (w : World) (D : DkS w p gs n S B m) (hk : k < n) (hst : S.still = false) :
    Calls Tryz.prog 56 #[.pointer (some ⟨p, 0, none⟩), .int .i64 (k : Int)] w fun e w' => e = .returned (.tuple #[.string (sB (S.cur.getD k [])), .int .i64 0]) ∧ Only (fun _ => False) w w' := by
  obtain ⟨g, l, fu⟩ := S
  obtain ⟨⟨h1, h2, h3, h4⟩, A, c, fb, left, D, hl, hr, f1, f2⟩ := D
  have hso := still_off hst f1 f2
  simp only at h4 D
  have hcl := cur_at D.ok hk
  obtain ⟨t, ht⟩ : ∃ t, g[k]? = some t := ⟨_, List.getElem?_eq_getElem (by rw [D.ok.len]; exact hk)⟩
  obtain ⟨R, hR⟩ : ∃ R, R = (Dst.cur ⟨g, l, fu⟩).getD k [] := ⟨_, rfl⟩
  rw [← hR]
  have HRR := Lib.hid hR
  have HCL := Lib.hid hcl
  have HLO := Lib.hid D.ok.lo
  have HOWN := Lib.hid D.own
  have hlB : l.length ≤ 1000000 := by omega
  clear hst f1 f2 hR hcl
  have htl : t.length = 128 := D.ok.all t (List.mem_of_getElem? ht)
  obtain ⟨hzv, hzi⟩ := zero_of_info zeroBr
  obtain ⟨bk, hbk⟩ : ∃ bk, bk = w.heap.size := ⟨_, rfl⟩
  obtain ⟨wa, hwa⟩ : ∃ wa, wa = w.alloc (.cells #[.int .i64 (k : Int)] 3) := ⟨_, rfl⟩
  have oa : Only (fun _ => False) w wa := by rw [hwa]; exact (Only.refl _ w).alloc _
  have ba : Blk wa bk 3 #[.int .i64 (k : Int)] := by rw [hwa, hbk]; exact Blk.new w _ _
  have da : Blk wa p 62 #[.slice (some ⟨gs, 0, none⟩) n n, .slice A l.length c, .bool fb, .int .i64 left] := oa.blk D.blk (fun h => h)
  have sa : Blk wa gs 65 (secL g).toArray := oa.blk D.sec (fun h => h)
  have HA := Lib.hid oa
  have HBK := Lib.hid ba
  have HDA := Lib.hid da
  have HSA := Lib.hid sa
  have HALL := Lib.hid D.ok
  have HT := Lib.hid ht
  have HTL := Lib.hid htl
  have HSO := Lib.hid hso
  have HOA := Lib.hid (oa.owns D.own (fun _ _ h => h))
  clear D oa ba da sa ht htl hso HOWN
  refine (callsIn_wide (n := 3)).1 ?_
  refine callsIn_of_wp_marks Tryz.func56 rfl trivial ?_ rfl
  simp only [Tryz.ntmps56, List.size_toArray, List.length_cons, List.length_nil, Nat.reduceAdd, Nat.reduceSub, Array.replicate_succ, Array.replicate_zero, List.push_toArray, List.append_toArray, List.nil_append, List.cons_append]
  refine wpIn_wide.2 ?_
  go_wp2_with fail
  rw [← hwa, ← hbk]
  have HWA := Lib.hid hwa
  have HKB := Lib.hid hbk
  clear hwa hbk
  refine (none_any _ _ _ _ _ _ _ _ HDA.out).mono ?_
  rintro e w1 ⟨rfl, rfl⟩
  go_wp2_with fail
  refine (still_any _ _ _ _ _ _ HDA.out).mono ?_
  rintro e w1 ⟨rfl, rfl⟩
  rw [HSO.out]
  obtain ⟨W2, hW2⟩ : ∃ W2, W2 = wa.drew := ⟨_, rfl⟩
  have q0 : Hid (W2.cell? ⟨bk, 0, none⟩ = some (.int .i64 (k : Int))) := Lib.hid (by rw [hW2]; exact HBK.out.cell 0)
  have q1 : Hid (W2.cell? ⟨p, 0, none⟩ = some (.slice (some ⟨gs, 0, none⟩) n n)) := Lib.hid (by rw [hW2]; exact HDA.out.cell 0)
  have HW2 := Lib.hid hW2
  clear hW2
  have hk0 : ¬ (k : Int) < 0 := by omega
  have hkn : (k : Int) < (n : Int) := by omega
  have hkn' : ¬ (k : Int) ≥ (n : Int) := by omega
  go_wp2_with fail
  refine wp_region_st (by kernel_rfl) (St5 W2) [Is (.int .i64 (k : Int)), Is (.bool false), Is (.bool false), Is (.int .i64 (k : Int)), Is (.pointer (some ⟨p, 0, none⟩)), Is (.pointer (some ⟨p, 0, none⟩)), Is (.pointer (some ⟨p, 0, none⟩)), Is (.slice (some ⟨gs, 0, none⟩) n n), Is (.int .i64 (n : Int)), Is (.bool false), Is (.bool false), Is (.bool false)] (by kernel_rfl)
    ⟨is_stab _ _, is_stab _ _, is_stab _ _, is_stab _ _, is_stab _ _, is_stab _ _, is_stab _ _, is_stab _ _, is_stab _ _, is_stab _ _, is_stab _ _, is_stab _ _, trivial⟩ (HW2.out.symm) ⟨?_, ?_, ?_, ?_, ?_, ?_, ?_, ?_, ?_, ?_, ?_, ?_, trivial⟩ ?_
  · intro ld u w1 hi he hS hp K hK
    refine ord_plain rfl ?_
    simp at hp hK ⊢
    have hc : w1.cell? ⟨bk, 0, none⟩ = some (.int .i64 (k : Int)) := by rw [show w1 = W2 from hS]; exact q0.out
    go_simp
    exact hK _ _ hS rfl
  · intro ld u w1 hi he hS hp K hK
    refine ord_plain rfl ?_
    simp at hp hK ⊢
    simp only [hp] at hK
    go_simp
    exact hK _ _ hS rfl
  · intro ld u w1 hi he hS hp K hK
    refine ord_plain rfl ?_
    simp at hp hK ⊢
    simp only [hp] at hK
    go_simp
    exact hK _ _ hS rfl
  · intro ld u w1 hi he hS hp K hK
    simp at hp hK
    refine ord_guard rfl (by simp [yielded, hp]) ?_
    simp only [hp] at hK
    have hc : w1.cell? ⟨bk, 0, none⟩ = some (.int .i64 (k : Int)) := by rw [show w1 = W2 from hS]; exact q0.out
    go_simp
    exact hK _ _ hS rfl
  · intro ld u w1 hi he hS hp K hK
    simp at hp hK
    refine ord_guard rfl (by simp [yielded, hp]) ?_
    simp only [hp] at hK
    go_simp
    exact hK _ _ hS rfl
  · intro ld u w1 hi he hS hp K hK
    simp at hp hK
    refine ord_guard rfl (by simp [yielded, hp]) ?_
    obtain ⟨hp1, hp2⟩ := hp
    simp only [hp1, hp2] at hK
    go_simp
    exact hK _ _ hS rfl
  · intro ld u w1 hi he hS hp K hK
    simp at hp hK
    refine ord_guard rfl (by simp [yielded, hp]) ?_
    obtain ⟨hp1, hp2⟩ := hp
    simp only [hp1, hp2] at hK
    go_simp
    exact hK _ _ hS rfl
  · intro ld u w1 hi he hS hp K hK
    simp at hp hK
    refine ord_guard rfl (by simp [yielded, hp]) ?_
    obtain ⟨hp1, hp2⟩ := hp
    simp only [hp1, hp2] at hK
    have hc : w1.cell? ⟨p, 0, none⟩ = some (.slice (some ⟨gs, 0, none⟩) n n) := by rw [show w1 = W2 from hS]; exact q1.out
    go_simp
    exact hK _ _ hS rfl
  · intro ld u w1 hi he hS hp K hK
    simp at hp hK
    refine ord_guard rfl (by simp [yielded, hp]) ?_
    obtain ⟨hp1, hp2⟩ := hp
    simp only [hp1, hp2] at hK
    go_simp
    exact hK _ _ hS rfl
  · intro ld u w1 hi he hS hp K hK
    simp at hp hK
    refine ord_guard rfl (by simp [yielded, hp]) ?_
    obtain ⟨hp1, hp2, hp3⟩ := hp
    simp only [hp1, hp2, hp3] at hK
    go_simp
    exact hK _ _ hS (by simp; omega)
  · intro ld u w1 hi he hS hp K hK
    refine ord_plain rfl ?_
    simp at hp hK ⊢
    obtain ⟨hp1, hp2⟩ := hp
    simp only [hp1, hp2] at hK
    go_simp
    exact hK _ _ hS rfl
  · intro ld u w1 hi he hS hp K hK
    refine ord_plain rfl ?_
    simp at hp hK ⊢
    obtain ⟨hp1, hp2⟩ := hp
    simp only [hp1, hp2] at hK
    go_simp
    exact hK _ _ hS rfl
  · intro u w1 ld hld hS hp
    simp at hp ⊢
    obtain ⟨g0, g1, g2, g3, g4, g5, g6, g7, g8, g9, g10, g11⟩ := hp
    simp only [g0, g1, g2, g3, g4, g5, g6, g7, g8, g9, g10, g11]
    clear g0 g1 g2 g3 g4 g5 g6 g7 g8 g9 g10 g11
    have hS3 : W2 = w1 := Eq.symm hS
    subst hS3
    clear hld
    go_wp2_with fail
    obtain ⟨W3, hW3⟩ : ∃ W3, W3 = W2.drew := ⟨_, rfl⟩
    have o3 : Only (fun _ => False) wa W3 := by rw [hW3, HW2.out]; exact (Only.refl _ wa).drew.drew
    have bs3 : Blk W3 gs 65 (secL g).toArray := o3.blk HSA.out (fun h => h)
    have q2 : Hid (W3.cell? ⟨bk, 0, none⟩ = some (.int .i64 (k : Int))) := Lib.hid ((o3.blk HBK.out (fun h => h)).cell 0)
    have q3 : Hid (W3.cell? ⟨p, 0, none⟩ = some (.slice (some ⟨gs, 0, none⟩) n n)) := Lib.hid ((o3.blk HDA.out (fun h => h)).cell 0)
    have hld : ∀ y, Only (fun _ => False) W3 y → (Instr.loadAt 65 (.pointer (some ⟨gs, k * 128, none⟩))).run Tryz.prog y = .ok (.agg (t.map byteV).toArray) y := fun y hy =>
      run_loadAt_mid y gs (k * 128) 65 (t.map byteV) _ (sec_range (hy.blk bs3 (fun h => h)) HALL.out.all HT.out) Tryz.underlying65 rfl (by rw [List.length_map, HTL.out]; exact (show (Tryz.prog.info? 65).map (·.size) = some 128 by kernel_rfl))
    have hst := run_storeAt_new (P := Tryz.prog) W3 65 zeroB.cells (t.map byteV).toArray (by simp only [List.size_toArray, List.length_map, HTL.out]; exact hzi) (by simp only [List.size_toArray, List.length_map, HTL.out]; exact zeroB_size) (all_oneCell_toArray (byteV_one t))
    obtain ⟨W4, hW4⟩ : ∃ W4, W4 = W3.alloc (.cells zeroB.cells 65) := ⟨_, rfl⟩
    obtain ⟨W5, hW5⟩ : ∃ W5, W5 = W3.alloc (.cells (t.map byteV).toArray 65) := ⟨_, rfl⟩
    rw [← hW4, ← hW5] at hst
    have O4 : Hid (Only (fun _ => False) W3 W4) := Lib.hid (by rw [hW4]; exact (Only.refl _ W3).alloc _)
    have O5 : Hid (Only (fun _ => False) W3 W5) := Lib.hid (by rw [hW5]; exact (Only.refl _ W3).alloc _)
    have HLTp : Hid (p < W3.heap.size) := Lib.hid (by have := HDA.out.lt; have := o3.size; omega)
    have HLTbk : Hid (bk < W3.heap.size) := Lib.hid (by have := HBK.out.lt; have := o3.size; omega)
    have HBS : Hid (Blk W5 W3.heap.size 65 (t.map byteV).toArray) := Lib.hid (by rw [hW5]; exact Blk.new W3 _ _)
    have HW4 := Lib.hid hW4
    have q5 : Hid (W5.cell? ⟨p, 1, none⟩ = some (.slice A l.length c)) := Lib.hid ((O5.out.cell (p := ⟨p, 1, none⟩) HLTp.out (fun h => h)).trans ((o3.blk HDA.out (fun h => h)).cell 1))
    have HZ5 : Hid (W5.heap.size = W3.heap.size + 1) := Lib.hid (by rw [hW5]; simp)
    clear hW4 hW5
    have HLD := Lib.hid hld
    have HST := Lib.hid hst
    have HO3 := Lib.hid o3
    have HW3 := Lib.hid hW3
    clear hld hst o3 bs3 hW3
    go_wp2_with fail
    refine wp_region_st (by kernel_rfl) (RSt W3 W4 W5) [Is (.pointer (some ⟨p, 0, none⟩)), Is (.pointer (some ⟨p, 0, none⟩)), Is (.pointer (some ⟨p, 0, none⟩)), Is (.slice (some ⟨gs, 0, none⟩) n n), Is (.int .i64 (k : Int)), Is (.pointer (some ⟨gs, k * 128, none⟩)), Is (.agg (t.map byteV).toArray), Is (.pointer (some ⟨W3.heap.size, 0, none⟩)), fun _ _ => True] (by kernel_rfl)
      ⟨is_stab _ _, is_stab _ _, is_stab _ _, is_stab _ _, is_stab _ _, is_stab _ _, is_stab _ _, is_stab _ _, (fun _ _ _ _ _ => trivial), trivial⟩ (by simp [RSt]; exact HW3.out.symm) ⟨?_, ?_, ?_, ?_, ?_, ?_, ?_, ?_, ?_, trivial⟩ ?_
    · intro ld u w1 hi he hS hp K hK
      refine ord_plain rfl ?_
      simp at hp hK ⊢
      go_simp
      exact hK _ _ (by simpa [RSt, ldW] using hS) rfl
    · intro ld u w1 hi he hS hp K hK
      refine ord_plain rfl ?_
      simp at hp hK ⊢
      simp only [hp] at hK
      go_simp
      exact hK _ _ (by simpa [RSt, ldW] using hS) rfl
    · intro ld u w1 hi he hS hp K hK
      refine ord_plain rfl ?_
      simp at hp hK ⊢
      simp only [hp] at hK
      go_simp
      exact hK _ _ (by simpa [RSt, ldW] using hS) rfl
    · intro ld u w1 hi he hS hp K hK
      refine ord_plain rfl ?_
      simp at hp hK ⊢
      simp only [hp] at hK
      have ho : Only (fun _ => False) W3 w1 := (by obtain ⟨s1, s2⟩ := hS; by_cases h8 : ld 8 = true <;> by_cases h7 : ld 7 = true <;> simp [h7, h8] at s1 s2 <;> subst s2 <;> first | exact Only.refl _ _ | exact O4.out | exact O5.out)
      have hc := (ho.cell (p := ⟨p, 0, none⟩) HLTp.out (fun h => h)).trans q3.out
      go_simp
      exact hK _ _ (by simpa [RSt, ldW] using hS) rfl
    · intro ld u w1 hi he hS hp K hK
      refine ord_plain rfl ?_
      simp at hp hK ⊢
      have ho : Only (fun _ => False) W3 w1 := (by obtain ⟨s1, s2⟩ := hS; by_cases h8 : ld 8 = true <;> by_cases h7 : ld 7 = true <;> simp [h7, h8] at s1 s2 <;> subst s2 <;> first | exact Only.refl _ _ | exact O4.out | exact O5.out)
      have hc := (ho.cell (p := ⟨bk, 0, none⟩) HLTbk.out (fun h => h)).trans q2.out
      go_simp
      exact hK _ _ (by simpa [RSt, ldW] using hS) rfl
    · intro ld u w1 hi he hS hp K hK
      refine ord_plain rfl ?_
      simp at hp hK ⊢
      obtain ⟨hp1, hp2⟩ := hp
      simp only [hp1, hp2] at hK
      go_simp
      exact hK _ _ (by simpa [RSt, ldW] using hS) rfl
    · intro ld u w1 hi he hS hp K hK
      refine ord_plain rfl ?_
      simp at hp hK ⊢
      have ho : Only (fun _ => False) W3 w1 := (by obtain ⟨s1, s2⟩ := hS; by_cases h8 : ld 8 = true <;> by_cases h7 : ld 7 = true <;> simp [h7, h8] at s1 s2 <;> subst s2 <;> first | exact Only.refl _ _ | exact O4.out | exact O5.out)
      refine wp_load_by 65 (.tmp 32) rfl hp (HLD.out w1 ho) ?_
      exact hK _ _ (by simpa [RSt, ldW] using hS) rfl
    · intro ld u w1 hi he hS hp K hK
      refine ord_plain rfl ?_
      simp at hp hK ⊢
      obtain ⟨s1, s2⟩ := hS
      have h8 : ld 8 = false := by cases h : ld 8 with | false => rfl | true => (have := s1 h; simp [hi] at this)
      simp [hi, h8] at s2
      have s3 := s2.symm
      subst s3
      have hw4 := HW4.out
      go_simp
      exact hK _ _ (by simp [RSt, ldW, h8]; exact hw4.symm) rfl
    · intro ld u w1 hi he hS hp K hK
      refine ord_plain rfl ?_
      simp at hp hK ⊢
      obtain ⟨hp1, hp2, hp3, hp4, hp5, hp6, hp7, hp8, hp9, hp10⟩ := hp
      obtain ⟨s1, s2⟩ := hS
      have h7 : ld 7 = true := by simp [edgesDone] at he; simp [he]
      simp [hi, h7] at s2
      have s3 := s2.symm
      subst s3
      refine wp_store_by 65 (.tmp 6) (.tmp 33) rfl hp1 hp2 HST.out ?_
      exact hK _ (by simp [RSt, ldW, h7])
    · intro u w1 ld hld hS hp
      simp at hp ⊢
      have h8 := hld 8 (by decide)
      obtain ⟨_, s2⟩ := hS
      simp [h8] at s2
      have s3 := s2.symm
      subst s3
      obtain ⟨g0, g1, g2, g3, g4, g5, g6, g7⟩ := hp
      simp only [g0, g1, g2, g3, g4, g5, g6, g7]
      clear g0 g1 g2 g3 g4 g5 g6 g7
      clear hld
      have q6 := q5.out
      go_wp2_with fail
      refine (backward_any _ _ _ _).mono ?_
      rintro e w6 ⟨rfl, rfl⟩
      obtain ⟨W6, hW6⟩ : ∃ W6, W6 = W5.alloc (.cells #[.slice A l.length c] 60) := ⟨_, rfl⟩
      rw [← hW6]
      have b6 : Blk W6 W5.heap.size 60 #[.slice A l.length c] := by rw [hW6]; exact Blk.new W5 _ _
      have o6 : Only (fun _ => False) W5 W6 := by rw [hW6]; exact (Only.refl _ W5).alloc _
      have H6 := Lib.hid b6
      have O6 := Lib.hid o6
      clear hW6 b6 o6 q6
      go_wp2_with fail
      refine (wpIn_wide (n := 3)).1 (wp_rangeFunc_wide (gf := 93) (lb := #[.pointer (some ⟨W5.heap.size, 0, none⟩)]) rfl (enters_of Tryz.func93 (by kernel_rfl) rfl) ?_)
      intro rec r1 r2 r3 r4 r5 r6
      obtain ⟨Wy, hWy⟩ : ∃ Wy, Wy = (W6.alloc (.deferred (some []))).alloc (.loop rec) := ⟨_, rfl⟩
      have oy : Only (fun _ => False) W6 Wy := by rw [hWy]; exact ((Only.refl _ W6).alloc _).alloc _
      have hd : Wy.heap[W6.heap.size]? = some (.deferred (some [])) := by rw [hWy]; exact (Below.heap_alloc _ _ _ (by simp)).trans (World.alloc_heap_new W6 _)
      have hr : Wy.heap[W6.heap.size + 1]? = some (.loop rec) := by
        have := World.alloc_heap_new (W6.alloc (.deferred (some []))) (.loop rec)
        rw [hWy]; simpa using this
      rw [← hWy]
      obtain ⟨bs, hbs⟩ : ∃ bs, bs = W3.heap.size := ⟨_, rfl⟩
      obtain ⟨rid, hrid⟩ : ∃ rid, rid = W6.heap.size + 1 := ⟨_, rfl⟩
      obtain ⟨xb, hxb⟩ : ∃ xb, xb = W5.heap.size := ⟨_, rfl⟩
      have HBS6 : Hid (Blk Wy bs 65 (t.map byteV).toArray) := Lib.hid (by rw [hbs]; exact oy.blk (O6.out.blk HBS.out (fun h => h)) (fun h => h))
      have HX6 : Hid (Blk Wy xb 60 #[.slice A l.length c]) := Lib.hid (by rw [hxb]; exact oy.blk H6.out (fun h => h))
      have HK6 : Hid (Wy.cell? ⟨bk, 0, none⟩ = some (.int .i64 (k : Int))) := Lib.hid ((oy.blk (O6.out.blk (O5.out.blk (HO3.out.blk HBK.out (fun h => h)) (fun h => h)) (fun h => h)) (fun h => h)).cell 0)
      have HOy : Hid (Wy.ownsRow B 67 129 (.slice A l.length c) l.length (l.flatMap wrL)) := Lib.hid (oy.owns (O6.out.owns (O5.out.owns (HO3.out.owns HOA.out (fun _ _ h => h)) (fun _ _ h => h)) (fun _ _ h => h)) (fun _ _ h => h))
      have hsz : bk < bs ∧ bs < xb ∧ xb < rid ∧ rid < Wy.heap.size ∧ (∀ q, (Value.slice A l.length c).ownBlock = some q → q < bs) := by
        have h5 := HZ5.out
        have h6 := O6.out.size
        have hb := H6.out.lt
        have hbkl := HLTbk.out
        refine ⟨by omega, by omega, by omega, by rw [hrid]; exact (Array.getElem?_eq_some_iff.1 hr).1, fun q hq => by rw [hbs]; have := ((HO3.out.owns HOA.out (fun _ _ h => h)).lt q hq).2; omega⟩
      have HSZ := Lib.hid hsz
      rw [← hbs, ← hxb, ← hrid]
      rw [← hrid] at hr
      have HR0 := Lib.hid hr
      have HDF : Hid (Wy.heap[W6.heap.size]? = some (.deferred (some []))) := Lib.hid hd
      have HRID := Lib.hid hrid
      have HXB := Lib.hid hxb
      have HBSE := Lib.hid hbs
      have HOY := Lib.hid oy
      clear hWy hbs hrid hxb hsz oy hd hr
      obtain ⟨J, hJd⟩ : ∃ J : Nat → World → Prop, J = fun j W => Only (fun b => b = rid) Wy W ∧ W.heap[rid]? = some (.loop rec) ∧ ∀ i z, j ≤ i → l[i]? = some z → z.1 ≠ k := ⟨_, rfl⟩
      obtain ⟨E, hEd⟩ : ∃ E : World → Prop, E = fun W => Only (fun b => b = rid ∨ b = bs) Wy W ∧ W.heap[rid]? = some (.loop { rec with state := .done, pending := some (.exit 1) }) ∧ (∀ (i : Nat) v, (R.map byteV)[i]? = some v → W.cell? ⟨bs, i, none⟩ = some v) ∧ R.length = 128 := ⟨_, rfl⟩
      refine (backward1_any l A c xb rid 2 J E hlB ?h1 ?h2 ?h3 Wy ?h4).mono ?h5
      case h1 =>
        intro j W hJ
        rw [hJd] at hJ
        exact (hJ.1.blk HX6.out (by have := HSZ.out; omega)).cell 0
      case h2 =>
        intro j W y hJ hy
        rw [hJd] at hJ
        have ho := hJ.1.owns HOy.out (fun q hq e => by have := HSZ.out; have := this.2.2.2.2 q hq; omega)
        obtain ⟨gl, hA, hgl, hBl, hrg⟩ := loose_range ho (fun z hz => (HLO.out z hz).2) hy
        exact ⟨gl, hA, run_loadAt_mid (P := Tryz.prog) W gl (j * 129) 67 (wrL y) _ hrg Tryz.underlying67 rfl (by rw [wrL_len (HLO.out y (List.mem_of_getElem? hy)).2]; exact sizeW)⟩
      case h4 =>
        rw [hJd]
        exact ⟨Only.refl _ _, HR0.out, fun i z hi hz => by have := (List.getElem?_eq_some_iff.1 hz).1; omega⟩
      case h3 =>
        intro j W y hJ hy
        rw [hJd] at hJ
        obtain ⟨hO, hRc, hN⟩ := hJ
        have hyo := HLO.out y (List.mem_of_getElem? hy)
        obtain ⟨hzvW, hziW⟩ := zero_of_info zeroW
        have hst := run_storeAt_new (P := Tryz.prog) W 67 zeroWc (wrL y).toArray (by simp only [List.size_toArray, wrL_len hyo.2]; exact hziW) (by simp only [List.size_toArray, wrL_len hyo.2]; rfl) (all_oneCell_toArray (wrL_one y))
        obtain ⟨W1, hW1⟩ : ∃ W1, W1 = W.alloc (.cells (wrL y).toArray 67) := ⟨_, rfl⟩
        rw [← hW1] at hst
        have o1 : Only (fun _ => False) W W1 := by rw [hW1]; exact (Only.refl _ W).alloc _
        have b1 : Blk W1 W.heap.size 67 (wrL y).toArray := by rw [hW1]; exact Blk.new W _ _
        have hR1 : W1.heap[rid]? = some (.loop rec) := (o1.block rid (by have := HSZ.out; have := hO.size; omega) (fun h => h)).trans hRc
        have HST := Lib.hid hst
        obtain ⟨gw, hgw⟩ : ∃ gw, gw = W.heap.size := ⟨_, rfl⟩
        have hgs : rid < gw := by rw [hgw]; have := HSZ.out; have := hO.size; omega
        have HGW := Lib.hid hgw.symm
        have HJJ := Lib.hid hJd
        have HEE := Lib.hid hEd
        have HNN := Lib.hid hN
        have HYY := Lib.hid hy
        have HRQ := Lib.hid hRc
        refine ⟨_, _, _, _, run_yield hRc (by rw [r4]; rfl), roundIn_of_wpIn trivial ?_⟩
        rw [r3, r4, r5, r6]
        clear hst hW1 hN hy hRc hJd hEd r3 r4 r5 r6 hgw
        gi_wp2_with (refine wpListIn_store_by rfl 67 (.tmp 8) (.tmp 40) rfl rfl rfl HST.out ?_)
        rw [HGW.out]
        have hbr := run_beginRound (P := Tryz.prog) hR1 r1
        obtain ⟨W2, hW2⟩ : ∃ W2, W2 = W1.putObj rid (.loop { rec with state := .busy }) := ⟨_, rfl⟩
        rw [← hW2] at hbr
        refine ⟨_, hbr, ?_⟩
        have o2 : Only (fun b => b = rid) W1 W2 := by rw [hW2]; exact only_put _ _ _
        have hR2 : W2.heap[rid]? = some (.loop { rec with state := .busy }) := by rw [hW2]; exact World.putObj_heap_same (Array.getElem?_eq_some_iff.1 hR1).1
        have b2 : Blk W2 gw 67 (wrL y).toArray := by rw [← HGW.out] at hgs ⊢; exact o2.blk b1 (by omega)
        have oall : Only (fun b => b = rid) Wy W2 := (hO.trans (o1.mono fun _ h => h.elim)).trans o2
        have c0 : W2.cell? ⟨gw, 0, none⟩ = some (.int .i64 (y.1 : Int)) := b2.cell 0
        have ck : W2.cell? ⟨bk, 0, none⟩ = some (.int .i64 (k : Int)) := (oall.cell (p := ⟨bk, 0, none⟩) (by have := HSZ.out; show bk < _; omega) (by have := HSZ.out; show ¬ bk = rid; omega)).trans HK6.out
        have HB2 := Lib.hid b2
        have HR2 := Lib.hid hR2
        have HOA := Lib.hid oall
        clear hbr hW2 o2 b2 b1 o1 hR1 oall hR2 hO
        by_cases hyk : y.1 = k
        · have hyi : (y.1 : Int) = (k : Int) := by omega
          have hld := run_loadAt_mid (P := Tryz.prog) W2 gw 1 65 (y.2.map byteV) _ (fun i v hv => by
            rw [HB2.out.cell]
            show (wrL y).toArray[1 + i]? = some v
            unfold wrL
            rw [Nat.add_comm]
            simpa using hv) Tryz.underlying65 rfl (by rw [List.length_map, hyo.2]; exact (show (Tryz.prog.info? 65).map (·.size) = some 128 by kernel_rfl))
          have hth : W2.there bs 0 (y.2.map byteV).toArray.size := fun i hi => by
            have hb := HOA.out.blk HBS6.out (by have := HSZ.out; omega)
            have hi' : i < 128 := by simpa [hyo.2] using hi
            rw [Nat.zero_add]
            refine ⟨?_, hb.frozen i⟩
            rw [hb.cell]
            simp [HTL.out, hi']
          have hst2 := run_storeAt_mid (P := Tryz.prog) W2 bs 0 65 (y.2.map byteV).toArray hth (by simp only [List.size_toArray, List.length_map, hyo.2]; exact (show (Tryz.prog.info? 65).map (·.size) = some 128 by kernel_rfl)) (all_oneCell_toArray (byteV_one y.2))
          rw [HBSE.out] at hst2
          have HLD2 := Lib.hid hld
          have HST2 := Lib.hid hst2
          have HTH := Lib.hid hth
          clear hld hst2 hth
          gi_wp2_with (first | refine wpListIn_load_by rfl 65 (.tmp 45) rfl rfl HLD2.out ?_ | refine wpListIn_store_by rfl 65 (.tmp 6) (.tmp 46) rfl rfl rfl HST2.out ?_)
          rw [← HBSE.out]
          have o3 := only_setCells bs (y.2.map byteV).toArray.toList 0 W2
          have hR3 := (o3.block rid (by have := HSZ.out; have := HOA.out.size; omega) (by have := HSZ.out; omega)).trans HR2.out
          refine ⟨_, _, run_endRound (some (.exit 1)) hR3, .inr ⟨rfl, ?_⟩⟩
          rw [HEE.out]
          have o4 := only_put (W2.setCells bs 0 (y.2.map byteV).toArray.toList) rid (.loop { ({ rec with state := .busy } : Loop) with state := if (some (Code.exit 1)).isNone = true then .ready else .done, pending := some (.exit 1) })
          have hRy : R = y.2 := by
            rw [HRR.out]
            exact HCL.out.1 j y HYY.out hyk (fun i z hi hz => HNN.out i z hi hz)
          refine ⟨((HOA.out.mono fun b h => .inl h).trans (o3.mono fun b h => .inr h)).trans (o4.mono fun b h => .inl h), World.putObj_heap_same (Array.getElem?_eq_some_iff.1 hR3).1, fun i v hv => ?_, by rw [hRy]; exact hyo.2⟩
          rw [hRy] at hv
          have hr := World.rangeAt_setCells_same W2 bs 0 (y.2.map byteV).toArray.toList (by have := HTH.out; simpa using this) i v (by simpa using hv)
          rw [Nat.zero_add] at hr
          exact (o4.cell (p := ⟨bs, i, none⟩) (by show bs < _; have := HSZ.out; have := HOA.out.size; have := o3.size; omega) (by show ¬ bs = rid; have := HSZ.out; omega)).trans hr
        · have hyi : ¬ (y.1 : Int) = (k : Int) := by omega
          gi_wp2
          have hr : ({ ({ rec with state := .busy } : Loop) with state := if (none : Option Code).isNone = true then .ready else .done, pending := none } : Loop) = rec := by cases rec; simp_all
          refine ⟨_, _, run_endRound none HR2.out, .inl ⟨rfl, ?_⟩⟩
          rw [HJJ.out, hr]
          refine ⟨HOA.out.trans (only_put _ _ _), World.putObj_heap_same (Array.getElem?_eq_some_iff.1 HR2.out).1, fun i z hi hz => ?_⟩
          rcases Nat.lt_or_ge j i with h | h
          · exact HNN.out i z h hz
          · have : i = j := by omega
            subst this
            rw [HYY.out] at hz
            injection hz with hz
            subst hz
            exact hyk
      case h5 =>
        rintro e Wz ⟨⟨v, rfl⟩, hJE⟩
        rcases hJE with hJ | hE
        · rw [hJd] at hJ
          obtain ⟨hO, hRc, hN⟩ := hJ
          have hRt : R = t := by
            rw [HRR.out]
            have h := HCL.out.2 (fun z hz => by
              obtain ⟨i, hi, rfl⟩ := List.getElem_of_mem hz
              exact hN i _ (by omega) (List.getElem?_eq_getElem hi))
            exact h.trans (by rw [List.getD_eq_getElem?_getD, HT.out]; rfl)
          have hend := run_endLoop (P := Tryz.prog) hRc (by rw [r1]; simp)
          have hend' : (Instr.endLoop rid).run Tryz.prog Wz = .ok none (Wz.putObj rid (.loop { rec with state := .exhausted })) := hend.trans (by rw [r2])
          refine ⟨none, _, hend', ?_⟩
          have o7 := only_put Wz rid (.loop { rec with state := .exhausted })
          obtain ⟨W7, hW7⟩ : ∃ W7, W7 = Wz.putObj rid (.loop { rec with state := .exhausted }) := ⟨_, rfl⟩
          rw [← hW7] at o7 ⊢
          have hOz : Only (fun b => b = rid ∨ b = bs) Wy W7 := (hO.trans o7).mono fun b h => .inl h
          have hcc : ∀ (i : Nat) v, (R.map byteV)[i]? = some v → W7.cell? ⟨bs, i, none⟩ = some v := fun i v hv => by
            rw [hRt] at hv
            rw [((hO.trans o7).blk HBS6.out (by have := HSZ.out; omega)).cell]
            simpa using hv
          have hRl : R.length = 128 := by rw [hRt]; exact HTL.out
          clear hend hend' hW7 o7 hO hRc hN hRt r1 r2 r3 r4 r5 r6 hJd hEd
          have hcv := strOf_cells W7 bs R hRl hcc 9 Tryz.underlying9
          have hd7 : W7.heap[W6.heap.size]? = some (.deferred (some [])) := (hOz.block _ (Array.getElem?_eq_some_iff.1 HDF.out).1 (by have h1 := HRID.out; have h2 := HBSE.out; have h3 := HZ5.out; have h4 := O6.out.size; omega)).trans HDF.out
          have H7 := Lib.hid hd7
          have HO7 := Lib.hid hOz
          have HRL := Lib.hid hRl
          have w3o := HO3.out.size
          have hall : Only (fun b => W5.heap.size ≤ b ∨ b = bs) w W7 := by
            have q1 : Only (fun _ => False) w Wy := ((((HA.out.trans HO3.out).trans O5.out).trans O6.out).trans HOY.out)
            exact (q1.mono fun _ h => h.elim).trans (hOz.mono fun b h => by rcases h with rfl | rfl; exact .inl (by have := HSZ.out; have := HXB.out; omega); exact .inr rfl)
          have hz3 : w.heap.size ≤ W3.heap.size := (HA.out.trans HO3.out).size
          have hz5 := O5.out.size
          have hz6 := O6.out.size
          have HAL := Lib.hid hall
          have HZZ := Lib.hid (And.intro hz3 (And.intro hz5 hz6))
          have HBE := HBSE
          clear hd7 hOz hall hcc w3o hz3 hz5 hz6
          go_wp2_with fail
          refine ⟨by simp, .inl ⟨_, _, rfl, run_takeDeferred H7.out, ?_⟩⟩
          have hz := HZZ.out
          have hbe := HBE.out
          have hfin : Only (fun _ => False) w (W7.putObj W6.heap.size (.deferred none)) := ((Only.refl (fun _ => False) w).trans' HAL.out (fun i hi => .inr (by rcases hi with h | h <;> omega))).trans' (only_put W7 W6.heap.size (.deferred none)) (fun i hi => .inr (by omega))
          refine ⟨_, ?res, rfl, hfin⟩
          case res => simp [results, Tryz.results56, go_sem]
        · rw [hEd] at hE
          obtain ⟨hO, hRc, hcc0, hRl⟩ := hE
          have hend := run_endLoop (P := Tryz.prog) hRc (by simp)
          refine ⟨some (.exit 1), _, hend, ?_⟩
          have o7 := only_put Wz rid (.loop { ({ rec with state := .done, pending := some (.exit 1) } : Loop) with state := .exhausted })
          obtain ⟨W7, hW7⟩ : ∃ W7, W7 = Wz.putObj rid (.loop { ({ rec with state := .done, pending := some (.exit 1) } : Loop) with state := .exhausted }) := ⟨_, rfl⟩
          rw [← hW7] at o7 ⊢
          have hOz : Only (fun b => b = rid ∨ b = bs) Wy W7 := hO.trans (o7.mono fun b h => .inl h)
          have hcc : ∀ (i : Nat) v, (R.map byteV)[i]? = some v → W7.cell? ⟨bs, i, none⟩ = some v := fun i v hv =>
            (o7.cell (p := ⟨bs, i, none⟩) (by show bs < _; have := HSZ.out; have := hO.size; omega) (by show ¬ bs = rid; have := HSZ.out; omega)).trans (hcc0 i v hv)
          clear hend hW7 o7 hO hRc hcc0 r1 r2 r3 r4 r5 r6 hJd hEd
          refine (wpIn_wide (n := 3)).2 ?_
          have hcv := strOf_cells W7 bs R hRl hcc 9 Tryz.underlying9
          have hd7 : W7.heap[W6.heap.size]? = some (.deferred (some [])) := (hOz.block _ (Array.getElem?_eq_some_iff.1 HDF.out).1 (by have h1 := HRID.out; have h2 := HBSE.out; have h3 := HZ5.out; have h4 := O6.out.size; omega)).trans HDF.out
          have H7 := Lib.hid hd7
          have HO7 := Lib.hid hOz
          have HRL := Lib.hid hRl
          have w3o := HO3.out.size
          have hall : Only (fun b => W5.heap.size ≤ b ∨ b = bs) w W7 := by
            have q1 : Only (fun _ => False) w Wy := ((((HA.out.trans HO3.out).trans O5.out).trans O6.out).trans HOY.out)
            exact (q1.mono fun _ h => h.elim).trans (hOz.mono fun b h => by rcases h with rfl | rfl; exact .inl (by have := HSZ.out; have := HXB.out; omega); exact .inr rfl)
          have hz3 : w.heap.size ≤ W3.heap.size := (HA.out.trans HO3.out).size
          have hz5 := O5.out.size
          have hz6 := O6.out.size
          have HAL := Lib.hid hall
          have HZZ := Lib.hid (And.intro hz3 (And.intro hz5 hz6))
          have HBE := HBSE
          clear hd7 hOz hall hcc w3o hz3 hz5 hz6
          go_wp2_with fail
          refine ⟨by simp, .inl ⟨_, _, rfl, run_takeDeferred H7.out, ?_⟩⟩
          have hz := HZZ.out
          have hbe := HBE.out
          have hfin : Only (fun _ => False) w (W7.putObj W6.heap.size (.deferred none)) := ((Only.refl (fun _ => False) w).trans' HAL.out (fun i hi => .inr (by rcases hi with h | h <;> omega))).trans' (only_put W7 W6.heap.size (.deferred none)) (fun i hi => .inr (by omega))
          refine ⟨_, ?res, rfl, hfin⟩
          case res => simp [results, Tryz.results56, go_sem]
end Go.Proofs.YthggliknnmhbdaaGreat
