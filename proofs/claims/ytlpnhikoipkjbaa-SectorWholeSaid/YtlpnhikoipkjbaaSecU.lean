/- SectorWhole: its walk. -/
import Derived.Test.YtlpnhikoipkjbaaSecT
import Derived.Test.YtlpnhikoipkjbaaSecW
namespace Go.Proofs.Ytlpnhikoipkjbaa
open Go.RowKit Go.WideShapes Go.ChangeShapes
set_option linter.unusedVariables false
attribute [local simp] frOf dstsOf frGo predsHold allHold Region.binds slotOf seen Is Act.put
set_option maxHeartbeats 4000000 in
set_option maxRecDepth 100000 in
theorem whole_any (x0 : Int) (hx0 : 0 ≤ x0) (hx1 : x0 ≤ 255) (ss1 ss2 : List SP) (ps : List Int) (A1 A2 A3 : Option Addr) (c1 c2 c3 : Nat) (w : World) (S1 : Scr w w.heap.size A1 ss1) (S2 : Scr w w.heap.size A2 ss2) (hr : Reads w w.heap.size 1 A3 ps.length (ps.map (.int .i64)))
    (m1 : ss1.length ≤ maxLen) (m2 : ss2.length ≤ maxLen) (m3 : ps.length ≤ maxLen) :
    Calls Try.prog 5 #[.int .u8 x0, .slice A1 ss1.length c1, .slice A2 ss2.length c2, .slice A3 ps.length c3] w fun e w' => e = .returned (.bool true) ∧ Below w.heap.size w w' := by
  obtain ⟨i0, hi, hz0, hz1, hz2⟩ := info_parts (show (Try.prog.info? 9).map (fun i => (i.zero, i.size, i.bytes)) = some (some (.string ⟨#[]⟩), 1, 16) by kernel_rfl)
  obtain ⟨i1, hi1, hy0, hy1, hy2⟩ := info_parts (show (Try.prog.info? 3).map (fun i => (i.zero, i.size, i.bytes)) = some (some (.int .i64 0), 1, 8) by kernel_rfl)
  have H1 := Lib.hid S1
  have H2 := Lib.hid S2
  have HR := Lib.hid hr
  have M1 := Lib.hid m1
  have M2 := Lib.hid m2
  have M3 := Lib.hid m3
  clear S1 S2 hr m1 m2 m3
  go_enter Try.func5, Try.ntmps5
  go_wp2_with fail
  refine (heavy_any _ _ _ _ _ H1.out M1.out).mono ?_
  rintro e w1 ⟨⟨b, rfl, hb1⟩, rfl⟩
  rcases b with _ | _
  case true =>
    clear hb1
    go_wp2_with fail
    refine (alive_any _).mono ?_
    rintro e w1 ⟨rfl, B⟩
    go_wp2_with fail
    go_ret
    exact ⟨rfl, B⟩
  have L1 := Lib.hid (hb1 rfl)
  clear hb1
  go_wp2_with fail
  refine (heavy_any _ _ _ _ _ H2.out M2.out).mono ?_
  rintro e w1 ⟨⟨b, rfl, hb1⟩, rfl⟩
  rcases b with _ | _
  case true =>
    clear hb1
    go_wp2_with fail
    refine (alive_any _).mono ?_
    rintro e w1 ⟨rfl, B⟩
    go_wp2_with fail
    go_ret
    exact ⟨rfl, B⟩
  have L2 := Lib.hid (hb1 rfl)
  clear hb1
  by_cases h3 : (300 : Int) < ps.length
  · go_wp2_with fail
    refine (alive_any _).mono ?_
    rintro e w1 ⟨rfl, B⟩
    go_wp2_with fail
    go_ret
    exact ⟨rfl, B⟩
  obtain ⟨n, hn⟩ : ∃ n : Nat, (n : Int) = 1 + x0 % 9 := ⟨(1 + x0 % 9).toNat, by omega⟩
  have hn1 : 1 ≤ n := by omega
  have hn2 : n ≤ 4096 := by omega
  obtain ⟨G, hG⟩ : ∃ G, G = syncW (wro n ss1) (zeroG n) := ⟨_, rfl⟩
  have hGok : SecOk n [] G := by
    rw [hG]; exact syncW_ok (wrote_ok 0 (zeroG_ok n) _)
  have HG := Lib.hid hG
  have HO := Lib.hid hGok
  clear hG hGok
  go_wp2_with fail
  go_loopw [9, 10] (fun sv i wr => ∃ k : Nat, k ≤ 3 ∧ i = .int .i64 k ∧ wr.ownsRow w.heap.size 9 1 sv k ([Value.string (strG (syncW (wro n ss2) G)), .string (strG (syncW (wro n ss2) G)), .string (strG G)].take k) ∧ Below w.heap.size w wr) (fun _ i _ => 3 - (intOf i).toNat)
  case atStart => exact ⟨0, by omega, rfl, World.ownsRow_nil _ _ _ _, Below.refl _ _⟩
  case round =>
    obtain ⟨wo, rfl⟩ : ∃ wo, wo = wr := ⟨_, rfl⟩
    obtain ⟨k, hk, rfl, b1, b2⟩ := hrel
    have HB1 := Lib.hid b1
    have HB2 := Lib.hid b2
    clear b1 b2
    by_cases hlt : (k : Int) < 3
    · go_wp2_with fail
      rw [← hn]
      refine (dk_new n wo hn1 hn2).mono ?_
      rintro e wd ⟨rfl, d1, d2⟩
      obtain ⟨p, hp⟩ : ∃ p, p = wo.heap.size + 1 := ⟨_, rfl⟩
      obtain ⟨gs, hgs⟩ : ∃ gs, gs = wo.heap.size := ⟨_, rfl⟩
      obtain ⟨B, hB⟩ : ∃ B, B = wo.heap.size := ⟨_, rfl⟩
      obtain ⟨mm, hmm, d1'⟩ : ∃ mm, mm ≤ 500 ∧ Dk wd p gs n (zeroG n) [] B mm := ⟨0, by omega, by rw [hp, hgs, hB]; exact d1⟩
      have HD := Lib.hid d1'
      have HOD := Lib.hid (d2.mono (T := fun b => B ≤ b) fun _ h => h.elim)
      have HWB := Lib.hid (show w.heap.size ≤ B by rw [hB]; exact HB2.out.size)
      have HBB := Lib.hid hB
      rw [← hp]
      clear hp hgs hB d1 d1' d2
      go_wp2_with fail
      go_loopw [13] (fun i y => ∃ j : Nat, j ≤ ss1.length ∧ i = .int .i64 j ∧ Dk y p gs n (zeroG n) (wro n (ss1.take j)) B (mm + j) ∧ Only (fun b => B ≤ b) wo y) (fun i _ => ss1.length - (intOf i).toNat)
      case atStart => exact ⟨0, by omega, rfl, HD.out, HOD.out⟩
      case round =>
        obtain ⟨yr, rfl⟩ : ∃ yr, yr = wr := ⟨_, rfl⟩
        obtain ⟨j, hj, rfl, d1, d2⟩ := hrel
        have HD1 := Lib.hid d1
        have HD2 := Lib.hid d2
        clear d1 d2
        by_cases hjl : (j : Int) < (ss1.length : Int)
        · have hjl' : j < ss1.length := by omega
          obtain ⟨s, hs⟩ : ∃ s, ss1[j]? = some s := ⟨_, List.getElem?_eq_getElem hjl'⟩
          obtain ⟨b, off, rfl, hb, e0, e1, e2, e3, e4, e5, e6⟩ := H1.out j s hs
          have hsz := (L1.out.2 s (List.mem_of_getElem? hs)).1
          have hll := L1.out.1
          have hjm := hj
          have hcall := dk_write p gs n (zeroG n) (wro n (ss1.take j)) B (mm + j) s.k s.text yr.drew (HD1.out.only (Only.refl _ yr).drew) (by omega) (by omega)
          rw [← wro_snoc n ss1 hs] at hcall
          have HK := Lib.hid hcall
          have hcl : ∀ y, (y = yr.drew ∨ Only (fun b => B ≤ b) yr.drew y) → y.cell? ⟨b, off + j * 4 + 1, none⟩ = some (.int .i64 s.k) ∧ y.cell? ⟨b, off + j * 4 + 2, none⟩ = some (.string s.text) := by
            intro y hy
            have ho : Only (fun b => B ≤ b) wo y := by
              rcases hy with rfl | hy
              · exact HD2.out.drew
              · exact HD2.out.drew.trans hy
            have hbl : b < B := Nat.lt_of_lt_of_le hb HWB.out
            have q : ∀ o, y.cell? ⟨b, o, none⟩ = w.cell? ⟨b, o, none⟩ := fun o => (ho.cell (p := ⟨b, o, none⟩) (by rw [← HBB.out]; exact hbl) (Nat.not_le.2 hbl)).trans (HB2.out.cell (p := ⟨b, o, none⟩) hb)
            exact ⟨(q _).trans e1, (q _).trans e2⟩
          have hbz : b < yr.heap.size := by have := HD1.out.size; have := HWB.out; omega
          obtain ⟨W2, hW2⟩ : ∃ W2, W2 = yr.drew := ⟨_, rfl⟩
          rw [← hW2] at hcl HK
          have HW2 := Lib.hid hW2
          have HS := Lib.hid hs
          have HC := Lib.hid hcl
          have HJ := Lib.hid hjl'
          clear hs e0 e1 e2 e3 e4 e5 e6 hsz hll hjm hcall hcl hW2 hbz
          go_wp2_with fail
          refine wp_region_st (by kernel_rfl) (fun ld y => if ld 11 = true then (Dk y p gs n (zeroG n) (wro n (ss1.take (j + 1))) B (mm + j + 1) ∧ Only (fun b => B ≤ b) W2 y) else y = W2) [Is (.pointer (some ⟨p, 0, none⟩)), Is (.slice (some ⟨b, off, none⟩) ss1.length c1), Is (.int .i64 j), Is (.pointer (some ⟨b, off + j * 4, none⟩)), Is (.pointer (some ⟨b, off + j * 4 + 1, none⟩)), Is (.int .i64 s.k), Is (.slice (some ⟨b, off, none⟩) ss1.length c1), Is (.int .i64 j), Is (.pointer (some ⟨b, off + j * 4, none⟩)), Is (.pointer (some ⟨b, off + j * 4 + 2, none⟩)), Is (.string s.text), fun _ _ => True] (by kernel_rfl)
            ⟨is_stab _ _, is_stab _ _, is_stab _ _, is_stab _ _, is_stab _ _, is_stab _ _, is_stab _ _, is_stab _ _, is_stab _ _, is_stab _ _, is_stab _ _, (fun _ _ _ _ _ => trivial), trivial⟩ (by simp; exact HW2.out.symm) ⟨?_, ?_, ?_, ?_, ?_, ?_, ?_, ?_, ?_, ?_, ?_, ?_, trivial⟩ ?_
          · intro ld u w1 hi he hS hp K hK
            refine ord_plain rfl ?_
            simp at hp hK ⊢
            go_simp
            exact hK _ _ (by simpa [ldW] using hS) rfl
          · intro ld u w1 hi he hS hp K hK
            refine ord_plain rfl ?_
            simp at hp hK ⊢
            go_simp
            exact hK _ _ (by simpa [ldW] using hS) rfl
          · intro ld u w1 hi he hS hp K hK
            refine ord_plain rfl ?_
            simp at hp hK ⊢
            go_simp
            exact hK _ _ (by simpa [ldW] using hS) rfl
          · intro ld u w1 hi he hS hp K hK
            refine ord_plain rfl ?_
            simp at hp hK ⊢
            obtain ⟨hp1, hp2⟩ := hp
            simp only [hp1, hp2] at hK
            go_simp
            exact hK _ _ (by simpa [ldW] using hS) rfl
          · intro ld u w1 hi he hS hp K hK
            refine ord_plain rfl ?_
            simp at hp hK ⊢
            simp only [hp] at hK
            go_simp
            exact hK _ _ (by simpa [ldW] using hS) rfl
          · intro ld u w1 hi he hS hp K hK
            refine ord_plain rfl ?_
            simp at hp hK ⊢
            simp only [hp] at hK
            have hc := (HC.out w1 (by by_cases h11 : ld 11 = true <;> simp [h11] at hS <;> simp [hS])).1
            go_simp
            exact hK _ _ (by simpa [ldW] using hS) rfl
          · intro ld u w1 hi he hS hp K hK
            refine ord_plain rfl ?_
            simp at hp hK ⊢
            go_simp
            exact hK _ _ (by simpa [ldW] using hS) rfl
          · intro ld u w1 hi he hS hp K hK
            refine ord_plain rfl ?_
            simp at hp hK ⊢
            go_simp
            exact hK _ _ (by simpa [ldW] using hS) rfl
          · intro ld u w1 hi he hS hp K hK
            refine ord_plain rfl ?_
            simp at hp hK ⊢
            obtain ⟨hp1, hp2⟩ := hp
            simp only [hp1, hp2] at hK
            go_simp
            exact hK _ _ (by simpa [ldW] using hS) rfl
          · intro ld u w1 hi he hS hp K hK
            refine ord_plain rfl ?_
            simp at hp hK ⊢
            simp only [hp] at hK
            go_simp
            exact hK _ _ (by simpa [ldW] using hS) rfl
          · intro ld u w1 hi he hS hp K hK
            refine ord_plain rfl ?_
            simp at hp hK ⊢
            simp only [hp] at hK
            have hc := (HC.out w1 (by by_cases h11 : ld 11 = true <;> simp [h11] at hS <;> simp [hS])).2
            go_simp
            exact hK _ _ (by simpa [ldW] using hS) rfl
          · intro ld u w1 hi he hS hp K hK
            refine ord_plain rfl ?_
            simp at hp hK ⊢
            obtain ⟨hp1, hp2, hp3⟩ := hp
            simp only [hp1, hp2, hp3] at hK
            simp [hi] at hS
            subst hS
            go_simp
            refine HK.out.mono ?_
            rintro e w2 ⟨⟨r, rfl⟩, k1, k2⟩
            refine hK _ _ ?_; simp [ldW]; exact ⟨k1, k2⟩
          · intro u w1 ld hld hS hp
            simp at hp ⊢
            have h11 := hld 11 (by decide)
            simp [h11] at hS
            obtain ⟨s1, s2⟩ := hS
            have S1' := Lib.hid s1
            have S2' := Lib.hid (HD2.out.drew.trans (HW2.out ▸ s2))
            clear s1 s2
            have hll := L1.out.1
            have hj2 := HJ.out
            go_wp2_with fail
            go_roundw
            case rel => exact ⟨j + 1, HJ.out, by go_num, S1'.out, S2'.out⟩
            case measure => have := HJ.out; simp [intOf]; omega
        · obtain rfl : j = ss1.length := by omega
          rw [List.take_length] at HD1
          have hm1 : mm + ss1.length < 1000000 := by have := L1.out.1; omega
          go_wp2_with fail
          refine (dk_sync _ _ _ _ _ _ _ _ HD1.out hm1).mono ?_
          rintro e y1 ⟨rfl, d1, d2⟩
          rw [← HG.out] at d1
          obtain ⟨m3, hm3, d1⟩ : ∃ m3, m3 ≤ 1000 ∧ Dk y1 p gs n G [] B m3 := ⟨_, by have := L1.out.1; omega, d1⟩
          have HD3 := Lib.hid d1
          have HO3 := Lib.hid (HD2.out.trans d2)
          clear d1 d2 HD1 HD2 hm1
          go_wp2_with fail
          refine (dk_sure _ _ _ _ _ _ _ _ HD3.out).mono ?_
          rintro e y2 ⟨rfl, d1, d2⟩
          have HD4 := Lib.hid d1
          have HO4 := Lib.hid (HO3.out.trans (d2.mono (T := fun b => B ≤ b) fun _ h => h.elim))
          clear d1 d2 HD3 HO3
          go_wp2_with fail
          go_loopw [15] (fun i y => ∃ j : Nat, j ≤ ss2.length ∧ i = .int .i64 j ∧ Dk y p gs n G (wro n (ss2.take j)) B (m3 + j) ∧ Only (fun b => B ≤ b) wo y) (fun i _ => ss2.length - (intOf i).toNat)
          case atStart => exact ⟨0, by omega, rfl, HD4.out, HO4.out⟩
          case round =>
            obtain ⟨yr, rfl⟩ : ∃ yr, yr = wr := ⟨_, rfl⟩
            obtain ⟨j, hj, rfl, d1, d2⟩ := hrel
            have HD1 := Lib.hid d1
            have HD2 := Lib.hid d2
            clear d1 d2
            by_cases hjl : (j : Int) < (ss2.length : Int)
            · have hjl' : j < ss2.length := by omega
              obtain ⟨s, hs⟩ : ∃ s, ss2[j]? = some s := ⟨_, List.getElem?_eq_getElem hjl'⟩
              obtain ⟨b, off, rfl, hb, e0, e1, e2, e3, e4, e5, e6⟩ := H2.out j s hs
              have hsz := (L2.out.2 s (List.mem_of_getElem? hs)).1
              have hll := L2.out.1
              have hjm := hj
              have hcall := dk_write p gs n G (wro n (ss2.take j)) B (m3 + j) s.k s.text yr.drew (HD1.out.only (Only.refl _ yr).drew) (by omega) (by omega)
              rw [← wro_snoc n ss2 hs] at hcall
              have HK := Lib.hid hcall
              have hcl : ∀ y, (y = yr.drew ∨ Only (fun b => B ≤ b) yr.drew y) → y.cell? ⟨b, off + j * 4 + 1, none⟩ = some (.int .i64 s.k) ∧ y.cell? ⟨b, off + j * 4 + 2, none⟩ = some (.string s.text) := by
                intro y hy
                have ho : Only (fun b => B ≤ b) wo y := by
                  rcases hy with rfl | hy
                  · exact HD2.out.drew
                  · exact HD2.out.drew.trans hy
                have hbl : b < B := Nat.lt_of_lt_of_le hb HWB.out
                have q : ∀ o, y.cell? ⟨b, o, none⟩ = w.cell? ⟨b, o, none⟩ := fun o => (ho.cell (p := ⟨b, o, none⟩) (by rw [← HBB.out]; exact hbl) (Nat.not_le.2 hbl)).trans (HB2.out.cell (p := ⟨b, o, none⟩) hb)
                exact ⟨(q _).trans e1, (q _).trans e2⟩
              have hbz : b < yr.heap.size := by have := HD1.out.size; have := HWB.out; omega
              obtain ⟨W2, hW2⟩ : ∃ W2, W2 = yr.drew := ⟨_, rfl⟩
              rw [← hW2] at hcl HK
              have HW2 := Lib.hid hW2
              have HS := Lib.hid hs
              have HC := Lib.hid hcl
              have HJ := Lib.hid hjl'
              clear hs e0 e1 e2 e3 e4 e5 e6 hsz hll hjm hcall hcl hW2 hbz
              go_wp2_with fail
              refine wp_region_st (by kernel_rfl) (fun ld y => if ld 11 = true then (Dk y p gs n G (wro n (ss2.take (j + 1))) B (m3 + j + 1) ∧ Only (fun b => B ≤ b) W2 y) else y = W2) [Is (.pointer (some ⟨p, 0, none⟩)), Is (.slice (some ⟨b, off, none⟩) ss2.length c2), Is (.int .i64 j), Is (.pointer (some ⟨b, off + j * 4, none⟩)), Is (.pointer (some ⟨b, off + j * 4 + 1, none⟩)), Is (.int .i64 s.k), Is (.slice (some ⟨b, off, none⟩) ss2.length c2), Is (.int .i64 j), Is (.pointer (some ⟨b, off + j * 4, none⟩)), Is (.pointer (some ⟨b, off + j * 4 + 2, none⟩)), Is (.string s.text), fun _ _ => True] (by kernel_rfl)
                ⟨is_stab _ _, is_stab _ _, is_stab _ _, is_stab _ _, is_stab _ _, is_stab _ _, is_stab _ _, is_stab _ _, is_stab _ _, is_stab _ _, is_stab _ _, (fun _ _ _ _ _ => trivial), trivial⟩ (by simp; exact HW2.out.symm) ⟨?_, ?_, ?_, ?_, ?_, ?_, ?_, ?_, ?_, ?_, ?_, ?_, trivial⟩ ?_
              · intro ld u w1 hi he hS hp K hK
                refine ord_plain rfl ?_
                simp at hp hK ⊢
                go_simp
                exact hK _ _ (by simpa [ldW] using hS) rfl
              · intro ld u w1 hi he hS hp K hK
                refine ord_plain rfl ?_
                simp at hp hK ⊢
                go_simp
                exact hK _ _ (by simpa [ldW] using hS) rfl
              · intro ld u w1 hi he hS hp K hK
                refine ord_plain rfl ?_
                simp at hp hK ⊢
                go_simp
                exact hK _ _ (by simpa [ldW] using hS) rfl
              · intro ld u w1 hi he hS hp K hK
                refine ord_plain rfl ?_
                simp at hp hK ⊢
                obtain ⟨hp1, hp2⟩ := hp
                simp only [hp1, hp2] at hK
                go_simp
                exact hK _ _ (by simpa [ldW] using hS) rfl
              · intro ld u w1 hi he hS hp K hK
                refine ord_plain rfl ?_
                simp at hp hK ⊢
                simp only [hp] at hK
                go_simp
                exact hK _ _ (by simpa [ldW] using hS) rfl
              · intro ld u w1 hi he hS hp K hK
                refine ord_plain rfl ?_
                simp at hp hK ⊢
                simp only [hp] at hK
                have hc := (HC.out w1 (by by_cases h11 : ld 11 = true <;> simp [h11] at hS <;> simp [hS])).1
                go_simp
                exact hK _ _ (by simpa [ldW] using hS) rfl
              · intro ld u w1 hi he hS hp K hK
                refine ord_plain rfl ?_
                simp at hp hK ⊢
                go_simp
                exact hK _ _ (by simpa [ldW] using hS) rfl
              · intro ld u w1 hi he hS hp K hK
                refine ord_plain rfl ?_
                simp at hp hK ⊢
                go_simp
                exact hK _ _ (by simpa [ldW] using hS) rfl
              · intro ld u w1 hi he hS hp K hK
                refine ord_plain rfl ?_
                simp at hp hK ⊢
                obtain ⟨hp1, hp2⟩ := hp
                simp only [hp1, hp2] at hK
                go_simp
                exact hK _ _ (by simpa [ldW] using hS) rfl
              · intro ld u w1 hi he hS hp K hK
                refine ord_plain rfl ?_
                simp at hp hK ⊢
                simp only [hp] at hK
                go_simp
                exact hK _ _ (by simpa [ldW] using hS) rfl
              · intro ld u w1 hi he hS hp K hK
                refine ord_plain rfl ?_
                simp at hp hK ⊢
                simp only [hp] at hK
                have hc := (HC.out w1 (by by_cases h11 : ld 11 = true <;> simp [h11] at hS <;> simp [hS])).2
                go_simp
                exact hK _ _ (by simpa [ldW] using hS) rfl
              · intro ld u w1 hi he hS hp K hK
                refine ord_plain rfl ?_
                simp at hp hK ⊢
                obtain ⟨hp1, hp2, hp3⟩ := hp
                simp only [hp1, hp2, hp3] at hK
                simp [hi] at hS
                subst hS
                go_simp
                refine HK.out.mono ?_
                rintro e w2 ⟨⟨r, rfl⟩, k1, k2⟩
                refine hK _ _ ?_; simp [ldW]; exact ⟨k1, k2⟩
              · intro u w1 ld hld hS hp
                simp at hp ⊢
                have h11 := hld 11 (by decide)
                simp [h11] at hS
                obtain ⟨s1, s2⟩ := hS
                have S1' := Lib.hid s1
                have S2' := Lib.hid (HD2.out.drew.trans (HW2.out ▸ s2))
                clear s1 s2
                have hll := L2.out.1
                have hj2 := HJ.out
                go_wp2_with fail
                go_roundw
                case rel => exact ⟨j + 1, HJ.out, by go_num, S1'.out, S2'.out⟩
                case measure => have := HJ.out; simp [intOf]; omega
            · obtain rfl : j = ss2.length := by omega
              rw [List.take_length] at HD1
              have hm2 : m3 + ss2.length < 1000000 := by have := L1.out.1; have := L2.out.1; omega
              have hq1 := wro_len n ss2
              obtain ⟨q, hq⟩ : ∃ q, q = (wro n ss2).length := ⟨_, rfl⟩
              have hl2 := L2.out.1
              rw [← hq] at hq1
              have HQQ := Lib.hid hq
              have HM2 := Lib.hid hm2
              have HL2 := Lib.hid hl2
              clear hq hm2 hl2
              have hq3 : ¬ (ss2.length : Int) < (q : Int) := by omega
              go_wp2_with fail
              refine (dk_loose _ _ _ _ _ _ _ _ HD1.out).mono ?_
              rintro e y3 ⟨rfl, rfl⟩
              rw [← HQQ.out]
              go_wp2_with fail
              refine (dk_loose _ _ _ _ _ _ _ _ HD1.out).mono ?_
              rintro e y3 ⟨rfl, rfl⟩
              rw [← HQQ.out]
              by_cases hk0 : (k : Int) = 0
              · obtain rfl : k = 0 := by omega
                go_wp2_with fail
                refine (dk_sync _ _ _ _ _ _ _ _ HD1.out HM2.out).mono ?_
                rintro e yx ⟨rfl, d1, d2⟩
                have HDx := Lib.hid d1
                have HOx := Lib.hid (HD2.out.trans d2)
                clear d1 d2 HD1 HD2
                go_wp2_with fail
                refine (dk_sure _ _ _ _ _ _ _ _ HDx.out).mono ?_
                rintro e yz ⟨rfl, d1, d2⟩
                have HDz := Lib.hid d1
                have HOz := Lib.hid (HOx.out.trans (d2.mono (T := fun b => B ≤ b) fun _ h => h.elim))
                clear d1 d2 HDx HOx
                have HOR := Lib.hid (((HOz.out.owns HB1.out (fun q hq => by have := (HB1.out.lt q hq).2; have := HBB.out; omega))))
                have HQ := Lib.hid HB1.out.lt
                obtain ⟨As, cs, hsv, _⟩ := own_form HB1.out
                subst hsv
                go_wp2_with (at_builtin; refine wpList_append_any _ rfl (.tmp 136) (.tmp 139) 43 rfl w.heap.size 9 i0 (.string ⟨#[]⟩) 1 16 Try.underlying43 hi hz0 hz1 hz2 rfl (by decide) _ _ _ rfl (((Only.refl (fun _ => False) yz).alloc _).owns HOR.out (fun _ _ h => h)) _ _ _ _ _ rfl (reads_one _) ?c2 ?c3 ?c4 ?c5 ?_)
                case c2 => intro u hu; simp at hu; subst hu; rfl
                case c3 => unfold maxLen; omega
                case c4 => omega
                case c5 => have := HDz.out.size; have := HWB.out; simp; omega
                intro v' w' hown' hgrow hnew
                have Hb : Below w.heap.size w w' := by
                  have b1 : Below w.heap.size w yz := HB2.out.trans (HOz.out.below (fun b hb => Nat.le_trans HWB.out hb) HB2.out.size)
                  exact b1.trans ((((Below.refl w.heap.size yz).alloc (by have := HDz.out.size; have := HWB.out; omega) _).grown hgrow (by have := HDz.out.size; have := HWB.out; simp; omega) (fun q hq => (HQ.out q hq).1)))
                have Ho := Lib.hid hown'
                have HBb := Lib.hid Hb
                clear hown' hgrow hnew Hb
                go_wp2_with fail
                go_roundw
                case rel => exact ⟨0 + 1, by omega, by go_num, by simpa using Ho.out, HBb.out⟩
                case measure => simp [intOf]
              have hwhole : crashW (wro n ss2) ((List.range (wro n ss2).length).map (fun i : Nat => (128 : Int) + (i : Int)) ++ ps) G = syncW (wro n ss2) G := whole_sync 0 n G (ss2.map keyS) ps
              have hnone : crashW (wro n ss2) (List.replicate (wro n ss2).length 0 ++ ps) G = G := whole_none 0 HO.out (ss2.map keyS) ps
              rw [← HQQ.out] at hwhole hnone
              have HWH := Lib.hid hwhole
              have HNO := Lib.hid hnone
              have hq200 : q ≤ 200 := by have := HL2.out; omega
              obtain ⟨pb, hpb⟩ : ∃ pb, pb = yr.heap.size := ⟨_, rfl⟩
              obtain ⟨yp, hyp⟩ : ∃ yp, yp = yr.alloc (.cells (pickL 0 q).toArray 3) := ⟨_, rfl⟩
              have HPP := Lib.hid HD1.out.lts
              have HPB : Hid (p < pb ∧ gs < pb ∧ B ≤ pb ∧ w.heap.size ≤ pb) := Lib.hid ⟨by rw [hpb]; exact HPP.out.1, by rw [hpb]; exact HPP.out.2, by rw [hpb]; exact Nat.le_of_lt HD1.out.size, by rw [hpb]; exact Nat.le_trans HWB.out (Nat.le_of_lt HD1.out.size)⟩
              have hm := run_make_rowN 23 3 i1 (.int .i64 0) (by kernel_rfl) hi1 hy0 .i64 .i64 q q (Nat.le_refl _) (by rw [hy2]; omega) (by omega) yr
              rw [hy1, pickL_zero, ← hpb, ← hyp] at hm
              have HE0 : Hid (Blk yp pb 3 (pickL 0 q).toArray) := Lib.hid (by rw [hyp, hpb]; exact Blk.new yr _ _)
              have HE1 : Hid (Dk yp p gs n G (wro n ss2) B (m3 + ss2.length)) := Lib.hid (HD1.out.only (by rw [hyp]; exact (Only.refl _ yr).alloc _))
              have HE2 : Hid (Only (fun b => B ≤ b) wo yp) := Lib.hid (HD2.out.trans (by rw [hyp]; exact (Only.refl _ yr).alloc _))
              clear hwhole hnone hpb hyp
              by_cases hk1 : (k : Int) = 1
              · obtain rfl : k = 1 := by omega
                go_wp2_with fail
                refine (dk_loose _ _ _ _ _ _ _ _ HD1.out).mono ?_
                rintro e y3 ⟨rfl, rfl⟩
                rw [← HQQ.out]
                clear HD1 HD2
                go_wp2_with fail
                clear hm
                go_loopw [17] (fun i y => ∃ j : Nat, j ≤ q ∧ i = .int .i64 j ∧ Blk y pb 3 (pickL j q).toArray ∧ Dk y p gs n G (wro n ss2) B (m3 + ss2.length) ∧ Only (fun b => B ≤ b) wo y) (fun i _ => q - (intOf i).toNat)
                case atStart => exact ⟨0, by omega, rfl, HE0.out, HE1.out, HE2.out⟩
                case round =>
                  obtain ⟨ym, rfl⟩ : ∃ ym, ym = wr := ⟨_, rfl⟩
                  obtain ⟨j, hj, rfl, d0, d1, d2⟩ := hrel
                  have HF0 := Lib.hid d0
                  have HF1 := Lib.hid d1
                  have HF2 := Lib.hid d2
                  clear d1 d2
                  by_cases hjl : (j : Int) < (q : Int)
                  · have hjl' : j < q := by omega
                    have HJ := Lib.hid hjl'
                    have hc : ym.cell? ⟨pb, j, none⟩ = some (.int .i64 0) := by rw [d0.cell]; exact pickL_cell j q hjl'
                    have hf : ym.frozen? ⟨pb, j, none⟩ = false := d0.frozen j
                    clear d0 hjl'
                    go_wp2_with fail
                    have HV : Hid (Blk (ym.setCell ⟨pb, j, none⟩ (.int .i64 ((128 : Int) + (j : Int)))) pb 3 (pickL (j + 1) q).toArray) := Lib.hid (by have := HF0.out.set_ j (.int .i64 ((128 : Int) + (j : Int))); rwa [pickL_set j q HJ.out] at this)
                    go_roundw
                    case rel => exact ⟨j + 1, HJ.out, by go_num, HV.out, HF1.out.away HF0.out ((Only.refl (fun b => b = pb) ym).setCell (p := ⟨pb, j, none⟩) (.inl rfl) _) (by decide) (by decide) (by decide), HF2.out.setCell (p := ⟨pb, j, none⟩) (.inl HPB.out.2.2.1) _⟩
                    case measure => have := HJ.out; simp [intOf]; omega
                  · obtain rfl : j = q := by omega
                    clear d0
                    have hRd := HR.out.below (HB2.out.trans (HF2.out.below (fun b hb => Nat.le_trans HWB.out hb) HB2.out.size))
                    have hOwn := own_of_blk (base := pb) (xs := pickL j j ) HF0.out (Nat.le_refl _) (pickL_len _ _ (by omega)) (by unfold maxLen; omega)
                    have HRd := Lib.hid hRd
                    have HOwn := Lib.hid hOwn
                    clear hRd hOwn
                    go_wp2_with (at_builtin; refine wpList_append_any _ rfl (.tmp 120) (.tmp 121) 23 rfl pb 3 i1 (.int .i64 0) 1 8 Try.underlying23 hi1 hy0 hy1 hy2 rfl (by decide) _ _ _ rfl HOwn.out w.heap.size _ _ _ _ rfl HRd.out ints_oneCell ?c3 ?c4 ?c5 ?_)
                    case c3 => unfold maxLen; omega
                    case c4 => omega
                    case c5 => exact Nat.le_of_lt HF0.out.lt
                    intro v' w' hown' hgrow hnew
                    obtain ⟨Ap, cp, rfl, hAp⟩ := own_form hown'
                    have hrd := Reads.of_own hown'
                    have hon : Only (fun b => b = pb) ym w' := (Only.refl (fun b => b = pb) ym).grown hgrow (fun q hq => .inl (by simpa [Value.ownBlock] using hq.symm))
                    have hD' := HF1.out.away HF0.out hon (by decide) (by decide) (by decide)
                    have hO' := HF2.out.trans (hon.mono (T := fun b => B ≤ b) (fun b hb => by rw [hb]; exact HPB.out.2.2.1))
                    clear hon
                    rw [pickL_all, ← List.map_append] at hrd
                    have hlen : j + ps.length = ((List.range j).map (fun i : Nat => (128 : Int) + (i : Int)) ++ ps).length := by simp
                    have hcr := dk_crash p gs n G (wro n ss2) B _ ((List.range j).map (fun i : Nat => (128 : Int) + (i : Int)) ++ ps) Ap cp w'.heap.size w' hD' (hlen ▸ hrd) (Nat.le_refl _) (fun ad h => by have := hAp ad h; have := HPB.out; omega)
                    rw [← hlen, HWH.out] at hcr
                    have HCR := Lib.hid hcr
                    have HO' := Lib.hid hO'
                    clear hcr hO' hD' hrd hown' hgrow hnew hAp hlen
                    go_wp2_with fail
                    refine HCR.out.mono ?_
                    rintro e yx ⟨rfl, d1, d2⟩
                    have HDx := Lib.hid d1
                    have HOx := Lib.hid (HO'.out.trans d2)
                    clear d1 d2
                    go_wp2_with fail
                    refine (dk_sure _ _ _ _ _ _ _ _ HDx.out).mono ?_
                    rintro e yz ⟨rfl, d1, d2⟩
                    have HDz := Lib.hid d1
                    have HOz := Lib.hid (HOx.out.trans (d2.mono (T := fun b => B ≤ b) fun _ h => h.elim))
                    clear d1 d2 HDx HOx
                    have HOR := Lib.hid (((HOz.out.owns HB1.out (fun q hq => by have := (HB1.out.lt q hq).2; have := HBB.out; omega))))
                    have HQ := Lib.hid HB1.out.lt
                    obtain ⟨As, cs, hsv, _⟩ := own_form HB1.out
                    subst hsv
                    go_wp2_with (at_builtin; refine wpList_append_any _ rfl (.tmp 136) (.tmp 139) 43 rfl w.heap.size 9 i0 (.string ⟨#[]⟩) 1 16 Try.underlying43 hi hz0 hz1 hz2 rfl (by decide) _ _ _ rfl (((Only.refl (fun _ => False) yz).alloc _).owns HOR.out (fun _ _ h => h)) _ _ _ _ _ rfl (reads_one _) ?c2 ?c3 ?c4 ?c5 ?_)
                    case c2 => intro u hu; simp at hu; subst hu; rfl
                    case c3 => unfold maxLen; omega
                    case c4 => omega
                    case c5 => have := HDz.out.size; have := HWB.out; simp; omega
                    intro v' w' hown' hgrow hnew
                    have Hb : Below w.heap.size w w' := by
                      have b1 : Below w.heap.size w yz := HB2.out.trans (HOz.out.below (fun b hb => Nat.le_trans HWB.out hb) HB2.out.size)
                      exact b1.trans ((((Below.refl w.heap.size yz).alloc (by have := HDz.out.size; have := HWB.out; omega) _).grown hgrow (by have := HDz.out.size; have := HWB.out; simp; omega) (fun q hq => (HQ.out q hq).1)))
                    have Ho := Lib.hid hown'
                    have HBb := Lib.hid Hb
                    clear hown' hgrow hnew Hb
                    go_wp2_with fail
                    go_roundw
                    case rel => exact ⟨1 + 1, by omega, by go_num, by simpa using Ho.out, HBb.out⟩
                    case measure => simp [intOf]
              obtain rfl : k = 2 := by omega
              go_wp2_with fail
              refine (dk_loose _ _ _ _ _ _ _ _ HD1.out).mono ?_
              rintro e y3 ⟨rfl, rfl⟩
              rw [← HQQ.out]
              clear HD1 HD2
              have hRd := HR.out.below (HB2.out.trans (HE2.out.below (fun b hb => Nat.le_trans HWB.out hb) HB2.out.size))
              have hOwn := own_of_blk (base := pb) (xs := pickL 0 q ) HE0.out (Nat.le_refl _) (pickL_len _ _ (by omega)) (by unfold maxLen; omega)
              have HRd := Lib.hid hRd
              have HOwn := Lib.hid hOwn
              clear hRd hOwn
              go_wp2_with (at_builtin; refine wpList_append_any _ rfl (.tmp 128) (.tmp 129) 23 rfl pb 3 i1 (.int .i64 0) 1 8 Try.underlying23 hi1 hy0 hy1 hy2 rfl (by decide) _ _ _ rfl HOwn.out w.heap.size _ _ _ _ rfl HRd.out ints_oneCell ?c3 ?c4 ?c5 ?_)
              case c3 => unfold maxLen; omega
              case c4 => omega
              case c5 => exact Nat.le_of_lt HE0.out.lt
              intro v' w' hown' hgrow hnew
              obtain ⟨Ap, cp, rfl, hAp⟩ := own_form hown'
              have hrd := Reads.of_own hown'
              have hon : Only (fun b => b = pb) yp w' := (Only.refl (fun b => b = pb) yp).grown hgrow (fun q hq => .inl (by simpa [Value.ownBlock] using hq.symm))
              have hD' := HE1.out.away HE0.out hon (by decide) (by decide) (by decide)
              have hO' := HE2.out.trans (hon.mono (T := fun b => B ≤ b) (fun b hb => by rw [hb]; exact HPB.out.2.2.1))
              clear hon
              rw [pickL_none, ← List.map_append] at hrd
              have hlen : q + ps.length = (List.replicate q (0 : Int) ++ ps).length := by simp
              have hcr := dk_crash p gs n G (wro n ss2) B _ (List.replicate q (0 : Int) ++ ps) Ap cp w'.heap.size w' hD' (hlen ▸ hrd) (Nat.le_refl _) (fun ad h => by have := hAp ad h; have := HPB.out; omega)
              rw [← hlen, HNO.out] at hcr
              have HCR := Lib.hid hcr
              have HO' := Lib.hid hO'
              clear hcr hO' hD' hrd hown' hgrow hnew hAp hlen
              go_wp2_with fail
              refine HCR.out.mono ?_
              rintro e yx ⟨rfl, d1, d2⟩
              have HDw := Lib.hid d1
              have HOw := Lib.hid (HO'.out.trans d2)
              clear d1 d2
              go_wp2_with fail
              refine (dk_sure _ _ _ _ _ _ _ _ HDw.out).mono ?_
              rintro e yv ⟨rfl, d1, d2⟩
              have HDx := Lib.hid d1
              have HOx := Lib.hid (HOw.out.trans (d2.mono (T := fun b => B ≤ b) fun _ h => h.elim))
              clear d1 d2 HDw HOw
              go_wp2_with fail
              refine (dk_sure _ _ _ _ _ _ _ _ HDx.out).mono ?_
              rintro e yz ⟨rfl, d1, d2⟩
              have HDz := Lib.hid d1
              have HOz := Lib.hid (HOx.out.trans (d2.mono (T := fun b => B ≤ b) fun _ h => h.elim))
              clear d1 d2 HDx HOx
              have HOR := Lib.hid (((HOz.out.owns HB1.out (fun q hq => by have := (HB1.out.lt q hq).2; have := HBB.out; omega))))
              have HQ := Lib.hid HB1.out.lt
              obtain ⟨As, cs, hsv, _⟩ := own_form HB1.out
              subst hsv
              go_wp2_with (at_builtin; refine wpList_append_any _ rfl (.tmp 136) (.tmp 139) 43 rfl w.heap.size 9 i0 (.string ⟨#[]⟩) 1 16 Try.underlying43 hi hz0 hz1 hz2 rfl (by decide) _ _ _ rfl (((Only.refl (fun _ => False) yz).alloc _).owns HOR.out (fun _ _ h => h)) _ _ _ _ _ rfl (reads_one _) ?c2 ?c3 ?c4 ?c5 ?_)
              case c2 => intro u hu; simp at hu; subst hu; rfl
              case c3 => unfold maxLen; omega
              case c4 => omega
              case c5 => have := HDz.out.size; have := HWB.out; simp; omega
              intro v' w' hown' hgrow hnew
              have Hb : Below w.heap.size w w' := by
                have b1 : Below w.heap.size w yz := HB2.out.trans (HOz.out.below (fun b hb => Nat.le_trans HWB.out hb) HB2.out.size)
                exact b1.trans ((((Below.refl w.heap.size yz).alloc (by have := HDz.out.size; have := HWB.out; omega) _).grown hgrow (by have := HDz.out.size; have := HWB.out; simp; omega) (fun q hq => (HQ.out q hq).1)))
              have Ho := Lib.hid hown'
              have HBb := Lib.hid Hb
              clear hown' hgrow hnew Hb
              go_wp2_with fail
              go_roundw
              case rel => exact ⟨2 + 1, by omega, by go_num, by simpa using Ho.out, HBb.out⟩
              case measure => simp [intOf]
    · obtain rfl : k = 3 := by omega
      obtain ⟨g9, cap9, hsv, hg1, hg2, hgc⟩ := own_cells HB1.out (by omega)
      subst hsv
      have C0 := Lib.hid (hgc 0 (.string (strG (syncW (wro n ss2) G))) rfl)
      have C1 := Lib.hid (hgc 1 (.string (strG (syncW (wro n ss2) G))) rfl)
      obtain ⟨TT, hTT⟩ : ∃ TT, TT = strG (syncW (wro n ss2) G) := ⟨_, rfl⟩
      rw [← hTT] at C0 C1
      obtain ⟨W2, hW2⟩ : ∃ W2, W2 = wo.drew := ⟨_, rfl⟩
      have C0' : Hid (W2.cell? ⟨g9, 0, none⟩ = some (.string TT)) := Lib.hid (by rw [hW2]; exact C0.out)
      have C1' : Hid (W2.cell? ⟨g9, 1, none⟩ = some (.string TT)) := Lib.hid (by rw [hW2]; exact C1.out)
      have hg3 : Hid (g9 < W2.heap.size) := Lib.hid (by rw [hW2]; exact hg2)
      have HW2 := Lib.hid hW2
      clear hgc hTT hW2 C0 C1
      go_wp2_with fail
      refine wp_region_st (by kernel_rfl) (fun ld y => Only (fun _ => False) W2 y) [Is (.slice (some ⟨g9, 0, none⟩) 3 cap9), Is (.pointer (some ⟨g9, 0, none⟩)), Is (.string TT), Is (.slice (some ⟨g9, 0, none⟩) 3 cap9), Is (.pointer (some ⟨g9, 1, none⟩)), Is (.string TT), Is (.bool true), Is (.bool true), Is (.bool true), Is (.bool true), Is (.bool true)] (by kernel_rfl)
        ⟨is_stab _ _, is_stab _ _, is_stab _ _, is_stab _ _, is_stab _ _, is_stab _ _, is_stab _ _, is_stab _ _, is_stab _ _, is_stab _ _, is_stab _ _, trivial⟩ (by rw [HW2.out]; exact Only.refl _ _) ⟨?_, ?_, ?_, ?_, ?_, ?_, ?_, ?_, ?_, ?_, ?_, trivial⟩ ?_
      · intro ld u w1 hi he hS hp K hK
        refine ord_plain rfl ?_
        simp at hp hK ⊢
        go_simp
        exact hK _ _ hS rfl
      · intro ld u w1 hi he hS hp K hK
        refine ord_plain rfl ?_
        simp at hp hK ⊢
        simp only [hp] at hK
        go_simp
        exact hK _ _ hS rfl
      · intro ld u w1 hi he hS hp K hK
        refine ord_plain rfl ?_
        simp at hp hK ⊢
        simp only [hp] at hK
        have hc := (hS.cell (p := ⟨g9, 0, none⟩) hg3.out (fun h => h)).trans C0'.out
        go_simp
        exact hK _ _ hS rfl
      · intro ld u w1 hi he hS hp K hK
        refine ord_plain rfl ?_
        simp at hp hK ⊢
        go_simp
        exact hK _ _ hS rfl
      · intro ld u w1 hi he hS hp K hK
        refine ord_plain rfl ?_
        simp at hp hK ⊢
        simp only [hp] at hK
        go_simp
        exact hK _ _ hS rfl
      · intro ld u w1 hi he hS hp K hK
        refine ord_plain rfl ?_
        simp at hp hK ⊢
        simp only [hp] at hK
        have hc := (hS.cell (p := ⟨g9, 1, none⟩) hg3.out (fun h => h)).trans C1'.out
        go_simp
        exact hK _ _ hS rfl
      · intro ld u w1 hi he hS hp K hK
        refine ord_plain rfl ?_
        simp at hp hK ⊢
        obtain ⟨hp1, hp2⟩ := hp
        simp only [hp1, hp2] at hK
        go_simp
        exact hK _ _ hS rfl
      · intro ld u w1 hi he hS hp K hK
        refine ord_plain rfl ?_
        simp at hp hK ⊢
        simp only [hp] at hK
        go_simp
        exact hK _ _ hS rfl
      · intro ld u w1 hi he hS hp K hK
        simp at hp hK
        refine ord_guard rfl (by simp [yielded, hp]) ?_
        simp only [hp] at hK
        go_simp
        refine (alive_any w1).mono ?_
        rintro e w9 ⟨rfl, hb2⟩
        exact hK _ _ (hS.trans (Only.below_ hb2)) rfl
      · intro ld u w1 hi he hS hp K hK
        refine ord_plain rfl ?_
        simp at hp hK ⊢
        obtain ⟨hp1, hp2⟩ := hp
        simp only [hp1, hp2] at hK
        go_simp
        exact hK _ _ hS rfl
      · intro ld u w1 hi he hS hp K hK
        refine ord_plain rfl ?_
        simp at hp hK ⊢
        obtain ⟨hp1, hp2, hp3, hp4, hp5, hp6, hp7, hp8, hp9, hp10, hp11, hp12⟩ := hp
        simp only [hp1, hp2, hp3, hp4, hp5, hp6, hp7, hp8, hp9, hp10, hp11, hp12] at hK
        go_simp
        exact hK _ _ hS rfl
      · intro u w1 ld hld hS hp
        simp at hp ⊢
        obtain ⟨_, _, _, _, _, _, _, _, _, _, h10⟩ := hp
        simp only [h10]
        go_wp2_with fail
        go_ret
        exact ⟨rfl, HB2.out.trans ((((Only.refl (fun _ => False) wo).drew).trans (HW2.out ▸ hS)).below (fun _ h => h.elim) HB2.out.size)⟩
end Go.Proofs.Ytlpnhikoipkjbaa
