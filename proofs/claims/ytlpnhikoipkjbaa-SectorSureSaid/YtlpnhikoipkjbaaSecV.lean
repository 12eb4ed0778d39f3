/- SectorSure: its walk. -/
import Derived.Test.YtlpnhikoipkjbaaSecR
import Derived.Test.YtlpnhikoipkjbaaSecX
import Derived.Test.YtlpnhikoipkjbaaSecW
namespace Go.Proofs.Ytlpnhikoipkjbaa
open Go.RowKit Go.WideShapes Go.ChangeShapes
set_option linter.unusedVariables false
attribute [local simp] frOf dstsOf frGo predsHold allHold Region.binds slotOf seen Is Act.put
theorem sure_script {n : Nat} {G : List (List UInt8)} (h : SecOk n [] G) (ss : List SP) (ps : List Int) (x : Nat) : byteAt (strG (crashW (wro n ss) ps G)) x = byteAt (strG G) x ∨ ∃ (j0 : Nat) (s0 : SP), ss[j0]? = some s0 ∧ s0.k = ((x / 128 : Nat) : Int) ∧ s0.text.size ≤ 128 ∧ byteAt s0.text (x % 128) = byteAt (strG (crashW (wro n ss) ps G)) x := by
  rcases sure_byte 0 h (ss.map keyS) ps x with e | ⟨s, hs, e1, e2, e3⟩
  · exact .inl e
  · obtain ⟨s0, h0, rfl⟩ := List.mem_map.1 hs
    obtain ⟨j0, hj0⟩ := List.getElem?_of_mem h0
    exact .inr ⟨j0, s0, hj0, e1, by simpa [keyS] using e2, e3⟩
theorem byteAt_get {s : ByteArray} {j : Nat} (h : j < s.size) : byteAt s j = s[j] := by
  unfold byteAt
  rw [List.getD_eq_getElem?_getD, List.getElem?_eq_getElem (by simpa using h)]
  rfl
theorem ord_skip {o : Oper} {y : Nat → Option Bool} {X Y : Prop} {j : Nat} {b : Bool} (hg : o.guard = some (j, b)) (hy : y j = some (!b)) (h : Y) : if Region.wanted o y = true then X else Y := by
  have hw : ¬ Region.wanted o y = true := by cases b <;> simp [Region.wanted, hg, hy]
  rw [if_neg hw]
  exact h
theorem strG_part {G : List (List UInt8)} {j : Nat} {t : List UInt8} (hall : ∀ s ∈ G, s.length = 128) (ht : G[j]? = some t) : (strG G).extract (j * 128) (j * 128 + 128) = ⟨t.toArray⟩ := by
  have hj : j < G.length := (List.getElem?_eq_some_iff.1 ht).1
  have h1 := flat_mid G j hall hj
  have h2 : G.getD j [] = t := by rw [List.getD_eq_getElem?_getD, ht]; rfl
  have h3 := hall t (List.mem_of_getElem? ht)
  unfold strG
  rw [ByteArray.extract_mk]
  congr 1
  apply Array.toList_inj.1
  simp only [List.extract_toArray, List.extract_eq_take_drop]
  rw [h1, h2, show j * 128 + 128 - j * 128 = t.length by omega, List.take_left]
set_option maxHeartbeats 4000000 in
set_option maxRecDepth 100000 in
theorem sure_law (x0 : Int) (hx0 : 0 ≤ x0) (hx1 : x0 ≤ 255) (ss1 ss2 : List SP) (ps other : List Int) (A1 A2 A3 A4 : Option Addr) (c1 c2 c3 c4 : Nat) (w : World) (S1 : Scr w w.heap.size A1 ss1) (S2 : Scr w w.heap.size A2 ss2) (hr : Reads w w.heap.size 1 A3 ps.length (ps.map (.int .i64))) (hr' : Reads w w.heap.size 1 A4 other.length (other.map (.int .i64)))
    (m1 : ss1.length ≤ maxLen) (m2 : ss2.length ≤ maxLen) (m3 : ps.length ≤ maxLen) (m4 : other.length ≤ maxLen) :
    Calls Try.prog 3 #[.int .u8 x0, .slice A1 ss1.length c1, .slice A2 ss2.length c2, .slice A3 ps.length c3, .slice A4 other.length c4] w fun e w' => e = .returned (.bool true) ∧ Below w.heap.size w w' := by
  have H1 := Lib.hid S1
  have H2 := Lib.hid S2
  have HR := Lib.hid hr
  have HR4 := Lib.hid hr'
  have M1 := Lib.hid m1
  have M2 := Lib.hid m2
  clear S1 S2 hr hr' m1 m2 m3 m4
  go_enter Try.func3, Try.ntmps3
  go_wp2_with fail
  refine (heavy_any _ _ _ _ _ H1.out M1.out).mono ?_
  rintro e w1 ⟨⟨b, rfl, hb1⟩, rfl⟩
  rcases b with _ | _
  case true =>
    clear hb1
    go_wp2_with fail
    refine (alive_any _).mono ?_
    rintro e w1 ⟨rfl, B⟩
    go_wp2_with fail
    go_ret
    exact ⟨rfl, B⟩
  have L1 := Lib.hid (hb1 rfl)
  clear hb1
  go_wp2_with fail
  refine (heavy_any _ _ _ _ _ H2.out M2.out).mono ?_
  rintro e w1 ⟨⟨b, rfl, hb1⟩, rfl⟩
  rcases b with _ | _
  case true =>
    clear hb1
    go_wp2_with fail
    refine (alive_any _).mono ?_
    rintro e w1 ⟨rfl, B⟩
    go_wp2_with fail
    go_ret
    exact ⟨rfl, B⟩
  have L2 := Lib.hid (hb1 rfl)
  clear hb1
  by_cases h3 : (300 : Int) < ps.length
  · go_wp2_with fail
    refine (alive_any _).mono ?_
    rintro e w1 ⟨rfl, B⟩
    go_wp2_with fail
    go_ret
    exact ⟨rfl, B⟩
  by_cases h4 : (300 : Int) < other.length
  · go_wp2_with fail
    refine (alive_any _).mono ?_
    rintro e w1 ⟨rfl, B⟩
    go_wp2_with fail
    go_ret
    exact ⟨rfl, B⟩
  obtain ⟨n, hn⟩ : ∃ n : Nat, (n : Int) = 1 + x0 % 9 := ⟨(1 + x0 % 9).toNat, by omega⟩
  have hn1 : 1 ≤ n := by omega
  have hn2 : n ≤ 4096 := by omega
  go_wp2_with fail
  rw [← hn]
  clear hn
  refine (dk_new n w hn1 hn2).mono ?_
  rintro e wd ⟨rfl, d1, d2⟩
  obtain ⟨p, hp⟩ : ∃ p, p = w.heap.size + 1 := ⟨_, rfl⟩
  obtain ⟨gs, hgs⟩ : ∃ gs, gs = w.heap.size := ⟨_, rfl⟩
  obtain ⟨B, hB⟩ : ∃ B, B = w.heap.size := ⟨_, rfl⟩
  obtain ⟨mm, hmm, d1'⟩ : ∃ mm, mm ≤ 500 ∧ Dk wd p gs n (zeroG n) [] B mm := ⟨0, by omega, by rw [hp, hgs, hB]; exact d1⟩
  have HD := Lib.hid d1'
  have HOD := Lib.hid (d2.mono (T := fun b => B ≤ b) fun _ h => h.elim)
  have HBB := Lib.hid hB
  have HPG : Hid (w.heap.size ≤ p ∧ w.heap.size ≤ gs) := Lib.hid (by omega)
  rw [← hp]
  clear hp hgs hB d1 d1' d2
  go_wp2_with fail
  go_loopw [14] (fun i y => ∃ (j : Nat) (g : List (List UInt8)) (l : List (Nat × List UInt8)), j ≤ ss1.length ∧ i = .int .i64 j ∧ Dk y p gs n g l B (mm + j) ∧ Only (fun b => B ≤ b) w y) (fun i _ => ss1.length - (intOf i).toNat)
  case atStart => exact ⟨0, _, _, by omega, rfl, HD.out, HOD.out⟩
  case round =>
    obtain ⟨yr, rfl⟩ : ∃ yr, yr = wr := ⟨_, rfl⟩
    obtain ⟨j, g, l, hj, rfl, d1, d2⟩ := hrel
    have HD1 := Lib.hid d1
    have HD2 := Lib.hid d2
    clear d1 d2
    by_cases hjl : (j : Int) < (ss1.length : Int)
    · have hjl' : j < ss1.length := by omega
      obtain ⟨s, hs⟩ : ∃ s, ss1[j]? = some s := ⟨_, List.getElem?_eq_getElem hjl'⟩
      obtain ⟨b, off, rfl, hb, e0, e1, e2, e3, e4, e5, e6⟩ := H1.out j s hs
      have hsz := (L1.out.2 s (List.mem_of_getElem? hs)).1
      have hll := L1.out.1
      have hjm := hj
      have hcall := dk_write p gs n g l B (mm + j) s.k s.text yr.drew (HD1.out.only (Only.refl _ yr).drew) (by omega) (by omega)
      generalize l ++ (wrote 0 n (s.k, s.text.data.toList)).toList = l2 at hcall
      have HK := Lib.hid hcall
      have hcl : ∀ y, (y = yr.drew ∨ Only (fun b => B ≤ b) yr.drew y) → y.cell? ⟨b, off + j * 4 + 1, none⟩ = some (.int .i64 s.k) ∧ y.cell? ⟨b, off + j * 4 + 2, none⟩ = some (.string s.text) := by
        intro y hy
        have ho : Only (fun b => B ≤ b) w y := by
          rcases hy with rfl | hy
          · exact HD2.out.drew
          · exact HD2.out.drew.trans hy
        have q : ∀ o, y.cell? ⟨b, o, none⟩ = w.cell? ⟨b, o, none⟩ := fun o => ho.cell (p := ⟨b, o, none⟩) hb (by have := HBB.out; simp only; omega)
        exact ⟨(q _).trans e1, (q _).trans e2⟩
      have E0 := Lib.hid e0
      have E3 := Lib.hid e3
      have E4 := Lib.hid e4
      have E6 := Lib.hid e6
      have HBL := Lib.hid hb
      obtain ⟨W2, hW2⟩ : ∃ W2, W2 = yr.drew := ⟨_, rfl⟩
      rw [← hW2] at hcl HK
      have HW2 := Lib.hid hW2
      have HS := Lib.hid hs
      have HC := Lib.hid hcl
      have HJ := Lib.hid hjl'
      clear hs e0 e1 e2 e3 e4 e5 e6 hsz hll hjm hcall hcl hW2
      go_wp2_with fail
      refine wp_region_st (by kernel_rfl) (fun ld y => if ld 11 = true then (Dk y p gs n g l2 B (mm + j + 1) ∧ Only (fun b => B ≤ b) W2 y) else y = W2) [Is (.pointer (some ⟨p, 0, none⟩)), Is (.slice (some ⟨b, off, none⟩) ss1.length c1), Is (.int .i64 j), Is (.pointer (some ⟨b, off + j * 4, none⟩)), Is (.pointer (some ⟨b, off + j * 4 + 1, none⟩)), Is (.int .i64 s.k), Is (.slice (some ⟨b, off, none⟩) ss1.length c1), Is (.int .i64 j), Is (.pointer (some ⟨b, off + j * 4, none⟩)), Is (.pointer (some ⟨b, off + j * 4 + 2, none⟩)), Is (.string s.text), fun _ _ => True] (by kernel_rfl)
        ⟨is_stab _ _, is_stab _ _, is_stab _ _, is_stab _ _, is_stab _ _, is_stab _ _, is_stab _ _, is_stab _ _, is_stab _ _, is_stab _ _, is_stab _ _, (fun _ _ _ _ _ => trivial), trivial⟩ (by simp; exact HW2.out.symm) ⟨?_, ?_, ?_, ?_, ?_, ?_, ?_, ?_, ?_, ?_, ?_, ?_, trivial⟩ ?_
      · intro ld u w1 hi he hS hp K hK
        refine ord_plain rfl ?_
        simp at hp hK ⊢
        go_simp
        exact hK _ _ (by simpa [ldW] using hS) rfl
      · intro ld u w1 hi he hS hp K hK
        refine ord_plain rfl ?_
        simp at hp hK ⊢
        go_simp
        exact hK _ _ (by simpa [ldW] using hS) rfl
      · intro ld u w1 hi he hS hp K hK
        refine ord_plain rfl ?_
        simp at hp hK ⊢
        go_simp
        exact hK _ _ (by simpa [ldW] using hS) rfl
      · intro ld u w1 hi he hS hp K hK
        refine ord_plain rfl ?_
        simp at hp hK ⊢
        obtain ⟨hp1, hp2⟩ := hp
        simp only [hp1, hp2] at hK
        go_simp
        exact hK _ _ (by simpa [ldW] using hS) rfl
      · intro ld u w1 hi he hS hp K hK
        refine ord_plain rfl ?_
        simp at hp hK ⊢
        simp only [hp] at hK
        go_simp
        exact hK _ _ (by simpa [ldW] using hS) rfl
      · intro ld u w1 hi he hS hp K hK
        refine ord_plain rfl ?_
        simp at hp hK ⊢
        simp only [hp] at hK
        have hc := (HC.out w1 (by by_cases h11 : ld 11 = true <;> simp [h11] at hS <;> simp [hS])).1
        go_simp
        exact hK _ _ (by simpa [ldW] using hS) rfl
      · intro ld u w1 hi he hS hp K hK
        refine ord_plain rfl ?_
        simp at hp hK ⊢
        go_simp
        exact hK _ _ (by simpa [ldW] using hS) rfl
      · intro ld u w1 hi he hS hp K hK
        refine ord_plain rfl ?_
        simp at hp hK ⊢
        go_simp
        exact hK _ _ (by simpa [ldW] using hS) rfl
      · intro ld u w1 hi he hS hp K hK
        refine ord_plain rfl ?_
        simp at hp hK ⊢
        obtain ⟨hp1, hp2⟩ := hp
        simp only [hp1, hp2] at hK
        go_simp
        exact hK _ _ (by simpa [ldW] using hS) rfl
      · intro ld u w1 hi he hS hp K hK
        refine ord_plain rfl ?_
        simp at hp hK ⊢
        simp only [hp] at hK
        go_simp
        exact hK _ _ (by simpa [ldW] using hS) rfl
      · intro ld u w1 hi he hS hp K hK
        refine ord_plain rfl ?_
        simp at hp hK ⊢
        simp only [hp] at hK
        have hc := (HC.out w1 (by by_cases h11 : ld 11 = true <;> simp [h11] at hS <;> simp [hS])).2
        go_simp
        exact hK _ _ (by simpa [ldW] using hS) rfl
      · intro ld u w1 hi he hS hp K hK
        refine ord_plain rfl ?_
        simp at hp hK ⊢
        obtain ⟨hp1, hp2, hp3⟩ := hp
        simp only [hp1, hp2, hp3] at hK
        simp [hi] at hS
        subst hS
        go_simp
        refine HK.out.mono ?_
        rintro e w2 ⟨⟨r, rfl⟩, k1, k2⟩
        refine hK _ _ ?_; simp [ldW]; exact ⟨k1, k2⟩
      · intro u w1 ld hld hS hp
        simp at hp ⊢
        have h11 := hld 11 (by decide)
        simp [h11] at hS
        obtain ⟨s1, s2⟩ := hS
        have S1' := Lib.hid s1
        have S2' := Lib.hid (HD2.out.drew.trans (HW2.out ▸ s2))
        clear s1 s2
        have hq : ∀ o, w1.cell? ⟨b, o, none⟩ = w.cell? ⟨b, o, none⟩ := fun o => S2'.out.cell (p := ⟨b, o, none⟩) HBL.out (by have := HBB.out; have := HBL.out; simp only; omega)
        have k0 := (hq _).trans E0.out
        have k3 := (hq _).trans E3.out
        have hact := E6.out.2.2
        clear hq
        by_cases hdo : s.act % 5 = 4
        · go_wp2_with fail
          have hrp := E4.out.below (S2'.out.below (B := w.heap.size) (fun b hb => by have := HBB.out; omega) (Nat.le_refl _))
          refine (dk_crash p gs n g l2 B _ s.picks s.la s.lc w.heap.size w1 S1'.out hrp S2'.out.size (fun h0 ad h => by obtain ⟨ad', e1, e2, _⟩ := E4.out.2 h0; rw [h] at e1; cases e1; have := HPG.out; omega)).mono ?_
          rintro e w9 ⟨rfl, d1, d2⟩
          have D1 := Lib.hid d1
          have D2 := Lib.hid (S2'.out.trans d2)
          clear d1 d2 hrp k0 k3
          have hll := L1.out.1
          have hj2 := HJ.out
          go_wp2_with fail
          go_roundw
          case rel => exact ⟨j + 1, _, _, HJ.out, by go_num, D1.out, D2.out⟩
          case measure => have := HJ.out; simp [intOf]; omega
        · clear k3
          have hll := L1.out.1
          have hj2 := HJ.out
          go_wp2_with fail
          go_roundw
          case rel => exact ⟨j + 1, _, _, HJ.out, by go_num, S1'.out, S2'.out⟩
          case measure => have := HJ.out; simp [intOf]; omega
    · obtain rfl : j = ss1.length := by omega
      have hm1 : mm + ss1.length < 1000000 := by have := L1.out.1; omega
      go_wp2_with fail
      refine (dk_sync _ _ _ _ _ _ _ _ HD1.out hm1).mono ?_
      rintro e y1 ⟨rfl, d1, d2⟩
      have hsz1 := L1.out.1
      obtain ⟨G, m3, hm3, d1⟩ : ∃ G m3, m3 ≤ 1000 ∧ Dk y1 p gs n G [] B m3 := ⟨_, _, by omega, d1⟩
      have HD3 := Lib.hid d1
      have HO3 := Lib.hid (HD2.out.trans d2)
      clear d1 d2 HD1 HD2 hm1 hsz1
      go_wp2_with fail
      refine (dk_loose _ _ _ _ _ _ _ _ HD3.out).mono ?_
      rintro e y2 ⟨rfl, rfl⟩
      go_wp2_with fail
      obtain ⟨sure, hsure⟩ : ∃ sure, sure = strG G := ⟨_, rfl⟩
      have hssz : (sure.size : Int) = (n : Int) * 128 := by
        rw [hsure]
        have := flat_length G HD3.out.ok.all
        rw [HD3.out.ok.len] at this
        simp [strG, ByteArray.size, this]
      have hds := dk_sure _ _ _ _ _ _ _ _ HD3.out
      rw [← hsure] at hds
      have HSU := Lib.hid hsure
      clear hsure
      refine hds.mono ?_
      clear hds
      rintro e y2 ⟨rfl, d1, d2⟩
      have HD4 := Lib.hid d1
      have HO4 := Lib.hid (HO3.out.trans (d2.mono (T := fun b => B ≤ b) fun _ h => h.elim))
      clear d1 d2 HD3 HO3
      have hr4 := HR4.out.below (HO4.out.below (B := w.heap.size) (fun b hb => by have := HBB.out; omega) (Nat.le_refl _))
      have hcr := dk_crash p gs n G [] B m3 other A4 c4 w.heap.size y2 HD4.out hr4 HO4.out.size (fun h0 ad h => by obtain ⟨ad', e1, e2, _⟩ := HR4.out.2 h0; rw [h] at e1; cases e1; have := HPG.out; omega)
      have hcn : crashW ([] : List (Nat × List UInt8)) other G = G := by unfold crashW; rfl
      rw [hcn] at hcr
      have HCR := Lib.hid hcr
      clear hr4 hcr hcn
      go_wp2_with fail
      refine HCR.out.mono ?_
      rintro e y3 ⟨rfl, d1, d2⟩
      have HD5 := Lib.hid d1
      have HO5 := Lib.hid (HO4.out.trans d2)
      clear d1 d2 HD4 HO4 HCR
      go_wp2_with fail
      have hds := dk_sure _ _ _ _ _ _ _ _ HD5.out
      rw [← HSU.out] at hds
      refine hds.mono ?_
      clear hds
      rintro e y4 ⟨rfl, d1, d2⟩
      have HD6 := Lib.hid d1
      have HO6 := Lib.hid (HO5.out.trans (d2.mono (T := fun b => B ≤ b) fun _ h => h.elim))
      clear d1 d2 HD5 HO5
      go_wp2_with fail
      go_loopw [16] (fun i y => ∃ j : Nat, j ≤ n ∧ i = .int .i64 j ∧ Dk y p gs n G [] B m3 ∧ Only (fun b => B ≤ b) w y) (fun i _ => n - (intOf i).toNat)
      case atStart => exact ⟨0, by omega, rfl, HD6.out, HO6.out⟩
      case round =>
        obtain ⟨y5, rfl⟩ : ∃ yr, yr = wr := ⟨_, rfl⟩
        obtain ⟨j, hj, rfl, d1, d2⟩ := hrel
        have HD1 := Lib.hid d1
        have HD2 := Lib.hid d2
        clear d1 d2
        by_cases hjl : (j : Int) < (n : Int)
        · have hjl' : j < n := by omega
          obtain ⟨t, ht⟩ : ∃ t, G[j]? = some t := ⟨_, List.getElem?_eq_getElem (by rw [HD1.out.ok.len]; exact hjl')⟩
          have hex : sure.extract (j * 128) (j * 128 + 128) = ⟨t.toArray⟩ := by
            rw [HSU.out]
            exact strG_part HD1.out.ok.all ht
          have HEX := Lib.hid hex
          have HT := Lib.hid ht
          clear hex ht
          go_wp2_with fail
          refine (read_any p gs n G B m3 j t _ HD1.out hjl' HT.out).mono ?_
          rintro e y7 ⟨rfl, d1, d2⟩
          have HD7 := Lib.hid d1
          have HO7 := Lib.hid (HD2.out.trans (d2.mono (T := fun b => B ≤ b) fun _ h => h.elim))
          clear d1 d2 HD1 HD2
          go_wp2_with fail
          · exfalso
            rename_i hh
            rw [show (j + 1) * 128 = j * 128 + 128 by omega, HEX.out] at hh
            simp at hh
          have hj9 := hjl'
          refine ⟨⟨j + 1, hj9, by go_num, HD7.out, HO7.out⟩, by simp [intOf]; omega⟩
        · obtain rfl : n = j := by omega
          have HD8 := Lib.hid HD1.out
          have HO8 := Lib.hid HD2.out
          clear HD1 HD2 HD6 HO6
          go_wp2_with fail
          go_loopw [19] (fun i y => ∃ j : Nat, j ≤ ss2.length ∧ i = .int .i64 j ∧ Dk y p gs n G (wro n (ss2.take j)) B (m3 + j) ∧ Only (fun b => B ≤ b) w y) (fun i _ => ss2.length - (intOf i).toNat)
          case atStart => exact ⟨0, by omega, rfl, HD8.out, HO8.out⟩
          case round =>
            obtain ⟨yr, rfl⟩ : ∃ yr, yr = wr := ⟨_, rfl⟩
            obtain ⟨j, hj, rfl, d1, d2⟩ := hrel
            have HD1 := Lib.hid d1
            have HD2 := Lib.hid d2
            clear d1 d2
            by_cases hjl : (j : Int) < (ss2.length : Int)
            · have hjl' : j < ss2.length := by omega
              obtain ⟨s, hs⟩ : ∃ s, ss2[j]? = some s := ⟨_, List.getElem?_eq_getElem hjl'⟩
              obtain ⟨b, off, rfl, hb, e0, e1, e2, e3, e4, e5, e6⟩ := H2.out j s hs
              have hsz := (L2.out.2 s (List.mem_of_getElem? hs)).1
              have hll := L2.out.1
              have hjm := hj
              have hcall := dk_write p gs n G (wro n (ss2.take j)) B (m3 + j) s.k s.text yr.drew (HD1.out.only (Only.refl _ yr).drew) (by omega) (by omega)
              rw [← wro_snoc n ss2 hs] at hcall
              have HK := Lib.hid hcall
              have hcl : ∀ y, (y = yr.drew ∨ Only (fun b => B ≤ b) yr.drew y) → y.cell? ⟨b, off + j * 4 + 1, none⟩ = some (.int .i64 s.k) ∧ y.cell? ⟨b, off + j * 4 + 2, none⟩ = some (.string s.text) := by
                intro y hy
                have ho : Only (fun b => B ≤ b) w y := by
                  rcases hy with rfl | hy
                  · exact HD2.out.drew
                  · exact HD2.out.drew.trans hy
                have q : ∀ o, y.cell? ⟨b, o, none⟩ = w.cell? ⟨b, o, none⟩ := fun o => ho.cell (p := ⟨b, o, none⟩) hb (by have := HBB.out; simp only; omega)
                exact ⟨(q _).trans e1, (q _).trans e2⟩
              have E0 := Lib.hid e0
              have E3 := Lib.hid e3
              have E4 := Lib.hid e4
              have E6 := Lib.hid e6
              have HBL := Lib.hid hb
              obtain ⟨W2, hW2⟩ : ∃ W2, W2 = yr.drew := ⟨_, rfl⟩
              rw [← hW2] at hcl HK
              have HW2 := Lib.hid hW2
              have HS := Lib.hid hs
              have HC := Lib.hid hcl
              have HJ := Lib.hid hjl'
              clear hs e0 e1 e2 e3 e4 e5 e6 hsz hll hjm hcall hcl hW2
              go_wp2_with fail
              refine wp_region_st (by kernel_rfl) (fun ld y => if ld 11 = true then (Dk y p gs n G (wro n (ss2.take (j + 1))) B (m3 + j + 1) ∧ Only (fun b => B ≤ b) W2 y) else y = W2) [Is (.pointer (some ⟨p, 0, none⟩)), Is (.slice (some ⟨b, off, none⟩) ss2.length c2), Is (.int .i64 j), Is (.pointer (some ⟨b, off + j * 4, none⟩)), Is (.pointer (some ⟨b, off + j * 4 + 1, none⟩)), Is (.int .i64 s.k), Is (.slice (some ⟨b, off, none⟩) ss2.length c2), Is (.int .i64 j), Is (.pointer (some ⟨b, off + j * 4, none⟩)), Is (.pointer (some ⟨b, off + j * 4 + 2, none⟩)), Is (.string s.text), fun _ _ => True] (by kernel_rfl)
                ⟨is_stab _ _, is_stab _ _, is_stab _ _, is_stab _ _, is_stab _ _, is_stab _ _, is_stab _ _, is_stab _ _, is_stab _ _, is_stab _ _, is_stab _ _, (fun _ _ _ _ _ => trivial), trivial⟩ (by simp; exact HW2.out.symm) ⟨?_, ?_, ?_, ?_, ?_, ?_, ?_, ?_, ?_, ?_, ?_, ?_, trivial⟩ ?_
              · intro ld u w1 hi he hS hp K hK
                refine ord_plain rfl ?_
                simp at hp hK ⊢
                go_simp
                exact hK _ _ (by simpa [ldW] using hS) rfl
              · intro ld u w1 hi he hS hp K hK
                refine ord_plain rfl ?_
                simp at hp hK ⊢
                go_simp
                exact hK _ _ (by simpa [ldW] using hS) rfl
              · intro ld u w1 hi he hS hp K hK
                refine ord_plain rfl ?_
                simp at hp hK ⊢
                go_simp
                exact hK _ _ (by simpa [ldW] using hS) rfl
              · intro ld u w1 hi he hS hp K hK
                refine ord_plain rfl ?_
                simp at hp hK ⊢
                obtain ⟨hp1, hp2⟩ := hp
                simp only [hp1, hp2] at hK
                go_simp
                exact hK _ _ (by simpa [ldW] using hS) rfl
              · intro ld u w1 hi he hS hp K hK
                refine ord_plain rfl ?_
                simp at hp hK ⊢
                simp only [hp] at hK
                go_simp
                exact hK _ _ (by simpa [ldW] using hS) rfl
              · intro ld u w1 hi he hS hp K hK
                refine ord_plain rfl ?_
                simp at hp hK ⊢
                simp only [hp] at hK
                have hc := (HC.out w1 (by by_cases h11 : ld 11 = true <;> simp [h11] at hS <;> simp [hS])).1
                go_simp
                exact hK _ _ (by simpa [ldW] using hS) rfl
              · intro ld u w1 hi he hS hp K hK
                refine ord_plain rfl ?_
                simp at hp hK ⊢
                go_simp
                exact hK _ _ (by simpa [ldW] using hS) rfl
              · intro ld u w1 hi he hS hp K hK
                refine ord_plain rfl ?_
                simp at hp hK ⊢
                go_simp
                exact hK _ _ (by simpa [ldW] using hS) rfl
              · intro ld u w1 hi he hS hp K hK
                refine ord_plain rfl ?_
                simp at hp hK ⊢
                obtain ⟨hp1, hp2⟩ := hp
                simp only [hp1, hp2] at hK
                go_simp
                exact hK _ _ (by simpa [ldW] using hS) rfl
              · intro ld u w1 hi he hS hp K hK
                refine ord_plain rfl ?_
                simp at hp hK ⊢
                simp only [hp] at hK
                go_simp
                exact hK _ _ (by simpa [ldW] using hS) rfl
              · intro ld u w1 hi he hS hp K hK
                refine ord_plain rfl ?_
                simp at hp hK ⊢
                simp only [hp] at hK
                have hc := (HC.out w1 (by by_cases h11 : ld 11 = true <;> simp [h11] at hS <;> simp [hS])).2
                go_simp
                exact hK _ _ (by simpa [ldW] using hS) rfl
              · intro ld u w1 hi he hS hp K hK
                refine ord_plain rfl ?_
                simp at hp hK ⊢
                obtain ⟨hp1, hp2, hp3⟩ := hp
                simp only [hp1, hp2, hp3] at hK
                simp [hi] at hS
                subst hS
                go_simp
                refine HK.out.mono ?_
                rintro e w2 ⟨⟨r, rfl⟩, k1, k2⟩
                refine hK _ _ ?_; simp [ldW]; exact ⟨k1, k2⟩
              · intro u w1 ld hld hS hp
                simp at hp ⊢
                have h11 := hld 11 (by decide)
                simp [h11] at hS
                obtain ⟨s1, s2⟩ := hS
                have S1' := Lib.hid s1
                have S2' := Lib.hid (HD2.out.drew.trans (HW2.out ▸ s2))
                clear s1 s2
                have hll := L2.out.1
                have hj2 := HJ.out
                go_wp2_with fail
                go_roundw
                case rel => exact ⟨j + 1, HJ.out, by go_num, S1'.out, S2'.out⟩
                case measure => have := HJ.out; simp [intOf]; omega
            · obtain rfl : j = ss2.length := by omega
              rw [List.take_length] at HD1
              go_wp2_with fail
              have hds := dk_sure _ _ _ _ _ _ _ _ HD1.out
              rw [← HSU.out] at hds
              refine hds.mono ?_
              clear hds
              rintro e y6 ⟨rfl, d1, d2⟩
              have HD9 := Lib.hid d1
              have HO9 := Lib.hid (HD2.out.trans (d2.mono (T := fun b => B ≤ b) fun _ h => h.elim))
              clear d1 d2 HD1 HD2
              have hr4 := HR.out.below (HO9.out.below (B := w.heap.size) (fun b hb => by have := HBB.out; omega) (Nat.le_refl _))
              have hcr := dk_crash p gs n G (wro n ss2) B _ ps A3 c3 w.heap.size y6 HD9.out hr4 HO9.out.size (fun h0 ad h => by obtain ⟨ad', e1, e2, _⟩ := HR.out.2 h0; rw [h] at e1; cases e1; have := HPG.out; omega)
              have HCR := Lib.hid hcr
              clear hr4 hcr
              go_wp2_with fail
              refine HCR.out.mono ?_
              rintro e y7 ⟨rfl, d1, d2⟩
              have HDa := Lib.hid d1
              have HOa := Lib.hid (HO9.out.trans d2)
              clear d1 d2 HD9 HO9 HCR
              obtain ⟨now, hnow⟩ : ∃ now, now = strG (crashW (wro n ss2) ps G) := ⟨_, rfl⟩
              have hnsz : (now.size : Int) = (n : Int) * 128 := by
                rw [hnow]
                have := flat_length _ HDa.out.ok.all
                rw [HDa.out.ok.len] at this
                simp [strG, ByteArray.size, this]
              have hds := dk_sure _ _ _ _ _ _ _ _ HDa.out
              rw [← hnow] at hds
              have HNW := Lib.hid hnow
              clear hnow
              go_wp2_with fail
              refine hds.mono ?_
              clear hds
              rintro e y8 ⟨rfl, d1, d2⟩
              have HDb := Lib.hid d1
              have HOb := Lib.hid (HOa.out.trans (d2.mono (T := fun b => B ≤ b) fun _ h => h.elim))
              clear d1 d2 HDa HOa
              have hbyte : ∀ x, byteAt now x = byteAt sure x ∨ ∃ (j0 : Nat) (s0 : SP), ss2[j0]? = some s0 ∧ s0.k = ((x / 128 : Nat) : Int) ∧ s0.text.size ≤ 128 ∧ byteAt s0.text (x % 128) = byteAt now x := by
                intro x
                rw [HNW.out, HSU.out]
                exact sure_script HD8.out.ok ss2 ps x
              have HBY := Lib.hid hbyte
              clear hbyte
              go_wp2_with fail
              go_loopw [21] (fun i y => ∃ j : Nat, j ≤ now.size ∧ i = .int .i64 j ∧ Only (fun b => B ≤ b) w y) (fun i _ => now.size - (intOf i).toNat)
              case atStart => exact ⟨0, by omega, rfl, HOb.out⟩
              case round =>
                obtain ⟨y9, rfl⟩ : ∃ yr, yr = wr := ⟨_, rfl⟩
                obtain ⟨j, hj, rfl, d2⟩ := hrel
                have HD2 := Lib.hid d2
                clear d2
                by_cases hjl : (j : Int) < (now.size : Int)
                · have hjn : j < now.size := by omega
                  have hjs : j < sure.size := by omega
                  have hjs' : (j : Int) < (sure.size : Int) := by omega
                  obtain ⟨W2, hW2⟩ : ∃ W2, W2 = y9.drew := ⟨_, rfl⟩
                  have HW2 := Lib.hid hW2
                  clear hW2
                  go_wp2_with fail
                  have hdec : decide ((j : Int) < (n : Int) * 128) = true := by simp; omega
                  simp only [hdec]
                  clear hdec
                  have HSS := Lib.hid hssz
                  have HNS := Lib.hid hnsz
                  clear hssz hnsz hjl hj
                  by_cases hb : byteAt now j = byteAt sure j
                  · have HE : Hid ((((byteAt now j).toNat : Int) != ((byteAt sure j).toNat : Int)) = false) := Lib.hid (by rw [hb]; simp)
                    clear hb
                    refine wp_region_st (by kernel_rfl) (fun ld y => Only (fun _ => False) W2 y) [Is (.string now), Is (.int .i64 j), Is (.int .u8 ((byteAt now j).toNat : Int)), Is (.string sure), Is (.int .i64 j), Is (.int .u8 ((byteAt sure j).toNat : Int)), Is (.bool false), Is (.bool false), IsAny, IsAny, IsAny, IsAny, IsAny, IsAny, IsAny, IsAny, IsAny, IsAny, Is (.bool false)] (by kernel_rfl)
                      ⟨is_stab _ _, is_stab _ _, is_stab _ _, is_stab _ _, is_stab _ _, is_stab _ _, is_stab _ _, is_stab _ _, isAny_stab _, isAny_stab _, isAny_stab _, isAny_stab _, isAny_stab _, isAny_stab _, isAny_stab _, isAny_stab _, isAny_stab _, isAny_stab _, is_stab _ _, trivial⟩ (by rw [HW2.out]; exact Only.refl _ _) ⟨?_, ?_, ?_, ?_, ?_, ?_, ?_, ?_, ?_, ?_, ?_, ?_, ?_, ?_, ?_, ?_, ?_, ?_, ?_, trivial⟩ ?_
                    · intro ld u w1 hi he hS hp K hK
                      refine ord_plain rfl ?_
                      simp at hp hK ⊢
                      go_simp
                      exact hK _ _ hS rfl
                    · intro ld u w1 hi he hS hp K hK
                      refine ord_plain rfl ?_
                      simp at hp hK ⊢
                      go_simp
                      exact hK _ _ hS rfl
                    · intro ld u w1 hi he hS hp K hK
                      refine ord_plain rfl ?_
                      simp at hp hK ⊢
                      obtain ⟨hp1, hp2⟩ := hp
                      simp only [hp1, hp2] at hK
                      go_simp
                      exact hK _ _ hS (congrArg (fun (b : UInt8) => Value.int .u8 (b.toNat : Int)) (byteAt_get hjn).symm)
                    · intro ld u w1 hi he hS hp K hK
                      refine ord_plain rfl ?_
                      simp at hp hK ⊢
                      go_simp
                      exact hK _ _ hS rfl
                    · intro ld u w1 hi he hS hp K hK
                      refine ord_plain rfl ?_
                      simp at hp hK ⊢
                      go_simp
                      exact hK _ _ hS rfl
                    · intro ld u w1 hi he hS hp K hK
                      refine ord_plain rfl ?_
                      simp at hp hK ⊢
                      obtain ⟨hp1, hp2⟩ := hp
                      simp only [hp1, hp2] at hK
                      go_simp
                      exact hK _ _ hS (congrArg (fun (b : UInt8) => Value.int .u8 (b.toNat : Int)) (byteAt_get hjs).symm)
                    · intro ld u w1 hi he hS hp K hK
                      refine ord_plain rfl ?_
                      simp at hp hK ⊢
                      obtain ⟨hp1, hp2⟩ := hp
                      simp only [hp1, hp2] at hK
                      go_simp
                      exact hK _ _ hS (congrArg Value.bool HE.out)
                    · intro ld u w1 hi he hS hp K hK
                      refine ord_plain rfl ?_
                      simp at hp hK ⊢
                      simp only [hp] at hK
                      go_simp
                      exact hK _ _ hS rfl
                    · intro ld u w1 hi he hS hp K hK
                      simp at hp
                      exact ord_skip rfl (by simp [yielded, hp]) ⟨hS, trivial⟩
                    · intro ld u w1 hi he hS hp K hK
                      simp at hp
                      exact ord_skip rfl (by simp [yielded, hp]) ⟨hS, trivial⟩
                    · intro ld u w1 hi he hS hp K hK
                      simp at hp
                      exact ord_skip rfl (by simp [yielded, hp]) ⟨hS, trivial⟩
                    · intro ld u w1 hi he hS hp K hK
                      simp at hp
                      exact ord_skip rfl (by simp [yielded, hp]) ⟨hS, trivial⟩
                    · intro ld u w1 hi he hS hp K hK
                      simp at hp
                      exact ord_skip rfl (by simp [yielded, hp]) ⟨hS, trivial⟩
                    · intro ld u w1 hi he hS hp K hK
                      simp at hp
                      exact ord_skip rfl (by simp [yielded, hp]) ⟨hS, trivial⟩
                    · intro ld u w1 hi he hS hp K hK
                      simp at hp
                      exact ord_skip rfl (by simp [yielded, hp]) ⟨hS, trivial⟩
                    · intro ld u w1 hi he hS hp K hK
                      simp at hp
                      exact ord_skip rfl (by simp [yielded, hp]) ⟨hS, trivial⟩
                    · intro ld u w1 hi he hS hp K hK
                      simp at hp
                      exact ord_skip rfl (by simp [yielded, hp]) ⟨hS, trivial⟩
                    · intro ld u w1 hi he hS hp K hK
                      simp at hp
                      exact ord_skip rfl (by simp [yielded, hp]) ⟨hS, trivial⟩
                    · intro ld u w1 hi he hS hp K hK
                      refine ord_plain rfl ?_
                      simp at hp hK ⊢
                      obtain ⟨hp1, hp2⟩ := hp
                      simp only [hp1, hp2] at hK
                      go_simp
                      exact hK _ _ hS rfl
                    · intro u w1 ld hld hS hp
                      simp at hp ⊢
                      have h18 := hp.2.2.2.2.2.2.2.2
                      simp only [h18]
                      have HD3 := Lib.hid (HD2.out.drew.trans (HW2.out ▸ (hS.mono (T := fun b => B ≤ b) fun _ h => h.elim)))
                      go_wp2_with fail
                      have hjn2 := hjn
                      refine ⟨⟨j + 1, hjn2, by go_num, HD3.out⟩, by simp [intOf]; omega⟩
                  · have HE : Hid ((((byteAt now j).toNat : Int) != ((byteAt sure j).toNat : Int)) = true) := Lib.hid (by
                      rw [bne_iff_ne]
                      exact fun e => hb (UInt8.toNat_inj.1 (by omega)))
                    have HWP : Hid (IntKind.i64.wrap ((j : Int) / 128) = (j : Int) / 128) := Lib.hid (IntWalk.i64_in _ (by have := HNS.out; omega))
                    have HWR : Hid (∀ y, Only (fun _ => False) W2 y → Calls Try.prog 15 #[.slice A2 ss2.length c2, .int .i64 ((j / 128 : Nat) : Int), .int .i64 ((j % 128 : Nat) : Int), .int .u8 ((byteAt now j).toNat : Int)] y fun e w' => e = .returned (.bool true) ∧ y = w') := Lib.hid (by
                      intro y hoy
                      rcases HBY.out j with h | ⟨j0, s0, h0, h1, h2, h3⟩
                      · exact absurd h hb
                      · refine written_any w.heap.size A2 c2 ss2 _ _ _ _ ?_ L2.out.1 (by omega) j0 s0 h0 ⟨h1, h2, h3⟩
                        rw [HW2.out] at hoy
                        exact H2.out.below ((HD2.out.drew.trans (hoy.mono (T := fun b => B ≤ b) fun _ h => h.elim)).below (fun b hb => by have := HBB.out; omega) (Nat.le_refl _)))
                    clear hb
                    refine wp_region_st (by kernel_rfl) (fun ld y => Only (fun _ => False) W2 y) [Is (.string now), Is (.int .i64 j), Is (.int .u8 ((byteAt now j).toNat : Int)), Is (.string sure), Is (.int .i64 j), Is (.int .u8 ((byteAt sure j).toNat : Int)), Is (.bool true), Is (.bool true), Is (.slice A2 ss2.length c2), Is (.int .i64 j), Is (.int .i64 ((j / 128 : Nat) : Int)), Is (.int .i64 j), Is (.int .i64 ((j % 128 : Nat) : Int)), Is (.string now), Is (.int .i64 j), Is (.int .u8 ((byteAt now j).toNat : Int)), Is (.bool true), Is (.bool false), Is (.bool false)] (by kernel_rfl)
                      ⟨is_stab _ _, is_stab _ _, is_stab _ _, is_stab _ _, is_stab _ _, is_stab _ _, is_stab _ _, is_stab _ _, is_stab _ _, is_stab _ _, is_stab _ _, is_stab _ _, is_stab _ _, is_stab _ _, is_stab _ _, is_stab _ _, is_stab _ _, is_stab _ _, is_stab _ _, trivial⟩ (by rw [HW2.out]; exact Only.refl _ _) ⟨?_, ?_, ?_, ?_, ?_, ?_, ?_, ?_, ?_, ?_, ?_, ?_, ?_, ?_, ?_, ?_, ?_, ?_, ?_, trivial⟩ ?_
                    · intro ld u w1 hi he hS hp K hK
                      refine ord_plain rfl ?_
                      simp at hp hK ⊢
                      go_simp
                      exact hK _ _ hS rfl
                    · intro ld u w1 hi he hS hp K hK
                      refine ord_plain rfl ?_
                      simp at hp hK ⊢
                      go_simp
                      exact hK _ _ hS rfl
                    · intro ld u w1 hi he hS hp K hK
                      refine ord_plain rfl ?_
                      simp at hp hK ⊢
                      obtain ⟨hp1, hp2⟩ := hp
                      simp only [hp1, hp2] at hK
                      go_simp
                      exact hK _ _ hS (congrArg (fun (b : UInt8) => Value.int .u8 (b.toNat : Int)) (byteAt_get hjn).symm)
                    · intro ld u w1 hi he hS hp K hK
                      refine ord_plain rfl ?_
                      simp at hp hK ⊢
                      go_simp
                      exact hK _ _ hS rfl
                    · intro ld u w1 hi he hS hp K hK
                      refine ord_plain rfl ?_
                      simp at hp hK ⊢
                      go_simp
                      exact hK _ _ hS rfl
                    · intro ld u w1 hi he hS hp K hK
                      refine ord_plain rfl ?_
                      simp at hp hK ⊢
                      obtain ⟨hp1, hp2⟩ := hp
                      simp only [hp1, hp2] at hK
                      go_simp
                      exact hK _ _ hS (congrArg (fun (b : UInt8) => Value.int .u8 (b.toNat : Int)) (byteAt_get hjs).symm)
                    · intro ld u w1 hi he hS hp K hK
                      refine ord_plain rfl ?_
                      simp at hp hK ⊢
                      obtain ⟨hp1, hp2⟩ := hp
                      simp only [hp1, hp2] at hK
                      go_simp
                      exact hK _ _ hS (congrArg Value.bool HE.out)
                    · intro ld u w1 hi he hS hp K hK
                      refine ord_plain rfl ?_
                      simp at hp hK ⊢
                      simp only [hp] at hK
                      go_simp
                      exact hK _ _ hS rfl
                    · intro ld u w1 hi he hS hp K hK
                      simp at hp hK
                      refine ord_guard rfl (by simp [yielded, hp]) ?_
                      simp only [hp] at hK
                      go_simp
                      exact hK _ _ hS rfl
                    · intro ld u w1 hi he hS hp K hK
                      simp at hp hK
                      refine ord_guard rfl (by simp [yielded, hp]) ?_
                      simp only [hp] at hK
                      go_simp
                      exact hK _ _ hS rfl
                    · intro ld u w1 hi he hS hp K hK
                      simp at hp hK
                      refine ord_guard rfl (by simp [yielded, hp]) ?_
                      obtain ⟨hp1, hp2⟩ := hp
                      simp only [hp1, hp2] at hK
                      have hwr : IntKind.i64.wrap ((j : Int) / 128) = (j : Int) / 128 := HWP.out
                      go_simp
                      exact hK _ _ hS rfl
                    · intro ld u w1 hi he hS hp K hK
                      simp at hp hK
                      refine ord_guard rfl (by simp [yielded, hp]) ?_
                      simp only [hp] at hK
                      go_simp
                      exact hK _ _ hS rfl
                    · intro ld u w1 hi he hS hp K hK
                      simp at hp hK
                      refine ord_guard rfl (by simp [yielded, hp]) ?_
                      obtain ⟨hp1, hp2⟩ := hp
                      simp only [hp1, hp2] at hK
                      go_simp
                      exact hK _ _ hS rfl
                    · intro ld u w1 hi he hS hp K hK
                      simp at hp hK
                      refine ord_guard rfl (by simp [yielded, hp]) ?_
                      simp only [hp] at hK
                      go_simp
                      exact hK _ _ hS rfl
                    · intro ld u w1 hi he hS hp K hK
                      simp at hp hK
                      refine ord_guard rfl (by simp [yielded, hp]) ?_
                      simp only [hp] at hK
                      go_simp
                      exact hK _ _ hS rfl
                    · intro ld u w1 hi he hS hp K hK
                      simp at hp hK
                      refine ord_guard rfl (by simp [yielded, hp]) ?_
                      obtain ⟨hp1, hp2, hp3⟩ := hp
                      simp only [hp1, hp2, hp3] at hK
                      go_simp
                      exact hK _ _ hS (congrArg (fun (b : UInt8) => Value.int .u8 (b.toNat : Int)) (byteAt_get hjn).symm)
                    · intro ld u w1 hi he hS hp K hK
                      simp at hp hK
                      refine ord_guard rfl (by simp [yielded, hp]) ?_
                      obtain ⟨hp1, hp2, hp3, hp4, hp5⟩ := hp
                      simp only [hp1, hp2, hp3, hp4, hp5] at hK
                      go_simp
                      refine (HWR.out w1 hS).mono ?_
                      rintro e w9 ⟨rfl, rfl⟩
                      exact hK _ _ hS rfl
                    · intro ld u w1 hi he hS hp K hK
                      simp at hp hK
                      refine ord_guard rfl (by simp [yielded, hp]) ?_
                      obtain ⟨hp1, hp2⟩ := hp
                      simp only [hp1, hp2] at hK
                      go_simp
                      exact hK _ _ hS rfl
                    · intro ld u w1 hi he hS hp K hK
                      refine ord_plain rfl ?_
                      simp at hp hK ⊢
                      obtain ⟨hp1, hp2⟩ := hp
                      simp only [hp1, hp2] at hK
                      go_simp
                      exact hK _ _ hS rfl
                    · intro u w1 ld hld hS hp
                      simp at hp ⊢
                      have h18 := hp.2.2.2.2.2.2.2.2.2.2.2.2.2.2.2.2.2.2
                      simp only [h18]
                      have HD3 := Lib.hid (HD2.out.drew.trans (HW2.out ▸ (hS.mono (T := fun b => B ≤ b) fun _ h => h.elim)))
                      go_wp2_with fail
                      have hjn2 := hjn
                      refine ⟨⟨j + 1, hjn2, by go_num, HD3.out⟩, by simp [intOf]; omega⟩
                · obtain rfl : j = now.size := by omega
                  go_wp2_with fail
                  refine (alive_any _).mono ?_
                  rintro e w1 ⟨rfl, hb⟩
                  go_wp2_with fail
                  go_ret
                  exact ⟨rfl, (HD2.out.below (fun b hb => by have := HBB.out; omega) (Nat.le_refl _)).trans (hb.mono HD2.out.size)⟩
end Go.Proofs.Ytlpnhikoipkjbaa
