/- DequeSolo: its walk. -/
import Derived.Test.YtmghlhngdopifaaDqZa
import Derived.Test.YtmghlhngdopifaaDeqW
namespace Go.Proofs.Ytmghlhngdopifaa
open Go.RowKit Go.WideShapes Go.ChangeShapes
set_option linter.unusedVariables false
theorem SoloS.more {w : World} {B m d : Nat} {L : List Int} {P N X X' : Int} (h : SoloS w B m d L P N X) (hX : X ≤ X') : SoloS w B m d L P N X' := by
  obtain ⟨n, v, C, ps, acts, on, h1, h2, h3, h4⟩ := h
  exact ⟨n, v, C, ps, acts, on, h1, h2, h3, Int.le_trans h4 hX⟩
set_option maxHeartbeats 4000000 in
set_option maxRecDepth 100000 in
theorem solo_law (vs : List Int) (A : Option Addr) (c : Nat) (st po : Int) (hs0 : 0 ≤ st) (hs1 : st ≤ 255) (hp0 : 0 ≤ po) (hp1 : po ≤ 255) (w : World) (hr : Reads w w.heap.size 1 A vs.length (vs.map (.int .i64))) (hm : vs.length ≤ maxLen) (hc : vs.length ≤ c) :
    Calls Try.prog 4 #[.slice A vs.length c, .int .u8 st, .int .u8 po] w fun e w' => e = .returned (.bool true) ∧ Below w.heap.size w w' := by
  unfold maxLen at hm
  have HR := Lib.hid hr
  have HC9 := Lib.hid hc
  clear hr hc
  go_enter Try.func4, Try.ntmps4
  by_cases h3 : (300 : Int) < vs.length
  · go_wp2_with fail
    refine (works_any _).mono ?_
    rintro e w1 ⟨rfl, B⟩
    go_wp2_with fail
    go_ret
    exact ⟨rfl, B⟩
  go_wp2_with fail
  refine (new_any w).mono ?_
  rintro e w1 ⟨rfl, rfl⟩
  obtain ⟨B, hB⟩ : ∃ B, B = w.heap.size := ⟨_, rfl⟩
  obtain ⟨w1, hw1⟩ : ∃ w1, w1 = w.alloc (.cells #[.int .i64 0, .bool true, .slice none 0 0] 72) := ⟨_, rfl⟩
  have hcm : CMem w1 B B 0 (.slice none 0 0) [] := by rw [hw1, hB]; exact CMem.new w w.heap.size (Nat.le_refl _)
  have HO1 : Hid (Only (fun x => B ≤ x) w w1) := Lib.hid (by rw [hw1]; exact (Only.refl _ w).alloc _)
  rw [← hw1, ← hB]
  have HB := Lib.hid hB
  have hnew := solo_new B B _ 0 (by omega) w1 hcm 10000 (by omega)
  have HN := Lib.hid hnew
  clear hcm hw1 hB hnew
  go_wp2_with fail
  refine HN.out.mono ?_
  rintro e w2 ⟨d, rfl, k1, k2⟩
  have HS := Lib.hid k1
  have HO := Lib.hid (HO1.out.trans k2)
  clear k1 k2
  go_wp2_with fail
  go_loopw [10] (fun i y => ∃ j : Nat, j ≤ vs.length ∧ i = .int .i64 j ∧ SoloS y B B d (vs.take j) j 10000 (5000 * j) ∧ Only (fun x => B ≤ x) w y) (fun i _ => vs.length - (intOf i).toNat)
  case atStart => exact ⟨0, by omega, rfl, by simpa using HS.out, HO.out⟩
  case round =>
    obtain ⟨yr, rfl⟩ : ∃ yr, yr = wr := ⟨_, rfl⟩
    obtain ⟨j, hj, rfl, s1, o1⟩ := hrel
    have S1 := Lib.hid s1
    have O1 := Lib.hid o1
    clear s1 o1
    by_cases hjl : (j : Int) < (vs.length : Int)
    · have hjl' : j < vs.length := by omega
      have hrd := HR.out.below (O1.out.below (B := w.heap.size) (fun b hb => by have := HB.out; omega) (Nat.le_refl _))
      obtain ⟨ad, u, hA, hb, hu, hc⟩ := hrd.at_ hjl'
      rw [List.getElem?_map, List.getElem?_eq_getElem hjl'] at hu
      simp at hu
      subst hA hu
      have HX := Lib.hid (show vs.take (j + 1) = vs.take j ++ [vs[j]] by rw [List.take_succ_eq_append_getElem hjl'])
      have hpush := solo_push vs[j] S1.out (by omega)
      rw [← HX.out] at hpush
      generalize vs[j] = xj at *
      have HP := Lib.hid hpush
      have HJ := Lib.hid hjl'
      clear hrd hb hpush hjl'
      go_wp2_with fail
      refine HP.out.mono ?_
      rintro e y2 ⟨p, rfl, s2, o2⟩
      have S2 := Lib.hid s2
      have O2 := Lib.hid (O1.out.trans o2)
      clear s2 o2
      go_wp2_with fail
      refine (solo_whole S2.out (by omega) (by omega) (by omega) (by omega)).mono ?_
      rintro e y3 ⟨what, val, L', rfl, he, _, s3, o3⟩
      have hend : what = 1 ∧ val = 0 ∧ L' = vs.take (j + 1) := by
        rcases he with ⟨_, e1, e2, e3⟩ | ⟨e, _⟩ | ⟨e, _⟩ | ⟨e, _⟩ | ⟨e, _⟩
        · exact ⟨e1, e2, e3⟩
        all_goals omega
      obtain ⟨rfl, rfl, rfl⟩ := hend
      have S3 := Lib.hid s3
      have O3 := Lib.hid (O2.out.trans o3)
      clear s3 o3 he
      go_wp2_with fail
      refine (solo_size S3.out (by omega)).mono ?_
      rintro e y4 ⟨rfl, s4, o4⟩
      have hlen : (vs.take (j + 1)).length = j + 1 := by rw [List.length_take]; have := HJ.out; omega
      rw [hlen]
      have S4 := Lib.hid s4
      have O4 := Lib.hid (O3.out.trans (o4.mono (T := fun x => B ≤ x) fun _ h => h.elim))
      have hj2 := HJ.out
      clear s4 o4 hlen
      go_wp2_with fail
      go_roundw
      case rel =>
        refine ⟨j + 1, HJ.out, by go_num, ?_, O4.out⟩
        have h5 : (5000 : Int) * (j : Int) + 5000 = 5000 * ((j + 1 : Nat) : Int) := by push_cast; omega
        have h6 : (j : Int) + 1 = ((j + 1 : Nat) : Int) := by push_cast; rfl
        have := S4.out
        rw [h5, h6] at this
        exact this
      case measure => have := HJ.out; simp [intOf]; omega
    · obtain rfl : j = vs.length := by omega
      rw [List.take_length] at S1
      have hrd := HR.out.below (O1.out.below (B := w.heap.size) (fun b hb => by have := HB.out; omega) (Nat.le_refl _))
      have HRD := Lib.hid hrd
      clear hrd
      go_wp2_with fail
      go_loopw [16, 17] (fun l i y => ∃ (k : Nat) (L : List Int) (A' : Option Addr) (c' : Nat), (k : Int) ≤ st ∧ i = .int .i64 k ∧ l = .slice A' L.length c' ∧ L.length ≤ c' ∧ L.length ≤ 300 ∧ Reads y w.heap.size 1 A' L.length (L.map (.int .i64)) ∧ SoloS y B B d L vs.length 10000 (5000 * (vs.length + k)) ∧ Only (fun x => B ≤ x) w y) (fun _ i _ => st.toNat - (intOf i).toNat)
      case atStart => exact ⟨0, vs, A, c, by omega, rfl, rfl, HC9.out, by omega, HRD.out, by simpa using S1.out, O1.out⟩
      case round =>
        obtain ⟨y5, rfl⟩ : ∃ yr, yr = wr := ⟨_, rfl⟩
        obtain ⟨k, L, A', c', hk, rfl, rfl, hlc, hl3, r1, s1, o1⟩ := hrel
        have R1 := Lib.hid r1
        have S1' := Lib.hid s1
        have O1' := Lib.hid o1
        have HLC := Lib.hid hlc
        clear r1 s1 o1 hlc S1 O1 HRD
        by_cases hkl : (k : Int) < st
        · go_wp2_with fail
          refine (solo_steal S1'.out).mono ?_
          rintro e y2 ⟨p, rfl, s2, o2⟩
          have S2 := Lib.hid s2
          have O2 := Lib.hid (O1'.out.trans o2)
          have OO := Lib.hid o2
          clear s2 o2
          go_wp2_with fail
          refine (solo_whole S2.out (by omega) (by omega) (by omega) (by omega)).mono ?_
          rintro e y3 ⟨what, val, L', rfl, he, h2, s3, o3⟩
          have S3 := Lib.hid s3
          have O3 := Lib.hid (O2.out.trans o3)
          have R3 := Lib.hid (R1.out.below ((OO.out.trans o3).below (B := w.heap.size) (fun b hb => by have := HB.out; omega) O1'.out.size))
          clear s3 o3
          cases L with
          | nil =>
            have hend : what = 3 ∧ val = 0 ∧ L' = [] := by
              rcases he with ⟨e, _⟩ | ⟨e, _⟩ | ⟨e, _⟩ | ⟨_, _, e⟩ | ⟨_, e1, e2, e3⟩
              · omega
              · omega
              · omega
              · cases e
              · rcases h2 rfl with ⟨_, h⟩ | h
                · exact ⟨h, e2, e3⟩
                · omega
            obtain ⟨rfl, rfl, rfl⟩ := hend
            clear he h2
            go_wp2_with fail
            refine ⟨⟨k + 1, [], A', c', by omega, by go_num, rfl, by simp, by simp, R3.out, ?_, O3.out⟩, by simp [intOf]; omega⟩
            have h5 : (5000 : Int) * ((vs.length : Int) + (k : Int)) + 5000 = 5000 * ((vs.length : Int) + ((k + 1 : Nat) : Int)) := by push_cast; omega
            have := S3.out
            rwa [h5] at this
          | cons x L2 =>
            have hend : what = 2 ∧ val = x ∧ L' = L2 := by
              rcases h2 rfl with ⟨h, _⟩ | h
              · cases h
              · rcases he with ⟨e, _⟩ | ⟨e, _⟩ | ⟨e, _⟩ | ⟨_, _, e⟩ | ⟨_, e1, e2, e3⟩
                · omega
                · omega
                · omega
                · cases e; exact ⟨h, rfl, rfl⟩
                · omega
            obtain ⟨rfl, rfl, rfl⟩ := hend
            clear he h2
            obtain ⟨ad, rfl, hb, hcl⟩ := R3.out.2 (by simp)
            have c0 : y3.cell? (ad.add 0) = some (.int .i64 val) := hcl 0 _ rfl
            have c0' : y3.cell? ad = some (.int .i64 val) := by
              have : ad.add 0 = ad := by simp [Addr.add]
              rwa [this] at c0
            have hcc := HLC.out
            simp only [List.length_cons] at hcc
            clear hcl hb
            go_wp2_with fail
            refine ⟨⟨k + 1, L', _, c' - 1, by omega, by go_num, rfl, by omega, by simp at hl3; omega, ?_, ?_, O3.out⟩, by simp [intOf]; omega⟩
            · have := R3.out.cut (k := 1) (cap := c') (by simp) HLC.out
              simpa [Addr.add] using this
            · have h5 : (5000 : Int) * ((vs.length : Int) + (k : Int)) + 5000 = 5000 * ((vs.length : Int) + ((k + 1 : Nat) : Int)) := by push_cast; omega
              have := S3.out
              rwa [h5] at this
        · go_wp2_with fail
          go_loopw [16, 23] (fun l i y => ∃ (k : Nat) (L : List Int) (A' : Option Addr) (c' : Nat), (k : Int) ≤ po ∧ i = .int .i64 k ∧ l = .slice A' L.length c' ∧ L.length ≤ c' ∧ L.length ≤ 300 ∧ Reads y w.heap.size 1 A' L.length (L.map (.int .i64)) ∧ SoloS y B B d L vs.length 10000 (5000 * (vs.length + 300 + k)) ∧ Only (fun x => B ≤ x) w y) (fun _ i _ => po.toNat - (intOf i).toNat)
          case atStart => exact ⟨0, L, A', c', by omega, rfl, rfl, HLC.out, hl3, R1.out, SoloS.more S1'.out (by push_cast; omega), O1'.out⟩
          case round =>
            obtain ⟨y6, rfl⟩ : ∃ yr, yr = wr := ⟨_, rfl⟩
            obtain ⟨k, L, A', c', hk, rfl, rfl, hlc, hl3, r1, s1, o1⟩ := hrel
            have R1 := Lib.hid r1
            have S1' := Lib.hid s1
            have O1' := Lib.hid o1
            have HLC := Lib.hid hlc
            clear r1 s1 o1 hlc
            by_cases hkl : (k : Int) < po
            · go_wp2_with fail
              refine (solo_pop S1'.out).mono ?_
              rintro e y2 ⟨p, rfl, s2, o2⟩
              have S2 := Lib.hid s2
              have O2 := Lib.hid (O1'.out.trans o2)
              have OO := Lib.hid o2
              clear s2 o2
              go_wp2_with fail
              refine (solo_whole S2.out (by omega) (by omega) (by omega) (by omega)).mono ?_
              rintro e y3 ⟨what, val, L', rfl, he, h2, s3, o3⟩
              have S3 := Lib.hid s3
              have O3 := Lib.hid (O2.out.trans o3)
              have R3 := Lib.hid (R1.out.below ((OO.out.trans o3).below (B := w.heap.size) (fun b hb => by have := HB.out; omega) O1'.out.size))
              clear s3 o3 h2
              rcases he with ⟨e, _⟩ | ⟨_, rfl, rfl⟩ | ⟨_, rfl, rfl, rfl, rfl⟩ | ⟨e, _⟩ | ⟨e, _⟩
              · omega
              · obtain ⟨ad, rfl, hb, hcl⟩ := R3.out.2 (by simp)
                have c0 : y3.cell? (ad.add L'.length) = some (.int .i64 val) := hcl L'.length _ (by simp)
                have HRL : Hid (Reads y3 w.heap.size 1 (some ad) L'.length (L'.map (.int .i64))) := Lib.hid ⟨by simp, fun hn => ⟨ad, rfl, hb, fun j u hu => hcl j u (by rw [List.map_append, List.getElem?_append_left (List.getElem?_eq_some_iff.1 hu).1]; exact hu)⟩⟩
                have hcc := HLC.out
                simp only [List.length_append, List.length_cons, List.length_nil] at hcc hl3
                clear hcl hb
                go_wp2_with fail
                refine ⟨⟨k + 1, L', _, c', by omega, by go_num, rfl, by omega, by omega, HRL.out, SoloS.more S3.out (by push_cast; omega), O3.out⟩, by simp [intOf]; omega⟩
              · go_wp2_with fail
                refine ⟨⟨k + 1, [], A', c', by omega, by go_num, rfl, by simp, by simp, R3.out, SoloS.more S3.out (by push_cast; omega), O3.out⟩, by simp [intOf]; omega⟩
              · omega
              · omega
            · go_wp2_with fail
              refine (solo_size S1'.out (by omega)).mono ?_
              rintro e y4 ⟨rfl, s4, o4⟩
              have O4 := Lib.hid (O1'.out.trans (o4.mono (T := fun x => B ≤ x) fun _ h => h.elim))
              clear s4 o4
              go_wp2_with fail
              refine (works_any _).mono ?_
              rintro e w1 ⟨rfl, hb⟩
              go_wp2_with fail
              go_ret
              exact ⟨rfl, (O4.out.below (fun b hb => by have := HB.out; omega) (Nat.le_refl _)).trans (hb.mono O4.out.size)⟩
end Go.Proofs.Ytmghlhngdopifaa
