/- Several texts in one: RkB, RkC, RkD, RkE, RkF. -/
import Derived.Test.YtmneflpjoaocbaaGreatMWAV
import Derived.Test.YtmneflpjoaocbaaGreatMWAU
import Derived.Test.YtmneflpjoaocbaaGreatMWAS
import Derived.Test.YtmneflpjoaocbaaGreatMWAG
import Derived.Test.YtmneflpjoaocbaaGreatMWAP
import Derived.Test.YtmneflpjoaocbaaGreatMWAH
/- The document's disk: burn, keep. No conditions beyond what each states. -/
namespace Go.Proofs.YtmneflpjoaocbaaGreat
set_option maxRecDepth 100000
open Go.RowKit
set_option linter.unusedVariables false
attribute [local simp] frOf dstsOf frGo predsHold allHold Region.binds slotOf seen Is Act.put
theorem rburn_any (w : World) (q gg n : Nat) (S : Dst) (c : Nat) (A : Option Addr) (c2 B : Nat) (D : RAt w q gg n S c A c2 B) (hf : ∀ k : Nat, S.fu = some k → (k : Int) ≤ 9223372036854775807) :
    Calls Tryz.prog 72 #[.pointer (some ⟨q, 0, none⟩)] w fun e w' => e = .returned (.bool (!S.still)) ∧ RAt w' q gg n ⟨S.g, S.l, if S.still then S.fu else S.fu.map (· - 1)⟩ c A c2 B ∧ Only (fun b => b = q) w w' := by
  obtain ⟨g, l, fu⟩ := S
  have c2' : w.cell? ⟨q, 2, none⟩ = some (.int .i64 (fuV fu)) := D.blk.cell 2
  have f2' : w.frozen? ⟨q, 2, none⟩ = false := D.blk.frozen 2
  have HD := Lib.hid D
  clear D
  rcases fu with _ | fk
  · unfold fuV at c2'
    go_enter Tryz.func72, Tryz.ntmps72
    go_wp2_with fail
    go_ret
    exact ⟨rfl, HD.out, Only.refl _ _⟩
  · rcases fk with _ | k
    · unfold fuV at c2'
      simp only [Int.natCast_zero] at c2'
      go_enter Tryz.func72, Tryz.ntmps72
      go_wp2_with fail
      go_ret
      exact ⟨rfl, HD.out, Only.refl _ _⟩
    · unfold fuV at c2'
      have hk := hf (k + 1) rfl
      obtain ⟨kk, hkk⟩ : ∃ kk : Int, kk = ((k + 1 : Nat) : Int) := ⟨_, rfl⟩
      have h1 : ¬ kk = 0 := by omega
      have h2 : (0 : Int) < kk := by omega
      have h3 : IntKind.i64.wrap (kk - 1) = (k : Int) := by rw [IntWalk.i64_in _ (by omega)]; omega
      have hO : Only (fun b => b = q) w (w.setCell ⟨q, 2, none⟩ (.int .i64 (k : Int))) := (Only.refl (fun b => b = q) w).setCell (p := ⟨q, 2, none⟩) (.inl rfl) _
      have hR : RAt (w.setCell ⟨q, 2, none⟩ (.int .i64 (k : Int))) q gg n ⟨g, l, some k⟩ c A c2 B :=
        ⟨HD.out.blk.set_ 2 _, hO.owns HD.out.good (fun j hj e => own_blk_ne HD.out.good HD.out.blk (by decide) (hj.trans (congrArg some e))), hO.owns HD.out.own (fun j hj e => own_blk_ne HD.out.own HD.out.blk (by decide) (hj.trans (congrArg some e))), HD.out.lo, ⟨HD.out.ok.len, HD.out.ok.all, HD.out.ok.lo⟩⟩
      have HF := Lib.hid (And.intro hR hO)
      have hst : Dst.still ⟨g, l, some (k + 1)⟩ = false := by simp [Dst.still]
      rw [hst]
      simp only [← hkk] at c2'
      clear hR hO hst hkk hk hf
      go_enter Tryz.func72, Tryz.ntmps72
      go_wp2_with fail
      go_ret
      exact ⟨rfl, HF.out.1, HF.out.2⟩
theorem keepW_eq (g : List (List UInt8)) (k mm : Nat) (x y : List UInt8) (N : Int) (hy : g[k]? = some y) (hm : (min N 128).toNat = mm) : keepW g (k, x) N = g.set k (x.take mm ++ y.drop mm) := by
  unfold keepW
  simp only [hm]
  rw [List.getD_eq_getElem?_getD, hy]
  rfl
theorem strsV_set2 (g : List (List UInt8)) (k : Nat) (x : List UInt8) : (strsV g).set k (.string (sB x)) = strsV (g.set k x) := by
  unfold strsV
  rw [List.map_set]
set_option maxHeartbeats 2000000 in
set_option maxRecDepth 100000 in
theorem rkeep_any (w : World) (q gg n : Nat) (S : Dst) (c : Nat) (A : Option Addr) (c2 B : Nat) (k : Nat) (x : List UInt8) (N : Int) (D : RAt w q gg n S c A c2 B) (hn : n ≤ 4096) (hk : k < n) (hx : x.length = 128) :
    Calls Tryz.prog 73 #[.pointer (some ⟨q, 0, none⟩), .agg #[.int .i64 (k : Int), .string (sB x)], .int .i64 N] w fun e w' => e = .returned (.tuple #[]) ∧ RAt w' q gg n ⟨keepW S.g (k, x) N, S.l, S.fu⟩ c A c2 B ∧ Only (fun b => b = gg) w w' := by
  obtain ⟨mm, hmm⟩ : ∃ mm : Nat, mm = (min N 128).toNat := ⟨_, rfl⟩
  have hm128 : mm ≤ 128 := by omega
  have hmx : max (0 : Int) (min N 128) = (mm : Int) := by omega
  obtain ⟨y, hy⟩ : ∃ y, S.g[k]? = some y := ⟨_, List.getElem?_eq_getElem (by rw [D.ok.len]; exact hk)⟩
  have hyl := D.ok.all y (List.mem_of_getElem? hy)
  have hke := keepW_eq S.g k mm x y N hy hmm.symm
  have hkok := (keepW_all (w := (k, x)) D.ok ⟨hk, hx⟩ N)
  rw [hke] at hkok ⊢
  have hlts := D.lts (by omega)
  obtain ⟨w1, hw1⟩ : ∃ w1, w1 = w.alloc (.cells #[.int .i64 (k : Int), .string (sB x)] 132) := ⟨_, rfl⟩
  obtain ⟨wb, hwb⟩ : ∃ wb, wb = w.heap.size := ⟨_, rfl⟩
  have bb : Blk w1 wb 132 #[.int .i64 (k : Int), .string (sB x)] := by rw [hw1, hwb]; exact Blk.new w _ _
  have o1 : Only (fun _ => False) w w1 := by rw [hw1]; exact (Only.refl _ w).alloc _
  obtain ⟨W2, hW2⟩ : ∃ W2, W2 = w1.drew := ⟨_, rfl⟩
  have o2 : Only (fun _ => False) w W2 := by rw [hW2]; exact o1.drew
  have D2 := D.only o2
  have hgood := D2.good
  obtain ⟨g', cap, hgv, hgB, hgW, hcells⟩ := own_cells hgood (by omega)
  obtain ⟨rfl, rfl⟩ : gg = g' ∧ c = cap := by injection hgv with h1 h2 h3; injection h1 with h1; injection h1 with h1; exact ⟨h1, h3⟩
  have CQ : Hid (W2.cell? ⟨q, 0, none⟩ = some (.slice (some ⟨gg, 0, none⟩) n c)) := Lib.hid (D2.blk.cell 0)
  have CB0 : Hid (W2.cell? ⟨wb, 0, none⟩ = some (.int .i64 (k : Int))) := Lib.hid (by rw [hW2]; exact bb.cell 0)
  have CB1 : Hid (W2.cell? ⟨wb, 1, none⟩ = some (.string (sB x))) := Lib.hid (by rw [hW2]; exact bb.cell 1)
  have CG : Hid (W2.cell? ⟨gg, k, none⟩ = some (.string (sB y))) := Lib.hid (hcells k _ (by rw [strsV, List.getElem?_map, hy]; rfl))
  have hfz : W2.frozen? ⟨gg, k, none⟩ = false := own_fz hgood k
  have hcg : W2.cell? ⟨gg, k, none⟩ = some (.string (sB y)) := CG.out
  obtain ⟨W3, hW3⟩ : ∃ W3, W3 = W2.setCell ⟨gg, k, none⟩ (.string (sB (x.take mm ++ y.drop mm))) := ⟨_, rfl⟩
  have o3 : Only (fun b => b = gg) W2 W3 := by rw [hW3]; exact (Only.refl (fun b => b = gg) W2).setCell (p := ⟨gg, k, none⟩) (.inl rfl) _
  have hset := owns_set hgood k hk (.string (sB (x.take mm ++ y.drop mm)))
  rw [strsV_set2, ← hW3] at hset
  obtain ⟨_, hgb⟩ := own_blk hgood
  have HF : Hid (RAt W3 q gg n ⟨S.g.set k (x.take mm ++ y.drop mm), S.l, S.fu⟩ c A c2 B ∧ Only (fun b => b = gg) w W3) := Lib.hid
    ⟨⟨o3.blk D2.blk (Blk.ne_ D2.blk hgb (by decide)), hset, o3.owns D2.own (fun j hj e => own_blk_ne D2.own hgb (by decide) (hj.trans (congrArg some e))), D2.lo, hkok⟩, (o2.mono fun _ h => h.elim).trans o3⟩
  have hx1 : (sB x).extract 0 mm = sB (x.take mm) := by rw [sB_extract]; simp
  have hx2 : (sB y).extract mm 128 = sB (y.drop mm) := by rw [sB_extract, List.take_of_length_le (by omega)]
  have hsx : (sB x).size = 128 := by rw [sB_size, hx]
  have hsy : (sB y).size = 128 := by rw [sB_size, hyl]
  have hs1 : (sB (x.take mm)).size = mm := by rw [sB_size, List.length_take]; omega
  have hs2 : (sB (y.drop mm)).size = 128 - mm := by rw [sB_size, List.length_drop]; omega
  have hmi : (mm : Int) ≤ 128 := by omega
  have hlo : (0 : Int) ≤ (k : Int) := by omega
  have hhi : (k : Int) < (n : Int) := by omega
  have HFZ := Lib.hid hfz
  have HW1 := Lib.hid hw1.symm
  have HWB := Lib.hid hwb.symm
  have HW2 := Lib.hid hW2
  have HW3 := Lib.hid hW3
  clear D D2 hgood hcells hgv hset hgb o1 o2 o3 bb hw1 hwb hW2 hW3 hke hkok hy hyl hmm hcg hfz hlts hgW hgB
  go_enter Tryz.func73, Tryz.ntmps73
  go_wp2_with fail
  rw [HW1.out, HWB.out]
  try simp only [hmx]
  refine wp_region_sc (by kernel_rfl) (StC W2 [(22, W3)]) [Is (.pointer (some ⟨q, 0, none⟩)), Is (.pointer (some ⟨q, 0, none⟩)), Is (.pointer (some ⟨q, 0, none⟩)), Is (.slice (some ⟨gg, 0, none⟩) n c), Is (.pointer (some ⟨wb, 0, none⟩)), Is (.int .i64 (k : Int)), Is (.pointer (some ⟨wb, 1, none⟩)), Is (.string (sB x)), Is (.int .i64 (mm : Int)), Is (.string (sB (x.take mm))), Is (.pointer (some ⟨q, 0, none⟩)), Is (.pointer (some ⟨q, 0, none⟩)), Is (.pointer (some ⟨q, 0, none⟩)), Is (.slice (some ⟨gg, 0, none⟩) n c), Is (.pointer (some ⟨wb, 0, none⟩)), Is (.int .i64 (k : Int)), Is (.pointer (some ⟨gg, k, none⟩)), Is (.string (sB y)), Is (.int .i64 (mm : Int)), Is (.string (sB (y.drop mm))), Is (.string (sB (x.take mm ++ y.drop mm))), Is (.pointer (some ⟨gg, k, none⟩)), fun _ _ => True] (by kernel_rfl)
    ⟨is_stab _ _, is_stab _ _, is_stab _ _, is_stab _ _, is_stab _ _, is_stab _ _, is_stab _ _, is_stab _ _, is_stab _ _, is_stab _ _, is_stab _ _, is_stab _ _, is_stab _ _, is_stab _ _, is_stab _ _, is_stab _ _, is_stab _ _, is_stab _ _, is_stab _ _, is_stab _ _, is_stab _ _, is_stab _ _, (fun _ _ _ _ _ => trivial), trivial⟩ (by rw [← HW2.out]; exact StC.start _ _) ⟨?_, ?_, ?_, ?_, ?_, ?_, ?_, ?_, ?_, ?_, ?_, ?_, ?_, ?_, ?_, ?_, ?_, ?_, ?_, ?_, ?_, ?_, ?_, trivial⟩ ?_
  · intro dn u w1 hi he hcl hS hp K hK
    refine ord_plain rfl ?_
    simp at hp hK ⊢
    go_simp
    exact hK _ _ (hS.skip (by simp)) rfl
  · intro dn u w1 hi he hcl hS hp K hK
    refine ord_plain rfl ?_
    simp at hp hK ⊢
    simp only [hp] at hK
    go_simp
    exact hK _ _ (hS.skip (by simp)) rfl
  · intro dn u w1 hi he hcl hS hp K hK
    refine ord_plain rfl ?_
    simp at hp hK ⊢
    simp only [hp] at hK
    go_simp
    exact hK _ _ (hS.skip (by simp)) rfl
  · intro dn u w1 hi he hcl hS hp K hK
    refine ord_plain rfl ?_
    simp at hp hK ⊢
    simp only [hp] at hK
    have n22 : dn 22 = false := by
      cases h22 : dn 22 with
      | false => rfl
      | true =>
        have q22_3_0 := hcl 22 _ rfl h22
        simp [edgesDone] at q22_3_0
        have d3_ : dn 3 = true := by simp [q22_3_0]
        rw [d3_] at hi; cases hi
    have hc : w1.cell? ⟨q, 0, none⟩ = some (.slice (some ⟨gg, 0, none⟩) n c) := by
      rcases hS.mem with rfl | ⟨x, hx, h1, rfl⟩
      · exact CQ.out
      · simp only [List.mem_cons, List.not_mem_nil, or_false] at hx
        rcases hx with rfl
        · rw [n22] at h1; cases h1
    go_simp
    exact hK _ _ (hS.skip (by simp)) rfl
  · intro dn u w1 hi he hcl hS hp K hK
    refine ord_plain rfl ?_
    simp at hp hK ⊢
    go_simp
    exact hK _ _ (hS.skip (by simp)) rfl
  · intro dn u w1 hi he hcl hS hp K hK
    refine ord_plain rfl ?_
    simp at hp hK ⊢
    simp only [hp] at hK
    have n22 : dn 22 = false := by
      cases h22 : dn 22 with
      | false => rfl
      | true =>
        have q22_5_0 := hcl 22 _ rfl h22
        simp [edgesDone] at q22_5_0
        have d5_ : dn 5 = true := by simp [q22_5_0]
        rw [d5_] at hi; cases hi
    have hc : w1.cell? ⟨wb, 0, none⟩ = some (.int .i64 (k : Int)) := by
      rcases hS.mem with rfl | ⟨x, hx, h1, rfl⟩
      · exact CB0.out
      · simp only [List.mem_cons, List.not_mem_nil, or_false] at hx
        rcases hx with rfl
        · rw [n22] at h1; cases h1
    go_simp
    exact hK _ _ (hS.skip (by simp)) rfl
  · intro dn u w1 hi he hcl hS hp K hK
    refine ord_plain rfl ?_
    simp at hp hK ⊢
    go_simp
    exact hK _ _ (hS.skip (by simp)) rfl
  · intro dn u w1 hi he hcl hS hp K hK
    refine ord_plain rfl ?_
    simp at hp hK ⊢
    simp only [hp] at hK
    have n22 : dn 22 = false := by
      cases h22 : dn 22 with
      | false => rfl
      | true =>
        have q22_7_0 := hcl 22 _ rfl h22
        simp [edgesDone] at q22_7_0
        have d7_ : dn 7 = true := by simp [q22_7_0]
        rw [d7_] at hi; cases hi
    have hc : w1.cell? ⟨wb, 1, none⟩ = some (.string (sB x)) := by
      rcases hS.mem with rfl | ⟨x, hx, h1, rfl⟩
      · exact CB1.out
      · simp only [List.mem_cons, List.not_mem_nil, or_false] at hx
        rcases hx with rfl
        · rw [n22] at h1; cases h1
    go_simp
    exact hK _ _ (hS.skip (by simp)) rfl
  · intro dn u w1 hi he hcl hS hp K hK
    refine ord_plain rfl ?_
    simp at hp hK ⊢
    go_simp
    exact hK _ _ (hS.skip (by simp)) rfl
  · intro dn u w1 hi he hcl hS hp K hK
    refine ord_plain rfl ?_
    simp at hp hK ⊢
    simp only [hp] at hK
    go_simp
    exact hK _ _ (hS.skip (by simp)) rfl
  · intro dn u w1 hi he hcl hS hp K hK
    refine ord_plain rfl ?_
    simp at hp hK ⊢
    go_simp
    exact hK _ _ (hS.skip (by simp)) rfl
  · intro dn u w1 hi he hcl hS hp K hK
    refine ord_plain rfl ?_
    simp at hp hK ⊢
    simp only [hp] at hK
    go_simp
    exact hK _ _ (hS.skip (by simp)) rfl
  · intro dn u w1 hi he hcl hS hp K hK
    refine ord_plain rfl ?_
    simp at hp hK ⊢
    simp only [hp] at hK
    go_simp
    exact hK _ _ (hS.skip (by simp)) rfl
  · intro dn u w1 hi he hcl hS hp K hK
    refine ord_plain rfl ?_
    simp at hp hK ⊢
    simp only [hp] at hK
    have n22 : dn 22 = false := by
      cases h22 : dn 22 with
      | false => rfl
      | true =>
        have q22_13_0 := hcl 22 _ rfl h22
        simp [edgesDone] at q22_13_0
        have d13_ : dn 13 = true := by simp [q22_13_0]
        rw [d13_] at hi; cases hi
    have hc : w1.cell? ⟨q, 0, none⟩ = some (.slice (some ⟨gg, 0, none⟩) n c) := by
      rcases hS.mem with rfl | ⟨x, hx, h1, rfl⟩
      · exact CQ.out
      · simp only [List.mem_cons, List.not_mem_nil, or_false] at hx
        rcases hx with rfl
        · rw [n22] at h1; cases h1
    go_simp
    exact hK _ _ (hS.skip (by simp)) rfl
  · intro dn u w1 hi he hcl hS hp K hK
    refine ord_plain rfl ?_
    simp at hp hK ⊢
    go_simp
    exact hK _ _ (hS.skip (by simp)) rfl
  · intro dn u w1 hi he hcl hS hp K hK
    refine ord_plain rfl ?_
    simp at hp hK ⊢
    simp only [hp] at hK
    have n22 : dn 22 = false := by
      cases h22 : dn 22 with
      | false => rfl
      | true =>
        have q22_15_0 := hcl 22 _ rfl h22
        simp [edgesDone] at q22_15_0
        have d15_ : dn 15 = true := by simp [q22_15_0]
        rw [d15_] at hi; cases hi
    have hc : w1.cell? ⟨wb, 0, none⟩ = some (.int .i64 (k : Int)) := by
      rcases hS.mem with rfl | ⟨x, hx, h1, rfl⟩
      · exact CB0.out
      · simp only [List.mem_cons, List.not_mem_nil, or_false] at hx
        rcases hx with rfl
        · rw [n22] at h1; cases h1
    go_simp
    exact hK _ _ (hS.skip (by simp)) rfl
  · intro dn u w1 hi he hcl hS hp K hK
    refine ord_plain rfl ?_
    simp at hp hK ⊢
    simp only [hp] at hK
    go_simp
    exact hK _ _ (hS.skip (by simp)) rfl
  · intro dn u w1 hi he hcl hS hp K hK
    refine ord_plain rfl ?_
    simp at hp hK ⊢
    simp only [hp] at hK
    have n22 : dn 22 = false := by
      cases h22 : dn 22 with
      | false => rfl
      | true =>
        have q22_17_0 := hcl 22 _ rfl h22
        simp [edgesDone] at q22_17_0
        have d17_ : dn 17 = true := by simp [q22_17_0]
        rw [d17_] at hi; cases hi
    have hc : w1.cell? ⟨gg, k, none⟩ = some (.string (sB y)) := by
      rcases hS.mem with rfl | ⟨x, hx, h1, rfl⟩
      · exact CG.out
      · simp only [List.mem_cons, List.not_mem_nil, or_false] at hx
        rcases hx with rfl
        · rw [n22] at h1; cases h1
    go_simp
    exact hK _ _ (hS.skip (by simp)) rfl
  · intro dn u w1 hi he hcl hS hp K hK
    refine ord_plain rfl ?_
    simp at hp hK ⊢
    go_simp
    exact hK _ _ (hS.skip (by simp)) rfl
  · intro dn u w1 hi he hcl hS hp K hK
    refine ord_plain rfl ?_
    simp at hp hK ⊢
    simp only [hp] at hK
    go_simp
    exact hK _ _ (hS.skip (by simp)) rfl
  · intro dn u w1 hi he hcl hS hp K hK
    refine ord_plain rfl ?_
    simp at hp hK ⊢
    simp only [hp] at hK
    go_simp
    rw [sB_append]
    exact hK _ _ (hS.skip (by simp)) rfl
  · intro dn u w1 hi he hcl hS hp K hK
    refine ord_plain rfl ?_
    simp at hp hK ⊢
    simp only [hp] at hK
    go_simp
    exact hK _ _ (hS.skip (by simp)) rfl
  · intro dn u w1 hi he hcl hS hp K hK
    refine ord_plain rfl ?_
    simp at hp hK ⊢
    simp only [hp] at hK
    have hw := hS
    simp [StC, hi] at hw
    have hw2 := hw.symm
    subst hw2
    have hcg := CG.out
    have hfz := HFZ.out
    go_simp
    rw [← HW3.out]
    exact hK _ (by simp [StC, ldW])
  · intro u w1 dn hld hS hp
    simp at hp ⊢
    simp [StC, hld 22 (by decide)] at hS
    subst hS
    go_wp2_with fail
    go_end0
    exact ⟨rfl, HF.out⟩
end Go.Proofs.YtmneflpjoaocbaaGreat
/- The document's disk: Sync, Crash, Sure. No conditions beyond what each states. -/
namespace Go.Proofs.YtmneflpjoaocbaaGreat
set_option maxRecDepth 100000
open Go.RowKit
set_option linter.unusedVariables false
theorem syncW_take {l : List (Nat × List UInt8)} {g : List (List UInt8)} {k : Nat} {x : Nat × List UInt8} (hx : l[k]? = some x) : syncW (l.take (k + 1)) g = keepW (syncW (l.take k) g) x 128 := by
  have : l.take (k + 1) = l.take k ++ [x] := by rw [List.take_add_one, hx]; rfl
  rw [this]
  simp [syncW]
/-- a loose write's cells -/
theorem rw_cells {w : World} {B n : Nat} {A : Option Addr} {c : Nat} {l : List (Nat × List UInt8)} (ho : w.ownsRow B 132 2 (.slice A l.length c) l.length (rwL l)) {k : Nat} {x : Nat × List UInt8} (hx : l[k]? = some x) :
    ∃ gl, A = some ⟨gl, 0, none⟩ ∧ w.cell? ⟨gl, k * 2, none⟩ = some (.int .i64 (x.1 : Int)) ∧ w.cell? ⟨gl, k * 2 + 1, none⟩ = some (.string (sB x.2)) := by
  have hk : k < l.length := (List.getElem?_eq_some_iff.1 hx).1
  obtain ⟨ad, had, _, hc⟩ := (Reads.of_own ho).2 (by omega)
  obtain ⟨h1, h2⟩ := rwL_at l k x hx
  rcases owns_form ho with ⟨_, h0⟩ | ⟨gl, cap, hv, _⟩
  · omega
  · injection hv with e1
    rw [e1] at had
    injection had with had
    subst had
    have c0 := hc _ _ h1
    have c1 := hc _ _ h2
    rw [addr_plus, Nat.zero_add] at c0 c1
    exact ⟨gl, e1, c0, c1⟩
theorem RAt.loose {w : World} {q gg n : Nat} {S : Dst} {c : Nat} {A : Option Addr} {c2 B : Nat} (D : RAt w q gg n S c A c2 B) : RAt (w.setCell ⟨q, 1, none⟩ (.slice none 0 0)) q gg n ⟨S.g, [], S.fu⟩ c none 0 B ∧ Only (fun b => b = q) w (w.setCell ⟨q, 1, none⟩ (.slice none 0 0)) := by
  have hO : Only (fun b => b = q) w (w.setCell ⟨q, 1, none⟩ (.slice none 0 0)) := (Only.refl (fun b => b = q) w).setCell (p := ⟨q, 1, none⟩) (.inl rfl) _
  exact ⟨⟨D.blk.set_ 1 _, hO.owns D.good (fun j hj e => own_blk_ne D.good D.blk (by decide) (hj.trans (congrArg some e))), World.ownsRow_nil _ _ _ _, D.lo, ⟨D.ok.len, D.ok.all, by simp⟩⟩, hO⟩
theorem RAt.fuse {w : World} {q gg n : Nat} {S : Dst} {c : Nat} {A : Option Addr} {c2 B : Nat} (D : RAt w q gg n S c A c2 B) (fu : Option Nat) : RAt (w.setCell ⟨q, 2, none⟩ (.int .i64 (fuV fu))) q gg n ⟨S.g, S.l, fu⟩ c A c2 B ∧ Only (fun b => b = q) w (w.setCell ⟨q, 2, none⟩ (.int .i64 (fuV fu))) := by
  have hO : Only (fun b => b = q) w (w.setCell ⟨q, 2, none⟩ (.int .i64 (fuV fu))) := (Only.refl (fun b => b = q) w).setCell (p := ⟨q, 2, none⟩) (.inl rfl) _
  exact ⟨⟨D.blk.set_ 2 _, hO.owns D.good (fun j hj e => own_blk_ne D.good D.blk (by decide) (hj.trans (congrArg some e))), hO.owns D.own (fun j hj e => own_blk_ne D.own D.blk (by decide) (hj.trans (congrArg some e))), D.lo, ⟨D.ok.len, D.ok.all, D.ok.lo⟩⟩, hO⟩
set_option maxHeartbeats 2000000 in
set_option maxRecDepth 100000 in
theorem rsync_any (w : World) (q gg n : Nat) (S : Dst) (B m : Nat) (D : RkS w q gg n S B m) :
    Calls Tryz.prog 49 #[.pointer (some ⟨q, 0, none⟩)] w fun e w' => e = .returned (.int .i64 (syS S).1) ∧ RkS w' q gg n (syS S).2 B m ∧ Only (fun b => b = q ∨ b = gg) w w' := by
  obtain ⟨⟨h1, h2, h3, h4⟩, hf, c, A, c2, D⟩ := D
  obtain ⟨R, hR⟩ : ∃ R, R = syS S := ⟨_, rfl⟩
  rw [← hR]
  have HR := Lib.hid hR
  have HD := Lib.hid D
  have HFU := Lib.hid hf
  clear D hR hf
  go_enter Tryz.func49, Tryz.ntmps49
  go_wp2_with fail
  refine (rburn_any w q gg n S c A c2 B HD.out HFU.out).mono ?_
  rintro e w1 ⟨rfl, D1, o1⟩
  have HD1 := Lib.hid D1
  have HO1 := Lib.hid o1
  clear D1 o1
  by_cases hst : S.still = true
  · have hRe : Hid (R = (51, S)) := Lib.hid (by rw [HR.out]; unfold syS; rw [if_pos hst])
    have h := HD1.out
    rw [if_pos hst] at h
    have HH := Lib.hid h
    rw [hst]
    clear h hst
    go_wp2_with fail
    go_ret
    rw [hRe.out]
    exact ⟨rfl, ⟨⟨h1, h2, h3, h4⟩, HFU.out, c, A, c2, HH.out⟩, HO1.out.mono fun _ h => .inl h⟩
  · have hst' : S.still = false := by simpa using hst
    have hRe : Hid (R = (0, ⟨syncW S.l S.g, [], S.fu.map (· - 1)⟩)) := Lib.hid (by rw [HR.out]; unfold syS; rw [if_neg hst])
    have h := HD1.out
    rw [if_neg hst] at h
    have HH := Lib.hid h
    rw [hst']
    clear h hst hst' HD1
    go_wp2_with fail
    go_loopw [3] (fun i wr => ∃ k : Nat, k ≤ S.l.length ∧ i = .int .i64 (k : Int) ∧ RAt wr q gg n ⟨syncW (S.l.take k) S.g, S.l, S.fu.map (· - 1)⟩ c A c2 B ∧ Only (fun b => b = q ∨ b = gg) w wr) (fun i _ => S.l.length - (intOf i).toNat)
    case atStart => exact ⟨0, by omega, rfl, HH.out, HO1.out.mono fun _ h => .inl h⟩
    case round =>
      obtain ⟨k, hk, rfl, b1, b2⟩ := hrel
      have B1 := Lib.hid b1
      have B2 := Lib.hid b2
      have cq : wr.cell? ⟨q, 1, none⟩ = some (.slice A S.l.length c2) := b1.blk.cell 1
      clear b1 b2
      by_cases hlt : k < S.l.length
      · obtain ⟨x, hx⟩ : ∃ x, S.l[k]? = some x := ⟨_, List.getElem?_eq_getElem hlt⟩
        obtain ⟨gl, rfl, c0, c1⟩ := rw_cells (n := n) B1.out.own hx
        have hxo := B1.out.ok.lo x (List.mem_of_getElem? hx)
        have hlti : (k : Int) < (S.l.length : Int) := by omega
        have hlo : (0 : Int) ≤ (k : Int) := by omega
        have hst := syncW_take (g := S.g) hx
        have HST := Lib.hid hst
        clear hst hx
        go_wp2_with fail
        refine (rkeep_any wr q gg n _ c _ c2 B x.1 x.2 128 B1.out h2 hxo.1 hxo.2).mono ?_
        rintro e w3 ⟨rfl, d1, o3⟩
        simp only at d1
        rw [← HST.out] at d1
        have D3 := Lib.hid d1
        have O3 := Lib.hid o3
        clear d1 o3
        go_wp2_with fail
        go_roundw
        case rel => exact ⟨k + 1, by omega, by go_num, D3.out, B2.out.trans (O3.out.mono fun _ h => .inr h)⟩
        case measure => simp [intOf]; omega
      · obtain rfl : k = S.l.length := by omega
        rw [List.take_length] at B1
        have fq : wr.frozen? ⟨q, 1, none⟩ = false := B1.out.blk.frozen 1
        have HL := Lib.hid B1.out.loose
        go_wp2_with fail
        go_ret
        rw [hRe.out]
        refine ⟨rfl, ⟨⟨h1, h2, h3, by simp⟩, fun j hj => ?_, c, none, 0, HL.out.1⟩, B2.out.trans (HL.out.2.mono fun _ h => .inl h)⟩
        cases hfu : S.fu with
        | none => rw [hfu] at hj; cases hj
        | some z =>
          rw [hfu] at hj
          have := HFU.out z hfu
          simp at hj
          omega
end Go.Proofs.YtmneflpjoaocbaaGreat
/- The document's disk: Crash, Sure, Read. No conditions beyond what each states. -/
namespace Go.Proofs.YtmneflpjoaocbaaGreat
set_option maxRecDepth 100000
open Go.RowKit
set_option linter.unusedVariables false
theorem crash_step {n : Nat} (l : List (Nat × List UInt8)) (ps : List Int) (g : List (List UInt8)) {k : Nat} {x : Nat × List UInt8} (hx : l[k]? = some x) (N : Int) (hN : N = ps.getD k 0) (ho : SecOk n l (crashW (l.take k) ps g)) (hxo : x.1 < n ∧ x.2.length = 128) :
    crashW (l.take (k + 1)) ps g = keepW (crashW (l.take k) ps g) x N := by
  rw [crashW_snoc l ps g hx]
  cases hp : ps[k]? with
  | some M => rw [hN, List.getD_eq_getElem?_getD, hp]; rfl
  | none =>
    have : N = 0 := by rw [hN, List.getD_eq_getElem?_getD, hp]; rfl
    rw [this, keepW_none ho x 0 (Int.le_refl _) hxo.1]
set_option maxHeartbeats 2000000 in
set_option maxRecDepth 100000 in
theorem rcrash_any (w : World) (q gg n : Nat) (S : Dst) (B m : Nat) (ps : List Int) (AP : Option Addr) (cp BP : Nat) (D : RkS w q gg n S B m) (hps : Reads w BP 1 AP ps.length (ps.map (Value.int .i64))) (hBP : BP ≤ w.heap.size)
    (hav : 0 < ps.length → ∀ ad, AP = some ad → ad.block ≠ q ∧ ad.block ≠ gg) :
    Calls Tryz.prog 54 #[.pointer (some ⟨q, 0, none⟩), .slice AP ps.length cp] w fun e w' => e = .returned (.tuple #[]) ∧ RkS w' q gg n (crS S ps) B m ∧ Only (fun b => b = q ∨ b = gg) w w' := by
  obtain ⟨⟨h1, h2, h3, h4⟩, hf, c, A, c2, D⟩ := D
  have HD := Lib.hid D
  have HP := Lib.hid hps
  have HAV := Lib.hid hav
  clear D hf hps hav
  go_enter Tryz.func54, Tryz.ntmps54
  go_wp2_with fail
  go_loopw [4] (fun i wr => ∃ k : Nat, k ≤ S.l.length ∧ i = .int .i64 (k : Int) ∧ RAt wr q gg n ⟨crashW (S.l.take k) ps S.g, S.l, S.fu⟩ c A c2 B ∧ Only (fun b => b = q ∨ b = gg) w wr) (fun i _ => S.l.length - (intOf i).toNat)
  case atStart => exact ⟨0, by omega, rfl, HD.out, Only.refl _ _⟩
  case round =>
    obtain ⟨k, hk, rfl, b1, b2⟩ := hrel
    have B1 := Lib.hid b1
    have B2 := Lib.hid b2
    have cq : wr.cell? ⟨q, 1, none⟩ = some (.slice A S.l.length c2) := b1.blk.cell 1
    clear b1 b2
    by_cases hlt : k < S.l.length
    · obtain ⟨x, hx⟩ : ∃ x, S.l[k]? = some x := ⟨_, List.getElem?_eq_getElem hlt⟩
      obtain ⟨gl, rfl, c0, c1⟩ := rw_cells (n := n) B1.out.own hx
      have hxo := B1.out.ok.lo x (List.mem_of_getElem? hx)
      have hlti : (k : Int) < (S.l.length : Int) := by omega
      have hlo : (0 : Int) ≤ (k : Int) := by omega
      have hst := crash_step (n := n) S.l ps S.g hx _ rfl B1.out.ok hxo
      have HST := Lib.hid hst
      clear hst hx
      by_cases hkp : k < ps.length
      · obtain ⟨N, hN⟩ : ∃ N, ps[k]? = some N := ⟨_, List.getElem?_eq_getElem hkp⟩
        obtain ⟨ad, u, had, hadb, hu, hcu⟩ := HP.out.at_ hkp
        have hNu : u = .int .i64 N := by
          rw [List.getElem?_map, hN] at hu
          simpa using hu.symm
        have hNd : ps.getD k 0 = N := by rw [List.getD_eq_getElem?_getD, hN]; rfl
        have hne := HAV.out (by omega) ad had
        have hsp : (ad.add k).block = ad.block := block_of_add _ _
        have hcw : wr.cell? (ad.add k) = some (.int .i64 N) := (B2.out.cell (by rw [hsp]; omega) (by rw [hsp]; intro h; rcases h with h | h; exact hne.1 h; exact hne.2 h)).trans (by rw [hcu, hNu])
        have hkpi : (k : Int) < (ps.length : Int) := by omega
        subst had
        clear hcu hu hNu hne hsp
        go_wp2_with fail
        refine (rkeep_any wr q gg n _ c _ c2 B x.1 x.2 N B1.out h2 hxo.1 hxo.2).mono ?_
        rintro e w3 ⟨rfl, d1, o3⟩
        simp only at d1
        rw [← hNd, ← HST.out] at d1
        have D3 := Lib.hid d1
        have O3 := Lib.hid o3
        clear d1 o3
        go_wp2_with fail
        go_roundw
        case rel => exact ⟨k + 1, by omega, by go_num, D3.out, B2.out.trans (O3.out.mono fun _ h => .inr h)⟩
        case measure => simp [intOf]; omega
      · have hkpi : ¬ (k : Int) < (ps.length : Int) := by omega
        have hNd : ps.getD k 0 = 0 := by rw [List.getD_eq_getElem?_getD, List.getElem?_eq_none (by omega)]; rfl
        go_wp2_with fail
        refine (rkeep_any wr q gg n _ c _ c2 B x.1 x.2 0 B1.out h2 hxo.1 hxo.2).mono ?_
        rintro e w3 ⟨rfl, d1, o3⟩
        simp only at d1
        rw [← hNd, ← HST.out] at d1
        have D3 := Lib.hid d1
        have O3 := Lib.hid o3
        clear d1 o3
        go_wp2_with fail
        go_roundw
        case rel => exact ⟨k + 1, by omega, by go_num, D3.out, B2.out.trans (O3.out.mono fun _ h => .inr h)⟩
        case measure => simp [intOf]; omega
    · obtain rfl : k = S.l.length := by omega
      rw [List.take_length] at B1
      have fq : wr.frozen? ⟨q, 1, none⟩ = false := B1.out.blk.frozen 1
      have hL := B1.out.loose
      have c2' : (wr.setCell ⟨q, 1, none⟩ (.slice none 0 0)).cell? ⟨q, 2, none⟩ = some (.int .i64 (fuV S.fu)) := hL.1.blk.cell 2
      have f2' : (wr.setCell ⟨q, 1, none⟩ (.slice none 0 0)).frozen? ⟨q, 2, none⟩ = false := hL.1.blk.frozen 2
      have HL := Lib.hid hL
      have HF := Lib.hid (hL.1.fuse none)
      clear hL
      go_wp2_with fail
      go_end0
      have hF := HF.out
      unfold fuV at hF
      exact ⟨rfl, ⟨⟨h1, h2, h3, by simp [crS]⟩, (fun j hj => by cases hj), c, none, 0, hF.1⟩, (B2.out.trans (HL.out.2.mono fun _ h => .inl h)).trans (hF.2.mono fun _ h => .inl h)⟩
set_option maxHeartbeats 1000000 in
set_option maxRecDepth 100000 in
theorem rsure_any (w : World) (q gg n : Nat) (S : Dst) (B m : Nat) (D : RkS w q gg n S B m) :
    Calls Tryz.prog 15 #[.pointer (some ⟨q, 0, none⟩)] w fun e w' => e = .returned (.string (strG S.g)) ∧ w = w' := by
  obtain ⟨⟨h1, h2, h3, h4⟩, hf, c, A, c2, D⟩ := D
  have hgl := D.ok.len
  have hall := D.ok.all
  have cq : w.cell? ⟨q, 0, none⟩ = some (.slice (some ⟨gg, 0, none⟩) n c) := D.blk.cell 0
  obtain ⟨g', cap, hgv, _, _, hcells⟩ := own_cells D.good (by omega)
  obtain ⟨rfl, rfl⟩ : gg = g' ∧ c = cap := by injection hgv with h1 h2 h3; injection h1 with h1; injection h1 with h1; exact ⟨h1, h3⟩
  have HC := Lib.hid hcells
  have HALL := Lib.hid hall
  clear D hf hcells hgv hall
  go_enter Tryz.func15, Tryz.ntmps15
  go_wp2_with fail
  go_loop [3, 4] (fun sv i => ∃ k : Nat, k ≤ n ∧ i = .int .i64 (k : Int) ∧ sv = .string (sB (S.g.take k).flatten)) (fun _ i => n - (intOf i).toNat)
  case atStart => exact ⟨0, by omega, rfl, rfl⟩
  case round =>
    obtain ⟨k, hk, rfl, rfl⟩ := hrel
    by_cases hlt : k < n
    · obtain ⟨t, ht⟩ : ∃ t, S.g[k]? = some t := ⟨_, List.getElem?_eq_getElem (by omega)⟩
      have ck : w.cell? ⟨gg, k, none⟩ = some (.string (sB t)) := HC.out k _ (by rw [strsV, List.getElem?_map, ht]; rfl)
      have htl := HALL.out t (List.mem_of_getElem? ht)
      have hlti : (k : Int) < (n : Int) := by omega
      have hlo : (0 : Int) ≤ (k : Int) := by omega
      have hsz : (sB (S.g.take k).flatten).size = k * 128 := by
        rw [sB_size, flat_length _ (fun t ht => HALL.out t (List.mem_of_mem_take ht)), List.length_take]
        omega
      have hsz2 : (sB t).size = 128 := by rw [sB_size, htl]
      have hcat : sB (S.g.take k).flatten ++ sB t = sB (S.g.take (k + 1)).flatten := by
        rw [sB_append, List.take_add_one, ht]
        simp
      go_wp2_with fail
      go_round
      case rel => exact ⟨k + 1, by omega, by go_num, rfl⟩
      case measure => simp [intOf]; omega
    · obtain rfl : k = n := by omega
      go_wp2_with fail
      go_ret
      refine ⟨?_, rfl⟩
      rw [List.take_of_length_le (by omega)]
      rfl
theorem cur_take {n : Nat} {l : List (Nat × List UInt8)} {g : List (List UInt8)} {j k : Nat} {x : Nat × List UInt8} (h : SecOk n l g) (hx : l[j]? = some x) (hk : k < n) : (syncW (l.take (j + 1)) g).getD k [] = if x.1 = k then x.2 else (syncW (l.take j) g).getD k [] := by
  have hxo := h.lo x (List.mem_of_getElem? hx)
  have hs := syncW_ok (l := l.take j) (g := g) (k := n) ⟨h.len, h.all, fun w hw => h.lo w (List.mem_of_mem_take hw)⟩
  rw [syncW_take hx]
  have hd : ((syncW (l.take j) g).getD x.1 []).length = 128 := hs.all _ (getD_mem _ x.1 (by rw [hs.len]; exact hxo.1))
  have em : (min (128 : Int) 128).toNat = 128 := rfl
  have hzl := hs.len
  generalize syncW (l.take j) g = Z at *
  have e : keepW Z x 128 = Z.set x.1 x.2 := by
    unfold keepW
    rw [em, List.take_of_length_le (by omega), List.drop_eq_nil_of_le (by omega), List.append_nil]
  rw [e, List.getD_eq_getElem?_getD, List.getElem?_set]
  by_cases e : x.1 = k
  · rw [if_pos e, if_pos e, if_pos (by omega)]
    rfl
  · rw [if_neg e, if_neg e, ← List.getD_eq_getElem?_getD]
set_option maxHeartbeats 1000000 in
set_option maxRecDepth 100000 in
theorem rread_any (w : World) (q gg n : Nat) (S : Dst) (B m k : Nat) (D : RkS w q gg n S B m) (hk : k < n) :
    Calls Tryz.prog 52 #[.pointer (some ⟨q, 0, none⟩), .int .i64 (k : Int)] w fun e w' => e = .returned (.tuple (if S.still then #[.string (sB []), .int .i64 51] else #[.string (sB (S.cur.getD k [])), .int .i64 0])) ∧ w = w' := by
  obtain ⟨⟨h1, h2, h3, h4⟩, hf, c, A, c2, D⟩ := D
  obtain ⟨R, hR⟩ : ∃ R : Array Value, R = if S.still then #[.string (sB []), .int .i64 51] else #[.string (sB (S.cur.getD k [])), .int .i64 0] := ⟨_, rfl⟩
  rw [← hR]
  have HR := Lib.hid hR
  clear hR
  have cf : w.cell? ⟨q, 2, none⟩ = some (.int .i64 (fuV S.fu)) := D.blk.cell 2
  have hz := fuV_zero S
  by_cases hst : S.still = true
  · have h0 : fuV S.fu = 0 := hz.2 hst
    have hRe : Hid (R = #[.string (sB []), .int .i64 51]) := Lib.hid (by rw [HR.out, if_pos hst])
    rw [h0] at cf
    clear hz h0
    go_enter Tryz.func52, Tryz.ntmps52
    go_wp2_with fail
    go_ret2
    rw [hRe.out]
    exact ⟨rfl, rfl⟩
  · have h0 : ¬ fuV S.fu = 0 := fun e => hst (hz.1 e)
    have hRe : Hid (R = #[.string (sB (S.cur.getD k [])), .int .i64 0]) := Lib.hid (by rw [HR.out, if_neg hst])
    obtain ⟨t, ht⟩ : ∃ t, S.g[k]? = some t := ⟨_, List.getElem?_eq_getElem (by rw [D.ok.len]; exact hk)⟩
    have cq : w.cell? ⟨q, 0, none⟩ = some (.slice (some ⟨gg, 0, none⟩) n c) := D.blk.cell 0
    have cl : w.cell? ⟨q, 1, none⟩ = some (.slice A S.l.length c2) := D.blk.cell 1
    obtain ⟨g', cap, hgv, _, _, hcells⟩ := own_cells D.good (by omega)
    obtain ⟨rfl, rfl⟩ : gg = g' ∧ c = cap := by injection hgv with h1 h2 h3; injection h1 with h1; injection h1 with h1; exact ⟨h1, h3⟩
    have ck : w.cell? ⟨gg, k, none⟩ = some (.string (sB t)) := hcells k _ (by rw [strsV, List.getElem?_map, ht]; rfl)
    have hki : (k : Int) < (n : Int) := by omega
    have hlo : (0 : Int) ≤ (k : Int) := by omega
    have hk0 : ¬ (k : Int) < 0 := by omega
    have HOK := Lib.hid D.ok
    have HOW := Lib.hid D.own
    have ht0 : (syncW (S.l.take 0) S.g).getD k [] = t := by
      show S.g.getD k [] = t
      rw [List.getD_eq_getElem?_getD, ht]; rfl
    have HT0 := Lib.hid ht0
    generalize fuV S.fu = fz at *
    clear D hf hcells hgv ht hz hst ht0 HR
    go_enter Tryz.func52, Tryz.ntmps52
    go_wp2_with fail
    go_loop [6, 7] (fun sv i => ∃ j : Nat, j ≤ S.l.length ∧ i = .int .i64 (j : Int) ∧ sv = .string (sB ((syncW (S.l.take j) S.g).getD k []))) (fun _ i => S.l.length - (intOf i).toNat)
    case atStart => exact ⟨0, by omega, rfl, by rw [HT0.out]⟩
    case round =>
      obtain ⟨j, hj, rfl, rfl⟩ := hrel
      by_cases hlt : j < S.l.length
      · obtain ⟨x, hx⟩ : ∃ x, S.l[j]? = some x := ⟨_, List.getElem?_eq_getElem hlt⟩
        obtain ⟨gl, rfl, c0, c1⟩ := rw_cells (n := n) HOW.out hx
        have hct := cur_take HOK.out hx hk
        have hlti : (j : Int) < (S.l.length : Int) := by omega
        have hlo2 : (0 : Int) ≤ (j : Int) := by omega
        have HCT := Lib.hid hct
        clear hct hx
        by_cases hxk : x.1 = k
        · have hxi : (x.1 : Int) = (k : Int) := by omega
          go_wp2_with fail
          go_round
          case rel => exact ⟨j + 1, by omega, by go_num, by rw [HCT.out, if_pos hxk]⟩
          case measure => simp [intOf]; omega
        · have hxi : ¬ (x.1 : Int) = (k : Int) := by omega
          go_wp2_with fail
          go_round
          case rel => exact ⟨j + 1, by omega, by go_num, by rw [HCT.out, if_neg hxk]⟩
          case measure => simp [intOf]; omega
      · obtain rfl : j = S.l.length := by omega
        go_wp2_with fail
        go_ret2
        rw [hRe.out]
        exact ⟨by simp [Dst.cur, List.getD_eq_getElem?_getD], rfl⟩
end Go.Proofs.YtmneflpjoaocbaaGreat
/- The document's disk: Write. No conditions beyond what it states. -/
namespace Go.Proofs.YtmneflpjoaocbaaGreat
set_option maxRecDepth 100000
open Go.RowKit
set_option linter.unusedVariables false
attribute [local simp] frOf dstsOf frGo predsHold allHold Region.binds slotOf seen Is Act.put
theorem rwInfo : (Tryz.prog.info? 132).map (fun i => (i.zero, i.size, i.bytes)) = some (some (.agg #[.int .i64 0, .string ⟨#[]⟩]), 2, 24) := by kernel_rfl
theorem u8Info : (Tryz.prog.info? 5).map (fun i => (i.zero, i.size, i.bytes)) = some (some (.int .u8 0), 1, 1) := by kernel_rfl
theorem zeros_cells (L : Nat) : madeCells (Value.int .u8 0).cells (L * 1) = (List.replicate L (Value.int .u8 0)).toArray := by
  apply Array.toList_inj.1
  have : (Value.int .u8 0).cells = #[.int .u8 0] := rfl
  rw [this, Nat.mul_one, toList_madeCells_one]
theorem conv_zeros (W : World) (g L : Nat) (hb : Blk W g 5 (List.replicate L (Value.int .u8 0)).toArray) (dst : TypeId) (hd : Tryz.prog.underlying dst = some .string) :
    (convert 57 dst (.slice (some ⟨g, 0, none⟩) L L)).run Tryz.prog W = .ok (.string (sB (List.replicate L 0))) W := by
  have hc := run_convert_bytes_arg (P := Tryz.prog) W 57 5 Tryz.underlying57 Tryz.underlying5 g 0 L L (List.replicate L (0 : Int)) (by simp) (fun i hi => by
    rw [Nat.zero_add, hb.cell]
    simp [List.getD, hi]) dst hd
  have e : strOfNums (List.replicate L (0 : Int)) = sB (List.replicate L 0) := by
    unfold strOfNums sB
    simp
  rw [e] at hc
  exact hc
set_option maxHeartbeats 4000000 in
set_option maxRecDepth 100000 in
theorem rwrite_any (w : World) (q gg n : Nat) (S : Dst) (B m : Nat) (k : Int) (s : List UInt8) (D : RkS w q gg n S B m) (hm : m < 1000000) (hs : s.length ≤ 9223372036854775807) :
    Calls Tryz.prog 50 #[.pointer (some ⟨q, 0, none⟩), .int .i64 k, .string (sB s)] w fun e w' => e = .returned (.int .i64 (wrS n S k s).1) ∧ RkS w' q gg n (wrS n S k s).2 B (m + 1) ∧ Only (fun b => B ≤ b) w w' ∧ FarG RT (fun _ => False) w w' := by
  have D0 := D
  obtain ⟨⟨h1, h2, h3, h4⟩, hf, c, A, c2, D⟩ := D
  obtain ⟨R, hR⟩ : ∃ R, R = wrS n S k s := ⟨_, rfl⟩
  rw [← hR]
  have hsz : (sB s).size = s.length := sB_size s
  have cq0 : w.cell? ⟨q, 0, none⟩ = some (.slice (some ⟨gg, 0, none⟩) n c) := D.blk.cell 0
  have HR := Lib.hid hR
  have HD := Lib.hid D
  have HD0 := Lib.hid D0
  have HFU := Lib.hid hf
  clear hR D D0 hf
  by_cases hlow : k < 0
  · have hRe : Hid (R = (50, S)) := Lib.hid (by
      have e0 : wErr n k s.length = 50 := by unfold wErr; rw [if_neg (by omega)]
      rw [HR.out]; unfold wrS; rw [e0]; rfl)
    go_enter Tryz.func50, Tryz.ntmps50
    go_wp2_with fail
    go_ret
    rw [hRe.out]
    exact ⟨rfl, HD0.out.more (by omega) (by omega), Only.refl _ _, FarG.refl _ _ _⟩
  by_cases hhigh : k ≥ (n : Int)
  · have hRe : Hid (R = (50, S)) := Lib.hid (by
      have e0 : wErr n k s.length = 50 := by unfold wErr; rw [if_neg (by omega)]
      rw [HR.out]; unfold wrS; rw [e0]; rfl)
    go_enter Tryz.func50, Tryz.ntmps50
    go_wp2_with fail
    go_ret
    rw [hRe.out]
    exact ⟨rfl, HD0.out.more (by omega) (by omega), Only.refl _ _, FarG.refl _ _ _⟩
  by_cases hlong : (128 : Int) < (s.length : Int)
  · have hRe : Hid (R = (4, S)) := Lib.hid (by
      have e0 : wErr n k s.length = 4 := by unfold wErr; rw [if_pos (by omega), if_neg (by omega)]
      rw [HR.out]; unfold wrS; rw [e0]; rfl)
    go_enter Tryz.func50, Tryz.ntmps50
    go_wp2_with fail
    go_ret
    rw [hRe.out]
    exact ⟨rfl, HD0.out.more (by omega) (by omega), Only.refl _ _, FarG.refl _ _ _⟩
  have e0 : wErr n k s.length = 0 := by unfold wErr; rw [if_pos (by omega), if_pos (by omega)]
  by_cases hst : S.still = true
  · have hRe : Hid (R = (51, S)) := Lib.hid (by rw [HR.out]; unfold wrS; rw [if_pos e0, if_pos hst])
    clear e0
    go_enter Tryz.func50, Tryz.ntmps50
    go_wp2_with fail
    refine (rburn_any w q gg n S c A c2 B HD.out HFU.out).mono ?_
    rintro e w1 ⟨rfl, d1, o1⟩
    rw [hst]
    rw [if_pos hst] at d1
    have HD1 := Lib.hid d1
    have HO1 := Lib.hid o1
    clear d1 o1 hst
    go_wp2_with fail
    go_ret
    rw [hRe.out]
    exact ⟨rfl, ⟨⟨h1, h2, by omega, by show S.l.length ≤ m + 1; omega⟩, HFU.out, c, A, c2, HD1.out⟩, HO1.out.mono (fun b h => by rw [h]; exact HD.out.lo), FarG.of_only HO1.out (fun b h => .inr fun t cs hb => by subst h; rw [blk_same hb HD.out.blk]; exact .inl rfl)⟩
  · have hst' : S.still = false := by simpa using hst
    obtain ⟨k, rfl⟩ : ∃ j : Nat, k = j := ⟨k.toNat, by omega⟩
    have hkn : k < n := by omega
    have hsl : s.length ≤ 128 := by omega
    have hRe : Hid (R = (0, ⟨S.g, S.l ++ [(k, pad 0 s)], S.fu.map (· - 1)⟩)) := Lib.hid (by rw [HR.out]; unfold wrS; rw [if_pos e0, if_neg hst]; simp)
    clear e0 HD0
    go_enter Tryz.func50, Tryz.ntmps50
    go_wp2_with fail
    refine (rburn_any w q gg n S c A c2 B HD.out HFU.out).mono ?_
    rintro e w1 ⟨rfl, d1, o1⟩
    rw [hst']
    rw [if_neg hst] at d1
    have hlo := HD.out.lo
    obtain ⟨W2, hW2⟩ : ∃ W2, W2 = w1.drew := ⟨_, rfl⟩
    have oW : Only (fun b => b = q) w W2 := by rw [hW2]; exact o1.drew
    have D2 : RAt W2 q gg n ⟨S.g, S.l, S.fu.map (· - 1)⟩ c A c2 B := by rw [hW2]; exact d1.only ((Only.refl _ w1).drew)
    have hlts := D2.lts h1
    obtain ⟨iu, hiu, hu0, hu1, hu2⟩ := info_parts u8Info
    have hmk := run_make_rowN (P := Tryz.prog) 57 5 iu (.int .u8 0) Tryz.underlying57 hiu hu0 .i64 .i64 (128 - s.length) (128 - s.length) (Nat.le_refl _) (by rw [hu2]; omega) (by omega) W2
    rw [hu1, zeros_cells] at hmk
    obtain ⟨W10, hW10⟩ : ∃ W10, W10 = W2.alloc (.cells (List.replicate (128 - s.length) (Value.int .u8 0)).toArray 5) := ⟨_, rfl⟩
    rw [← hW10] at hmk
    have o10 : Only (fun _ => False) W2 W10 := by rw [hW10]; exact (Only.refl _ W2).alloc _
    have b10 : Blk W10 W2.heap.size 5 (List.replicate (128 - s.length) (Value.int .u8 0)).toArray := by rw [hW10]; exact Blk.new W2 _ _
    have hcv := conv_zeros W10 W2.heap.size (128 - s.length) b10 9 Tryz.underlying9
    have hpl : (pad 0 s).length = 128 := pad_length 0 s hsl
    have hpad : sB s ++ sB (List.replicate (128 - s.length) 0) = sB (pad 0 s) := by rw [sB_append]; rfl
    obtain ⟨W14, hW14⟩ : ∃ W14, W14 = W10.alloc (.cells #[.int .i64 (k : Int), .string (sB (pad 0 s))] 132) := ⟨_, rfl⟩
    have o14 : Only (fun _ => False) W10 W14 := by rw [hW14]; exact (Only.refl _ W10).alloc _
    have b14 : Blk W14 W10.heap.size 132 #[.int .i64 (k : Int), .string (sB (pad 0 s))] := by rw [hW14]; exact Blk.new W10 _ _
    have D14 := (D2.only o10).only o14
    have hrd : Reads W14 W14.heap.size 2 (some ⟨W10.heap.size, 0, none⟩) 1 [.int .i64 (k : Int), .string (sB (pad 0 s))] := ⟨by simp, fun _ => ⟨_, rfl, b14.lt, fun j u hu => by
      rw [addr_plus, Nat.zero_add, b14.cell]
      simpa using hu⟩⟩
    obtain ⟨ir, hir, hr0, hr1, hr2⟩ := info_parts rwInfo
    obtain ⟨v', W15, hap, a1, a2, a3⟩ := run_append_any (P := Tryz.prog) W14 B 45 45 132 ir (.agg #[.int .i64 0, .string ⟨#[]⟩]) 2 24 Tryz.underlying45 hir hr0 hr1 hr2 rfl (by decide) _ _ _ D14.own W14.heap.size (some ⟨W10.heap.size, 0, none⟩) 1 1 _ hrd (by intro u hu; simp at hu; rcases hu with rfl | rfl <;> rfl) (by unfold maxLen; show S.l.length + 1 ≤ _; omega) (by show (S.l.length + 1) * 24 ≤ _; omega) (by have := D14.blk.lt; omega)
    obtain ⟨A', c', rfl⟩ : ∃ A' c', v' = .slice A' (S.l.length + 1) c' := by
      rcases owns_form a1 with ⟨_, h⟩ | ⟨g', cap, h, _⟩
      · exact absurd h (by simp)
      · exact ⟨_, _, h⟩
    have o15 : Only (fun b => (Value.slice A S.l.length c2).ownBlock = some b) W14 W15 := (Only.refl _ W14).grown a2 (fun j hj => .inl hj)
    have nq : ¬ (Value.slice A S.l.length c2).ownBlock = some q := own_blk_ne D14.own D14.blk (by decide)
    obtain ⟨_, hgb⟩ := own_blk D14.good
    have ng : ∀ j, (Value.slice (some ⟨gg, 0, none⟩) n c).ownBlock = some j → ¬ (Value.slice A S.l.length c2).ownBlock = some j := fun j hj e => by
      have : j = gg := by simpa [Value.ownBlock] using hj.symm
      subst this
      exact own_blk_ne D14.own hgb (by decide) e
    have b15 := o15.blk D14.blk nq
    have g15 := o15.owns D14.good ng
    obtain ⟨W18, hW18⟩ : ∃ W18, W18 = W15.setCell ⟨q, 1, none⟩ (.slice A' (S.l.length + 1) c') := ⟨_, rfl⟩
    have o18 : Only (fun b => b = q) W15 W18 := by rw [hW18]; exact (Only.refl (fun b => b = q) W15).setCell (p := ⟨q, 1, none⟩) (.inl rfl) _
    have hne := own_blk_ne a1 b15 (by decide)
    have hne2 := own_blk_ne g15 b15 (by decide)
    have HF : Hid (RkS W18 q gg n ⟨S.g, S.l ++ [(k, pad 0 s)], S.fu.map (· - 1)⟩ B (m + 1) ∧ Only (fun b => B ≤ b) w W18 ∧ FarG RT (fun _ => False) w W18) := Lib.hid (by
      refine ⟨⟨⟨h1, h2, by omega, by simp; omega⟩, fun j hj => ?_, c, A', c', ⟨?_, o18.owns g15 (fun j hj e => hne2 (hj.trans (congrArg some e))), ?_, hlo, ⟨D2.ok.len, D2.ok.all, fun y hy => ?_⟩⟩⟩, ?_, ?_⟩
      · cases hfu : S.fu with
        | none => rw [hfu] at hj; cases hj
        | some z =>
          rw [hfu] at hj
          have := HFU.out z hfu
          simp at hj
          omega
      · rw [hW18, List.length_append]; exact b15.set_ 1 _
      · rw [List.length_append, rwL_snoc]
        exact o18.owns a1 (fun j hj e => hne (hj.trans (congrArg some e)))
      · rcases List.mem_append.1 hy with h | h
        · exact D2.ok.lo y h
        · rw [List.mem_singleton.1 h]; exact ⟨hkn, hpl⟩
      · refine ((((oW.mono fun b h => by rw [h]; exact hlo).trans (o10.mono fun _ h => h.elim)).trans (o14.mono fun _ h => h.elim)).trans (o15.mono fun b h => ((D14.own.lt b h).1))).trans (o18.mono fun b h => by rw [h]; exact hlo)
      · have f1 : FarG RT (fun _ => False) w W2 := FarG.of_only oW (fun b h => .inr fun t cs hb => by subst h; rw [blk_same hb HD.out.blk]; exact .inl rfl)
        have f15 : FarG RT (fun _ => False) W14 W15 := FarG.of_only o15 (fun b h => .inr fun t cs hb => by rw [own_same D14.own h hb]; exact .inr rfl)
        have f18 : FarG RT (fun _ => False) W15 W18 := FarG.of_only o18 (fun b h => .inr fun t cs hb => by subst h; rw [blk_same hb b15]; exact .inl rfl)
        exact (((f1.trans (FarG.none o10)).trans (FarG.none o14)).trans f15).trans f18)
    have CL0 : Hid (W2.cell? ⟨q, 1, none⟩ = some (.slice A S.l.length c2)) := Lib.hid (D2.blk.cell 1)
    have CL1 : Hid (W10.cell? ⟨q, 1, none⟩ = some (.slice A S.l.length c2)) := Lib.hid ((D2.only o10).blk.cell 1)
    have CL2 : Hid (W14.cell? ⟨q, 1, none⟩ = some (.slice A S.l.length c2)) := Lib.hid (D14.blk.cell 1)
    have CQ15 : Hid (W15.cell? ⟨q, 1, none⟩ = some (.slice A S.l.length c2)) := Lib.hid (b15.cell 1)
    have FQ15 : Hid (W15.frozen? ⟨q, 1, none⟩ = false) := Lib.hid (b15.frozen 1)
    have hsub : IntKind.i64.wrap ((128 : Int) - (s.length : Int)) = ((128 - s.length : Nat) : Int) := by rw [IntWalk.i64_in _ (by omega)]; omega
    have hz1 : (sB (List.replicate (128 - s.length) (0 : UInt8))).size = 128 - s.length := by rw [sB_size]; simp
    have HMK := Lib.hid hmk
    have HCV := Lib.hid hcv
    have HAP := Lib.hid hap
    have HW2 := Lib.hid hW2
    have HW14 := Lib.hid hW14.symm
    have HW18 := Lib.hid hW18
    clear d1 o1 oW D2 hlts hmk o10 b10 hcv o14 b14 D14 hrd hap a1 a2 a3 o15 nq hgb ng b15 g15 o18 hne hne2 hW2 hW10 hW14 hW18 hlo hst hst' hiu hu0 hu1 hu2 hir hr0 hr1 hr2 hpl hkn
    go_wp2_with fail
    refine wp_region_sc (by kernel_rfl) (StC W2 [(10, W10), (14, W14), (15, W15), (18, W18)]) [Is (.pointer (some ⟨q, 0, none⟩)), Is (.pointer (some ⟨q, 0, none⟩)), Is (.pointer (some ⟨q, 0, none⟩)), Is (.pointer (some ⟨q, 1, none⟩)), Is (.slice A S.l.length c2), Is (.int .i64 (k : Int)), Is (.string (sB s)), Is (.string (sB s)), Is (.int .i64 (s.length : Int)), Is (.int .i64 ((128 - s.length : Nat) : Int)), Is (.slice (some ⟨W2.heap.size, 0, none⟩) (128 - s.length) (128 - s.length)), Is (.string (sB (List.replicate (128 - s.length) 0))), Is (.string (sB (pad 0 s))), Is (.agg #[.int .i64 (k : Int), .string (sB (pad 0 s))]), Is (.slice (some ⟨W10.heap.size, 0, none⟩) 1 1), Is (.slice A' (S.l.length + 1) c'), Is (.pointer (some ⟨q, 0, none⟩)), Is (.pointer (some ⟨q, 1, none⟩)), fun _ _ => True] (by kernel_rfl)
      ⟨is_stab _ _, is_stab _ _, is_stab _ _, is_stab _ _, is_stab _ _, is_stab _ _, is_stab _ _, is_stab _ _, is_stab _ _, is_stab _ _, is_stab _ _, is_stab _ _, is_stab _ _, is_stab _ _, is_stab _ _, is_stab _ _, is_stab _ _, is_stab _ _, (fun _ _ _ _ _ => trivial), trivial⟩ (by rw [← HW2.out]; exact StC.start _ _) ⟨?_, ?_, ?_, ?_, ?_, ?_, ?_, ?_, ?_, ?_, ?_, ?_, ?_, ?_, ?_, ?_, ?_, ?_, ?_, trivial⟩ ?_
    · intro dn u w1 hi he hcl hS hp K hK
      refine ord_plain rfl ?_
      simp at hp hK ⊢
      go_simp
      exact hK _ _ (hS.skip (by simp)) rfl
    · intro dn u w1 hi he hcl hS hp K hK
      refine ord_plain rfl ?_
      simp at hp hK ⊢
      go_simp
      exact hK _ _ (hS.skip (by simp)) rfl
    · intro dn u w1 hi he hcl hS hp K hK
      refine ord_plain rfl ?_
      simp at hp hK ⊢
      simp only [hp] at hK
      go_simp
      exact hK _ _ (hS.skip (by simp)) rfl
    · intro dn u w1 hi he hcl hS hp K hK
      refine ord_plain rfl ?_
      simp at hp hK ⊢
      simp only [hp] at hK
      go_simp
      exact hK _ _ (hS.skip (by simp)) rfl
    · intro dn u w1 hi he hcl hS hp K hK
      refine ord_plain rfl ?_
      simp at hp hK ⊢
      simp only [hp] at hK
      have n15 : dn 15 = false := by
        cases h15 : dn 15 with
        | false => rfl
        | true =>
          have q15_4_0 := hcl 15 _ rfl h15
          simp [edgesDone] at q15_4_0
          have d4_ : dn 4 = true := by simp [q15_4_0]
          rw [d4_] at hi; cases hi
      have hc : w1.cell? ⟨q, 1, none⟩ = some (.slice A S.l.length c2) := by
        rcases hS.mem with rfl | ⟨x, hx, h1, rfl⟩
        · exact CL0.out
        · simp only [List.mem_cons, List.not_mem_nil, or_false] at hx
          rcases hx with rfl | rfl | rfl | rfl
          · exact CL1.out
          · exact CL2.out
          · rw [n15] at h1; cases h1
          · have q18_15_0 := hcl 18 _ rfl h1
            simp [edgesDone] at q18_15_0
            have d15_ : dn 15 = true := by simp [q18_15_0]
            rw [d15_] at n15; cases n15
      go_simp
      exact hK _ _ (hS.skip (by simp)) rfl
    · intro dn u w1 hi he hcl hS hp K hK
      refine ord_plain rfl ?_
      simp at hp hK ⊢
      go_simp
      exact hK _ _ (hS.skip (by simp)) rfl
    · intro dn u w1 hi he hcl hS hp K hK
      refine ord_plain rfl ?_
      simp at hp hK ⊢
      go_simp
      exact hK _ _ (hS.skip (by simp)) rfl
    · intro dn u w1 hi he hcl hS hp K hK
      refine ord_plain rfl ?_
      simp at hp hK ⊢
      go_simp
      exact hK _ _ (hS.skip (by simp)) rfl
    · intro dn u w1 hi he hcl hS hp K hK
      refine ord_plain rfl ?_
      simp at hp hK ⊢
      simp only [hp] at hK
      go_simp
      exact hK _ _ (hS.skip (by simp)) rfl
    · intro dn u w1 hi he hcl hS hp K hK
      refine ord_plain rfl ?_
      simp at hp hK ⊢
      simp only [hp] at hK
      go_simp
      exact hK _ _ (hS.skip (by simp)) rfl
    · intro dn u w1 hi he hcl hS hp K hK
      refine ord_plain rfl ?_
      simp at hp hK ⊢
      simp only [hp] at hK
      have hw := hS
      simp [StC, hi] at hw
      obtain ⟨hw, hrest⟩ := hw
      have hw2 := hw.symm
      subst hw2
      have hmk := HMK.out
      go_simp
      exact hK _ _ (by simp [StC, ldW, hrest]) rfl
    · intro dn u w1 hi he hcl hS hp K hK
      refine ord_plain rfl ?_
      simp at hp hK ⊢
      simp only [hp] at hK
      have q11_10_0 := he
      simp [edgesDone] at q11_10_0
      have d10_ : dn 10 = true := by simp [q11_10_0]
      have n14 : dn 14 = false := by
        cases h14 : dn 14 with
        | false => rfl
        | true =>
          have q14_11_0 := hcl 14 _ rfl h14
          simp [edgesDone] at q14_11_0
          have d13_ : dn 13 = true := by simp [q14_11_0]
          have q14_11_1 := hcl 13 _ rfl d13_
          simp [edgesDone] at q14_11_1
          have d12_ : dn 12 = true := by simp [q14_11_1]
          have q14_11_2 := hcl 12 _ rfl d12_
          simp [edgesDone] at q14_11_2
          have d11_ : dn 11 = true := by simp [q14_11_2]
          rw [d11_] at hi; cases hi
      have hw := hS
      simp [StC, d10_, n14] at hw
      have hw2 := hw.1.symm
      subst hw2
      have hcv := HCV.out
      go_simp
      exact hK _ _ (hS.skip (by simp)) rfl
    · intro dn u w1 hi he hcl hS hp K hK
      refine ord_plain rfl ?_
      simp at hp hK ⊢
      simp only [hp] at hK
      go_simp
      exact hK _ _ (hS.skip (by simp)) rfl
    · intro dn u w1 hi he hcl hS hp K hK
      refine ord_plain rfl ?_
      simp at hp hK ⊢
      simp only [hp] at hK
      go_simp
      exact hK _ _ (hS.skip (by simp)) rfl
    · intro dn u w1 hi he hcl hS hp K hK
      refine ord_plain rfl ?_
      simp at hp hK ⊢
      simp only [hp] at hK
      have q14_10_0 := he
      simp [edgesDone] at q14_10_0
      have d13_ : dn 13 = true := by simp [q14_10_0]
      have q14_10_1 := hcl 13 _ rfl d13_
      simp [edgesDone] at q14_10_1
      have d12_ : dn 12 = true := by simp [q14_10_1]
      have q14_10_2 := hcl 12 _ rfl d12_
      simp [edgesDone] at q14_10_2
      have d11_ : dn 11 = true := by simp [q14_10_2]
      have q14_10_3 := hcl 11 _ rfl d11_
      simp [edgesDone] at q14_10_3
      have d10_ : dn 10 = true := by simp [q14_10_3]
      have hw := hS
      simp [StC, d10_, hi] at hw
      obtain ⟨hw, hrest⟩ := hw
      have hw2 := hw.symm
      subst hw2
      go_simp
      rw [HW14.out]
      exact hK _ _ (by simp [StC, ldW, d10_, hrest]) rfl
    · intro dn u w1 hi he hcl hS hp K hK
      refine ord_plain rfl ?_
      simp at hp hK ⊢
      have q15_14_0 := he
      simp [edgesDone] at q15_14_0
      have d14_ : dn 14 = true := by simp [q15_14_0]
      have q14_10_0 := hcl 14 _ rfl d14_
      simp [edgesDone] at q14_10_0
      have d13_ : dn 13 = true := by simp [q14_10_0]
      have q14_10_1 := hcl 13 _ rfl d13_
      simp [edgesDone] at q14_10_1
      have d12_ : dn 12 = true := by simp [q14_10_1]
      have q14_10_2 := hcl 12 _ rfl d12_
      simp [edgesDone] at q14_10_2
      have d11_ : dn 11 = true := by simp [q14_10_2]
      have q14_10_3 := hcl 11 _ rfl d11_
      simp [edgesDone] at q14_10_3
      have d10_ : dn 10 = true := by simp [q14_10_3]
      have hw := hS
      simp [StC, d10_, d14_, hi] at hw
      obtain ⟨hw, hrest⟩ := hw
      have hw2 := hw.symm
      subst hw2
      refine wp_append_by (.tmp 28) (.tmp 38) 45 rfl (by simpa [Act.eval] using hp.1) (by simpa [Act.eval] using hp.2) HAP.out ?_
      exact hK _ _ (by simp [StC, ldW, d10_, d14_, hrest]) rfl
    · intro dn u w1 hi he hcl hS hp K hK
      refine ord_plain rfl ?_
      simp at hp hK ⊢
      simp only [hp] at hK
      go_simp
      exact hK _ _ (hS.skip (by simp)) rfl
    · intro dn u w1 hi he hcl hS hp K hK
      refine ord_plain rfl ?_
      simp at hp hK ⊢
      simp only [hp] at hK
      go_simp
      exact hK _ _ (hS.skip (by simp)) rfl
    · intro dn u w1 hi he hcl hS hp K hK
      refine ord_plain rfl ?_
      simp at hp hK ⊢
      simp only [hp] at hK
      have q18_15_0 := he
      simp [edgesDone] at q18_15_0
      have d15_ : dn 15 = true := by simp [q18_15_0]
      have q15_14_0 := hcl 15 _ rfl d15_
      simp [edgesDone] at q15_14_0
      have d14_ : dn 14 = true := by simp [q15_14_0]
      have q14_10_0 := hcl 14 _ rfl d14_
      simp [edgesDone] at q14_10_0
      have d13_ : dn 13 = true := by simp [q14_10_0]
      have q14_10_1 := hcl 13 _ rfl d13_
      simp [edgesDone] at q14_10_1
      have d12_ : dn 12 = true := by simp [q14_10_1]
      have q14_10_2 := hcl 12 _ rfl d12_
      simp [edgesDone] at q14_10_2
      have d11_ : dn 11 = true := by simp [q14_10_2]
      have q14_10_3 := hcl 11 _ rfl d11_
      simp [edgesDone] at q14_10_3
      have d10_ : dn 10 = true := by simp [q14_10_3]
      have hw := hS
      simp [StC, d10_, d14_, d15_, hi] at hw
      have hw2 := hw.symm
      subst hw2
      have hcq := CQ15.out
      have hfq := FQ15.out
      go_simp
      rw [← HW18.out]
      exact hK _ (by simp [StC, ldW, d10_, d14_, d15_])
    · intro u w1 dn hld hS hp
      simp at hp ⊢
      simp [StC, hld 10 (by decide), hld 14 (by decide), hld 15 (by decide), hld 18 (by decide)] at hS
      subst hS
      go_wp2_with fail
      go_ret
      rw [hRe.out]
      exact ⟨rfl, HF.out⟩
end Go.Proofs.YtmneflpjoaocbaaGreat
/- The document's disk: New. No conditions beyond what it states. -/
namespace Go.Proofs.YtmneflpjoaocbaaGreat
set_option maxRecDepth 100000
open Go.RowKit
set_option linter.unusedVariables false
attribute [local simp] frOf dstsOf frGo predsHold allHold Region.binds slotOf seen Is Act.put
theorem zeroG_succ (k : Nat) : zeroG (k + 1) = zeroG k ++ [List.replicate 128 0] := by
  unfold zeroG
  rw [List.replicate_succ']
/-- a disk that is being made -/
structure RMk (w wr : World) (q k : Nat) (A : Option Addr) (c B : Nat) : Prop where
  blk : Blk wr q 47 #[.slice A k c, .slice none 0 0, .int .i64 (-1)]
  own : wr.ownsRow B 9 1 (.slice A k c) k (strsV (zeroG k))
  only : Only (fun _ => False) w wr
def RNew (w w' : World) (q n B : Nat) : Prop := (∃ gg, RkS w' q gg n ⟨zeroG n, [], none⟩ B 0) ∧ Only (fun _ => False) w w'
set_option maxHeartbeats 4000000 in
set_option maxRecDepth 100000 in
theorem rnew_any (n : Nat) (w : World) (h0 : 1 ≤ n) (h1 : n ≤ 4096) :
    Calls Tryz.prog 7 #[.int .i64 (n : Int)] w fun e w' => e = .returned (.tuple #[.pointer (some ⟨w.heap.size, 0, none⟩), .int .i64 0]) ∧ RNew w w' w.heap.size n w.heap.size := by
  have e1 : ¬ (n : Int) < 1 := by omega
  have e2 : ¬ (4096 : Int) < (n : Int) := by omega
  go_enter Tryz.func7, Tryz.ntmps7
  go_wp2_with fail
  have HI : Hid (RMk w (w.alloc (.cells #[.slice none 0 0, .slice none 0 0, .int .i64 (-1)] 47)) w.heap.size 0 none 0 w.heap.size) := Lib.hid ⟨Blk.new w _ _, World.ownsRow_nil _ _ _ _, (Only.refl _ w).alloc _⟩
  generalize hqq : w.heap.size = q at *
  have HQ := Lib.hid hqq
  clear hqq
  go_loopw [5] (fun i wr => ∃ (k : Nat) (A : Option Addr) (c : Nat), k ≤ n ∧ i = .int .i64 (k : Int) ∧ RMk w wr q k A c q) (fun i _ => n - (intOf i).toNat)
  case atStart => exact ⟨0, none, 0, by omega, rfl, HI.out⟩
  case round =>
    obtain ⟨k, A, c, hk, rfl, b1⟩ := hrel
    have HM := Lib.hid b1
    have cq : wr.cell? ⟨q, 0, none⟩ = some (.slice A k c) := b1.blk.cell 0
    clear b1
    by_cases hlt : k < n
    · have hlti : (k : Int) < (n : Int) := by omega
      obtain ⟨W2, hW2⟩ : ∃ W2, W2 = wr.drew := ⟨_, rfl⟩
      have o2 : Only (fun _ => False) wr W2 := by rw [hW2]; exact (Only.refl _ wr).drew
      have B2 := o2.blk HM.out.blk (fun h => h)
      have O2 := o2.owns HM.out.own (fun _ _ h => h)
      obtain ⟨iu, hiu, hu0, hu1, hu2⟩ := info_parts u8Info
      have hmk := run_make_rowN (P := Tryz.prog) 57 5 iu (.int .u8 0) Tryz.underlying57 hiu hu0 .i64 .i64 128 128 (Nat.le_refl _) (by rw [hu2]; omega) (by omega) W2
      rw [hu1, zeros_cells] at hmk
      obtain ⟨W5, hW5⟩ : ∃ W5, W5 = W2.alloc (.cells (List.replicate 128 (Value.int .u8 0)).toArray 5) := ⟨_, rfl⟩
      rw [← hW5] at hmk
      have o5 : Only (fun _ => False) W2 W5 := by rw [hW5]; exact (Only.refl _ W2).alloc _
      have b5 : Blk W5 W2.heap.size 5 (List.replicate 128 (Value.int .u8 0)).toArray := by rw [hW5]; exact Blk.new W2 _ _
      have hcv := conv_zeros W5 W2.heap.size 128 b5 9 Tryz.underlying9
      obtain ⟨Z, hZ⟩ : ∃ Z, Z = List.replicate 128 (0 : UInt8) := ⟨_, rfl⟩
      rw [← hZ] at hcv
      have hzs : zeroG (k + 1) = zeroG k ++ [Z] := by rw [hZ]; exact zeroG_succ k
      obtain ⟨W7, hW7⟩ : ∃ W7, W7 = W5.alloc (.cells #[.string (sB Z)] 9) := ⟨_, rfl⟩
      have o7 : Only (fun _ => False) W5 W7 := by rw [hW7]; exact (Only.refl _ W5).alloc _
      have b7 : Blk W7 W5.heap.size 9 #[.string (sB Z)] := by rw [hW7]; exact Blk.new W5 _ _
      have B5 := o5.blk B2 (fun h => h)
      have B7 := o7.blk B5 (fun h => h)
      have O7 := o7.owns (o5.owns O2 (fun _ _ h => h)) (fun _ _ h => h)
      have hrd : Reads W7 W7.heap.size 1 (some ⟨W5.heap.size, 0, none⟩) 1 [.string (sB Z)] := ⟨by simp, fun _ => ⟨_, rfl, b7.lt, fun j u hu => by
        rw [addr_plus, Nat.zero_add, b7.cell]
        simpa using hu⟩⟩
      obtain ⟨ir, hir, hr0, hr1, hr2⟩ := info_parts strInfo
      obtain ⟨v', W8, hap, a1, a2, a3⟩ := run_append_any (P := Tryz.prog) W7 q 38 38 9 ir (.string ⟨#[]⟩) 1 16 Tryz.underlying38 hir hr0 hr1 hr2 rfl (by decide) _ _ _ O7 W7.heap.size (some ⟨W5.heap.size, 0, none⟩) 1 1 _ hrd (by intro u hu; simp at hu; rcases hu with rfl; rfl) (by unfold maxLen; omega) (by omega) (by have := B7.lt; omega)
      obtain ⟨A', c', rfl⟩ : ∃ A' c', v' = .slice A' (k + 1) c' := by
        rcases owns_form a1 with ⟨_, h⟩ | ⟨g', cap, h, _⟩
        · omega
        · exact ⟨_, _, h⟩
      have nq : ¬ (Value.slice A k c).ownBlock = some q := own_blk_ne O7 B7 (by decide)
      have o8 : Only (fun b => (Value.slice A k c).ownBlock = some b) W7 W8 := (Only.refl _ W7).grown a2 (fun j hj => .inl hj)
      have B8 := o8.blk B7 nq
      obtain ⟨W11, hW11⟩ : ∃ W11, W11 = W8.setCell ⟨q, 0, none⟩ (.slice A' (k + 1) c') := ⟨_, rfl⟩
      have o11 : Only (fun b => b = q) W8 W11 := by rw [hW11]; exact (Only.refl (fun b => b = q) W8).setCell (p := ⟨q, 0, none⟩) (.inl rfl) _
      have hne := own_blk_ne a1 B8 (by decide)
      have hlo : ∀ b, w.heap.size ≤ b → True := fun _ _ => trivial
      have HF : Hid (RMk w W11 q (k + 1) A' c' q) := Lib.hid (by
        refine ⟨?_, ?_, ?_⟩
        · rw [hW11]; exact B8.set_ 0 _
        · rw [hzs]
          have e : strsV (zeroG k ++ [Z]) = strsV (zeroG k) ++ [.string (sB Z)] := by simp [strsV]
          rw [e]
          exact o11.owns a1 (fun j hj e => hne (hj.trans (congrArg some e)))
        · have f1 := ((HM.out.only.trans o2).trans o5).trans o7
          have hq : w.heap.size = q := HQ.out
          exact (f1.trans' o8 (fun j hj => .inr (by rw [hq]; exact (O7.lt j hj).1))).trans' o11 (fun j hj => .inr (by rw [hj, hq]; exact Nat.le_refl _)))
      have hmk : (Instr.makeSlice 57 (.int .i64 128) (.int .i64 128)).run Tryz.prog W2 = .ok (.slice (some ⟨W2.heap.size, 0, none⟩) 128 128) W5 := hmk
      have CL0 : Hid (W2.cell? ⟨q, 0, none⟩ = some (.slice A k c)) := Lib.hid (B2.cell 0)
      have CL1 : Hid (W5.cell? ⟨q, 0, none⟩ = some (.slice A k c)) := Lib.hid (B5.cell 0)
      have CL2 : Hid (W7.cell? ⟨q, 0, none⟩ = some (.slice A k c)) := Lib.hid (B7.cell 0)
      have CQ8 : Hid (W8.cell? ⟨q, 0, none⟩ = some (.slice A k c)) := Lib.hid (B8.cell 0)
      have FQ8 : Hid (W8.frozen? ⟨q, 0, none⟩ = false) := Lib.hid (B8.frozen 0)
      have HMK := Lib.hid hmk
      have HCV := Lib.hid hcv
      have HAP := Lib.hid hap
      have HW2 := Lib.hid hW2
      have HW7 := Lib.hid hW7.symm
      have HW11 := Lib.hid hW11
      clear hZ hzs o2 B2 O2 hmk o5 b5 hcv o7 b7 B5 B7 O7 hrd hap a1 a2 a3 nq o8 B8 o11 hne hW2 hW5 hW7 hW11 hiu hu0 hu1 hu2 hir hr0 hr1 hr2 hlo
      go_wp2_with fail
      refine wp_region_sc (by kernel_rfl) (StC W2 [(5, W5), (7, W7), (8, W8), (11, W11)]) [Is (.pointer (some ⟨q, 0, none⟩)), Is (.pointer (some ⟨q, 0, none⟩)), Is (.pointer (some ⟨q, 0, none⟩)), Is (.pointer (some ⟨q, 0, none⟩)), Is (.slice A k c), Is (.slice (some ⟨W2.heap.size, 0, none⟩) 128 128), Is (.string (sB Z)), Is (.slice (some ⟨W5.heap.size, 0, none⟩) 1 1), Is (.slice A' (k + 1) c'), Is (.pointer (some ⟨q, 0, none⟩)), Is (.pointer (some ⟨q, 0, none⟩)), fun _ _ => True] (by kernel_rfl)
        ⟨is_stab _ _, is_stab _ _, is_stab _ _, is_stab _ _, is_stab _ _, is_stab _ _, is_stab _ _, is_stab _ _, is_stab _ _, is_stab _ _, is_stab _ _, (fun _ _ _ _ _ => trivial), trivial⟩ (by rw [← HW2.out]; exact StC.start _ _) ⟨?_, ?_, ?_, ?_, ?_, ?_, ?_, ?_, ?_, ?_, ?_, ?_, trivial⟩ ?_
      · intro dn u w1 hi he hcl hS hp K hK
        refine ord_plain rfl ?_
        simp at hp hK ⊢
        go_simp
        exact hK _ _ (hS.skip (by simp)) rfl
      · intro dn u w1 hi he hcl hS hp K hK
        refine ord_plain rfl ?_
        simp at hp hK ⊢
        go_simp
        exact hK _ _ (hS.skip (by simp)) rfl
      · intro dn u w1 hi he hcl hS hp K hK
        refine ord_plain rfl ?_
        simp at hp hK ⊢
        simp only [hp] at hK
        go_simp
        exact hK _ _ (hS.skip (by simp)) rfl
      · intro dn u w1 hi he hcl hS hp K hK
        refine ord_plain rfl ?_
        simp at hp hK ⊢
        simp only [hp] at hK
        go_simp
        exact hK _ _ (hS.skip (by simp)) rfl
      · intro dn u w1 hi he hcl hS hp K hK
        refine ord_plain rfl ?_
        simp at hp hK ⊢
        simp only [hp] at hK
        have n8 : dn 8 = false := by
          cases h8 : dn 8 with
          | false => rfl
          | true =>
            have q8_4_0 := hcl 8 _ rfl h8
            simp [edgesDone] at q8_4_0
            have d4_ : dn 4 = true := by simp [q8_4_0]
            rw [d4_] at hi; cases hi
        have hc : w1.cell? ⟨q, 0, none⟩ = some (.slice A k c) := by
          rcases hS.mem with rfl | ⟨x, hx, h1, rfl⟩
          · exact CL0.out
          · simp only [List.mem_cons, List.not_mem_nil, or_false] at hx
            rcases hx with rfl | rfl | rfl | rfl
            · exact CL1.out
            · exact CL2.out
            · rw [n8] at h1; cases h1
            · have q11_8_0 := hcl 11 _ rfl h1
              simp [edgesDone] at q11_8_0
              have d8_ : dn 8 = true := by simp [q11_8_0]
              rw [d8_] at n8; cases n8
        go_simp
        exact hK _ _ (hS.skip (by simp)) rfl
      · intro dn u w1 hi he hcl hS hp K hK
        refine ord_plain rfl ?_
        simp at hp hK ⊢
        have hw := hS
        simp [StC, hi] at hw
        obtain ⟨hw, hrest⟩ := hw
        have hw2 := hw.symm
        subst hw2
        have hmk := HMK.out
        go_simp
        exact hK _ _ (by simp [StC, ldW, hrest]) rfl
      · intro dn u w1 hi he hcl hS hp K hK
        refine ord_plain rfl ?_
        simp at hp hK ⊢
        simp only [hp] at hK
        have q6_5_0 := he
        simp [edgesDone] at q6_5_0
        have d5_ : dn 5 = true := by simp [q6_5_0]
        have n7 : dn 7 = false := by
          cases h7 : dn 7 with
          | false => rfl
          | true =>
            have q7_6_0 := hcl 7 _ rfl h7
            simp [edgesDone] at q7_6_0
            have d6_ : dn 6 = true := by simp [q7_6_0]
            rw [d6_] at hi; cases hi
        have hw := hS
        simp [StC, d5_, n7] at hw
        have hw2 := hw.1.symm
        subst hw2
        have hcv := HCV.out
        go_simp
        exact hK _ _ (hS.skip (by simp)) rfl
      · intro dn u w1 hi he hcl hS hp K hK
        refine ord_plain rfl ?_
        simp at hp hK ⊢
        simp only [hp] at hK
        have q7_5_0 := he
        simp [edgesDone] at q7_5_0
        have d6_ : dn 6 = true := by simp [q7_5_0]
        have q7_5_1 := hcl 6 _ rfl d6_
        simp [edgesDone] at q7_5_1
        have d5_ : dn 5 = true := by simp [q7_5_1]
        have hw := hS
        simp [StC, d5_, hi] at hw
        obtain ⟨hw, hrest⟩ := hw
        have hw2 := hw.symm
        subst hw2
        go_simp
        rw [HW7.out]
        exact hK _ _ (by simp [StC, ldW, d5_, hrest]) rfl
      · intro dn u w1 hi he hcl hS hp K hK
        refine ord_plain rfl ?_
        simp at hp hK ⊢
        have q8_7_0 := he
        simp [edgesDone] at q8_7_0
        have d7_ : dn 7 = true := by simp [q8_7_0]
        have q7_5_0 := hcl 7 _ rfl d7_
        simp [edgesDone] at q7_5_0
        have d6_ : dn 6 = true := by simp [q7_5_0]
        have q7_5_1 := hcl 6 _ rfl d6_
        simp [edgesDone] at q7_5_1
        have d5_ : dn 5 = true := by simp [q7_5_1]
        have hw := hS
        simp [StC, d5_, d7_, hi] at hw
        obtain ⟨hw, hrest⟩ := hw
        have hw2 := hw.symm
        subst hw2
        refine wp_append_by (.tmp 23) (.tmp 26) 38 rfl (by simpa [Act.eval] using hp.1) (by simpa [Act.eval] using hp.2) HAP.out ?_
        exact hK _ _ (by simp [StC, ldW, d5_, d7_, hrest]) rfl
      · intro dn u w1 hi he hcl hS hp K hK
        refine ord_plain rfl ?_
        simp at hp hK ⊢
        simp only [hp] at hK
        go_simp
        exact hK _ _ (hS.skip (by simp)) rfl
      · intro dn u w1 hi he hcl hS hp K hK
        refine ord_plain rfl ?_
        simp at hp hK ⊢
        simp only [hp] at hK
        go_simp
        exact hK _ _ (hS.skip (by simp)) rfl
      · intro dn u w1 hi he hcl hS hp K hK
        refine ord_plain rfl ?_
        simp at hp hK ⊢
        simp only [hp] at hK
        have q11_8_0 := he
        simp [edgesDone] at q11_8_0
        have d8_ : dn 8 = true := by simp [q11_8_0]
        have q8_7_0 := hcl 8 _ rfl d8_
        simp [edgesDone] at q8_7_0
        have d7_ : dn 7 = true := by simp [q8_7_0]
        have q7_5_0 := hcl 7 _ rfl d7_
        simp [edgesDone] at q7_5_0
        have d6_ : dn 6 = true := by simp [q7_5_0]
        have q7_5_1 := hcl 6 _ rfl d6_
        simp [edgesDone] at q7_5_1
        have d5_ : dn 5 = true := by simp [q7_5_1]
        have hw := hS
        simp [StC, d5_, d7_, d8_, hi] at hw
        have hw2 := hw.symm
        subst hw2
        have hcq := CQ8.out
        have hfq := FQ8.out
        go_simp
        rw [← HW11.out]
        exact hK _ (by simp [StC, ldW, d5_, d7_, d8_])
      · intro u w1 dn hld hS hp
        simp at hp ⊢
        simp [StC, hld 5 (by decide), hld 7 (by decide), hld 8 (by decide), hld 11 (by decide)] at hS
        subst hS
        go_wp2_with fail
        go_roundw
        case rel => exact ⟨k + 1, A', c', by omega, by go_num, HF.out⟩
        case measure => simp [intOf]; omega
    · obtain rfl : k = n := by omega
      have hge : ¬ (k : Int) < (k : Int) := by omega
      go_wp2_with fail
      go_ret2
      rw [HQ.out]
      have D := HM.out
      refine ⟨rfl, ?_, D.only⟩
      obtain ⟨gg, cap, hv, hgg⟩ : ∃ gg cap, (Value.slice A k c) = .slice (some ⟨gg, 0, none⟩) k cap ∧ True := by
        rcases owns_form D.own with ⟨_, h⟩ | ⟨g', cap, h, _⟩
        · omega
        · exact ⟨_, _, h, trivial⟩
      injection hv with hA _ hc
      subst hA
      exact ⟨gg, ⟨h0, h1, by omega, by simp⟩, (fun j hj => by cases hj), c, none, 0, ⟨D.blk, D.own, World.ownsRow_nil _ _ _ _, Nat.le_refl _, zeroG_ok k⟩⟩
end Go.Proofs.YtmneflpjoaocbaaGreat
