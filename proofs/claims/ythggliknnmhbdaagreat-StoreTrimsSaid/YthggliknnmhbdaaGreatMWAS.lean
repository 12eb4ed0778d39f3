/- Several texts in one: BkG, BkH, BkI. -/
import Derived.Test.YthggliknnmhbdaaGreatMWAR
import Derived.Laws.EntriesVeiled
/- Books: the walk of turn: sectors are made what is wanted, and synced. No conditions beyond what it states. -/
namespace Go.Proofs.YthggliknnmhbdaaGreat
set_option maxRecDepth 100000
open Go.RowKit
set_option linter.unusedVariables false
theorem dk_keep {w w' : World} {p gs n g : Nat} {S : Dst} {B m : Nat} {cs : Array Value} (D : DkS w p gs n S B m) (hg : Blk w g 9 cs) (o : Only (fun b => b = g) w w') : DkS w' p gs n S B m := D.away hg o nDT_string
theorem sB_ne {x y : List UInt8} (h : ¬ x = y) : ((sB x).toList == (sB y).toList) = false := by
  refine beq_eq_false_iff_ne.2 (fun e => h (sB_inj ?_))
  rw [ByteArray.toList_eq, ByteArray.toList_eq] at e
  exact ByteArray.ext (Array.toList_inj.1 e)
theorem own_fz {w : World} {base n g c : Nat} {e : TypeId} {xs : List Value} (h : w.ownsRow base e 1 (.slice (some ⟨g, 0, none⟩) n c) n xs) (i : Nat) : w.frozen? ⟨g, i, none⟩ = false := by
  rcases h.2 with ⟨h0, _⟩ | ⟨g', cap, cur, hv, hb, hk, _⟩
  · injection h0 with h0; cases h0
  · injection hv with h1 h2 h3
    injection h1 with h1
    injection h1 with h1
    subst h1
    exact Blk.frozen (t := e) (cs := cur) hk i
theorem own_blk {w : World} {base n g c : Nat} {e : TypeId} {xs : List Value} (h : w.ownsRow base e 1 (.slice (some ⟨g, 0, none⟩) n c) n xs) : ∃ cur, Blk w g e cur := by
  rcases h.2 with ⟨h0, _⟩ | ⟨g', cap, cur, hv, hb, hk, _⟩
  · injection h0 with h0; cases h0
  · injection hv with h1 h2 h3
    injection h1 with h1
    injection h1 with h1
    subst h1
    exact ⟨cur, hk⟩
set_option maxHeartbeats 4000000 in
set_option maxRecDepth 100000 in
theorem bturn_any (p gs n f nn : Nat) (S : Dst) (B m : Nat) (ts : List (List UInt8)) (wf : Nat → List UInt8 → List UInt8) (g c base fid : Nat) (caps : Array Value) (w : World)
    (D : DkS w p gs n S B m) (hown : w.ownsRow base 9 1 (.slice (some ⟨g, 0, none⟩) ts.length c) ts.length (strsV ts)) (hgB : B ≤ g)
    (hf : f ≤ 4096) (hn : ts.length ≤ 4096) (hm : m + 5000 ≤ 1000000) (hwl : ∀ k t, (wf k t).length ≤ 1000)
    (hfn : ∀ xs w, (callFunc fid xs).run Tryz.prog w = .ok (.enter fid xs) w)
    (hw : ∀ W (k : Nat) t xs, FarX (fun b => b = g) w W → W.ownsRow base 9 1 (.slice (some ⟨g, 0, none⟩) ts.length c) ts.length (strsV xs) → xs[k]? = some t → ts[k]? = some t →
      Calls Tryz.prog fid (#[.int .i64 (k : Int)] ++ caps) W fun e W' => e = .returned (.string (sB (wf k t))) ∧ Only (fun _ => False) W W') :
    Calls Tryz.prog 61 #[partV p f nn, .slice (some ⟨g, 0, none⟩) ts.length c, .func (.func fid) #[] caps] w fun e w' =>
      e = .returned (.int .i64 (turnS n f wf ts S).1) ∧ DkS w' p gs n (turnS n f wf ts S).2.1 B (m + ts.length + 1) ∧ w'.ownsRow base 9 1 (.slice (some ⟨g, 0, none⟩) ts.length c) ts.length (strsV (turnS n f wf ts S).2.2) ∧
      FarX (fun b => b = g) w w' ∧ Only (fun b => B ≤ b) w w' := by
  have hgl : g < w.heap.size := by
    rcases owns_form hown with ⟨h, _⟩ | ⟨g', cap, h, _, _, _, hlt⟩
    · injection h with h; cases h
    · injection h with h; injection h with h; injection h with h; omega
  have o1 : Only (fun _ => False) w (w.alloc (.cells #[.pointer (some ⟨p, 0, none⟩), .int .i64 f, .int .i64 nn] 70)) := (Only.refl _ w).alloc _
  obtain ⟨w1, hw1⟩ : ∃ w1, w1 = w.alloc (.cells #[.pointer (some ⟨p, 0, none⟩), .int .i64 f, .int .i64 nn] 70) := ⟨_, rfl⟩
  obtain ⟨q, hq⟩ : ∃ q, q = w.heap.size := ⟨_, rfl⟩
  have hb : Blk w1 q 70 #[.pointer (some ⟨p, 0, none⟩), .int .i64 f, .int .i64 nn] := by rw [hw1, hq]; exact Blk.new w _ _
  rw [← hw1] at o1
  have HO1 := Lib.hid o1
  have HB := Lib.hid hb
  have HD1 := Lib.hid (D.only o1)
  have HR1 := Lib.hid (o1.owns hown (fun _ _ h => h))
  have HW := Lib.hid hw1.symm
  have HQ := Lib.hid hq.symm
  have HC := Lib.hid hw
  have HN := Lib.hid (show q ≠ g by omega)
  have HGB := Lib.hid hgB
  have HBq := Lib.hid (show B ≤ q by have := D.size; omega)
  obtain ⟨F, hF⟩ : ∃ F, F = turnFrom n f wf 0 ts S := ⟨_, rfl⟩
  have HF := Lib.hid hF
  have hT : turnS n f wf ts S = (if F.1 = 0 then (if F.2.2.2 then ((syS F.2.1).1, (syS F.2.1).2, F.2.2.1) else (0, F.2.1, F.2.2.1)) else (F.1, F.2.1, F.2.2.1)) := by rw [hF]; rfl
  obtain ⟨R, hR⟩ : ∃ R, R = turnS n f wf ts S := ⟨_, rfl⟩
  rw [← hR]
  have HT := Lib.hid (hR.trans hT)
  clear o1 hb D hown hw hw1 hq hF hT hgl hgB hR
  unfold partV
  go_enter Tryz.func61, Tryz.ntmps61
  go_wp2_with fail
  rw [HW.out, HQ.out]
  go_loopw [7, 14] (fun sv i wr => ∃ (done rest : List (List UInt8)) (S' : Dst) (b : Bool), done.length + rest.length = ts.length ∧ rest = ts.drop done.length ∧ i = .int .i64 (done.length : Int) ∧ sv = .bool b ∧ F = combT done b (turnFrom n f wf done.length rest S') ∧
    DkS wr p gs n S' B (m + done.length) ∧ wr.ownsRow base 9 1 (.slice (some ⟨g, 0, none⟩) ts.length c) ts.length (strsV (done ++ rest)) ∧ FarX (fun b => b = g) w1 wr ∧ Only (fun b => B ≤ b) w1 wr) (fun _ i _ => ts.length - (intOf i).toNat)
  case atStart =>
    exact ⟨[], ts, S, false, by simp, rfl, rfl, rfl, by rw [combT_nil]; exact HF.out, HD1.out, HR1.out, FarX.refl _ _, Only.refl _ _⟩
  case round =>
    obtain ⟨done, rest, S', b, hlen, hrest, rfl, rfl, hFF, b1, b2, b3, b4⟩ := hrel
    have HB1 := Lib.hid b1
    have HB2 := Lib.hid b2
    have HB3 := Lib.hid b3
    have HB4 := Lib.hid b4
    have HFF := Lib.hid hFF
    have HRE := Lib.hid hrest
    clear b1 b2 b3 b4 hFF hrest
    obtain _ | ⟨t, r⟩ := rest
    · have hl : done.length = ts.length := by simpa using hlen
      have hFe := HFF.out
      simp only [turnFrom, combT, List.append_nil, Bool.or_false] at hFe
      have HFe := Lib.hid hFe
      clear HFF HF hFe
      have hnl : ¬ (done.length : Int) < (ts.length : Int) := by omega
      have HF1 := Lib.hid (HFe.out ▸ rfl : F.1 = 0)
      cases b
      · have hr : Hid (R = ((0 : Int), S', done)) := Lib.hid (by rw [HT.out, HFe.out]; rfl)
        go_wp2_with fail
        go_ret
        rw [hr.out]
        exact ⟨rfl, HB1.out.more (by omega) (by omega), by have := HB2.out; rw [List.append_nil] at this; exact this, (FarX.none HO1.out).trans HB3.out, (HO1.out.mono fun _ h => h.elim).trans HB4.out⟩
      · have hr : Hid (R = ((syS S').1, (syS S').2, done)) := Lib.hid (by rw [HT.out, HFe.out]; rfl)
        have c0 : wr.cell? ⟨q, 0, none⟩ = some (.pointer (some ⟨p, 0, none⟩)) := (HB3.out.blk _ _ _ HB.out nDT_part HN.out).cell 0
        go_wp2_with fail
        refine (dk_sync p gs n S' B (m + done.length) wr HB1.out (by omega)).mono ?_
        rintro e w2 ⟨rfl, k1, k2, k3⟩
        have K1 := Lib.hid k1
        have K2 := Lib.hid k2
        have K3 := Lib.hid k3
        clear k1 k2 k3 c0
        go_wp2_with fail
        go_ret
        rw [hr.out]
        exact ⟨rfl, K1.out.more (by omega) (by omega), by have := HB2.out; rw [List.append_nil] at this; exact K3.out.owns this nDT_string, ((FarX.none HO1.out).trans HB3.out).trans (FarX.far K3.out), ((HO1.out.mono fun _ h => h.elim).trans HB4.out).trans K2.out⟩
    · have hdl : done.length < ts.length := by rw [← hlen]; simp
      have hlt : (done.length : Int) < (ts.length : Int) := by omega
      have ht : (done ++ t :: r)[done.length]? = some t := by simp
      have htd : ts[done.length]? = some t := by
        have := congrArg List.head? HRE.out
        rw [List.head?_drop] at this
        exact this.symm
      obtain ⟨g', cap, hgv, _, _, hcells⟩ := own_cells HB2.out (by omega)
      obtain ⟨rfl, rfl⟩ : g = g' ∧ c = cap := by injection hgv with h1 h2 h3; injection h1 with h1; injection h1 with h1; exact ⟨h1, h3⟩
      have c1 : wr.cell? ⟨g, done.length, none⟩ = some (.string (sB t)) := hcells _ _ (by rw [strsV, List.getElem?_map, ht]; rfl)
      have HCW := Lib.hid (HC.out wr done.length t _ ((FarX.none HO1.out).trans HB3.out) HB2.out ht htd)
      clear hcells hgv ht
      go_wp2_with fail
      refine HCW.out.mono ?_
      rintro e w2 ⟨rfl, o2⟩
      have O2 := Lib.hid o2
      clear o2 c1 HCW
      obtain ⟨x, hx⟩ : ∃ x, x = wf done.length t := ⟨_, rfl⟩
      have hxl := hwl done.length t
      rw [← hx] at hxl
      have HX := Lib.hid hx
      rw [← hx]
      by_cases hxt : x = t
      · rw [hxt]
        have HXT : Hid (wf done.length t = t) := Lib.hid (hx ▸ hxt)
        clear hx hxl hxt HX
        go_wp2_with fail
        go_roundw
        case rel =>
          refine ⟨done ++ [t], r, S', b, by simp at hlen ⊢; omega, ?_, by simp, rfl, ?_, ?_, ?_, HB3.out.trans (FarX.none O2.out), HB4.out.trans (O2.out.mono fun _ h => h.elim)⟩
          · have := HRE.out
            rw [List.length_append, List.length_singleton, ← List.drop_drop, ← this]; rfl
          · rw [HFF.out, combT_same HXT.out, List.length_append]; rfl
          · have := HB1.out.only O2.out
            rw [List.length_append]
            exact this.more (by simp) (by simp; omega)
          · have := O2.out.owns HB2.out (fun _ _ h => h)
            rw [List.append_assoc]
            exact this
        case measure => simp [intOf]; omega
      · have hne := sB_ne hxt
        have c0 : w2.cell? ⟨q, 0, none⟩ = some (.pointer (some ⟨p, 0, none⟩)) := (O2.out.blk (HB3.out.blk _ _ _ HB.out nDT_part HN.out) (fun h => h)).cell 0
        have c2 : w2.cell? ⟨q, 1, none⟩ = some (.int .i64 f) := (O2.out.blk (HB3.out.blk _ _ _ HB.out nDT_part HN.out) (fun h => h)).cell 1
        have hadd : IntKind.i64.wrap ((f : Int) + (done.length : Int)) = (f : Int) + (done.length : Int) := IntWalk.i64_in _ (by omega)
        have HXT : Hid (¬ wf done.length t = t) := Lib.hid (hx ▸ hxt)
        have HWr := Lib.hid (dk_write p gs n S' B (m + done.length) ((f : Int) + (done.length : Int)) (sB x) w2 (HB1.out.only O2.out) (by omega) (by rw [sB_size]; omega))
        clear hx hxl hxt
        go_wp2_with fail
        refine HWr.out.mono ?_
        rw [sB_list]
        rintro e w3 ⟨rfl, k1, k2, k3⟩
        have K1 := Lib.hid k1
        have K2 := Lib.hid k2
        have K3 := Lib.hid k3
        clear k1 k2 k3 c0 c2 hne HWr
        obtain ⟨y, hy⟩ : ∃ y, y = wrS n S' ((f : Int) + (done.length : Int)) x := ⟨_, rfl⟩
        rw [← hy]
        have HY := Lib.hid hy
        clear hy
        by_cases he : y.1 = 0
        · have f1 : w3.frozen? ⟨g, done.length, none⟩ = false := own_fz (K3.out.owns (O2.out.owns HB2.out (fun _ _ h => h)) nDT_string) _
          obtain ⟨_, hgb⟩ := own_blk (K3.out.owns (O2.out.owns HB2.out (fun _ _ h => h)) nDT_string)
          have c3 : ∃ v, w3.cell? ⟨g, done.length, none⟩ = some v := by
            obtain ⟨g', cap, hgv, _, _, hcells⟩ := own_cells (K3.out.owns (O2.out.owns HB2.out (fun _ _ h => h)) nDT_string) (by omega)
            injection hgv with h1
            injection h1 with h1
            injection h1 with h1
            subst h1
            exact ⟨_, hcells _ (.string (sB t)) (by rw [strsV, List.getElem?_map]; simp)⟩
          obtain ⟨v3, c3⟩ := c3
          have HGB2 := Lib.hid hgb
          clear hgb
          have hst := owns_set (K3.out.owns (O2.out.owns HB2.out (fun _ _ h => h)) nDT_string) done.length hdl (.string (sB x))
          rw [strsV_set] at hst
          have HST := Lib.hid hst
          clear hst
          have oset : Only (fun b => b = g) w3 (w3.setCell ⟨g, done.length, none⟩ (.string (sB x))) := (Only.refl (fun b => b = g) w3).setCell (p := ⟨g, done.length, none⟩) (.inl rfl) _
          have HS := Lib.hid oset
          clear oset
          go_wp2_with fail
          go_roundw
          case rel =>
            refine ⟨done ++ [x], r, y.2, true, by simp at hlen ⊢; omega, ?_, by simp, rfl, ?_, ?_, HST.out, ?_, ?_⟩
            · have := HRE.out
              rw [List.length_append, List.length_singleton, ← List.drop_drop, ← this]; rfl
            · rw [HFF.out, combT_turn HXT.out (by rw [← HX.out, ← HY.out]; exact he), List.length_append, ← HX.out, ← HY.out]; rfl
            · have h1 : DkS w3 p gs n y.2 B (m + done.length + 1) := by rw [HY.out]; exact K1.out
              have := dk_keep h1 HGB2.out HS.out
              rw [List.length_append]
              exact this
            · exact ((HB3.out.trans (FarX.none O2.out)).trans (FarX.far K3.out)).trans (FarX.of_only HS.out (fun _ h => h))
            · exact ((HB4.out.trans (O2.out.mono fun _ h => h.elim)).trans K2.out).trans (HS.out.mono fun b h => by rw [h]; exact HGB.out)
          case measure => simp [intOf]; omega
        · have hr : Hid (R = (y.1, y.2, done ++ t :: r)) := Lib.hid (by
            have hFe := HFF.out
            rw [combT_err HXT.out (by rw [← HX.out, ← HY.out]; exact he), ← HX.out, ← HY.out] at hFe
            rw [HT.out, hFe]
            simp [he])
          have hlen2 := hlen
          go_wp2_with fail
          go_ret
          rw [hr.out]
          have h1 : DkS w3 p gs n y.2 B (m + done.length + 1) := by rw [HY.out]; exact K1.out
          exact ⟨rfl, h1.more (by omega) (by omega), K3.out.owns (O2.out.owns HB2.out (fun _ _ h => h)) nDT_string, (((FarX.none HO1.out).trans HB3.out).trans (FarX.none O2.out)).trans (FarX.far K3.out), (((HO1.out.mono fun _ h => h.elim).trans HB4.out).trans (O2.out.mono fun _ h => h.elim)).trans K2.out⟩
end Go.Proofs.YthggliknnmhbdaaGreat
/- Books: what a sector is to be: the closures of anew. No conditions beyond what each states. -/
namespace Go.Proofs.YthggliknnmhbdaaGreat
set_option maxRecDepth 100000
open Go.RowKit
set_option linter.unusedVariables false
attribute [local simp] frOf dstsOf frGo predsHold allHold Region.binds slotOf seen Is Act.put
/-- the counts alone are made anew -/
def countW (s : List UInt8) (k : Nat) (t : List UInt8) : List UInt8 := t.take 127 ++ (madeL s k).drop 127
set_option maxHeartbeats 2000000 in
set_option maxRecDepth 100000 in
theorem anew1_any (s : List UInt8) (k N c cl cs g : Nat) (t : List UInt8) (w : World) (hs : s.length ≤ 1000000000) (hk : k ≤ 100000) (hkN : k < N) (ht : t.length = 128)
    (C1 : Hid (w.cell? ⟨cl, 0, none⟩ = some (.slice (some ⟨g, 0, none⟩) N c))) (C2 : Hid (w.cell? ⟨cs, 0, none⟩ = some (.string (sB s)))) (C3 : Hid (w.cell? ⟨g, k, none⟩ = some (.string (sB t))))
    (L1 : Hid (cl < w.heap.size)) (L2 : Hid (cs < w.heap.size)) (L3 : Hid (g < w.heap.size)) :
    Calls Tryz.prog 62 #[.int .i64 (k : Int), .pointer (some ⟨cl, 0, none⟩), .pointer (some ⟨cs, 0, none⟩)] w fun e w' => e = .returned (.string (sB (countW s k t))) ∧ Below w.heap.size w w' := by
  have hMade : ∀ W, Hid (Calls Tryz.prog 52 #[.string (sB s), .int .i64 (k : Int)] W fun e w' => e = .returned (.string (sB (madeL s k))) ∧ Below W.heap.size W w') := fun W => Lib.hid (made_any s k W hs hk)
  have hml := madeL_len s k
  have hsz1 : (sB t).size = 128 := by rw [sB_size, ht]
  have hsz2 : (sB (madeL s k)).size = 128 := by rw [sB_size, hml]
  have hx1 : (sB t).extract 0 127 = sB (t.take 127) := by rw [sB_extract]; simp
  have hx2 : (sB (madeL s k)).extract 127 128 = sB ((madeL s k).drop 127) := by rw [sB_extract, List.take_of_length_le (by omega)]
  have hsz3 : (sB (t.take 127)).size = 127 := by rw [sB_size, List.length_take]; omega
  have hsz4 : (sB ((madeL s k).drop 127)).size = 1 := by rw [sB_size, List.length_drop]; omega
  have hlo : (0 : Int) ≤ (k : Int) := by omega
  have hhi : (k : Int) < (N : Int) := by omega
  unfold countW
  go_enter Tryz.func62, Tryz.ntmps62
  go_wp2_with fail
  refine wp_region_ord (by kernel_rfl) Grows [Is (.slice (some ⟨g, 0, none⟩) N c), Is (.int .i64 (k : Int)), Is (.pointer (some ⟨g, k, none⟩)), Is (.string (sB t)), Is (.string (sB (t.take 127))), Is (.string (sB s)), Is (.int .i64 (k : Int)), Is (.string (sB (madeL s k))), Is (.string (sB ((madeL s k).drop 127))), Is (.string (sB (t.take 127 ++ (madeL s k).drop 127))), Is (.string (sB (t.take 127 ++ (madeL s k).drop 127)))] (by kernel_rfl) Grows.refl Grows.trans
    ⟨is_stab _ _, is_stab _ _, is_stab _ _, is_stab _ _, is_stab _ _, is_stab _ _, is_stab _ _, is_stab _ _, is_stab _ _, is_stab _ _, is_stab _ _, trivial⟩ ⟨?_, ?_, ?_, ?_, ?_, ?_, ?_, ?_, ?_, ?_, ?_, trivial⟩ ?_
  · intro u w1 hR hp K hK
    refine ord_plain rfl ?_
    simp at hp hK ⊢
    have hc := (Below.cell hR (p := ⟨cl, 0, none⟩) L1.out).trans C1.out
    go_simp
    exact hK _ _ (Grows.refl _) rfl
  · intro u w1 hR hp K hK
    refine ord_plain rfl ?_
    simp at hp hK ⊢
    go_simp
    exact hK _ _ (Grows.refl _) rfl
  · intro u w1 hR hp K hK
    refine ord_plain rfl ?_
    simp at hp hK ⊢
    simp only [hp] at hK
    go_simp
    exact hK _ _ (Grows.refl _) rfl
  · intro u w1 hR hp K hK
    refine ord_plain rfl ?_
    simp at hp hK ⊢
    simp only [hp] at hK
    have hc := (Below.cell hR (p := ⟨g, k, none⟩) L3.out).trans C3.out
    go_simp
    exact hK _ _ (Grows.refl _) rfl
  · intro u w1 hR hp K hK
    refine ord_plain rfl ?_
    simp at hp hK ⊢
    simp only [hp] at hK
    go_simp
    exact hK _ _ (Grows.refl _) rfl
  · intro u w1 hR hp K hK
    refine ord_plain rfl ?_
    simp at hp hK ⊢
    have hc := (Below.cell hR (p := ⟨cs, 0, none⟩) L2.out).trans C2.out
    go_simp
    exact hK _ _ (Grows.refl _) rfl
  · intro u w1 hR hp K hK
    refine ord_plain rfl ?_
    simp at hp hK ⊢
    go_simp
    exact hK _ _ (Grows.refl _) rfl
  · intro u w1 hR hp K hK
    refine ord_plain rfl ?_
    simp at hp hK ⊢
    simp only [hp] at hK
    go_simp
    refine (hMade _).out.mono ?_
    rintro e w2 ⟨rfl, hb2⟩
    exact hK _ _ hb2 rfl
  · intro u w1 hR hp K hK
    refine ord_plain rfl ?_
    simp at hp hK ⊢
    simp only [hp] at hK
    go_simp
    exact hK _ _ (Grows.refl _) rfl
  · intro u w1 hR hp K hK
    refine ord_plain rfl ?_
    simp at hp hK ⊢
    simp only [hp] at hK
    go_simp
    rw [sB_append]
    exact hK _ _ (Grows.refl _) rfl
  · intro u w1 hR hp K hK
    refine ord_plain rfl ?_
    simp at hp hK ⊢
    simp only [hp] at hK
    go_simp
    exact hK _ _ (Grows.refl _) rfl
  · intro u w1 hR hp
    simp at hp ⊢
    have h10 := hp.2.2.2.2.2.2.2.2.2.2
    simp only [h10]
    clear hp h10 hMade
    have HB := Lib.hid (Below.trans (Below.drew (Below.refl w.heap.size w)) hR)
    clear hR
    go_wp2_with fail
    go_ret
    exact ⟨rfl, HB.out⟩
theorem anew2_any (s : List UInt8) (k cs : Nat) (w : World) (hs : s.length ≤ 1000000000) (hk : k ≤ 100000) (C2 : w.cell? ⟨cs, 0, none⟩ = some (.string (sB s))) :
    Calls Tryz.prog 63 #[.int .i64 (k : Int), .pointer (some ⟨cs, 0, none⟩)] w fun e w' => e = .returned (.string (sB (madeL s k))) ∧ Below w.heap.size w w' := by
  have hm := made_any s k w hs hk
  go_enter Tryz.func63, Tryz.ntmps63
  go_wp2_with fail
  refine hm.mono ?_
  rintro e w2 ⟨rfl, hb⟩
  have HB := Lib.hid hb
  clear hb hm
  go_wp2_with fail
  go_ret
  exact ⟨rfl, HB.out⟩
end Go.Proofs.YthggliknnmhbdaaGreat
/- Books: the walk of anew: sectors are made anew by a stream. No conditions beyond what it states. -/
namespace Go.Proofs.YthggliknnmhbdaaGreat
set_option maxRecDepth 100000
open Go.RowKit
set_option linter.unusedVariables false
theorem turnFrom_len (n f : Nat) (wf : Nat → List UInt8 → List UInt8) : ∀ (ts : List (List UInt8)) (k : Nat) (S : Dst), (turnFrom n f wf k ts S).2.2.1.length = ts.length
  | [], _, _ => rfl
  | t :: r, k, S => by
    unfold turnFrom
    split
    · simp [turnFrom_len n f wf r (k + 1) S]
    · simp only
      split
      · simp [turnFrom_len n f wf r (k + 1) _]
      · rfl
theorem turnS_len (n f : Nat) (wf : Nat → List UInt8 → List UInt8) (ts : List (List UInt8)) (S : Dst) : (turnS n f wf ts S).2.2.length = ts.length := by
  unfold turnS
  simp only
  split
  · split <;> exact turnFrom_len n f wf ts 0 S
  · exact turnFrom_len n f wf ts 0 S
/-- sectors are made anew: first their counts, then all of them -/
def anewS (n f : Nat) (s : List UInt8) (ts : List (List UInt8)) (S : Dst) : Int × Dst × List (List UInt8) :=
  let x := turnS n f (countW s) ts S
  if x.1 = 0 then turnS n f (fun k _ => madeL s k) x.2.2 x.2.1 else x
theorem countW_len (s : List UInt8) (k : Nat) (t : List UInt8) : (countW s k t).length ≤ 1000 := by
  have := madeL_len s k
  simp [countW]
  omega
set_option maxHeartbeats 4000000 in
set_option maxRecDepth 100000 in
theorem anew_any (p gs n f nn : Nat) (S : Dst) (B m : Nat) (ts : List (List UInt8)) (s : List UInt8) (g c base : Nat) (w : World)
    (D : DkS w p gs n S B m) (hown : w.ownsRow base 9 1 (.slice (some ⟨g, 0, none⟩) ts.length c) ts.length (strsV ts)) (hgB : B ≤ g)
    (hf : f ≤ 4096) (hn : ts.length ≤ 4096) (hm : m + 12000 ≤ 1000000) (hs : s.length ≤ 1000000000) (hall : ∀ t ∈ ts, t.length = 128) :
    Calls Tryz.prog 42 #[partV p f nn, .slice (some ⟨g, 0, none⟩) ts.length c, .string (sB s)] w fun e w' =>
      e = .returned (.int .i64 (anewS n f s ts S).1) ∧ DkS w' p gs n (anewS n f s ts S).2.1 B (m + 2 * ts.length + 2) ∧
      FarX (fun b => b = g) w w' ∧ Only (fun b => B ≤ b) w w' := by
  have hgl : g < w.heap.size := by
    obtain ⟨_, hb⟩ := own_blk hown
    exact hb.lt
  obtain ⟨w1, hw1⟩ : ∃ w1, w1 = ((w.alloc (.cells #[.pointer (some ⟨p, 0, none⟩), .int .i64 f, .int .i64 nn] 70)).alloc (.cells #[.slice (some ⟨g, 0, none⟩) ts.length c] 25)).alloc (.cells #[.string (sB s)] 9) := ⟨_, rfl⟩
  have o1 : Only (fun _ => False) w w1 := by rw [hw1]; exact (((Only.refl _ w).alloc _).alloc _).alloc _
  obtain ⟨q, hq⟩ : ∃ q, q = w.heap.size := ⟨_, rfl⟩
  have b0 : Blk w1 q 70 #[.pointer (some ⟨p, 0, none⟩), .int .i64 f, .int .i64 nn] := by rw [hw1, hq]; exact ((Blk.new w _ _).alloc _).alloc _
  have b1 : Blk w1 (q + 1) 25 #[.slice (some ⟨g, 0, none⟩) ts.length c] := by
    have := (Blk.new (w.alloc (.cells #[.pointer (some ⟨p, 0, none⟩), .int .i64 f, .int .i64 nn] 70)) 25 #[.slice (some ⟨g, 0, none⟩) ts.length c]).alloc (.cells #[.string (sB s)] 9)
    rw [hw1, hq]; simpa using this
  have b2 : Blk w1 (q + 2) 9 #[.string (sB s)] := by
    have := Blk.new ((w.alloc (.cells #[.pointer (some ⟨p, 0, none⟩), .int .i64 f, .int .i64 nn] 70)).alloc (.cells #[.slice (some ⟨g, 0, none⟩) ts.length c] 25)) 9 #[.string (sB s)]
    rw [hw1, hq]; simpa using this
  have HO1 := Lib.hid o1
  have B0 := Lib.hid b0
  have B1 := Lib.hid b1
  have B2 := Lib.hid b2
  have HN := Lib.hid (show g < q by omega)
  have HG := Lib.hid hgB
  have HALL := Lib.hid hall
  have HD := Lib.hid (D.only o1)
  have HR := Lib.hid (o1.owns hown (fun _ _ h => h))
  have c0 : w1.cell? ⟨q, 0, none⟩ = some (.pointer (some ⟨p, 0, none⟩)) := b0.cell 0
  have c1 : w1.cell? ⟨q, 1, none⟩ = some (.int .i64 f) := b0.cell 1
  have c2 : w1.cell? ⟨q, 2, none⟩ = some (.int .i64 nn) := b0.cell 2
  have c3 : w1.cell? ⟨q + 1, 0, none⟩ = some (.slice (some ⟨g, 0, none⟩) ts.length c) := b1.cell 0
  have HW := Lib.hid hw1.symm
  have HQ := Lib.hid hq.symm
  have e1 : Hid (∀ xs w, (callFunc 62 xs).run Tryz.prog w = .ok (.enter 62 xs) w) := Lib.hid (fun xs w => enters_of Tryz.func62 (by kernel_rfl) rfl xs w)
  have e2 : Hid (∀ xs w, (callFunc 63 xs).run Tryz.prog w = .ok (.enter 63 xs) w) := Lib.hid (fun xs w => enters_of Tryz.func63 (by kernel_rfl) rfl xs w)
  obtain ⟨x, hx⟩ : ∃ x, x = turnS n f (countW s) ts S := ⟨_, rfl⟩
  obtain ⟨R, hR⟩ : ∃ R, R = anewS n f s ts S := ⟨_, rfl⟩
  have hRx : R = (if x.1 = 0 then turnS n f (fun k _ => madeL s k) x.2.2 x.2.1 else x) := by rw [hR, hx]; rfl
  have hxl : x.2.2.length = ts.length := by rw [hx]; exact turnS_len _ _ _ _ _
  rw [← hR]
  have HRX := Lib.hid hRx
  have HX := Lib.hid hx
  have HXL := Lib.hid hxl
  clear D hown o1 b0 b1 b2 hw1 hq hgB hgl hall hR hRx hx hxl
  unfold partV
  go_enter Tryz.func42, Tryz.ntmps42
  go_wp2_with fail
  rw [HW.out, HQ.out]
  simp only [Nat.add_assoc, Nat.reduceAdd]
  have ht := bturn_any p gs n f nn S B m ts (countW s) g c base 62 #[.pointer (some ⟨q + 1, 0, none⟩), .pointer (some ⟨q + 2, 0, none⟩)] w1 HD.out HR.out HG.out hf hn (by omega) (fun k t => countW_len s k t) e1.out (fun W k t xs hF ho hx htk => by
    have hkl : k < ts.length := (List.getElem?_eq_some_iff.1 htk).1
    have d1 := hF.blk _ _ _ B1.out nDT_strings (by have := HN.out; omega)
    have d2 := hF.blk _ _ _ B2.out nDT_string (by have := HN.out; omega)
    obtain ⟨g', cap, hgv, _, hgW, hcells⟩ := own_cells ho (by omega)
    obtain ⟨rfl, rfl⟩ : g = g' ∧ c = cap := by injection hgv with h1 h2 h3; injection h1 with h1; injection h1 with h1; exact ⟨h1, h3⟩
    refine (anew1_any s k ts.length c (q + 1) (q + 2) g t W hs (by omega) hkl (HALL.out t (List.mem_of_getElem? htk)) (Lib.hid (d1.cell 0)) (Lib.hid (d2.cell 0)) (Lib.hid (hcells _ _ (by rw [strsV, List.getElem?_map, hx]; rfl))) (Lib.hid d1.lt) (Lib.hid d2.lt) (Lib.hid hgW)).mono ?_
    rintro e W' ⟨he, hb⟩
    exact ⟨he, Only.below_ hb⟩)
  rw [← HX.out] at ht
  unfold partV at ht
  refine ht.mono ?_
  rintro e w2 ⟨rfl, k1, k2, k3, k4⟩
  have K1 := Lib.hid k1
  have K2 := Lib.hid k2
  have K3 := Lib.hid k3
  have K4 := Lib.hid k4
  clear k1 k2 k3 k4 ht c0 c1 c2 c3
  by_cases hx0 : x.1 = 0
  · have d0 := K3.out.blk _ _ _ B0.out nDT_part (by have := HN.out; omega)
    have d1 := K3.out.blk _ _ _ B1.out nDT_strings (by have := HN.out; omega)
    have d2 := K3.out.blk _ _ _ B2.out nDT_string (by have := HN.out; omega)
    have D2 := Lib.hid d2
    have c0 : w2.cell? ⟨q, 0, none⟩ = some (.pointer (some ⟨p, 0, none⟩)) := d0.cell 0
    have c1 : w2.cell? ⟨q, 1, none⟩ = some (.int .i64 f) := d0.cell 1
    have c2 : w2.cell? ⟨q, 2, none⟩ = some (.int .i64 nn) := d0.cell 2
    have c3 : w2.cell? ⟨q + 1, 0, none⟩ = some (.slice (some ⟨g, 0, none⟩) ts.length c) := d1.cell 0
    have hR : Hid (R = turnS n f (fun k _ => madeL s k) x.2.2 x.2.1) := Lib.hid (by rw [HRX.out, if_pos hx0])
    clear d0 d1 d2
    go_wp2_with fail
    have ht := bturn_any p gs n f nn x.2.1 B (m + ts.length + 1) x.2.2 (fun k _ => madeL s k) g c base 63 #[.pointer (some ⟨q + 2, 0, none⟩)] w2 K1.out (by rw [HXL.out]; exact K2.out) HG.out hf (by rw [HXL.out]; exact hn) (by omega) (fun k t => by rw [madeL_len]; omega) e2.out (fun W k t xs hF ho hx htk => by
      have hkl : k < x.2.2.length := (List.getElem?_eq_some_iff.1 htk).1
      rw [HXL.out] at hkl
      have d2 := hF.blk _ _ _ D2.out nDT_string (by have := HN.out; omega)
      refine (anew2_any s k (q + 2) W hs (by omega) (d2.cell 0)).mono ?_
      rintro e W' ⟨he, hb⟩
      exact ⟨he, Only.below_ hb⟩)
    rw [HXL.out, ← hR.out] at ht
    unfold partV at ht
    refine ht.mono ?_
    rintro e w3 ⟨rfl, k1, k2, k3, k4⟩
    have J1 := Lib.hid k1
    have J3 := Lib.hid k3
    have J4 := Lib.hid k4
    clear k1 k2 k3 k4 ht c0 c1 c2 c3
    go_wp2_with fail
    go_ret
    exact ⟨rfl, J1.out.more (by omega) (by omega), ((FarX.none HO1.out).trans K3.out).trans J3.out, ((HO1.out.mono fun _ h => h.elim).trans K4.out).trans J4.out⟩
  · have hR : Hid (R = x) := Lib.hid (by rw [HRX.out, if_neg hx0])
    go_wp2_with fail
    go_ret
    rw [hR.out]
    exact ⟨rfl, K1.out.more (by omega) (by omega), (FarX.none HO1.out).trans K3.out, (HO1.out.mono fun _ h => h.elim).trans K4.out⟩
end Go.Proofs.YthggliknnmhbdaaGreat
