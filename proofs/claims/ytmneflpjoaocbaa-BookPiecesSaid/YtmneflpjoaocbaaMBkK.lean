/- Several texts in one: BkK. -/
import Derived.Test.YtmneflpjoaocbaaMBkJ
/- Books: the walk of Open, where the part may be and can be read. No conditions beyond what it states. -/
namespace Go.Proofs.Ytmneflpjoaocbaa
open Go.RowKit
set_option linter.unusedVariables false
attribute [local simp] frOf dstsOf frGo predsHold allHold Region.binds slotOf seen Is Act.put
/-- what is opened: the sectors; the stream; the records; the text -/
def openT (f nn : Nat) (C : Nat → List UInt8) : List (List UInt8) := (List.range nn).map fun j => C (f + j)
def openF (f nn : Nat) (C : Nat → List UInt8) : List (Nat × ByteArray) := recsF (framesOf (sB (streamL (openT f nn C))))
def openX (f nn : Nat) (C : Nat → List UInt8) : List UInt8 := (streamL (openT f nn C)).take (gsum (openF f nn C))
/-- A region in which one operation turns the world: what stands all the while, what stands behind it. -/
structure Stk (K : World → Prop) (W : World) (b : Bool) (Q : World → Prop) (y : World) : Prop where
  all : K y
  is_ : if b = true then Q y else y = W
theorem Stk.was {K Q : World → Prop} {W y : World} {b : Bool} (h : Stk K W b Q y) (hb : b = false) : y = W := by have := h.is_; simpa [hb] using this
theorem Stk.got {K Q : World → Prop} {W y : World} {b : Bool} (h : Stk K W b Q y) (hb : b = true) : Q y := by have := h.is_; simpa [hb] using this
theorem Stk.put {K Q : World → Prop} {W y : World} (h : K y) (hq : Q y) : Stk K W true Q y := ⟨h, by simpa using hq⟩
theorem Stk.start {K Q : World → Prop} {W : World} (h : K W) : Stk K W false Q W := ⟨h, by simp⟩
theorem reads_oneK {w : World} {t : TypeId} (v : Value) {k : Nat} (hk : w.heap.size = k) : Reads (w.alloc (.cells #[v] t)) (k + 1) 1 (some ⟨k, 0, none⟩) 1 [v] := by
  subst hk
  exact reads_one v
set_option maxHeartbeats 4000000 in
set_option maxRecDepth 100000 in
theorem open_any (p gs n f nn : Nat) (S : Dst) (B m : Nat) (C : Nat → List UInt8) (w : World) (D : DkS w p gs n S B m) (hn1 : 1 ≤ nn) (hfn : f + nn ≤ n) (hm : m + 12000 ≤ 1000000)
    (hC : ∀ j, j < nn → (C (f + j)).length = 128)
    (hrd : ∀ W, Only (fun _ => False) w W → ∀ j, j < nn → Calls Try.prog 35 #[.pointer (some ⟨p, 0, none⟩), .int .i64 ((f : Int) + (j : Int))] W fun e w' => e = .returned (.tuple #[.string (sB (C (f + j))), .int .i64 0]) ∧ Only (fun _ => False) W w') :
    Calls Try.prog 5 #[.pointer (some ⟨p, 0, none⟩), .int .i64 f, .int .i64 nn] w fun e w' =>
      DkS w' p gs n (anewS n f (openX f nn C) (openT f nn C) S).2.1 B (m + 2 * nn + 2) ∧ Far w w' ∧ Only (fun b => B ≤ b) w w' ∧
      (((anewS n f (openX f nn C) (openT f nn C) S).1 = 0 ∧ ∃ b v, e = .returned (.tuple #[.pointer (some ⟨b, 0, none⟩), v, .int .i64 0]) ∧ w.heap.size ≤ b ∧ BookB w' b p f nn (sB (openX f nn C)) false ∧ w'.ownsRow w.heap.size 9 1 v (openF f nn C).length ((openF f nn C).map fun x => .string x.2)) ∨
       ((anewS n f (openX f nn C) (openT f nn C) S).1 ≠ 0 ∧ e = .returned (.tuple #[.pointer none, .slice none 0 0, .int .i64 (anewS n f (openX f nn C) (openT f nn C) S).1]))) := by
  have hdk := D.ok
  obtain ⟨hn0, hn4⟩ : 1 ≤ n ∧ n ≤ 4096 := ⟨D.1.1, D.1.2.1⟩
  have hTl : (openT f nn C).length = nn := by simp [openT]
  have hTa : ∀ t ∈ openT f nn C, t.length = 128 := by
    intro t ht
    obtain ⟨j, hj, rfl⟩ := List.mem_map.1 ht
    exact hC j (List.mem_range.1 hj)
  obtain ⟨w1, hw1⟩ : ∃ w1, w1 = w.alloc (.cells #[.pointer (some ⟨p, 0, none⟩), .int .i64 f, .int .i64 nn, .string ⟨#[]⟩, .bool false] 48) := ⟨_, rfl⟩
  obtain ⟨q, hq⟩ : ∃ q, q = w.heap.size := ⟨_, rfl⟩
  have o1 : Only (fun _ => False) w w1 := by rw [hw1]; exact (Only.refl _ w).alloc _
  have b0 : BookB w1 q p f nn ⟨#[]⟩ false := by rw [hw1, hq]; exact Blk.new w _ _
  have HO1 := Lib.hid o1
  have HB0 := Lib.hid b0
  have HD := Lib.hid (D.only o1)
  have HW := Lib.hid hw1.symm
  have HQ := Lib.hid hq.symm
  have HRD := Lib.hid hrd
  have HTL := Lib.hid hTl
  have HTA := Lib.hid hTa
  have HBq := Lib.hid (show B ≤ q by have := D.size; omega)
  have c0 : w1.cell? ⟨q, 0, none⟩ = some (.pointer (some ⟨p, 0, none⟩)) := b0.cell 0
  have c1 : w1.cell? ⟨q, 1, none⟩ = some (.int .i64 f) := b0.cell 1
  have c2 : w1.cell? ⟨q, 2, none⟩ = some (.int .i64 nn) := b0.cell 2
  obtain ⟨T, hT⟩ : ∃ T, T = openT f nn C := ⟨_, rfl⟩
  obtain ⟨Fs, hFs⟩ : ∃ Fs, Fs = openF f nn C := ⟨_, rfl⟩
  obtain ⟨X, hX⟩ : ∃ X, X = openX f nn C := ⟨_, rfl⟩
  rw [← hT, ← hFs, ← hX]
  obtain ⟨R, hR⟩ : ∃ R, R = anewS n f X T S := ⟨_, rfl⟩
  rw [← hR]
  have HT := Lib.hid hT
  have HFs := Lib.hid hFs
  have HX := Lib.hid hX
  have HR := Lib.hid hR
  clear o1 b0 hw1 hq hrd hTl hTa hT hFs hX hR D hdk
  go_enter Try.func5, Try.ntmps5
  go_wp2_with fail
  rw [HW.out, HQ.out]
  have hck := check_any p gs n S B m (f : Int) (nn : Int) w1 HD.out hn0 hn4 (by omega) (by omega) (by omega) (by omega)
  unfold partV at hck
  refine hck.mono ?_
  rintro e w2 ⟨rfl, o2⟩
  have O2 := Lib.hid o2
  clear o2 hck c0 c1 c2
  have c0 : w2.cell? ⟨q, 0, none⟩ = some (.pointer (some ⟨p, 0, none⟩)) := (O2.out.blk HB0.out (fun h => h)).cell 0
  have c1 : w2.cell? ⟨q, 1, none⟩ = some (.int .i64 f) := (O2.out.blk HB0.out (fun h => h)).cell 1
  have c2 : w2.cell? ⟨q, 2, none⟩ = some (.int .i64 nn) := (O2.out.blk HB0.out (fun h => h)).cell 2
  go_wp2_with fail
  have hal := all_any p f nn C w2 (by omega) (by omega) (fun W hW j hj => HRD.out W ((HO1.out.trans O2.out).trans hW) j hj)
  unfold partV at hal
  refine hal.mono ?_
  rintro e w3 ⟨v, rfl, h3, o3⟩
  have hT' : (List.range nn).map (fun j => C (f + j)) = T := HT.out.symm
  rw [hT'] at h3
  obtain ⟨g, cap, hv, hg0, hg1⟩ : ∃ g cap, v = .slice (some ⟨g, 0, none⟩) nn cap ∧ w2.heap.size ≤ g ∧ g < w3.heap.size := by
    obtain ⟨g, cap, h1, h2, h3, _⟩ := own_cells h3 (by omega)
    exact ⟨g, cap, h1, h2, h3⟩
  subst hv
  have H3 := Lib.hid h3
  have O3 := Lib.hid o3
  clear h3 o3 hal c0 c1 c2 hT'
  go_wp2_with fail
  have hTLn : T.length = nn := by rw [HT.out]; exact HTL.out
  have hst := stream_any T (some ⟨g, 0, none⟩) cap w3 ⟨fun j hj => by
      obtain ⟨g', cap', hgv, _, hgl, hc⟩ := own_cells H3.out (by omega)
      have hjT : j < T.length := by simpa using hj
      refine ⟨g', 0, by injection hgv, hgl, ?_⟩
      rw [Nat.zero_add]
      exact hc j _ (by rw [strsV, List.getElem?_map, List.getElem?_eq_getElem hjT]; simp)⟩ (by rw [HT.out]; exact HTA.out) (by omega)
  rw [hTLn] at hst
  refine hst.mono ?_
  rintro e w4 ⟨rfl, o4⟩
  have O4 := Lib.hid (Only.below_ (S := fun _ => False) o4)
  clear o4 hst
  obtain ⟨s, hs⟩ : ∃ s, s = streamL T := ⟨_, rfl⟩
  rw [← hs]
  have HS := Lib.hid hs
  have hsl : s.length ≤ 1000000 := by have := stream_len T; rw [hs]; omega
  clear hs
  go_wp2_with fail
  refine (scan_any (sB s) 131072 w4 (by rw [sB_size]; omega) (by omega) (by omega)).mono ?_
  rintro e w5 ⟨vf, rfl, h5, o5⟩
  have H5 := Lib.hid h5
  have O5 := Lib.hid (Only.below_ (S := fun _ => False) o5)
  clear h5 o5
  have hfo := framesOf_ok (sB s)
  rw [sB_size] at hfo
  have hfr : (scanFrom (sB s) 131072 0).1 = framesOf (sB s) := rfl
  rw [hfr] at H5
  obtain ⟨fs, hfs⟩ : ∃ fs, fs = framesOf (sB s) := ⟨_, rfl⟩
  rw [← hfs] at H5 hfo
  generalize (scanFrom (sB s) 131072 0).2.1 = ga
  generalize (scanFrom (sB s) 131072 0).2.2 = ge
  clear hfr
  have hfsl : fs.length ≤ 1000000 := by
    have h1 : ∀ l : List (Nat × ByteArray), l.length ≤ gsum l := fun l => by
      induction l with
      | nil => simp
      | cons a l ih => rw [gsum_cons, List.length_cons]; unfold fsize; omega
    have := h1 fs
    omega
  have HFO := Lib.hid hfo
  have HFS := Lib.hid hfs
  obtain ⟨Av, cv, rfl, _⟩ := own_form H5.out
  clear hfo hfs
  go_wp2_with fail
  obtain ⟨i0, hi, hz0, hz1, hz2⟩ := info_parts strInfo
  have HI := Lib.hid hi
  clear hi
  go_loopw [13, 18, 57] (fun rv gd i wr => ∃ k : Nat, k ≤ fs.length ∧ i = .int .i64 k ∧ gd = .int .i64 (gsum (fs.take k) : Nat) ∧ (∀ x ∈ fs.take k, x.1 = 1) ∧ wr.ownsRow w5.heap.size 9 1 rv k ((fs.take k).map fun x => .string x.2) ∧ Only (fun _ => False) w5 wr) (fun _ _ i _ => fs.length - (intOf i).toNat)
  case atStart => exact ⟨0, by omega, rfl, rfl, by simp, World.ownsRow_nil _ _ _ _, Only.refl _ _⟩
  case round =>
    obtain ⟨k, hk, rfl, rfl, hall, b1, b2⟩ := hrel
    have B1 := Lib.hid b1
    have B2 := Lib.hid b2
    have HAL := Lib.hid hall
    have hgk := gsum_take fs k
    have hfo1 := HFO.out.1
    clear b1 b2 hall
    by_cases hlt : k < fs.length
    · obtain ⟨x, hx⟩ : ∃ x, fs[k]? = some x := ⟨_, List.getElem?_eq_getElem hlt⟩
      obtain ⟨hx1, hx2⟩ := HFO.out.2 x (List.mem_of_getElem? hx)
      obtain ⟨hc1, hc2⟩ := fcells_get fs k x hx
      obtain ⟨ad, had, hadl, hcells⟩ := (Reads.of_own (B2.out.owns H5.out (fun _ _ h => h))).2 (by omega)
      obtain ⟨gv, rfl⟩ : ∃ gv, ad = ⟨gv, 0, none⟩ := by
        rcases owns_form H5.out with ⟨h, h0⟩ | ⟨g', cap', h, _⟩
        · omega
        · injection h with h1 h2 h3
          rw [h1] at had
          injection had with had
          exact ⟨g', had.symm⟩
      subst had
      have c0 : wr.cell? ⟨gv, k * 2, none⟩ = some (.int .u8 (x.1 : Int)) := by
        have := hcells _ _ hc1
        rwa [addr_plus, Nat.zero_add] at this
      have c1 : wr.cell? ⟨gv, k * 2 + 1, none⟩ = some (.string x.2) := by
        have := hcells _ _ hc2
        rwa [addr_plus, Nat.zero_add] at this
      have hlti : (k : Int) < (fs.length : Int) := by omega
      have hsn : fs.take (k + 1) = fs.take k ++ [x] := by rw [List.take_add_one, hx]; rfl
      have HSN := Lib.hid hsn
      have HXF := Lib.hid hx
      clear hcells hc1 hc2 hsn hx
      by_cases ht : x.1 = 1
      · have hti : (x.1 : Int) = 1 := by omega
        have hfz := fsize_le x.2.size hx1
        have hsc := fsize_any (x.2.size : Int)
        have hg1 : gsum (fs.take (k + 1)) = gsum (fs.take k) + fsize x.2.size := by rw [HSN.out, gsum_snoc]
        have hgk1 := gsum_take fs (k + 1)
        have HG1 := Lib.hid hg1
        clear hg1
        obtain ⟨As, cs, hsv, _⟩ := own_form B1.out
        subst hsv
        have bx : Blk ((wr.alloc (.cells #[.int .u8 (x.1 : Int), .string x.2] 56)).alloc (.cells #[.string x.2] 9)) wr.heap.size 56 #[.int .u8 (x.1 : Int), .string x.2] := (Blk.new wr _ _).alloc _
        have BX := Lib.hid bx
        have hsd : (x.2.size : Int) ≤ 131072 := by omega
        have hsm := hsc
        clear bx hsc
        go_wp2_with (at_builtin; refine wpList_append_any _ rfl (.tmp 64) (.tmp 67) 24 rfl w5.heap.size 9 i0 (.string ⟨#[]⟩) 1 16 Try.underlying24 HI.out hz0 hz1 hz2 rfl (by decide) _ _ _ rfl ((((Only.refl (fun _ => False) wr).alloc _).alloc _).owns B1.out (fun _ _ h => h)) _ _ _ _ _ rfl (reads_oneK _ (by simp)) ?c2 ?c3 ?c4 ?c5 ?_)
        case c2 => first | rfl | (intro u hu; simp at hu; subst hu; rfl)
        case c3 => unfold maxLen; omega
        case c4 => omega
        case c5 => have := B2.out.size; simp; omega
        intro v' w' hown' hgrow hnew
        have hall : Only (fun _ => False) w5 w' := B2.out.trans' (T := fun k => w5.heap.size ≤ k) ((((Only.refl (fun k => w5.heap.size ≤ k) wr).alloc _).alloc _).grown hgrow (fun k hk => .inl ((B1.out.lt k hk).1))) (fun i hi => .inr hi)
        have HA := Lib.hid hall
        have HOW := Lib.hid hown'
        have bw : Blk w' wr.heap.size 56 #[.int .u8 1, .string x.2] := by
          refine Blk.grown (t := 56) ?_ hgrow (fun e => ?_)
          · have := BX.out; rw [hti] at this; exact this
          · have := (B1.out.lt _ e.symm).2; omega
        have d1 : w'.cell? ⟨wr.heap.size, 1, none⟩ = some (.string x.2) := bw.cell 1
        clear hown' hgrow hnew hall bw c0 c1
        -- FIN
        go_wp2_with fail
        refine (hsm _ (by omega) (by omega)).mono ?_
        rintro e w'' ⟨rfl, rfl⟩
        rw [if_neg (by omega), Int.toNat_natCast]
        have hwr : IntKind.i64.wrap ((gsum (fs.take k) : Int) + (fsize x.2.size : Int)) = ((gsum (fs.take (k + 1)) : Nat) : Int) := by rw [HG1.out, IntWalk.i64_in _ (by omega)]; omega
        clear d1 hsm
        go_wp2_with fail
        go_roundw
        case rel =>
          refine ⟨k + 1, by omega, by go_num, ?_, ?_, ?_, HA.out⟩
          · rw [HG1.out]
          · intro y hy
            rw [HSN.out] at hy
            rcases List.mem_append.1 hy with h | h
            · exact HAL.out y h
            · rw [List.mem_singleton.1 h]; exact ht
          · rw [HSN.out, List.map_append, List.map_take]; exact HOW.out
        case measure => simp [intOf]; omega
      · have hti : ¬ (x.1 : Int) = 1 := by omega
        have HSTOP : Hid (∀ y, (framesOf (sB s))[k]? = some y → y.1 ≠ 1) := Lib.hid (fun y hy => by
          rw [← HFS.out, HXF.out] at hy
          injection hy with hy
          rw [← hy]; exact ht)
        obtain ⟨As, cs, hsv, _⟩ := own_form B1.out
        subst hsv
        have HZ : Hid (Only (fun _ => False) w5 (wr.alloc (.cells #[.int .u8 (x.1 : Int), .string x.2] 56))) := Lib.hid (B2.out.alloc _)
        have HRC : Hid ((wr.alloc (.cells #[.int .u8 (x.1 : Int), .string x.2] 56)).ownsRow w5.heap.size 9 1 (.slice As k cs) k ((fs.take k).map fun x => .string x.2)) := Lib.hid (((Only.refl (fun _ => False) wr).alloc _).owns B1.out (fun _ _ h => h))
        clear B1 B2
        have hFe : Fs = fs.take k := by
          rw [HFs.out, HFS.out]
          unfold openF
          rw [← HT.out, ← HS.out]
          refine recsF_at _ k ?_ HSTOP.out
          rw [← HFS.out]
          exact HAL.out
        have hXe : X = s.take (gsum (fs.take k)) := by
          rw [HX.out]
          unfold openX
          rw [← HFs.out, hFe, ← HT.out, ← HS.out]
        have HFE := Lib.hid hFe
        have HXE := Lib.hid hXe
        clear hFe hXe
        have hgi : ((gsum (fs.take k) : Nat) : Int) ≤ (s.length : Int) := by omega
        have hsz : (sB s).size = s.length := sB_size s
        have hex : (sB s).extract 0 (gsum (fs.take k)) = sB X := by rw [sB_extract, HXE.out]; rfl
        have bq : Blk (wr.alloc (.cells #[.int .u8 (x.1 : Int), .string x.2] 56)) q 48 #[.pointer (some ⟨p, 0, none⟩), .int .i64 f, .int .i64 nn, .string ⟨#[]⟩, .bool false] := HZ.out.blk (O5.out.blk (O4.out.blk (O3.out.blk (O2.out.blk HB0.out (fun h => h)) (fun h => h)) (fun h => h)) (fun h => h)) (fun h => h)
        have e0 : (wr.alloc (.cells #[.int .u8 (x.1 : Int), .string x.2] 56)).cell? ⟨q, 3, none⟩ = some (.string ⟨#[]⟩) := bq.cell 3
        have e1 : (wr.alloc (.cells #[.int .u8 (x.1 : Int), .string x.2] 56)).frozen? ⟨q, 3, none⟩ = false := bq.frozen 3
        have BQ := Lib.hid bq
        clear bq
        go_wp2_with fail
        obtain ⟨W6, hW6⟩ : ∃ W6, W6 = (wr.alloc (.cells #[.int .u8 (x.1 : Int), .string x.2] 56)).setCell ⟨q, 3, none⟩ (.string (sB X)) := ⟨_, rfl⟩
        rw [← hW6]
        have b6 : Blk W6 q 48 #[.pointer (some ⟨p, 0, none⟩), .int .i64 f, .int .i64 nn, .string (sB X), .bool false] := by rw [hW6]; exact BQ.out.set_ 3 _
        have o6 : Only (fun b => b = q) (wr.alloc (.cells #[.int .u8 (x.1 : Int), .string x.2] 56)) W6 := by rw [hW6]; exact (Only.refl (fun b => b = q) (wr.alloc (.cells #[.int .u8 (x.1 : Int), .string x.2] 56))).setCell (p := ⟨q, 3, none⟩) (.inl rfl) _
        have owz : Only (fun _ => False) w (wr.alloc (.cells #[.int .u8 (x.1 : Int), .string x.2] 56)) := (((((HO1.out.trans O2.out).trans O3.out).trans O4.out).trans O5.out).trans HZ.out)
        have HQW : Hid (w.heap.size ≤ q) := Lib.hid (by rw [← HQ.out]; exact Nat.le_refl _)
        have HGW : Hid (w.heap.size ≤ g) := Lib.hid (by have := HO1.out.size; have := O2.out.size; omega)
        have HW5 : Hid (w.heap.size ≤ w5.heap.size) := Lib.hid (by have := HO1.out.size; have := O2.out.size; have := O3.out.size; have := O4.out.size; have := O5.out.size; omega)
        have HNg : Hid (¬ q = g) := Lib.hid (fun e => by have := (HO1.out.trans O2.out).size; have := HB0.out.lt; have h2 := O2.out.size; omega)
        have HNR : Hid (∀ b, (Value.slice As k cs).ownBlock = some b → ¬ b = g) := Lib.hid (fun b hb e => by have := (HRC.out.lt b hb).1; have h4 := O4.out.size; have h5 := O5.out.size; omega)
        have o7 : Only (fun b => b = q) (wr.alloc (.cells #[.int .u8 (x.1 : Int), .string x.2] 56)) W6.drew := o6.drew
        obtain ⟨W7, hW7⟩ : ∃ W7, W7 = W6.drew := ⟨_, rfl⟩
        rw [← hW7] at o7
        have b7 : Blk W7 q 48 #[.pointer (some ⟨p, 0, none⟩), .int .i64 f, .int .i64 nn, .string (sB X), .bool false] := by rw [hW7]; exact b6
        have H7 := Lib.hid b7
        have HW7 := Lib.hid hW7
        have HFAR : Hid (Far w W7) := Lib.hid (((FarX.none (X := fun b => b = q) owz).trans (FarX.of_only o7 (fun _ h => h))).new (fun k hk => by rw [hk]; exact HQW.out))
        have HON : Hid (Only (fun b => B ≤ b) w W7) := Lib.hid ((owz.mono fun _ h => h.elim).trans (o7.mono fun b h => by rw [h]; exact HBq.out))
        have HRZ : Hid (W7.ownsRow w5.heap.size 9 1 (.slice As k cs) k ((fs.take k).map fun x => .string x.2)) := Lib.hid (o7.owns HRC.out (fun b hb e => by have := (HRC.out.lt b hb).1; have h1 := HB0.out.lt; have h2 := O2.out.size; have h3 := O3.out.size; have h4 := O4.out.size; have h5 := O5.out.size; omega))
        have hD7 : DkS W7 p gs n S B m := ((((((HD.out.only O2.out).only O3.out).only O4.out).only O5.out).only HZ.out).away BQ.out o7 nDT_Book)
        have hr7 : W7.ownsRow w2.heap.size 9 1 (.slice (some ⟨g, 0, none⟩) nn cap) nn (strsV T) := o7.owns (HZ.out.owns (O5.out.owns (O4.out.owns H3.out (fun _ _ h => h)) (fun _ _ h => h)) (fun _ _ h => h)) (fun b hb e => HNg.out (by simp [Value.ownBlock] at hb; omega))
        have hTLn : T.length = nn := by rw [HT.out]; exact HTL.out
        have hXl : X.length ≤ 1000000000 := by rw [HXE.out, List.length_take]; omega
        have han := anew_any p gs n f nn S B m T X g cap w2.heap.size W7 hD7 (by rw [hTLn]; exact hr7) (by have := HO1.out.size; have := O2.out.size; have := HBq.out; have := HB0.out.lt; omega) (by omega) (by omega) (by omega) hXl (by rw [HT.out]; exact HTA.out)
        rw [hTLn, ← HR.out] at han
        unfold partV at han
        have HAN := Lib.hid han
        clear han hD7 hr7 hTLn hXl o7 b7 owz o6 b6 hW6 hW7 e0 e1
        refine wp_region_st (by kernel_rfl) (fun dn y => Stk (fun y => Blk y q 48 #[.pointer (some ⟨p, 0, none⟩), .int .i64 f, .int .i64 nn, .string (sB X), .bool false]) W7 (dn 9) (fun y => DkS y p gs n R.2.1 B (m + 2 * nn + 2) ∧ FarX (fun b => b = g) W7 y ∧ Only (fun b => B ≤ b) W7 y) y) [Is (.pointer (some ⟨q, 0, none⟩)), Is (.pointer (some ⟨q, 0, none⟩)), Is (.pointer (some ⟨q, 0, none⟩)), Is (.agg #[.pointer (some ⟨p, 0, none⟩), .int .i64 f, .int .i64 nn]), Is (.slice (some ⟨g, 0, none⟩) nn cap), Is (.pointer (some ⟨q, 0, none⟩)), Is (.pointer (some ⟨q, 0, none⟩)), Is (.pointer (some ⟨q, 3, none⟩)), Is (.string (sB X)), Is (.int .i64 R.1), Is (.int .i64 R.1)] (by kernel_rfl)
          ⟨is_stab _ _, is_stab _ _, is_stab _ _, is_stab _ _, is_stab _ _, is_stab _ _, is_stab _ _, is_stab _ _, is_stab _ _, is_stab _ _, is_stab _ _, trivial⟩ (by rw [← HW7.out]; exact Stk.start H7.out) ⟨?_, ?_, ?_, ?_, ?_, ?_, ?_, ?_, ?_, ?_, ?_, trivial⟩ ?_
        · intro dn u w1 hi he hS hp K hK
          refine ord_plain rfl ?_
          simp at hp hK ⊢
          go_simp
          exact hK _ _ (by simpa [ldW] using hS) rfl
        · intro dn u w1 hi he hS hp K hK
          refine ord_plain rfl ?_
          simp at hp hK ⊢
          simp only [hp] at hK
          go_simp
          exact hK _ _ (by simpa [ldW] using hS) rfl
        · intro dn u w1 hi he hS hp K hK
          refine ord_plain rfl ?_
          simp at hp hK ⊢
          simp only [hp] at hK
          go_simp
          exact hK _ _ (by simpa [ldW] using hS) rfl
        · intro dn u w1 hi he hS hp K hK
          refine ord_plain rfl ?_
          simp at hp hK ⊢
          simp only [hp] at hK
          have hc0 : w1.cell? ⟨q, 0, none⟩ = some (.pointer (some ⟨p, 0, none⟩)) := hS.all.cell 0
          have hc1 : w1.cell? ⟨q, 1, none⟩ = some (.int .i64 f) := hS.all.cell 1
          have hc2 : w1.cell? ⟨q, 2, none⟩ = some (.int .i64 nn) := hS.all.cell 2
          go_simp
          exact hK _ _ (by simpa [ldW] using hS) rfl
        · intro dn u w1 hi he hS hp K hK
          refine ord_plain rfl ?_
          simp at hp hK ⊢
          go_simp
          exact hK _ _ (by simpa [ldW] using hS) rfl
        · intro dn u w1 hi he hS hp K hK
          refine ord_plain rfl ?_
          simp at hp hK ⊢
          go_simp
          exact hK _ _ (by simpa [ldW] using hS) rfl
        · intro dn u w1 hi he hS hp K hK
          refine ord_plain rfl ?_
          simp at hp hK ⊢
          simp only [hp] at hK
          go_simp
          exact hK _ _ (by simpa [ldW] using hS) rfl
        · intro dn u w1 hi he hS hp K hK
          refine ord_plain rfl ?_
          simp at hp hK ⊢
          simp only [hp] at hK
          go_simp
          exact hK _ _ (by simpa [ldW] using hS) rfl
        · intro dn u w1 hi he hS hp K hK
          refine ord_plain rfl ?_
          simp at hp hK ⊢
          simp only [hp] at hK
          have hc3 : w1.cell? ⟨q, 3, none⟩ = some (.string (sB X)) := hS.all.cell 3
          go_simp
          exact hK _ _ (by simpa [ldW] using hS) rfl
        · intro dn u w1 hi he hS hp K hK
          refine ord_plain rfl ?_
          simp at hp hK ⊢
          simp only [hp] at hK
          obtain rfl := hS.was hi
          go_simp
          refine HAN.out.mono ?_
          rintro e wa ⟨rfl, k1, k2, k3⟩
          exact hK _ _ (Stk.put (k2.blk _ _ _ hS.all nDT_Book HNg.out) ⟨k1, k2, k3⟩) rfl
        · intro dn u w1 hi he hS hp K hK
          refine ord_plain rfl ?_
          simp at hp hK ⊢
          simp only [hp] at hK
          go_simp
          exact hK _ _ (by simpa [ldW] using hS) rfl
        · intro u w1 dn hld hS hp
          simp at hp ⊢
          have hQ := hS.got (hld 9 (by decide))
          have H8 := Lib.hid hS.all
          obtain ⟨k1, k2, k3⟩ := hQ
          have h10 := hp.2.2.2.2.2.2.2.2.2.2
          simp only [h10]
          obtain ⟨w8, rfl⟩ : ∃ w8, w8 = w1 := ⟨_, rfl⟩
          have K1 := Lib.hid k1
          have K2 := Lib.hid k2
          have K3 := Lib.hid k3
          clear k1 k2 k3 h10 hp hS hld
          have HFA := Lib.hid ((FarX.far HFAR.out).trans K2.out)
          by_cases hr0 : R.1 = 0
          · go_wp2_with fail
            go_ret3
            refine ⟨K1.out, HFA.out.new (fun k hk => by rw [hk]; exact HGW.out), HON.out.trans K3.out, .inl ⟨hr0, q, _, rfl, HQW.out, H8.out, ?_⟩⟩
            have := K2.out.owns HRZ.out nDT_string HNR.out
            rw [HFE.out]
            refine owns_base ?_ HW5.out
            have hl : (fs.take k).length = k := by rw [List.length_take]; omega
            rw [hl]
            exact this
          · go_wp2_with fail
            go_ret3
            exact ⟨K1.out, HFA.out.new (fun k hk => by rw [hk]; exact HGW.out), HON.out.trans K3.out, .inr ⟨hr0, rfl⟩⟩
    · have hkk : k = fs.length := by omega
      have hnl : ¬ (k : Int) < (fs.length : Int) := by omega
      have HSTOP : Hid (∀ y, (framesOf (sB s))[k]? = some y → y.1 ≠ 1) := Lib.hid (fun y hy => by
        rw [← HFS.out, hkk, List.getElem?_eq_none (Nat.le_refl _)] at hy
        cases hy)
      obtain ⟨As, cs, hsv, _⟩ := own_form B1.out
      subst hsv
      have HZ := B2
      have HRC := B1
      clear B1 B2 hkk
      have hFe : Fs = fs.take k := by
        rw [HFs.out, HFS.out]
        unfold openF
        rw [← HT.out, ← HS.out]
        refine recsF_at _ k ?_ HSTOP.out
        rw [← HFS.out]
        exact HAL.out
      have hXe : X = s.take (gsum (fs.take k)) := by
        rw [HX.out]
        unfold openX
        rw [← HFs.out, hFe, ← HT.out, ← HS.out]
      have HFE := Lib.hid hFe
      have HXE := Lib.hid hXe
      clear hFe hXe
      have hgi : ((gsum (fs.take k) : Nat) : Int) ≤ (s.length : Int) := by omega
      have hsz : (sB s).size = s.length := sB_size s
      have hex : (sB s).extract 0 (gsum (fs.take k)) = sB X := by rw [sB_extract, HXE.out]; rfl
      have bq : Blk wr q 48 #[.pointer (some ⟨p, 0, none⟩), .int .i64 f, .int .i64 nn, .string ⟨#[]⟩, .bool false] := HZ.out.blk (O5.out.blk (O4.out.blk (O3.out.blk (O2.out.blk HB0.out (fun h => h)) (fun h => h)) (fun h => h)) (fun h => h)) (fun h => h)
      have e0 : wr.cell? ⟨q, 3, none⟩ = some (.string ⟨#[]⟩) := bq.cell 3
      have e1 : wr.frozen? ⟨q, 3, none⟩ = false := bq.frozen 3
      have BQ := Lib.hid bq
      clear bq
      go_wp2_with fail
      obtain ⟨W6, hW6⟩ : ∃ W6, W6 = wr.setCell ⟨q, 3, none⟩ (.string (sB X)) := ⟨_, rfl⟩
      rw [← hW6]
      have b6 : Blk W6 q 48 #[.pointer (some ⟨p, 0, none⟩), .int .i64 f, .int .i64 nn, .string (sB X), .bool false] := by rw [hW6]; exact BQ.out.set_ 3 _
      have o6 : Only (fun b => b = q) wr W6 := by rw [hW6]; exact (Only.refl (fun b => b = q) wr).setCell (p := ⟨q, 3, none⟩) (.inl rfl) _
      have owz : Only (fun _ => False) w wr := (((((HO1.out.trans O2.out).trans O3.out).trans O4.out).trans O5.out).trans HZ.out)
      have HQW : Hid (w.heap.size ≤ q) := Lib.hid (by rw [← HQ.out]; exact Nat.le_refl _)
      have HGW : Hid (w.heap.size ≤ g) := Lib.hid (by have := HO1.out.size; have := O2.out.size; omega)
      have HW5 : Hid (w.heap.size ≤ w5.heap.size) := Lib.hid (by have := HO1.out.size; have := O2.out.size; have := O3.out.size; have := O4.out.size; have := O5.out.size; omega)
      have HNg : Hid (¬ q = g) := Lib.hid (fun e => by have := (HO1.out.trans O2.out).size; have := HB0.out.lt; have h2 := O2.out.size; omega)
      have HNR : Hid (∀ b, (Value.slice As k cs).ownBlock = some b → ¬ b = g) := Lib.hid (fun b hb e => by have := (HRC.out.lt b hb).1; have h4 := O4.out.size; have h5 := O5.out.size; omega)
      have o7 : Only (fun b => b = q) wr W6.drew := o6.drew
      obtain ⟨W7, hW7⟩ : ∃ W7, W7 = W6.drew := ⟨_, rfl⟩
      rw [← hW7] at o7
      have b7 : Blk W7 q 48 #[.pointer (some ⟨p, 0, none⟩), .int .i64 f, .int .i64 nn, .string (sB X), .bool false] := by rw [hW7]; exact b6
      have H7 := Lib.hid b7
      have HW7 := Lib.hid hW7
      have HFAR : Hid (Far w W7) := Lib.hid (((FarX.none (X := fun b => b = q) owz).trans (FarX.of_only o7 (fun _ h => h))).new (fun k hk => by rw [hk]; exact HQW.out))
      have HON : Hid (Only (fun b => B ≤ b) w W7) := Lib.hid ((owz.mono fun _ h => h.elim).trans (o7.mono fun b h => by rw [h]; exact HBq.out))
      have HRZ : Hid (W7.ownsRow w5.heap.size 9 1 (.slice As k cs) k ((fs.take k).map fun x => .string x.2)) := Lib.hid (o7.owns HRC.out (fun b hb e => by have := (HRC.out.lt b hb).1; have h1 := HB0.out.lt; have h2 := O2.out.size; have h3 := O3.out.size; have h4 := O4.out.size; have h5 := O5.out.size; omega))
      have hD7 : DkS W7 p gs n S B m := ((((((HD.out.only O2.out).only O3.out).only O4.out).only O5.out).only HZ.out).away BQ.out o7 nDT_Book)
      have hr7 : W7.ownsRow w2.heap.size 9 1 (.slice (some ⟨g, 0, none⟩) nn cap) nn (strsV T) := o7.owns (HZ.out.owns (O5.out.owns (O4.out.owns H3.out (fun _ _ h => h)) (fun _ _ h => h)) (fun _ _ h => h)) (fun b hb e => HNg.out (by simp [Value.ownBlock] at hb; omega))
      have hTLn : T.length = nn := by rw [HT.out]; exact HTL.out
      have hXl : X.length ≤ 1000000000 := by rw [HXE.out, List.length_take]; omega
      have han := anew_any p gs n f nn S B m T X g cap w2.heap.size W7 hD7 (by rw [hTLn]; exact hr7) (by have := HO1.out.size; have := O2.out.size; have := HBq.out; have := HB0.out.lt; omega) (by omega) (by omega) (by omega) hXl (by rw [HT.out]; exact HTA.out)
      rw [hTLn, ← HR.out] at han
      unfold partV at han
      have HAN := Lib.hid han
      clear han hD7 hr7 hTLn hXl o7 b7 owz o6 b6 hW6 hW7 e0 e1
      refine wp_region_st (by kernel_rfl) (fun dn y => Stk (fun y => Blk y q 48 #[.pointer (some ⟨p, 0, none⟩), .int .i64 f, .int .i64 nn, .string (sB X), .bool false]) W7 (dn 9) (fun y => DkS y p gs n R.2.1 B (m + 2 * nn + 2) ∧ FarX (fun b => b = g) W7 y ∧ Only (fun b => B ≤ b) W7 y) y) [Is (.pointer (some ⟨q, 0, none⟩)), Is (.pointer (some ⟨q, 0, none⟩)), Is (.pointer (some ⟨q, 0, none⟩)), Is (.agg #[.pointer (some ⟨p, 0, none⟩), .int .i64 f, .int .i64 nn]), Is (.slice (some ⟨g, 0, none⟩) nn cap), Is (.pointer (some ⟨q, 0, none⟩)), Is (.pointer (some ⟨q, 0, none⟩)), Is (.pointer (some ⟨q, 3, none⟩)), Is (.string (sB X)), Is (.int .i64 R.1), Is (.int .i64 R.1)] (by kernel_rfl)
        ⟨is_stab _ _, is_stab _ _, is_stab _ _, is_stab _ _, is_stab _ _, is_stab _ _, is_stab _ _, is_stab _ _, is_stab _ _, is_stab _ _, is_stab _ _, trivial⟩ (by rw [← HW7.out]; exact Stk.start H7.out) ⟨?_, ?_, ?_, ?_, ?_, ?_, ?_, ?_, ?_, ?_, ?_, trivial⟩ ?_
      · intro dn u w1 hi he hS hp K hK
        refine ord_plain rfl ?_
        simp at hp hK ⊢
        go_simp
        exact hK _ _ (by simpa [ldW] using hS) rfl
      · intro dn u w1 hi he hS hp K hK
        refine ord_plain rfl ?_
        simp at hp hK ⊢
        simp only [hp] at hK
        go_simp
        exact hK _ _ (by simpa [ldW] using hS) rfl
      · intro dn u w1 hi he hS hp K hK
        refine ord_plain rfl ?_
        simp at hp hK ⊢
        simp only [hp] at hK
        go_simp
        exact hK _ _ (by simpa [ldW] using hS) rfl
      · intro dn u w1 hi he hS hp K hK
        refine ord_plain rfl ?_
        simp at hp hK ⊢
        simp only [hp] at hK
        have hc0 : w1.cell? ⟨q, 0, none⟩ = some (.pointer (some ⟨p, 0, none⟩)) := hS.all.cell 0
        have hc1 : w1.cell? ⟨q, 1, none⟩ = some (.int .i64 f) := hS.all.cell 1
        have hc2 : w1.cell? ⟨q, 2, none⟩ = some (.int .i64 nn) := hS.all.cell 2
        go_simp
        exact hK _ _ (by simpa [ldW] using hS) rfl
      · intro dn u w1 hi he hS hp K hK
        refine ord_plain rfl ?_
        simp at hp hK ⊢
        go_simp
        exact hK _ _ (by simpa [ldW] using hS) rfl
      · intro dn u w1 hi he hS hp K hK
        refine ord_plain rfl ?_
        simp at hp hK ⊢
        go_simp
        exact hK _ _ (by simpa [ldW] using hS) rfl
      · intro dn u w1 hi he hS hp K hK
        refine ord_plain rfl ?_
        simp at hp hK ⊢
        simp only [hp] at hK
        go_simp
        exact hK _ _ (by simpa [ldW] using hS) rfl
      · intro dn u w1 hi he hS hp K hK
        refine ord_plain rfl ?_
        simp at hp hK ⊢
        simp only [hp] at hK
        go_simp
        exact hK _ _ (by simpa [ldW] using hS) rfl
      · intro dn u w1 hi he hS hp K hK
        refine ord_plain rfl ?_
        simp at hp hK ⊢
        simp only [hp] at hK
        have hc3 : w1.cell? ⟨q, 3, none⟩ = some (.string (sB X)) := hS.all.cell 3
        go_simp
        exact hK _ _ (by simpa [ldW] using hS) rfl
      · intro dn u w1 hi he hS hp K hK
        refine ord_plain rfl ?_
        simp at hp hK ⊢
        simp only [hp] at hK
        obtain rfl := hS.was hi
        go_simp
        refine HAN.out.mono ?_
        rintro e wa ⟨rfl, k1, k2, k3⟩
        exact hK _ _ (Stk.put (k2.blk _ _ _ hS.all nDT_Book HNg.out) ⟨k1, k2, k3⟩) rfl
      · intro dn u w1 hi he hS hp K hK
        refine ord_plain rfl ?_
        simp at hp hK ⊢
        simp only [hp] at hK
        go_simp
        exact hK _ _ (by simpa [ldW] using hS) rfl
      · intro u w1 dn hld hS hp
        simp at hp ⊢
        have hQ := hS.got (hld 9 (by decide))
        have H8 := Lib.hid hS.all
        obtain ⟨k1, k2, k3⟩ := hQ
        have h10 := hp.2.2.2.2.2.2.2.2.2.2
        simp only [h10]
        obtain ⟨w8, rfl⟩ : ∃ w8, w8 = w1 := ⟨_, rfl⟩
        have K1 := Lib.hid k1
        have K2 := Lib.hid k2
        have K3 := Lib.hid k3
        clear k1 k2 k3 h10 hp hS hld
        have HFA := Lib.hid ((FarX.far HFAR.out).trans K2.out)
        by_cases hr0 : R.1 = 0
        · go_wp2_with fail
          go_ret3
          refine ⟨K1.out, HFA.out.new (fun k hk => by rw [hk]; exact HGW.out), HON.out.trans K3.out, .inl ⟨hr0, q, _, rfl, HQW.out, H8.out, ?_⟩⟩
          have := K2.out.owns HRZ.out nDT_string HNR.out
          rw [HFE.out]
          refine owns_base ?_ HW5.out
          have hl : (fs.take k).length = k := by rw [List.length_take]; omega
          rw [hl]
          exact this
        · go_wp2_with fail
          go_ret3
          exact ⟨K1.out, HFA.out.new (fun k hk => by rw [hk]; exact HGW.out), HON.out.trans K3.out, .inr ⟨hr0, rfl⟩⟩
end Go.Proofs.Ytmneflpjoaocbaa
