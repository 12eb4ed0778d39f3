/- Several texts in one: BkJ, BkK, BkL, BkM, BkN, BkO, BkR. -/
import Derived.Test.YthggliknnmhbdaaGreatMWAS
import Derived.Test.YthggliknnmhbdaaGreatMWAE
/- Books: plain: which records frames are, and how many bytes those have. No program in sight. -/
namespace Go.Proofs.YthggliknnmhbdaaGreat
set_option maxRecDepth 100000
open Go.RowKit
set_option linter.unusedVariables false
theorem read_size {l : List Nat} (h : (Var.read l).2.2 = 0) (hx : (Var.read l).1 ≤ 131072) : (Var.read l).2.1 = Var.size (Var.read l).1 := by
  have hs := fun x => Var.size_len x
  unfold Var.read at h hx ⊢
  split at h
  · simp at h
  · rename_i h1
    rw [if_neg h1] at hx ⊢
    split at h
    · simp at h
    · rename_i h2
      rw [if_neg h2] at hx ⊢
      split at h
      · rename_i h3
        rw [if_pos h3] at hx ⊢
        simp only at hx ⊢
        have hl := congrArg List.length h3
        rw [List.length_take, Nat.min_eq_left (by have := Var.lead_le 10 l; omega)] at hl
        generalize Var.val (List.take (Var.lead 10 l + 1) l) % 18446744073709551616 = x at *
        rw [← hl]
        unfold Var.size
        by_cases a1 : x < 128
        · rw [if_pos a1, Var.enc_small _ _ a1]; rfl
        · rw [if_neg a1, Var.enc_big _ _ (by omega)]
          by_cases a2 : x < 16384
          · rw [if_pos a2, Var.enc_small _ _ (by omega)]; rfl
          · rw [if_neg a2, Var.enc_big _ _ (by omega), Var.enc_small _ _ (by omega)]; rfl
      · simp at h
/-- a frame that is read has as many bytes as its text says -/
theorem fread_size {s : ByteArray} {most : Int} (h : (fread s most).2.2.2 = 0) : (fread s most).2.2.1 = fsize (fread s most).2.1.size ∧ (fread s most).2.1.size ≤ 131072 ∧ (fread s most).1 < 256 := by
  have hr := fun hx => read_size (l := bs (s.extract 2 s.size)) hx
  unfold fread at h ⊢
  split at h
  · simp at h
  · rename_i h0
    rw [if_neg h0]
    split at h
    · simp at h
    · rename_i h1
      rw [if_neg h1]
      split at h
      · simp at h
      · rename_i h2
        rw [if_neg h2]
        generalize Var.read (bs (s.extract 2 s.size)) = r at *
        obtain ⟨x, k, e⟩ := r
        simp only at h hr ⊢
        unfold fbody at h ⊢
        repeat' split at h
        all_goals (try (simp at h))
        rename_i h3 h4 h5 h6 h7
        have hk := hr (by omega) (by omega)
        rw [if_neg h3, if_neg h4, if_neg h5, if_neg h6, if_neg h7]
        simp only
        have hsz : (s.extract (2 + k) (2 + k + x)).size = x := by rw [ByteArray.size_extract]; omega
        rw [hsz]
        refine ⟨by unfold fsize; omega, by omega, ?_⟩
        rw [List.getD_eq_getElem?_getD]
        cases hc : (bs s)[1]? with
        | none => simp
        | some c => exact bs_lt s c (List.mem_of_getElem? hc)
/-- how many bytes frames have -/
def gsum (l : List (Nat × ByteArray)) : Nat := (l.map fun x => fsize x.2.size).sum
theorem gsum_snoc (l : List (Nat × ByteArray)) (x : Nat × ByteArray) : gsum (l ++ [x]) = gsum l + fsize x.2.size := by simp [gsum]
theorem gsum_cons (x : Nat × ByteArray) (l : List (Nat × ByteArray)) : gsum (x :: l) = fsize x.2.size + gsum l := by simp [gsum]
theorem scan_size (s : ByteArray) (most : Int) : ∀ (f p : Nat), p ≤ s.size → p + gsum (fscan s most f p).1 ≤ s.size ∧ (∀ x ∈ (fscan s most f p).1, x.2.size ≤ 131072 ∧ x.1 < 256)
  | 0, p, hp => ⟨by simp [fscan, gsum]; exact hp, fun x hx => by simp [fscan] at hx⟩
  | f + 1, p, hp => by
    simp only [fscan]
    by_cases h : s.size ≤ p
    · rw [if_pos h]
      exact ⟨by simp [gsum]; exact hp, fun x hx => by simp at hx⟩
    · rw [if_neg h]
      by_cases he : (fread (s.extract p s.size) most).2.2.2 = 0
      · rw [if_neg (fun x => x he)]
        have hn := fread_ok he
        have hz := fread_size he
        rw [ByteArray.size_extract] at hn
        obtain ⟨i1, i2⟩ := scan_size s most f (p + (fread (s.extract p s.size) most).2.2.1) (by omega)
        refine ⟨?_, fun x hx => ?_⟩
        · simp only
          rw [gsum_cons]
          simp only
          omega
        · rcases List.mem_cons.1 hx with rfl | hx
          · exact hz.2
          · exact i2 x hx
      · rw [if_pos he]
        exact ⟨by simp [gsum]; exact hp, fun x hx => by simp at hx⟩
def framesOf (s : ByteArray) : List (Nat × ByteArray) := (scanFrom s 131072 0).1
theorem framesOf_ok (s : ByteArray) : gsum (framesOf s) ≤ s.size ∧ ∀ x ∈ framesOf s, x.2.size ≤ 131072 ∧ x.1 < 256 := by
  have := scan_size s 131072 (s.size - 0) 0 (by omega)
  exact ⟨by have := this.1; unfold framesOf scanFrom; omega, this.2⟩
/-- the records that stand at the front -/
def recsF (l : List (Nat × ByteArray)) : List (Nat × ByteArray) := l.takeWhile fun x => x.1 == 1
theorem recsF_at (l : List (Nat × ByteArray)) : ∀ (k : Nat), (∀ x ∈ l.take k, x.1 = 1) → (∀ x, l[k]? = some x → x.1 ≠ 1) → recsF l = l.take k := by
  induction l with
  | nil => intro k _ _; simp [recsF]
  | cons a l ih =>
    intro k h1 h2
    cases k with
    | zero =>
      have := h2 a (by simp)
      simp [recsF, this]
    | succ k =>
      have ha := h1 a (by simp)
      have := ih k (fun x hx => h1 x (by simp [hx])) (fun x hx => h2 x (by simpa using hx))
      simp only [recsF] at this ⊢
      rw [List.takeWhile_cons, this]
      simp [ha]
theorem gsum_take (l : List (Nat × ByteArray)) (k : Nat) : gsum (l.take k) ≤ gsum l := by
  have h := congrArg gsum (List.take_append_drop k l)
  have e : gsum (l.take k ++ l.drop k) = gsum (l.take k) + gsum (l.drop k) := by simp only [gsum, List.map_append, List.sum_append]
  omega
theorem fsize_le (n : Nat) (h : n ≤ 131072) : fsize n ≤ 131081 := by have := vsize_le n; unfold fsize; omega
theorem stream_len : ∀ (ts : List (List UInt8)), (streamL ts).length ≤ ts.length * 127
  | [] => by simp [streamL]
  | t :: r => by
    have ih := stream_len r
    simp only [streamL, List.length_append, List.length_take, List.length_cons]
    generalize (t.getD 127 0).toNat = c
    have h1 : (if (if 127 < c then 0 else c) < 127 then ([] : List UInt8) else streamL r).length ≤ r.length * 127 := by
      by_cases h : (if 127 < c then 0 else c) < 127
      · rw [if_pos h]; simp
      · rw [if_neg h]; exact ih
    have h2 : (if 127 < c then 0 else c) ≤ 127 := by split <;> omega
    omega
theorem fcells_get (l : List (Nat × ByteArray)) : ∀ (k : Nat) (x : Nat × ByteArray), l[k]? = some x → (fcells l)[k * 2]? = some (.int .u8 (x.1 : Int)) ∧ (fcells l)[k * 2 + 1]? = some (.string x.2) := by
  induction l with
  | nil => intro k x h; simp at h
  | cons a l ih =>
    intro k x h
    have e : fcells (a :: l) = .int .u8 (a.1 : Int) :: .string a.2 :: fcells l := rfl
    cases k with
    | zero => simp at h; subst h; rw [e]; exact ⟨rfl, rfl⟩
    | succ k =>
      have := ih k x (by simpa using h)
      rw [e, show (k + 1) * 2 = k * 2 + 1 + 1 by omega, show k * 2 + 1 + 1 + 1 = (k * 2 + 1) + 1 + 1 by omega]
      simpa using this
end Go.Proofs.YthggliknnmhbdaaGreat
/- Books: the walk of Open, where the part may be and can be read. No conditions beyond what it states. -/
namespace Go.Proofs.YthggliknnmhbdaaGreat
set_option maxRecDepth 100000
open Go.RowKit
set_option linter.unusedVariables false
attribute [local simp] frOf dstsOf frGo predsHold allHold Region.binds slotOf seen Is Act.put
/-- what is opened: the sectors; the stream; the records; the text -/
def openT (f nn : Nat) (C : Nat → List UInt8) : List (List UInt8) := (List.range nn).map fun j => C (f + j)
def openF (f nn : Nat) (C : Nat → List UInt8) : List (Nat × ByteArray) := recsF (framesOf (sB (streamL (openT f nn C))))
def openX (f nn : Nat) (C : Nat → List UInt8) : List UInt8 := (streamL (openT f nn C)).take (gsum (openF f nn C))
/-- A region in which one operation turns the world: what stands all the while, what stands behind it. -/
structure Stk (K : World → Prop) (W : World) (b : Bool) (Q : World → Prop) (y : World) : Prop where
  all : K y
  is_ : if b = true then Q y else y = W
theorem Stk.was {K Q : World → Prop} {W y : World} {b : Bool} (h : Stk K W b Q y) (hb : b = false) : y = W := by have := h.is_; simpa [hb] using this
theorem Stk.got {K Q : World → Prop} {W y : World} {b : Bool} (h : Stk K W b Q y) (hb : b = true) : Q y := by have := h.is_; simpa [hb] using this
theorem Stk.put {K Q : World → Prop} {W y : World} (h : K y) (hq : Q y) : Stk K W true Q y := ⟨h, by simpa using hq⟩
theorem Stk.start {K Q : World → Prop} {W : World} (h : K W) : Stk K W false Q W := ⟨h, by simp⟩
theorem reads_oneK {w : World} {t : TypeId} (v : Value) {k : Nat} (hk : w.heap.size = k) : Reads (w.alloc (.cells #[v] t)) (k + 1) 1 (some ⟨k, 0, none⟩) 1 [v] := by
  subst hk
  exact reads_one v
set_option maxHeartbeats 4000000 in
set_option maxRecDepth 100000 in
theorem open_any (p gs n f nn : Nat) (S : Dst) (B m : Nat) (C : Nat → List UInt8) (w : World) (D : DkS w p gs n S B m) (hn1 : 1 ≤ nn) (hfn : f + nn ≤ n) (hm : m + 12000 ≤ 1000000)
    (hC : ∀ j, j < nn → (C (f + j)).length = 128)
    (hrd : ∀ W, Only (fun _ => False) w W → ∀ j, j < nn → Calls Tryz.prog 56 #[.pointer (some ⟨p, 0, none⟩), .int .i64 ((f : Int) + (j : Int))] W fun e w' => e = .returned (.tuple #[.string (sB (C (f + j))), .int .i64 0]) ∧ Only (fun _ => False) W w') :
    Calls Tryz.prog 17 #[.pointer (some ⟨p, 0, none⟩), .int .i64 f, .int .i64 nn] w fun e w' =>
      DkS w' p gs n (anewS n f (openX f nn C) (openT f nn C) S).2.1 B (m + 2 * nn + 2) ∧ Far w w' ∧ Only (fun b => B ≤ b) w w' ∧
      (((anewS n f (openX f nn C) (openT f nn C) S).1 = 0 ∧ ∃ b v, e = .returned (.tuple #[.pointer (some ⟨b, 0, none⟩), v, .int .i64 0]) ∧ w.heap.size ≤ b ∧ BookB w' b p f nn (sB (openX f nn C)) false ∧ w'.ownsRow w.heap.size 9 1 v (openF f nn C).length ((openF f nn C).map fun x => .string x.2)) ∨
       ((anewS n f (openX f nn C) (openT f nn C) S).1 ≠ 0 ∧ e = .returned (.tuple #[.pointer none, .slice none 0 0, .int .i64 (anewS n f (openX f nn C) (openT f nn C) S).1]))) := by
  have hdk := D.ok
  obtain ⟨hn0, hn4⟩ : 1 ≤ n ∧ n ≤ 4096 := ⟨D.1.1, D.1.2.1⟩
  have hTl : (openT f nn C).length = nn := by simp [openT]
  have hTa : ∀ t ∈ openT f nn C, t.length = 128 := by
    intro t ht
    obtain ⟨j, hj, rfl⟩ := List.mem_map.1 ht
    exact hC j (List.mem_range.1 hj)
  obtain ⟨w1, hw1⟩ : ∃ w1, w1 = w.alloc (.cells #[.pointer (some ⟨p, 0, none⟩), .int .i64 f, .int .i64 nn, .string ⟨#[]⟩, .bool false] 72) := ⟨_, rfl⟩
  obtain ⟨q, hq⟩ : ∃ q, q = w.heap.size := ⟨_, rfl⟩
  have o1 : Only (fun _ => False) w w1 := by rw [hw1]; exact (Only.refl _ w).alloc _
  have b0 : BookB w1 q p f nn ⟨#[]⟩ false := by rw [hw1, hq]; exact Blk.new w _ _
  have HO1 := Lib.hid o1
  have HB0 := Lib.hid b0
  have HD := Lib.hid (D.only o1)
  have HW := Lib.hid hw1.symm
  have HQ := Lib.hid hq.symm
  have HRD := Lib.hid hrd
  have HTL := Lib.hid hTl
  have HTA := Lib.hid hTa
  have HBq := Lib.hid (show B ≤ q by have := D.size; omega)
  have c0 : w1.cell? ⟨q, 0, none⟩ = some (.pointer (some ⟨p, 0, none⟩)) := b0.cell 0
  have c1 : w1.cell? ⟨q, 1, none⟩ = some (.int .i64 f) := b0.cell 1
  have c2 : w1.cell? ⟨q, 2, none⟩ = some (.int .i64 nn) := b0.cell 2
  obtain ⟨T, hT⟩ : ∃ T, T = openT f nn C := ⟨_, rfl⟩
  obtain ⟨Fs, hFs⟩ : ∃ Fs, Fs = openF f nn C := ⟨_, rfl⟩
  obtain ⟨X, hX⟩ : ∃ X, X = openX f nn C := ⟨_, rfl⟩
  rw [← hT, ← hFs, ← hX]
  obtain ⟨R, hR⟩ : ∃ R, R = anewS n f X T S := ⟨_, rfl⟩
  rw [← hR]
  have HT := Lib.hid hT
  have HFs := Lib.hid hFs
  have HX := Lib.hid hX
  have HR := Lib.hid hR
  clear o1 b0 hw1 hq hrd hTl hTa hT hFs hX hR D hdk
  go_enter Tryz.func17, Tryz.ntmps17
  go_wp2_with fail
  rw [HW.out, HQ.out]
  have hck := check_any p gs n S B m (f : Int) (nn : Int) w1 HD.out hn0 hn4 (by omega) (by omega) (by omega) (by omega)
  unfold partV at hck
  refine hck.mono ?_
  rintro e w2 ⟨rfl, o2⟩
  have O2 := Lib.hid o2
  clear o2 hck c0 c1 c2
  have c0 : w2.cell? ⟨q, 0, none⟩ = some (.pointer (some ⟨p, 0, none⟩)) := (O2.out.blk HB0.out (fun h => h)).cell 0
  have c1 : w2.cell? ⟨q, 1, none⟩ = some (.int .i64 f) := (O2.out.blk HB0.out (fun h => h)).cell 1
  have c2 : w2.cell? ⟨q, 2, none⟩ = some (.int .i64 nn) := (O2.out.blk HB0.out (fun h => h)).cell 2
  go_wp2_with fail
  have hal := all_any p f nn C w2 (by omega) (by omega) (fun W hW j hj => HRD.out W ((HO1.out.trans O2.out).trans hW) j hj)
  unfold partV at hal
  refine hal.mono ?_
  rintro e w3 ⟨v, rfl, h3, o3⟩
  have hT' : (List.range nn).map (fun j => C (f + j)) = T := HT.out.symm
  rw [hT'] at h3
  obtain ⟨g, cap, hv, hg0, hg1⟩ : ∃ g cap, v = .slice (some ⟨g, 0, none⟩) nn cap ∧ w2.heap.size ≤ g ∧ g < w3.heap.size := by
    obtain ⟨g, cap, h1, h2, h3, _⟩ := own_cells h3 (by omega)
    exact ⟨g, cap, h1, h2, h3⟩
  subst hv
  have H3 := Lib.hid h3
  have O3 := Lib.hid o3
  clear h3 o3 hal c0 c1 c2 hT'
  go_wp2_with fail
  have hTLn : T.length = nn := by rw [HT.out]; exact HTL.out
  have hst := stream_any T (some ⟨g, 0, none⟩) cap w3 ⟨fun j hj => by
      obtain ⟨g', cap', hgv, _, hgl, hc⟩ := own_cells H3.out (by omega)
      have hjT : j < T.length := by simpa using hj
      refine ⟨g', 0, by injection hgv, hgl, ?_⟩
      rw [Nat.zero_add]
      exact hc j _ (by rw [strsV, List.getElem?_map, List.getElem?_eq_getElem hjT]; simp)⟩ (by rw [HT.out]; exact HTA.out) (by omega)
  rw [hTLn] at hst
  refine hst.mono ?_
  rintro e w4 ⟨rfl, o4⟩
  have O4 := Lib.hid (Only.below_ (S := fun _ => False) o4)
  clear o4 hst
  obtain ⟨s, hs⟩ : ∃ s, s = streamL T := ⟨_, rfl⟩
  rw [← hs]
  have HS := Lib.hid hs
  have hsl : s.length ≤ 1000000 := by have := stream_len T; rw [hs]; omega
  clear hs
  go_wp2_with fail
  refine (scan_any (sB s) 131072 w4 (by rw [sB_size]; omega) (by omega) (by omega)).mono ?_
  rintro e w5 ⟨vf, rfl, h5, o5⟩
  have H5 := Lib.hid h5
  have O5 := Lib.hid (Only.below_ (S := fun _ => False) o5)
  clear h5 o5
  have hfo := framesOf_ok (sB s)
  rw [sB_size] at hfo
  have hfr : (scanFrom (sB s) 131072 0).1 = framesOf (sB s) := rfl
  rw [hfr] at H5
  obtain ⟨fs, hfs⟩ : ∃ fs, fs = framesOf (sB s) := ⟨_, rfl⟩
  rw [← hfs] at H5 hfo
  generalize (scanFrom (sB s) 131072 0).2.1 = ga
  generalize (scanFrom (sB s) 131072 0).2.2 = ge
  clear hfr
  have hfsl : fs.length ≤ 1000000 := by
    have h1 : ∀ l : List (Nat × ByteArray), l.length ≤ gsum l := fun l => by
      induction l with
      | nil => simp
      | cons a l ih => rw [gsum_cons, List.length_cons]; unfold fsize; omega
    have := h1 fs
    omega
  have HFO := Lib.hid hfo
  have HFS := Lib.hid hfs
  obtain ⟨Av, cv, rfl, _⟩ := own_form H5.out
  clear hfo hfs
  go_wp2_with fail
  obtain ⟨i0, hi, hz0, hz1, hz2⟩ := info_parts strInfo
  have HI := Lib.hid hi
  clear hi
  go_loopw [13, 18, 57] (fun rv gd i wr => ∃ k : Nat, k ≤ fs.length ∧ i = .int .i64 k ∧ gd = .int .i64 (gsum (fs.take k) : Nat) ∧ (∀ x ∈ fs.take k, x.1 = 1) ∧ wr.ownsRow w5.heap.size 9 1 rv k ((fs.take k).map fun x => .string x.2) ∧ Only (fun _ => False) w5 wr) (fun _ _ i _ => fs.length - (intOf i).toNat)
  case atStart => exact ⟨0, by omega, rfl, rfl, by simp, World.ownsRow_nil _ _ _ _, Only.refl _ _⟩
  case round =>
    obtain ⟨k, hk, rfl, rfl, hall, b1, b2⟩ := hrel
    have B1 := Lib.hid b1
    have B2 := Lib.hid b2
    have HAL := Lib.hid hall
    have hgk := gsum_take fs k
    have hfo1 := HFO.out.1
    clear b1 b2 hall
    by_cases hlt : k < fs.length
    · obtain ⟨x, hx⟩ : ∃ x, fs[k]? = some x := ⟨_, List.getElem?_eq_getElem hlt⟩
      obtain ⟨hx1, hx2⟩ := HFO.out.2 x (List.mem_of_getElem? hx)
      obtain ⟨hc1, hc2⟩ := fcells_get fs k x hx
      obtain ⟨ad, had, hadl, hcells⟩ := (Reads.of_own (B2.out.owns H5.out (fun _ _ h => h))).2 (by omega)
      obtain ⟨gv, rfl⟩ : ∃ gv, ad = ⟨gv, 0, none⟩ := by
        rcases owns_form H5.out with ⟨h, h0⟩ | ⟨g', cap', h, _⟩
        · omega
        · injection h with h1 h2 h3
          rw [h1] at had
          injection had with had
          exact ⟨g', had.symm⟩
      subst had
      have c0 : wr.cell? ⟨gv, k * 2, none⟩ = some (.int .u8 (x.1 : Int)) := by
        have := hcells _ _ hc1
        rwa [addr_plus, Nat.zero_add] at this
      have c1 : wr.cell? ⟨gv, k * 2 + 1, none⟩ = some (.string x.2) := by
        have := hcells _ _ hc2
        rwa [addr_plus, Nat.zero_add] at this
      have hlti : (k : Int) < (fs.length : Int) := by omega
      have hsn : fs.take (k + 1) = fs.take k ++ [x] := by rw [List.take_add_one, hx]; rfl
      have HSN := Lib.hid hsn
      have HXF := Lib.hid hx
      clear hcells hc1 hc2 hsn hx
      by_cases ht : x.1 = 1
      · have hti : (x.1 : Int) = 1 := by omega
        have hfz := fsize_le x.2.size hx1
        have hsc := fsize_any (x.2.size : Int)
        have hg1 : gsum (fs.take (k + 1)) = gsum (fs.take k) + fsize x.2.size := by rw [HSN.out, gsum_snoc]
        have hgk1 := gsum_take fs (k + 1)
        have HG1 := Lib.hid hg1
        clear hg1
        obtain ⟨As, cs, hsv, _⟩ := own_form B1.out
        subst hsv
        have bx : Blk ((wr.alloc (.cells #[.int .u8 (x.1 : Int), .string x.2] 80)).alloc (.cells #[.string x.2] 9)) wr.heap.size 80 #[.int .u8 (x.1 : Int), .string x.2] := (Blk.new wr _ _).alloc _
        have BX := Lib.hid bx
        have hsd : (x.2.size : Int) ≤ 131072 := by omega
        have hsm := hsc
        clear bx hsc
        go_wp2_with (at_builtin; refine wpList_append_any _ rfl (.tmp 64) (.tmp 67) 25 rfl w5.heap.size 9 i0 (.string ⟨#[]⟩) 1 16 Tryz.underlying25 HI.out hz0 hz1 hz2 rfl (by decide) _ _ _ rfl ((((Only.refl (fun _ => False) wr).alloc _).alloc _).owns B1.out (fun _ _ h => h)) _ _ _ _ _ rfl (reads_oneK _ (by simp)) ?c2 ?c3 ?c4 ?c5 ?_)
        case c2 => first | rfl | (intro u hu; simp at hu; subst hu; rfl)
        case c3 => unfold maxLen; omega
        case c4 => omega
        case c5 => have := B2.out.size; simp; omega
        intro v' w' hown' hgrow hnew
        have hall : Only (fun _ => False) w5 w' := B2.out.trans' (T := fun k => w5.heap.size ≤ k) ((((Only.refl (fun k => w5.heap.size ≤ k) wr).alloc _).alloc _).grown hgrow (fun k hk => .inl ((B1.out.lt k hk).1))) (fun i hi => .inr hi)
        have HA := Lib.hid hall
        have HOW := Lib.hid hown'
        have bw : Blk w' wr.heap.size 80 #[.int .u8 1, .string x.2] := by
          refine Blk.grown (t := 80) ?_ hgrow (fun e => ?_)
          · have := BX.out; rw [hti] at this; exact this
          · have := (B1.out.lt _ e.symm).2; omega
        have d1 : w'.cell? ⟨wr.heap.size, 1, none⟩ = some (.string x.2) := bw.cell 1
        clear hown' hgrow hnew hall bw c0 c1
        -- FIN
        go_wp2_with fail
        refine (hsm _ (by omega) (by omega)).mono ?_
        rintro e w'' ⟨rfl, rfl⟩
        rw [if_neg (by omega), Int.toNat_natCast]
        have hwr : IntKind.i64.wrap ((gsum (fs.take k) : Int) + (fsize x.2.size : Int)) = ((gsum (fs.take (k + 1)) : Nat) : Int) := by rw [HG1.out, IntWalk.i64_in _ (by omega)]; omega
        clear d1 hsm
        go_wp2_with fail
        go_roundw
        case rel =>
          refine ⟨k + 1, by omega, by go_num, ?_, ?_, ?_, HA.out⟩
          · rw [HG1.out]
          · intro y hy
            rw [HSN.out] at hy
            rcases List.mem_append.1 hy with h | h
            · exact HAL.out y h
            · rw [List.mem_singleton.1 h]; exact ht
          · rw [HSN.out, List.map_append, List.map_take]; exact HOW.out
        case measure => simp [intOf]; omega
      · have hti : ¬ (x.1 : Int) = 1 := by omega
        have HSTOP : Hid (∀ y, (framesOf (sB s))[k]? = some y → y.1 ≠ 1) := Lib.hid (fun y hy => by
          rw [← HFS.out, HXF.out] at hy
          injection hy with hy
          rw [← hy]; exact ht)
        obtain ⟨As, cs, hsv, _⟩ := own_form B1.out
        subst hsv
        have HZ : Hid (Only (fun _ => False) w5 (wr.alloc (.cells #[.int .u8 (x.1 : Int), .string x.2] 80))) := Lib.hid (B2.out.alloc _)
        have HRC : Hid ((wr.alloc (.cells #[.int .u8 (x.1 : Int), .string x.2] 80)).ownsRow w5.heap.size 9 1 (.slice As k cs) k ((fs.take k).map fun x => .string x.2)) := Lib.hid (((Only.refl (fun _ => False) wr).alloc _).owns B1.out (fun _ _ h => h))
        clear B1 B2
        have hFe : Fs = fs.take k := by
          rw [HFs.out, HFS.out]
          unfold openF
          rw [← HT.out, ← HS.out]
          refine recsF_at _ k ?_ HSTOP.out
          rw [← HFS.out]
          exact HAL.out
        have hXe : X = s.take (gsum (fs.take k)) := by
          rw [HX.out]
          unfold openX
          rw [← HFs.out, hFe, ← HT.out, ← HS.out]
        have HFE := Lib.hid hFe
        have HXE := Lib.hid hXe
        clear hFe hXe
        have hgi : ((gsum (fs.take k) : Nat) : Int) ≤ (s.length : Int) := by omega
        have hsz : (sB s).size = s.length := sB_size s
        have hex : (sB s).extract 0 (gsum (fs.take k)) = sB X := by rw [sB_extract, HXE.out]; rfl
        have bq : Blk (wr.alloc (.cells #[.int .u8 (x.1 : Int), .string x.2] 80)) q 72 #[.pointer (some ⟨p, 0, none⟩), .int .i64 f, .int .i64 nn, .string ⟨#[]⟩, .bool false] := HZ.out.blk (O5.out.blk (O4.out.blk (O3.out.blk (O2.out.blk HB0.out (fun h => h)) (fun h => h)) (fun h => h)) (fun h => h)) (fun h => h)
        have e0 : (wr.alloc (.cells #[.int .u8 (x.1 : Int), .string x.2] 80)).cell? ⟨q, 3, none⟩ = some (.string ⟨#[]⟩) := bq.cell 3
        have e1 : (wr.alloc (.cells #[.int .u8 (x.1 : Int), .string x.2] 80)).frozen? ⟨q, 3, none⟩ = false := bq.frozen 3
        have BQ := Lib.hid bq
        clear bq
        go_wp2_with fail
        obtain ⟨W6, hW6⟩ : ∃ W6, W6 = (wr.alloc (.cells #[.int .u8 (x.1 : Int), .string x.2] 80)).setCell ⟨q, 3, none⟩ (.string (sB X)) := ⟨_, rfl⟩
        rw [← hW6]
        have b6 : Blk W6 q 72 #[.pointer (some ⟨p, 0, none⟩), .int .i64 f, .int .i64 nn, .string (sB X), .bool false] := by rw [hW6]; exact BQ.out.set_ 3 _
        have o6 : Only (fun b => b = q) (wr.alloc (.cells #[.int .u8 (x.1 : Int), .string x.2] 80)) W6 := by rw [hW6]; exact (Only.refl (fun b => b = q) (wr.alloc (.cells #[.int .u8 (x.1 : Int), .string x.2] 80))).setCell (p := ⟨q, 3, none⟩) (.inl rfl) _
        have owz : Only (fun _ => False) w (wr.alloc (.cells #[.int .u8 (x.1 : Int), .string x.2] 80)) := (((((HO1.out.trans O2.out).trans O3.out).trans O4.out).trans O5.out).trans HZ.out)
        have HQW : Hid (w.heap.size ≤ q) := Lib.hid (by rw [← HQ.out]; exact Nat.le_refl _)
        have HGW : Hid (w.heap.size ≤ g) := Lib.hid (by have := HO1.out.size; have := O2.out.size; omega)
        have HW5 : Hid (w.heap.size ≤ w5.heap.size) := Lib.hid (by have := HO1.out.size; have := O2.out.size; have := O3.out.size; have := O4.out.size; have := O5.out.size; omega)
        have HNg : Hid (¬ q = g) := Lib.hid (fun e => by have := (HO1.out.trans O2.out).size; have := HB0.out.lt; have h2 := O2.out.size; omega)
        have HNR : Hid (∀ b, (Value.slice As k cs).ownBlock = some b → ¬ b = g) := Lib.hid (fun b hb e => by have := (HRC.out.lt b hb).1; have h4 := O4.out.size; have h5 := O5.out.size; omega)
        have o7 : Only (fun b => b = q) (wr.alloc (.cells #[.int .u8 (x.1 : Int), .string x.2] 80)) W6.drew := o6.drew
        obtain ⟨W7, hW7⟩ : ∃ W7, W7 = W6.drew := ⟨_, rfl⟩
        rw [← hW7] at o7
        have b7 : Blk W7 q 72 #[.pointer (some ⟨p, 0, none⟩), .int .i64 f, .int .i64 nn, .string (sB X), .bool false] := by rw [hW7]; exact b6
        have H7 := Lib.hid b7
        have HW7 := Lib.hid hW7
        have HFAR : Hid (Far w W7) := Lib.hid (((FarX.none (X := fun b => b = q) owz).trans (FarX.of_only o7 (fun _ h => h))).new (fun k hk => by rw [hk]; exact HQW.out))
        have HON : Hid (Only (fun b => B ≤ b) w W7) := Lib.hid ((owz.mono fun _ h => h.elim).trans (o7.mono fun b h => by rw [h]; exact HBq.out))
        have HRZ : Hid (W7.ownsRow w5.heap.size 9 1 (.slice As k cs) k ((fs.take k).map fun x => .string x.2)) := Lib.hid (o7.owns HRC.out (fun b hb e => by have := (HRC.out.lt b hb).1; have h1 := HB0.out.lt; have h2 := O2.out.size; have h3 := O3.out.size; have h4 := O4.out.size; have h5 := O5.out.size; omega))
        have hD7 : DkS W7 p gs n S B m := ((((((HD.out.only O2.out).only O3.out).only O4.out).only O5.out).only HZ.out).away BQ.out o7 nDT_Book)
        have hr7 : W7.ownsRow w2.heap.size 9 1 (.slice (some ⟨g, 0, none⟩) nn cap) nn (strsV T) := o7.owns (HZ.out.owns (O5.out.owns (O4.out.owns H3.out (fun _ _ h => h)) (fun _ _ h => h)) (fun _ _ h => h)) (fun b hb e => HNg.out (by simp [Value.ownBlock] at hb; omega))
        have hTLn : T.length = nn := by rw [HT.out]; exact HTL.out
        have hXl : X.length ≤ 1000000000 := by rw [HXE.out, List.length_take]; omega
        have han := anew_any p gs n f nn S B m T X g cap w2.heap.size W7 hD7 (by rw [hTLn]; exact hr7) (by have := HO1.out.size; have := O2.out.size; have := HBq.out; have := HB0.out.lt; omega) (by omega) (by omega) (by omega) hXl (by rw [HT.out]; exact HTA.out)
        rw [hTLn, ← HR.out] at han
        unfold partV at han
        have HAN := Lib.hid han
        clear han hD7 hr7 hTLn hXl o7 b7 owz o6 b6 hW6 hW7 e0 e1
        refine wp_region_st (by kernel_rfl) (fun dn y => Stk (fun y => Blk y q 72 #[.pointer (some ⟨p, 0, none⟩), .int .i64 f, .int .i64 nn, .string (sB X), .bool false]) W7 (dn 9) (fun y => DkS y p gs n R.2.1 B (m + 2 * nn + 2) ∧ FarX (fun b => b = g) W7 y ∧ Only (fun b => B ≤ b) W7 y) y) [Is (.pointer (some ⟨q, 0, none⟩)), Is (.pointer (some ⟨q, 0, none⟩)), Is (.pointer (some ⟨q, 0, none⟩)), Is (.agg #[.pointer (some ⟨p, 0, none⟩), .int .i64 f, .int .i64 nn]), Is (.slice (some ⟨g, 0, none⟩) nn cap), Is (.pointer (some ⟨q, 0, none⟩)), Is (.pointer (some ⟨q, 0, none⟩)), Is (.pointer (some ⟨q, 3, none⟩)), Is (.string (sB X)), Is (.int .i64 R.1), Is (.int .i64 R.1)] (by kernel_rfl)
          ⟨is_stab _ _, is_stab _ _, is_stab _ _, is_stab _ _, is_stab _ _, is_stab _ _, is_stab _ _, is_stab _ _, is_stab _ _, is_stab _ _, is_stab _ _, trivial⟩ (by rw [← HW7.out]; exact Stk.start H7.out) ⟨?_, ?_, ?_, ?_, ?_, ?_, ?_, ?_, ?_, ?_, ?_, trivial⟩ ?_
        · intro dn u w1 hi he hS hp K hK
          refine ord_plain rfl ?_
          simp at hp hK ⊢
          go_simp
          exact hK _ _ (by simpa [ldW] using hS) rfl
        · intro dn u w1 hi he hS hp K hK
          refine ord_plain rfl ?_
          simp at hp hK ⊢
          simp only [hp] at hK
          go_simp
          exact hK _ _ (by simpa [ldW] using hS) rfl
        · intro dn u w1 hi he hS hp K hK
          refine ord_plain rfl ?_
          simp at hp hK ⊢
          simp only [hp] at hK
          go_simp
          exact hK _ _ (by simpa [ldW] using hS) rfl
        · intro dn u w1 hi he hS hp K hK
          refine ord_plain rfl ?_
          simp at hp hK ⊢
          simp only [hp] at hK
          have hc0 : w1.cell? ⟨q, 0, none⟩ = some (.pointer (some ⟨p, 0, none⟩)) := hS.all.cell 0
          have hc1 : w1.cell? ⟨q, 1, none⟩ = some (.int .i64 f) := hS.all.cell 1
          have hc2 : w1.cell? ⟨q, 2, none⟩ = some (.int .i64 nn) := hS.all.cell 2
          go_simp
          exact hK _ _ (by simpa [ldW] using hS) rfl
        · intro dn u w1 hi he hS hp K hK
          refine ord_plain rfl ?_
          simp at hp hK ⊢
          go_simp
          exact hK _ _ (by simpa [ldW] using hS) rfl
        · intro dn u w1 hi he hS hp K hK
          refine ord_plain rfl ?_
          simp at hp hK ⊢
          go_simp
          exact hK _ _ (by simpa [ldW] using hS) rfl
        · intro dn u w1 hi he hS hp K hK
          refine ord_plain rfl ?_
          simp at hp hK ⊢
          simp only [hp] at hK
          go_simp
          exact hK _ _ (by simpa [ldW] using hS) rfl
        · intro dn u w1 hi he hS hp K hK
          refine ord_plain rfl ?_
          simp at hp hK ⊢
          simp only [hp] at hK
          go_simp
          exact hK _ _ (by simpa [ldW] using hS) rfl
        · intro dn u w1 hi he hS hp K hK
          refine ord_plain rfl ?_
          simp at hp hK ⊢
          simp only [hp] at hK
          have hc3 : w1.cell? ⟨q, 3, none⟩ = some (.string (sB X)) := hS.all.cell 3
          go_simp
          exact hK _ _ (by simpa [ldW] using hS) rfl
        · intro dn u w1 hi he hS hp K hK
          refine ord_plain rfl ?_
          simp at hp hK ⊢
          simp only [hp] at hK
          obtain rfl := hS.was hi
          go_simp
          refine HAN.out.mono ?_
          rintro e wa ⟨rfl, k1, k2, k3⟩
          exact hK _ _ (Stk.put (k2.blk _ _ _ hS.all nDT_Book HNg.out) ⟨k1, k2, k3⟩) rfl
        · intro dn u w1 hi he hS hp K hK
          refine ord_plain rfl ?_
          simp at hp hK ⊢
          simp only [hp] at hK
          go_simp
          exact hK _ _ (by simpa [ldW] using hS) rfl
        · intro u w1 dn hld hS hp
          simp at hp ⊢
          have hQ := hS.got (hld 9 (by decide))
          have H8 := Lib.hid hS.all
          obtain ⟨k1, k2, k3⟩ := hQ
          have h10 := hp.2.2.2.2.2.2.2.2.2.2
          simp only [h10]
          obtain ⟨w8, rfl⟩ : ∃ w8, w8 = w1 := ⟨_, rfl⟩
          have K1 := Lib.hid k1
          have K2 := Lib.hid k2
          have K3 := Lib.hid k3
          clear k1 k2 k3 h10 hp hS hld
          have HFA := Lib.hid ((FarX.far HFAR.out).trans K2.out)
          by_cases hr0 : R.1 = 0
          · go_wp2_with fail
            go_ret3
            refine ⟨K1.out, HFA.out.new (fun k hk => by rw [hk]; exact HGW.out), HON.out.trans K3.out, .inl ⟨hr0, q, _, rfl, HQW.out, H8.out, ?_⟩⟩
            have := K2.out.owns HRZ.out nDT_string HNR.out
            rw [HFE.out]
            refine owns_base ?_ HW5.out
            have hl : (fs.take k).length = k := by rw [List.length_take]; omega
            rw [hl]
            exact this
          · go_wp2_with fail
            go_ret3
            exact ⟨K1.out, HFA.out.new (fun k hk => by rw [hk]; exact HGW.out), HON.out.trans K3.out, .inr ⟨hr0, rfl⟩⟩
    · have hkk : k = fs.length := by omega
      have hnl : ¬ (k : Int) < (fs.length : Int) := by omega
      have HSTOP : Hid (∀ y, (framesOf (sB s))[k]? = some y → y.1 ≠ 1) := Lib.hid (fun y hy => by
        rw [← HFS.out, hkk, List.getElem?_eq_none (Nat.le_refl _)] at hy
        cases hy)
      obtain ⟨As, cs, hsv, _⟩ := own_form B1.out
      subst hsv
      have HZ := B2
      have HRC := B1
      clear B1 B2 hkk
      have hFe : Fs = fs.take k := by
        rw [HFs.out, HFS.out]
        unfold openF
        rw [← HT.out, ← HS.out]
        refine recsF_at _ k ?_ HSTOP.out
        rw [← HFS.out]
        exact HAL.out
      have hXe : X = s.take (gsum (fs.take k)) := by
        rw [HX.out]
        unfold openX
        rw [← HFs.out, hFe, ← HT.out, ← HS.out]
      have HFE := Lib.hid hFe
      have HXE := Lib.hid hXe
      clear hFe hXe
      have hgi : ((gsum (fs.take k) : Nat) : Int) ≤ (s.length : Int) := by omega
      have hsz : (sB s).size = s.length := sB_size s
      have hex : (sB s).extract 0 (gsum (fs.take k)) = sB X := by rw [sB_extract, HXE.out]; rfl
      have bq : Blk wr q 72 #[.pointer (some ⟨p, 0, none⟩), .int .i64 f, .int .i64 nn, .string ⟨#[]⟩, .bool false] := HZ.out.blk (O5.out.blk (O4.out.blk (O3.out.blk (O2.out.blk HB0.out (fun h => h)) (fun h => h)) (fun h => h)) (fun h => h)) (fun h => h)
      have e0 : wr.cell? ⟨q, 3, none⟩ = some (.string ⟨#[]⟩) := bq.cell 3
      have e1 : wr.frozen? ⟨q, 3, none⟩ = false := bq.frozen 3
      have BQ := Lib.hid bq
      clear bq
      go_wp2_with fail
      obtain ⟨W6, hW6⟩ : ∃ W6, W6 = wr.setCell ⟨q, 3, none⟩ (.string (sB X)) := ⟨_, rfl⟩
      rw [← hW6]
      have b6 : Blk W6 q 72 #[.pointer (some ⟨p, 0, none⟩), .int .i64 f, .int .i64 nn, .string (sB X), .bool false] := by rw [hW6]; exact BQ.out.set_ 3 _
      have o6 : Only (fun b => b = q) wr W6 := by rw [hW6]; exact (Only.refl (fun b => b = q) wr).setCell (p := ⟨q, 3, none⟩) (.inl rfl) _
      have owz : Only (fun _ => False) w wr := (((((HO1.out.trans O2.out).trans O3.out).trans O4.out).trans O5.out).trans HZ.out)
      have HQW : Hid (w.heap.size ≤ q) := Lib.hid (by rw [← HQ.out]; exact Nat.le_refl _)
      have HGW : Hid (w.heap.size ≤ g) := Lib.hid (by have := HO1.out.size; have := O2.out.size; omega)
      have HW5 : Hid (w.heap.size ≤ w5.heap.size) := Lib.hid (by have := HO1.out.size; have := O2.out.size; have := O3.out.size; have := O4.out.size; have := O5.out.size; omega)
      have HNg : Hid (¬ q = g) := Lib.hid (fun e => by have := (HO1.out.trans O2.out).size; have := HB0.out.lt; have h2 := O2.out.size; omega)
      have HNR : Hid (∀ b, (Value.slice As k cs).ownBlock = some b → ¬ b = g) := Lib.hid (fun b hb e => by have := (HRC.out.lt b hb).1; have h4 := O4.out.size; have h5 := O5.out.size; omega)
      have o7 : Only (fun b => b = q) wr W6.drew := o6.drew
      obtain ⟨W7, hW7⟩ : ∃ W7, W7 = W6.drew := ⟨_, rfl⟩
      rw [← hW7] at o7
      have b7 : Blk W7 q 72 #[.pointer (some ⟨p, 0, none⟩), .int .i64 f, .int .i64 nn, .string (sB X), .bool false] := by rw [hW7]; exact b6
      have H7 := Lib.hid b7
      have HW7 := Lib.hid hW7
      have HFAR : Hid (Far w W7) := Lib.hid (((FarX.none (X := fun b => b = q) owz).trans (FarX.of_only o7 (fun _ h => h))).new (fun k hk => by rw [hk]; exact HQW.out))
      have HON : Hid (Only (fun b => B ≤ b) w W7) := Lib.hid ((owz.mono fun _ h => h.elim).trans (o7.mono fun b h => by rw [h]; exact HBq.out))
      have HRZ : Hid (W7.ownsRow w5.heap.size 9 1 (.slice As k cs) k ((fs.take k).map fun x => .string x.2)) := Lib.hid (o7.owns HRC.out (fun b hb e => by have := (HRC.out.lt b hb).1; have h1 := HB0.out.lt; have h2 := O2.out.size; have h3 := O3.out.size; have h4 := O4.out.size; have h5 := O5.out.size; omega))
      have hD7 : DkS W7 p gs n S B m := ((((((HD.out.only O2.out).only O3.out).only O4.out).only O5.out).only HZ.out).away BQ.out o7 nDT_Book)
      have hr7 : W7.ownsRow w2.heap.size 9 1 (.slice (some ⟨g, 0, none⟩) nn cap) nn (strsV T) := o7.owns (HZ.out.owns (O5.out.owns (O4.out.owns H3.out (fun _ _ h => h)) (fun _ _ h => h)) (fun _ _ h => h)) (fun b hb e => HNg.out (by simp [Value.ownBlock] at hb; omega))
      have hTLn : T.length = nn := by rw [HT.out]; exact HTL.out
      have hXl : X.length ≤ 1000000000 := by rw [HXE.out, List.length_take]; omega
      have han := anew_any p gs n f nn S B m T X g cap w2.heap.size W7 hD7 (by rw [hTLn]; exact hr7) (by have := HO1.out.size; have := O2.out.size; have := HBq.out; have := HB0.out.lt; omega) (by omega) (by omega) (by omega) hXl (by rw [HT.out]; exact HTA.out)
      rw [hTLn, ← HR.out] at han
      unfold partV at han
      have HAN := Lib.hid han
      clear han hD7 hr7 hTLn hXl o7 b7 owz o6 b6 hW6 hW7 e0 e1
      refine wp_region_st (by kernel_rfl) (fun dn y => Stk (fun y => Blk y q 72 #[.pointer (some ⟨p, 0, none⟩), .int .i64 f, .int .i64 nn, .string (sB X), .bool false]) W7 (dn 9) (fun y => DkS y p gs n R.2.1 B (m + 2 * nn + 2) ∧ FarX (fun b => b = g) W7 y ∧ Only (fun b => B ≤ b) W7 y) y) [Is (.pointer (some ⟨q, 0, none⟩)), Is (.pointer (some ⟨q, 0, none⟩)), Is (.pointer (some ⟨q, 0, none⟩)), Is (.agg #[.pointer (some ⟨p, 0, none⟩), .int .i64 f, .int .i64 nn]), Is (.slice (some ⟨g, 0, none⟩) nn cap), Is (.pointer (some ⟨q, 0, none⟩)), Is (.pointer (some ⟨q, 0, none⟩)), Is (.pointer (some ⟨q, 3, none⟩)), Is (.string (sB X)), Is (.int .i64 R.1), Is (.int .i64 R.1)] (by kernel_rfl)
        ⟨is_stab _ _, is_stab _ _, is_stab _ _, is_stab _ _, is_stab _ _, is_stab _ _, is_stab _ _, is_stab _ _, is_stab _ _, is_stab _ _, is_stab _ _, trivial⟩ (by rw [← HW7.out]; exact Stk.start H7.out) ⟨?_, ?_, ?_, ?_, ?_, ?_, ?_, ?_, ?_, ?_, ?_, trivial⟩ ?_
      · intro dn u w1 hi he hS hp K hK
        refine ord_plain rfl ?_
        simp at hp hK ⊢
        go_simp
        exact hK _ _ (by simpa [ldW] using hS) rfl
      · intro dn u w1 hi he hS hp K hK
        refine ord_plain rfl ?_
        simp at hp hK ⊢
        simp only [hp] at hK
        go_simp
        exact hK _ _ (by simpa [ldW] using hS) rfl
      · intro dn u w1 hi he hS hp K hK
        refine ord_plain rfl ?_
        simp at hp hK ⊢
        simp only [hp] at hK
        go_simp
        exact hK _ _ (by simpa [ldW] using hS) rfl
      · intro dn u w1 hi he hS hp K hK
        refine ord_plain rfl ?_
        simp at hp hK ⊢
        simp only [hp] at hK
        have hc0 : w1.cell? ⟨q, 0, none⟩ = some (.pointer (some ⟨p, 0, none⟩)) := hS.all.cell 0
        have hc1 : w1.cell? ⟨q, 1, none⟩ = some (.int .i64 f) := hS.all.cell 1
        have hc2 : w1.cell? ⟨q, 2, none⟩ = some (.int .i64 nn) := hS.all.cell 2
        go_simp
        exact hK _ _ (by simpa [ldW] using hS) rfl
      · intro dn u w1 hi he hS hp K hK
        refine ord_plain rfl ?_
        simp at hp hK ⊢
        go_simp
        exact hK _ _ (by simpa [ldW] using hS) rfl
      · intro dn u w1 hi he hS hp K hK
        refine ord_plain rfl ?_
        simp at hp hK ⊢
        go_simp
        exact hK _ _ (by simpa [ldW] using hS) rfl
      · intro dn u w1 hi he hS hp K hK
        refine ord_plain rfl ?_
        simp at hp hK ⊢
        simp only [hp] at hK
        go_simp
        exact hK _ _ (by simpa [ldW] using hS) rfl
      · intro dn u w1 hi he hS hp K hK
        refine ord_plain rfl ?_
        simp at hp hK ⊢
        simp only [hp] at hK
        go_simp
        exact hK _ _ (by simpa [ldW] using hS) rfl
      · intro dn u w1 hi he hS hp K hK
        refine ord_plain rfl ?_
        simp at hp hK ⊢
        simp only [hp] at hK
        have hc3 : w1.cell? ⟨q, 3, none⟩ = some (.string (sB X)) := hS.all.cell 3
        go_simp
        exact hK _ _ (by simpa [ldW] using hS) rfl
      · intro dn u w1 hi he hS hp K hK
        refine ord_plain rfl ?_
        simp at hp hK ⊢
        simp only [hp] at hK
        obtain rfl := hS.was hi
        go_simp
        refine HAN.out.mono ?_
        rintro e wa ⟨rfl, k1, k2, k3⟩
        exact hK _ _ (Stk.put (k2.blk _ _ _ hS.all nDT_Book HNg.out) ⟨k1, k2, k3⟩) rfl
      · intro dn u w1 hi he hS hp K hK
        refine ord_plain rfl ?_
        simp at hp hK ⊢
        simp only [hp] at hK
        go_simp
        exact hK _ _ (by simpa [ldW] using hS) rfl
      · intro u w1 dn hld hS hp
        simp at hp ⊢
        have hQ := hS.got (hld 9 (by decide))
        have H8 := Lib.hid hS.all
        obtain ⟨k1, k2, k3⟩ := hQ
        have h10 := hp.2.2.2.2.2.2.2.2.2.2
        simp only [h10]
        obtain ⟨w8, rfl⟩ : ∃ w8, w8 = w1 := ⟨_, rfl⟩
        have K1 := Lib.hid k1
        have K2 := Lib.hid k2
        have K3 := Lib.hid k3
        clear k1 k2 k3 h10 hp hS hld
        have HFA := Lib.hid ((FarX.far HFAR.out).trans K2.out)
        by_cases hr0 : R.1 = 0
        · go_wp2_with fail
          go_ret3
          refine ⟨K1.out, HFA.out.new (fun k hk => by rw [hk]; exact HGW.out), HON.out.trans K3.out, .inl ⟨hr0, q, _, rfl, HQW.out, H8.out, ?_⟩⟩
          have := K2.out.owns HRZ.out nDT_string HNR.out
          rw [HFE.out]
          refine owns_base ?_ HW5.out
          have hl : (fs.take k).length = k := by rw [List.length_take]; omega
          rw [hl]
          exact this
        · go_wp2_with fail
          go_ret3
          exact ⟨K1.out, HFA.out.new (fun k hk => by rw [hk]; exact HGW.out), HON.out.trans K3.out, .inr ⟨hr0, rfl⟩⟩
end Go.Proofs.YthggliknnmhbdaaGreat
/- Books: how much room there is. No conditions beyond what it states. -/
namespace Go.Proofs.YthggliknnmhbdaaGreat
set_option maxRecDepth 100000
open Go.RowKit
set_option linter.unusedVariables false
attribute [local simp] frOf dstsOf frGo predsHold allHold Region.binds slotOf seen Is Act.put
set_option maxHeartbeats 1000000 in
set_option maxRecDepth 100000 in
theorem room_any (p f nn bb : Nat) (t : List UInt8) (br : Bool) (w : World) (h : BookB w bb p f nn (sB t) br) (hn : nn ≤ 4096) (ht : t.length ≤ 100000000) :
    Calls Tryz.prog 34 #[.pointer (some ⟨bb, 0, none⟩)] w fun e w' => e = .returned (.int .i64 ((nn : Int) * 127 - (t.length : Int))) ∧ Only (fun _ => False) w w' := by
  have HB0 := Lib.hid h
  have HB : ∀ W, Grows w.drew W → Hid (BookB W bb p f nn (sB t) br) := fun W hW => Lib.hid (Grows.blk (Grows.trans (Grows.drew w) hW) HB0.out)
  have hPs : ∀ W, Hid (Calls Tryz.prog 55 #[.agg #[.pointer (some ⟨p, 0, none⟩), .int .i64 f, .int .i64 nn]] W fun e w' => e = .returned (.int .i64 ((nn : Int) * 127)) ∧ Only (fun _ => False) W w') := fun W => Lib.hid (by
    have := psize_any p (f : Int) (nn : Int) W (by omega) (by omega)
    unfold partV at this
    exact this)
  have hsz : (sB t).size = t.length := sB_size t
  have hwr : IntKind.i64.wrap ((nn : Int) * 127 - (t.length : Int)) = (nn : Int) * 127 - (t.length : Int) := IntWalk.i64_in _ (by omega)
  clear h
  go_enter Tryz.func34, Tryz.ntmps34
  go_wp2_with fail
  refine (bnone_any bb p f nn (sB t) br w HB0.out).mono ?_
  rintro e w1 ⟨rfl, rfl⟩
  go_wp2_with fail
  refine wp_region_ord (by kernel_rfl) Grows [Is (.pointer (some ⟨bb, 0, none⟩)), Is (.pointer (some ⟨bb, 0, none⟩)), Is (.pointer (some ⟨bb, 0, none⟩)), Is (.agg #[.pointer (some ⟨p, 0, none⟩), .int .i64 f, .int .i64 nn]), Is (.int .i64 ((nn : Int) * 127)), Is (.pointer (some ⟨bb, 0, none⟩)), Is (.pointer (some ⟨bb, 0, none⟩)), Is (.pointer (some ⟨bb, 3, none⟩)), Is (.string (sB t)), Is (.int .i64 (t.length : Nat)), Is (.int .i64 ((nn : Int) * 127 - (t.length : Int))), Is (.int .i64 ((nn : Int) * 127 - (t.length : Int)))] (by kernel_rfl) Grows.refl Grows.trans
    ⟨is_stab _ _, is_stab _ _, is_stab _ _, is_stab _ _, is_stab _ _, is_stab _ _, is_stab _ _, is_stab _ _, is_stab _ _, is_stab _ _, is_stab _ _, is_stab _ _, trivial⟩ ⟨?_, ?_, ?_, ?_, ?_, ?_, ?_, ?_, ?_, ?_, ?_, ?_, trivial⟩ ?_
  · intro u w1 hR hp K hK
    refine ord_plain rfl ?_
    simp at hp hK ⊢
    go_simp
    exact hK _ _ (Grows.refl _) rfl
  · intro u w1 hR hp K hK
    refine ord_plain rfl ?_
    simp at hp hK ⊢
    simp only [hp] at hK
    go_simp
    exact hK _ _ (Grows.refl _) rfl
  · intro u w1 hR hp K hK
    refine ord_plain rfl ?_
    simp at hp hK ⊢
    simp only [hp] at hK
    go_simp
    exact hK _ _ (Grows.refl _) rfl
  · intro u w1 hR hp K hK
    refine ord_plain rfl ?_
    simp at hp hK ⊢
    simp only [hp] at hK
    have hc0 : w1.cell? ⟨bb, 0, none⟩ = some (.pointer (some ⟨p, 0, none⟩)) := (HB w1 hR).out.cell 0
    have hc1 : w1.cell? ⟨bb, 1, none⟩ = some (.int .i64 f) := (HB w1 hR).out.cell 1
    have hc2 : w1.cell? ⟨bb, 2, none⟩ = some (.int .i64 nn) := (HB w1 hR).out.cell 2
    go_simp
    exact hK _ _ (Grows.refl _) rfl
  · intro u w1 hR hp K hK
    refine ord_plain rfl ?_
    simp at hp hK ⊢
    simp only [hp] at hK
    go_simp
    refine (hPs _).out.mono ?_
    rintro e w2 ⟨rfl, ob⟩
    exact hK _ _ (ob.below (fun _ h => h.elim) (Nat.le_refl _)) rfl
  · intro u w1 hR hp K hK
    refine ord_plain rfl ?_
    simp at hp hK ⊢
    go_simp
    exact hK _ _ (Grows.refl _) rfl
  · intro u w1 hR hp K hK
    refine ord_plain rfl ?_
    simp at hp hK ⊢
    simp only [hp] at hK
    go_simp
    exact hK _ _ (Grows.refl _) rfl
  · intro u w1 hR hp K hK
    refine ord_plain rfl ?_
    simp at hp hK ⊢
    simp only [hp] at hK
    go_simp
    exact hK _ _ (Grows.refl _) rfl
  · intro u w1 hR hp K hK
    refine ord_plain rfl ?_
    simp at hp hK ⊢
    simp only [hp] at hK
    have hc3 : w1.cell? ⟨bb, 3, none⟩ = some (.string (sB t)) := (HB w1 hR).out.cell 3
    go_simp
    exact hK _ _ (Grows.refl _) rfl
  · intro u w1 hR hp K hK
    refine ord_plain rfl ?_
    simp at hp hK ⊢
    simp only [hp] at hK
    go_simp
    exact hK _ _ (Grows.refl _) rfl
  · intro u w1 hR hp K hK
    refine ord_plain rfl ?_
    simp at hp hK ⊢
    simp only [hp] at hK
    go_simp
    exact hK _ _ (Grows.refl _) rfl
  · intro u w1 hR hp K hK
    refine ord_plain rfl ?_
    simp at hp hK ⊢
    simp only [hp] at hK
    go_simp
    exact hK _ _ (Grows.refl _) rfl
  · intro u w1 hR hp
    simp at hp ⊢
    have h11 := hp.2.2.2.2.2.2.2.2.2.2.2
    simp only [h11]
    clear hp h11 hPs HB
    have HBl := Lib.hid (Below.trans (Below.drew (Below.refl w.heap.size w)) hR)
    clear hR
    go_wp2_with fail
    go_ret
    exact ⟨rfl, Only.below_ HBl.out⟩
end Go.Proofs.YthggliknnmhbdaaGreat
/- Books: plain: what an Append leaves. No program's walk. -/
namespace Go.Proofs.YthggliknnmhbdaaGreat
set_option maxRecDepth 100000
open Go.RowKit
set_option linter.unusedVariables false
/-- a record's frame, as bytes -/
def frB (x : ByteArray) : List UInt8 := (fraw 1 x).data.toList
def frsB (xs : List ByteArray) : List UInt8 := xs.flatMap frB
def fsz (xs : List ByteArray) : Nat := (xs.map fun x => fsize x.size).sum
theorem enc_size (x : Nat) (h : x ≤ 131072) : (Var.enc 9 x).length = Var.size x := by
  unfold Var.size
  by_cases a1 : x < 128
  · rw [if_pos a1, Var.enc_small _ _ a1]; rfl
  · rw [if_neg a1, Var.enc_big _ _ (by omega)]
    by_cases a2 : x < 16384
    · rw [if_pos a2, Var.enc_small _ _ (by omega)]; rfl
    · rw [if_neg a2, Var.enc_big _ _ (by omega), Var.enc_small _ _ (by omega)]; rfl
theorem frB_len (x : ByteArray) (h : x.size ≤ 131072) : (frB x).length = fsize x.size := by
  have h1 : (frB x).length = (fraw 1 x).size := by simp [frB]
  rw [h1]
  unfold fraw fsize
  have h2 : (⟨(sumBytes (Crc.on 0 (bs (fhead 1 x)))).toArray⟩ : ByteArray).size = 4 := by simp [ByteArray.size, sumBytes]
  rw [ByteArray.size_append, h2, fhead_size, lstr_size, enc_size _ h]
  omega
theorem frsB_len (xs : List ByteArray) (h : ∀ x ∈ xs, x.size ≤ 131072) : (frsB xs).length = fsz xs := by
  induction xs with
  | nil => rfl
  | cons a l ih =>
    have := ih (fun x hx => h x (by simp [hx]))
    simp only [frsB, fsz, List.flatMap_cons, List.length_append, List.map_cons, List.sum_cons] at this ⊢
    rw [this, frB_len a (h a (by simp))]
theorem frsB_snoc (xs : List ByteArray) (x : ByteArray) : frsB (xs ++ [x]) = frsB xs ++ frB x := by simp [frsB]
theorem fsz_snoc (xs : List ByteArray) (x : ByteArray) : fsz (xs ++ [x]) = fsz xs + fsize x.size := by simp [fsz]
theorem fsz_take (xs : List ByteArray) (k : Nat) : fsz (xs.take k) ≤ fsz xs := by
  have h := congrArg fsz (List.take_append_drop k xs)
  have e : fsz (xs.take k ++ xs.drop k) = fsz (xs.take k) + fsz (xs.drop k) := by simp only [fsz, List.map_append, List.sum_append]
  omega
theorem sB_fr (t : List UInt8) (x : ByteArray) : sB t ++ fraw 1 x = sB (t ++ frB x) := by
  conv => lhs; rw [← sB_self (fraw 1 x)]
  rw [sB_append]; rfl
/-- the sectors that a longer text turns are written, from the k-th on -/
def appW (n f : Nat) (t : List UInt8) : Nat → Nat → Dst → Int × Dst
  | 0, _, S => (0, S)
  | j + 1, k, S => if k * 127 < t.length then
      (if (wrS n S ((f : Int) + (k : Int)) (madeL t k)).1 = 0 then appW n f t j (k + 1) (wrS n S ((f : Int) + (k : Int)) (madeL t k)).2 else wrS n S ((f : Int) + (k : Int)) (madeL t k)) else (0, S)
/-- an Append: its answer; the disk; the text; is the book broken? -/
def appS (n f nn : Nat) (S : Dst) (t : List UInt8) (br : Bool) (xs : List ByteArray) : Int × Dst × List UInt8 × Bool :=
  if br then (3, S, t, br) else
  if xs.all (fun x => x.size ≤ 131072) then
    (if nn * 127 < t.length + fsz xs then (6, S, t, br) else
      if xs = [] then (0, S, t, br) else
      ((appW n f (t ++ frsB xs) (nn + 1) (t.length / 127) S).1, (appW n f (t ++ frsB xs) (nn + 1) (t.length / 127) S).2, t ++ frsB xs, (appW n f (t ++ frsB xs) (nn + 1) (t.length / 127) S).1 != 0))
  else (4, S, t, br)
end Go.Proofs.YthggliknnmhbdaaGreat
/- Books: the walk of Append. No conditions beyond what it states. -/
namespace Go.Proofs.YthggliknnmhbdaaGreat
set_option maxRecDepth 100000
open Go.RowKit
set_option linter.unusedVariables false
attribute [local simp] frOf dstsOf frGo predsHold allHold Region.binds slotOf seen Is Act.put
/-- A region in which one operation makes memory, and a later one turns the world: what stands all the while, ahead of the later one, behind it. -/
structure Stg (K P Q : World → Prop) (b1 b2 : Bool) (y : World) : Prop where
  all : K y
  ord : b2 = true → b1 = true
  is_ : if b2 = true then Q y else P y
theorem Stg.was {K P Q : World → Prop} {y : World} {b1 b2 : Bool} (h : Stg K P Q b1 b2 y) (hb : b2 = false) : P y := by have := h.is_; simpa [hb] using this
theorem Stg.got {K P Q : World → Prop} {y : World} {b1 b2 : Bool} (h : Stg K P Q b1 b2 y) (hb : b2 = true) : Q y := by have := h.is_; simpa [hb] using this
theorem Stg.put {K P Q : World → Prop} {y : World} {b1 : Bool} (h1 : b1 = true) (h : K y) (hq : Q y) : Stg K P Q b1 true y := ⟨h, fun _ => h1, by simpa using hq⟩
theorem Stg.start {K P Q : World → Prop} {W : World} (h : K W) (hp : P W) : Stg K P Q false false W := ⟨h, by simp, by simpa using hp⟩
theorem Stg.grow {K P Q : World → Prop} {y y' : World} {b1 b2 : Bool} (h : Stg K P Q b1 b2 y) (hb : b1 = false) (hk : K y') (hp : P y → P y') : Stg K P Q true b2 y' := by
  have h2 : b2 = false := by
    cases hb2 : b2 with
    | false => rfl
    | true => have := h.ord hb2; rw [hb] at this; cases this
  subst h2
  exact ⟨hk, by simp, by have := h.is_; simpa using hp (by simpa using this)⟩
theorem fsz_le (l : List ByteArray) (h : ∀ x ∈ l, x.size ≤ 131072) : fsz l ≤ 131081 * l.length := by
  induction l with
  | nil => simp [fsz]
  | cons a l ih =>
    have h1 := ih (fun x hx => h x (by simp [hx]))
    have h2 := fsize_le a.size (h a (by simp))
    simp only [fsz, List.map_cons, List.sum_cons, List.length_cons] at h1 ⊢
    omega
theorem fsz_pos (l : List ByteArray) (h : l ≠ []) : 0 < fsz l := by
  cases l with
  | nil => exact absurd rfl h
  | cons a l =>
    simp only [fsz, List.map_cons, List.sum_cons]
    unfold fsize
    omega
set_option maxHeartbeats 4000000 in
set_option maxRecDepth 100000 in
theorem append_any (p gs n f nn bb : Nat) (S : Dst) (B m : Nat) (t : List UInt8) (br : Bool) (xs : List ByteArray) (A : Option Addr) (c : Nat) (w : World)
    (D : DkS w p gs n S B m) (hb : BookB w bb p f nn (sB t) br) (hBb : B ≤ bb) (hx : ∀ W, FarX (fun b => b = bb) w W → Only (fun b => B ≤ b) w W → TextRow W A xs) (hn : f + nn ≤ n) (ht : t.length ≤ nn * 127) (hm : m + 6000 ≤ 1000000) (hxl : xs.length ≤ 1000000) (hxs : ∀ x ∈ xs, x.size ≤ 9223372036854775807) :
    Calls Tryz.prog 29 #[.pointer (some ⟨bb, 0, none⟩), .slice A xs.length c] w fun e w' =>
      e = .returned (.int .i64 (appS n f nn S t br xs).1) ∧ DkS w' p gs n (appS n f nn S t br xs).2.1 B (m + nn + 2) ∧ BookB w' bb p f nn (sB (appS n f nn S t br xs).2.2.1) (appS n f nn S t br xs).2.2.2 ∧
      FarX (fun b => b = bb) w w' ∧ Only (fun b => B ≤ b) w w' := by
  have hn4 : n ≤ 4096 := D.1.2.1
  have HD := Lib.hid D
  have HBk := Lib.hid hb
  have HBb := Lib.hid hBb
  have HXR := Lib.hid hx
  obtain ⟨R, hR⟩ : ∃ R, R = appS n f nn S t br xs := ⟨_, rfl⟩
  rw [← hR]
  have HR := Lib.hid hR
  have c4 : w.cell? ⟨bb, 4, none⟩ = some (.bool br) := hb.cell 4
  clear D hb hBb hx hR
  cases br with
  | true =>
    have hRe : Hid (R = (3, S, t, true)) := Lib.hid (by rw [HR.out]; rfl)
    go_enter Tryz.func29, Tryz.ntmps29
    go_wp2_with fail
    refine (bnone_any bb p f nn (sB t) true w HBk.out).mono ?_
    rintro e w1 ⟨rfl, rfl⟩
    go_wp2_with fail
    go_ret
    rw [hRe.out]
    exact ⟨rfl, HD.out.more (by omega) (by omega), HBk.out, FarX.refl _ _, Only.refl _ _⟩
  | false =>
    go_enter Tryz.func29, Tryz.ntmps29
    go_wp2_with fail
    refine (bnone_any bb p f nn (sB t) false w HBk.out).mono ?_
    rintro e w1 ⟨rfl, rfl⟩
    go_wp2_with fail
    clear c4
    go_loop [5, 25] (fun nv i => ∃ k : Nat, k ≤ xs.length ∧ i = .int .i64 (k : Int) ∧ nv = .int .i64 ((fsz (xs.take k) : Nat) : Int) ∧ (∀ x ∈ xs.take k, x.size ≤ 131072)) (fun _ i => xs.length - (intOf i).toNat)
    case atStart => exact ⟨0, by omega, rfl, rfl, by simp⟩
    case round =>
      obtain ⟨k, hk, rfl, rfl, hall⟩ := hrel
      by_cases hlt : k < xs.length
      · obtain ⟨g, off, hA, hg, hck⟩ := (HXR.out w (FarX.refl _ _) (Only.refl _ _)).at_ k hlt
        subst hA
        have hmem := List.getElem_mem hlt
        have hsn : xs.take (k + 1) = xs.take k ++ [xs[k]] := by rw [List.take_add_one, List.getElem?_eq_getElem hlt]; rfl
        have hxk := hxs _ hmem
        have hfl := fsz_le (xs.take k) hall
        rw [List.length_take] at hfl
        generalize xs[k] = x at *
        have hlti : (k : Int) < (xs.length : Int) := by omega
        have HSN := Lib.hid hsn
        have HAL := Lib.hid hall
        have HMEM := Lib.hid hmem
        clear hsn hall hmem
        by_cases hlong : x.size ≤ 131072
        · have hli : ¬ (131072 : Int) < (x.size : Int) := by omega
          have hfx := fsize_le x.size hlong
          have hfs1 : fsz (xs.take (k + 1)) = fsz (xs.take k) + fsize x.size := by rw [HSN.out, fsz_snoc]
          have HF1 := Lib.hid hfs1
          clear hfs1
          go_wp2_with fail
          refine (fsize_any (x.size : Int) w (by omega) (by omega)).mono ?_
          rintro e w1 ⟨rfl, rfl⟩
          rw [if_neg (by omega), Int.toNat_natCast]
          have hwr : IntKind.i64.wrap ((fsz (xs.take k) : Int) + (fsize x.size : Int)) = ((fsz (xs.take (k + 1)) : Nat) : Int) := by rw [HF1.out, IntWalk.i64_in _ (by omega)]; omega
          go_wp2_with fail
          go_round
          case rel =>
            refine ⟨k + 1, by omega, by go_num, by rw [HF1.out], fun y hy => ?_⟩
            rw [HSN.out] at hy
            rcases List.mem_append.1 hy with h | h
            · exact HAL.out y h
            · rw [List.mem_singleton.1 h]; exact hlong
          case measure => simp [intOf] <;> omega
        · have hli : (131072 : Int) < (x.size : Int) := by omega
          have hRe : Hid (R = (4, S, t, false)) := Lib.hid (by
            rw [HR.out]
            unfold appS
            rw [if_neg (by simp), if_neg (fun h => hlong (by have := List.all_eq_true.1 h _ HMEM.out; simpa using this))])
          go_wp2_with fail
          go_ret
          rw [hRe.out]
          exact ⟨rfl, HD.out.more (by omega) (by omega), HBk.out, FarX.refl _ _, Only.refl _ _⟩
      · obtain rfl : k = xs.length := by omega
        rw [List.take_length] at hall ⊢
        have hfl := fsz_le xs hall
        have hfb := frsB_len xs hall
        have HAL := Lib.hid hall
        have HFB := Lib.hid hfb
        clear hall hfb
        go_wp2_with fail
        refine (room_any p f nn bb t false w HBk.out (by omega) (by omega)).mono ?_
        rintro e w2 ⟨rfl, o2⟩
        have O2 := Lib.hid o2
        clear o2
        by_cases hroom : nn * 127 < t.length + fsz xs
        · have hri : (nn : Int) * 127 - (t.length : Int) < (fsz xs : Int) := by omega
          have hRe : Hid (R = (6, S, t, false)) := Lib.hid (by
            rw [HR.out]
            unfold appS
            rw [if_neg (by simp), if_pos (List.all_eq_true.2 fun x hx => by simpa using HAL.out x hx), if_pos hroom])
          go_wp2_with fail
          go_ret
          rw [hRe.out]
          exact ⟨rfl, (HD.out.only O2.out).more (by omega) (by omega), O2.out.blk HBk.out (fun h => h), FarX.none O2.out, O2.out.mono fun _ h => h.elim⟩
        · have hri : ¬ (nn : Int) * 127 - (t.length : Int) < (fsz xs : Int) := by omega
          have hb2 : BookB w2 bb p f nn (sB t) false := O2.out.blk HBk.out (fun h => h)
          have c3 : w2.cell? ⟨bb, 3, none⟩ = some (.string (sB t)) := hb2.cell 3
          have hsz : (sB t).size = t.length := sB_size t
          have HB2 := Lib.hid hb2
          obtain ⟨kf, hkf⟩ : ∃ kf, kf = t.length / 127 := ⟨_, rfl⟩
          have hkf1 : kf * 127 ≤ t.length := by omega
          have hq : IntKind.i64.wrap ((t.length : Int).tdiv 127) = ((kf : Nat) : Int) := by
            have : (t.length : Int).tdiv 127 = ((kf : Nat) : Int) := by rw [hkf]; rfl
            rw [this]
            exact IntWalk.i64_in _ (by omega)
          have HKF := Lib.hid hkf
          clear hb2 hkf
          go_wp2_with fail
          go_loopw [50] (fun i wr => ∃ k : Nat, k ≤ xs.length ∧ i = .int .i64 (k : Int) ∧ BookB wr bb p f nn (sB (t ++ frsB (xs.take k))) false ∧ DkS wr p gs n S B m ∧ FarX (fun b => b = bb) w wr ∧ Only (fun b => B ≤ b) w wr) (fun i _ => xs.length - (intOf i).toNat)
          case atStart =>
            refine ⟨0, by omega, rfl, ?_, HD.out.only O2.out, FarX.none O2.out, O2.out.mono fun _ h => h.elim⟩
            simpa [frsB] using HB2.out
          case round =>
            obtain ⟨k, hk, rfl, b1, b2, b3, b4⟩ := hrel
            have I1 := Lib.hid b1
            have I2 := Lib.hid b2
            have I3 := Lib.hid b3
            have I4 := Lib.hid b4
            clear b1 b2 b3 b4 c3
            by_cases hlt : k < xs.length
            · obtain ⟨g, off, hA, hg, hck⟩ := (HXR.out wr I3.out I4.out).at_ k hlt
              subst hA
              have hsn : xs.take (k + 1) = xs.take k ++ [xs[k]] := by rw [List.take_add_one, List.getElem?_eq_getElem hlt]; rfl
              have hxk := HAL.out _ (List.getElem_mem hlt)
              have hft := fsz_take xs k
              have hfl2 := frsB_len (xs.take k) (fun x hx => HAL.out x (List.mem_of_mem_take hx))
              generalize xs[k] = x at *
              have hlti : (k : Int) < (xs.length : Int) := by omega
              have HSN := Lib.hid hsn
              have hfx := fsize_le x.size hxk
              have hfb := frB_len x hxk
              clear hsn
              go_wp2_with fail
              have hrow : TextRow (wr.alloc (.cells #[.string x] 9)) (some ⟨wr.heap.size, 0, none⟩) [x] := ⟨fun j hj => ⟨wr.heap.size, 0, rfl, by simp, by
                obtain rfl : j = 0 := by simpa using hj
                exact (Blk.new wr 9 #[.string x]).cell 0⟩⟩
              have hfw := fwrite_any 1 [x] (some ⟨wr.heap.size, 0, none⟩) 1 (wr.alloc (.cells #[.string x] 9)) (by omega) hrow (by simp) (by omega) (by unfold sum; rw [cat_one]; omega)
              have hsum : sum [x] = x.size := by unfold sum; rw [cat_one]
              rw [hsum, if_neg (by omega), if_neg (by omega), cat_one] at hfw
              refine hfw.mono ?_
              rintro e w3 ⟨rfl, o3⟩
              have hO3 : Only (fun _ => False) wr w3 := ((Only.refl _ wr).alloc _).trans (Only.below_ o3)
              have O3 := Lib.hid hO3
              have b3 : BookB w3 bb p f nn (sB (t ++ frsB (xs.take k))) false := hO3.blk I1.out (fun h => h)
              have c3 : w3.cell? ⟨bb, 3, none⟩ = some (.string (sB (t ++ frsB (xs.take k)))) := b3.cell 3
              have f3 : w3.frozen? ⟨bb, 3, none⟩ = false := b3.frozen 3
              have B3 := Lib.hid b3
              have hs1 : (sB (t ++ frsB (xs.take k))).size ≤ 100000000 := by rw [sB_size, List.length_append, hfl2]; omega
              have hs2 : (fraw 1 x).size ≤ 200000 := by
                have : (fraw 1 x).size = (frB x).length := by simp [frB]
                omega
              have hcat : sB (t ++ frsB (xs.take k)) ++ fraw 1 x = sB (t ++ frsB (xs.take (k + 1))) := by
                rw [sB_fr, List.append_assoc, HSN.out, frsB_snoc]
              clear hfw hrow hsum o3 hO3 b3 hck
              go_wp2_with fail
              go_roundw
              case rel =>
                have oset : Only (fun b => b = bb) w3 (w3.setCell ⟨bb, 3, none⟩ (.string (sB (t ++ frsB (xs.take (k + 1)))))) := (Only.refl (fun b => b = bb) w3).setCell (p := ⟨bb, 3, none⟩) (.inl rfl) _
                refine ⟨k + 1, by omega, by go_num, B3.out.set_ 3 _, (I2.out.only O3.out).away B3.out oset nDT_Book, (I3.out.trans (FarX.none O3.out)).trans (FarX.of_only oset (fun _ h => h)), (I4.out.trans (O3.out.mono fun _ h => h.elim)).trans (oset.mono fun b h => by rw [h]; exact HBb.out)⟩
              case measure => simp [intOf]; omega
            · obtain rfl : k = xs.length := by omega
              rw [List.take_length] at I1
              go_wp2_with fail
              obtain ⟨t2, ht2⟩ : ∃ t2, t2 = t ++ frsB xs := ⟨_, rfl⟩
              rw [← ht2] at I1
              have hl2 : t2.length = t.length + fsz xs := by rw [ht2, List.length_append, HFB.out]
              obtain ⟨Y, hY⟩ : ∃ Y, Y = (if xs = [] then ((0 : Int), S) else appW n f t2 (nn + 1) kf S) := ⟨_, rfl⟩
              have hRY : R = (Y.1, Y.2, t2, Y.1 != 0) := by
                rw [HR.out]
                unfold appS
                rw [if_neg (by simp), if_pos (List.all_eq_true.2 fun x hx => by simpa using HAL.out x hx), if_neg hroom, hY, ht2]
                by_cases hxe : xs = []
                · subst hxe; simp [frsB]
                · rw [if_neg hxe, if_neg hxe, HKF.out]
              have HRY := Lib.hid hRY
              clear hRY ht2
              by_cases hxe : xs = []
              · have hf0 : fsz xs = 0 := by rw [hxe]; rfl
                have hYe : Hid (Y = (0, S)) := Lib.hid (by rw [hY, if_pos hxe])
                have hpos : ¬ (0 : Int) < (fsz xs : Int) := by omega
                clear hxe hY
                go_loopw [13] (fun i wz => BookB wz bb p f nn (sB t2) false ∧ DkS wz p gs n S B m ∧ FarX (fun b => b = bb) w wz ∧ Only (fun b => B ≤ b) w wz) (fun i _ => 0)
                case atStart => exact ⟨I1.out, I2.out, I3.out, I4.out⟩
                case round =>
                  obtain ⟨b1, b2, b3, b4⟩ := hrel
                  have J1 := Lib.hid b1
                  have J2 := Lib.hid b2
                  have J3 := Lib.hid b3
                  have J4 := Lib.hid b4
                  clear b1 b2 b3 b4
                  go_wp2_with fail
                  go_ret
                  rw [HRY.out, hYe.out]
                  exact ⟨rfl, J2.out.more (by omega) (by omega), J1.out, J3.out, J4.out⟩
              · have hpos : (0 : Int) < (fsz xs : Int) := by have := fsz_pos xs hxe; omega
                rw [if_neg hxe] at hY
                have HYY := Lib.hid hY
                clear hxe hY
                go_loopw [13] (fun i wz => ∃ (k : Nat) (S2 : Dst), kf ≤ k ∧ k ≤ nn ∧ i = .int .i64 (k : Int) ∧ appW n f t2 (nn + 1 + kf - k) k S2 = Y ∧ BookB wz bb p f nn (sB t2) false ∧ DkS wz p gs n S2 B (m + (k - kf)) ∧ FarX (fun b => b = bb) w wz ∧ Only (fun b => B ≤ b) w wz) (fun i _ => nn + 1 - (intOf i).toNat)
                case atStart => exact ⟨kf, S, by omega, by omega, congrArg (Value.int .i64) (by have := HKF.out; omega), by rw [HYY.out]; congr 1; omega, I1.out, I2.out.more (by omega) (by omega), I3.out, I4.out⟩
                case round =>
                  obtain ⟨k, S2, hk1, hk2, rfl, hap, b1, b2, b3, b4⟩ := hrel
                  have J1 := Lib.hid b1
                  have J2 := Lib.hid b2
                  have J3 := Lib.hid b3
                  have J4 := Lib.hid b4
                  have HAP := Lib.hid hap
                  clear b1 b2 b3 b4 hap
                  obtain ⟨w7, rfl⟩ : ∃ w7, w7 = wr := ⟨_, rfl⟩
                  have c3 : w7.cell? ⟨bb, 3, none⟩ = some (.string (sB t2)) := J1.out.cell 3
                  have hsz2 : (sB t2).size = t2.length := sB_size t2
                  have hmw : IntKind.i64.wrap ((k : Int) * 127) = (k : Int) * 127 := IntWalk.i64_in _ (by omega)
                  by_cases hkl : k * 127 < t2.length
                  · have hkli : (k : Int) * 127 < (t2.length : Int) := by omega
                    have hknn : k < nn := by omega
                    have hdd : decide ((k : Int) * 127 < (t.length : Int) + (fsz xs : Int)) = true := decide_eq_true (by omega)
                    go_wp2_with fail
                    clear hdd
                    obtain ⟨y0, hy0⟩ : ∃ y0, y0 = wrS n S2 ((f : Int) + (k : Int)) (madeL t2 k) := ⟨_, rfl⟩
                    have HY0 := Lib.hid hy0
                    obtain ⟨W7, hW7⟩ : ∃ W7, W7 = w7.drew := ⟨_, rfl⟩
                    have hN7 : Only (fun _ => False) w7 W7 := by rw [hW7]; exact (Only.refl _ w7).drew
                    have H7 : Hid (BookB W7 bb p f nn (sB t2) false) := Lib.hid (hN7.blk J1.out (fun h => h))
                    have HN7 := Lib.hid hN7
                    have HW7 := Lib.hid hW7
                    have hMd : ∀ W, Hid (Calls Tryz.prog 52 #[.string (sB t2), .int .i64 (k : Int)] W fun e w' => e = .returned (.string (sB (madeL t2 k))) ∧ Only (fun _ => False) W w') := fun W => Lib.hid ((made_any t2 k W (by omega) (by omega)).mono (by rintro e w' ⟨he, hb⟩; exact ⟨he, Only.below_ hb⟩))
                    have HWR : Hid (∀ W, Only (fun _ => False) W7 W → Calls Tryz.prog 51 #[.pointer (some ⟨p, 0, none⟩), .int .i64 ((f : Int) + (k : Int)), .string (sB (madeL t2 k))] W fun e w' => e = .returned (.int .i64 y0.1) ∧ DkS w' p gs n y0.2 B (m + (k - kf) + 1) ∧ Far W w' ∧ Only (fun b => B ≤ b) W w') := Lib.hid (fun W hW => by
                      have h := dk_write p gs n S2 B (m + (k - kf)) ((f : Int) + (k : Int)) (sB (madeL t2 k)) W ((J2.out.only hN7).only hW) (by omega) (by rw [sB_size, madeL_len]; omega)
                      rw [sB_list, ← hy0] at h
                      exact h.mono (by rintro e w' ⟨h1, h2, h3, h4⟩; exact ⟨h1, h2, h4, h3⟩))
                    have hadd : IntKind.i64.wrap ((f : Int) + (k : Int)) = (f : Int) + (k : Int) := IntWalk.i64_in _ (by omega)
                    have HKL := Lib.hid hkl
                    have HKN := Lib.hid hknn
                    have HPOS := Lib.hid hpos
                    have HRM := Lib.hid hroom
                    clear hW7 hN7 hy0 c3 hmw hkl hkli hknn hpos hroom hri hl2
                    refine wp_region_st (by kernel_rfl) (fun dn y => Stg (fun y => BookB y bb p f nn (sB t2) false) (fun y => Only (fun _ => False) W7 y) (fun y => DkS y p gs n y0.2 B (m + (k - kf) + 1) ∧ FarX (fun b => b = bb) W7 y ∧ Only (fun b => B ≤ b) W7 y) (dn 17) (dn 18) y) [Is (.pointer (some ⟨bb, 0, none⟩)), Is (.pointer (some ⟨bb, 0, none⟩)), Is (.pointer (some ⟨bb, 0, none⟩)), Is (.pointer (some ⟨bb, 0, none⟩)), Is (.pointer (some ⟨p, 0, none⟩)), Is (.pointer (some ⟨bb, 0, none⟩)), Is (.pointer (some ⟨bb, 0, none⟩)), Is (.pointer (some ⟨bb, 0, none⟩)), Is (.pointer (some ⟨bb, 1, none⟩)), Is (.int .i64 f), Is (.int .i64 (k : Int)), Is (.int .i64 ((f : Int) + (k : Int))), Is (.pointer (some ⟨bb, 0, none⟩)), Is (.pointer (some ⟨bb, 0, none⟩)), Is (.pointer (some ⟨bb, 3, none⟩)), Is (.string (sB t2)), Is (.int .i64 (k : Int)), Is (.string (sB (madeL t2 k))), Is (.int .i64 y0.1), Is (.int .i64 y0.1)] (by kernel_rfl)
                      ⟨is_stab _ _, is_stab _ _, is_stab _ _, is_stab _ _, is_stab _ _, is_stab _ _, is_stab _ _, is_stab _ _, is_stab _ _, is_stab _ _, is_stab _ _, is_stab _ _, is_stab _ _, is_stab _ _, is_stab _ _, is_stab _ _, is_stab _ _, is_stab _ _, is_stab _ _, is_stab _ _, trivial⟩ (by rw [← HW7.out]; exact Stg.start H7.out (Only.refl _ _)) ⟨?_, ?_, ?_, ?_, ?_, ?_, ?_, ?_, ?_, ?_, ?_, ?_, ?_, ?_, ?_, ?_, ?_, ?_, ?_, ?_, trivial⟩ ?_
                    · intro dn u w1 hi he hS hp K hK
                      refine ord_plain rfl ?_
                      simp at hp hK ⊢
                      go_simp
                      exact hK _ _ (by simpa [ldW] using hS) rfl
                    · intro dn u w1 hi he hS hp K hK
                      refine ord_plain rfl ?_
                      simp at hp hK ⊢
                      simp only [hp] at hK
                      go_simp
                      exact hK _ _ (by simpa [ldW] using hS) rfl
                    · intro dn u w1 hi he hS hp K hK
                      refine ord_plain rfl ?_
                      simp at hp hK ⊢
                      simp only [hp] at hK
                      go_simp
                      exact hK _ _ (by simpa [ldW] using hS) rfl
                    · intro dn u w1 hi he hS hp K hK
                      refine ord_plain rfl ?_
                      simp at hp hK ⊢
                      simp only [hp] at hK
                      go_simp
                      exact hK _ _ (by simpa [ldW] using hS) rfl
                    · intro dn u w1 hi he hS hp K hK
                      refine ord_plain rfl ?_
                      simp at hp hK ⊢
                      simp only [hp] at hK
                      have hc0 : w1.cell? ⟨bb, 0, none⟩ = some (.pointer (some ⟨p, 0, none⟩)) := hS.all.cell 0
                      go_simp
                      exact hK _ _ (by simpa [ldW] using hS) rfl
                    · intro dn u w1 hi he hS hp K hK
                      refine ord_plain rfl ?_
                      simp at hp hK ⊢
                      go_simp
                      exact hK _ _ (by simpa [ldW] using hS) rfl
                    · intro dn u w1 hi he hS hp K hK
                      refine ord_plain rfl ?_
                      simp at hp hK ⊢
                      simp only [hp] at hK
                      go_simp
                      exact hK _ _ (by simpa [ldW] using hS) rfl
                    · intro dn u w1 hi he hS hp K hK
                      refine ord_plain rfl ?_
                      simp at hp hK ⊢
                      simp only [hp] at hK
                      go_simp
                      exact hK _ _ (by simpa [ldW] using hS) rfl
                    · intro dn u w1 hi he hS hp K hK
                      refine ord_plain rfl ?_
                      simp at hp hK ⊢
                      simp only [hp] at hK
                      go_simp
                      exact hK _ _ (by simpa [ldW] using hS) rfl
                    · intro dn u w1 hi he hS hp K hK
                      refine ord_plain rfl ?_
                      simp at hp hK ⊢
                      simp only [hp] at hK
                      have hc1 : w1.cell? ⟨bb, 1, none⟩ = some (.int .i64 f) := hS.all.cell 1
                      go_simp
                      exact hK _ _ (by simpa [ldW] using hS) rfl
                    · intro dn u w1 hi he hS hp K hK
                      refine ord_plain rfl ?_
                      simp at hp hK ⊢
                      go_simp
                      exact hK _ _ (by simpa [ldW] using hS) rfl
                    · intro dn u w1 hi he hS hp K hK
                      refine ord_plain rfl ?_
                      simp at hp hK ⊢
                      simp only [hp] at hK
                      go_simp
                      exact hK _ _ (by simpa [ldW] using hS) rfl
                    · intro dn u w1 hi he hS hp K hK
                      refine ord_plain rfl ?_
                      simp at hp hK ⊢
                      go_simp
                      exact hK _ _ (by simpa [ldW] using hS) rfl
                    · intro dn u w1 hi he hS hp K hK
                      refine ord_plain rfl ?_
                      simp at hp hK ⊢
                      simp only [hp] at hK
                      go_simp
                      exact hK _ _ (by simpa [ldW] using hS) rfl
                    · intro dn u w1 hi he hS hp K hK
                      refine ord_plain rfl ?_
                      simp at hp hK ⊢
                      simp only [hp] at hK
                      go_simp
                      exact hK _ _ (by simpa [ldW] using hS) rfl
                    · intro dn u w1 hi he hS hp K hK
                      refine ord_plain rfl ?_
                      simp at hp hK ⊢
                      simp only [hp] at hK
                      have hc3 : w1.cell? ⟨bb, 3, none⟩ = some (.string (sB t2)) := hS.all.cell 3
                      go_simp
                      exact hK _ _ (by simpa [ldW] using hS) rfl
                    · intro dn u w1 hi he hS hp K hK
                      refine ord_plain rfl ?_
                      simp at hp hK ⊢
                      go_simp
                      exact hK _ _ (by simpa [ldW] using hS) rfl
                    · intro dn u w1 hi he hS hp K hK
                      refine ord_plain rfl ?_
                      simp at hp hK ⊢
                      simp only [hp] at hK
                      go_simp
                      refine (hMd _).out.mono ?_
                      rintro e w2 ⟨rfl, ob⟩
                      exact hK _ _ (Stg.grow hS hi (ob.blk hS.all (fun h => h)) (fun h => h.trans ob)) rfl
                    · intro dn u w1 hi he hS hp K hK
                      refine ord_plain rfl ?_
                      simp at hp hK ⊢
                      simp only [hp] at hK
                      go_simp
                      have hP := hS.was hi
                      have h17 : dn 17 = true := by simp [edgesDone] at he; simp [he]
                      refine (HWR.out w1 hP).mono ?_
                      rintro e w2 ⟨rfl, k1, k2, k3⟩
                      exact hK _ _ (Stg.put h17 (k2.blk _ _ _ hS.all nDT_Book) ⟨k1, (FarX.none hP).trans (FarX.far k2), (hP.mono fun _ h => h.elim).trans k3⟩) rfl
                    · intro dn u w1 hi he hS hp K hK
                      refine ord_plain rfl ?_
                      simp at hp hK ⊢
                      simp only [hp] at hK
                      go_simp
                      exact hK _ _ (by simpa [ldW] using hS) rfl
                    · intro u w1 dn hld hS hp
                      simp at hp ⊢
                      have hkl := HKL.out
                      have hknn := HKN.out
                      have h19 := hp.2.2.2.2.2.2.2.2.2.2.2.2.2.2.2.2.2.2.2
                      simp only [h19]
                      have hQ := hS.got (hld 18 (by decide))
                      have H8 := Lib.hid hS.all
                      obtain ⟨k1, k2, k3⟩ := hQ
                      obtain ⟨w8, rfl⟩ : ∃ w8, w8 = w1 := ⟨_, rfl⟩
                      have K1 := Lib.hid k1
                      have K2 := Lib.hid (J3.out.trans ((FarX.none HN7.out).trans k2))
                      have K3 := Lib.hid (J4.out.trans ((HN7.out.mono fun _ h => h.elim).trans k3))
                      clear k1 k2 k3 h19 hp hS hld
                      clear hkl hknn
                      by_cases hy : y0.1 = 0
                      · go_wp2_with fail
                        go_roundw
                        case rel =>
                          have hkl := HKL.out
                          have hknn := HKN.out
                          refine ⟨k + 1, y0.2, by omega, by omega, by go_num, ?_, H8.out, K1.out.more (by omega) (by omega), K2.out, K3.out⟩
                          have := HAP.out
                          rw [show nn + 1 + kf - k = (nn + 1 + kf - (k + 1)) + 1 by omega] at this
                          simp only [appW] at this
                          rw [if_pos hkl, ← HY0.out, if_pos hy] at this
                          exact this
                        case measure => have hknn := HKN.out; simp [intOf]; omega
                      · have hYe : Hid (Y = y0) := Lib.hid (by
                          have hkl := HKL.out
                          have hknn := HKN.out
                          have := HAP.out
                          rw [show nn + 1 + kf - k = (nn + 1 + kf - (k + 1)) + 1 by omega] at this
                          simp only [appW] at this
                          rw [if_pos hkl, ← HY0.out, if_neg hy] at this
                          exact this.symm)
                        go_wp2_with fail
                        refine (bkept_any bb p (f : Int) (nn : Int) (sB t2) false w8 y0.1 H8.out).mono ?_
                        rintro e w9 ⟨rfl, b9, o9⟩
                        have B9 := Lib.hid b9
                        have O9 := Lib.hid o9
                        clear b9 o9
                        go_wp2_with fail
                        go_ret
                        rw [HRY.out, hYe.out]
                        refine ⟨rfl, (K1.out.away H8.out O9.out nDT_Book).more (by omega) (by omega), B9.out, K2.out.trans (FarX.of_only O9.out (fun _ h => h)), K3.out.trans (O9.out.mono fun b h => by rw [h]; exact HBb.out)⟩
                  · have hkli : ¬ (k : Int) * 127 < (t2.length : Int) := by omega
                    have hYe : Hid (Y = (0, S2)) := Lib.hid (by
                      have := HAP.out
                      rw [show nn + 1 + kf - k = (nn + kf - k) + 1 by omega] at this
                      simp only [appW] at this
                      rw [if_neg hkl] at this
                      exact this.symm)
                    go_wp2_with fail
                    go_ret
                    rw [HRY.out, hYe.out]
                    exact ⟨rfl, J2.out.more (by omega) (by omega), J1.out, J3.out, J4.out⟩
end Go.Proofs.YthggliknnmhbdaaGreat
/- Books: the walk of Sync; two lists of texts. No conditions beyond what each states. -/
namespace Go.Proofs.YthggliknnmhbdaaGreat
set_option maxRecDepth 100000
open Go.RowKit
set_option linter.unusedVariables false
/-- a Sync: its answer; the disk; is the book broken? -/
def bsyS (S : Dst) (br : Bool) : Int × Dst × Bool := if br then (3, S, br) else ((syS S).1, (syS S).2, (syS S).1 != 0)
set_option maxRecDepth 100000 in
theorem bsync_any (p gs n f nn bb : Nat) (S : Dst) (B m : Nat) (t : List UInt8) (br : Bool) (w : World) (D : DkS w p gs n S B m) (hb : BookB w bb p f nn (sB t) br) (hBb : B ≤ bb) (hm : m < 1000000) :
    Calls Tryz.prog 30 #[.pointer (some ⟨bb, 0, none⟩)] w fun e w' =>
      e = .returned (.int .i64 (bsyS S br).1) ∧ DkS w' p gs n (bsyS S br).2.1 B (m + 1) ∧ BookB w' bb p f nn (sB t) (bsyS S br).2.2 ∧ FarX (fun b => b = bb) w w' ∧ Only (fun b => B ≤ b) w w' := by
  have HD := Lib.hid D
  have HBk := Lib.hid hb
  have HBb := Lib.hid hBb
  obtain ⟨R, hR⟩ : ∃ R, R = bsyS S br := ⟨_, rfl⟩
  rw [← hR]
  have HR := Lib.hid hR
  have c0 : w.cell? ⟨bb, 0, none⟩ = some (.pointer (some ⟨p, 0, none⟩)) := hb.cell 0
  have c4 : w.cell? ⟨bb, 4, none⟩ = some (.bool br) := hb.cell 4
  clear D hb hBb hR
  cases br with
  | true =>
    have hRe : Hid (R = (3, S, true)) := Lib.hid (by rw [HR.out]; rfl)
    go_enter Tryz.func30, Tryz.ntmps30
    go_wp2_with fail
    refine (bnone_any bb p f nn (sB t) true w HBk.out).mono ?_
    rintro e w1 ⟨rfl, rfl⟩
    go_wp2_with fail
    go_ret
    rw [hRe.out]
    exact ⟨rfl, HD.out.more (by omega) (by omega), HBk.out, FarX.refl _ _, Only.refl _ _⟩
  | false =>
    have hRe : Hid (R = ((syS S).1, (syS S).2, (syS S).1 != 0)) := Lib.hid (by rw [HR.out]; rfl)
    go_enter Tryz.func30, Tryz.ntmps30
    go_wp2_with fail
    refine (bnone_any bb p f nn (sB t) false w HBk.out).mono ?_
    rintro e w1 ⟨rfl, rfl⟩
    go_wp2_with fail
    refine (dk_sync p gs n S B m w HD.out hm).mono ?_
    rintro e w2 ⟨rfl, k1, k2, k3⟩
    have K1 := Lib.hid k1
    have K2 := Lib.hid k2
    have K3 := Lib.hid k3
    have B2 := Lib.hid (k3.blk _ _ _ HBk.out nDT_Book)
    clear k1 k2 k3 c0 c4
    go_wp2_with fail
    refine (bkept_any bb p (f : Int) (nn : Int) (sB t) false w2 (syS S).1 B2.out).mono ?_
    rintro e w3 ⟨rfl, b3, o3⟩
    have B3 := Lib.hid b3
    have O3 := Lib.hid o3
    clear b3 o3
    go_wp2_with fail
    go_ret
    rw [hRe.out]
    exact ⟨rfl, K1.out.away B2.out O3.out nDT_Book, B3.out, (FarX.far K3.out).trans (FarX.of_only O3.out (fun _ h => h)), K2.out.trans (O3.out.mono fun b h => by rw [h]; exact HBb.out)⟩
end Go.Proofs.YthggliknnmhbdaaGreat
/- Two lists of texts: are they the same. No conditions beyond what it states. -/
namespace Go.Proofs.YthggliknnmhbdaaGreat
set_option maxRecDepth 100000
open Go.RowKit
set_option linter.unusedVariables false
end Go.Proofs.YthggliknnmhbdaaGreat
