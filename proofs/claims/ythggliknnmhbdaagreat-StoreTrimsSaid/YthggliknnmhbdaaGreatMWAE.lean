/- Several texts in one: FrU, FrX, FrR, FrG, FrP. -/
import Derived.Test.YthggliknnmhbdaaGreatMWAD
import Derived.Test.YthggliknnmhbdaaGreatMWAA
import Derived.SliceStrings
import Derived.Test.YthggliknnmhbdaaGreatMWAB
/- The walk of thresherlaw04.same. -/
namespace Go.Proofs.YthggliknnmhbdaaGreat
set_option maxRecDepth 100000
open Go.RowKit
set_option linter.unusedVariables false
attribute [local simp] frOf dstsOf frGo predsHold allHold Region.binds slotOf seen Is Act.put

/-- a row of frames that may be read -/
structure FRow (w : World) (A : Option Addr) (xs : List (Nat × ByteArray)) : Prop where
  at_ : ∀ k (h : k < xs.length), ∃ g off, A = some ⟨g, off, none⟩ ∧ g < w.heap.size ∧ w.cell? ⟨g, off + k * 2, none⟩ = some (.int .u8 (xs[k].1 : Int)) ∧ w.cell? ⟨g, off + k * 2 + 1, none⟩ = some (.string xs[k].2)
theorem FRow.below {w w' : World} {A : Option Addr} {xs : List (Nat × ByteArray)} (h : FRow w A xs) (hb : Below w.heap.size w w') : FRow w' A xs :=
  ⟨fun k hk => by
    obtain ⟨g, off, h1, h2, h3, h4⟩ := h.at_ k hk
    exact ⟨g, off, h1, Nat.lt_of_lt_of_le h2 hb.size, (hb.cell (p := ⟨g, off + k * 2, none⟩) h2).trans h3, (hb.cell (p := ⟨g, off + k * 2 + 1, none⟩) h2).trans h4⟩⟩
theorem fcells_at (l : List (Nat × ByteArray)) : ∀ (k : Nat) (h : k < l.length), (fcells l)[k * 2]? = some (.int .u8 (l[k].1 : Int)) ∧ (fcells l)[k * 2 + 1]? = some (.string l[k].2) := by
  induction l with
  | nil => intro k h; simp at h
  | cons a l ih =>
    intro k h
    have e : fcells (a :: l) = .int .u8 (a.1 : Int) :: .string a.2 :: fcells l := rfl
    rw [e]
    cases k with
    | zero => exact ⟨rfl, rfl⟩
    | succ k =>
      have := ih k (by simpa using h)
      rw [show (k + 1) * 2 = k * 2 + 2 by omega]
      simpa using this
theorem FRow.of_own {w : World} {base n cap : Nat} {A : Option Addr} {xs : List (Nat × ByteArray)} (h : w.ownsRow base 80 2 (.slice A n cap) xs.length (fcells xs)) : FRow w A xs :=
  ⟨fun k hk => by
    obtain ⟨g, c, hv, _, hlt⟩ := h.form (by omega)
    injection hv with hA hn hc
    subst hA
    obtain ⟨h1, h2⟩ := fcells_at xs k hk
    refine ⟨g, 0, rfl, hlt, ?_, ?_⟩
    · have := h.cells (g := g) rfl (k * 2) _ h1
      rw [Nat.zero_add]
      rcases Nat.eq_zero_or_pos (k * 2) with h0 | h0
      · rw [h0] at this ⊢; simpa [Addr.add] using this
      · rw [show (⟨g, 0, none⟩ : Addr).add (k * 2) = ⟨g, k * 2, none⟩ by simp [Addr.add]; omega] at this; exact this
    · have := h.cells (g := g) rfl (k * 2 + 1) _ h2
      rw [Nat.zero_add]
      rw [show (⟨g, 0, none⟩ : Addr).add (k * 2 + 1) = ⟨g, k * 2 + 1, none⟩ by simp [Addr.add]] at this; exact this⟩

end Go.Proofs.YthggliknnmhbdaaGreat
/- What the frames of alive are, reckoned. -/
namespace Go.Proofs.YthggliknnmhbdaaGreat
set_option maxRecDepth 100000
open Go.RowKit
set_option linter.unusedVariables false
end Go.Proofs.YthggliknnmhbdaaGreat
/- FrameReads: its walk. -/
namespace Go.Proofs.YthggliknnmhbdaaGreat
set_option maxRecDepth 100000
open Go.RowKit
set_option linter.unusedVariables false

end Go.Proofs.YthggliknnmhbdaaGreat
/- FrameWrites: its walk. -/
namespace Go.Proofs.YthggliknnmhbdaaGreat
set_option maxRecDepth 100000
open Go.RowKit
set_option linter.unusedVariables false

theorem textRow_open {w : World} {a : Addr} {len : Nat} {ss : List ByteArray} (h : ∀ i, i < ss.length → w.cell? (a.add i) = some (.string (ss.getD i ByteArray.empty))) (hlen : len ≤ ss.length) : TextRow w (some a) (ss.take len) := by
  refine ⟨fun j hj => ?_⟩
  have hj' : j < ss.length := by rw [List.length_take] at hj; omega
  have h0 := h 0 (by omega)
  have hs : a.spot = none := by
    unfold World.cell? Addr.add at h0
    simp only [if_true] at h0
    split at h0
    · split at h0
      · cases h0
      · rename_i hsp
        simpa using hsp
    · cases h0
  have hb : a.block < w.heap.size := by
    have h1 := h 0 (by omega)
    rcases Nat.lt_or_ge a.block w.heap.size with hlt | hge
    · exact hlt
    · unfold World.cell? at h1
      rw [block_of_add, Array.getElem?_eq_none hge] at h1
      cases h1
  obtain ⟨b, o, sp⟩ := a
  simp only at hs hb
  subst hs
  refine ⟨b, o, rfl, hb, ?_⟩
  have h1 := h j hj'
  rw [show (⟨b, o, none⟩ : Addr).add j = ⟨b, o + j, none⟩ by unfold Addr.add; split <;> simp_all] at h1
  rw [h1]
  simp [List.getD, List.getElem?_eq_getElem hj']
section
open Go.ChangeShapes Go.WideShapes
theorem open_texts {H : Type} {enc : TypeId × Value → H} {W : World} {base : Nat} {spare : Nat → Bool} {held : Bool} {fuel : Nat} {A : Option Addr} {len cap : Nat} {x : DataW H × List MemPlace}
    (h : DataW.trod enc Tryz.prog W base spare held fuel 25 [.slice A len cap] = some x) :
    ∃ xs : List ByteArray, xs.length = len ∧ TextRow W A xs ∧ len ≤ cap ∧ cap ≤ 9223372036854775807 ∧ ∀ x ∈ xs, x.size ≤ 9223372036854775807 := by
  rcases open_strings Tryz.underlying25 Tryz.underlying9 (by kernel_rfl) h with ⟨hcs, _⟩ | ⟨a, len', cap', ss, hcs, _, hl, hm, hz, _, hcell, hws⟩
  · simp only [List.cons.injEq, Value.slice.injEq, and_true] at hcs
    obtain ⟨rfl, rfl, rfl⟩ := hcs
    exact ⟨[], rfl, ⟨fun k hk => by simp at hk⟩, Nat.le_refl _, by omega, by simp⟩
  · simp only [List.cons.injEq, Value.slice.injEq, and_true] at hcs
    obtain ⟨rfl, rfl, rfl⟩ := hcs
    have hle : len ≤ ss.length := by rw [hz]; split <;> omega
    refine ⟨ss.take len, by rw [List.length_take]; omega, textRow_open hcell hle, hl, by simpa [maxLen] using hm, fun y hy => by simpa [maxLen] using hws y (List.mem_of_mem_take hy)⟩
end
end Go.Proofs.YthggliknnmhbdaaGreat
/- What is read of a frame, plain: whole, cut, with bits turned. -/
namespace Go.Proofs.YthggliknnmhbdaaGreat
set_option maxRecDepth 100000
open Go.RowKit
set_option linter.unusedVariables false

theorem bs_extract (s : ByteArray) (i j : Nat) : bs (s.extract i j) = ((bs s).drop i).take (j - i) := by
  unfold bs
  rw [ByteArray.data_extract, Array.toList_extract]
  simp [List.extract, List.map_take, List.map_drop]
theorem str_extract (l : List Nat) (i j : Nat) (h : ∀ c ∈ l, c < 256) : (str l).extract i j = str ((l.drop i).take (j - i)) := by
  apply bs_inj
  rw [bs_extract, bs_str l h, bs_str _ (fun c hc => h c (List.mem_of_mem_drop (List.mem_of_mem_take hc)))]
theorem str_inj {l m : List Nat} (hl : ∀ c ∈ l, c < 256) (hm : ∀ c ∈ m, c < 256) (h : str l = str m) : l = m := by
  rw [← bs_str l hl, ← bs_str m hm, h]

/-- a sum's bytes as numbers -/
def sumL (a : Nat) : List Nat := [a % 256, a / 256 % 256, a / 65536 % 256, a / 16777216]
theorem sumL_lt {a : Nat} (h : a < 4294967296) : ∀ c ∈ sumL a, c < 256 := by
  intro c hc
  simp [sumL] at hc
  omega
theorem sumBytes_str (a : Nat) : (⟨(sumBytes a).toArray⟩ : ByteArray) = str (sumL a) := rfl
theorem sumStr_str (s : ByteArray) : sumStr s = str (sumL (Crc.on 0 (bs s))) := rfl

namespace Var
theorem read_enc (x : Nat) (rest : List Nat) (h : x < 18446744073709551616) : read (enc 9 x ++ rest) = (x, (enc 9 x).length, 0) := by
  have hx : x < 128 ^ (9 + 1) := Nat.lt_of_lt_of_le h (by decide)
  obtain ⟨pre, z, hf, hl, hz⟩ := enc_form 9 x hx
  have he := hf.eq
  have hlead : lead 10 (enc 9 x ++ rest) = pre.length := by
    refine lead_eq 10 _ _ (fun j hj => ?_) (by omega) (by rw [he]; simp) (.inr (.inr ?_))
    · rw [he]
      simp only [List.getD]
      rw [List.getElem?_append_left (by simp; omega), List.getElem?_append_left hj, List.getElem?_eq_getElem hj]
      exact (hf.big _ (List.getElem_mem hj)).1
    · rw [he]
      simp only [List.getD]
      rw [List.getElem?_append_left (by simp), List.getElem?_append_right (by omega)]
      simpa using hf.small
  have hlen : (enc 9 x).length = pre.length + 1 := by rw [he]; simp
  have htake : (enc 9 x ++ rest).take (pre.length + 1) = enc 9 x := by rw [← hlen]; simp
  unfold read
  rw [hlead, if_neg (by omega), if_neg (by rw [List.length_append, hlen]; omega), htake, enc_val 9 x hx, Nat.mod_eq_of_lt h, if_pos rfl, hlen]
end Var

/-- what stands ahead of a frame's text -/
def heads (tag n : Nat) : List Nat := [1, tag] ++ Var.enc 9 n
theorem heads_lt {tag n : Nat} (ht : tag < 256) (hn : n < 18446744073709551616) : ∀ c ∈ heads tag n, c < 256 := by
  intro c hc
  rcases List.mem_append.1 hc with h | h
  · simp at h; omega
  · exact Var.enc_lt 9 n (Nat.lt_of_lt_of_le hn (by decide)) c h
def frameL (tag : Nat) (T : List Nat) : List Nat := heads tag T.length ++ T ++ sumL (Crc.on 0 (heads tag T.length ++ T))
theorem fraw_str (tag : Nat) (s : ByteArray) (ht : tag < 256) (hs : s.size < 18446744073709551616) : fraw tag s = str (frameL tag (bs s)) := by
  have hh := heads_lt ht hs
  have e : fhead tag s = str (heads tag s.size ++ bs s) := by
    unfold fhead lstr heads
    rw [← str_append, ← str_append, str_bs]
    apply ByteArray.ext
    simp [Array.append_assoc]
  unfold fraw frameL
  rw [e, sumBytes_str, bs_str _ (fun c hc => by rcases List.mem_append.1 hc with h | h; exact hh c h; exact bs_lt s c h), str_append, bs_len]
theorem heads_len (tag n : Nat) : (heads tag n).length = 2 + (Var.enc 9 n).length := by simp [heads]; omega
theorem lt_append {A B : List Nat} (ha : ∀ c ∈ A, c < 256) (hb : ∀ c ∈ B, c < 256) : ∀ c ∈ A ++ B, c < 256 := fun c hc => by
  rcases List.mem_append.1 hc with h | h
  · exact ha c h
  · exact hb c h
theorem fread_parts {tag : Nat} {T C R : List Nat} {most : Int} (ht : tag < 256) (hT : ∀ c ∈ T, c < 256) (hC : ∀ c ∈ C, c < 256) (hR : ∀ c ∈ R, c < 256) (hl : T.length ≤ 131072) (hm : (T.length : Int) ≤ most) (hc4 : C.length = 4) :
    fread (str (heads tag T.length ++ T ++ C ++ R)) most = if C = sumL (Crc.on 0 (heads tag T.length ++ T)) then (tag, str T, (heads tag T.length).length + T.length + 4, 0) else (0, ⟨#[]⟩, 0, 41) := by
  have hh := heads_lt ht (show T.length < 18446744073709551616 by omega)
  have hHT := lt_append hh hT
  have hL := lt_append (lt_append hHT hC) hR
  have hhl := heads_len tag T.length
  have hlen : (heads tag T.length ++ T ++ C ++ R).length = (heads tag T.length).length + T.length + 4 + R.length := by simp [hc4]; omega
  have hrd : (bs ((str (heads tag T.length ++ T ++ C ++ R)).extract 2 (str (heads tag T.length ++ T ++ C ++ R)).size)) = Var.enc 9 T.length ++ (T ++ C ++ R) := by
    rw [bs_extract, bs_str _ hL, str_size]
    rw [List.take_of_length_le (by rw [List.length_drop]; omega)]
    simp [heads]
  have hr := Var.read_enc T.length (T ++ C ++ R) (by omega)
  have h1 : (bs (str (heads tag T.length ++ T ++ C ++ R))).getD 0 0 = 1 := by rw [bs_str _ hL]; simp [heads]
  have h2 : (bs (str (heads tag T.length ++ T ++ C ++ R))).getD 1 0 = tag := by rw [bs_str _ hL]; simp [heads]
  unfold fread
  rw [hrd, hr, str_size, if_neg (by omega), if_neg (fun h => h h1), if_neg (by omega)]
  simp only
  unfold fbody
  rw [if_neg (by omega), if_neg (by omega), if_neg (by omega), if_neg (by rw [str_size, hlen]; omega), h2]
  have e1 : 2 + (Var.enc 9 T.length).length + T.length = (heads tag T.length ++ T).length := by simp [hhl]
  have e2 : 2 + (Var.enc 9 T.length).length = (heads tag T.length).length := by rw [hhl]
  rw [e1, e2, sumStr_str]
  have x1 : (str (heads tag T.length ++ T ++ C ++ R)).extract (heads tag T.length ++ T).length ((heads tag T.length ++ T).length + 4) = str C := by
    rw [str_extract _ _ _ hL, show (heads tag T.length ++ T).length + 4 - (heads tag T.length ++ T).length = C.length by omega, List.append_assoc (heads tag T.length ++ T), List.drop_left, List.take_left]
  have x2 : (str (heads tag T.length ++ T ++ C ++ R)).extract 0 (heads tag T.length ++ T).length = str (heads tag T.length ++ T) := by
    rw [str_extract _ _ _ hL, List.drop_zero, Nat.sub_zero, List.append_assoc (heads tag T.length ++ T), List.take_left]
  have x3 : (str (heads tag T.length ++ T ++ C ++ R)).extract (heads tag T.length).length (heads tag T.length ++ T).length = str T := by
    rw [str_extract _ _ _ hL, List.append_assoc, List.append_assoc, List.drop_left, show (heads tag T.length ++ T).length - (heads tag T.length).length = T.length by simp, List.take_left]
  rw [x1, x2, x3, bs_str _ hHT]
  by_cases hq : C = sumL (Crc.on 0 (heads tag T.length ++ T))
  · rw [if_pos hq, ← hq, if_neg (fun h => h rfl)]
    simp [Nat.add_assoc]
  · rw [if_neg hq, if_pos (fun h => hq (str_inj hC (sumL_lt (Crc.on_lt (by omega) hHT)) h))]
theorem frameL_lt {tag : Nat} {T : List Nat} (ht : tag < 256) (hT : ∀ c ∈ T, c < 256) (hl : T.length ≤ 131072) : ∀ c ∈ frameL tag T, c < 256 := by
  have hHT := lt_append (heads_lt ht (show T.length < 18446744073709551616 by omega)) hT
  exact lt_append hHT (sumL_lt (Crc.on_lt (by omega) hHT))
theorem frameL_len (tag : Nat) (T : List Nat) : (frameL tag T).length = (heads tag T.length).length + T.length + 4 := by simp [frameL, sumL]; omega
/-- A frame is read as it was written. -/
theorem fread_frame {tag : Nat} {T R : List Nat} {most : Int} (ht : tag < 256) (hT : ∀ c ∈ T, c < 256) (hR : ∀ c ∈ R, c < 256) (hl : T.length ≤ 131072) (hm : (T.length : Int) ≤ most) :
    fread (str (frameL tag T ++ R)) most = (tag, str T, (frameL tag T).length, 0) := by
  have hHT := lt_append (heads_lt ht (show T.length < 18446744073709551616 by omega)) hT
  have h := fread_parts (R := R) ht hT (sumL_lt (Crc.on_lt (a := 0) (by omega) hHT)) hR hl hm rfl
  rw [if_pos rfl] at h
  rw [frameL_len]
  exact h
def framesL : List (Nat × ByteArray) → List Nat
  | [] => []
  | (t, x) :: l => frameL t (bs x) ++ framesL l
def Okay (l : List (Nat × ByteArray)) : Prop := ∀ p ∈ l, p.1 < 256 ∧ p.2.size ≤ 131072
theorem framesL_lt : ∀ (l : List (Nat × ByteArray)), Okay l → ∀ c ∈ framesL l, c < 256
  | [], _ => by simp [framesL]
  | (t, x) :: l, h => by
    have hx := h (t, x) (by simp)
    exact lt_append (frameL_lt hx.1 (bs_lt x) (by rw [bs_len]; exact hx.2)) (framesL_lt l (fun p hp => h p (by simp [hp])))
/-- Scanned from a place on where frames stand, and then what makes no frame. -/
theorem scan_frames : ∀ (l : List (Nat × ByteArray)) (pre rest : List Nat), Okay l → (∀ c ∈ pre, c < 256) → (∀ c ∈ rest, c < 256) →
    scanFrom (str (pre ++ framesL l ++ rest)) 131072 pre.length =
      (l ++ (scanFrom (str (pre ++ framesL l ++ rest)) 131072 (pre.length + (framesL l).length)).1, (scanFrom (str (pre ++ framesL l ++ rest)) 131072 (pre.length + (framesL l).length)).2)
  | [], pre, rest, _, _, _ => by simp [framesL]
  | (t, x) :: l, pre, rest, h, hp, hr => by
    obtain ⟨hx1, hx2⟩ : t < 256 ∧ x.size ≤ 131072 := h (t, x) (by simp)
    have hl : Okay l := fun p hp => h p (by simp [hp])
    have hfx := frameL_lt hx1 (bs_lt x) (by rw [bs_len]; exact hx2)
    have hll := framesL_lt l hl
    have e : pre ++ framesL ((t, x) :: l) ++ rest = (pre ++ frameL t (bs x)) ++ framesL l ++ rest := by simp [framesL]
    have ih := scan_frames l (pre ++ frameL t (bs x)) rest hl (lt_append hp hfx) hr
    rw [e]
    have hall := lt_append (lt_append (lt_append hp hfx) hll) hr
    have hflen := frameL_len t (bs x)
    have hext : (str ((pre ++ frameL t (bs x)) ++ framesL l ++ rest)).extract pre.length (str ((pre ++ frameL t (bs x)) ++ framesL l ++ rest)).size = str (frameL t (bs x) ++ (framesL l ++ rest)) := by
      rw [str_extract _ _ _ hall, str_size]
      rw [List.append_assoc, List.append_assoc, List.drop_left, List.take_of_length_le (by simp)]
    have hrd := fread_frame (R := framesL l ++ rest) (most := 131072) hx1 (bs_lt x) (lt_append hll hr) (by rw [bs_len]; exact hx2) (by rw [bs_len]; omega)
    have hn := @scan_next (str ((pre ++ frameL t (bs x)) ++ framesL l ++ rest)) 131072 pre.length (by rw [str_size]; simp; omega) (by rw [hext, hrd])
    rw [hext, hrd] at hn
    simp only at hn
    rw [hn, show pre.length + (frameL t (bs x)).length = (pre ++ frameL t (bs x)).length by simp, ih, str_bs]
    simp [framesL, Nat.add_assoc]
end Go.Proofs.YthggliknnmhbdaaGreat
