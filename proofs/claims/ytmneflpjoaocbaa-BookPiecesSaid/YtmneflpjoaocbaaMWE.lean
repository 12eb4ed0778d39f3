/- Several texts in one: FrU, FrX, FrR, FrG, FrP. -/
import Derived.Test.YtmneflpjoaocbaaMWD
import Derived.Test.YtmneflpjoaocbaaMWA
import Derived.SliceStrings
import Derived.Test.YtmneflpjoaocbaaMWB
/- The walk of thresherlaw04.same. -/
namespace Go.Proofs.Ytmneflpjoaocbaa
set_option maxRecDepth 100000
open Go.RowKit
set_option linter.unusedVariables false
attribute [local simp] frOf dstsOf frGo predsHold allHold Region.binds slotOf seen Is Act.put

/-- a row of frames that may be read -/
structure FRow (w : World) (A : Option Addr) (xs : List (Nat × ByteArray)) : Prop where
  at_ : ∀ k (h : k < xs.length), ∃ g off, A = some ⟨g, off, none⟩ ∧ g < w.heap.size ∧ w.cell? ⟨g, off + k * 2, none⟩ = some (.int .u8 (xs[k].1 : Int)) ∧ w.cell? ⟨g, off + k * 2 + 1, none⟩ = some (.string xs[k].2)
theorem FRow.below {w w' : World} {A : Option Addr} {xs : List (Nat × ByteArray)} (h : FRow w A xs) (hb : Below w.heap.size w w') : FRow w' A xs :=
  ⟨fun k hk => by
    obtain ⟨g, off, h1, h2, h3, h4⟩ := h.at_ k hk
    exact ⟨g, off, h1, Nat.lt_of_lt_of_le h2 hb.size, (hb.cell (p := ⟨g, off + k * 2, none⟩) h2).trans h3, (hb.cell (p := ⟨g, off + k * 2 + 1, none⟩) h2).trans h4⟩⟩
theorem fcells_at (l : List (Nat × ByteArray)) : ∀ (k : Nat) (h : k < l.length), (fcells l)[k * 2]? = some (.int .u8 (l[k].1 : Int)) ∧ (fcells l)[k * 2 + 1]? = some (.string l[k].2) := by
  induction l with
  | nil => intro k h; simp at h
  | cons a l ih =>
    intro k h
    have e : fcells (a :: l) = .int .u8 (a.1 : Int) :: .string a.2 :: fcells l := rfl
    rw [e]
    cases k with
    | zero => exact ⟨rfl, rfl⟩
    | succ k =>
      have := ih k (by simpa using h)
      rw [show (k + 1) * 2 = k * 2 + 2 by omega]
      simpa using this
theorem FRow.of_own {w : World} {base n cap : Nat} {A : Option Addr} {xs : List (Nat × ByteArray)} (h : w.ownsRow base 56 2 (.slice A n cap) xs.length (fcells xs)) : FRow w A xs :=
  ⟨fun k hk => by
    obtain ⟨g, c, hv, _, hlt⟩ := h.form (by omega)
    injection hv with hA hn hc
    subst hA
    obtain ⟨h1, h2⟩ := fcells_at xs k hk
    refine ⟨g, 0, rfl, hlt, ?_, ?_⟩
    · have := h.cells (g := g) rfl (k * 2) _ h1
      rw [Nat.zero_add]
      rcases Nat.eq_zero_or_pos (k * 2) with h0 | h0
      · rw [h0] at this ⊢; simpa [Addr.add] using this
      · rw [show (⟨g, 0, none⟩ : Addr).add (k * 2) = ⟨g, k * 2, none⟩ by simp [Addr.add]; omega] at this; exact this
    · have := h.cells (g := g) rfl (k * 2 + 1) _ h2
      rw [Nat.zero_add]
      rw [show (⟨g, 0, none⟩ : Addr).add (k * 2 + 1) = ⟨g, k * 2 + 1, none⟩ by simp [Addr.add]] at this; exact this⟩

theorem pair_neq {α : Type} (p q : Nat × ByteArray) (X : Bool → α) : (if (p.1 : Int) = (q.1 : Int) then if p.2.toList = q.2.toList then X false else X true else X true) = X (!decide (p = q)) := by
  by_cases h : p = q
  · subst h; simp
  · have hd : decide (p = q) = false := by simpa using h
    rw [hd]
    split
    · rename_i h1
      split
      · rename_i h2
        exact absurd (Prod.ext (by omega) (strs_eq h2)) h
      · rfl
    · rfl
end Go.Proofs.Ytmneflpjoaocbaa
/- What the frames of alive are, reckoned. -/
namespace Go.Proofs.Ytmneflpjoaocbaa
set_option maxRecDepth 100000
open Go.RowKit
set_option linter.unusedVariables false
def abc : ByteArray := ⟨#[97, 98, 99]⟩
def frA : ByteArray := fraw 7 abc
theorem frA_size : frA.size = 10 := by kernel_rfl
theorem frA_r1 : fread (frA ++ ⟨#[120]⟩) 3 = (7, abc, 10, 0) := by kernel_rfl
theorem frA_r2 : fread (frA.extract 0 9) 3 = (0, ⟨#[]⟩, 0, 40) := by kernel_rfl
theorem frA_r3 : fread (⟨#[2]⟩ ++ frA.extract 1 10) 3 = (0, ⟨#[]⟩, 0, 42) := by kernel_rfl
theorem frA_r4 : fread frA 2 = (0, ⟨#[]⟩, 0, 4) := by kernel_rfl
theorem frA_r5 : (scanFrom (frA ++ frA ++ ⟨#[1]⟩) 9 0) = ([(7, abc), (7, abc)], 20, 40) := by kernel_rfl
theorem frA_r6 : fsize 0 = 7 ∧ fsize 200 = 208 := ⟨by kernel_rfl, by kernel_rfl⟩
theorem two_row (w : World) : TextRow (w.alloc (.cells #[.string ⟨#[97]⟩, .string ⟨#[98, 99]⟩] 9)) (some ⟨w.heap.size, 0, none⟩) [⟨#[97]⟩, ⟨#[98, 99]⟩] :=
  ⟨fun j hj => ⟨w.heap.size, 0, rfl, by simp, by
    rw [(Blk.new w _ _).cell]
    match j, hj with
    | 0, _ => rfl
    | 1, _ => rfl⟩⟩

end Go.Proofs.Ytmneflpjoaocbaa
/- FrameReads: its walk. -/
namespace Go.Proofs.Ytmneflpjoaocbaa
set_option maxRecDepth 100000
open Go.RowKit
set_option linter.unusedVariables false

theorem owns_slice {w : World} {base : Nat} {e : TypeId} {size n : Nat} {v : Value} {xs : List Value} (h : w.ownsRow base e size v n xs) : ∃ A cap, v = .slice A n cap ∧ n ≤ cap ∧ cap ≤ 9223372036854775807 := by
  rcases owns_form h with ⟨rfl, rfl⟩ | ⟨g, cap, rfl, h1, h2, _⟩
  · exact ⟨none, 0, rfl, Nat.le_refl _, by omega⟩
  · exact ⟨some ⟨g, 0, none⟩, cap, rfl, h1, by simpa [maxLen] using h2⟩

end Go.Proofs.Ytmneflpjoaocbaa
/- FrameWrites: its walk. -/
namespace Go.Proofs.Ytmneflpjoaocbaa
set_option maxRecDepth 100000
open Go.RowKit
set_option linter.unusedVariables false

theorem textRow_open {w : World} {a : Addr} {len : Nat} {ss : List ByteArray} (h : ∀ i, i < ss.length → w.cell? (a.add i) = some (.string (ss.getD i ByteArray.empty))) (hlen : len ≤ ss.length) : TextRow w (some a) (ss.take len) := by
  refine ⟨fun j hj => ?_⟩
  have hj' : j < ss.length := by rw [List.length_take] at hj; omega
  have h0 := h 0 (by omega)
  have hs : a.spot = none := by
    unfold World.cell? Addr.add at h0
    simp only [if_true] at h0
    split at h0
    · split at h0
      · cases h0
      · rename_i hsp
        simpa using hsp
    · cases h0
  have hb : a.block < w.heap.size := by
    have h1 := h 0 (by omega)
    rcases Nat.lt_or_ge a.block w.heap.size with hlt | hge
    · exact hlt
    · unfold World.cell? at h1
      rw [block_of_add, Array.getElem?_eq_none hge] at h1
      cases h1
  obtain ⟨b, o, sp⟩ := a
  simp only at hs hb
  subst hs
  refine ⟨b, o, rfl, hb, ?_⟩
  have h1 := h j hj'
  rw [show (⟨b, o, none⟩ : Addr).add j = ⟨b, o + j, none⟩ by unfold Addr.add; split <;> simp_all] at h1
  rw [h1]
  simp [List.getD, List.getElem?_eq_getElem hj']
section
open Go.ChangeShapes Go.WideShapes
theorem open_texts {H : Type} {enc : TypeId × Value → H} {W : World} {base : Nat} {spare : Nat → Bool} {held : Bool} {fuel : Nat} {A : Option Addr} {len cap : Nat} {x : DataW H × List MemPlace}
    (h : DataW.trod enc Try.prog W base spare held fuel 24 [.slice A len cap] = some x) :
    ∃ xs : List ByteArray, xs.length = len ∧ TextRow W A xs ∧ len ≤ cap ∧ cap ≤ 9223372036854775807 ∧ ∀ x ∈ xs, x.size ≤ 9223372036854775807 := by
  rcases open_strings Try.underlying24 Try.underlying9 (by kernel_rfl) h with ⟨hcs, _⟩ | ⟨a, len', cap', ss, hcs, _, hl, hm, hz, _, hcell, hws⟩
  · simp only [List.cons.injEq, Value.slice.injEq, and_true] at hcs
    obtain ⟨rfl, rfl, rfl⟩ := hcs
    exact ⟨[], rfl, ⟨fun k hk => by simp at hk⟩, Nat.le_refl _, by omega, by simp⟩
  · simp only [List.cons.injEq, Value.slice.injEq, and_true] at hcs
    obtain ⟨rfl, rfl, rfl⟩ := hcs
    have hle : len ≤ ss.length := by rw [hz]; split <;> omega
    refine ⟨ss.take len, by rw [List.length_take]; omega, textRow_open hcell hle, hl, by simpa [maxLen] using hm, fun y hy => by simpa [maxLen] using hws y (List.mem_of_mem_take hy)⟩
end
theorem fraw_size (tag : Nat) (s : ByteArray) (h : s.size ≤ 131072) : (fraw tag s).size = fsize s.size := by
  unfold fraw
  rw [ByteArray.size_append, fhead_size, lstr_size, Var.size_enc _ h]
  have : (⟨(sumBytes (Crc.on 0 (bs (fhead tag s)))).toArray⟩ : ByteArray).size = 4 := by simp [ByteArray.size, sumBytes]
  rw [this]
  unfold fsize
  omega

end Go.Proofs.Ytmneflpjoaocbaa
/- What is read of a frame, plain: whole, cut, with bits turned. -/
namespace Go.Proofs.Ytmneflpjoaocbaa
set_option maxRecDepth 100000
open Go.RowKit
set_option linter.unusedVariables false

theorem bs_extract (s : ByteArray) (i j : Nat) : bs (s.extract i j) = ((bs s).drop i).take (j - i) := by
  unfold bs
  rw [ByteArray.data_extract, Array.toList_extract]
  simp [List.extract, List.map_take, List.map_drop]
theorem str_extract (l : List Nat) (i j : Nat) (h : ∀ c ∈ l, c < 256) : (str l).extract i j = str ((l.drop i).take (j - i)) := by
  apply bs_inj
  rw [bs_extract, bs_str l h, bs_str _ (fun c hc => h c (List.mem_of_mem_drop (List.mem_of_mem_take hc)))]
theorem str_inj {l m : List Nat} (hl : ∀ c ∈ l, c < 256) (hm : ∀ c ∈ m, c < 256) (h : str l = str m) : l = m := by
  rw [← bs_str l hl, ← bs_str m hm, h]

/-- a sum's bytes as numbers -/
def sumL (a : Nat) : List Nat := [a % 256, a / 256 % 256, a / 65536 % 256, a / 16777216]
theorem sumL_lt {a : Nat} (h : a < 4294967296) : ∀ c ∈ sumL a, c < 256 := by
  intro c hc
  simp [sumL] at hc
  omega
theorem sumBytes_str (a : Nat) : (⟨(sumBytes a).toArray⟩ : ByteArray) = str (sumL a) := rfl
theorem sumStr_str (s : ByteArray) : sumStr s = str (sumL (Crc.on 0 (bs s))) := rfl

namespace Var
theorem read_enc (x : Nat) (rest : List Nat) (h : x < 18446744073709551616) : read (enc 9 x ++ rest) = (x, (enc 9 x).length, 0) := by
  have hx : x < 128 ^ (9 + 1) := Nat.lt_of_lt_of_le h (by decide)
  obtain ⟨pre, z, hf, hl, hz⟩ := enc_form 9 x hx
  have he := hf.eq
  have hlead : lead 10 (enc 9 x ++ rest) = pre.length := by
    refine lead_eq 10 _ _ (fun j hj => ?_) (by omega) (by rw [he]; simp) (.inr (.inr ?_))
    · rw [he]
      simp only [List.getD]
      rw [List.getElem?_append_left (by simp; omega), List.getElem?_append_left hj, List.getElem?_eq_getElem hj]
      exact (hf.big _ (List.getElem_mem hj)).1
    · rw [he]
      simp only [List.getD]
      rw [List.getElem?_append_left (by simp), List.getElem?_append_right (by omega)]
      simpa using hf.small
  have hlen : (enc 9 x).length = pre.length + 1 := by rw [he]; simp
  have htake : (enc 9 x ++ rest).take (pre.length + 1) = enc 9 x := by rw [← hlen]; simp
  unfold read
  rw [hlead, if_neg (by omega), if_neg (by rw [List.length_append, hlen]; omega), htake, enc_val 9 x hx, Nat.mod_eq_of_lt h, if_pos rfl, hlen]
/-- of a number that is cut off -/
theorem read_cut (x k : Nat) (h : x < 18446744073709551616) (hk : k < (enc 9 x).length) : read ((enc 9 x).take k) = (0, 0, 10) := by
  have hx : x < 128 ^ (9 + 1) := Nat.lt_of_lt_of_le h (by decide)
  obtain ⟨pre, z, hf, hl, hz⟩ := enc_form 9 x hx
  have he := hf.eq
  have hlen : (enc 9 x).length = pre.length + 1 := by rw [he]; simp
  have ht : (enc 9 x).take k = pre.take k := by rw [he, List.take_append_of_le_length (by omega)]
  rw [ht]
  have hlk : (pre.take k).length = k := by rw [List.length_take]; omega
  refine read_short (fun j hj => ?_) (by omega)
  rw [hlk] at hj
  simp only [List.getD]
  rw [List.getElem?_take, if_pos hj, List.getElem?_eq_getElem (by omega)]
  exact (hf.big _ (List.getElem_mem _)).1
end Var

/-- what stands ahead of a frame's text -/
def heads (tag n : Nat) : List Nat := [1, tag] ++ Var.enc 9 n
theorem heads_lt {tag n : Nat} (ht : tag < 256) (hn : n < 18446744073709551616) : ∀ c ∈ heads tag n, c < 256 := by
  intro c hc
  rcases List.mem_append.1 hc with h | h
  · simp at h; omega
  · exact Var.enc_lt 9 n (Nat.lt_of_lt_of_le hn (by decide)) c h
def frameL (tag : Nat) (T : List Nat) : List Nat := heads tag T.length ++ T ++ sumL (Crc.on 0 (heads tag T.length ++ T))
theorem fraw_str (tag : Nat) (s : ByteArray) (ht : tag < 256) (hs : s.size < 18446744073709551616) : fraw tag s = str (frameL tag (bs s)) := by
  have hh := heads_lt ht hs
  have e : fhead tag s = str (heads tag s.size ++ bs s) := by
    unfold fhead lstr heads
    rw [← str_append, ← str_append, str_bs]
    apply ByteArray.ext
    simp [Array.append_assoc]
  unfold fraw frameL
  rw [e, sumBytes_str, bs_str _ (fun c hc => by rcases List.mem_append.1 hc with h | h; exact hh c h; exact bs_lt s c h), str_append, bs_len]
theorem heads_len (tag n : Nat) : (heads tag n).length = 2 + (Var.enc 9 n).length := by simp [heads]; omega
theorem lt_append {A B : List Nat} (ha : ∀ c ∈ A, c < 256) (hb : ∀ c ∈ B, c < 256) : ∀ c ∈ A ++ B, c < 256 := fun c hc => by
  rcases List.mem_append.1 hc with h | h
  · exact ha c h
  · exact hb c h
theorem fread_parts {tag : Nat} {T C R : List Nat} {most : Int} (ht : tag < 256) (hT : ∀ c ∈ T, c < 256) (hC : ∀ c ∈ C, c < 256) (hR : ∀ c ∈ R, c < 256) (hl : T.length ≤ 131072) (hm : (T.length : Int) ≤ most) (hc4 : C.length = 4) :
    fread (str (heads tag T.length ++ T ++ C ++ R)) most = if C = sumL (Crc.on 0 (heads tag T.length ++ T)) then (tag, str T, (heads tag T.length).length + T.length + 4, 0) else (0, ⟨#[]⟩, 0, 41) := by
  have hh := heads_lt ht (show T.length < 18446744073709551616 by omega)
  have hHT := lt_append hh hT
  have hL := lt_append (lt_append hHT hC) hR
  have hhl := heads_len tag T.length
  have hlen : (heads tag T.length ++ T ++ C ++ R).length = (heads tag T.length).length + T.length + 4 + R.length := by simp [hc4]; omega
  have hrd : (bs ((str (heads tag T.length ++ T ++ C ++ R)).extract 2 (str (heads tag T.length ++ T ++ C ++ R)).size)) = Var.enc 9 T.length ++ (T ++ C ++ R) := by
    rw [bs_extract, bs_str _ hL, str_size]
    rw [List.take_of_length_le (by rw [List.length_drop]; omega)]
    simp [heads]
  have hr := Var.read_enc T.length (T ++ C ++ R) (by omega)
  have h1 : (bs (str (heads tag T.length ++ T ++ C ++ R))).getD 0 0 = 1 := by rw [bs_str _ hL]; simp [heads]
  have h2 : (bs (str (heads tag T.length ++ T ++ C ++ R))).getD 1 0 = tag := by rw [bs_str _ hL]; simp [heads]
  unfold fread
  rw [hrd, hr, str_size, if_neg (by omega), if_neg (fun h => h h1), if_neg (by omega)]
  simp only
  unfold fbody
  rw [if_neg (by omega), if_neg (by omega), if_neg (by omega), if_neg (by rw [str_size, hlen]; omega), h2]
  have e1 : 2 + (Var.enc 9 T.length).length + T.length = (heads tag T.length ++ T).length := by simp [hhl]
  have e2 : 2 + (Var.enc 9 T.length).length = (heads tag T.length).length := by rw [hhl]
  rw [e1, e2, sumStr_str]
  have x1 : (str (heads tag T.length ++ T ++ C ++ R)).extract (heads tag T.length ++ T).length ((heads tag T.length ++ T).length + 4) = str C := by
    rw [str_extract _ _ _ hL, show (heads tag T.length ++ T).length + 4 - (heads tag T.length ++ T).length = C.length by omega, List.append_assoc (heads tag T.length ++ T), List.drop_left, List.take_left]
  have x2 : (str (heads tag T.length ++ T ++ C ++ R)).extract 0 (heads tag T.length ++ T).length = str (heads tag T.length ++ T) := by
    rw [str_extract _ _ _ hL, List.drop_zero, Nat.sub_zero, List.append_assoc (heads tag T.length ++ T), List.take_left]
  have x3 : (str (heads tag T.length ++ T ++ C ++ R)).extract (heads tag T.length).length (heads tag T.length ++ T).length = str T := by
    rw [str_extract _ _ _ hL, List.append_assoc, List.append_assoc, List.drop_left, show (heads tag T.length ++ T).length - (heads tag T.length).length = T.length by simp, List.take_left]
  rw [x1, x2, x3, bs_str _ hHT]
  by_cases hq : C = sumL (Crc.on 0 (heads tag T.length ++ T))
  · rw [if_pos hq, ← hq, if_neg (fun h => h rfl)]
    simp [Nat.add_assoc]
  · rw [if_neg hq, if_pos (fun h => hq (str_inj hC (sumL_lt (Crc.on_lt (by omega) hHT)) h))]
theorem frameL_lt {tag : Nat} {T : List Nat} (ht : tag < 256) (hT : ∀ c ∈ T, c < 256) (hl : T.length ≤ 131072) : ∀ c ∈ frameL tag T, c < 256 := by
  have hHT := lt_append (heads_lt ht (show T.length < 18446744073709551616 by omega)) hT
  exact lt_append hHT (sumL_lt (Crc.on_lt (by omega) hHT))
theorem frameL_len (tag : Nat) (T : List Nat) : (frameL tag T).length = (heads tag T.length).length + T.length + 4 := by simp [frameL, sumL]; omega
/-- A frame is read as it was written. -/
theorem fread_frame {tag : Nat} {T R : List Nat} {most : Int} (ht : tag < 256) (hT : ∀ c ∈ T, c < 256) (hR : ∀ c ∈ R, c < 256) (hl : T.length ≤ 131072) (hm : (T.length : Int) ≤ most) :
    fread (str (frameL tag T ++ R)) most = (tag, str T, (frameL tag T).length, 0) := by
  have hHT := lt_append (heads_lt ht (show T.length < 18446744073709551616 by omega)) hT
  have h := fread_parts (R := R) ht hT (sumL_lt (Crc.on_lt (a := 0) (by omega) hHT)) hR hl hm rfl
  rw [if_pos rfl] at h
  rw [frameL_len]
  exact h
/-- Of a frame that is cut off nothing is read. -/
theorem fread_cut {tag : Nat} {T : List Nat} {most : Int} (k : Nat) (ht : tag < 256) (hT : ∀ c ∈ T, c < 256) (hl : T.length ≤ 131072) (hm : (T.length : Int) ≤ most) (hk : k < (frameL tag T).length) :
    fread (str ((frameL tag T).take k)) most = (0, ⟨#[]⟩, 0, 40) := by
  have hF := frameL_lt ht hT hl
  have hL : ∀ c ∈ (frameL tag T).take k, c < 256 := fun c hc => hF c (List.mem_of_mem_take hc)
  have hlen : ((frameL tag T).take k).length = k := by rw [List.length_take]; omega
  have hhl := heads_len tag T.length
  have hfl := frameL_len tag T
  unfold fread
  rw [str_size, hlen]
  by_cases h0 : k = 0
  · rw [if_pos h0]
  · rw [if_neg h0]
    have h1 : (bs (str ((frameL tag T).take k))).getD 0 0 = 1 := by
      rw [bs_str _ hL]
      simp only [List.getD]
      rw [List.getElem?_take, if_pos (by omega)]
      simp [frameL, heads]
    rw [if_neg (fun h => h h1)]
    by_cases h2 : k < 2
    · rw [if_pos h2]
    · rw [if_neg h2]
      have hd : bs ((str ((frameL tag T).take k)).extract 2 k) = ((frameL tag T).drop 2).take (k - 2) := by
        rw [bs_extract, bs_str _ hL, List.drop_take, List.take_take, Nat.min_self]
      rw [hd]
      have he : (frameL tag T).drop 2 = Var.enc 9 T.length ++ (T ++ sumL (Crc.on 0 (heads tag T.length ++ T))) := by simp [frameL, heads]
      rw [he]
      by_cases h3 : k - 2 < (Var.enc 9 T.length).length
      · rw [List.take_append_of_le_length (by omega), Var.read_cut T.length (k - 2) (by omega) h3]
        rfl
      · have e3 : (Var.enc 9 T.length ++ (T ++ sumL (Crc.on 0 (heads tag T.length ++ T)))).take (k - 2) = Var.enc 9 T.length ++ (T ++ sumL (Crc.on 0 (heads tag T.length ++ T))).take (k - 2 - (Var.enc 9 T.length).length) := by
          rw [List.take_append, List.take_of_length_le (show (Var.enc 9 T.length).length ≤ k - 2 by omega)]
        rw [e3, Var.read_enc T.length _ (by omega)]
        simp only
        unfold fbody
        rw [if_neg (by omega), if_neg (by omega), if_neg (by omega), if_pos (by rw [str_size, hlen]; omega)]
/-- frames are the same just if tag and text are -/
theorem fraw_inj {a b : Nat} {s t : ByteArray} (ha : a < 256) (hb : b < 256) (hs : s.size ≤ 131072) (ht : t.size ≤ 131072) : fraw a s = fraw b t ↔ a = b ∧ s = t := by
  constructor
  · intro h
    have e1 := fread_frame (R := []) (most := 131072) ha (bs_lt s) (by simp) (by rw [bs_len]; exact hs) (by rw [bs_len]; omega)
    have e2 := fread_frame (R := []) (most := 131072) hb (bs_lt t) (by simp) (by rw [bs_len]; exact ht) (by rw [bs_len]; omega)
    rw [List.append_nil, ← fraw_str _ _ ha (by omega)] at e1
    rw [List.append_nil, ← fraw_str _ _ hb (by omega)] at e2
    rw [h, e2] at e1
    simp only [Prod.mk.injEq, str_bs] at e1
    exact ⟨e1.1.symm, e1.2.1.symm⟩
  · rintro ⟨rfl, rfl⟩
    rfl

/-! frames one behind the other -/
def framesL : List (Nat × ByteArray) → List Nat
  | [] => []
  | (t, x) :: l => frameL t (bs x) ++ framesL l
def Okay (l : List (Nat × ByteArray)) : Prop := ∀ p ∈ l, p.1 < 256 ∧ p.2.size ≤ 131072
theorem framesL_lt : ∀ (l : List (Nat × ByteArray)), Okay l → ∀ c ∈ framesL l, c < 256
  | [], _ => by simp [framesL]
  | (t, x) :: l, h => by
    have hx := h (t, x) (by simp)
    exact lt_append (frameL_lt hx.1 (bs_lt x) (by rw [bs_len]; exact hx.2)) (framesL_lt l (fun p hp => h p (by simp [hp])))
/-- Scanned from a place on where frames stand, and then what makes no frame. -/
theorem scan_frames : ∀ (l : List (Nat × ByteArray)) (pre rest : List Nat), Okay l → (∀ c ∈ pre, c < 256) → (∀ c ∈ rest, c < 256) →
    scanFrom (str (pre ++ framesL l ++ rest)) 131072 pre.length =
      (l ++ (scanFrom (str (pre ++ framesL l ++ rest)) 131072 (pre.length + (framesL l).length)).1, (scanFrom (str (pre ++ framesL l ++ rest)) 131072 (pre.length + (framesL l).length)).2)
  | [], pre, rest, _, _, _ => by simp [framesL]
  | (t, x) :: l, pre, rest, h, hp, hr => by
    obtain ⟨hx1, hx2⟩ : t < 256 ∧ x.size ≤ 131072 := h (t, x) (by simp)
    have hl : Okay l := fun p hp => h p (by simp [hp])
    have hfx := frameL_lt hx1 (bs_lt x) (by rw [bs_len]; exact hx2)
    have hll := framesL_lt l hl
    have e : pre ++ framesL ((t, x) :: l) ++ rest = (pre ++ frameL t (bs x)) ++ framesL l ++ rest := by simp [framesL]
    have ih := scan_frames l (pre ++ frameL t (bs x)) rest hl (lt_append hp hfx) hr
    rw [e]
    have hall := lt_append (lt_append (lt_append hp hfx) hll) hr
    have hflen := frameL_len t (bs x)
    have hext : (str ((pre ++ frameL t (bs x)) ++ framesL l ++ rest)).extract pre.length (str ((pre ++ frameL t (bs x)) ++ framesL l ++ rest)).size = str (frameL t (bs x) ++ (framesL l ++ rest)) := by
      rw [str_extract _ _ _ hall, str_size]
      rw [List.append_assoc, List.append_assoc, List.drop_left, List.take_of_length_le (by simp)]
    have hrd := fread_frame (R := framesL l ++ rest) (most := 131072) hx1 (bs_lt x) (lt_append hll hr) (by rw [bs_len]; exact hx2) (by rw [bs_len]; omega)
    have hn := @scan_next (str ((pre ++ frameL t (bs x)) ++ framesL l ++ rest)) 131072 pre.length (by rw [str_size]; simp; omega) (by rw [hext, hrd])
    rw [hext, hrd] at hn
    simp only at hn
    rw [hn, show pre.length + (frameL t (bs x)).length = (pre ++ frameL t (bs x)).length by simp, ih, str_bs]
    simp [framesL, Nat.add_assoc]
end Go.Proofs.Ytmneflpjoaocbaa
