/- The walks of wire.Texts$1, wire.all, wire.Texts. -/
import Derived.Test.YtpnjcgpnannjaaaStrB
namespace Go.Proofs.Ytpnjcgpnannjaaa
open Go.RowKit
set_option linter.unusedVariables false

/-- a text's bytes with its length ahead -/
def lstr (s : ByteArray) : ByteArray := str (Var.enc 9 s.size) ++ s
theorem lstr_size (s : ByteArray) : (lstr s).size = (Var.enc 9 s.size).length + s.size := by
  unfold lstr; rw [ByteArray.size_append, str_size]

theorem text1_any (s : ByteArray) (w : World) (hs : s.size ≤ 1099511627776) :
    Calls Try.prog 31 #[.string s] w fun e w' => e = .returned (.string (lstr s)) ∧ Below w.heap.size w w' := by
  have hl := Var.enc_len_le 9 s.size
  rw [← str_size] at hl
  have hc := nuint_any s.size w (by omega)
  unfold lstr
  go_enter Try.func31, Try.ntmps31
  go_wp2_with fail
  refine hc.mono ?_
  rintro e w1 ⟨rfl, hb⟩
  have HB := Lib.hid hb
  clear hb hc
  go_wp2
  go_ret
  exact ⟨rfl, HB.out⟩

theorem builder_new (w : World) (B : Nat) (hB : B ≤ w.heap.size) : Lib.IsBuilder 73 5 B w.heap.size [] (w.alloc (.cells #[.pointer none, .slice none 0 0] 73)) :=
  .inl ⟨hB, .slice none 0 0, heap_alloc_new _ _, World.ownsRow_nil _ _ _ _, by simp [Value.ownBlock]⟩

theorem owns_below {B : Nat} {e : TypeId} {k : Nat} {v : Value} {n : Nat} {xs : List Value} {w w' : World} (h : w.ownsRow B e k v n xs) (hb : Below w.heap.size w w') : w'.ownsRow B e k v n xs :=
  Only.owns (S := fun _ => False) (Only.below_ hb) h (fun _ _ h => h)
theorem builderAt_below {B b : Nat} {p : Value} {bs : List Value} {w w' : World} (h : Lib.BuilderAt 73 5 B b p bs w) (hb : Below w.heap.size w w') : Lib.BuilderAt 73 5 B b p bs w' := by
  have hlt := h.lt
  obtain ⟨hB, v, hk, hown, hne⟩ := h
  exact ⟨hB, v, (hb.block b hlt).trans hk, owns_below hown hb, hne⟩
theorem builder_below {B b : Nat} {bs : List Value} {w w' : World} (h : Lib.IsBuilder 73 5 B b bs w) (hb : Below w.heap.size w w') : Lib.IsBuilder 73 5 B b bs w' := by
  rcases h with h | h
  · exact .inl (builderAt_below h hb)
  · exact .inr (builderAt_below h hb)
theorem bstring_any (B b : Nat) (s : ByteArray) (w : World) (h : Lib.IsBuilder 73 5 B b (Lib.strCells s) w) (hBw : B ≤ w.heap.size) :
    Calls Try.prog 35 #[.pointer (some ⟨b, 0, none⟩)] w fun e w' => e = .returned (.string s) ∧ Below B w w' := by
  rw [Lib.strCells_eq] at h
  have := Try.Builder_String_any B b s.data.toList w h hBw
  simpa using this

set_option maxHeartbeats 1000000 in
theorem all_one (s : ByteArray) (p : Addr) (cap : Nat) (w : World) (hs : s.size ≤ 1099511627776) (hp : p.block < w.heap.size) (hc : w.cell? p = some (.string s)) :
    Calls Try.prog 30 #[.func (.func 31) #[] #[], .slice (some p) 1 cap] w fun e w' => e = .returned (.string (lstr s)) ∧ Below w.heap.size w w' := by
  have hsz := lstr_size s
  have hl := Var.enc_len_le 9 s.size
  have hlen : (lstr s).size ≤ 1099511627800 := by omega
  clear hsz hl
  go_enter Try.func30, Try.ntmps30
  go_wp2_with fail
  have HBu := Lib.hid (builder_new w w.heap.size (Nat.le_refl _))
  have HB0 := Lib.hid ((Below.refl w.heap.size w).alloc (Nat.le_refl _) (.cells #[.pointer none, .slice none 0 0] 73))
  go_loopw [10] (fun i wr => ((i = .int .i64 0 ∧ Lib.IsBuilder 73 5 w.heap.size w.heap.size [] wr) ∨ (i = .int .i64 1 ∧ Lib.IsBuilder 73 5 w.heap.size w.heap.size (Lib.strCells (lstr s)) wr)) ∧ Below w.heap.size w wr) (fun i _ => (1 - intOf i).toNat)
  case atStart => exact ⟨.inl ⟨rfl, HBu.out⟩, HB0.out⟩
  case round =>
    obtain ⟨hcase, hbl⟩ := hrel
    rcases hcase with ⟨rfl, hbu⟩ | ⟨rfl, hbu⟩
    · have HB := Lib.hid hbl
      have HU := Lib.hid hbu
      have hcell : wr.cell? p = some (.string s) := (hbl.cell hp).trans hc
      clear hbl hbu HBu HB0
      go_wp2_with fail
      refine (text1_any s wr hs).mono ?_
      rintro e w1 ⟨rfl, hb1⟩
      have HU1 := Lib.hid (builder_below HU.out hb1)
      have HB1 := Lib.hid (HB.out.trans (hb1.mono HB.out.size))
      clear HU hcell hb1 HB
      go_wp2_with fail
      refine (wstring_any w.heap.size w.heap.size [] (lstr s) w1 HU1.out (by simp; omega) HB1.out.size).mono ?_
      rintro e w2 ⟨rfl, hu2, hb2⟩
      have HU2 := Lib.hid hu2
      have HB2 := Lib.hid (HB1.out.trans hb2)
      clear HU1 HB1 hu2 hb2
      go_wp2
      go_roundw
      case rel => exact ⟨.inr ⟨by go_num, .inr (by simpa using HU2.out)⟩, HB2.out⟩
      case measure => simp [intOf]
    · have HB := Lib.hid hbl
      have HU := Lib.hid hbu
      clear hbl hbu HBu HB0
      go_wp2_with fail
      refine (bstring_any w.heap.size w.heap.size (lstr s) wr HU.out HB.out.size).mono ?_
      rintro e w2 ⟨rfl, hb2⟩
      have HB2 := Lib.hid (HB.out.trans hb2)
      clear HU HB hb2
      go_wp2
      go_ret
      exact ⟨rfl, HB2.out⟩

theorem texts_one (s : ByteArray) (p : Addr) (cap : Nat) (w : World) (hs : s.size ≤ 1099511627776) (hp : p.block < w.heap.size) (hc : w.cell? p = some (.string s)) :
    Calls Try.prog 18 #[.slice (some p) 1 cap] w fun e w' => e = .returned (.string (lstr s)) ∧ Below w.heap.size w w' := by
  have H := all_one s p cap w hs hp hc
  go_enter Try.func18, Try.ntmps18
  go_wp2_with fail
  refine H.mono ?_
  rintro e w2 ⟨rfl, hb2⟩
  have HB := Lib.hid hb2
  clear hb2 H
  go_wp2
  go_ret
  exact ⟨rfl, HB.out⟩

theorem vtext_any (s : ByteArray) (w : World) (hs : s.size ≤ 1099511627776) :
    Calls Try.prog 22 #[.string s] w fun e w' => e = .returned (.string (lstr s)) ∧ Below w.heap.size w w' := by
  have hl := Var.enc_len_le 9 s.size
  rw [← str_size] at hl
  have hc := vuint_any 9 s.size w (by omega) (Nat.lt_of_le_of_lt hs (by decide)) (by omega)
  have hu : Calls Try.prog 37 #[.int .u64 s.size] w fun e w' => e = .returned (.string (str (Var.enc 9 s.size))) ∧ Below w.heap.size w w' := by
    go_enter Try.func37, Try.ntmps37
    go_wp2_with fail
    refine hc.mono ?_
    rintro e w2 ⟨rfl, hb2⟩
    have HB := Lib.hid hb2
    clear hb2 hc
    go_wp2
    go_ret
    exact ⟨rfl, HB.out⟩
  unfold lstr
  clear hc
  go_enter Try.func22, Try.ntmps22
  go_wp2_with fail
  refine hu.mono ?_
  rintro e w1 ⟨rfl, hb⟩
  have HB := Lib.hid hb
  clear hb hu
  go_wp2
  go_ret
  exact ⟨rfl, HB.out⟩
end Go.Proofs.Ytpnjcgpnannjaaa
