/- FrameWrites: its walk. -/
import Derived.Test.YtpnjcgpnannjaaaFrR
import Derived.SliceStrings
namespace Go.Proofs.Ytpnjcgpnannjaaa
open Go.RowKit
set_option linter.unusedVariables false

theorem textRow_open {w : World} {a : Addr} {len : Nat} {ss : List ByteArray} (h : ∀ i, i < ss.length → w.cell? (a.add i) = some (.string (ss.getD i ByteArray.empty))) (hlen : len ≤ ss.length) : TextRow w (some a) (ss.take len) := by
  refine ⟨fun j hj => ?_⟩
  have hj' : j < ss.length := by rw [List.length_take] at hj; omega
  have h0 := h 0 (by omega)
  have hs : a.spot = none := by
    unfold World.cell? Addr.add at h0
    simp only [if_true] at h0
    split at h0
    · split at h0
      · cases h0
      · rename_i hsp
        simpa using hsp
    · cases h0
  have hb : a.block < w.heap.size := by
    have h1 := h 0 (by omega)
    rcases Nat.lt_or_ge a.block w.heap.size with hlt | hge
    · exact hlt
    · unfold World.cell? at h1
      rw [block_of_add, Array.getElem?_eq_none hge] at h1
      cases h1
  obtain ⟨b, o, sp⟩ := a
  simp only at hs hb
  subst hs
  refine ⟨b, o, rfl, hb, ?_⟩
  have h1 := h j hj'
  rw [show (⟨b, o, none⟩ : Addr).add j = ⟨b, o + j, none⟩ by unfold Addr.add; split <;> simp_all] at h1
  rw [h1]
  simp [List.getD, List.getElem?_eq_getElem hj']
section
open Go.ChangeShapes Go.WideShapes
theorem open_texts {H : Type} {enc : TypeId × Value → H} {W : World} {base : Nat} {spare : Nat → Bool} {held : Bool} {fuel : Nat} {A : Option Addr} {len cap : Nat} {x : DataW H × List MemPlace}
    (h : DataW.trod enc Try.prog W base spare held fuel 22 [.slice A len cap] = some x) :
    ∃ xs : List ByteArray, xs.length = len ∧ TextRow W A xs ∧ len ≤ cap ∧ cap ≤ 9223372036854775807 ∧ ∀ x ∈ xs, x.size ≤ 9223372036854775807 := by
  rcases open_strings Try.underlying22 Try.underlying9 (by kernel_rfl) h with ⟨hcs, _⟩ | ⟨a, len', cap', ss, hcs, _, hl, hm, hz, _, hcell, hws⟩
  · simp only [List.cons.injEq, Value.slice.injEq, and_true] at hcs
    obtain ⟨rfl, rfl, rfl⟩ := hcs
    exact ⟨[], rfl, ⟨fun k hk => by simp at hk⟩, Nat.le_refl _, by omega, by simp⟩
  · simp only [List.cons.injEq, Value.slice.injEq, and_true] at hcs
    obtain ⟨rfl, rfl, rfl⟩ := hcs
    have hle : len ≤ ss.length := by rw [hz]; split <;> omega
    refine ⟨ss.take len, by rw [List.length_take]; omega, textRow_open hcell hle, hl, by simpa [maxLen] using hm, fun y hy => by simpa [maxLen] using hws y (List.mem_of_mem_take hy)⟩
end
theorem fraw_size (tag : Nat) (s : ByteArray) (h : s.size ≤ 131072) : (fraw tag s).size = fsize s.size := by
  unfold fraw
  rw [ByteArray.size_append, fhead_size, lstr_size, Var.size_enc _ h]
  have : (⟨(sumBytes (Crc.on 0 (bs (fhead tag s)))).toArray⟩ : ByteArray).size = 4 := by simp [ByteArray.size, sumBytes]
  rw [this]
  unfold fsize
  omega

set_option maxHeartbeats 4000000 in
set_option maxRecDepth 100000 in
theorem writes_any (tag : Nat) (xs : List ByteArray) (A : Option Addr) (cap : Nat) (n : Int) (w : World) (ht : tag < 256) (hr : TextRow w A xs) (hn : xs.length ≤ cap) (hcap : cap ≤ 9223372036854775807) (hw : ∀ x ∈ xs, x.size ≤ 9223372036854775807) (hm1 : -9223372036854775808 ≤ n) (hm2 : n ≤ 9223372036854775807) :
    Calls Try.prog 3 #[.int .u8 tag, .slice A xs.length cap, .int .i64 n] w fun e w' => e = .returned (.bool true) ∧ Below w.heap.size w w' := by
  have HR := Lib.hid hr
  have HW := Lib.hid hw
  clear hr hw
  go_enter Try.func3, Try.ntmps3
  go_wp2_with fail
  go_loop [7, 8] (fun t i => ∃ k : Nat, k ≤ xs.length ∧ (k = 0 ∨ xs.length ≤ 100) ∧ i = .int .i64 k ∧ t = .string (cat (xs.take k)) ∧ sum (xs.take k) ≤ 1024 * k) (fun _ i => xs.length - (intOf i).toNat)
  case atStart => exact ⟨0, by omega, .inl rfl, rfl, rfl, by simp [sum, cat, ByteArray.size]⟩
  case round =>
    obtain ⟨k, hk, hk0, rfl, rfl, hsum⟩ := hrel
    by_cases hlt : k < xs.length
    · obtain ⟨g, off, rfl, hg, hck⟩ := HR.out.at_ k hlt
      have hst := sum_take xs k hlt
      have hct : cat (xs.take (k + 1)) = cat (xs.take k) ++ xs[k] := by rw [take_snoc xs k hlt, cat_snoc]
      have hxw := HW.out _ (List.getElem_mem hlt)
      have hsz : (cat (xs.take k)).size = sum (xs.take k) := rfl
      generalize xs[k] = y at *
      generalize cat (xs.take k) = T at *
      generalize sum (xs.take k) = S at *
      have HST := Lib.hid hst
      have HCT := Lib.hid hct
      clear hst hct
      by_cases h1 : 100 < xs.length
      · go_wp2_with fail
        refine (alive_any4 _).mono ?_
        rintro e w' ⟨rfl, hb⟩
        go_wp2
        go_ret
        exact ⟨rfl, hb⟩
      · by_cases h2 : 1024 < y.size
        · go_wp2_with fail
          refine (alive_any4 _).mono ?_
          rintro e w' ⟨rfl, hb⟩
          go_wp2
          go_ret
          exact ⟨rfl, hb⟩
        · have hsum2 : T.size + y.size ≤ 9223372036854775807 := by omega
          clear hsz
          go_wp2_with fail
          go_round
          case rel => exact ⟨k + 1, by omega, .inr (by omega), by go_num, by rw [HCT.out], by rw [HST.out]; omega⟩
          case measure => simp [intOf]; omega
    · obtain rfl : k = xs.length := by omega
      rw [List.take_length] at hsum
      simp only [List.take_length]
      have hTs : (cat xs).size = sum xs := rfl
      by_cases hbig : 4096 < sum xs
      · generalize cat xs = T at *
        generalize sum xs = S at *
        subst hTs
        go_wp2_with fail
        refine (alive_any4 _).mono ?_
        rintro e w' ⟨rfl, hb⟩
        go_wp2
        go_ret
        exact ⟨rfl, hb⟩
      · have hFs := fraw_size tag (cat xs) (by omega)
        have hWr : Hid (Calls Try.prog 9 #[.int .u8 tag, .slice A xs.length cap] w fun e w' => e = .returned (.tuple #[.string (fraw tag (cat xs)), .int .i64 0]) ∧ Below w.heap.size w w') := Lib.hid (by
          have := fwrite_any tag xs A cap w ht HR.out hn hcap (by omega)
          rw [if_neg (by omega), if_neg (by omega)] at this
          exact this)
        have hRw : ∀ W, Hid (Calls Try.prog 10 #[.int .u8 tag, .string (cat xs)] W fun e w' => e = .returned (.string (fraw tag (cat xs))) ∧ Below W.heap.size W w') := fun W => Lib.hid (fraw_any tag (cat xs) W ht (by omega))
        have hSt : ∀ W, Hid (Calls Try.prog 11 #[.int .i64 ((cat xs).size : Int)] W fun e w' => e = .returned (.int .i64 ((fraw tag (cat xs)).size : Int)) ∧ w' = W) := fun W => Lib.hid (by
          have := fsize_any ((cat xs).size : Int) W (by omega) (by omega)
          rw [if_neg (by omega), Int.toNat_natCast, ← hFs] at this
          exact this)
        have hFle : (fraw tag (cat xs)).size ≤ 1000000 := by rw [hFs]; have := vsize_le (cat xs).size; unfold fsize; omega
        have hSn0 := fun W => fsize_any n W hm1 hm2
        clear hFs
        rw [← hTs] at hbig hsum
        clear hTs
        generalize fraw tag (cat xs) = F at *
        generalize cat xs = T at *
        by_cases hn1 : n < 0 ∨ 131072 < n
        · have hSn : ∀ W, Hid (Calls Try.prog 11 #[.int .i64 n] W fun e w' => e = .returned (.int .i64 0) ∧ w' = W) := fun W => Lib.hid (by
            have := hSn0 W
            rw [if_pos hn1] at this
            exact this)
          clear hSn0
          rcases hn1 with hn1 | hn1
          · go_wp2_with fail
            refine hWr.out.mono ?_
            rintro e w1 ⟨rfl, hb⟩
            have HB1 := Lib.hid hb
            clear hb
            go_wp2_with fail
            refine (hRw _).out.mono ?_
            rintro e w2 ⟨rfl, hb⟩
            have HB2 := Lib.hid (HB1.out.trans (Below.mono hb HB1.out.size))
            clear hb
            go_wp2_with fail
            refine (hSt _).out.mono ?_
            rintro e w' ⟨rfl, rfl⟩
            go_wp2_with fail
            refine (hSn _).out.mono ?_
            rintro e w' ⟨rfl, rfl⟩
            go_wp2_with fail
            refine (alive_any4 _).mono ?_
            rintro e w3 ⟨rfl, hb⟩
            have HB3 := Lib.hid (HB2.out.trans (Below.mono hb HB2.out.size))
            clear hb
            go_wp2
            go_ret
            exact ⟨rfl, HB3.out⟩
          · go_wp2_with fail
            refine hWr.out.mono ?_
            rintro e w1 ⟨rfl, hb⟩
            have HB1 := Lib.hid hb
            clear hb
            go_wp2_with fail
            refine (hRw _).out.mono ?_
            rintro e w2 ⟨rfl, hb⟩
            have HB2 := Lib.hid (HB1.out.trans (Below.mono hb HB1.out.size))
            clear hb
            go_wp2_with fail
            refine (hSt _).out.mono ?_
            rintro e w' ⟨rfl, rfl⟩
            go_wp2_with fail
            refine (hSn _).out.mono ?_
            rintro e w' ⟨rfl, rfl⟩
            go_wp2_with fail
            refine (alive_any4 _).mono ?_
            rintro e w3 ⟨rfl, hb⟩
            have HB3 := Lib.hid (HB2.out.trans (Below.mono hb HB2.out.size))
            clear hb
            go_wp2
            go_ret
            exact ⟨rfl, HB3.out⟩
        · obtain ⟨m, rfl⟩ : ∃ m : Nat, n = m := ⟨n.toNat, by omega⟩
          by_cases hc1 : m < 128
          · have hSn : ∀ W, Hid (Calls Try.prog 11 #[.int .i64 (m : Int)] W fun e w' => e = .returned (.int .i64 (7 + (m : Int))) ∧ w' = W) := fun W => Lib.hid (by
              have := hSn0 W
              rw [if_neg hn1, Int.toNat_natCast, show (fsize m : Int) = 7 + (m : Int) by unfold fsize Var.size; rw [if_pos hc1]; omega] at this
              exact this)
            clear hSn0
            go_wp2_with fail
            refine hWr.out.mono ?_
            rintro e w1 ⟨rfl, hb⟩
            have HB1 := Lib.hid hb
            clear hb
            go_wp2_with fail
            refine (hRw _).out.mono ?_
            rintro e w2 ⟨rfl, hb⟩
            have HB2 := Lib.hid (HB1.out.trans (Below.mono hb HB1.out.size))
            clear hb
            go_wp2_with fail
            refine (hSt _).out.mono ?_
            rintro e w' ⟨rfl, rfl⟩
            go_wp2_with fail
            refine (hSn _).out.mono ?_
            rintro e w' ⟨rfl, rfl⟩
            go_wp2_with fail
            refine (alive_any4 _).mono ?_
            rintro e w3 ⟨rfl, hb⟩
            have HB3 := Lib.hid (HB2.out.trans (Below.mono hb HB2.out.size))
            clear hb
            go_wp2
            go_ret
            exact ⟨rfl, HB3.out⟩
          · by_cases hc2 : m < 16384
            · have hSn : ∀ W, Hid (Calls Try.prog 11 #[.int .i64 (m : Int)] W fun e w' => e = .returned (.int .i64 (7 + (m : Int) + 1)) ∧ w' = W) := fun W => Lib.hid (by
                have := hSn0 W
                rw [if_neg hn1, Int.toNat_natCast, show (fsize m : Int) = 7 + (m : Int) + 1 by unfold fsize Var.size; rw [if_neg hc1, if_pos hc2]; omega] at this
                exact this)
              clear hSn0
              go_wp2_with fail
              refine hWr.out.mono ?_
              rintro e w1 ⟨rfl, hb⟩
              have HB1 := Lib.hid hb
              clear hb
              go_wp2_with fail
              refine (hRw _).out.mono ?_
              rintro e w2 ⟨rfl, hb⟩
              have HB2 := Lib.hid (HB1.out.trans (Below.mono hb HB1.out.size))
              clear hb
              go_wp2_with fail
              refine (hSt _).out.mono ?_
              rintro e w' ⟨rfl, rfl⟩
              go_wp2_with fail
              refine (hSn _).out.mono ?_
              rintro e w' ⟨rfl, rfl⟩
              go_wp2_with fail
              refine (alive_any4 _).mono ?_
              rintro e w3 ⟨rfl, hb⟩
              have HB3 := Lib.hid (HB2.out.trans (Below.mono hb HB2.out.size))
              clear hb
              go_wp2
              go_ret
              exact ⟨rfl, HB3.out⟩
            · have hSn : ∀ W, Hid (Calls Try.prog 11 #[.int .i64 (m : Int)] W fun e w' => e = .returned (.int .i64 (7 + (m : Int) + 1 + 1)) ∧ w' = W) := fun W => Lib.hid (by
                have := hSn0 W
                rw [if_neg hn1, Int.toNat_natCast, show (fsize m : Int) = 7 + (m : Int) + 1 + 1 by unfold fsize Var.size; rw [if_neg hc1, if_neg hc2]; omega] at this
                exact this)
              clear hSn0
              go_wp2_with fail
              refine hWr.out.mono ?_
              rintro e w1 ⟨rfl, hb⟩
              have HB1 := Lib.hid hb
              clear hb
              go_wp2_with fail
              refine (hRw _).out.mono ?_
              rintro e w2 ⟨rfl, hb⟩
              have HB2 := Lib.hid (HB1.out.trans (Below.mono hb HB1.out.size))
              clear hb
              go_wp2_with fail
              refine (hSt _).out.mono ?_
              rintro e w' ⟨rfl, rfl⟩
              go_wp2_with fail
              refine (hSn _).out.mono ?_
              rintro e w' ⟨rfl, rfl⟩
              go_wp2_with fail
              refine (alive_any4 _).mono ?_
              rintro e w3 ⟨rfl, hb⟩
              have HB3 := Lib.hid (HB2.out.trans (Below.mono hb HB2.out.size))
              clear hb
              go_wp2
              go_ret
              exact ⟨rfl, HB3.out⟩
end Go.Proofs.Ytpnjcgpnannjaaa
