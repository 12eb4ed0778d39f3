/- The walks of frame.Size, thresherref04.Raw. -/
import Derived.Test.YtpnjcgpnannjaaaStrD
namespace Go.Proofs.Ytpnjcgpnannjaaa
open Go.RowKit
set_option linter.unusedVariables false

/-- how many bytes a frame has -/
def fsize (n : Nat) : Nat := 6 + Var.size n + n
theorem vsize_le (n : Nat) : 1 ≤ Var.size n ∧ Var.size n ≤ 3 := by unfold Var.size; split <;> (try split) <;> omega
theorem fsize_any (n : Int) (w : World) (h1 : -9223372036854775808 ≤ n) (h2 : n ≤ 9223372036854775807) :
    Calls Try.prog 11 #[.int .i64 n] w fun e w' => e = .returned (.int .i64 (if n < 0 ∨ 131072 < n then 0 else (fsize n.toNat : Int))) ∧ w' = w := by
  by_cases hn : n < 0
  · rw [if_pos (.inl hn)]
    go_enter Try.func11, Try.ntmps11
    go_wp2
    go_ret
    exact ⟨rfl, rfl⟩
  · by_cases hb : 131072 < n
    · rw [if_pos (.inr hb)]
      go_enter Try.func11, Try.ntmps11
      go_wp2
      go_ret
      exact ⟨rfl, rfl⟩
    · obtain ⟨m, rfl⟩ : ∃ m : Nat, n = m := ⟨n.toNat, by omega⟩
      have hm : m ≤ 131072 := by omega
      rw [if_neg (by omega)]
      have hv := vsize_le m
      have hc := nsize_any m w hm
      unfold fsize
      rw [Int.toNat_natCast]
      generalize Var.size m = v at *
      go_enter Try.func11, Try.ntmps11
      go_wp2_with fail
      refine hc.mono ?_
      rintro e w' ⟨rfl, rfl⟩
      clear hc
      go_wp2
      go_ret
      refine ⟨?_, rfl⟩
      simp
      omega

/-- what stands ahead of a frame's sum -/
def fhead (tag : Nat) (s : ByteArray) : ByteArray := str [1, tag] ++ lstr s
def fraw (tag : Nat) (s : ByteArray) : ByteArray := fhead tag s ++ ⟨(sumBytes (Crc.on 0 (bs (fhead tag s)))).toArray⟩
theorem conv_two (c d : Nat) (W : World) (g : Nat) (h0 : W.cell? ⟨g, 0, none⟩ = some (.int .u8 (c : Int))) (h1 : W.cell? ⟨g, 1, none⟩ = some (.int .u8 (d : Int))) :
    (convert 44 9 (.slice (some ⟨g, 0, none⟩) 2 2)).run Try.prog W = .ok (.string (str [c, d])) W := by
  have := run_convert_bytes_arg (P := Try.prog) W 44 5 Try.underlying44 Try.underlying5 g 0 2 2 [(c : Int), (d : Int)] rfl
    (fun i hi => by
      match i, hi with
      | 0, _ => simpa using h0
      | 1, _ => simpa using h1) 9 Try.underlying9
  simpa [strOfNums, str] using this
theorem lstr_le (s : ByteArray) : (lstr s).size ≤ 10 + s.size := by have := lstr_size s; have := Var.enc_len_le 9 s.size; omega
theorem fhead_size (tag : Nat) (s : ByteArray) : (fhead tag s).size = 2 + (lstr s).size := by unfold fhead; rw [ByteArray.size_append, str_size]; rfl

set_option maxHeartbeats 3000000 in
set_option maxRecDepth 100000 in
theorem fraw_any (tag : Nat) (s : ByteArray) (w : World) (ht : tag < 256) (hs : s.size ≤ 4294967296) :
    Calls Try.prog 10 #[.int .u8 tag, .string s] w fun e w' => e = .returned (.string (fraw tag s)) ∧ Below w.heap.size w w' := by
  have hl := lstr_le s
  have hT : ∀ W, Hid (Calls Try.prog 22 #[.string s] W fun e w' => e = .returned (.string (lstr s)) ∧ Below W.heap.size W w') := fun W => Lib.hid (vtext_any s W (by omega))
  have hfs := fhead_size tag s
  have hO : ∀ W, Hid (Calls Try.prog 24 #[.string (fhead tag s)] W fun e w' => e = .returned (.int .u32 (Crc.on 0 (bs (fhead tag s)))) ∧ Below W.heap.size W w') := fun W => Lib.hid (rof_any _ W (by omega))
  have hon := Crc.on_lt (a := 0) (by omega) (bs_lt (fhead tag s))
  have hB : ∀ W, Hid (Calls Try.prog 23 #[.int .u32 (Crc.on 0 (bs (fhead tag s)))] W fun e w' => e = .returned (.string ⟨(sumBytes (Crc.on 0 (bs (fhead tag s)))).toArray⟩) ∧ Below W.heap.size W w') := fun W => Lib.hid (rbytes_any _ W hon)
  have hcz := fun (W : World) (g : Nat) => conv_two 1 tag W g
  have h4 : (⟨(sumBytes (Crc.on 0 (bs (fhead tag s)))).toArray⟩ : ByteArray).size = 4 := by simp [ByteArray.size, sumBytes]
  unfold fraw
  have hdef : str [1, tag] ++ lstr s = fhead tag s := rfl
  have h2 : (str [1, tag]).size = 2 := str_size _
  generalize (⟨(sumBytes (Crc.on 0 (bs (fhead tag s)))).toArray⟩ : ByteArray) = sb at *
  generalize Crc.on 0 (bs (fhead tag s)) = q at *
  generalize fhead tag s = fh at *
  generalize lstr s = ls at *
  generalize str [1, tag] = s2 at *
  clear hon
  have hsum : s2.size + ls.size ≤ 9223372036854775807 := by omega
  have hsum2 : fh.size + sb.size ≤ 9223372036854775807 := by omega
  clear h2 h4 hfs hl
  go_enter Try.func10, Try.ntmps10
  go_wp2_with fail
  have HB := Lib.hid (Below.refl w.heap.size w)
  have HC0 : Hid ((w.alloc (.cells #[.int .u8 1, .int .u8 (tag : Int)] 5)).drew.cell? ⟨w.heap.size, 0, none⟩ = some (.int .u8 ((1 : Nat) : Int))) := Lib.hid (by simp)
  have HC1 : Hid ((w.alloc (.cells #[.int .u8 1, .int .u8 (tag : Int)] 5)).drew.cell? ⟨w.heap.size, 1, none⟩ = some (.int .u8 (tag : Int))) := Lib.hid (by simp)
  have HL : Hid (w.heap.size < (w.alloc (.cells #[.int .u8 1, .int .u8 (tag : Int)] 5)).drew.heap.size) := Lib.hid (by simp)
  go_region_with (first
    | (go_at_call 22; refine (hT w.drew).out.mono ?_; rintro e w' ⟨rfl, hb⟩; replace HB := Lib.hid ((Below.refl _ w).drew.trans hb))
    | (go_at_call 22; refine (hT (w.alloc (.cells #[.int .u8 1, .int .u8 (tag : Int)] 5)).drew).out.mono ?_; rintro e w' ⟨rfl, hb⟩; have hc1 := hcz _ _ ((hb.cell (p := ⟨w.heap.size, 0, none⟩) HL.out).trans HC0.out) ((hb.cell (p := ⟨w.heap.size, 1, none⟩) HL.out).trans HC1.out); replace HB := Lib.hid ((((Below.refl w.heap.size w).alloc (Nat.le_refl _) _).drew).trans (hb.mono (Nat.le_of_lt HL.out)))))
  all_goals
    go_wp2_with fail
    refine (hO _).out.mono ?_
    rintro e w5 ⟨rfl, hb5⟩
    have H5 := Lib.hid hb5
    clear hb5
    go_wp2_with fail
    refine (hB _).out.mono ?_
    rintro e w6 ⟨rfl, hb6⟩
    have H6 := Lib.hid hb6
    clear hb6
    go_wp2
    go_ret
    first
      | exact ⟨rfl, HB.out.trans ((H5.out.trans (H6.out.mono H5.out.size)).mono HB.out.size)⟩
      | exact ⟨rfl, (HB.out.alloc HB.out.size _).trans ((H5.out.trans (H6.out.mono H5.out.size)).mono (HB.out.alloc HB.out.size _).size)⟩
end Go.Proofs.Ytpnjcgpnannjaaa
