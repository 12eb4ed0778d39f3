/- The walk of num.Uint: a number's bytes. -/
import Derived.Test.YtpnjcgpnannjaaaNumM
import Derived.Test.YtpnjcgpnannjaaaSumP
import Derived.Laws.BitsAllLaws
import Derived.Laws.BytesArg
import Derived.Deep.QuietTactic
import Derived.BigQuiet
import Derived.Deep.RegionHeld3
import Derived.Deep.Cut
import Derived.Deep.CutRange
import Derived.Deep.CutBlock
import Derived.Deep.RegionWith
namespace Go.Proofs.Ytpnjcgpnannjaaa
open Go.RowKit
set_option linter.unusedVariables false

/-- the string of these bytes -/
def str (l : List Nat) : ByteArray := ⟨(l.map UInt8.ofNat).toArray⟩
def u8s (l : List Nat) : List Value := l.map fun c : Nat => Value.int .u8 (c : Int)
theorem str_nums (l : List Nat) : strOfNums (l.map (fun c : Nat => (c : Int))) = str l := by
  unfold strOfNums str
  rw [List.map_map]; rfl
theorem str_size (l : List Nat) : (str l).size = l.length := by simp [str, ByteArray.size]
theorem bs_str (l : List Nat) (h : ∀ c ∈ l, c < 256) : bs (str l) = l := by
  unfold bs str
  simp only [List.map_map]
  rw [List.map_congr_left (g := id) (fun c hc => by simp [Function.comp]; have := h c hc; omega), List.map_id]
theorem str_bs (s : ByteArray) : str (bs s) = s := by
  unfold str bs
  rw [List.map_map, List.map_congr_left (g := id) (fun c _ => by simp [Function.comp]), List.map_id]
theorem str_append (l m : List Nat) : str l ++ str m = str (l ++ m) := by
  apply ByteArray.ext
  simp [str]
theorem bs_append (s t : ByteArray) : bs (s ++ t) = bs s ++ bs t := by simp [bs]
theorem bs_inj {s t : ByteArray} (h : bs s = bs t) : s = t := by rw [← str_bs s, ← str_bs t, h]
theorem strOf_owned {w : World} {base : Nat} {v : Value} {l : List Nat} (h : w.ownsRow base 5 1 v l.length (u8s l)) :
    ∀ dst, Try.prog.underlying dst = some .string → (convert 44 dst v).run Try.prog w = .ok (.string (str l)) w := by
  intro dst hd
  rcases owns_form h with ⟨rfl, h0⟩ | ⟨g, cap, rfl, _⟩
  · have : l = [] := List.eq_nil_of_length_eq_zero h0
    subst this
    exact run_convert_bytes_nil w 44 5 Try.underlying44 Try.underlying5 0 0 dst hd
  · have hc := run_convert_bytes_arg (P := Try.prog) w 44 5 Try.underlying44 Try.underlying5 g 0 l.length cap (l.map (fun c : Nat => (c : Int))) (by simp) (fun i hi => by
      have := h.cells (g := g) rfl i (.int .u8 ((l.map (fun c : Nat => (c : Int))).getD i 0)) (by simp [u8s, List.getD, List.getElem?_eq_getElem hi])
      rw [Nat.zero_add]
      rcases Nat.eq_zero_or_pos i with h0 | h0
      · subst h0; simpa [Addr.add] using this
      · rw [show (⟨g, 0, none⟩ : Addr).add i = ⟨g, i, none⟩ by simp [Addr.add]; omega] at this; exact this) dst hd
    rw [str_nums] at hc
    exact hc

set_option maxHeartbeats 1000000 in
set_option maxRecDepth 100000 in
theorem nuint_any (x0 : Nat) (w : World) (hx0 : x0 < 18446744073709551616) :
    Calls Try.prog 32 #[.int .u64 x0] w fun e w' => e = .returned (.string (str (Var.enc 9 x0))) ∧ Below w.heap.size w w' := by
  obtain ⟨i0, hi, hz0, hz1, hz2⟩ := info_parts (show (Try.prog.info? 5).map (fun i => (i.zero, i.size, i.bytes)) = some (some (.int .u8 0), 1, 1) by kernel_rfl)
  go_enter Try.func32, Try.ntmps32
  go_wp2
  go_loopw [0, 3] (fun x b wr => ∃ (k y : Nat) (pre : List Nat), k ≤ 9 ∧ y < 128 ^ (9 - k + 1) ∧ y < 18446744073709551616 ∧ x = .int .u64 y ∧ Var.enc 9 x0 = pre ++ Var.enc (9 - k) y ∧ pre.length = k ∧ wr.ownsRow w.heap.size 5 1 b pre.length (u8s pre) ∧ Below w.heap.size w wr) (fun x _ _ => (intOf x).toNat)
  case atStart => exact ⟨0, x0, [], by omega, by omega, hx0, rfl, rfl, rfl, World.ownsRow_nil _ _ _ _, Below.refl _ _⟩
  case round =>
    obtain ⟨k, y, pre, hk, hy, hy64, rfl, he, hpre, how, hbl⟩ := hrel
    have HE := Lib.hid he
    have HW := Lib.hid how
    have HB := Lib.hid hbl
    have HP := Lib.hid hpre
    clear he how hbl hpre
    by_cases hb : 128 ≤ y
    · obtain ⟨m, hm⟩ : ∃ m, 9 - k = m + 1 := by
        refine ⟨9 - k - 1, ?_⟩
        rcases Nat.eq_zero_or_pos (9 - k) with h0 | h0
        · rw [h0] at hy; simp at hy; omega
        · omega
      have HM := Lib.hid hm
      have HY := Lib.hid hy
      clear hm hy
      have hor : bits .or .u8 ((y : Int) % 256) 128 = ((128 + y % 128 : Nat) : Int) := by
        have h := u8_or_nat (y % 256) 128 (by omega) (by omega)
        rw [Var.or128] at h
        simpa using h
      go_wp2_with (at_builtin; refine wpList_append_any _ rfl (.tmp 8) (.tmp 12) 44 rfl w.heap.size 5 i0 (.int .u8 0) 1 1 Try.underlying44 hi hz0 hz1 hz2 rfl (by decide) _ _ _ rfl (HW.out.alloc _) _ _ _ _ _ rfl (reads_one _) ?c2 ?c3 ?c4 ?c5 ?_)
      case c2 => intro u hu; simp at hu; subst hu; rfl
      case c3 => unfold maxLen; have := HP.out; omega
      case c4 => have := HP.out; omega
      case c5 => simp; have := HB.out.size; omega
      intro v' w2 hown' hgrow hnew
      have hlt2 := HW.out.lt
      have Hb := Lib.hid (HB.out.trans (((Below.refl w.heap.size wr).alloc HB.out.size (.cells #[.int .u8 ((128 + y % 128 : Nat) : Int)] 5)).grown hgrow (by simp; have := HB.out.size; omega) (fun k hk => (hlt2 k hk).1)))
      have Ho := Lib.hid hown'
      clear hown' hgrow hnew hlt2
      go_wp2_with fail
      go_roundw
      case rel =>
        refine ⟨k + 1, y / 128, pre ++ [128 + y % 128], by have := HM.out; omega, ?_, by omega, by go_num, ?_, by simp [HP.out], ?_, Hb.out⟩
        · have h1 := HY.out
          rw [HM.out, Nat.pow_succ] at h1
          rw [show 9 - (k + 1) = m by have := HM.out; omega]
          omega
        · rw [HE.out, HM.out, Var.enc_big _ _ hb, show 9 - (k + 1) = m by have := HM.out; omega]; simp
        · simpa [u8s] using Ho.out
      case measure => simp [intOf]; omega
    · have hlast : Var.enc (9 - k) y = [y] := Var.enc_small _ _ (by omega)
      rw [hlast] at HE
      clear hlast
      go_wp2_with (at_builtin; refine wpList_append_any _ rfl (.tmp 14) (.tmp 17) 44 rfl w.heap.size 5 i0 (.int .u8 0) 1 1 Try.underlying44 hi hz0 hz1 hz2 rfl (by decide) _ _ _ rfl (HW.out.alloc _) _ _ _ _ _ rfl (reads_one _) ?c2 ?c3 ?c4 ?c5 ?_)
      case c2 => intro u hu; simp at hu; subst hu; rfl
      case c3 => unfold maxLen; have := HP.out; omega
      case c4 => have := HP.out; omega
      case c5 => simp; have := HB.out.size; omega
      intro v' w2 hown' hgrow hnew
      have hlt2 := HW.out.lt
      have Hb := Lib.hid (HB.out.trans (((Below.refl w.heap.size wr).alloc HB.out.size (.cells #[.int .u8 (y : Int)] 5)).grown hgrow (by simp; have := HB.out.size; omega) (fun k hk => (hlt2 k hk).1)))
      have Ho : Hid (w2.ownsRow w.heap.size 5 1 v' (Var.enc 9 x0).length (u8s (Var.enc 9 x0))) := Lib.hid (by
        rw [HE.out]
        simpa [u8s] using hown')
      have hcv := strOf_owned Ho.out 9 Try.underlying9
      clear hown' hgrow hnew hlt2 HE HW HB
      go_wp2_with fail
      go_ret
      exact ⟨rfl, Hb.out⟩

set_option maxHeartbeats 1000000 in
set_option maxRecDepth 100000 in
theorem vuint_any (n : Nat) : ∀ (x : Nat) (w : World), n ≤ 1000 → x < 128 ^ (n + 1) → x < 18446744073709551616 →
    Calls Try.prog 42 #[.int .u64 x] w fun e w' => e = .returned (.string (str (Var.enc n x))) ∧ Below w.heap.size w w' := by
  have hcv : ∀ (c : Nat) (w : World), (convert 44 9 (.slice (some ⟨w.heap.size, 0, none⟩) 1 1)).run Try.prog (w.alloc (.cells #[.int .u8 (c : Int)] 5)) = .ok (.string (str [c])) (w.alloc (.cells #[.int .u8 (c : Int)] 5)) := by
    intro c w
    have := run_convert_bytes_arg (P := Try.prog) (w.alloc (.cells #[.int .u8 (c : Int)] 5)) 44 5 Try.underlying44 Try.underlying5 w.heap.size 0 1 1 [(c : Int)] rfl
      (fun i hi => by
        rw [Nat.zero_add, World.cell?_alloc_new]
        match i, hi with
        | 0, _ => rfl) 9 Try.underlying9
    simpa [strOfNums, str] using this
  have hcg : ∀ (c : Nat) (W : World) (g : Nat), W.cell? ⟨g, 0, none⟩ = some (.int .u8 (c : Int)) → (convert 44 9 (.slice (some ⟨g, 0, none⟩) 1 1)).run Try.prog W = .ok (.string (str [c])) W := by
    intro c W g hW
    have := run_convert_bytes_arg (P := Try.prog) W 44 5 Try.underlying44 Try.underlying5 g 0 1 1 [(c : Int)] rfl
      (fun i hi => by
        match i, hi with
        | 0, _ => simpa using hW) 9 Try.underlying9
    simpa [strOfNums, str] using this
  induction n with
  | zero =>
    intro x w hn hx h64
    have hx' : x < 128 := by simpa using hx
    have hc := hcv x w
    clear hcv hcg hx hn
    go_enter Try.func42, Try.ntmps42
    have hw : (x : Int) % 256 = x := by omega
    go_wp2
    go_ret
    exact ⟨rfl, (Below.refl _ _).alloc (Nat.le_refl _) _⟩
  | succ n ih =>
    intro x w hn hx h64
    by_cases hx' : x < 128
    · have hc := hcv x w
      clear hcv hcg hx hn ih
      go_enter Try.func42, Try.ntmps42
      have hw : (x : Int) % 256 = x := by omega
      rw [Var.enc_small _ _ hx']
      go_wp2
      go_ret
      exact ⟨rfl, (Below.refl _ _).alloc (Nat.le_refl _) _⟩
    · have hx2 : x / 128 < 128 ^ (n + 1) := by rw [Nat.pow_succ] at hx; omega
      have IH : ∀ w : World, Hid (Calls Try.prog 42 #[.int .u64 ((x / 128 : Nat) : Int)] w fun e w' => e = .returned (.string (str (Var.enc n (x / 128)))) ∧ Below w.heap.size w w') := fun w => Lib.hid (ih (x / 128) w (by omega) hx2 (by omega))
      have hstr := str_append [128 + x % 128] (Var.enc n (x / 128))
      rw [Var.enc_big _ _ (by omega)]
      have hcz := hcg (128 + x % 128)
      have e1 : IntKind.u8.wrap (IntKind.u64.wrap (128 + (x : Int).tmod 128)) = ((128 + x % 128 : Nat) : Int) := by
        rw [Int.tmod_eq_emod_of_nonneg (by omega)]
        simp only [IntKind.wrap, IntKind.signed, IntKind.bits]
        simp
        omega
      have e3 : (x : Int).tdiv 128 = ((x / 128 : Nat) : Int) := by rw [Int.tdiv_eq_ediv_of_nonneg (by omega)]; omega
      have e4 : IntKind.u64.wrap ((x / 128 : Nat) : Int) = ((x / 128 : Nat) : Int) := by
        simp only [IntKind.wrap, IntKind.signed, IntKind.bits]
        simp
        omega
      have hl : str ((128 + x % 128) :: Var.enc n (x / 128)) = str [128 + x % 128] ++ str (Var.enc n (x / 128)) := by rw [hstr]; rfl
      rw [hl]
      have hsz : (str [128 + x % 128]).size + (str (Var.enc n (x / 128))).size ≤ 9223372036854775807 := by
        rw [str_size, str_size]; simp only [List.length_singleton]
        have := Var.enc_len_le n (x / 128); omega
      clear hcv hcg hx hn ih hx2 hstr hl h64
      generalize str [128 + x % 128] = s1 at *
      generalize str (Var.enc n (x / 128)) = s2 at *
      generalize 128 + x % 128 = z at *
      generalize x / 128 = q at *
      go_enter Try.func42, Try.ntmps42
      go_wp2_with fail
      clear hx'
      have HB := Lib.hid (Below.refl w.heap.size w)
      have HC0 : Hid ((w.alloc (.cells #[.int .u8 (z : Int)] 5)).drew.cell? ⟨w.heap.size, 0, none⟩ = some (.int .u8 (z : Int))) := Lib.hid (by simp)
      have HL : Hid (w.heap.size < (w.alloc (.cells #[.int .u8 (z : Int)] 5)).drew.heap.size) := Lib.hid (by simp)
      go_region_with (first
        | (go_at_call 42; refine (IH w.drew).out.mono ?_; rintro e w' ⟨rfl, hb⟩; replace HB := Lib.hid ((Below.refl _ w).drew.trans hb))
        | (go_at_call 42; refine (IH (w.alloc (.cells #[.int .u8 (z : Int)] 5)).drew).out.mono ?_; rintro e w' ⟨rfl, hb⟩; have hc1 := hcz _ _ ((hb.cell (p := ⟨w.heap.size, 0, none⟩) HL.out).trans HC0.out); replace HB := Lib.hid ((((Below.refl w.heap.size w).alloc (Nat.le_refl _) _).drew).trans (hb.mono (Nat.le_of_lt HL.out)))))
      all_goals go_wp2_with fail
      all_goals go_ret
      all_goals first
        | exact ⟨rfl, HB.out⟩
        | exact ⟨rfl, HB.out.alloc HB.out.size _⟩
end Go.Proofs.Ytpnjcgpnannjaaa
