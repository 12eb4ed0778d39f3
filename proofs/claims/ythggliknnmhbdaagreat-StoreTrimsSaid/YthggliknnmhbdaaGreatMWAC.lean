/- Several texts in one: NumB, NumC, StrB, StrC, StrD, FrA, FrB. -/
import Derived.Test.YthggliknnmhbdaaGreatMWAB
import Derived.Test.YthggliknnmhbdaaGreatShelf
import Derived.WalkMore
import Derived.OwnWalk
import Derived.Deep.LoopGhost
import Derived.IntWalk
import Derived.Test.YthggliknnmhbdaaGreatMWAA
/- The walks of num.Size and num.Read. -/
namespace Go.Proofs.YthggliknnmhbdaaGreat
set_option maxRecDepth 100000
open Go.RowKit
set_option linter.unusedVariables false

namespace Var
theorem bitLenAux_le : ∀ (f x k : Nat), x < 2 ^ f → (Lib.bitLenAux f x ≤ k ↔ x < 2 ^ k) := by
  intro f
  induction f with
  | zero =>
    intro x k h
    have : x = 0 := by simpa using h
    subst this
    simp [Lib.bitLenAux, Nat.pow_pos]
  | succ f ih =>
    intro x k h
    simp only [Lib.bitLenAux]
    split
    · subst x
      simp [Nat.pow_pos]
    · cases k with
      | zero => simp; omega
      | succ k =>
        have := ih (x / 2) k (by rw [Nat.pow_succ] at h; omega)
        rw [Nat.pow_succ]
        omega
/-- how many bytes a small number has -/
def size (x : Nat) : Nat := if x < 128 then 1 else if x < 16384 then 2 else 3
theorem size_len (x : Nat) (h : x ≤ 131072) : max 1 ((Lib.bitLen x + 6) / 7) = size x := by
  have hb := fun k => bitLenAux_le 64 x k (by omega)
  have h7 := hb 7
  have h14 := hb 14
  have h21 := hb 21
  unfold size
  unfold Lib.bitLen
  simp only [Nat.reducePow] at h7 h14 h21
  split
  · omega
  · split
    · omega
    · omega
/-- how many bytes from 128 on stand at the front, n at most -/
def lead : Nat → List Nat → Nat
  | 0, _ => 0
  | _ + 1, [] => 0
  | n + 1, c :: l => if 128 ≤ c then lead n l + 1 else 0
theorem lead_eq : ∀ (n : Nat) (l : List Nat) (k : Nat), (∀ j, j < k → 128 ≤ l.getD j 0) → k ≤ n → k ≤ l.length → (k = n ∨ k = l.length ∨ l.getD k 0 < 128) → lead n l = k := by
  intro n
  induction n with
  | zero => intro l k _ h2 _ _; simp [lead]; omega
  | succ n ih =>
    intro l k h1 h2 h3 h4
    cases l with
    | nil => simp at h3; simp [lead]; omega
    | cons c l =>
      simp only [lead]
      cases k with
      | zero =>
        rw [if_neg]
        rcases h4 with h | h | h
        · omega
        · simp at h
        · simp at h; omega
      | succ k =>
        rw [if_pos (by simpa using h1 0 (by omega))]
        rw [ih l k (fun j hj => by simpa using h1 (j + 1) (by omega)) (by omega) (by simpa using h3) (by
          rcases h4 with h | h | h
          · left; omega
          · right; left; simpa using h
          · right; right; simpa using h)]
/-- what is read of bytes: the number, how many bytes it has, the error -/
def read (l : List Nat) : Nat × Nat × Nat :=
  if lead 10 l = 10 then (0, 0, 8) else if lead 10 l = l.length then (0, 0, 10) else
    if enc 9 (val (l.take (lead 10 l + 1)) % 18446744073709551616) = l.take (lead 10 l + 1) then (val (l.take (lead 10 l + 1)) % 18446744073709551616, lead 10 l + 1, 0) else (0, 0, 8)
theorem read_ten {l : List Nat} (h : ∀ j, j < 10 → 128 ≤ l.getD j 0) (hl : 10 ≤ l.length) : read l = (0, 0, 8) := by
  unfold read
  rw [lead_eq 10 l 10 h (by omega) hl (.inl rfl), if_pos rfl]
theorem read_short {l : List Nat} (h : ∀ j, j < l.length → 128 ≤ l.getD j 0) (hl : l.length < 10) : read l = (0, 0, 10) := by
  unfold read
  rw [lead_eq 10 l l.length h (by omega) (Nat.le_refl _) (.inr (.inl rfl)), if_neg (by omega), if_pos rfl]
theorem read_at {l : List Nat} {k : Nat} (h : ∀ j, j < k → 128 ≤ l.getD j 0) (hb : ∀ c ∈ l, c < 256) (hk : k < 10) (hl : k < l.length) (hz : l.getD k 0 < 128) :
    read l = if ((k = 0 ∨ l.getD k 0 ≠ 0) ∧ (k < 9 ∨ l.getD k 0 ≤ 1)) then (val (l.take (k + 1)) % 18446744073709551616, k + 1, 0) else (0, 0, 8) := by
  have hf : Form (l.take (k + 1)) (l.take k) (l.getD k 0) := by
    refine ⟨?_, ?_, hz⟩
    · rw [List.take_succ_eq_append_getElem hl]; simp [List.getD, List.getElem?_eq_getElem hl]
    · intro c hc
      obtain ⟨i, hi, rfl⟩ := List.mem_iff_getElem.1 hc
      have hi' : i < k := by rw [List.length_take] at hi; omega
      have h1 := h i hi'
      simp only [List.getD, List.getElem?_eq_getElem (show i < l.length by omega), Option.getD_some] at h1
      rw [List.getElem_take]
      exact ⟨h1, hb _ (List.getElem_mem _)⟩
  have hi := enc_iff hf (by have := List.length_take (i := k) (l := l); omega)
  unfold read
  rw [lead_eq 10 l k h (by omega) (by omega) (.inr (.inr hz)), if_neg (show ¬ k = 10 by omega), if_neg (show ¬ k = l.length by omega)]
  have hlen : (l.take k).length = k := by rw [List.length_take]; omega
  have h0 : (l.take k = [] ↔ k = 0) := by
    constructor
    · intro h; have := congrArg List.length h; rw [hlen] at this; simpa using this
    · rintro rfl; simp
  rw [hlen, h0] at hi
  by_cases hc : (k = 0 ∨ l.getD k 0 ≠ 0) ∧ (k < 9 ∨ l.getD k 0 ≤ 1)
  · rw [if_pos hc, if_pos (hi.2 hc)]
  · rw [if_neg hc, if_neg (fun h => hc (hi.1 h))]
theorem val_or (l : List Nat) (k z : Nat) (hk : k ≤ 9) (hl : l.length = k) (hz : z < 128) :
    (val l % 18446744073709551616) ||| (z * 2 ^ (7 * k) % 18446744073709551616) = (val l + 128 ^ k * z) % 18446744073709551616 := by
  have hv := val_lt l
  rw [hl] at hv
  have e7 : (128 : Nat) ^ k = 2 ^ (7 * k) := by rw [show (128 : Nat) = 2 ^ 7 from rfl, ← Nat.pow_mul]
  rw [e7] at hv ⊢
  have e64 : (18446744073709551616 : Nat) = 2 ^ (7 * k) * 2 ^ (64 - 7 * k) := by rw [← Nat.pow_add, show 7 * k + (64 - 7 * k) = 64 by omega]
  have hle : 2 ^ (7 * k) ≤ (18446744073709551616 : Nat) := by
    have : (2 : Nat) ^ (7 * k) ≤ 2 ^ 64 := Nat.pow_le_pow_right (by omega) (by omega)
    simpa using this
  rw [Nat.mod_eq_of_lt (Nat.lt_of_lt_of_le hv hle), Nat.mul_comm z, e64, Nat.mul_mod_mul_left]
  rw [Nat.or_comm, ← Nat.two_pow_add_eq_or_of_lt hv]
  rw [← e64, Nat.add_comm (val l), Nat.add_mod, Nat.mod_eq_of_lt (Nat.lt_of_lt_of_le hv hle), e64, Nat.mul_mod_mul_left]
  refine (Nat.mod_eq_of_lt ?_).symm
  have h1 : z % 2 ^ (64 - 7 * k) < 2 ^ (64 - 7 * k) := Nat.mod_lt _ (Nat.pow_pos (by omega))
  calc 2 ^ (7 * k) * (z % 2 ^ (64 - 7 * k)) + val l < 2 ^ (7 * k) * (z % 2 ^ (64 - 7 * k)) + 2 ^ (7 * k) := by omega
    _ = 2 ^ (7 * k) * (z % 2 ^ (64 - 7 * k) + 1) := by rw [Nat.mul_add, Nat.mul_one]
    _ ≤ 2 ^ (7 * k) * 2 ^ (64 - 7 * k) := Nat.mul_le_mul_left _ h1
end Var

theorem or_walk (V c k : Nat) (hc : c < 256) (hV : V < 18446744073709551616) : bits .or .u64 (V : Int) (IntKind.u64.wrap (IntKind.u64.wrap (bits .and .u8 (c : Int) 127) * 2 ^ (7 * k))) = ((V ||| (c % 128 * 2 ^ (7 * k) % 18446744073709551616) : Nat) : Int) := by
  have h1 : bits .and .u8 (c : Int) 127 = ((c % 128 : Nat) : Int) := by
    have h := u8_and_nat c 127 hc (by omega)
    rw [show (127 : Nat) = 2 ^ 7 - 1 from rfl, Nat.and_two_pow_sub_one_eq_mod] at h
    simpa using h
  rw [h1]
  have h2 : ∀ y : Nat, IntKind.u64.wrap (y : Int) = ((y % 18446744073709551616 : Nat) : Int) := by
    intro y
    simp only [IntKind.wrap, IntKind.signed, IntKind.bits]
    simp
  rw [h2, Nat.mod_eq_of_lt (show c % 128 < 18446744073709551616 by omega)]
  rw [show ((c % 128 : Nat) : Int) * 2 ^ (7 * k) = ((c % 128 * 2 ^ (7 * k) : Nat) : Int) by simp, h2]
  exact u64_or_nat _ _ hV (Nat.mod_lt _ (by omega))
theorem nsize_any (x : Nat) (w : World) (hx : x ≤ 131072) :
    Calls Tryz.prog 60 #[.int .u64 x] w fun e w' => e = .returned (.int .i64 (Var.size x)) ∧ w' = w := by
  have hs := Var.size_len x hx
  go_enter Tryz.func60, Tryz.ntmps60
  go_wp2_with fail
  refine (Tryz.bits_Len64 x w (by omega) (by omega)).mono ?_
  rintro e w' ⟨rfl, rfl⟩
  rw [Int.toNat_natCast]
  have hle : Lib.bitLen x ≤ 64 := (Var.bitLenAux_le 64 x 64 (by omega)).2 (by omega)
  clear hx
  generalize Lib.bitLen x = b at *
  go_wp2
  go_ret
  refine ⟨?_, rfl⟩
  simp
  omega

set_option maxHeartbeats 1000000 in
set_option maxRecDepth 100000 in
theorem nread_any (s : ByteArray) (w : World) (hs : s.size ≤ 9223372036854775807) :
    Calls Tryz.prog 82 #[.string s] w fun e w' => e = .returned (.tuple #[.int .u64 (Var.read (bs s)).1, .int .i64 (Var.read (bs s)).2.1, .int .i64 (Var.read (bs s)).2.2]) ∧ w' = w := by
  go_enter Tryz.func82, Tryz.ntmps82
  go_wp2
  go_step3
  go_wp2
  go_step3
  go_wp2
  go_loop [2, 3, 5] (fun x n last => ∃ k z : Nat, k ≤ 10 ∧ k ≤ s.size ∧ x = .int .u64 ((Var.val ((bs s).take k) % 18446744073709551616 : Nat) : Int) ∧ n = .int .i64 k ∧ last = .int .u8 z ∧ 128 ≤ z ∧ z < 256 ∧ ∀ j, j < k → 128 ≤ (bs s).getD j 0) (fun _ n _ => 10 - (intOf n).toNat)
  case atStart => exact ⟨0, 128, by omega, by omega, rfl, rfl, rfl, by omega, by omega, by omega⟩
  case round =>
    obtain ⟨k, z, hk, hks, rfl, rfl, rfl, hz1, hz2, hall⟩ := hrel
    have HA := Lib.hid hall
    clear hall
    by_cases hk10 : k < 10
    · by_cases hlt : k < s.size
      · have hix : (s[k]'hlt).toNat = (bs s).getD k 0 := by
          have hk' : k < s.data.size := hlt
          simp [bs, List.getD]
          rw [Array.getElem?_eq_getElem hk']
          rfl
        have hc8 : (bs s).getD k 0 < 256 := by
          have hm : (bs s).getD k 0 ∈ bs s := by simp [List.getD, List.getElem?_eq_getElem (show k < (bs s).length by rw [bs_len]; omega)]
          exact bs_lt s _ hm
        have htk : (bs s).take (k + 1) = (bs s).take k ++ [(bs s).getD k 0] := by
          rw [List.take_succ_eq_append_getElem (show k < (bs s).length by rw [bs_len]; omega)]
          simp [List.getD, List.getElem?_eq_getElem (show k < (bs s).length by rw [bs_len]; omega)]
        have hX : bits .or .u64 ((Var.val ((bs s).take k) % 18446744073709551616 : Nat) : Int) (IntKind.u64.wrap (IntKind.u64.wrap (bits .and .u8 (((bs s).getD k 0 : Nat) : Int) 127) * 2 ^ (7 * k))) = ((Var.val ((bs s).take (k + 1)) % 18446744073709551616 : Nat) : Int) := by
          rw [htk, Var.val_append, show ((bs s).take k).length = k by rw [List.length_take, bs_len]; omega]
          rw [← Var.val_or _ _ _ (by omega) (by rw [List.length_take, bs_len]; omega) (Nat.mod_lt _ (by omega))]
          have hV : Var.val ((bs s).take k) % 18446744073709551616 < 18446744073709551616 := Nat.mod_lt _ (by omega)
          generalize Var.val ((bs s).take k) % 18446744073709551616 = V at *
          exact or_walk V _ k hc8 hV
        clear htk
        have hr : (bs s).getD k 0 < 128 → _ := fun hz => Var.read_at HA.out (bs_lt s) hk10 (by rw [bs_len]; exact hlt) hz
        have HR := Lib.hid hr
        clear hr
        generalize hXX : Var.val ((bs s).take (k + 1)) % 18446744073709551616 = X at *
        generalize hV : Var.val ((bs s).take k) % 18446744073709551616 = V at *
        generalize hc : (bs s).getD k 0 = c at *
        by_cases hcs : c < 128
        · go_wp2
          all_goals try rw [Exit.noGoto_ret]
          all_goals go_ret3
          all_goals rw [HR.out hcs]
          all_goals first
            | (rw [if_neg (by omega)]; exact ⟨rfl, rfl⟩)
            | (rw [if_pos (by omega)]; refine ⟨?_, rfl⟩; simp; try omega)
        · go_wp2
          go_round
          case rel => exact ⟨k + 1, c, by omega, by omega, by rw [hXX], by go_num, rfl, by omega, by omega, fun j hj => by
            rcases Nat.lt_or_ge j k with h | h
            · exact HA.out j h
            · obtain rfl : j = k := by omega
              omega⟩
          case measure => simp [intOf]; omega
      · obtain rfl : k = s.size := by omega
        have hr := Lib.hid (Var.read_short (l := bs s) (by rw [bs_len]; exact HA.out) (by rw [bs_len]; exact hk10))
        go_wp2
        try rw [Exit.noGoto_ret]
        go_ret3
        rw [hr.out]
        exact ⟨rfl, rfl⟩
    · obtain rfl : k = 10 := by omega
      have hr := Lib.hid (Var.read_ten (l := bs s) HA.out (by rw [bs_len]; exact hks))
      go_wp2
      all_goals try rw [Exit.noGoto_ret]
      all_goals go_ret3
      all_goals rw [hr.out]
      all_goals exact ⟨rfl, rfl⟩
end Go.Proofs.YthggliknnmhbdaaGreat
/- The walks of thresherref01.Read, thresherref03.Uint, Text. -/
namespace Go.Proofs.YthggliknnmhbdaaGreat
set_option maxRecDepth 100000
open Go.RowKit
set_option linter.unusedVariables false

namespace Var
theorem read_lt (l : List Nat) : (read l).1 < 18446744073709551616 := by
  unfold read
  split
  · simp
  · split
    · simp
    · split
      · exact Nat.mod_lt _ (by omega)
      · simp
end Var
theorem bs_cut' (s : ByteArray) (k : Nat) (hk : k ≤ s.size) : bs s = bs (s.extract 0 k) ++ bs (s.extract k s.size) := by
  have e : s = s.extract 0 k ++ s.extract k s.size := by
    apply ByteArray.ext
    rw [ByteArray.data_append, ByteArray.data_extract, ByteArray.data_extract]
    have h0 : s.data.extract 0 k ++ s.data.extract k s.size = s.data.extract 0 s.size := by
      rw [Array.extract_append_extract]; congr 1 <;> omega
    rw [h0]
    exact (Array.extract_size (xs := s.data)).symm
  unfold bs
  conv => lhs; rw [e]
  rw [ByteArray.data_append, Array.toList_append, List.map_append]
theorem bs_prefix (s : ByteArray) (k : Nat) (hk : k ≤ s.size) : bs (s.extract 0 k) = (bs s).take k := by
  have h := bs_cut' s k hk
  have hl : (bs (s.extract 0 k)).length = k := by rw [bs_len, ByteArray.size_extract]; omega
  rw [h, List.take_left' hl]
end Go.Proofs.YthggliknnmhbdaaGreat
/- The walks of strings.Builder at this dump (copyCheck, WriteString), and of wire.all, Texts. -/
namespace Go.Proofs.YthggliknnmhbdaaGreat
set_option maxRecDepth 100000
open Go.RowKit
set_option linter.unusedVariables false

theorem sizeBuilder : (Tryz.prog.info? 97).map (fun i => i.size) = some 2 := by kernel_rfl
theorem liesBuilder : liesAt Tryz.prog Tryz.prog.depth 97 (2 / Tryz.prog.cellsOf 97) 0 97 1 = true := by kernel_rfl

theorem ccheck_used (b : Nat) (w : World) (h0 : w.cell? ⟨b, 0, none⟩ = some (.pointer (some ⟨b, 0, none⟩))) :
    Calls Tryz.prog 78 #[.pointer (some ⟨b, 0, none⟩)] w fun e w' => e = .returned (.tuple #[]) ∧ w' = w := by
  obtain ⟨j, hj, _⟩ := Option.map_eq_some_iff.1 sizeBuilder
  go_enter Tryz.func78, Tryz.ntmps78
  go_wp2
  rw [Lib.run_neq_ptr_same w _ Tryz.underlying95 hj]
  go_wp2
  go_end0
  exact ⟨rfl, rfl⟩
theorem ccheck_fresh (b : Nat) (w : World) (h0 : w.cell? ⟨b, 0, none⟩ = some (.pointer none)) (hsh : w.shape? b = some (97, 2)) (hfz : w.frozen? ⟨b, 0, none⟩ = false) :
    Calls Tryz.prog 78 #[.pointer (some ⟨b, 0, none⟩)] w fun e w' => e = .returned (.tuple #[]) ∧ w' = w.setCell ⟨b, 0, none⟩ (.pointer (some ⟨b, 0, none⟩)) := by
  obtain ⟨j, hj, hjs⟩ := Option.map_eq_some_iff.1 sizeBuilder
  go_enter Tryz.func78, Tryz.ntmps78
  go_wp2
  rw [Lib.run_to_unsafe w ⟨b, 0, none⟩ Tryz.underlying95 Tryz.underlying144 hj (by rw [hjs]; decide) hsh (Nat.zero_lt_succ 1)]
  simp only [Result.andThen]
  rw [Oper.upon_value]
  go_wp2
  rw [run_callFunc_extern Tryz.func94 (by kernel_rfl) (by kernel_rfl) (by kernel_rfl) (e := Extern.AbiNoEscape.same) (by kernel_rfl)]
  rw [Lib.run_noEscape]
  simp only [Result.andThen]
  rw [Oper.upon_value]
  go_wp2
  rw [Lib.run_from_unsafe w ⟨b, 0, none⟩ Tryz.underlying144 Tryz.underlying95 hj hsh liesBuilder]
  simp only [Result.andThen]
  rw [Oper.upon_value]
  go_wp2
  go_end0
  exact ⟨rfl, rfl⟩
theorem ccheck_any (B b : Nat) (bs : List Value) (w : World) (h : Lib.IsBuilder 97 5 B b bs w) :
    Calls Tryz.prog 78 #[.pointer (some ⟨b, 0, none⟩)] w fun e w' => e = .returned (.tuple #[]) ∧ (Lib.BuilderAt 97 5 B b (.pointer (some ⟨b, 0, none⟩)) bs w' ∧ Below B w w') := by
  rcases h with h | h
  · refine (ccheck_fresh b w h.cell0 h.shape h.frozen0).mono ?_
    rintro e w' ⟨rfl, rfl⟩
    exact ⟨rfl, h.used _, (Below.refl B w).setCell (p := ⟨b, 0, none⟩) h.1 _⟩
  · refine (ccheck_used b w h.cell0).mono ?_
    rintro e w' ⟨rfl, rfl⟩
    exact ⟨rfl, h, Below.refl B _⟩

theorem wstring_any (B b : Nat) (bs : List Value) (s : ByteArray) (w : World) (h : Lib.IsBuilder 97 5 B b bs w) (hlen : bs.length + s.size ≤ 140737488355328) (hBw : B ≤ w.heap.size) :
    Calls Tryz.prog 57 #[.pointer (some ⟨b, 0, none⟩), .string s] w fun e w' => e = .returned (.tuple #[.int .i64 s.size, .nilIface]) ∧ (Lib.BuilderAt 97 5 B b (.pointer (some ⟨b, 0, none⟩)) (bs ++ Lib.strCells s) w' ∧ Below B w w') := by
  obtain ⟨i0, hi, hz0, hz1, hz2⟩ := info_parts (show (Tryz.prog.info? 5).map (fun i => (i.zero, i.size, i.bytes)) = some (some (.int .u8 0), 1, 1) by kernel_rfl)
  go_enter Tryz.func57, Tryz.ntmps57
  go_wp2_with (go_at_call 78; refine (ccheck_any B b bs _ h).mono ?_)
  rintro e w1 ⟨rfl, h1, hb1⟩
  obtain ⟨hB, v, hbk, hown, hne⟩ := h1
  have c0 : w1.cell? ⟨b, 0, none⟩ = some (.pointer (some ⟨b, 0, none⟩)) := by rw [Lib.cell_of_heap hbk]; rfl
  have c1 : w1.cell? ⟨b, 1, none⟩ = some v := by rw [Lib.cell_of_heap hbk]; rfl
  go_wp2_with (at_builtin; refine Lib.wpList_append_own_string _ rfl _ _ 93 9 rfl B 5 i0 Tryz.underlying93 Tryz.underlying9 hi hz0 hz1 hz2 _ _ _ rfl hown s rfl ?c3 ?c4 ?c5 ?_)
  case c3 => unfold maxLen; omega
  case c4 => omega
  case c5 => have := hb1.size; omega
  intro v' w2 hown' hgrow _
  have hlt : b < w1.heap.size := by
    rcases Nat.lt_or_ge b w1.heap.size with h' | h'
    · exact h'
    · simp [Array.getElem?_eq_none h'] at hbk
  have hb2 : w2.heap[b]? = some (.cells #[.pointer (some ⟨b, 0, none⟩), v] 97 (0, 0)) := by
    rw [hgrow.block b hlt (fun e => hne e.symm)]
    exact hbk
  have d0 : w2.cell? ⟨b, 0, none⟩ = some (.pointer (some ⟨b, 0, none⟩)) := by rw [Lib.cell_of_heap hb2]; rfl
  have d1 : w2.cell? ⟨b, 1, none⟩ = some v := by rw [Lib.cell_of_heap hb2]; rfl
  have f1 : w2.frozen? ⟨b, 1, none⟩ = false := Lib.frozen_of_heap hb2 1
  obtain ⟨ao, n', cap, rfl⟩ : ∃ ao n' cap, v' = .slice ao n' cap := by
    rcases hown'.2 with ⟨hv, _⟩ | ⟨g, cap, cur, hv, _⟩
    · exact ⟨_, _, _, hv⟩
    · exact ⟨_, _, _, hv⟩
  go_wp2
  go_ret2
  refine ⟨rfl, ?_, ?_⟩
  · exact Lib.BuilderAt.put (T := 97) (e := 5) hB hb2 (bs' := bs ++ Lib.strCells s) (by simpa [Lib.strCells_length] using hown') (by decide)
  · exact (hb1.grown hgrow (by have := hb1.size; omega) (fun k hk => (hown.lt k hk).1)).setCell (p := ⟨b, 1, none⟩) hB _
end Go.Proofs.YthggliknnmhbdaaGreat
/- The walks of wire.Texts$1, wire.all, wire.Texts. -/
namespace Go.Proofs.YthggliknnmhbdaaGreat
set_option maxRecDepth 100000
open Go.RowKit
set_option linter.unusedVariables false

/-- a text's bytes with its length ahead -/
def lstr (s : ByteArray) : ByteArray := str (Var.enc 9 s.size) ++ s
theorem lstr_size (s : ByteArray) : (lstr s).size = (Var.enc 9 s.size).length + s.size := by
  unfold lstr; rw [ByteArray.size_append, str_size]

theorem text1_any (s : ByteArray) (w : World) (hs : s.size ≤ 1099511627776) :
    Calls Tryz.prog 87 #[.string s] w fun e w' => e = .returned (.string (lstr s)) ∧ Below w.heap.size w w' := by
  have hl := Var.enc_len_le 9 s.size
  rw [← str_size] at hl
  have hc := nuint_any s.size w (by omega)
  unfold lstr
  go_enter Tryz.func87, Tryz.ntmps87
  go_wp2_with fail
  refine hc.mono ?_
  rintro e w1 ⟨rfl, hb⟩
  have HB := Lib.hid hb
  clear hb hc
  go_wp2
  go_ret
  exact ⟨rfl, HB.out⟩

theorem builder_new (w : World) (B : Nat) (hB : B ≤ w.heap.size) : Lib.IsBuilder 97 5 B w.heap.size [] (w.alloc (.cells #[.pointer none, .slice none 0 0] 97)) :=
  .inl ⟨hB, .slice none 0 0, heap_alloc_new _ _, World.ownsRow_nil _ _ _ _, by simp [Value.ownBlock]⟩

theorem owns_below {B : Nat} {e : TypeId} {k : Nat} {v : Value} {n : Nat} {xs : List Value} {w w' : World} (h : w.ownsRow B e k v n xs) (hb : Below w.heap.size w w') : w'.ownsRow B e k v n xs :=
  Only.owns (S := fun _ => False) (Only.below_ hb) h (fun _ _ h => h)
theorem builderAt_below {B b : Nat} {p : Value} {bs : List Value} {w w' : World} (h : Lib.BuilderAt 97 5 B b p bs w) (hb : Below w.heap.size w w') : Lib.BuilderAt 97 5 B b p bs w' := by
  have hlt := h.lt
  obtain ⟨hB, v, hk, hown, hne⟩ := h
  exact ⟨hB, v, (hb.block b hlt).trans hk, owns_below hown hb, hne⟩
theorem builder_below {B b : Nat} {bs : List Value} {w w' : World} (h : Lib.IsBuilder 97 5 B b bs w) (hb : Below w.heap.size w w') : Lib.IsBuilder 97 5 B b bs w' := by
  rcases h with h | h
  · exact .inl (builderAt_below h hb)
  · exact .inr (builderAt_below h hb)
theorem bstring_any (B b : Nat) (s : ByteArray) (w : World) (h : Lib.IsBuilder 97 5 B b (Lib.strCells s) w) (hBw : B ≤ w.heap.size) :
    Calls Tryz.prog 58 #[.pointer (some ⟨b, 0, none⟩)] w fun e w' => e = .returned (.string s) ∧ Below B w w' := by
  rw [Lib.strCells_eq] at h
  have := Tryz.Builder_String_any B b s.data.toList w h hBw
  simpa using this

set_option maxHeartbeats 1000000 in
theorem all_one (s : ByteArray) (p : Addr) (cap : Nat) (w : World) (hs : s.size ≤ 1099511627776) (hp : p.block < w.heap.size) (hc : w.cell? p = some (.string s)) :
    Calls Tryz.prog 86 #[.func (.func 87) #[] #[], .slice (some p) 1 cap] w fun e w' => e = .returned (.string (lstr s)) ∧ Below w.heap.size w w' := by
  have hsz := lstr_size s
  have hl := Var.enc_len_le 9 s.size
  have hlen : (lstr s).size ≤ 1099511627800 := by omega
  clear hsz hl
  go_enter Tryz.func86, Tryz.ntmps86
  go_wp2_with fail
  have HBu := Lib.hid (builder_new w w.heap.size (Nat.le_refl _))
  have HB0 := Lib.hid ((Below.refl w.heap.size w).alloc (Nat.le_refl _) (.cells #[.pointer none, .slice none 0 0] 97))
  go_loopw [10] (fun i wr => ((i = .int .i64 0 ∧ Lib.IsBuilder 97 5 w.heap.size w.heap.size [] wr) ∨ (i = .int .i64 1 ∧ Lib.IsBuilder 97 5 w.heap.size w.heap.size (Lib.strCells (lstr s)) wr)) ∧ Below w.heap.size w wr) (fun i _ => (1 - intOf i).toNat)
  case atStart => exact ⟨.inl ⟨rfl, HBu.out⟩, HB0.out⟩
  case round =>
    obtain ⟨hcase, hbl⟩ := hrel
    rcases hcase with ⟨rfl, hbu⟩ | ⟨rfl, hbu⟩
    · have HB := Lib.hid hbl
      have HU := Lib.hid hbu
      have hcell : wr.cell? p = some (.string s) := (hbl.cell hp).trans hc
      clear hbl hbu HBu HB0
      go_wp2_with fail
      refine (text1_any s wr hs).mono ?_
      rintro e w1 ⟨rfl, hb1⟩
      have HU1 := Lib.hid (builder_below HU.out hb1)
      have HB1 := Lib.hid (HB.out.trans (hb1.mono HB.out.size))
      clear HU hcell hb1 HB
      go_wp2_with fail
      refine (wstring_any w.heap.size w.heap.size [] (lstr s) w1 HU1.out (by simp; omega) HB1.out.size).mono ?_
      rintro e w2 ⟨rfl, hu2, hb2⟩
      have HU2 := Lib.hid hu2
      have HB2 := Lib.hid (HB1.out.trans hb2)
      clear HU1 HB1 hu2 hb2
      go_wp2
      go_roundw
      case rel => exact ⟨.inr ⟨by go_num, .inr (by simpa using HU2.out)⟩, HB2.out⟩
      case measure => simp [intOf]
    · have HB := Lib.hid hbl
      have HU := Lib.hid hbu
      clear hbl hbu HBu HB0
      go_wp2_with fail
      refine (bstring_any w.heap.size w.heap.size (lstr s) wr HU.out HB.out.size).mono ?_
      rintro e w2 ⟨rfl, hb2⟩
      have HB2 := Lib.hid (HB.out.trans hb2)
      clear HU HB hb2
      go_wp2
      go_ret
      exact ⟨rfl, HB2.out⟩

theorem texts_one (s : ByteArray) (p : Addr) (cap : Nat) (w : World) (hs : s.size ≤ 1099511627776) (hp : p.block < w.heap.size) (hc : w.cell? p = some (.string s)) :
    Calls Tryz.prog 70 #[.slice (some p) 1 cap] w fun e w' => e = .returned (.string (lstr s)) ∧ Below w.heap.size w w' := by
  have H := all_one s p cap w hs hp hc
  go_enter Tryz.func70, Tryz.ntmps70
  go_wp2_with fail
  refine H.mono ?_
  rintro e w2 ⟨rfl, hb2⟩
  have HB := Lib.hid hb2
  clear hb2 H
  go_wp2
  go_ret
  exact ⟨rfl, HB.out⟩

end Go.Proofs.YthggliknnmhbdaaGreat
/- The walk of strings.Join with nothing between. -/
namespace Go.Proofs.YthggliknnmhbdaaGreat
set_option maxRecDepth 100000
open Go.RowKit
set_option linter.unusedVariables false

def cat (xs : List ByteArray) : ByteArray := xs.foldl (· ++ ·) ⟨#[]⟩
theorem bs_cat (xs : List ByteArray) : bs (cat xs) = (xs.map bs).flatten := by
  have : ∀ (xs : List ByteArray) (a : ByteArray), bs (xs.foldl (· ++ ·) a) = bs a ++ (xs.map bs).flatten := by
    intro xs
    induction xs with
    | nil => intro a; simp
    | cons x xs ih => intro a; simp only [List.foldl_cons, ih, bs_append, List.map_cons, List.flatten_cons, List.append_assoc]
  have h := this xs ⟨#[]⟩
  rw [show bs ⟨#[]⟩ = [] from rfl, List.nil_append] at h
  exact h
theorem cat_snoc (xs : List ByteArray) (y : ByteArray) : cat (xs ++ [y]) = cat xs ++ y := by simp [cat, List.foldl_append]
theorem cat_one (y : ByteArray) : cat [y] = y := by
  apply bs_inj; rw [bs_cat]; simp
def sum (xs : List ByteArray) : Nat := (cat xs).size
theorem sum_snoc (xs : List ByteArray) (y : ByteArray) : sum (xs ++ [y]) = sum xs + y.size := by unfold sum; rw [cat_snoc, ByteArray.size_append]
theorem take_snoc {α : Type} (xs : List α) (k : Nat) (h : k < xs.length) : xs.take (k + 1) = xs.take k ++ [xs[k]] := List.take_succ_eq_append_getElem h
theorem sum_take (xs : List ByteArray) (k : Nat) (h : k < xs.length) : sum (xs.take (k + 1)) = sum (xs.take k) + xs[k].size := by rw [take_snoc _ _ h, sum_snoc]
theorem sum_take_le (xs : List ByteArray) (k : Nat) : sum (xs.take k) ≤ sum xs := by
  have h1 := congrArg List.length (bs_cat (xs.take k))
  have h2 := congrArg List.length (bs_cat xs)
  rw [bs_len] at h1 h2
  unfold sum
  have e : (xs.map bs).flatten = ((xs.take k).map bs).flatten ++ ((xs.drop k).map bs).flatten := by rw [← List.flatten_append, ← List.map_append, List.take_append_drop]
  rw [h1, h2, e, List.length_append]
  omega
theorem strCells_append (a b : ByteArray) : Lib.strCells (a ++ b) = Lib.strCells a ++ Lib.strCells b := by simp [Lib.strCells]

/-- a row of texts -/
structure TextRow (w : World) (A : Option Addr) (xs : List ByteArray) : Prop where
  at_ : ∀ j, (h : j < xs.length) → ∃ g off, A = some ⟨g, off, none⟩ ∧ g < w.heap.size ∧ w.cell? ⟨g, off + j, none⟩ = some (.string xs[j])
theorem TextRow.below {w w' : World} {A : Option Addr} {xs : List ByteArray} (h : TextRow w A xs) (hb : Below w.heap.size w w') : TextRow w' A xs :=
  ⟨fun j hj => by
    obtain ⟨g, off, h1, h2, h3⟩ := h.at_ j hj
    exact ⟨g, off, h1, Nat.lt_of_lt_of_le h2 hb.size, (hb.cell (p := ⟨g, off + j, none⟩) h2).trans h3⟩⟩

set_option maxHeartbeats 3000000 in
set_option maxRecDepth 100000 in
theorem sjoin_any (xs : List ByteArray) (A : Option Addr) (cap : Nat) (w : World) (hr : TextRow w A xs) (hn : xs.length ≤ cap) (hcap : cap ≤ 9223372036854775807) (hs : sum xs ≤ 1099511627776) :
    Calls Tryz.prog 71 #[.slice A xs.length cap, .string ⟨#[]⟩] w fun e w' => e = .returned (.string (cat xs)) ∧ Below w.heap.size w w' := by
  have HR := Lib.hid hr
  clear hr
  by_cases h0 : xs.length = 0
  · have : xs = [] := List.eq_nil_of_length_eq_zero h0
    subst this
    go_enter Tryz.func71, Tryz.ntmps71
    go_wp2
    go_ret
    exact ⟨rfl, Below.refl _ _⟩
  · obtain ⟨g, off, rfl, hg, hc0⟩ := HR.out.at_ 0 (by omega)
    by_cases h1 : xs.length = 1
    · obtain ⟨y, rfl⟩ := List.length_eq_one_iff.1 h1
      have hc : w.cell? ⟨g, off, none⟩ = some (.string y) := hc0
      rw [cat_one]
      go_enter Tryz.func71, Tryz.ntmps71
      go_wp2
      go_ret
      exact ⟨rfl, Below.refl _ _⟩
    · have hcell : ∀ j, (h : j < xs.length) → w.cell? ⟨g, off + j, none⟩ = some (.string xs[j]) := by
        intro j hj
        obtain ⟨g', off', e, _, h⟩ := HR.out.at_ j hj
        injection e with e; injection e with e1 e2; subst e1; subst e2
        exact h
      have HC := Lib.hid hcell
      have hlen : 2 ≤ xs.length := by omega
      have hl63 : xs.length ≤ 9223372036854775807 := by omega
      have HS := Lib.hid hs
      clear hcell hc0 h0 h1 HR hs
      go_enter Tryz.func71, Tryz.ntmps71
      go_wp2_with fail
      go_loop [5, 41] (fun n i => ∃ k : Nat, k ≤ xs.length ∧ i = .int .i64 k ∧ n = .int .i64 ((sum (xs.take k) : Nat) : Int)) (fun _ i => xs.length - (intOf i).toNat)
      case atStart => exact ⟨0, by omega, rfl, rfl⟩
      case round =>
        obtain ⟨k, hk, rfl, rfl⟩ := hrel
        by_cases hlt : k < xs.length
        · have hck := HC.out k hlt
          have hst := sum_take xs k hlt
          have hle := sum_take_le xs (k + 1)
          have hle2 := HS.out
          generalize xs[k] = y at *
          generalize hS : sum (xs.take k) = S at *
          have HST := Lib.hid hst
          have hb1 : S + y.size ≤ 1099511627776 := by omega
          clear hst hle hle2
          go_wp2_with fail
          go_round
          case rel => exact ⟨k + 1, by omega, by go_num, by rw [HST.out]; go_num⟩
          case measure => simp [intOf] <;> omega
        · obtain rfl : k = xs.length := by omega
          go_wp2_with fail
          have HB0 := Lib.hid ((Below.refl w.heap.size w).alloc (Nat.le_refl _) (.cells #[.pointer none, .slice none 0 0] 97))
          have hs2 := HS.out
          refine (Tryz.Builder_Grow_fresh w.heap.size w.heap.size (sum xs) (w.alloc (.cells #[.pointer none, .slice none 0 0] 97)) (Nat.le_refl _) (heap_alloc_new _ _) HB0.out.size (by omega)).mono ?_
          rintro e w1 ⟨rfl, hu1, hb1⟩
          have HU1 := Lib.hid (Or.inr (a := Lib.BuilderAt 97 5 w.heap.size w.heap.size (.pointer none) [] w1) hu1)
          have HB1 := Lib.hid (HB0.out.trans hb1)
          have hck := (HB1.out.cell (p := ⟨g, off + 0, none⟩) hg).trans (HC.out 0 (by omega))
          rw [Nat.add_zero] at hck
          clear hb1 hu1 HB0 hs2 hk hlt
          have hx0 : xs.take 1 = [xs[0]] := by rw [show (1 : Nat) = 0 + 1 from rfl, take_snoc xs 0 (by omega)]; simp
          have hy : (xs[0]).size ≤ 1099511627776 := by
            have h1 := sum_take_le xs 1
            have h2 := HS.out
            rw [hx0] at h1
            unfold sum at h1 h2
            rw [cat_one] at h1
            omega
          have HX := Lib.hid hx0
          clear hx0
          generalize xs[0] = y at *
          go_wp2_with fail
          refine (wstring_any w.heap.size w.heap.size [] y w1 HU1.out (by simp; omega) HB1.out.size).mono ?_
          rintro e w2 ⟨rfl, hu2, hb2⟩
          have HU2 : Hid (Lib.IsBuilder 97 5 w.heap.size w.heap.size (Lib.strCells (cat (xs.take 1))) w2) := Lib.hid (.inr (by rw [HX.out, cat_one]; simpa using hu2))
          have HB2 := Lib.hid (HB1.out.trans hb2)
          clear hu2 hb2 HU1 HB1 HX hck hy
          go_wp2_with fail
          go_loopw [65] (fun i wr => ∃ k : Nat, k + 1 ≤ xs.length ∧ i = .int .i64 k ∧ Lib.IsBuilder 97 5 w.heap.size w.heap.size (Lib.strCells (cat (xs.take (k + 1)))) wr ∧ Below w.heap.size w wr) (fun i _ => xs.length - (intOf i).toNat)
          case atStart => exact ⟨0, by omega, rfl, HU2.out, HB2.out⟩
          case round =>
            obtain ⟨k, hk, rfl, hbu, hbl⟩ := hrel
            have HU := Lib.hid hbu
            have HB := Lib.hid hbl
            have hsz : Hid ((Lib.strCells (cat (xs.take (k + 1)))).length ≤ 1099511627776) := Lib.hid (by
              rw [Lib.strCells_length]
              have h1 := sum_take_le xs (k + 1)
              have h2 := HS.out
              unfold sum at h1 h2
              omega)
            clear hbu hbl HU2 HB2
            by_cases hlt : k + 1 < xs.length
            · have hck := (HB.out.cell (p := ⟨g, off + (k + 1), none⟩) hg).trans (HC.out (k + 1) hlt)
              have hnx := take_snoc xs (k + 1) hlt
              have hy : Hid (xs[k + 1].size ≤ 1099511627776) := Lib.hid (by
                have h1 := sum_take_le xs (k + 1 + 1)
                have h2 := HS.out
                have h3 := sum_take xs (k + 1) hlt
                omega)
              have HX := Lib.hid hnx
              clear hnx
              generalize xs[k + 1] = y at *
              have e1 : off + (k + 1) = off + 1 + k := by omega
              rw [e1] at hck
              go_wp2_with fail
              refine (wstring_any w.heap.size w.heap.size _ ⟨#[]⟩ wr HU.out (by have := hsz.out; simp [ByteArray.size]; omega) HB.out.size).mono ?_
              rintro e w3 ⟨rfl, hu3, hb3⟩
              have HU3 : Hid (Lib.IsBuilder 97 5 w.heap.size w.heap.size (Lib.strCells (cat (xs.take (k + 1)))) w3) := Lib.hid (.inr (by simpa [Lib.strCells] using hu3))
              have HB3 := Lib.hid (HB.out.trans hb3)
              clear hu3 hb3 HU HB hck
              go_wp2_with fail
              refine (wstring_any w.heap.size w.heap.size _ y w3 HU3.out (by have := hsz.out; have := hy.out; omega) HB3.out.size).mono ?_
              rintro e w4 ⟨rfl, hu4, hb4⟩
              have HU4 : Hid (Lib.IsBuilder 97 5 w.heap.size w.heap.size (Lib.strCells (cat (xs.take (k + 1 + 1)))) w4) := Lib.hid (.inr (by rw [HX.out, cat_snoc, strCells_append]; exact hu4))
              have HB4 := Lib.hid (HB3.out.trans hb4)
              clear hu4 hb4 HU3 HB3
              go_wp2_with fail
              go_roundw
              case rel => exact ⟨k + 1, by omega, by go_num, HU4.out, HB4.out⟩
              case measure => simp [intOf] <;> omega
            · have hkl : xs.length = k + 1 := by omega
              have hta : xs.take (k + 1) = xs := List.take_of_length_le (by omega)
              rw [hta] at HU
              go_wp2_with fail
              refine (bstring_any w.heap.size w.heap.size (cat xs) wr HU.out HB.out.size).mono ?_
              rintro e w5 ⟨rfl, hb5⟩
              have HB5 := Lib.hid (HB.out.trans hb5)
              clear hb5 HU HB
              go_wp2
              go_ret
              exact ⟨rfl, HB5.out⟩
end Go.Proofs.YthggliknnmhbdaaGreat
/- The walks of frame.Size, thresherref04.Raw. -/
namespace Go.Proofs.YthggliknnmhbdaaGreat
set_option maxRecDepth 100000
open Go.RowKit
set_option linter.unusedVariables false

/-- how many bytes a frame has -/
def fsize (n : Nat) : Nat := 6 + Var.size n + n
theorem vsize_le (n : Nat) : 1 ≤ Var.size n ∧ Var.size n ≤ 3 := by unfold Var.size; split <;> (try split) <;> omega
theorem fsize_any (n : Int) (w : World) (h1 : -9223372036854775808 ≤ n) (h2 : n ≤ 9223372036854775807) :
    Calls Tryz.prog 41 #[.int .i64 n] w fun e w' => e = .returned (.int .i64 (if n < 0 ∨ 131072 < n then 0 else (fsize n.toNat : Int))) ∧ w' = w := by
  by_cases hn : n < 0
  · rw [if_pos (.inl hn)]
    go_enter Tryz.func41, Tryz.ntmps41
    go_wp2
    go_ret
    exact ⟨rfl, rfl⟩
  · by_cases hb : 131072 < n
    · rw [if_pos (.inr hb)]
      go_enter Tryz.func41, Tryz.ntmps41
      go_wp2
      go_ret
      exact ⟨rfl, rfl⟩
    · obtain ⟨m, rfl⟩ : ∃ m : Nat, n = m := ⟨n.toNat, by omega⟩
      have hm : m ≤ 131072 := by omega
      rw [if_neg (by omega)]
      have hv := vsize_le m
      have hc := nsize_any m w hm
      unfold fsize
      rw [Int.toNat_natCast]
      generalize Var.size m = v at *
      go_enter Tryz.func41, Tryz.ntmps41
      go_wp2_with fail
      refine hc.mono ?_
      rintro e w' ⟨rfl, rfl⟩
      clear hc
      go_wp2
      go_ret
      refine ⟨?_, rfl⟩
      simp
      omega

/-- what stands ahead of a frame's sum -/
def fhead (tag : Nat) (s : ByteArray) : ByteArray := str [1, tag] ++ lstr s
def fraw (tag : Nat) (s : ByteArray) : ByteArray := fhead tag s ++ ⟨(sumBytes (Crc.on 0 (bs (fhead tag s)))).toArray⟩
theorem conv_two (c d : Nat) (W : World) (g : Nat) (h0 : W.cell? ⟨g, 0, none⟩ = some (.int .u8 (c : Int))) (h1 : W.cell? ⟨g, 1, none⟩ = some (.int .u8 (d : Int))) :
    (convert 93 9 (.slice (some ⟨g, 0, none⟩) 2 2)).run Tryz.prog W = .ok (.string (str [c, d])) W := by
  have := run_convert_bytes_arg (P := Tryz.prog) W 93 5 Tryz.underlying93 Tryz.underlying5 g 0 2 2 [(c : Int), (d : Int)] rfl
    (fun i hi => by
      match i, hi with
      | 0, _ => simpa using h0
      | 1, _ => simpa using h1) 9 Tryz.underlying9
  simpa [strOfNums, str] using this
theorem lstr_le (s : ByteArray) : (lstr s).size ≤ 10 + s.size := by have := lstr_size s; have := Var.enc_len_le 9 s.size; omega
theorem fhead_size (tag : Nat) (s : ByteArray) : (fhead tag s).size = 2 + (lstr s).size := by unfold fhead; rw [ByteArray.size_append, str_size]; rfl

end Go.Proofs.YthggliknnmhbdaaGreat
/- The walk of frame.Write. -/
namespace Go.Proofs.YthggliknnmhbdaaGreat
set_option maxRecDepth 100000
open Go.RowKit
set_option linter.unusedVariables false
attribute [local simp] frOf dstsOf frGo predsHold allHold Region.binds slotOf seen Is Act.put

theorem TextRow.drew {w : World} {A : Option Addr} {xs : List ByteArray} (h : TextRow w A xs) : TextRow w.drew A xs :=
  h.below ((Below.refl _ w).drew)

set_option maxHeartbeats 8000000 in
set_option maxRecDepth 100000 in
theorem fwrite_any (tag : Nat) (xs : List ByteArray) (A : Option Addr) (cap : Nat) (w : World) (ht : tag < 256) (hr : TextRow w A xs) (hn : xs.length ≤ cap) (hcap : cap ≤ 9223372036854775807) (hs : sum xs ≤ 1099511627776) :
    Calls Tryz.prog 50 #[.int .u8 tag, .slice A xs.length cap] w fun e w' => e = .returned (.tuple #[.string (if 131072 < sum xs then ⟨#[]⟩ else fraw tag (cat xs)), .int .i64 (if 131072 < sum xs then 4 else 0)]) ∧ Below w.heap.size w w' := by
  have HR := Lib.hid hr
  have HS := Lib.hid hs
  clear hr hs
  go_enter Tryz.func50, Tryz.ntmps50
  go_wp2_with fail
  go_loop [6, 12] (fun n i => ∃ k : Nat, k ≤ xs.length ∧ i = .int .i64 k ∧ n = .int .i64 ((sum (xs.take k) : Nat) : Int) ∧ sum (xs.take k) ≤ 131072) (fun _ i => xs.length - (intOf i).toNat)
  case atStart => exact ⟨0, by omega, rfl, rfl, by simp [sum, cat, ByteArray.size]⟩
  case round =>
    obtain ⟨k, hk, rfl, rfl, hkb⟩ := hrel
    by_cases hlt : k < xs.length
    · obtain ⟨g, off, rfl, hg, hck⟩ := HR.out.at_ k hlt
      have hst := sum_take xs k hlt
      have hle := sum_take_le xs (k + 1)
      have hle2 := HS.out
      generalize xs[k] = y at *
      generalize hS : sum (xs.take k) = S at *
      have HST := Lib.hid hst
      have hb1 : S + y.size ≤ 1099511627776 := by omega
      by_cases hov : 131072 < S + y.size
      · have hov2 : Hid (131072 < sum xs) := Lib.hid (by omega)
        clear hst hle hle2 HS
        go_wp2
        go_ret2
        simp only
        exact ⟨rfl, Below.refl _ _⟩
      · clear hst hle hle2
        go_wp2_with fail
        go_round
        case rel => exact ⟨k + 1, by omega, by go_num, by rw [HST.out]; go_num, by rw [HST.out]; omega⟩
        case measure => simp [intOf] <;> omega
    · obtain rfl : k = xs.length := by omega
      rw [List.take_length] at hkb
      have hsz : (cat xs).size ≤ 131072 := hkb
      have HK : Hid (¬ 131072 < sum xs) := Lib.hid (by omega)
      generalize hq : xs.length = nn at *
      have hJ : ∀ W, TextRow W A xs → Hid (Calls Tryz.prog 71 #[.slice A nn cap, .string ⟨#[]⟩] W fun e w' => e = .returned (.string (cat xs)) ∧ Below W.heap.size W w') := fun W h => Lib.hid (by subst hq; exact sjoin_any xs A cap W h hn hcap HS.out)
      have hl := lstr_le (cat xs)
      have hT : ∀ W p, p.block < W.heap.size → W.cell? p = some (.string (cat xs)) → Hid (Calls Tryz.prog 70 #[.slice (some p) 1 1] W fun e w' => e = .returned (.string (lstr (cat xs))) ∧ Below W.heap.size W w') := fun W p h1 h2 => Lib.hid (texts_one (cat xs) p 1 W (by omega) h1 h2)
      have hfs := fhead_size tag (cat xs)
      have hO : ∀ W, Hid (Calls Tryz.prog 73 #[.string (fhead tag (cat xs))] W fun e w' => e = .returned (.int .u32 (Crc.on 0 (bs (fhead tag (cat xs))))) ∧ Below W.heap.size W w') := fun W => Lib.hid (of_any _ W (by omega))
      have hon := Crc.on_lt (a := 0) (by omega) (bs_lt (fhead tag (cat xs)))
      have hB : ∀ W, Hid (Calls Tryz.prog 72 #[.int .u32 (Crc.on 0 (bs (fhead tag (cat xs))))] W fun e w' => e = .returned (.string ⟨(sumBytes (Crc.on 0 (bs (fhead tag (cat xs))))).toArray⟩) ∧ Below W.heap.size W w') := fun W => Lib.hid (bytes_any _ W hon)
      have hcz := fun (W : World) (g : Nat) => conv_two 1 tag W g
      have h4 : (⟨(sumBytes (Crc.on 0 (bs (fhead tag (cat xs))))).toArray⟩ : ByteArray).size = 4 := by simp [ByteArray.size, sumBytes]
      have HQ : Hid (fraw tag (cat xs) = fhead tag (cat xs) ++ ⟨(sumBytes (Crc.on 0 (bs (fhead tag (cat xs))))).toArray⟩) := Lib.hid rfl
      have hdef : str [1, tag] ++ lstr (cat xs) = fhead tag (cat xs) := rfl
      have h2 : (str [1, tag]).size = 2 := str_size _
      generalize (⟨(sumBytes (Crc.on 0 (bs (fhead tag (cat xs))))).toArray⟩ : ByteArray) = sb at *
      generalize Crc.on 0 (bs (fhead tag (cat xs))) = q at *
      generalize fhead tag (cat xs) = fh at *
      generalize lstr (cat xs) = ls at *
      generalize str [1, tag] = s2 at *
      clear hon
      have hsum : s2.size + ls.size ≤ 9223372036854775807 := by omega
      have hsum2 : fh.size + sb.size ≤ 9223372036854775807 := by omega
      clear h2 h4 hfs hl
      have HJ : ∀ W, Grows w.drew W → Hid (Calls Tryz.prog 71 #[.slice A nn cap, .string ⟨#[]⟩] W fun e w' => e = .returned (.string (cat xs)) ∧ Below W.heap.size W w') := fun W hW => hJ W (HR.out.below (Grows.trans (Grows.drew w) hW))
      clear hJ
      go_wp2_with fail
      refine wp_region_ord (by kernel_rfl) Grows [Is (.int .u8 tag), IsRow 2 5 #[.int .u8 1, .int .u8 tag], Is (.string s2), Is (.slice A nn cap), Is (.string (cat xs)), IsRow 1 9 #[.string (cat xs)], Is (.string ls), Is (.string fh), Is (.string fh)] (by kernel_rfl) Grows.refl Grows.trans
        ⟨is_stab _ _, isRow_stab _ _ _, is_stab _ _, is_stab _ _, is_stab _ _, isRow_stab _ _ _, is_stab _ _, is_stab _ _, is_stab _ _, trivial⟩ ⟨?_, ?_, ?_, ?_, ?_, ?_, ?_, ?_, ?_, trivial⟩ ?_
      · intro u w1 hR hp K hK
        refine ord_plain rfl ?_
        simp at hp hK ⊢
        go_simp
        exact hK _ _ (Grows.refl _) rfl
      · intro u w1 hR hp K hK
        refine ord_plain rfl ?_
        simp at hp hK ⊢
        simp only [hp] at hK
        go_simp
        exact hK _ _ (Grows.alloc _ _) ⟨_, rfl, Blk.new _ _ _⟩
      · intro u w1 hR hp K hK
        refine ord_plain rfl ?_
        simp at hp hK ⊢
        obtain ⟨g, hg, hb⟩ := hp
        have hc := hcz w1 g (by rw [hb.cell]; rfl) (by rw [hb.cell]; rfl)
        simp only [hg] at hK
        go_simp
        exact hK _ _ (Grows.refl _) rfl
      · intro u w1 hR hp K hK
        refine ord_plain rfl ?_
        simp at hp hK ⊢
        go_simp
        exact hK _ _ (Grows.refl _) rfl
      · intro u w1 hR hp K hK
        refine ord_plain rfl ?_
        simp at hp hK ⊢
        have hj := HJ w1 hR
        simp only [hp] at hK
        go_simp
        refine hj.out.mono ?_
        rintro e w2 ⟨rfl, hb2⟩
        exact hK _ _ hb2 rfl
      · intro u w1 hR hp K hK
        refine ord_plain rfl ?_
        simp at hp hK ⊢
        simp only [hp] at hK
        go_simp
        exact hK _ _ (Grows.alloc _ _) ⟨_, rfl, Blk.new _ _ _⟩
      · intro u w1 hR hp K hK
        refine ord_plain rfl ?_
        simp at hp hK ⊢
        obtain ⟨⟨g, hg, hb⟩, hp4⟩ := hp
        have hj := hT w1 ⟨g, 0, none⟩ hb.lt (by rw [hb.cell]; rfl)
        simp only [hg, hp4] at hK
        go_simp
        refine hj.out.mono ?_
        rintro e w2 ⟨rfl, hb2⟩
        exact hK _ _ hb2 rfl
      · intro u w1 hR hp K hK
        refine ord_plain rfl ?_
        simp at hp hK ⊢
        obtain ⟨hp1, hp2⟩ := hp
        simp only [hp1, hp2] at hK
        go_simp
        rw [if_neg (by omega)]
        go_simp
        exact hK _ _ (Grows.refl _) rfl
      · intro u w1 hR hp K hK
        refine ord_plain rfl ?_
        simp at hp hK ⊢
        simp only [hp] at hK
        go_simp
        exact hK _ _ (Grows.refl _) rfl
      · intro u w1 hR hp
        simp at hp ⊢
        have h9 := hp.2.2.2.2.2.2.2.2
        simp only [h9]
        clear hp hcz hT HJ
        have HB := Lib.hid (Below.trans (Below.drew (Below.refl w.heap.size w)) hR)
        clear hR
        go_wp2_with fail
        refine (hO _).out.mono ?_
        rintro e w5 ⟨rfl, hb5⟩
        have H5 := Lib.hid hb5
        clear hb5
        go_wp2_with fail
        refine (hB _).out.mono ?_
        rintro e w6 ⟨rfl, hb6⟩
        have H6 := Lib.hid hb6
        clear hb6
        go_wp2
        go_ret2
        simp only
        rw [HQ.out]
        exact ⟨rfl, HB.out.trans ((H5.out.trans (H6.out.mono H5.out.size)).mono HB.out.size)⟩
end Go.Proofs.YthggliknnmhbdaaGreat
