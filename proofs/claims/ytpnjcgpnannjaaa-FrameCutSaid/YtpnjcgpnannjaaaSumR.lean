/- The walks of the document's sum (thresherref02). -/
import Derived.Test.YtpnjcgpnannjaaaSumB
import Derived.Test.YtpnjcgpnannjaaaSumN
namespace Go.Proofs.Ytpnjcgpnannjaaa
open Go.RowKit
set_option linter.unusedVariables false

/-- A row of bools: block g begins with the cells xs, which may be written. -/
structure BoolRow (w : World) (g : Nat) (xs : List Bool) : Prop where
  lt : g < w.heap.size
  cell : ∀ j, j < xs.length → w.cell? ⟨g, j, none⟩ = some (.bool (xs.getD j false))
  free : ∀ j, j < xs.length → w.frozen? ⟨g, j, none⟩ = false
theorem BoolRow.only {S : Nat → Prop} {w w' : World} {g : Nat} {xs : List Bool} (h : BoolRow w g xs) (ho : Only S w w') (hg : ¬ S g) : BoolRow w' g xs :=
  ⟨Nat.lt_of_lt_of_le h.lt ho.size, fun j hj => (ho.cell (p := ⟨g, j, none⟩) h.lt hg).trans (h.cell j hj), fun j hj => (World.frozen?_of_block (ho.block g h.lt hg)).trans (h.free j hj)⟩
theorem BoolRow.set {w : World} {g : Nat} {xs : List Bool} (h : BoolRow w g xs) (k : Nat) (v : Bool) (hk : k < xs.length) : BoolRow (w.setCell ⟨g, k, none⟩ (.bool v)) g (xs.set k v) := by
  refine ⟨by simpa using h.lt, fun j hj => ?_, fun j hj => by rw [World.frozen?_setCell]; exact h.free j (by simpa using hj)⟩
  rw [List.length_set] at hj
  by_cases e : k = j
  · subst e
    rw [World.cell?_setCell_same _ _ _ (h.cell k hk)]
    simp [List.getD, hk]
  · rw [World.cell?_setCell_other _ _ _ _ (by intro e2; injection e2 with _ e2; exact e e2), h.cell j hj]
    simp [List.getD, List.getElem?_set_ne e]

set_option maxHeartbeats 1000000 in
set_option maxRecDepth 100000 in
theorem turn_any (g off n cap : Nat) (l : List Bool) (w : World) (h : BoolRow w g l) (hl : off + 32 ≤ l.length) (hn32 : 32 ≤ n) (hm : n ≤ 1099511627776) :
    Calls Try.prog 39 #[.slice (some ⟨g, off, none⟩) n cap] w fun e w' => e = .returned (.tuple #[]) ∧ BoolRow w' g (Crc.flip off 32 l) ∧ Only (· = g) w w' := by
  have H := Lib.hid h
  clear h
  go_enter Try.func39, Try.ntmps39
  go_wp2
  go_loopw [2] (fun s2 wr => ∃ k : Nat, k ≤ 32 ∧ s2 = .int .i64 k ∧ BoolRow wr g (Crc.flip off k l) ∧ Only (· = g) w wr) (fun s2 _ => 32 - (intOf s2).toNat)
  case atStart => exact ⟨0, by omega, rfl, by rw [Crc.flip_zero]; exact H.out, Only.refl _ _⟩
  case round =>
    obtain ⟨k, hk, rfl, hb, ho⟩ := hrel
    have HB := Lib.hid hb
    have HO := Lib.hid ho
    clear hb ho
    by_cases hlt : k < 32
    · have hfl := Crc.flip_len off k l
      have hc := HB.out.cell (off + k) (by rw [hfl]; omega)
      have hf := HB.out.free (off + k) (by rw [hfl]; omega)
      have hn := HB.out.set (off + k) (!((Crc.flip off k l).getD (off + k) false)) (by rw [hfl]; omega)
      rw [← Crc.flip_succ off k l (by omega)] at hn
      have Hfin := Lib.hid (show BoolRow (wr.setCell ⟨g, off + k, none⟩ (.bool (!((Crc.flip off k l).getD (off + k) false)))) g (Crc.flip off (k + 1) l) ∧ Only (· = g) w (wr.setCell ⟨g, off + k, none⟩ (.bool (!((Crc.flip off k l).getD (off + k) false)))) from ⟨hn, HO.out.setCell (.inl rfl) _⟩)
      clear hn hfl
      generalize (Crc.flip off k l).getD (off + k) false = b at *
      go_wp2
      go_roundw
      case rel => exact ⟨k + 1, by omega, by go_num, Hfin.out.1, Hfin.out.2⟩
      case measure => simp [intOf]; omega
    · obtain rfl : k = 32 := by omega
      clear hlt hk
      go_wp2
      go_end0
      exact ⟨rfl, HB.out, HO.out⟩

theorem powers_any (w : World) : Calls Try.prog 47 #[] w fun e w' => e = .returned (.slice (some ⟨w.heap.size, 0, none⟩) 17 17) ∧ Blk w' w.heap.size 3 (Crc.powersL.map fun p => Value.int .i64 (p : Nat)).toArray ∧ Only (fun _ => False) w w' := by
  have hb : Blk (w.alloc (.cells (Crc.powersL.map fun p => Value.int .i64 (p : Nat)).toArray 3)) w.heap.size 3 (Crc.powersL.map fun p => Value.int .i64 (p : Nat)).toArray := Blk.new _ _ _
  have H := Lib.hid (show _ ∧ Only (fun _ => False) w (w.alloc (.cells (Crc.powersL.map fun p => Value.int .i64 (p : Nat)).toArray 3)) from ⟨hb, (Only.refl _ _).alloc _⟩)
  clear hb
  go_enter Try.func47, Try.ntmps47
  go_wp2
  go_ret
  exact ⟨rfl, H.out⟩

theorem powers_at (w : World) (g : Nat) (h : Blk w g 3 (Crc.powersL.map fun p => Value.int .i64 (p : Nat)).toArray) (k : Nat) (hk : k < 17) : w.cell? ⟨g, k, none⟩ = some (.int .i64 ((Crc.powersL.getD k 0 : Nat) : Int)) := by
  rw [h.cell k]
  have : k < Crc.powersL.length := hk
  simp [List.getD, this]

set_option maxHeartbeats 2000000 in
set_option maxRecDepth 100000 in
theorem left_any (g cap m : Nat) (raw cur0 : List Bool) (x0 : Nat) (w : World) (h : BoolRow w g cur0) (hi : Crc.Inv raw x0 0 cur0) (hm : raw.length = m + 32) (hcap : m + 32 ≤ cap) (hm63 : m ≤ 1099511627776) (hc63 : cap ≤ 9223372036854775807) (hz : ∀ q, m ≤ q → raw.getD q false = false) :
    Calls Try.prog 40 #[.slice (some ⟨g, 0, none⟩) (m + 32) cap] w fun e w' => e = .returned (.int .u32 ((Crc.regBits x0 (raw.take m) ^^^ Crc.F : Nat) : Int)) ∧ Only (· = g) w w' := by
  have H := Lib.hid h
  have HI := Lib.hid hi
  have HZ := Lib.hid hz
  have HM := Lib.hid hm
  have hgw := h.lt
  clear h hi hz hm
  go_enter Try.func40, Try.ntmps40
  go_wp2_with fail
  refine (powers_any w).mono ?_
  rintro e w1 ⟨rfl, hp, ho1⟩
  have HP := Lib.hid hp
  have HO1 := Lib.hid ho1
  clear hp ho1
  go_wp2_with fail
  go_loopw [4] (fun s4 wr => ∃ (i : Nat) (cur : List Bool), i ≤ m ∧ s4 = .int .i64 i ∧ BoolRow wr g cur ∧ Crc.Inv raw (Crc.regBits x0 (raw.take i)) i cur ∧ Only (· = g) w1 wr) (fun s4 _ => m - (intOf s4).toNat)
  case atStart => exact ⟨0, cur0, by omega, rfl, H.out.only HO1.out (fun h => h), by simpa [Crc.regBits] using HI.out, Only.refl _ _⟩
  case round =>
    obtain ⟨i, cur, him, rfl, hb, hinv, ho⟩ := hrel
    have HB := Lib.hid hb
    have HV := Lib.hid hinv
    have HO := Lib.hid ho
    have hcl := hinv.len
    clear hb hinv ho
    rw [HM.out] at hcl
    by_cases hlt : i < m
    · have hc := HB.out.cell i (by omega)
      have hst := Crc.Inv.step_ HV.out (by rw [HM.out]; omega)
      rw [← Crc.regBits_take_succ x0 raw i (by rw [HM.out]; omega)] at hst
      cases hbit : cur.getD i false with
      | false =>
        rw [hbit] at hc hst
        rw [if_neg (by simp)] at hst
        have HS := Lib.hid hst
        clear hst hbit
        go_wp2
        go_roundw
        case rel => exact ⟨i + 1, cur, by omega, by go_num, HB.out, HS.out, HO.out⟩
        case measure => simp [intOf]; omega
      | true =>
        rw [hbit] at hc hst
        rw [if_pos rfl] at hst
        have HS := Lib.hid hst
        clear hst hbit
        go_wp2
        obtain ⟨wo, hwo⟩ : ∃ wo : World, wo = wr := ⟨_, rfl⟩
        rw [← hwo] at HB HO hc ⊢
        clear hwo
        go_loopw [5] (fun s5 wi => ∃ k : Nat, k ≤ 17 ∧ s5 = .int .i64 k ∧ BoolRow wi g (Crc.tgs i (Crc.powersL.take k) cur) ∧ Only (· = g) w1 wi) (fun s5 _ => 17 - (intOf s5).toNat)
        case atStart => exact ⟨0, by omega, rfl, by simpa [Crc.tgs] using HB.out, HO.out⟩
        case round =>
          obtain ⟨k, hk, rfl, hb2, ho2⟩ := hrel
          have HB2 := Lib.hid hb2
          have HO2 := Lib.hid ho2
          clear hb2 ho2 hc
          by_cases hlk : k < 17
          · have hpk := powers_at _ _ (HO2.out.blk HP.out (fun e => by have := H.out.lt; omega)) k hlk
            have hle : Crc.powersL.getD k 0 ≤ 28 := by
              have : ∀ d : Fin 17, Crc.powersL.getD d.val 0 ≤ 28 := by decide
              exact this ⟨k, hlk⟩
            have htk : Crc.tgs i (Crc.powersL.take (k + 1)) cur = Crc.tg (Crc.tgs i (Crc.powersL.take k) cur) (i + 32 - Crc.powersL.getD k 0) := by
              rw [List.take_succ_eq_append_getElem (show k < Crc.powersL.length from hlk), Crc.tgs_append]
              simp [Crc.tgs, List.getD, show k < Crc.powersL.length from hlk]
            have hl2 := Crc.tgs_len i (Crc.powersL.take k) cur
            generalize Crc.powersL.getD k 0 = lk at *
            have hcc := HB2.out.cell (i + 32 - lk) (by rw [hl2, hcl]; omega)
            have hff := HB2.out.free (i + 32 - lk) (by rw [hl2, hcl]; omega)
            have hn := HB2.out.set (i + 32 - lk) (!((Crc.tgs i (Crc.powersL.take k) cur).getD (i + 32 - lk) false)) (by rw [hl2, hcl]; omega)
            rw [show (Crc.tgs i (Crc.powersL.take k) cur).set (i + 32 - lk) (!((Crc.tgs i (Crc.powersL.take k) cur).getD (i + 32 - lk) false)) = Crc.tgs i (Crc.powersL.take (k + 1)) cur from htk.symm] at hn
            have Hfin := Lib.hid (show _ ∧ Only (· = g) w1 (wr.setCell ⟨g, i + 32 - lk, none⟩ (.bool (!((Crc.tgs i (Crc.powersL.take k) cur).getD (i + 32 - lk) false)))) from ⟨hn, HO2.out.setCell (.inl rfl) _⟩)
            clear hn htk hl2
            generalize (Crc.tgs i (Crc.powersL.take k) cur).getD (i + 32 - lk) false = bb at *
            go_wp2
            go_roundw
            case rel => exact ⟨k + 1, by omega, by go_num, Hfin.out.1, Hfin.out.2⟩
            case measure => simp [intOf]; omega
          · obtain rfl : k = 17 := by omega
            clear hlk hk
            have hpl : Crc.powersL.take 17 = Crc.powersL := rfl
            rw [hpl] at HB2
            go_wp2
            go_roundw
            case rel => exact ⟨i + 1, _, by omega, by go_num, HB2.out, HS.out, HO2.out⟩
            case measure => simp [intOf]; omega
    · obtain rfl : i = m := by omega
      clear hlt him
      go_wp2_with fail
      refine (turn_any g i _ _ cur _ HB.out (by omega) (by omega) (by omega)).mono ?_
      rintro e w2 ⟨rfl, hb2, ho2⟩
      have HO2 := Lib.hid ((HO1.out.mono (T := (· = g)) (fun _ h => h.elim)).trans (HO.out.trans ho2))
      have HB2 := Lib.hid hb2
      have hR : Crc.regBits x0 (raw.take i) ^^^ Crc.F < 4294967296 := Nat.xor_lt_two_pow (n := 32) HV.out.lt Crc.F_lt
      have hbits : ∀ j, j < 32 → (Crc.flip i 32 cur).getD (i + j) false = (Crc.regBits x0 (raw.take i) ^^^ Crc.F).testBit j := by
        intro j hj
        have h1 := HV.out.at_ (i + j) (by omega) (by rw [HM.out]; omega)
        rw [HZ.out (i + j) (by omega), show i + j - i = j by omega] at h1
        simp only [List.getD] at h1 ⊢
        rw [Crc.flip_get, List.getElem?_eq_getElem (show i + j < cur.length by omega)] 
        rw [List.getElem?_eq_getElem (show i + j < cur.length by omega)] at h1
        simp only [Option.map_some, Option.getD_some] at h1 ⊢
        rw [if_pos ⟨by omega, by omega⟩, h1, Nat.testBit_xor, Crc.F_bit j hj]
        cases (Crc.regBits x0 (raw.take i)).testBit j <;> rfl
      have HBITS := Lib.hid hbits
      have hfl := Crc.flip_len i 32 cur
      clear hbits hb2 ho2
      generalize hRR : Crc.regBits x0 (raw.take i) ^^^ Crc.F = R at *
      have HRR := Lib.hid hRR
      clear hRR
      go_wp2_with fail
      have h32 : (0 : Int) = ((R >>> 32 : Nat) : Int) := by rw [Nat.shiftRight_eq_div_pow]; omega
      have H32 := Lib.hid h32
      clear h32
      go_loop [8, 9] (fun x s9 => ∃ j : Nat, j ≤ 32 ∧ s9 = .int .i64 ((j : Int) - 1) ∧ x = .int .u32 ((R >>> j : Nat) : Int)) (fun _ s9 => (intOf s9 + 1).toNat)
      case atStart => exact ⟨32, by omega, rfl, by rw [← H32.out]⟩
      case round =>
        obtain ⟨j, hj, rfl, rfl⟩ := hrel
        cases j with
        | zero =>
          rw [show R >>> 0 = R from rfl]
          go_wp2
          go_ret
          exact ⟨ret_int (by rw [HRR.out]), HO2.out⟩
        | succ j =>
          have hc := HB2.out.cell (i + j) (by rw [hfl]; omega)
          rw [HBITS.out j (by omega)] at hc
          have hsh := Crc.rshift_bit R j
          have hle : R >>> j < 4294967296 := by rw [Nat.shiftRight_eq_div_pow]; exact Nat.lt_of_le_of_lt (Nat.div_le_self _ _) hR
          rw [show ((j + 1 : Nat) : Int) - 1 = (j : Int) by omega]
          cases hbit : R.testBit j with
          | false =>
            rw [hbit] at hc hsh
            have HS := Lib.hid hsh
            have hy : 2 * (R >>> (j + 1)) < 4294967296 := by simp at hsh; omega
            clear hsh hbit
            generalize hgy : R >>> (j + 1) = y at *
            go_wp2
            go_round
            case rel => exact ⟨j, by omega, rfl, by rw [HS.out]; simp⟩
            case measure => simp [intOf] <;> omega
          | true =>
            rw [hbit] at hc hsh
            have HS := Lib.hid hsh
            have hy : 2 * (R >>> (j + 1)) + 1 < 4294967296 := by simp at hsh; omega
            clear hsh hbit
            generalize hgy : R >>> (j + 1) = y at *
            go_wp2
            go_round
            case rel => exact ⟨j, by omega, rfl, by rw [HS.out]; simp⟩
            case measure => simp [intOf] <;> omega
end Go.Proofs.Ytpnjcgpnannjaaa
