/- Several texts in one: BkN. -/
import Derived.Test.YtmneflpjoaocbaaMBkM
/- Books: the walk of Append. No conditions beyond what it states. -/
namespace Go.Proofs.Ytmneflpjoaocbaa
open Go.RowKit
set_option linter.unusedVariables false
attribute [local simp] frOf dstsOf frGo predsHold allHold Region.binds slotOf seen Is Act.put
/-- A region in which one operation makes memory, and a later one turns the world: what stands all the while, ahead of the later one, behind it. -/
structure Stg (K P Q : World → Prop) (b1 b2 : Bool) (y : World) : Prop where
  all : K y
  ord : b2 = true → b1 = true
  is_ : if b2 = true then Q y else P y
theorem Stg.was {K P Q : World → Prop} {y : World} {b1 b2 : Bool} (h : Stg K P Q b1 b2 y) (hb : b2 = false) : P y := by have := h.is_; simpa [hb] using this
theorem Stg.got {K P Q : World → Prop} {y : World} {b1 b2 : Bool} (h : Stg K P Q b1 b2 y) (hb : b2 = true) : Q y := by have := h.is_; simpa [hb] using this
theorem Stg.put {K P Q : World → Prop} {y : World} {b1 : Bool} (h1 : b1 = true) (h : K y) (hq : Q y) : Stg K P Q b1 true y := ⟨h, fun _ => h1, by simpa using hq⟩
theorem Stg.start {K P Q : World → Prop} {W : World} (h : K W) (hp : P W) : Stg K P Q false false W := ⟨h, by simp, by simpa using hp⟩
theorem Stg.grow {K P Q : World → Prop} {y y' : World} {b1 b2 : Bool} (h : Stg K P Q b1 b2 y) (hb : b1 = false) (hk : K y') (hp : P y → P y') : Stg K P Q true b2 y' := by
  have h2 : b2 = false := by
    cases hb2 : b2 with
    | false => rfl
    | true => have := h.ord hb2; rw [hb] at this; cases this
  subst h2
  exact ⟨hk, by simp, by have := h.is_; simpa using hp (by simpa using this)⟩
theorem fsz_le (l : List ByteArray) (h : ∀ x ∈ l, x.size ≤ 131072) : fsz l ≤ 131081 * l.length := by
  induction l with
  | nil => simp [fsz]
  | cons a l ih =>
    have h1 := ih (fun x hx => h x (by simp [hx]))
    have h2 := fsize_le a.size (h a (by simp))
    simp only [fsz, List.map_cons, List.sum_cons, List.length_cons] at h1 ⊢
    omega
theorem fsz_pos (l : List ByteArray) (h : l ≠ []) : 0 < fsz l := by
  cases l with
  | nil => exact absurd rfl h
  | cons a l =>
    simp only [fsz, List.map_cons, List.sum_cons]
    unfold fsize
    omega
set_option maxHeartbeats 4000000 in
set_option maxRecDepth 100000 in
theorem append_any (p gs n f nn bb : Nat) (S : Dst) (B m : Nat) (t : List UInt8) (br : Bool) (xs : List ByteArray) (A : Option Addr) (c : Nat) (w : World)
    (D : DkS w p gs n S B m) (hb : BookB w bb p f nn (sB t) br) (hBb : B ≤ bb) (hx : ∀ W, FarX (fun b => b = bb) w W → Only (fun b => B ≤ b) w W → TextRow W A xs) (hn : f + nn ≤ n) (ht : t.length ≤ nn * 127) (hm : m + 6000 ≤ 1000000) (hxl : xs.length ≤ 1000000) (hxs : ∀ x ∈ xs, x.size ≤ 9223372036854775807) :
    Calls Try.prog 7 #[.pointer (some ⟨bb, 0, none⟩), .slice A xs.length c] w fun e w' =>
      e = .returned (.int .i64 (appS n f nn S t br xs).1) ∧ DkS w' p gs n (appS n f nn S t br xs).2.1 B (m + nn + 2) ∧ BookB w' bb p f nn (sB (appS n f nn S t br xs).2.2.1) (appS n f nn S t br xs).2.2.2 ∧
      FarX (fun b => b = bb) w w' ∧ Only (fun b => B ≤ b) w w' := by
  have hn4 : n ≤ 4096 := D.1.2.1
  have HD := Lib.hid D
  have HBk := Lib.hid hb
  have HBb := Lib.hid hBb
  have HXR := Lib.hid hx
  obtain ⟨R, hR⟩ : ∃ R, R = appS n f nn S t br xs := ⟨_, rfl⟩
  rw [← hR]
  have HR := Lib.hid hR
  have c4 : w.cell? ⟨bb, 4, none⟩ = some (.bool br) := hb.cell 4
  clear D hb hBb hx hR
  cases br with
  | true =>
    have hRe : Hid (R = (3, S, t, true)) := Lib.hid (by rw [HR.out]; rfl)
    go_enter Try.func7, Try.ntmps7
    go_wp2_with fail
    refine (bnone_any bb p f nn (sB t) true w HBk.out).mono ?_
    rintro e w1 ⟨rfl, rfl⟩
    go_wp2_with fail
    go_ret
    rw [hRe.out]
    exact ⟨rfl, HD.out.more (by omega) (by omega), HBk.out, FarX.refl _ _, Only.refl _ _⟩
  | false =>
    go_enter Try.func7, Try.ntmps7
    go_wp2_with fail
    refine (bnone_any bb p f nn (sB t) false w HBk.out).mono ?_
    rintro e w1 ⟨rfl, rfl⟩
    go_wp2_with fail
    clear c4
    go_loop [5, 25] (fun nv i => ∃ k : Nat, k ≤ xs.length ∧ i = .int .i64 (k : Int) ∧ nv = .int .i64 ((fsz (xs.take k) : Nat) : Int) ∧ (∀ x ∈ xs.take k, x.size ≤ 131072)) (fun _ i => xs.length - (intOf i).toNat)
    case atStart => exact ⟨0, by omega, rfl, rfl, by simp⟩
    case round =>
      obtain ⟨k, hk, rfl, rfl, hall⟩ := hrel
      by_cases hlt : k < xs.length
      · obtain ⟨g, off, hA, hg, hck⟩ := (HXR.out w (FarX.refl _ _) (Only.refl _ _)).at_ k hlt
        subst hA
        have hmem := List.getElem_mem hlt
        have hsn : xs.take (k + 1) = xs.take k ++ [xs[k]] := by rw [List.take_add_one, List.getElem?_eq_getElem hlt]; rfl
        have hxk := hxs _ hmem
        have hfl := fsz_le (xs.take k) hall
        rw [List.length_take] at hfl
        generalize xs[k] = x at *
        have hlti : (k : Int) < (xs.length : Int) := by omega
        have HSN := Lib.hid hsn
        have HAL := Lib.hid hall
        have HMEM := Lib.hid hmem
        clear hsn hall hmem
        by_cases hlong : x.size ≤ 131072
        · have hli : ¬ (131072 : Int) < (x.size : Int) := by omega
          have hfx := fsize_le x.size hlong
          have hfs1 : fsz (xs.take (k + 1)) = fsz (xs.take k) + fsize x.size := by rw [HSN.out, fsz_snoc]
          have HF1 := Lib.hid hfs1
          clear hfs1
          go_wp2_with fail
          refine (fsize_any (x.size : Int) w (by omega) (by omega)).mono ?_
          rintro e w1 ⟨rfl, rfl⟩
          rw [if_neg (by omega), Int.toNat_natCast]
          have hwr : IntKind.i64.wrap ((fsz (xs.take k) : Int) + (fsize x.size : Int)) = ((fsz (xs.take (k + 1)) : Nat) : Int) := by rw [HF1.out, IntWalk.i64_in _ (by omega)]; omega
          go_wp2_with fail
          go_round
          case rel =>
            refine ⟨k + 1, by omega, by go_num, by rw [HF1.out], fun y hy => ?_⟩
            rw [HSN.out] at hy
            rcases List.mem_append.1 hy with h | h
            · exact HAL.out y h
            · rw [List.mem_singleton.1 h]; exact hlong
          case measure => simp [intOf] <;> omega
        · have hli : (131072 : Int) < (x.size : Int) := by omega
          have hRe : Hid (R = (4, S, t, false)) := Lib.hid (by
            rw [HR.out]
            unfold appS
            rw [if_neg (by simp), if_neg (fun h => hlong (by have := List.all_eq_true.1 h _ HMEM.out; simpa using this))])
          go_wp2_with fail
          go_ret
          rw [hRe.out]
          exact ⟨rfl, HD.out.more (by omega) (by omega), HBk.out, FarX.refl _ _, Only.refl _ _⟩
      · obtain rfl : k = xs.length := by omega
        rw [List.take_length] at hall ⊢
        have hfl := fsz_le xs hall
        have hfb := frsB_len xs hall
        have HAL := Lib.hid hall
        have HFB := Lib.hid hfb
        clear hall hfb
        go_wp2_with fail
        refine (room_any p f nn bb t false w HBk.out (by omega) (by omega)).mono ?_
        rintro e w2 ⟨rfl, o2⟩
        have O2 := Lib.hid o2
        clear o2
        by_cases hroom : nn * 127 < t.length + fsz xs
        · have hri : (nn : Int) * 127 - (t.length : Int) < (fsz xs : Int) := by omega
          have hRe : Hid (R = (6, S, t, false)) := Lib.hid (by
            rw [HR.out]
            unfold appS
            rw [if_neg (by simp), if_pos (List.all_eq_true.2 fun x hx => by simpa using HAL.out x hx), if_pos hroom])
          go_wp2_with fail
          go_ret
          rw [hRe.out]
          exact ⟨rfl, (HD.out.only O2.out).more (by omega) (by omega), O2.out.blk HBk.out (fun h => h), FarX.none O2.out, O2.out.mono fun _ h => h.elim⟩
        · have hri : ¬ (nn : Int) * 127 - (t.length : Int) < (fsz xs : Int) := by omega
          have hb2 : BookB w2 bb p f nn (sB t) false := O2.out.blk HBk.out (fun h => h)
          have c3 : w2.cell? ⟨bb, 3, none⟩ = some (.string (sB t)) := hb2.cell 3
          have hsz : (sB t).size = t.length := sB_size t
          have HB2 := Lib.hid hb2
          obtain ⟨kf, hkf⟩ : ∃ kf, kf = t.length / 127 := ⟨_, rfl⟩
          have hkf1 : kf * 127 ≤ t.length := by omega
          have hq : IntKind.i64.wrap ((t.length : Int).tdiv 127) = ((kf : Nat) : Int) := by
            have : (t.length : Int).tdiv 127 = ((kf : Nat) : Int) := by rw [hkf]; rfl
            rw [this]
            exact IntWalk.i64_in _ (by omega)
          have HKF := Lib.hid hkf
          clear hb2 hkf
          go_wp2_with fail
          go_loopw [50] (fun i wr => ∃ k : Nat, k ≤ xs.length ∧ i = .int .i64 (k : Int) ∧ BookB wr bb p f nn (sB (t ++ frsB (xs.take k))) false ∧ DkS wr p gs n S B m ∧ FarX (fun b => b = bb) w wr ∧ Only (fun b => B ≤ b) w wr) (fun i _ => xs.length - (intOf i).toNat)
          case atStart =>
            refine ⟨0, by omega, rfl, ?_, HD.out.only O2.out, FarX.none O2.out, O2.out.mono fun _ h => h.elim⟩
            simpa [frsB] using HB2.out
          case round =>
            obtain ⟨k, hk, rfl, b1, b2, b3, b4⟩ := hrel
            have I1 := Lib.hid b1
            have I2 := Lib.hid b2
            have I3 := Lib.hid b3
            have I4 := Lib.hid b4
            clear b1 b2 b3 b4 c3
            by_cases hlt : k < xs.length
            · obtain ⟨g, off, hA, hg, hck⟩ := (HXR.out wr I3.out I4.out).at_ k hlt
              subst hA
              have hsn : xs.take (k + 1) = xs.take k ++ [xs[k]] := by rw [List.take_add_one, List.getElem?_eq_getElem hlt]; rfl
              have hxk := HAL.out _ (List.getElem_mem hlt)
              have hft := fsz_take xs k
              have hfl2 := frsB_len (xs.take k) (fun x hx => HAL.out x (List.mem_of_mem_take hx))
              generalize xs[k] = x at *
              have hlti : (k : Int) < (xs.length : Int) := by omega
              have HSN := Lib.hid hsn
              have hfx := fsize_le x.size hxk
              have hfb := frB_len x hxk
              clear hsn
              go_wp2_with fail
              have hrow : TextRow (wr.alloc (.cells #[.string x] 9)) (some ⟨wr.heap.size, 0, none⟩) [x] := ⟨fun j hj => ⟨wr.heap.size, 0, rfl, by simp, by
                obtain rfl : j = 0 := by simpa using hj
                exact (Blk.new wr 9 #[.string x]).cell 0⟩⟩
              have hfw := fwrite_any 1 [x] (some ⟨wr.heap.size, 0, none⟩) 1 (wr.alloc (.cells #[.string x] 9)) (by omega) hrow (by simp) (by omega) (by unfold sum; rw [cat_one]; omega)
              have hsum : sum [x] = x.size := by unfold sum; rw [cat_one]
              rw [hsum, if_neg (by omega), if_neg (by omega), cat_one] at hfw
              refine hfw.mono ?_
              rintro e w3 ⟨rfl, o3⟩
              have hO3 : Only (fun _ => False) wr w3 := ((Only.refl _ wr).alloc _).trans (Only.below_ o3)
              have O3 := Lib.hid hO3
              have b3 : BookB w3 bb p f nn (sB (t ++ frsB (xs.take k))) false := hO3.blk I1.out (fun h => h)
              have c3 : w3.cell? ⟨bb, 3, none⟩ = some (.string (sB (t ++ frsB (xs.take k)))) := b3.cell 3
              have f3 : w3.frozen? ⟨bb, 3, none⟩ = false := b3.frozen 3
              have B3 := Lib.hid b3
              have hs1 : (sB (t ++ frsB (xs.take k))).size ≤ 100000000 := by rw [sB_size, List.length_append, hfl2]; omega
              have hs2 : (fraw 1 x).size ≤ 200000 := by
                have : (fraw 1 x).size = (frB x).length := by simp [frB]
                omega
              have hcat : sB (t ++ frsB (xs.take k)) ++ fraw 1 x = sB (t ++ frsB (xs.take (k + 1))) := by
                rw [sB_fr, List.append_assoc, HSN.out, frsB_snoc]
              clear hfw hrow hsum o3 hO3 b3 hck
              go_wp2_with fail
              go_roundw
              case rel =>
                have oset : Only (fun b => b = bb) w3 (w3.setCell ⟨bb, 3, none⟩ (.string (sB (t ++ frsB (xs.take (k + 1)))))) := (Only.refl (fun b => b = bb) w3).setCell (p := ⟨bb, 3, none⟩) (.inl rfl) _
                refine ⟨k + 1, by omega, by go_num, B3.out.set_ 3 _, (I2.out.only O3.out).away B3.out oset nDT_Book, (I3.out.trans (FarX.none O3.out)).trans (FarX.of_only oset (fun _ h => h)), (I4.out.trans (O3.out.mono fun _ h => h.elim)).trans (oset.mono fun b h => by rw [h]; exact HBb.out)⟩
              case measure => simp [intOf]; omega
            · obtain rfl : k = xs.length := by omega
              rw [List.take_length] at I1
              go_wp2_with fail
              obtain ⟨t2, ht2⟩ : ∃ t2, t2 = t ++ frsB xs := ⟨_, rfl⟩
              rw [← ht2] at I1
              have hl2 : t2.length = t.length + fsz xs := by rw [ht2, List.length_append, HFB.out]
              obtain ⟨Y, hY⟩ : ∃ Y, Y = (if xs = [] then ((0 : Int), S) else appW n f t2 (nn + 1) kf S) := ⟨_, rfl⟩
              have hRY : R = (Y.1, Y.2, t2, Y.1 != 0) := by
                rw [HR.out]
                unfold appS
                rw [if_neg (by simp), if_pos (List.all_eq_true.2 fun x hx => by simpa using HAL.out x hx), if_neg hroom, hY, ht2]
                by_cases hxe : xs = []
                · subst hxe; simp [frsB]
                · rw [if_neg hxe, if_neg hxe, HKF.out]
              have HRY := Lib.hid hRY
              clear hRY ht2
              by_cases hxe : xs = []
              · have hf0 : fsz xs = 0 := by rw [hxe]; rfl
                have hYe : Hid (Y = (0, S)) := Lib.hid (by rw [hY, if_pos hxe])
                have hpos : ¬ (0 : Int) < (fsz xs : Int) := by omega
                clear hxe hY
                go_loopw [13] (fun i wz => BookB wz bb p f nn (sB t2) false ∧ DkS wz p gs n S B m ∧ FarX (fun b => b = bb) w wz ∧ Only (fun b => B ≤ b) w wz) (fun i _ => 0)
                case atStart => exact ⟨I1.out, I2.out, I3.out, I4.out⟩
                case round =>
                  obtain ⟨b1, b2, b3, b4⟩ := hrel
                  have J1 := Lib.hid b1
                  have J2 := Lib.hid b2
                  have J3 := Lib.hid b3
                  have J4 := Lib.hid b4
                  clear b1 b2 b3 b4
                  go_wp2_with fail
                  go_ret
                  rw [HRY.out, hYe.out]
                  exact ⟨rfl, J2.out.more (by omega) (by omega), J1.out, J3.out, J4.out⟩
              · have hpos : (0 : Int) < (fsz xs : Int) := by have := fsz_pos xs hxe; omega
                rw [if_neg hxe] at hY
                have HYY := Lib.hid hY
                clear hxe hY
                go_loopw [13] (fun i wz => ∃ (k : Nat) (S2 : Dst), kf ≤ k ∧ k ≤ nn ∧ i = .int .i64 (k : Int) ∧ appW n f t2 (nn + 1 + kf - k) k S2 = Y ∧ BookB wz bb p f nn (sB t2) false ∧ DkS wz p gs n S2 B (m + (k - kf)) ∧ FarX (fun b => b = bb) w wz ∧ Only (fun b => B ≤ b) w wz) (fun i _ => nn + 1 - (intOf i).toNat)
                case atStart => exact ⟨kf, S, by omega, by omega, congrArg (Value.int .i64) (by have := HKF.out; omega), by rw [HYY.out]; congr 1; omega, I1.out, I2.out.more (by omega) (by omega), I3.out, I4.out⟩
                case round =>
                  obtain ⟨k, S2, hk1, hk2, rfl, hap, b1, b2, b3, b4⟩ := hrel
                  have J1 := Lib.hid b1
                  have J2 := Lib.hid b2
                  have J3 := Lib.hid b3
                  have J4 := Lib.hid b4
                  have HAP := Lib.hid hap
                  clear b1 b2 b3 b4 hap
                  obtain ⟨w7, rfl⟩ : ∃ w7, w7 = wr := ⟨_, rfl⟩
                  have c3 : w7.cell? ⟨bb, 3, none⟩ = some (.string (sB t2)) := J1.out.cell 3
                  have hsz2 : (sB t2).size = t2.length := sB_size t2
                  have hmw : IntKind.i64.wrap ((k : Int) * 127) = (k : Int) * 127 := IntWalk.i64_in _ (by omega)
                  by_cases hkl : k * 127 < t2.length
                  · have hkli : (k : Int) * 127 < (t2.length : Int) := by omega
                    have hknn : k < nn := by omega
                    have hdd : decide ((k : Int) * 127 < (t.length : Int) + (fsz xs : Int)) = true := decide_eq_true (by omega)
                    go_wp2_with fail
                    clear hdd
                    obtain ⟨y0, hy0⟩ : ∃ y0, y0 = wrS n S2 ((f : Int) + (k : Int)) (madeL t2 k) := ⟨_, rfl⟩
                    have HY0 := Lib.hid hy0
                    obtain ⟨W7, hW7⟩ : ∃ W7, W7 = w7.drew := ⟨_, rfl⟩
                    have hN7 : Only (fun _ => False) w7 W7 := by rw [hW7]; exact (Only.refl _ w7).drew
                    have H7 : Hid (BookB W7 bb p f nn (sB t2) false) := Lib.hid (hN7.blk J1.out (fun h => h))
                    have HN7 := Lib.hid hN7
                    have HW7 := Lib.hid hW7
                    have hMd : ∀ W, Hid (Calls Try.prog 26 #[.string (sB t2), .int .i64 (k : Int)] W fun e w' => e = .returned (.string (sB (madeL t2 k))) ∧ Only (fun _ => False) W w') := fun W => Lib.hid ((made_any t2 k W (by omega) (by omega)).mono (by rintro e w' ⟨he, hb⟩; exact ⟨he, Only.below_ hb⟩))
                    have HWR : Hid (∀ W, Only (fun _ => False) W7 W → Calls Try.prog 25 #[.pointer (some ⟨p, 0, none⟩), .int .i64 ((f : Int) + (k : Int)), .string (sB (madeL t2 k))] W fun e w' => e = .returned (.int .i64 y0.1) ∧ DkS w' p gs n y0.2 B (m + (k - kf) + 1) ∧ Far W w' ∧ Only (fun b => B ≤ b) W w') := Lib.hid (fun W hW => by
                      have h := dk_write p gs n S2 B (m + (k - kf)) ((f : Int) + (k : Int)) (sB (madeL t2 k)) W ((J2.out.only hN7).only hW) (by omega) (by rw [sB_size, madeL_len]; omega)
                      rw [sB_list, ← hy0] at h
                      exact h.mono (by rintro e w' ⟨h1, h2, h3, h4⟩; exact ⟨h1, h2, h4, h3⟩))
                    have hadd : IntKind.i64.wrap ((f : Int) + (k : Int)) = (f : Int) + (k : Int) := IntWalk.i64_in _ (by omega)
                    have HKL := Lib.hid hkl
                    have HKN := Lib.hid hknn
                    have HPOS := Lib.hid hpos
                    have HRM := Lib.hid hroom
                    clear hW7 hN7 hy0 c3 hmw hkl hkli hknn hpos hroom hri hl2
                    refine wp_region_st (by kernel_rfl) (fun dn y => Stg (fun y => BookB y bb p f nn (sB t2) false) (fun y => Only (fun _ => False) W7 y) (fun y => DkS y p gs n y0.2 B (m + (k - kf) + 1) ∧ FarX (fun b => b = bb) W7 y ∧ Only (fun b => B ≤ b) W7 y) (dn 17) (dn 18) y) [Is (.pointer (some ⟨bb, 0, none⟩)), Is (.pointer (some ⟨bb, 0, none⟩)), Is (.pointer (some ⟨bb, 0, none⟩)), Is (.pointer (some ⟨bb, 0, none⟩)), Is (.pointer (some ⟨p, 0, none⟩)), Is (.pointer (some ⟨bb, 0, none⟩)), Is (.pointer (some ⟨bb, 0, none⟩)), Is (.pointer (some ⟨bb, 0, none⟩)), Is (.pointer (some ⟨bb, 1, none⟩)), Is (.int .i64 f), Is (.int .i64 (k : Int)), Is (.int .i64 ((f : Int) + (k : Int))), Is (.pointer (some ⟨bb, 0, none⟩)), Is (.pointer (some ⟨bb, 0, none⟩)), Is (.pointer (some ⟨bb, 3, none⟩)), Is (.string (sB t2)), Is (.int .i64 (k : Int)), Is (.string (sB (madeL t2 k))), Is (.int .i64 y0.1), Is (.int .i64 y0.1)] (by kernel_rfl)
                      ⟨is_stab _ _, is_stab _ _, is_stab _ _, is_stab _ _, is_stab _ _, is_stab _ _, is_stab _ _, is_stab _ _, is_stab _ _, is_stab _ _, is_stab _ _, is_stab _ _, is_stab _ _, is_stab _ _, is_stab _ _, is_stab _ _, is_stab _ _, is_stab _ _, is_stab _ _, is_stab _ _, trivial⟩ (by rw [← HW7.out]; exact Stg.start H7.out (Only.refl _ _)) ⟨?_, ?_, ?_, ?_, ?_, ?_, ?_, ?_, ?_, ?_, ?_, ?_, ?_, ?_, ?_, ?_, ?_, ?_, ?_, ?_, trivial⟩ ?_
                    · intro dn u w1 hi he hS hp K hK
                      refine ord_plain rfl ?_
                      simp at hp hK ⊢
                      go_simp
                      exact hK _ _ (by simpa [ldW] using hS) rfl
                    · intro dn u w1 hi he hS hp K hK
                      refine ord_plain rfl ?_
                      simp at hp hK ⊢
                      simp only [hp] at hK
                      go_simp
                      exact hK _ _ (by simpa [ldW] using hS) rfl
                    · intro dn u w1 hi he hS hp K hK
                      refine ord_plain rfl ?_
                      simp at hp hK ⊢
                      simp only [hp] at hK
                      go_simp
                      exact hK _ _ (by simpa [ldW] using hS) rfl
                    · intro dn u w1 hi he hS hp K hK
                      refine ord_plain rfl ?_
                      simp at hp hK ⊢
                      simp only [hp] at hK
                      go_simp
                      exact hK _ _ (by simpa [ldW] using hS) rfl
                    · intro dn u w1 hi he hS hp K hK
                      refine ord_plain rfl ?_
                      simp at hp hK ⊢
                      simp only [hp] at hK
                      have hc0 : w1.cell? ⟨bb, 0, none⟩ = some (.pointer (some ⟨p, 0, none⟩)) := hS.all.cell 0
                      go_simp
                      exact hK _ _ (by simpa [ldW] using hS) rfl
                    · intro dn u w1 hi he hS hp K hK
                      refine ord_plain rfl ?_
                      simp at hp hK ⊢
                      go_simp
                      exact hK _ _ (by simpa [ldW] using hS) rfl
                    · intro dn u w1 hi he hS hp K hK
                      refine ord_plain rfl ?_
                      simp at hp hK ⊢
                      simp only [hp] at hK
                      go_simp
                      exact hK _ _ (by simpa [ldW] using hS) rfl
                    · intro dn u w1 hi he hS hp K hK
                      refine ord_plain rfl ?_
                      simp at hp hK ⊢
                      simp only [hp] at hK
                      go_simp
                      exact hK _ _ (by simpa [ldW] using hS) rfl
                    · intro dn u w1 hi he hS hp K hK
                      refine ord_plain rfl ?_
                      simp at hp hK ⊢
                      simp only [hp] at hK
                      go_simp
                      exact hK _ _ (by simpa [ldW] using hS) rfl
                    · intro dn u w1 hi he hS hp K hK
                      refine ord_plain rfl ?_
                      simp at hp hK ⊢
                      simp only [hp] at hK
                      have hc1 : w1.cell? ⟨bb, 1, none⟩ = some (.int .i64 f) := hS.all.cell 1
                      go_simp
                      exact hK _ _ (by simpa [ldW] using hS) rfl
                    · intro dn u w1 hi he hS hp K hK
                      refine ord_plain rfl ?_
                      simp at hp hK ⊢
                      go_simp
                      exact hK _ _ (by simpa [ldW] using hS) rfl
                    · intro dn u w1 hi he hS hp K hK
                      refine ord_plain rfl ?_
                      simp at hp hK ⊢
                      simp only [hp] at hK
                      go_simp
                      exact hK _ _ (by simpa [ldW] using hS) rfl
                    · intro dn u w1 hi he hS hp K hK
                      refine ord_plain rfl ?_
                      simp at hp hK ⊢
                      go_simp
                      exact hK _ _ (by simpa [ldW] using hS) rfl
                    · intro dn u w1 hi he hS hp K hK
                      refine ord_plain rfl ?_
                      simp at hp hK ⊢
                      simp only [hp] at hK
                      go_simp
                      exact hK _ _ (by simpa [ldW] using hS) rfl
                    · intro dn u w1 hi he hS hp K hK
                      refine ord_plain rfl ?_
                      simp at hp hK ⊢
                      simp only [hp] at hK
                      go_simp
                      exact hK _ _ (by simpa [ldW] using hS) rfl
                    · intro dn u w1 hi he hS hp K hK
                      refine ord_plain rfl ?_
                      simp at hp hK ⊢
                      simp only [hp] at hK
                      have hc3 : w1.cell? ⟨bb, 3, none⟩ = some (.string (sB t2)) := hS.all.cell 3
                      go_simp
                      exact hK _ _ (by simpa [ldW] using hS) rfl
                    · intro dn u w1 hi he hS hp K hK
                      refine ord_plain rfl ?_
                      simp at hp hK ⊢
                      go_simp
                      exact hK _ _ (by simpa [ldW] using hS) rfl
                    · intro dn u w1 hi he hS hp K hK
                      refine ord_plain rfl ?_
                      simp at hp hK ⊢
                      simp only [hp] at hK
                      go_simp
                      refine (hMd _).out.mono ?_
                      rintro e w2 ⟨rfl, ob⟩
                      exact hK _ _ (Stg.grow hS hi (ob.blk hS.all (fun h => h)) (fun h => h.trans ob)) rfl
                    · intro dn u w1 hi he hS hp K hK
                      refine ord_plain rfl ?_
                      simp at hp hK ⊢
                      simp only [hp] at hK
                      go_simp
                      have hP := hS.was hi
                      have h17 : dn 17 = true := by simp [edgesDone] at he; simp [he]
                      refine (HWR.out w1 hP).mono ?_
                      rintro e w2 ⟨rfl, k1, k2, k3⟩
                      exact hK _ _ (Stg.put h17 (k2.blk _ _ _ hS.all nDT_Book) ⟨k1, (FarX.none hP).trans (FarX.far k2), (hP.mono fun _ h => h.elim).trans k3⟩) rfl
                    · intro dn u w1 hi he hS hp K hK
                      refine ord_plain rfl ?_
                      simp at hp hK ⊢
                      simp only [hp] at hK
                      go_simp
                      exact hK _ _ (by simpa [ldW] using hS) rfl
                    · intro u w1 dn hld hS hp
                      simp at hp ⊢
                      have hkl := HKL.out
                      have hknn := HKN.out
                      have h19 := hp.2.2.2.2.2.2.2.2.2.2.2.2.2.2.2.2.2.2.2
                      simp only [h19]
                      have hQ := hS.got (hld 18 (by decide))
                      have H8 := Lib.hid hS.all
                      obtain ⟨k1, k2, k3⟩ := hQ
                      obtain ⟨w8, rfl⟩ : ∃ w8, w8 = w1 := ⟨_, rfl⟩
                      have K1 := Lib.hid k1
                      have K2 := Lib.hid (J3.out.trans ((FarX.none HN7.out).trans k2))
                      have K3 := Lib.hid (J4.out.trans ((HN7.out.mono fun _ h => h.elim).trans k3))
                      clear k1 k2 k3 h19 hp hS hld
                      clear hkl hknn
                      by_cases hy : y0.1 = 0
                      · go_wp2_with fail
                        go_roundw
                        case rel =>
                          have hkl := HKL.out
                          have hknn := HKN.out
                          refine ⟨k + 1, y0.2, by omega, by omega, by go_num, ?_, H8.out, K1.out.more (by omega) (by omega), K2.out, K3.out⟩
                          have := HAP.out
                          rw [show nn + 1 + kf - k = (nn + 1 + kf - (k + 1)) + 1 by omega] at this
                          simp only [appW] at this
                          rw [if_pos hkl, ← HY0.out, if_pos hy] at this
                          exact this
                        case measure => have hknn := HKN.out; simp [intOf]; omega
                      · have hYe : Hid (Y = y0) := Lib.hid (by
                          have hkl := HKL.out
                          have hknn := HKN.out
                          have := HAP.out
                          rw [show nn + 1 + kf - k = (nn + 1 + kf - (k + 1)) + 1 by omega] at this
                          simp only [appW] at this
                          rw [if_pos hkl, ← HY0.out, if_neg hy] at this
                          exact this.symm)
                        go_wp2_with fail
                        refine (bkept_any bb p (f : Int) (nn : Int) (sB t2) false w8 y0.1 H8.out).mono ?_
                        rintro e w9 ⟨rfl, b9, o9⟩
                        have B9 := Lib.hid b9
                        have O9 := Lib.hid o9
                        clear b9 o9
                        go_wp2_with fail
                        go_ret
                        rw [HRY.out, hYe.out]
                        refine ⟨rfl, (K1.out.away H8.out O9.out nDT_Book).more (by omega) (by omega), B9.out, K2.out.trans (FarX.of_only O9.out (fun _ h => h)), K3.out.trans (O9.out.mono fun b h => by rw [h]; exact HBb.out)⟩
                  · have hkli : ¬ (k : Int) * 127 < (t2.length : Int) := by omega
                    have hYe : Hid (Y = (0, S2)) := Lib.hid (by
                      have := HAP.out
                      rw [show nn + 1 + kf - k = (nn + kf - k) + 1 by omega] at this
                      simp only [appW] at this
                      rw [if_neg hkl] at this
                      exact this.symm)
                    go_wp2_with fail
                    go_ret
                    rw [HRY.out, hYe.out]
                    exact ⟨rfl, J2.out.more (by omega) (by omega), J1.out, J3.out, J4.out⟩
end Go.Proofs.Ytmneflpjoaocbaa
