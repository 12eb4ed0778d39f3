/- The walk of frame.Write. -/
import Derived.Test.YtpnjcgpnannjaaaFrA
import Derived.Test.YtpnjcgpnannjaaaOrd
namespace Go.Proofs.Ytpnjcgpnannjaaa
open Go.RowKit
set_option linter.unusedVariables false
attribute [local simp] frOf dstsOf frGo predsHold allHold Region.binds slotOf seen Is Act.put

theorem TextRow.drew {w : World} {A : Option Addr} {xs : List ByteArray} (h : TextRow w A xs) : TextRow w.drew A xs :=
  h.below ((Below.refl _ w).drew)

set_option maxHeartbeats 8000000 in
set_option maxRecDepth 100000 in
theorem fwrite_any (tag : Nat) (xs : List ByteArray) (A : Option Addr) (cap : Nat) (w : World) (ht : tag < 256) (hr : TextRow w A xs) (hn : xs.length ≤ cap) (hcap : cap ≤ 9223372036854775807) (hs : sum xs ≤ 1099511627776) :
    Calls Try.prog 9 #[.int .u8 tag, .slice A xs.length cap] w fun e w' => e = .returned (.tuple #[.string (if 131072 < sum xs then ⟨#[]⟩ else fraw tag (cat xs)), .int .i64 (if 131072 < sum xs then 4 else 0)]) ∧ Below w.heap.size w w' := by
  have HR := Lib.hid hr
  have HS := Lib.hid hs
  clear hr hs
  go_enter Try.func9, Try.ntmps9
  go_wp2_with fail
  go_loop [6, 12] (fun n i => ∃ k : Nat, k ≤ xs.length ∧ i = .int .i64 k ∧ n = .int .i64 ((sum (xs.take k) : Nat) : Int) ∧ sum (xs.take k) ≤ 131072) (fun _ i => xs.length - (intOf i).toNat)
  case atStart => exact ⟨0, by omega, rfl, rfl, by simp [sum, cat, ByteArray.size]⟩
  case round =>
    obtain ⟨k, hk, rfl, rfl, hkb⟩ := hrel
    by_cases hlt : k < xs.length
    · obtain ⟨g, off, rfl, hg, hck⟩ := HR.out.at_ k hlt
      have hst := sum_take xs k hlt
      have hle := sum_take_le xs (k + 1)
      have hle2 := HS.out
      generalize xs[k] = y at *
      generalize hS : sum (xs.take k) = S at *
      have HST := Lib.hid hst
      have hb1 : S + y.size ≤ 1099511627776 := by omega
      by_cases hov : 131072 < S + y.size
      · have hov2 : Hid (131072 < sum xs) := Lib.hid (by omega)
        clear hst hle hle2 HS
        go_wp2
        go_ret2
        simp only
        exact ⟨rfl, Below.refl _ _⟩
      · clear hst hle hle2
        go_wp2_with fail
        go_round
        case rel => exact ⟨k + 1, by omega, by go_num, by rw [HST.out]; go_num, by rw [HST.out]; omega⟩
        case measure => simp [intOf] <;> omega
    · obtain rfl : k = xs.length := by omega
      rw [List.take_length] at hkb
      have hsz : (cat xs).size ≤ 131072 := hkb
      have HK : Hid (¬ 131072 < sum xs) := Lib.hid (by omega)
      generalize hq : xs.length = nn at *
      have hJ : ∀ W, TextRow W A xs → Hid (Calls Try.prog 19 #[.slice A nn cap, .string ⟨#[]⟩] W fun e w' => e = .returned (.string (cat xs)) ∧ Below W.heap.size W w') := fun W h => Lib.hid (by subst hq; exact sjoin_any xs A cap W h hn hcap HS.out)
      have hl := lstr_le (cat xs)
      have hT : ∀ W p, p.block < W.heap.size → W.cell? p = some (.string (cat xs)) → Hid (Calls Try.prog 18 #[.slice (some p) 1 1] W fun e w' => e = .returned (.string (lstr (cat xs))) ∧ Below W.heap.size W w') := fun W p h1 h2 => Lib.hid (texts_one (cat xs) p 1 W (by omega) h1 h2)
      have hfs := fhead_size tag (cat xs)
      have hO : ∀ W, Hid (Calls Try.prog 21 #[.string (fhead tag (cat xs))] W fun e w' => e = .returned (.int .u32 (Crc.on 0 (bs (fhead tag (cat xs))))) ∧ Below W.heap.size W w') := fun W => Lib.hid (of_any _ W (by omega))
      have hon := Crc.on_lt (a := 0) (by omega) (bs_lt (fhead tag (cat xs)))
      have hB : ∀ W, Hid (Calls Try.prog 20 #[.int .u32 (Crc.on 0 (bs (fhead tag (cat xs))))] W fun e w' => e = .returned (.string ⟨(sumBytes (Crc.on 0 (bs (fhead tag (cat xs))))).toArray⟩) ∧ Below W.heap.size W w') := fun W => Lib.hid (bytes_any _ W hon)
      have hcz := fun (W : World) (g : Nat) => conv_two 1 tag W g
      have h4 : (⟨(sumBytes (Crc.on 0 (bs (fhead tag (cat xs))))).toArray⟩ : ByteArray).size = 4 := by simp [ByteArray.size, sumBytes]
      have HQ : Hid (fraw tag (cat xs) = fhead tag (cat xs) ++ ⟨(sumBytes (Crc.on 0 (bs (fhead tag (cat xs))))).toArray⟩) := Lib.hid rfl
      have hdef : str [1, tag] ++ lstr (cat xs) = fhead tag (cat xs) := rfl
      have h2 : (str [1, tag]).size = 2 := str_size _
      generalize (⟨(sumBytes (Crc.on 0 (bs (fhead tag (cat xs))))).toArray⟩ : ByteArray) = sb at *
      generalize Crc.on 0 (bs (fhead tag (cat xs))) = q at *
      generalize fhead tag (cat xs) = fh at *
      generalize lstr (cat xs) = ls at *
      generalize str [1, tag] = s2 at *
      clear hon
      have hsum : s2.size + ls.size ≤ 9223372036854775807 := by omega
      have hsum2 : fh.size + sb.size ≤ 9223372036854775807 := by omega
      clear h2 h4 hfs hl
      have HJ : ∀ W, Grows w.drew W → Hid (Calls Try.prog 19 #[.slice A nn cap, .string ⟨#[]⟩] W fun e w' => e = .returned (.string (cat xs)) ∧ Below W.heap.size W w') := fun W hW => hJ W (HR.out.below (Grows.trans (Grows.drew w) hW))
      clear hJ
      go_wp2_with fail
      refine wp_region_ord (by kernel_rfl) Grows [Is (.int .u8 tag), IsRow 2 5 #[.int .u8 1, .int .u8 tag], Is (.string s2), Is (.slice A nn cap), Is (.string (cat xs)), IsRow 1 9 #[.string (cat xs)], Is (.string ls), Is (.string fh), Is (.string fh)] (by kernel_rfl) Grows.refl Grows.trans
        ⟨is_stab _ _, isRow_stab _ _ _, is_stab _ _, is_stab _ _, is_stab _ _, isRow_stab _ _ _, is_stab _ _, is_stab _ _, is_stab _ _, trivial⟩ ⟨?_, ?_, ?_, ?_, ?_, ?_, ?_, ?_, ?_, trivial⟩ ?_
      · intro u w1 hR hp K hK
        refine ord_plain rfl ?_
        simp at hp hK ⊢
        go_simp
        exact hK _ _ (Grows.refl _) rfl
      · intro u w1 hR hp K hK
        refine ord_plain rfl ?_
        simp at hp hK ⊢
        simp only [hp] at hK
        go_simp
        exact hK _ _ (Grows.alloc _ _) ⟨_, rfl, Blk.new _ _ _⟩
      · intro u w1 hR hp K hK
        refine ord_plain rfl ?_
        simp at hp hK ⊢
        obtain ⟨g, hg, hb⟩ := hp
        have hc := hcz w1 g (by rw [hb.cell]; rfl) (by rw [hb.cell]; rfl)
        simp only [hg] at hK
        go_simp
        exact hK _ _ (Grows.refl _) rfl
      · intro u w1 hR hp K hK
        refine ord_plain rfl ?_
        simp at hp hK ⊢
        go_simp
        exact hK _ _ (Grows.refl _) rfl
      · intro u w1 hR hp K hK
        refine ord_plain rfl ?_
        simp at hp hK ⊢
        have hj := HJ w1 hR
        simp only [hp] at hK
        go_simp
        refine hj.out.mono ?_
        rintro e w2 ⟨rfl, hb2⟩
        exact hK _ _ hb2 rfl
      · intro u w1 hR hp K hK
        refine ord_plain rfl ?_
        simp at hp hK ⊢
        simp only [hp] at hK
        go_simp
        exact hK _ _ (Grows.alloc _ _) ⟨_, rfl, Blk.new _ _ _⟩
      · intro u w1 hR hp K hK
        refine ord_plain rfl ?_
        simp at hp hK ⊢
        obtain ⟨⟨g, hg, hb⟩, hp4⟩ := hp
        have hj := hT w1 ⟨g, 0, none⟩ hb.lt (by rw [hb.cell]; rfl)
        simp only [hg, hp4] at hK
        go_simp
        refine hj.out.mono ?_
        rintro e w2 ⟨rfl, hb2⟩
        exact hK _ _ hb2 rfl
      · intro u w1 hR hp K hK
        refine ord_plain rfl ?_
        simp at hp hK ⊢
        obtain ⟨hp1, hp2⟩ := hp
        simp only [hp1, hp2] at hK
        go_simp
        rw [if_neg (by omega)]
        go_simp
        exact hK _ _ (Grows.refl _) rfl
      · intro u w1 hR hp K hK
        refine ord_plain rfl ?_
        simp at hp hK ⊢
        simp only [hp] at hK
        go_simp
        exact hK _ _ (Grows.refl _) rfl
      · intro u w1 hR hp
        simp at hp ⊢
        have h9 := hp.2.2.2.2.2.2.2.2
        simp only [h9]
        clear hp hcz hT HJ
        have HB := Lib.hid (Below.trans (Below.drew (Below.refl w.heap.size w)) hR)
        clear hR
        go_wp2_with fail
        refine (hO _).out.mono ?_
        rintro e w5 ⟨rfl, hb5⟩
        have H5 := Lib.hid hb5
        clear hb5
        go_wp2_with fail
        refine (hB _).out.mono ?_
        rintro e w6 ⟨rfl, hb6⟩
        have H6 := Lib.hid hb6
        clear hb6
        go_wp2
        go_ret2
        simp only
        rw [HQ.out]
        exact ⟨rfl, HB.out.trans ((H5.out.trans (H6.out.mono H5.out.size)).mono HB.out.size)⟩
end Go.Proofs.Ytpnjcgpnannjaaa
