/- Several texts in one: BkR. -/
import Derived.Test.YtmneflpjoaocbaaMBkM
/- Two lists of texts: are they the same. No conditions beyond what it states. -/
namespace Go.Proofs.Ytmneflpjoaocbaa
open Go.RowKit
set_option linter.unusedVariables false
theorem bytes_ne {x y : ByteArray} (h : ¬ x = y) : (x.toList == y.toList) = false := by
  refine beq_eq_false_iff_ne.2 (fun e => h ?_)
  rw [ByteArray.toList_eq, ByteArray.toList_eq] at e
  exact ByteArray.ext (Array.toList_inj.1 e)
set_option maxHeartbeats 1000000 in
set_option maxRecDepth 100000 in
theorem texts_same (xs ys : List ByteArray) (A A' : Option Addr) (c c' : Nat) (w : World) (hx : TextRow w A xs) (hy : TextRow w A' ys) (hl : xs.length ≤ 1000000000) (hl' : ys.length ≤ 9223372036854775807) :
    Calls Try.prog 15 #[.slice A xs.length c, .slice A' ys.length c'] w fun e w' => e = .returned (.bool (decide (xs = ys))) ∧ Only (fun _ => False) w w' := by
  have HX := Lib.hid hx
  have HY := Lib.hid hy
  clear hx hy
  obtain ⟨bq, hbq⟩ : ∃ bq, bq = decide (xs = ys) := ⟨_, rfl⟩
  rw [← hbq]
  have HBQ := Lib.hid hbq
  clear hbq
  go_enter Try.func15, Try.ntmps15
  by_cases hlen : xs.length = ys.length
  · rw [hlen]
    have hlen' := hlen
    go_wp2_with fail
    go_loopw [5] (fun i wr => ∃ k m : Nat, k ≤ ys.length ∧ i = .int .i64 k ∧ wr = w.drewN m ∧ xs.take k = ys.take k) (fun i _ => ys.length - (intOf i).toNat)
    case atStart => exact ⟨0, 0, by omega, rfl, rfl, by simp⟩
    case round =>
      obtain ⟨k, m, hk, rfl, rfl, hsame⟩ := hrel
      have HS := Lib.hid hsame
      clear hsame
      by_cases hlt : k < ys.length
      · obtain ⟨g, o, hA, hg, hc⟩ := HX.out.at_ k (by omega)
        obtain ⟨g', o', hA', hg', hc'⟩ := HY.out.at_ k hlt
        have hx1 : xs.take (k + 1) = xs.take k ++ [xs[k]'(by omega)] := by rw [List.take_add_one, List.getElem?_eq_getElem (by omega)]; rfl
        have hy1 : ys.take (k + 1) = ys.take k ++ [ys[k]] := by rw [List.take_add_one, List.getElem?_eq_getElem hlt]; rfl
        have hgx : xs[k]? = some (xs[k]'(by omega)) := List.getElem?_eq_getElem (by omega)
        have hgy : ys[k]? = some ys[k] := List.getElem?_eq_getElem hlt
        generalize xs[k]'(by omega) = x at *
        generalize ys[k] = y at *
        subst hA hA'
        have hlti : (k : Int) < (ys.length : Int) := by omega
        have HX1 := Lib.hid hx1
        have HY1 := Lib.hid hy1
        have HGX := Lib.hid hgx
        have HGY := Lib.hid hgy
        clear hx1 hy1 hgx hgy hlen
        by_cases hxy : x = y
        · subst hxy
          go_wp2_with fail
          go_quiet (fail)
          go_wp2_with fail
          go_roundw
          case rel => exact ⟨k + 1, _, by omega, by go_num, rfl, by rw [HX1.out, HY1.out, HS.out]⟩
          case measure => simp [intOf]; omega
        · have hne := bytes_ne hxy
          have hr : Hid (bq = false) := Lib.hid (by
            rw [HBQ.out]
            refine decide_eq_false (fun e => hxy ?_)
            have h1 := HGX.out
            rw [e, HGY.out] at h1
            injection h1 with h1
            exact h1.symm)
          go_wp2_with fail
          go_quiet (fail)
          go_wp2_with fail
          go_ret
          rw [hr.out]
          exact ⟨rfl, ((Only.refl _ w).drewN _).drewN _⟩
      · obtain rfl : k = ys.length := by omega
        have hr : Hid (bq = true) := Lib.hid (by
          rw [HBQ.out]
          refine decide_eq_true ?_
          have := HS.out
          rwa [List.take_length, ← hlen', List.take_length] at this)
        go_wp2_with fail
        go_ret
        rw [hr.out]
        exact ⟨rfl, (Only.refl _ w).drewN _⟩
  · have hli : ¬ (xs.length : Int) = (ys.length : Int) := by omega
    have hr : Hid (bq = false) := Lib.hid (by rw [HBQ.out]; exact decide_eq_false (fun e => hlen (congrArg List.length e)))
    go_wp2_with fail
    go_ret
    rw [hr.out]
    exact ⟨rfl, Only.refl _ w⟩
end Go.Proofs.Ytmneflpjoaocbaa
