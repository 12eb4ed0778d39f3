/- Deques: how an act, a deque and its cells lie, and what their small methods do. -/
import Derived.Test.YtmghlhngdopifaaCellA
import Derived.Laws.EntriesVeiled
import Derived.Test.YtmghlhngdopifaaSt
import Derived.Test.YtmghlhngdopifaaDqI
namespace Go.Proofs.Ytmghlhngdopifaa
open Go.RowKit
set_option linter.unusedVariables false
attribute [local simp] frOf dstsOf frGo predsHold allHold Region.binds slotOf seen Is Act.put
theorem ord_guard {o : Oper} {y : Nat → Option Bool} {X Y : Prop} {j : Nat} {b : Bool} (hg : o.guard = some (j, b)) (hy : y j = some b) (h : X) : if Region.wanted o y = true then X else Y := by
  have hw : Region.wanted o y = true := by simp [Region.wanted, hg, hy]
  rw [if_pos hw]
  exact h
theorem ord_skip {o : Oper} {y : Nat → Option Bool} {X Y : Prop} {j : Nat} {b : Bool} (hg : o.guard = some (j, b)) (hy : y j = some (!b)) (h : Y) : if Region.wanted o y = true then X else Y := by
  have hw : ¬ Region.wanted o y = true := by cases b <;> simp [Region.wanted, hg, hy]
  rw [if_neg hw]
  exact h
theorem cellV_ld (C : List Int) (k : Int) : cellV C k = ld C k := rfl
theorem cellS_st (C : List Int) (k x : Int) : cellS C k x = st C k x := rfl
/-- the cells of an act -/
def actA (dv : Value) (d : Nat) (a : PAct) : Array Value :=
  #[dv, .int .u8 (a.told : Int), .int .i64 a.got, .pointer (some ⟨d, 0, none⟩), .int .i64 (if a.kind = 0 then a.v else a.read), .int .i64 (if a.kind = 2 then 0 else a.b), .int .i64 a.t, .int .i64 a.w, .int .i64 a.n, .int .i64 a.nw,
    .int .i64 (if a.kind = 0 then a.i else 0), .bool (decide (a.kind = 1 ∧ a.i = 1))]
/-- a deque: at z its cells begin; on: the owner's act -/
structure DqS (w : World) (B m d : Nat) (z : Nat) (n : Int) (v : Value) (C : List Int) (on : Value) : Prop where
  mem : CMem w B m n v C
  blk : Blk w d 74 #[.pointer (some ⟨m, 0, none⟩), .int .i64 (z : Int), .int .i64 ((z : Int) + 1), .int .i64 ((z : Int) + 2), .int .i64 (ld C z), .int .i64 (ld C ((z : Int) + 1)), on]
  base : B ≤ d
section
variable {w w' : World} {B m d p z : Nat} {n : Int} {v on : Value} {C : List Int}
theorem DqS.away (h : DqS w B m d z n v C on) : ¬ mine m v d := by
  rintro (e | e)
  · exact Blk.ne_ h.blk h.mem.blk (by decide) e
  · exact own_blk_ne h.mem.own h.blk (by decide) e
theorem mine_act (h : DqS w B m d z n v C on) {cs : Array Value} (hp : Blk w p 79 cs) : ¬ mine m v p := by
  rintro (e | e)
  · exact Blk.ne_ hp h.mem.blk (by decide) e
  · exact own_blk_ne h.mem.own hp (by decide) e
end
theorem then_any (p : Nat) (fn : Fn) (fs cp : Array Value) (cs : Array Value) (w : World) (h : Blk w p 79 cs) (hc : 0 < cs.size) :
    Calls Try.prog 27 #[.pointer (some ⟨p, 0, none⟩), .func fn fs cp] w fun e w' => e = .returned (.int .i64 0) ∧ w' = w.setCell ⟨p, 0, none⟩ (.func fn fs cp) := by
  obtain ⟨x, hx⟩ : ∃ x, cs[0]? = some x := ⟨cs[0], by simp [hc]⟩
  have c0 : w.cell? ⟨p, 0, none⟩ = some x := (h.cell 0).trans hx
  have f0 : w.frozen? ⟨p, 0, none⟩ = false := h.frozen 0
  clear h hx hc
  go_enter Try.func27, Try.ntmps27
  go_wp2

  go_ret
  exact ⟨rfl, rfl⟩
theorem over_any (p : Nat) (wh x : Int) (cs : Array Value) (w : World) (h : Blk w p 79 cs) (hc : 2 < cs.size) :
    Calls Try.prog 49 #[.pointer (some ⟨p, 0, none⟩), .int .u8 wh, .int .i64 x] w fun e w' => e = .returned (.int .i64 0) ∧ w' = ((w.setCell ⟨p, 0, none⟩ .nilFunc).setCell ⟨p, 1, none⟩ (.int .u8 wh)).setCell ⟨p, 2, none⟩ (.int .i64 x) := by
  obtain ⟨x0, hx0⟩ : ∃ x, cs[0]? = some x := ⟨cs[0], by simp⟩
  obtain ⟨x1, hx1⟩ : ∃ x, cs[1]? = some x := ⟨cs[1], by simp⟩
  obtain ⟨x2, hx2⟩ : ∃ x, cs[2]? = some x := ⟨cs[2], by simp⟩
  have c0 : w.cell? ⟨p, 0, none⟩ = some x0 := (h.cell 0).trans hx0
  have c1 : w.cell? ⟨p, 1, none⟩ = some x1 := (h.cell 1).trans hx1
  have c2 : w.cell? ⟨p, 2, none⟩ = some x2 := (h.cell 2).trans hx2
  have f0 : w.frozen? ⟨p, 0, none⟩ = false := h.frozen 0
  have f1 : w.frozen? ⟨p, 1, none⟩ = false := h.frozen 1
  have f2 : w.frozen? ⟨p, 2, none⟩ = false := h.frozen 2
  clear h hx0 hx1 hx2 hc
  go_enter Try.func49, Try.ntmps49
  go_wp2
  go_ret
  exact ⟨rfl, rfl⟩
theorem place_any (x y i : Int) (w : World) (h0 : 0 ≤ i) (h1 : 1 ≤ y) (h2 : y ≤ 1000000) (h3 : 0 ≤ x) (h4 : x ≤ 1000000) :
    Calls Try.prog 65 #[.int .i64 x, .int .i64 y, .int .i64 i] w fun e w' => e = .returned (.int .i64 (place x y i)) ∧ w = w' := by
  have hb := place_bd (w := x) (i := i) h1
  have hm0 := Int.emod_nonneg i (show y ≠ 0 by omega)
  have hm1 := Int.emod_lt_of_pos i (show 0 < y by omega)
  have hy : ¬ y = 0 := by omega
  unfold place at *
  go_enter Try.func65, Try.ntmps65
  go_wp2
  go_ret
  exact ⟨rfl, rfl⟩
/-- load: a cell -/
theorem aload_any (B m d z p : Nat) (n k : Int) (v on : Value) (C : List Int) (cs : Array Value) (w : World) (h : DqS w B m d z n v C on) (hp : Blk w p 79 cs) (h3 : cs[3]? = some (.pointer (some ⟨d, 0, none⟩))) (hn : n + 1 ≤ 4611686018427387904) :
    Calls Try.prog 36 #[.pointer (some ⟨p, 0, none⟩), .int .i64 k] w fun e w' => e = .returned (.int .i64 (ld C k)) ∧ CMem w' B m (n + cellN C k) v C ∧ Only (mine m v) w w' := by
  have c3 : w.cell? ⟨p, 3, none⟩ = some (.pointer (some ⟨d, 0, none⟩)) := (hp.cell 3).trans h3
  have c0 : w.cell? ⟨d, 0, none⟩ = some (.pointer (some ⟨m, 0, none⟩)) := h.blk.cell 0
  have H := Lib.hid h
  clear h hp h3
  go_enter Try.func36, Try.ntmps36
  go_wp2_with fail
  refine (load_any B m n k v C w H.out.mem hn).mono ?_
  rintro e w' ⟨rfl, h1, h2⟩
  have H1 := Lib.hid h1
  have H2 := Lib.hid h2
  rw [cellV_ld]
  clear h1 h2
  go_wp2_with fail
  go_ret
  exact ⟨rfl, H1.out, H2.out⟩
set_option maxHeartbeats 1000000 in
set_option maxRecDepth 100000 in
/-- base: bottom is that -/
theorem base_any (B m d z p : Nat) (n b : Int) (v on : Value) (C : List Int) (cs : Array Value) (w : World) (h : DqS w B m d z n v C on) (hp : Blk w p 79 cs) (h3 : cs[3]? = some (.pointer (some ⟨d, 0, none⟩))) (hn : n + 1 ≤ 4611686018427387904) (hz : (z : Int) + 1 < C.length) :
    Calls Try.prog 55 #[.pointer (some ⟨p, 0, none⟩), .int .i64 b] w fun e w' => e = .returned (.tuple #[]) ∧ DqS w' B m d z (n + 1) v (st C ((z : Int) + 1) b) on ∧ Only (fun x => mine m v x ∨ x = d) w w' := by
  have c3 : w.cell? ⟨p, 3, none⟩ = some (.pointer (some ⟨d, 0, none⟩)) := (hp.cell 3).trans h3
  have c0 : w.cell? ⟨d, 0, none⟩ = some (.pointer (some ⟨m, 0, none⟩)) := h.blk.cell 0
  have c2 : w.cell? ⟨d, 2, none⟩ = some (.int .i64 ((z : Int) + 1)) := h.blk.cell 2
  have c5 : w.cell? ⟨d, 5, none⟩ = some (.int .i64 (ld C ((z : Int) + 1))) := h.blk.cell 5
  have hpa := mine_act h hp
  have hda := h.away
  have hpl := hp.lt
  have hdl := h.blk.lt
  have hN : cellN C ((z : Int) + 1) = 1 := if_pos ⟨by omega, hz⟩
  obtain ⟨W2, hW2⟩ : ∃ W2, W2 = w.drew := ⟨_, rfl⟩
  have HC : Hid (∀ y, Only (mine m v) W2 y → y.cell? ⟨p, 3, none⟩ = some (.pointer (some ⟨d, 0, none⟩)) ∧ y.cell? ⟨d, 0, none⟩ = some (.pointer (some ⟨m, 0, none⟩)) ∧ y.cell? ⟨d, 2, none⟩ = some (.int .i64 ((z : Int) + 1)) ∧ y.cell? ⟨d, 5, none⟩ = some (.int .i64 (ld C ((z : Int) + 1)))) := Lib.hid (by
    rw [hW2]
    exact fun y hy => ⟨(hy.cell (p := ⟨p, 3, none⟩) hpl hpa).trans c3, (hy.cell (p := ⟨d, 0, none⟩) hdl hda).trans c0, (hy.cell (p := ⟨d, 2, none⟩) hdl hda).trans c2, (hy.cell (p := ⟨d, 5, none⟩) hdl hda).trans c5⟩)
  have HM : Hid (CMem W2 B m n v C) := Lib.hid (by rw [hW2]; exact h.mem.drewN 1)
  have HB : Hid (Blk W2 d 74 #[.pointer (some ⟨m, 0, none⟩), .int .i64 (z : Int), .int .i64 ((z : Int) + 1), .int .i64 ((z : Int) + 2), .int .i64 (ld C z), .int .i64 (ld C ((z : Int) + 1)), on]) := Lib.hid (by rw [hW2]; exact h.blk)
  have HA := Lib.hid hda
  have HD := Lib.hid h.base
  have HW2 := Lib.hid hW2
  have HZ := Lib.hid hz
  clear h hp h3 c3 c0 c2 c5 hpa hda hpl hdl hz hW2
  go_enter Try.func55, Try.ntmps55
  go_wp2_with fail
  refine wp_region_st (by kernel_rfl) (fun dn y => Sti (mine m v) W2 (dn 15) (fun y => CMem y B m (n + 1) v (st C ((z : Int) + 1) b)) y) [Is (.pointer (some ⟨p, 0, none⟩)), Is (.pointer (some ⟨p, 0, none⟩)), Is (.pointer (some ⟨p, 3, none⟩)), Is (.pointer (some ⟨d, 0, none⟩)), Is (.pointer (some ⟨d, 0, none⟩)), Is (.pointer (some ⟨d, 0, none⟩)), Is (.pointer (some ⟨m, 0, none⟩)), Is (.pointer (some ⟨p, 0, none⟩)), Is (.pointer (some ⟨p, 0, none⟩)), Is (.pointer (some ⟨p, 3, none⟩)), Is (.pointer (some ⟨d, 0, none⟩)), Is (.pointer (some ⟨d, 0, none⟩)), Is (.pointer (some ⟨d, 2, none⟩)), Is (.int .i64 ((z : Int) + 1)), Is (.int .i64 b), Is (.int .i64 (cellE C ((z : Int) + 1)))] (by kernel_rfl)
    ⟨is_stab _ _, is_stab _ _, is_stab _ _, is_stab _ _, is_stab _ _, is_stab _ _, is_stab _ _, is_stab _ _, is_stab _ _, is_stab _ _, is_stab _ _, is_stab _ _, is_stab _ _, is_stab _ _, is_stab _ _, is_stab _ _, trivial⟩ (by rw [← HW2.out]; exact Sti.start) ⟨?_, ?_, ?_, ?_, ?_, ?_, ?_, ?_, ?_, ?_, ?_, ?_, ?_, ?_, ?_, ?_, trivial⟩ ?_
  · intro dn u w1 hi he hS hp K hK
    refine ord_plain rfl ?_
    simp at hp hK ⊢
    go_simp
    exact hK _ _ (by simpa [ldW] using hS) rfl
  · intro dn u w1 hi he hS hp K hK
    refine ord_plain rfl ?_
    simp at hp hK ⊢
    simp only [hp] at hK
    go_simp
    exact hK _ _ (by simpa [ldW] using hS) rfl
  · intro dn u w1 hi he hS hp K hK
    refine ord_plain rfl ?_
    simp at hp hK ⊢
    simp only [hp] at hK
    go_simp
    exact hK _ _ (by simpa [ldW] using hS) rfl
  · intro dn u w1 hi he hS hp K hK
    refine ord_plain rfl ?_
    simp at hp hK ⊢
    simp only [hp] at hK
    have hc := (HC.out w1 hS.1).1
    go_simp
    exact hK _ _ (by simpa [ldW] using hS) rfl
  · intro dn u w1 hi he hS hp K hK
    refine ord_plain rfl ?_
    simp at hp hK ⊢
    simp only [hp] at hK
    go_simp
    exact hK _ _ (by simpa [ldW] using hS) rfl
  · intro dn u w1 hi he hS hp K hK
    refine ord_plain rfl ?_
    simp at hp hK ⊢
    simp only [hp] at hK
    go_simp
    exact hK _ _ (by simpa [ldW] using hS) rfl
  · intro dn u w1 hi he hS hp K hK
    refine ord_plain rfl ?_
    simp at hp hK ⊢
    simp only [hp] at hK
    have hc := (HC.out w1 hS.1).2.1
    go_simp
    exact hK _ _ (by simpa [ldW] using hS) rfl
  · intro dn u w1 hi he hS hp K hK
    refine ord_plain rfl ?_
    simp at hp hK ⊢
    go_simp
    exact hK _ _ (by simpa [ldW] using hS) rfl
  · intro dn u w1 hi he hS hp K hK
    refine ord_plain rfl ?_
    simp at hp hK ⊢
    simp only [hp] at hK
    go_simp
    exact hK _ _ (by simpa [ldW] using hS) rfl
  · intro dn u w1 hi he hS hp K hK
    refine ord_plain rfl ?_
    simp at hp hK ⊢
    simp only [hp] at hK
    go_simp
    exact hK _ _ (by simpa [ldW] using hS) rfl
  · intro dn u w1 hi he hS hp K hK
    refine ord_plain rfl ?_
    simp at hp hK ⊢
    simp only [hp] at hK
    have hc := (HC.out w1 hS.1).1
    go_simp
    exact hK _ _ (by simpa [ldW] using hS) rfl
  · intro dn u w1 hi he hS hp K hK
    refine ord_plain rfl ?_
    simp at hp hK ⊢
    simp only [hp] at hK
    go_simp
    exact hK _ _ (by simpa [ldW] using hS) rfl
  · intro dn u w1 hi he hS hp K hK
    refine ord_plain rfl ?_
    simp at hp hK ⊢
    simp only [hp] at hK
    go_simp
    exact hK _ _ (by simpa [ldW] using hS) rfl
  · intro dn u w1 hi he hS hp K hK
    refine ord_plain rfl ?_
    simp at hp hK ⊢
    simp only [hp] at hK
    have hc := (HC.out w1 hS.1).2.2.1
    go_simp
    exact hK _ _ (by simpa [ldW] using hS) rfl
  · intro dn u w1 hi he hS hp K hK
    refine ord_plain rfl ?_
    simp at hp hK ⊢
    go_simp
    exact hK _ _ (by simpa [ldW] using hS) rfl
  · intro dn u w1 hi he hS hp K hK
    refine ord_plain rfl ?_
    simp at hp hK ⊢
    simp only [hp] at hK
    obtain rfl := hS.was hi
    go_simp
    refine (store_any B m n _ b v C _ HM.out hn).mono ?_
    rintro e w2 ⟨rfl, k1, k2⟩
    rw [hN, cellS_st] at k1
    exact hK _ _ (by simp only [ldW, if_true]; exact Sti.put k2 k1) rfl
  · intro u w1 dn hld hS hp
    simp at hp ⊢
    have h15 := hld 15 (by decide)
    have s1 := hS.1
    have s2 := hS.got h15
    obtain ⟨k3, k0, k2, k5⟩ := HC.out w1 s1
    have kf : w1.frozen? ⟨d, 5, none⟩ = false := (s1.blk HB.out HA.out).frozen 5
    have S1 := Lib.hid s1
    have S2 := Lib.hid s2
    clear s1 s2
    go_wp2_with fail
    go_end0
    refine ⟨rfl, ⟨S2.out.only ((Only.refl (fun x => x = d) w1).setCell (p := ⟨d, 5, none⟩) (.inl rfl) _) (fun e => HA.out (.inl e.symm)) (fun k hk e => HA.out (.inr (e ▸ hk))), ?_, HD.out⟩, ?_⟩
    · have hb := (S1.out.blk HB.out HA.out).set_ 5 (.int .i64 b)
      rw [ld_st_ne (by omega), ld_st_eq (by omega) HZ.out]
      exact hb
    · rw [HW2.out] at S1
      exact (Only.drew (Only.refl _ w)).trans ((S1.out.mono (fun x hx => .inl hx)).setCell (p := ⟨d, 5, none⟩) (.inl (.inr rfl)) _)
end Go.Proofs.Ytmghlhngdopifaa
