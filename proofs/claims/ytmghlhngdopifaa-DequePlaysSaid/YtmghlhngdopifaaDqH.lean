/- Deques: popValue. -/
import Derived.Test.YtmghlhngdopifaaDqG
namespace Go.Proofs.Ytmghlhngdopifaa
open Go.RowKit
set_option linter.unusedVariables false
attribute [local simp] frOf dstsOf frGo predsHold allHold Region.binds slotOf seen Is Act.put
set_option maxRecDepth 100000 in
set_option maxHeartbeats 1000000 in
theorem popValue_any (B m d z p : Nat) (n : Int) (v on : Value) (C : List Int) (c : AC) (w : World) (h : DqS w B m d z n v C on) (hp : Blk w p 79 (c.arr d)) (hn : n + 2 ≤ 4611686018427387904) (h0 : 0 ≤ c.b) (h1 : 1 ≤ c.n) (h2 : c.n ≤ 1000000) (h3 : 0 ≤ c.w) (h4 : c.w ≤ 1000000) (hb : -1000000 ≤ c.b ∧ c.b ≤ 1000000) (ht : -1000000 ≤ c.t ∧ c.t ≤ 1000000) :
    Calls Try.prog 67 #[.pointer (some ⟨p, 0, none⟩)] w fun e w' => e = .returned (.int .i64 0) ∧ Stp w w' B m d z p (n + cellN C (place c.w c.n c.b)) v v on C (if c.t < c.b then { c with v := ld C (place c.w c.n c.b), dv := .nilFunc, wh := 2, x := ld C (place c.w c.n c.b) } else { c with v := ld C (place c.w c.n c.b), dv := meth 71 p }) := by
  have HS := Lib.hid (Stp.refl h hp)
  clear h hp
  by_cases hq : c.t < c.b
  · simp only [if_pos hq]
    go_enter Try.func67, Try.ntmps67
    obtain ⟨W2, hW2⟩ : ∃ W2, W2 = w.drew := ⟨_, rfl⟩
    have HX : Hid (Stp w W2 B m d z p n v v on C c) := Lib.hid (by rw [hW2]; exact HS.out.drew)
    have HW2 := Lib.hid hW2
    have HC : Hid (∀ b1 b2 y, Sti2 (fun x => mine m v x ∨ x = p) W2 true b1 b2 (fun y => Stp w y B m d z p (n + cellN C (place c.w c.n c.b)) v v on C c) (fun y => Stp w y B m d z p (n + cellN C (place c.w c.n c.b)) v v on C { c with v := ld C (place c.w c.n c.b) }) y → y.cell? ⟨p, 7, none⟩ = some (.int .i64 c.w) ∧ y.cell? ⟨p, 8, none⟩ = some (.int .i64 c.n) ∧ y.cell? ⟨p, 5, none⟩ = some (.int .i64 c.b)) := Lib.hid (fun b1 b2 y h => by
      rcases h.or with rfl | h | h
      · exact ⟨HX.out.act.cell 7, HX.out.act.cell 8, HX.out.act.cell 5⟩
      · exact ⟨h.act.cell 7, h.act.cell 8, h.act.cell 5⟩
      · exact ⟨h.act.cell 7, h.act.cell 8, h.act.cell 5⟩)
    clear hW2
    go_wp2_with fail
    refine wp_region_st (by kernel_rfl) (fun dn y => Sti2 (fun x => mine m v x ∨ x = p) W2 true (dn 15) (dn 18) (fun y => Stp w y B m d z p (n + cellN C (place c.w c.n c.b)) v v on C c) (fun y => Stp w y B m d z p (n + cellN C (place c.w c.n c.b)) v v on C { c with v := ld C (place c.w c.n c.b) }) y) [Is (.pointer (some ⟨p, 0, none⟩)), Is (.pointer (some ⟨p, 0, none⟩)), Is (.pointer (some ⟨p, 0, none⟩)), Is (.pointer (some ⟨p, 0, none⟩)), Is (.pointer (some ⟨p, 7, none⟩)), Is (.int .i64 c.w), Is (.pointer (some ⟨p, 0, none⟩)), Is (.pointer (some ⟨p, 0, none⟩)), Is (.pointer (some ⟨p, 8, none⟩)), Is (.int .i64 c.n), Is (.pointer (some ⟨p, 0, none⟩)), Is (.pointer (some ⟨p, 0, none⟩)), Is (.pointer (some ⟨p, 5, none⟩)), Is (.int .i64 c.b), Is (.int .i64 (place c.w c.n c.b)), Is (.int .i64 (ld C (place c.w c.n c.b))), Is (.pointer (some ⟨p, 0, none⟩)), Is (.pointer (some ⟨p, 4, none⟩)), fun _ _ => True] (by kernel_rfl)
      ⟨is_stab _ _, is_stab _ _, is_stab _ _, is_stab _ _, is_stab _ _, is_stab _ _, is_stab _ _, is_stab _ _, is_stab _ _, is_stab _ _, is_stab _ _, is_stab _ _, is_stab _ _, is_stab _ _, is_stab _ _, is_stab _ _, is_stab _ _, is_stab _ _, (fun _ _ _ _ _ => trivial), trivial⟩ (by rw [← HW2.out]; exact Sti2.start) ⟨?_, ?_, ?_, ?_, ?_, ?_, ?_, ?_, ?_, ?_, ?_, ?_, ?_, ?_, ?_, ?_, ?_, ?_, ?_, trivial⟩ ?_
    · intro dn u w1 hi he hS hp K hK
      refine ord_plain rfl ?_
      simp at hp hK ⊢
      go_simp
      exact hK _ _ (by simpa [ldW] using hS) rfl
    · intro dn u w1 hi he hS hp K hK
      refine ord_plain rfl ?_
      simp at hp hK ⊢
      go_simp
      exact hK _ _ (by simpa [ldW] using hS) rfl
    · intro dn u w1 hi he hS hp K hK
      refine ord_plain rfl ?_
      simp at hp hK ⊢
      go_simp
      exact hK _ _ (by simpa [ldW] using hS) rfl
    · intro dn u w1 hi he hS hp K hK
      refine ord_plain rfl ?_
      simp at hp hK ⊢
      simp only [hp] at hK
      go_simp
      exact hK _ _ (by simpa [ldW] using hS) rfl
    · intro dn u w1 hi he hS hp K hK
      refine ord_plain rfl ?_
      simp at hp hK ⊢
      simp only [hp] at hK
      go_simp
      exact hK _ _ (by simpa [ldW] using hS) rfl
    · intro dn u w1 hi he hS hp K hK
      refine ord_plain rfl ?_
      simp at hp hK ⊢
      simp only [hp] at hK
      have hc : w1.cell? ⟨p, 7, none⟩ = some (.int .i64 c.w) := (HC.out _ _ _ hS).1
      go_simp
      exact hK _ _ (by simpa [ldW] using hS) rfl
    · intro dn u w1 hi he hS hp K hK
      refine ord_plain rfl ?_
      simp at hp hK ⊢
      go_simp
      exact hK _ _ (by simpa [ldW] using hS) rfl
    · intro dn u w1 hi he hS hp K hK
      refine ord_plain rfl ?_
      simp at hp hK ⊢
      simp only [hp] at hK
      go_simp
      exact hK _ _ (by simpa [ldW] using hS) rfl
    · intro dn u w1 hi he hS hp K hK
      refine ord_plain rfl ?_
      simp at hp hK ⊢
      simp only [hp] at hK
      go_simp
      exact hK _ _ (by simpa [ldW] using hS) rfl
    · intro dn u w1 hi he hS hp K hK
      refine ord_plain rfl ?_
      simp at hp hK ⊢
      simp only [hp] at hK
      have hc : w1.cell? ⟨p, 8, none⟩ = some (.int .i64 c.n) := (HC.out _ _ _ hS).2.1
      go_simp
      exact hK _ _ (by simpa [ldW] using hS) rfl
    · intro dn u w1 hi he hS hp K hK
      refine ord_plain rfl ?_
      simp at hp hK ⊢
      go_simp
      exact hK _ _ (by simpa [ldW] using hS) rfl
    · intro dn u w1 hi he hS hp K hK
      refine ord_plain rfl ?_
      simp at hp hK ⊢
      simp only [hp] at hK
      go_simp
      exact hK _ _ (by simpa [ldW] using hS) rfl
    · intro dn u w1 hi he hS hp K hK
      refine ord_plain rfl ?_
      simp at hp hK ⊢
      simp only [hp] at hK
      go_simp
      exact hK _ _ (by simpa [ldW] using hS) rfl
    · intro dn u w1 hi he hS hp K hK
      refine ord_plain rfl ?_
      simp at hp hK ⊢
      simp only [hp] at hK
      have hc : w1.cell? ⟨p, 5, none⟩ = some (.int .i64 c.b) := (HC.out _ _ _ hS).2.2
      go_simp
      exact hK _ _ (by simpa [ldW] using hS) rfl
    · intro dn u w1 hi he hS hp K hK
      refine ord_plain rfl ?_
      simp at hp hK ⊢
      simp only [hp] at hK
      go_simp
      refine (place_any c.w c.n c.b w1 h0 h1 h2 h3 h4).mono ?_
      rintro e w2 ⟨rfl, rfl⟩
      exact hK _ _ (by simpa [ldW] using hS) rfl
    · intro dn u w1 hi he hS hp K hK
      refine ord_plain rfl ?_
      simp at hp hK ⊢
      simp only [hp] at hK
      obtain rfl := (hS.was hi).1
      go_simp
      refine (aload_any B m d z p n (place c.w c.n c.b) v on C _ _ HX.out.dq HX.out.act rfl (by omega)).mono ?_
      rintro e w2 ⟨rfl, k1, k2⟩
      exact hK _ _ (by simpa [ldW] using hS.put1 hi (k2.mono fun x hx => .inl hx) (HX.out.mem k1 k2)) rfl
    · intro dn u w1 hi he hS hp K hK
      refine ord_plain rfl ?_
      simp at hp hK ⊢
      simp only [hp] at hK
      go_simp
      exact hK _ _ (by simpa [ldW] using hS) rfl
    · intro dn u w1 hi he hS hp K hK
      refine ord_plain rfl ?_
      simp at hp hK ⊢
      simp only [hp] at hK
      go_simp
      exact hK _ _ (by simpa [ldW] using hS) rfl
    · intro dn u w1 hi he hS hp K hK
      refine ord_plain rfl ?_
      simp at hp hK ⊢
      simp only [hp] at hK
      have h15 : dn 15 = true := by simp [edgesDone, Region.binds] at he; simp [he]
      have q1 := hS.mid h15 hi
      have d4 : w1.cell? ⟨p, 4, none⟩ = some (.int .i64 c.v) := q1.act.cell 4
      have f4 : w1.frozen? ⟨p, 4, none⟩ = false := q1.act.frozen 4
      go_simp
      exact hK _ (by simpa [ldW] using Sti2.put2 (Q1 := fun y => Stp w y B m d z p (n + cellN C (place c.w c.n c.b)) v v on C c) (Q2 := fun y => Stp w y B m d z p (n + cellN C (place c.w c.n c.b)) v v on C { c with v := ld C (place c.w c.n c.b) }) h15 rfl (hS.1.setCell (p := ⟨p, 4, none⟩) (.inl (.inr rfl)) _) (q1.set 4 _ rfl))
    · intro u w1 dn hld hS hp
      simp at hp ⊢
      have h18 := hld 18 (by decide)
      have HV := Lib.hid (hS.got h18)
      clear hS
      obtain ⟨wv, rfl⟩ : ∃ wv, wv = w1 := ⟨_, rfl⟩
      clear hp
      go_wp2_with fail
      obtain ⟨W4, hW4⟩ : ∃ W4, W4 = wv.drew := ⟨_, rfl⟩
      have HW4 := Lib.hid hW4
      have HC4 : Hid (∀ y, Only (fun _ => False) W4 y → Stp w y B m d z p _ v _ on C { c with v := ld C (place c.w c.n c.b) }) := Lib.hid (fun y hy => Stp.quiet (by rw [hW4]; exact HV.out.drew) hy)
      clear hW4
      refine wp_region_st (by kernel_rfl) (fun _ y => Only (fun _ => False) W4 y) [Is (.pointer (some ⟨p, 0, none⟩)), Is (.pointer (some ⟨p, 0, none⟩)), Is (.pointer (some ⟨p, 6, none⟩)), Is (.int .i64 c.t), Is (.pointer (some ⟨p, 0, none⟩)), Is (.pointer (some ⟨p, 0, none⟩)), Is (.pointer (some ⟨p, 5, none⟩)), Is (.int .i64 c.b), Is (.bool true)] (by kernel_rfl)
        ⟨is_stab _ _, is_stab _ _, is_stab _ _, is_stab _ _, is_stab _ _, is_stab _ _, is_stab _ _, is_stab _ _, is_stab _ _, trivial⟩ (by rw [← HW4.out]; exact Only.refl _ _) ⟨?_, ?_, ?_, ?_, ?_, ?_, ?_, ?_, ?_, trivial⟩ ?_
      · intro dn u w1 hi he hS hp K hK
        refine ord_plain rfl ?_
        simp at hp hK ⊢
        go_simp
        exact hK _ _ hS rfl
      · intro dn u w1 hi he hS hp K hK
        refine ord_plain rfl ?_
        simp at hp hK ⊢
        simp only [hp] at hK
        go_simp
        exact hK _ _ hS rfl
      · intro dn u w1 hi he hS hp K hK
        refine ord_plain rfl ?_
        simp at hp hK ⊢
        simp only [hp] at hK
        go_simp
        exact hK _ _ hS rfl
      · intro dn u w1 hi he hS hp K hK
        refine ord_plain rfl ?_
        simp at hp hK ⊢
        simp only [hp] at hK
        have hc : w1.cell? ⟨p, 6, none⟩ = some (.int .i64 c.t) := (HC4.out w1 hS).act.cell 6
        go_simp
        exact hK _ _ hS rfl
      · intro dn u w1 hi he hS hp K hK
        refine ord_plain rfl ?_
        simp at hp hK ⊢
        go_simp
        exact hK _ _ hS rfl
      · intro dn u w1 hi he hS hp K hK
        refine ord_plain rfl ?_
        simp at hp hK ⊢
        simp only [hp] at hK
        go_simp
        exact hK _ _ hS rfl
      · intro dn u w1 hi he hS hp K hK
        refine ord_plain rfl ?_
        simp at hp hK ⊢
        simp only [hp] at hK
        go_simp
        exact hK _ _ hS rfl
      · intro dn u w1 hi he hS hp K hK
        refine ord_plain rfl ?_
        simp at hp hK ⊢
        simp only [hp] at hK
        have hc : w1.cell? ⟨p, 5, none⟩ = some (.int .i64 c.b) := (HC4.out w1 hS).act.cell 5
        go_simp
        exact hK _ _ hS rfl
      · intro dn u w1 hi he hS hp K hK
        refine ord_plain rfl ?_
        simp at hp hK ⊢
        simp only [hp] at hK
        go_simp
        exact hK _ _ hS (by first | rfl | (simp; omega))
      · intro u w1 dn hld hS hp
        simp at hp ⊢
        have HQ := Lib.hid (HC4.out w1 hS)
        obtain ⟨wq, rfl⟩ : ∃ wq, wq = w1 := ⟨_, rfl⟩
        clear hS
        simp only [hp]
        clear hp
        go_wp2_with fail
        obtain ⟨W2, hW2⟩ : ∃ W2, W2 = wq.drew := ⟨_, rfl⟩
        have HX : Hid (Stp w W2 B m d z p _ v _ on C { c with v := ld C (place c.w c.n c.b) }) := Lib.hid (by rw [hW2]; exact HQ.out.drew)
        have HW2 := Lib.hid hW2
        clear hW2
        have HC : Hid (∀ b y, Sti (fun x => x = p) W2 b (fun y => y = (((W2.setCell ⟨p, 0, none⟩ .nilFunc).setCell ⟨p, 1, none⟩ (.int .u8 2)).setCell ⟨p, 2, none⟩ (.int .i64 (ld C (place c.w c.n c.b))))) y → y.cell? ⟨p, 4, none⟩ = some (.int .i64 (ld C (place c.w c.n c.b)))) := Lib.hid (by
          intro b y h
          cases b
          · rw [h.was rfl]; exact HX.out.act.cell 4
          · rw [h.got rfl]; exact (HX.out.over 2 (ld C (place c.w c.n c.b))).act.cell 4)
        refine wp_region_st (by kernel_rfl) (fun dn y => Sti (fun x => x = p) W2 (dn 7) (fun y => y = (((W2.setCell ⟨p, 0, none⟩ .nilFunc).setCell ⟨p, 1, none⟩ (.int .u8 2)).setCell ⟨p, 2, none⟩ (.int .i64 (ld C (place c.w c.n c.b))))) y) [Is (.pointer (some ⟨p, 0, none⟩)), Is (.pointer (some ⟨p, 0, none⟩)), Is (.pointer (some ⟨p, 0, none⟩)), Is (.pointer (some ⟨p, 0, none⟩)), Is (.pointer (some ⟨p, 0, none⟩)), Is (.pointer (some ⟨p, 4, none⟩)), Is (.int .i64 (ld C (place c.w c.n c.b))), Is (.int .i64 0), Is (.int .i64 0)] (by kernel_rfl)
          ⟨is_stab _ _, is_stab _ _, is_stab _ _, is_stab _ _, is_stab _ _, is_stab _ _, is_stab _ _, is_stab _ _, is_stab _ _, trivial⟩ (by rw [← HW2.out]; exact Sti.start) ⟨?_, ?_, ?_, ?_, ?_, ?_, ?_, ?_, ?_, trivial⟩ ?_
        · intro dn u w1 hi he hS hp K hK
          refine ord_plain rfl ?_
          simp at hp hK ⊢
          go_simp
          exact hK _ _ (by simpa [ldW] using hS) rfl
        · intro dn u w1 hi he hS hp K hK
          refine ord_plain rfl ?_
          simp at hp hK ⊢
          simp only [hp] at hK
          go_simp
          exact hK _ _ (by simpa [ldW] using hS) rfl
        · intro dn u w1 hi he hS hp K hK
          refine ord_plain rfl ?_
          simp at hp hK ⊢
          simp only [hp] at hK
          go_simp
          exact hK _ _ (by simpa [ldW] using hS) rfl
        · intro dn u w1 hi he hS hp K hK
          refine ord_plain rfl ?_
          simp at hp hK ⊢
          go_simp
          exact hK _ _ (by simpa [ldW] using hS) rfl
        · intro dn u w1 hi he hS hp K hK
          refine ord_plain rfl ?_
          simp at hp hK ⊢
          simp only [hp] at hK
          go_simp
          exact hK _ _ (by simpa [ldW] using hS) rfl
        · intro dn u w1 hi he hS hp K hK
          refine ord_plain rfl ?_
          simp at hp hK ⊢
          simp only [hp] at hK
          go_simp
          exact hK _ _ (by simpa [ldW] using hS) rfl
        · intro dn u w1 hi he hS hp K hK
          refine ord_plain rfl ?_
          simp at hp hK ⊢
          simp only [hp] at hK
          have hc := HC.out _ _ hS
          go_simp
          exact hK _ _ (by simpa [ldW] using hS) rfl
        · intro dn u w1 hi he hS hp K hK
          refine ord_plain rfl ?_
          simp at hp hK ⊢
          simp only [hp] at hK
          obtain rfl := hS.was hi
          go_simp
          refine (over_any p _ _ _ _ HX.out.act (by simp [AC.arr])).mono ?_
          rintro e w2 ⟨rfl, rfl⟩
          exact hK _ _ (by simp only [ldW, if_true]; exact Sti.put ((((Only.refl (fun x => x = p) _).setCell (.inl rfl) _).setCell (.inl rfl) _).setCell (.inl rfl) _) rfl) rfl
        · intro dn u w1 hi he hS hp K hK
          refine ord_plain rfl ?_
          simp at hp hK ⊢
          simp only [hp] at hK
          go_simp
          exact hK _ _ (by simpa [ldW] using hS) rfl
        · intro u w1 dn hld hS hp
          simp at hp ⊢
          have hk := hld 7 (by decide)
          obtain rfl := hS.got hk
          simp only [hp]
          go_wp2_with fail
          go_ret
          exact ⟨rfl, HX.out.over 2 (ld C (place c.w c.n c.b))⟩
  · simp only [if_neg hq]
    go_enter Try.func67, Try.ntmps67
    obtain ⟨W2, hW2⟩ : ∃ W2, W2 = w.drew := ⟨_, rfl⟩
    have HX : Hid (Stp w W2 B m d z p n v v on C c) := Lib.hid (by rw [hW2]; exact HS.out.drew)
    have HW2 := Lib.hid hW2
    have HC : Hid (∀ b1 b2 y, Sti2 (fun x => mine m v x ∨ x = p) W2 true b1 b2 (fun y => Stp w y B m d z p (n + cellN C (place c.w c.n c.b)) v v on C c) (fun y => Stp w y B m d z p (n + cellN C (place c.w c.n c.b)) v v on C { c with v := ld C (place c.w c.n c.b) }) y → y.cell? ⟨p, 7, none⟩ = some (.int .i64 c.w) ∧ y.cell? ⟨p, 8, none⟩ = some (.int .i64 c.n) ∧ y.cell? ⟨p, 5, none⟩ = some (.int .i64 c.b)) := Lib.hid (fun b1 b2 y h => by
      rcases h.or with rfl | h | h
      · exact ⟨HX.out.act.cell 7, HX.out.act.cell 8, HX.out.act.cell 5⟩
      · exact ⟨h.act.cell 7, h.act.cell 8, h.act.cell 5⟩
      · exact ⟨h.act.cell 7, h.act.cell 8, h.act.cell 5⟩)
    clear hW2
    go_wp2_with fail
    refine wp_region_st (by kernel_rfl) (fun dn y => Sti2 (fun x => mine m v x ∨ x = p) W2 true (dn 15) (dn 18) (fun y => Stp w y B m d z p (n + cellN C (place c.w c.n c.b)) v v on C c) (fun y => Stp w y B m d z p (n + cellN C (place c.w c.n c.b)) v v on C { c with v := ld C (place c.w c.n c.b) }) y) [Is (.pointer (some ⟨p, 0, none⟩)), Is (.pointer (some ⟨p, 0, none⟩)), Is (.pointer (some ⟨p, 0, none⟩)), Is (.pointer (some ⟨p, 0, none⟩)), Is (.pointer (some ⟨p, 7, none⟩)), Is (.int .i64 c.w), Is (.pointer (some ⟨p, 0, none⟩)), Is (.pointer (some ⟨p, 0, none⟩)), Is (.pointer (some ⟨p, 8, none⟩)), Is (.int .i64 c.n), Is (.pointer (some ⟨p, 0, none⟩)), Is (.pointer (some ⟨p, 0, none⟩)), Is (.pointer (some ⟨p, 5, none⟩)), Is (.int .i64 c.b), Is (.int .i64 (place c.w c.n c.b)), Is (.int .i64 (ld C (place c.w c.n c.b))), Is (.pointer (some ⟨p, 0, none⟩)), Is (.pointer (some ⟨p, 4, none⟩)), fun _ _ => True] (by kernel_rfl)
      ⟨is_stab _ _, is_stab _ _, is_stab _ _, is_stab _ _, is_stab _ _, is_stab _ _, is_stab _ _, is_stab _ _, is_stab _ _, is_stab _ _, is_stab _ _, is_stab _ _, is_stab _ _, is_stab _ _, is_stab _ _, is_stab _ _, is_stab _ _, is_stab _ _, (fun _ _ _ _ _ => trivial), trivial⟩ (by rw [← HW2.out]; exact Sti2.start) ⟨?_, ?_, ?_, ?_, ?_, ?_, ?_, ?_, ?_, ?_, ?_, ?_, ?_, ?_, ?_, ?_, ?_, ?_, ?_, trivial⟩ ?_
    · intro dn u w1 hi he hS hp K hK
      refine ord_plain rfl ?_
      simp at hp hK ⊢
      go_simp
      exact hK _ _ (by simpa [ldW] using hS) rfl
    · intro dn u w1 hi he hS hp K hK
      refine ord_plain rfl ?_
      simp at hp hK ⊢
      go_simp
      exact hK _ _ (by simpa [ldW] using hS) rfl
    · intro dn u w1 hi he hS hp K hK
      refine ord_plain rfl ?_
      simp at hp hK ⊢
      go_simp
      exact hK _ _ (by simpa [ldW] using hS) rfl
    · intro dn u w1 hi he hS hp K hK
      refine ord_plain rfl ?_
      simp at hp hK ⊢
      simp only [hp] at hK
      go_simp
      exact hK _ _ (by simpa [ldW] using hS) rfl
    · intro dn u w1 hi he hS hp K hK
      refine ord_plain rfl ?_
      simp at hp hK ⊢
      simp only [hp] at hK
      go_simp
      exact hK _ _ (by simpa [ldW] using hS) rfl
    · intro dn u w1 hi he hS hp K hK
      refine ord_plain rfl ?_
      simp at hp hK ⊢
      simp only [hp] at hK
      have hc : w1.cell? ⟨p, 7, none⟩ = some (.int .i64 c.w) := (HC.out _ _ _ hS).1
      go_simp
      exact hK _ _ (by simpa [ldW] using hS) rfl
    · intro dn u w1 hi he hS hp K hK
      refine ord_plain rfl ?_
      simp at hp hK ⊢
      go_simp
      exact hK _ _ (by simpa [ldW] using hS) rfl
    · intro dn u w1 hi he hS hp K hK
      refine ord_plain rfl ?_
      simp at hp hK ⊢
      simp only [hp] at hK
      go_simp
      exact hK _ _ (by simpa [ldW] using hS) rfl
    · intro dn u w1 hi he hS hp K hK
      refine ord_plain rfl ?_
      simp at hp hK ⊢
      simp only [hp] at hK
      go_simp
      exact hK _ _ (by simpa [ldW] using hS) rfl
    · intro dn u w1 hi he hS hp K hK
      refine ord_plain rfl ?_
      simp at hp hK ⊢
      simp only [hp] at hK
      have hc : w1.cell? ⟨p, 8, none⟩ = some (.int .i64 c.n) := (HC.out _ _ _ hS).2.1
      go_simp
      exact hK _ _ (by simpa [ldW] using hS) rfl
    · intro dn u w1 hi he hS hp K hK
      refine ord_plain rfl ?_
      simp at hp hK ⊢
      go_simp
      exact hK _ _ (by simpa [ldW] using hS) rfl
    · intro dn u w1 hi he hS hp K hK
      refine ord_plain rfl ?_
      simp at hp hK ⊢
      simp only [hp] at hK
      go_simp
      exact hK _ _ (by simpa [ldW] using hS) rfl
    · intro dn u w1 hi he hS hp K hK
      refine ord_plain rfl ?_
      simp at hp hK ⊢
      simp only [hp] at hK
      go_simp
      exact hK _ _ (by simpa [ldW] using hS) rfl
    · intro dn u w1 hi he hS hp K hK
      refine ord_plain rfl ?_
      simp at hp hK ⊢
      simp only [hp] at hK
      have hc : w1.cell? ⟨p, 5, none⟩ = some (.int .i64 c.b) := (HC.out _ _ _ hS).2.2
      go_simp
      exact hK _ _ (by simpa [ldW] using hS) rfl
    · intro dn u w1 hi he hS hp K hK
      refine ord_plain rfl ?_
      simp at hp hK ⊢
      simp only [hp] at hK
      go_simp
      refine (place_any c.w c.n c.b w1 h0 h1 h2 h3 h4).mono ?_
      rintro e w2 ⟨rfl, rfl⟩
      exact hK _ _ (by simpa [ldW] using hS) rfl
    · intro dn u w1 hi he hS hp K hK
      refine ord_plain rfl ?_
      simp at hp hK ⊢
      simp only [hp] at hK
      obtain rfl := (hS.was hi).1
      go_simp
      refine (aload_any B m d z p n (place c.w c.n c.b) v on C _ _ HX.out.dq HX.out.act rfl (by omega)).mono ?_
      rintro e w2 ⟨rfl, k1, k2⟩
      exact hK _ _ (by simpa [ldW] using hS.put1 hi (k2.mono fun x hx => .inl hx) (HX.out.mem k1 k2)) rfl
    · intro dn u w1 hi he hS hp K hK
      refine ord_plain rfl ?_
      simp at hp hK ⊢
      simp only [hp] at hK
      go_simp
      exact hK _ _ (by simpa [ldW] using hS) rfl
    · intro dn u w1 hi he hS hp K hK
      refine ord_plain rfl ?_
      simp at hp hK ⊢
      simp only [hp] at hK
      go_simp
      exact hK _ _ (by simpa [ldW] using hS) rfl
    · intro dn u w1 hi he hS hp K hK
      refine ord_plain rfl ?_
      simp at hp hK ⊢
      simp only [hp] at hK
      have h15 : dn 15 = true := by simp [edgesDone, Region.binds] at he; simp [he]
      have q1 := hS.mid h15 hi
      have d4 : w1.cell? ⟨p, 4, none⟩ = some (.int .i64 c.v) := q1.act.cell 4
      have f4 : w1.frozen? ⟨p, 4, none⟩ = false := q1.act.frozen 4
      go_simp
      exact hK _ (by simpa [ldW] using Sti2.put2 (Q1 := fun y => Stp w y B m d z p (n + cellN C (place c.w c.n c.b)) v v on C c) (Q2 := fun y => Stp w y B m d z p (n + cellN C (place c.w c.n c.b)) v v on C { c with v := ld C (place c.w c.n c.b) }) h15 rfl (hS.1.setCell (p := ⟨p, 4, none⟩) (.inl (.inr rfl)) _) (q1.set 4 _ rfl))
    · intro u w1 dn hld hS hp
      simp at hp ⊢
      have h18 := hld 18 (by decide)
      have HV := Lib.hid (hS.got h18)
      clear hS
      obtain ⟨wv, rfl⟩ : ∃ wv, wv = w1 := ⟨_, rfl⟩
      clear hp
      go_wp2_with fail
      obtain ⟨W4, hW4⟩ : ∃ W4, W4 = wv.drew := ⟨_, rfl⟩
      have HW4 := Lib.hid hW4
      have HC4 : Hid (∀ y, Only (fun _ => False) W4 y → Stp w y B m d z p _ v _ on C { c with v := ld C (place c.w c.n c.b) }) := Lib.hid (fun y hy => Stp.quiet (by rw [hW4]; exact HV.out.drew) hy)
      clear hW4
      refine wp_region_st (by kernel_rfl) (fun _ y => Only (fun _ => False) W4 y) [Is (.pointer (some ⟨p, 0, none⟩)), Is (.pointer (some ⟨p, 0, none⟩)), Is (.pointer (some ⟨p, 6, none⟩)), Is (.int .i64 c.t), Is (.pointer (some ⟨p, 0, none⟩)), Is (.pointer (some ⟨p, 0, none⟩)), Is (.pointer (some ⟨p, 5, none⟩)), Is (.int .i64 c.b), Is (.bool false)] (by kernel_rfl)
        ⟨is_stab _ _, is_stab _ _, is_stab _ _, is_stab _ _, is_stab _ _, is_stab _ _, is_stab _ _, is_stab _ _, is_stab _ _, trivial⟩ (by rw [← HW4.out]; exact Only.refl _ _) ⟨?_, ?_, ?_, ?_, ?_, ?_, ?_, ?_, ?_, trivial⟩ ?_
      · intro dn u w1 hi he hS hp K hK
        refine ord_plain rfl ?_
        simp at hp hK ⊢
        go_simp
        exact hK _ _ hS rfl
      · intro dn u w1 hi he hS hp K hK
        refine ord_plain rfl ?_
        simp at hp hK ⊢
        simp only [hp] at hK
        go_simp
        exact hK _ _ hS rfl
      · intro dn u w1 hi he hS hp K hK
        refine ord_plain rfl ?_
        simp at hp hK ⊢
        simp only [hp] at hK
        go_simp
        exact hK _ _ hS rfl
      · intro dn u w1 hi he hS hp K hK
        refine ord_plain rfl ?_
        simp at hp hK ⊢
        simp only [hp] at hK
        have hc : w1.cell? ⟨p, 6, none⟩ = some (.int .i64 c.t) := (HC4.out w1 hS).act.cell 6
        go_simp
        exact hK _ _ hS rfl
      · intro dn u w1 hi he hS hp K hK
        refine ord_plain rfl ?_
        simp at hp hK ⊢
        go_simp
        exact hK _ _ hS rfl
      · intro dn u w1 hi he hS hp K hK
        refine ord_plain rfl ?_
        simp at hp hK ⊢
        simp only [hp] at hK
        go_simp
        exact hK _ _ hS rfl
      · intro dn u w1 hi he hS hp K hK
        refine ord_plain rfl ?_
        simp at hp hK ⊢
        simp only [hp] at hK
        go_simp
        exact hK _ _ hS rfl
      · intro dn u w1 hi he hS hp K hK
        refine ord_plain rfl ?_
        simp at hp hK ⊢
        simp only [hp] at hK
        have hc : w1.cell? ⟨p, 5, none⟩ = some (.int .i64 c.b) := (HC4.out w1 hS).act.cell 5
        go_simp
        exact hK _ _ hS rfl
      · intro dn u w1 hi he hS hp K hK
        refine ord_plain rfl ?_
        simp at hp hK ⊢
        simp only [hp] at hK
        go_simp
        exact hK _ _ hS (by first | rfl | (simp; omega))
      · intro u w1 dn hld hS hp
        simp at hp ⊢
        have HQ := Lib.hid (HC4.out w1 hS)
        obtain ⟨wq, rfl⟩ : ∃ wq, wq = w1 := ⟨_, rfl⟩
        clear hS
        simp only [hp]
        clear hp
        go_wp2_with fail
        refine (then_any p _ _ _ _ _ HQ.out.act (by simp [AC.arr])).mono ?_
        rintro e w9 ⟨rfl, rfl⟩
        go_wp2_with fail
        go_ret
        exact ⟨rfl, HQ.out.set 0 _ rfl⟩
end Go.Proofs.Ytmghlhngdopifaa
