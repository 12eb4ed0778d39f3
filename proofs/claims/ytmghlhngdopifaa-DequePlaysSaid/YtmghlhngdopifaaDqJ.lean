/- Deques: pushValue, growWhere. -/
import Derived.Test.YtmghlhngdopifaaDqH
namespace Go.Proofs.Ytmghlhngdopifaa
open Go.RowKit
set_option linter.unusedVariables false
attribute [local simp] frOf dstsOf frGo predsHold allHold Region.binds slotOf seen Is Act.put
theorem Stp.memC {w w' w'' : World} {B m d z p : Nat} {n n' : Int} {v v' on : Value} {C C' : List Int} {c : AC} (h : Stp w w' B m d z p n v v' on C c) (hm : CMem w'' B m n' v' C') (ho : Only (mine m v') w' w'') (h0 : ld C' z = ld C z) (h1 : ld C' ((z : Int) + 1) = ld C ((z : Int) + 1)) : Stp w w'' B m d z p n' v v' on C' c := by
  refine h.deq ⟨hm, ?_, h.dq.base⟩ (ho.mono fun x hx => .inl hx)
  rw [h0, h1]
  exact ho.blk h.dq.blk h.dq.away
set_option maxRecDepth 100000 in
set_option maxHeartbeats 1000000 in
theorem pushValue_any (B m d z p : Nat) (n : Int) (v on : Value) (C : List Int) (c : AC) (w : World) (h : DqS w B m d z n v C on) (hp : Blk w p 79 (c.arr d)) (hn : n + 2 ≤ 4611686018427387904) (h0 : 0 ≤ c.b) (h1 : 1 ≤ c.n) (h2 : c.n ≤ 1000000) (h3 : 0 ≤ c.w) (h4 : c.w ≤ 1000000) (hw : (z : Int) + 2 < c.w) :
    Calls Try.prog 59 #[.pointer (some ⟨p, 0, none⟩)] w fun e w' => e = .returned (.int .i64 0) ∧ Stp w w' B m d z p (n + cellN C (place c.w c.n c.b)) v v on (st C (place c.w c.n c.b) c.v) { c with dv := meth 66 p } := by
  have HS := Lib.hid (Stp.refl h hp)
  clear h hp
  have hpb := place_bd (w := c.w) (i := c.b) h1
  have HZ0 : Hid (ld (st C (place c.w c.n c.b) c.v) z = ld C z) := Lib.hid (ld_st_ne (by omega))
  have HZ1 : Hid (ld (st C (place c.w c.n c.b) c.v) ((z : Int) + 1) = ld C ((z : Int) + 1)) := Lib.hid (ld_st_ne (by omega))
  clear hpb
  go_enter Try.func59, Try.ntmps59
  obtain ⟨W2, hW2⟩ : ∃ W2, W2 = w.drew := ⟨_, rfl⟩
  have HX : Hid (Stp w W2 B m d z p n v v on C c) := Lib.hid (by rw [hW2]; exact HS.out.drew)
  have HW2 := Lib.hid hW2
  have HC : Hid (∀ y, Only (mine m v) W2 y → y.cell? ⟨p, 7, none⟩ = some (.int .i64 c.w) ∧ y.cell? ⟨p, 8, none⟩ = some (.int .i64 c.n) ∧ y.cell? ⟨p, 5, none⟩ = some (.int .i64 c.b) ∧ y.cell? ⟨p, 4, none⟩ = some (.int .i64 c.v) ∧ y.cell? ⟨p, 3, none⟩ = some (.pointer (some ⟨d, 0, none⟩)) ∧ y.cell? ⟨d, 0, none⟩ = some (.pointer (some ⟨m, 0, none⟩))) := Lib.hid (fun y hy => by
    obtain ⟨k1, k2⟩ := HX.out.cells hy
    exact ⟨k1.cell 7, k1.cell 8, k1.cell 5, k1.cell 4, k1.cell 3, k2.cell 0⟩)
  clear hW2
  go_wp2_with fail
  refine wp_region_st (by kernel_rfl) (fun dn y => Sti (mine m v) W2 (dn 24) (fun y => Stp w y B m d z p (n + cellN C (place c.w c.n c.b)) v v on (st C (place c.w c.n c.b) c.v) c) y) [Is (.pointer (some ⟨p, 0, none⟩)), Is (.pointer (some ⟨p, 0, none⟩)), Is (.pointer (some ⟨p, 3, none⟩)), Is (.pointer (some ⟨d, 0, none⟩)), Is (.pointer (some ⟨d, 0, none⟩)), Is (.pointer (some ⟨d, 0, none⟩)), Is (.pointer (some ⟨m, 0, none⟩)), Is (.pointer (some ⟨p, 0, none⟩)), Is (.pointer (some ⟨p, 0, none⟩)), Is (.pointer (some ⟨p, 7, none⟩)), Is (.int .i64 c.w), Is (.pointer (some ⟨p, 0, none⟩)), Is (.pointer (some ⟨p, 0, none⟩)), Is (.pointer (some ⟨p, 8, none⟩)), Is (.int .i64 c.n), Is (.pointer (some ⟨p, 0, none⟩)), Is (.pointer (some ⟨p, 0, none⟩)), Is (.pointer (some ⟨p, 5, none⟩)), Is (.int .i64 c.b), Is (.int .i64 (place c.w c.n c.b)), Is (.pointer (some ⟨p, 0, none⟩)), Is (.pointer (some ⟨p, 0, none⟩)), Is (.pointer (some ⟨p, 4, none⟩)), Is (.int .i64 c.v), Is (.int .i64 (cellE C (place c.w c.n c.b)))] (by kernel_rfl)
    ⟨is_stab _ _, is_stab _ _, is_stab _ _, is_stab _ _, is_stab _ _, is_stab _ _, is_stab _ _, is_stab _ _, is_stab _ _, is_stab _ _, is_stab _ _, is_stab _ _, is_stab _ _, is_stab _ _, is_stab _ _, is_stab _ _, is_stab _ _, is_stab _ _, is_stab _ _, is_stab _ _, is_stab _ _, is_stab _ _, is_stab _ _, is_stab _ _, is_stab _ _, trivial⟩ (by rw [← HW2.out]; exact Sti.start) ⟨?_, ?_, ?_, ?_, ?_, ?_, ?_, ?_, ?_, ?_, ?_, ?_, ?_, ?_, ?_, ?_, ?_, ?_, ?_, ?_, ?_, ?_, ?_, ?_, ?_, trivial⟩ ?_
  · intro dn u w1 hi he hS hp K hK
    refine ord_plain rfl ?_
    simp at hp hK ⊢
    go_simp
    exact hK _ _ (by simpa [ldW] using hS) rfl
  · intro dn u w1 hi he hS hp K hK
    refine ord_plain rfl ?_
    simp at hp hK ⊢
    simp only [hp] at hK
    go_simp
    exact hK _ _ (by simpa [ldW] using hS) rfl
  · intro dn u w1 hi he hS hp K hK
    refine ord_plain rfl ?_
    simp at hp hK ⊢
    simp only [hp] at hK
    go_simp
    exact hK _ _ (by simpa [ldW] using hS) rfl
  · intro dn u w1 hi he hS hp K hK
    refine ord_plain rfl ?_
    simp at hp hK ⊢
    simp only [hp] at hK
    have hc := (HC.out w1 hS.1).2.2.2.2.1
    go_simp
    exact hK _ _ (by simpa [ldW] using hS) rfl
  · intro dn u w1 hi he hS hp K hK
    refine ord_plain rfl ?_
    simp at hp hK ⊢
    simp only [hp] at hK
    go_simp
    exact hK _ _ (by simpa [ldW] using hS) rfl
  · intro dn u w1 hi he hS hp K hK
    refine ord_plain rfl ?_
    simp at hp hK ⊢
    simp only [hp] at hK
    go_simp
    exact hK _ _ (by simpa [ldW] using hS) rfl
  · intro dn u w1 hi he hS hp K hK
    refine ord_plain rfl ?_
    simp at hp hK ⊢
    simp only [hp] at hK
    have hc := (HC.out w1 hS.1).2.2.2.2.2
    go_simp
    exact hK _ _ (by simpa [ldW] using hS) rfl
  · intro dn u w1 hi he hS hp K hK
    refine ord_plain rfl ?_
    simp at hp hK ⊢
    go_simp
    exact hK _ _ (by simpa [ldW] using hS) rfl
  · intro dn u w1 hi he hS hp K hK
    refine ord_plain rfl ?_
    simp at hp hK ⊢
    simp only [hp] at hK
    go_simp
    exact hK _ _ (by simpa [ldW] using hS) rfl
  · intro dn u w1 hi he hS hp K hK
    refine ord_plain rfl ?_
    simp at hp hK ⊢
    simp only [hp] at hK
    go_simp
    exact hK _ _ (by simpa [ldW] using hS) rfl
  · intro dn u w1 hi he hS hp K hK
    refine ord_plain rfl ?_
    simp at hp hK ⊢
    simp only [hp] at hK
    have hc := (HC.out w1 hS.1).1
    go_simp
    exact hK _ _ (by simpa [ldW] using hS) rfl
  · intro dn u w1 hi he hS hp K hK
    refine ord_plain rfl ?_
    simp at hp hK ⊢
    go_simp
    exact hK _ _ (by simpa [ldW] using hS) rfl
  · intro dn u w1 hi he hS hp K hK
    refine ord_plain rfl ?_
    simp at hp hK ⊢
    simp only [hp] at hK
    go_simp
    exact hK _ _ (by simpa [ldW] using hS) rfl
  · intro dn u w1 hi he hS hp K hK
    refine ord_plain rfl ?_
    simp at hp hK ⊢
    simp only [hp] at hK
    go_simp
    exact hK _ _ (by simpa [ldW] using hS) rfl
  · intro dn u w1 hi he hS hp K hK
    refine ord_plain rfl ?_
    simp at hp hK ⊢
    simp only [hp] at hK
    have hc := (HC.out w1 hS.1).2.1
    go_simp
    exact hK _ _ (by simpa [ldW] using hS) rfl
  · intro dn u w1 hi he hS hp K hK
    refine ord_plain rfl ?_
    simp at hp hK ⊢
    go_simp
    exact hK _ _ (by simpa [ldW] using hS) rfl
  · intro dn u w1 hi he hS hp K hK
    refine ord_plain rfl ?_
    simp at hp hK ⊢
    simp only [hp] at hK
    go_simp
    exact hK _ _ (by simpa [ldW] using hS) rfl
  · intro dn u w1 hi he hS hp K hK
    refine ord_plain rfl ?_
    simp at hp hK ⊢
    simp only [hp] at hK
    go_simp
    exact hK _ _ (by simpa [ldW] using hS) rfl
  · intro dn u w1 hi he hS hp K hK
    refine ord_plain rfl ?_
    simp at hp hK ⊢
    simp only [hp] at hK
    have hc := (HC.out w1 hS.1).2.2.1
    go_simp
    exact hK _ _ (by simpa [ldW] using hS) rfl
  · intro dn u w1 hi he hS hp K hK
    refine ord_plain rfl ?_
    simp at hp hK ⊢
    simp only [hp] at hK
    go_simp
    refine (place_any c.w c.n c.b w1 h0 h1 h2 h3 h4).mono ?_
    rintro e w2 ⟨rfl, rfl⟩
    exact hK _ _ (by simpa [ldW] using hS) rfl
  · intro dn u w1 hi he hS hp K hK
    refine ord_plain rfl ?_
    simp at hp hK ⊢
    go_simp
    exact hK _ _ (by simpa [ldW] using hS) rfl
  · intro dn u w1 hi he hS hp K hK
    refine ord_plain rfl ?_
    simp at hp hK ⊢
    simp only [hp] at hK
    go_simp
    exact hK _ _ (by simpa [ldW] using hS) rfl
  · intro dn u w1 hi he hS hp K hK
    refine ord_plain rfl ?_
    simp at hp hK ⊢
    simp only [hp] at hK
    go_simp
    exact hK _ _ (by simpa [ldW] using hS) rfl
  · intro dn u w1 hi he hS hp K hK
    refine ord_plain rfl ?_
    simp at hp hK ⊢
    simp only [hp] at hK
    have hc := (HC.out w1 hS.1).2.2.2.1
    go_simp
    exact hK _ _ (by simpa [ldW] using hS) rfl
  · intro dn u w1 hi he hS hp K hK
    refine ord_plain rfl ?_
    simp at hp hK ⊢
    simp only [hp] at hK
    obtain rfl := hS.was hi
    go_simp
    refine (store_any B m n (place c.w c.n c.b) c.v v C _ HX.out.dq.mem (by omega)).mono ?_
    rintro e w2 ⟨rfl, k1, k2⟩
    rw [cellS_st] at k1
    exact hK _ _ (by simpa [ldW] using Sti.put k2 (HX.out.memC k1 k2 HZ0.out HZ1.out)) rfl
  · intro u w1 dn hld hS hp
    simp at hp ⊢
    have hk := hld 24 (by decide)
    have HV := Lib.hid (hS.got hk)
    obtain ⟨wv, rfl⟩ : ∃ wv, wv = w1 := ⟨_, rfl⟩
    clear hS hp
    go_wp2_with fail
    refine (then_any p _ _ _ _ _ HV.out.act (by simp [AC.arr])).mono ?_
    rintro e w9 ⟨rfl, rfl⟩
    go_wp2_with fail
    go_ret
    exact ⟨rfl, HV.out.set 0 _ rfl⟩
set_option maxRecDepth 100000 in
set_option maxHeartbeats 1000000 in
theorem growWhere_any (B m d z p : Nat) (n : Int) (v on : Value) (C : List Int) (c : AC) (w : World) (h : DqS w B m d z n v C on) (hp : Blk w p 79 (c.arr d)) (hn : n + 2 ≤ 4611686018427387904) (h1 : 1 ≤ c.n) (h2 : c.n ≤ 1000000) :
    Calls Try.prog 69 #[.pointer (some ⟨p, 0, none⟩)] w fun e w' => e = .returned (.int .i64 0) ∧ Stp w w' B m d z p (n + cellN C ((z : Int) + 2)) v v on (st C ((z : Int) + 2) c.nw) { c with w := c.nw, n := 2 * c.n, dv := meth 59 p } := by
  have HS := Lib.hid (Stp.refl h hp)
  clear h hp
  have HZ0 : Hid (ld (st C ((z : Int) + 2) c.nw) z = ld C z) := Lib.hid (ld_st_ne (by omega))
  have HZ1 : Hid (ld (st C ((z : Int) + 2) c.nw) ((z : Int) + 1) = ld C ((z : Int) + 1)) := Lib.hid (ld_st_ne (by omega))
  have hwr : IntKind.i64.wrap (2 * c.n) = 2 * c.n := IntWalk.i64_in _ (by omega)
  go_enter Try.func69, Try.ntmps69
  obtain ⟨W2, hW2⟩ : ∃ W2, W2 = w.drew := ⟨_, rfl⟩
  have HX : Hid (Stp w W2 B m d z p n v v on C c) := Lib.hid (by rw [hW2]; exact HS.out.drew)
  have HW2 := Lib.hid hW2
  have HC : Hid (∀ y, Only (mine m v) W2 y → y.cell? ⟨p, 9, none⟩ = some (.int .i64 c.nw) ∧ y.cell? ⟨p, 3, none⟩ = some (.pointer (some ⟨d, 0, none⟩)) ∧ y.cell? ⟨d, 0, none⟩ = some (.pointer (some ⟨m, 0, none⟩)) ∧ y.cell? ⟨d, 3, none⟩ = some (.int .i64 ((z : Int) + 2))) := Lib.hid (fun y hy => by
    obtain ⟨k1, k2⟩ := HX.out.cells hy
    exact ⟨k1.cell 9, k1.cell 3, k2.cell 0, k2.cell 3⟩)
  clear hW2
  go_wp2_with fail
  refine wp_region_st (by kernel_rfl) (fun dn y => Sti (mine m v) W2 (dn 18) (fun y => Stp w y B m d z p (n + cellN C ((z : Int) + 2)) v v on (st C ((z : Int) + 2) c.nw) c) y) [Is (.pointer (some ⟨p, 0, none⟩)), Is (.pointer (some ⟨p, 0, none⟩)), Is (.pointer (some ⟨p, 3, none⟩)), Is (.pointer (some ⟨d, 0, none⟩)), Is (.pointer (some ⟨d, 0, none⟩)), Is (.pointer (some ⟨d, 0, none⟩)), Is (.pointer (some ⟨m, 0, none⟩)), Is (.pointer (some ⟨p, 0, none⟩)), Is (.pointer (some ⟨p, 0, none⟩)), Is (.pointer (some ⟨p, 3, none⟩)), Is (.pointer (some ⟨d, 0, none⟩)), Is (.pointer (some ⟨d, 0, none⟩)), Is (.pointer (some ⟨d, 3, none⟩)), Is (.int .i64 ((z : Int) + 2)), Is (.pointer (some ⟨p, 0, none⟩)), Is (.pointer (some ⟨p, 0, none⟩)), Is (.pointer (some ⟨p, 9, none⟩)), Is (.int .i64 c.nw), Is (.int .i64 (cellE C ((z : Int) + 2)))] (by kernel_rfl)
    ⟨is_stab _ _, is_stab _ _, is_stab _ _, is_stab _ _, is_stab _ _, is_stab _ _, is_stab _ _, is_stab _ _, is_stab _ _, is_stab _ _, is_stab _ _, is_stab _ _, is_stab _ _, is_stab _ _, is_stab _ _, is_stab _ _, is_stab _ _, is_stab _ _, is_stab _ _, trivial⟩ (by rw [← HW2.out]; exact Sti.start) ⟨?_, ?_, ?_, ?_, ?_, ?_, ?_, ?_, ?_, ?_, ?_, ?_, ?_, ?_, ?_, ?_, ?_, ?_, ?_, trivial⟩ ?_
  · intro dn u w1 hi he hS hp K hK
    refine ord_plain rfl ?_
    simp at hp hK ⊢
    go_simp
    exact hK _ _ (by simpa [ldW] using hS) rfl
  · intro dn u w1 hi he hS hp K hK
    refine ord_plain rfl ?_
    simp at hp hK ⊢
    simp only [hp] at hK
    go_simp
    exact hK _ _ (by simpa [ldW] using hS) rfl
  · intro dn u w1 hi he hS hp K hK
    refine ord_plain rfl ?_
    simp at hp hK ⊢
    simp only [hp] at hK
    go_simp
    exact hK _ _ (by simpa [ldW] using hS) rfl
  · intro dn u w1 hi he hS hp K hK
    refine ord_plain rfl ?_
    simp at hp hK ⊢
    simp only [hp] at hK
    have hc := (HC.out w1 hS.1).2.1
    go_simp
    exact hK _ _ (by simpa [ldW] using hS) rfl
  · intro dn u w1 hi he hS hp K hK
    refine ord_plain rfl ?_
    simp at hp hK ⊢
    simp only [hp] at hK
    go_simp
    exact hK _ _ (by simpa [ldW] using hS) rfl
  · intro dn u w1 hi he hS hp K hK
    refine ord_plain rfl ?_
    simp at hp hK ⊢
    simp only [hp] at hK
    go_simp
    exact hK _ _ (by simpa [ldW] using hS) rfl
  · intro dn u w1 hi he hS hp K hK
    refine ord_plain rfl ?_
    simp at hp hK ⊢
    simp only [hp] at hK
    have hc := (HC.out w1 hS.1).2.2.1
    go_simp
    exact hK _ _ (by simpa [ldW] using hS) rfl
  · intro dn u w1 hi he hS hp K hK
    refine ord_plain rfl ?_
    simp at hp hK ⊢
    go_simp
    exact hK _ _ (by simpa [ldW] using hS) rfl
  · intro dn u w1 hi he hS hp K hK
    refine ord_plain rfl ?_
    simp at hp hK ⊢
    simp only [hp] at hK
    go_simp
    exact hK _ _ (by simpa [ldW] using hS) rfl
  · intro dn u w1 hi he hS hp K hK
    refine ord_plain rfl ?_
    simp at hp hK ⊢
    simp only [hp] at hK
    go_simp
    exact hK _ _ (by simpa [ldW] using hS) rfl
  · intro dn u w1 hi he hS hp K hK
    refine ord_plain rfl ?_
    simp at hp hK ⊢
    simp only [hp] at hK
    have hc := (HC.out w1 hS.1).2.1
    go_simp
    exact hK _ _ (by simpa [ldW] using hS) rfl
  · intro dn u w1 hi he hS hp K hK
    refine ord_plain rfl ?_
    simp at hp hK ⊢
    simp only [hp] at hK
    go_simp
    exact hK _ _ (by simpa [ldW] using hS) rfl
  · intro dn u w1 hi he hS hp K hK
    refine ord_plain rfl ?_
    simp at hp hK ⊢
    simp only [hp] at hK
    go_simp
    exact hK _ _ (by simpa [ldW] using hS) rfl
  · intro dn u w1 hi he hS hp K hK
    refine ord_plain rfl ?_
    simp at hp hK ⊢
    simp only [hp] at hK
    have hc := (HC.out w1 hS.1).2.2.2
    go_simp
    exact hK _ _ (by simpa [ldW] using hS) rfl
  · intro dn u w1 hi he hS hp K hK
    refine ord_plain rfl ?_
    simp at hp hK ⊢
    go_simp
    exact hK _ _ (by simpa [ldW] using hS) rfl
  · intro dn u w1 hi he hS hp K hK
    refine ord_plain rfl ?_
    simp at hp hK ⊢
    simp only [hp] at hK
    go_simp
    exact hK _ _ (by simpa [ldW] using hS) rfl
  · intro dn u w1 hi he hS hp K hK
    refine ord_plain rfl ?_
    simp at hp hK ⊢
    simp only [hp] at hK
    go_simp
    exact hK _ _ (by simpa [ldW] using hS) rfl
  · intro dn u w1 hi he hS hp K hK
    refine ord_plain rfl ?_
    simp at hp hK ⊢
    simp only [hp] at hK
    have hc := (HC.out w1 hS.1).1
    go_simp
    exact hK _ _ (by simpa [ldW] using hS) rfl
  · intro dn u w1 hi he hS hp K hK
    refine ord_plain rfl ?_
    simp at hp hK ⊢
    simp only [hp] at hK
    obtain rfl := hS.was hi
    go_simp
    refine (store_any B m n ((z : Int) + 2) c.nw v C _ HX.out.dq.mem (by omega)).mono ?_
    rintro e w2 ⟨rfl, k1, k2⟩
    rw [cellS_st] at k1
    exact hK _ _ (by simpa [ldW] using Sti.put k2 (HX.out.memC k1 k2 HZ0.out HZ1.out)) rfl
  · intro u w1 dn hld hS hp
    simp at hp ⊢
    have hk := hld 18 (by decide)
    have HV := Lib.hid (hS.got hk)
    obtain ⟨wv, rfl⟩ : ∃ wv, wv = w1 := ⟨_, rfl⟩
    clear hS hp
    obtain ⟨W4, hW4⟩ : ∃ W4, W4 = wv.drew := ⟨_, rfl⟩
    have HY : Hid (Stp w W4 B m d z p _ v v on (st C ((z : Int) + 2) c.nw) c) := Lib.hid (by rw [hW4]; exact HV.out.drew)
    have HW4 := Lib.hid hW4
    clear hW4
    go_wp2_with fail
    refine wp_region_st (by kernel_rfl) (fun dn y => Sti2 (fun x => x = p) W4 (dn 9) (dn 13) (dn 16) (fun y => Stp w y B m d z p (n + cellN C ((z : Int) + 2)) v v on (st C ((z : Int) + 2) c.nw) { c with w := c.nw }) (fun y => Stp w y B m d z p (n + cellN C ((z : Int) + 2)) v v on (st C ((z : Int) + 2) c.nw) { c with w := c.nw, n := 2 * c.n }) y) [Is (.pointer (some ⟨p, 0, none⟩)), Is (.pointer (some ⟨p, 0, none⟩)), Is (.pointer (some ⟨p, 0, none⟩)), Is (.pointer (some ⟨p, 0, none⟩)), Is (.pointer (some ⟨p, 9, none⟩)), Is (.int .i64 c.nw), Is (.pointer (some ⟨p, 0, none⟩)), Is (.pointer (some ⟨p, 0, none⟩)), Is (.pointer (some ⟨p, 8, none⟩)), Is (.int .i64 c.n), Is (.int .i64 (2 * c.n)), Is (.pointer (some ⟨p, 0, none⟩)), Is (.pointer (some ⟨p, 7, none⟩)), fun _ _ => True, Is (.pointer (some ⟨p, 0, none⟩)), Is (.pointer (some ⟨p, 8, none⟩)), fun _ _ => True] (by kernel_rfl)
      ⟨is_stab _ _, is_stab _ _, is_stab _ _, is_stab _ _, is_stab _ _, is_stab _ _, is_stab _ _, is_stab _ _, is_stab _ _, is_stab _ _, is_stab _ _, is_stab _ _, is_stab _ _, (fun _ _ _ _ _ => trivial), is_stab _ _, is_stab _ _, (fun _ _ _ _ _ => trivial), trivial⟩ (by rw [← HW4.out]; exact Sti2.start) ⟨?_, ?_, ?_, ?_, ?_, ?_, ?_, ?_, ?_, ?_, ?_, ?_, ?_, ?_, ?_, ?_, ?_, trivial⟩ ?_
    · intro dn u w1 hi he hS hp K hK
      refine ord_plain rfl ?_
      simp at hp hK ⊢
      go_simp
      exact hK _ _ (by simpa [ldW] using hS) rfl
    · intro dn u w1 hi he hS hp K hK
      refine ord_plain rfl ?_
      simp at hp hK ⊢
      go_simp
      exact hK _ _ (by simpa [ldW] using hS) rfl
    · intro dn u w1 hi he hS hp K hK
      refine ord_plain rfl ?_
      simp at hp hK ⊢
      go_simp
      exact hK _ _ (by simpa [ldW] using hS) rfl
    · intro dn u w1 hi he hS hp K hK
      refine ord_plain rfl ?_
      simp at hp hK ⊢
      simp only [hp] at hK
      go_simp
      exact hK _ _ (by simpa [ldW] using hS) rfl
    · intro dn u w1 hi he hS hp K hK
      refine ord_plain rfl ?_
      simp at hp hK ⊢
      simp only [hp] at hK
      go_simp
      exact hK _ _ (by simpa [ldW] using hS) rfl
    · intro dn u w1 hi he hS hp K hK
      refine ord_plain rfl ?_
      simp at hp hK ⊢
      simp only [hp] at hK
      have hc : w1.cell? ⟨p, 9, none⟩ = some (.int .i64 c.nw) := by
        rcases hS.or with rfl | h | h
        · exact HY.out.act.cell 9
        · exact h.act.cell 9
        · exact h.act.cell 9
      go_simp
      exact hK _ _ (by simpa [ldW] using hS) rfl
    · intro dn u w1 hi he hS hp K hK
      refine ord_plain rfl ?_
      simp at hp hK ⊢
      go_simp
      exact hK _ _ (by simpa [ldW] using hS) rfl
    · intro dn u w1 hi he hS hp K hK
      refine ord_plain rfl ?_
      simp at hp hK ⊢
      simp only [hp] at hK
      go_simp
      exact hK _ _ (by simpa [ldW] using hS) rfl
    · intro dn u w1 hi he hS hp K hK
      refine ord_plain rfl ?_
      simp at hp hK ⊢
      simp only [hp] at hK
      go_simp
      exact hK _ _ (by simpa [ldW] using hS) rfl
    · intro dn u w1 hi he hS hp K hK
      refine ord_plain rfl ?_
      simp at hp hK ⊢
      simp only [hp] at hK
      have hc : w1.cell? ⟨p, 8, none⟩ = some (.int .i64 c.n) := by
        rcases hS.or0 hi with rfl | h
        · exact HY.out.act.cell 8
        · exact h.act.cell 8
      go_simp
      exact hK _ _ (by simpa [ldW] using hS.more (b0' := true) (fun _ => rfl)) rfl
    · intro dn u w1 hi he hS hp K hK
      refine ord_plain rfl ?_
      simp at hp hK ⊢
      simp only [hp] at hK
      go_simp
      exact hK _ _ (by simpa [ldW] using hS) rfl
    · intro dn u w1 hi he hS hp K hK
      refine ord_plain rfl ?_
      simp at hp hK ⊢
      simp only [hp] at hK
      go_simp
      exact hK _ _ (by simpa [ldW] using hS) rfl
    · intro dn u w1 hi he hS hp K hK
      refine ord_plain rfl ?_
      simp at hp hK ⊢
      simp only [hp] at hK
      go_simp
      exact hK _ _ (by simpa [ldW] using hS) rfl
    · intro dn u w1 hi he hS hp K hK
      refine ord_plain rfl ?_
      simp at hp hK ⊢
      simp only [hp] at hK
      obtain rfl := (hS.was hi).1
      have d7 : w1.cell? ⟨p, 7, none⟩ = some (.int .i64 c.w) := HY.out.act.cell 7
      have f7 : w1.frozen? ⟨p, 7, none⟩ = false := HY.out.act.frozen 7
      go_simp
      exact hK _ (by simpa [ldW] using hS.put1 hi ((Only.refl (fun x => x = p) _).setCell (p := ⟨p, 7, none⟩) (.inl rfl) _) (HY.out.set 7 _ rfl))
    · intro dn u w1 hi he hS hp K hK
      refine ord_plain rfl ?_
      simp at hp hK ⊢
      simp only [hp] at hK
      go_simp
      exact hK _ _ (by simpa [ldW] using hS) rfl
    · intro dn u w1 hi he hS hp K hK
      refine ord_plain rfl ?_
      simp at hp hK ⊢
      simp only [hp] at hK
      go_simp
      exact hK _ _ (by simpa [ldW] using hS) rfl
    · intro dn u w1 hi he hS hp K hK
      refine ord_plain rfl ?_
      simp at hp hK ⊢
      simp only [hp] at hK
      have h13 : dn 13 = true := by simp [edgesDone, Region.binds] at he; simp [he]
      have h9 : dn 9 = true := by simp [edgesDone, Region.binds] at he; simp [he]
      have q1 := hS.mid h13 hi
      have d8 : w1.cell? ⟨p, 8, none⟩ = some (.int .i64 c.n) := q1.act.cell 8
      have f8 : w1.frozen? ⟨p, 8, none⟩ = false := q1.act.frozen 8
      go_simp
      exact hK _ (by simpa [ldW] using Sti2.put2 (Q1 := (fun y => Stp w y B m d z p (n + cellN C ((z : Int) + 2)) v v on (st C ((z : Int) + 2) c.nw) { c with w := c.nw })) (Q2 := (fun y => Stp w y B m d z p (n + cellN C ((z : Int) + 2)) v v on (st C ((z : Int) + 2) c.nw) { c with w := c.nw, n := 2 * c.n })) h13 h9 (hS.1.setCell (p := ⟨p, 8, none⟩) (.inl rfl) _) (q1.set 8 _ rfl))
    · intro u w1 dn hld hS hp
      simp at hp ⊢
      have h16 := hld 16 (by decide)
      have HU := Lib.hid (hS.got h16)
      clear hS hp
      go_wp2_with fail
      refine (then_any p _ _ _ _ _ HU.out.act (by simp [AC.arr])).mono ?_
      rintro e w9 ⟨rfl, rfl⟩
      go_wp2_with fail
      go_ret
      exact ⟨rfl, HU.out.set 0 _ rfl⟩
end Go.Proofs.Ytmghlhngdopifaa
