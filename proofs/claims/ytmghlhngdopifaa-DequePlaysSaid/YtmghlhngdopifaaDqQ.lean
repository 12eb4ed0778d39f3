/- Deques: Step, in plain words. -/
import Derived.Test.YtmghlhngdopifaaDqO
namespace Go.Proofs.Ytmghlhngdopifaa
open Go.RowKit
set_option linter.unusedVariables false
attribute [local simp] frOf dstsOf frGo predsHold allHold Region.binds slotOf seen Is Act.put
theorem Does.keep {w w' : World} {p : Nat} {v v' : Value} {a : PAct} {dv : Value} {S : Nat → Prop} (h : Does w p v a dv) (ho : Only S w w') (hs : ∀ ba (cs : Array Value), Blk w ba 37 cs → ¬ S ba) (hv : ∀ bv (cs : Array Value), Blk w bv 2 cs → v.ownBlock ≠ some bv → ¬ S bv)
    (hr : ∀ k, v'.ownBlock = some k → v.ownBlock = some k ∨ w.heap.size ≤ k) : Does w' p v' a dv := by
  unfold Does at h ⊢
  split at h
  · rename_i h0
    rw [if_pos h0]
    split at h
    · rename_i h1
      rw [if_pos h1]
      obtain ⟨ba, bv, e, k1, k2, k3⟩ := h
      refine ⟨ba, bv, e, ho.blk k1 (hs _ _ k1), ho.blk k2 (hv _ _ k2 k3), fun e' => ?_⟩
      rcases hr _ e' with e'' | e''
      · exact k3 e''
      · have := k2.lt; omega
    · rename_i h1
      rw [if_neg h1]
      exact h
  · rename_i h0
    rw [if_neg h0]
    exact h
/-- what Step has left, whatever the act -/
structure AStep (w : World) (B m d z p : Nat) (n : Int) (v on : Value) (r : Res) (w' : World) (v' : Value) : Prop where
  dq : DqS w' B m d z n v' r.C on
  act : ActI w' p d v' r.a
  only : Only (fun x => mine m v x ∨ x = d ∨ x = p) w w'
  row : ∀ k, v'.ownBlock = some k → v.ownBlock = some k ∨ w.heap.size ≤ k
theorem pstep_told {d : Int} {C : List Int} {a : PAct} (h0 : a.told = 0) (g0 : a.got = 0) : (pstep d C a).what = (pstep d C a).a.told ∧ (pstep d C a).val = (pstep d C a).a.got ∧ (pstep d C a).a.kind = a.kind ∧ ((pstep d C a).a.told = 0 → (pstep d C a).a.got = 0) := by
  have hg : ∀ (b : PAct) (k : Nat) (C' : List Int), b.told = 0 → b.got = 0 → b.kind = a.kind → (goes b k C').what = (goes b k C').a.told ∧ (goes b k C').val = (goes b k C').a.got ∧ (goes b k C').a.kind = a.kind ∧ ((goes b k C').a.told = 0 → (goes b k C').a.got = 0) := by
    intro b k C' h1 h2 h3
    exact ⟨h1.symm, h2.symm, h3, fun _ => h2⟩
  have hv : ∀ (b : PAct) (k : Nat) (x : Int) (C' : List Int), b.kind = a.kind → k ≠ 0 → (over b k x C').what = (over b k x C').a.told ∧ (over b k x C').val = (over b k x C').a.got ∧ (over b k x C').a.kind = a.kind ∧ ((over b k x C').a.told = 0 → (over b k x C').a.got = 0) := by
    intro b k x C' h3 hk
    exact ⟨rfl, rfl, h3, fun h => absurd h hk⟩
  unfold pstep
  split
  · unfold pushS
    split <;> first | exact hg _ _ _ h0 g0 rfl | exact hv _ _ _ _ rfl (by decide)
  · unfold popS
    split <;> (try split) <;> first | exact hg _ _ _ h0 g0 rfl | exact hv _ _ _ _ rfl (by decide)
  · unfold stealS
    split <;> (try split) <;> first | exact hg _ _ _ h0 g0 rfl | exact hv _ _ _ _ rfl (by decide)
theorem pstep_i0 {d : Int} {C : List Int} {a : PAct} (h : a.kind = 1 → a.at_ ≤ 7 → a.i = 0) : (pstep d C a).a.kind = 1 → (pstep d C a).a.at_ ≤ 7 → (pstep d C a).a.i = 0 := by
  obtain ⟨kind, av, at', b, t, aw, an, nw, i, rd, told, got⟩ := a
  simp only at h
  unfold pstep
  split
  · rename_i hk
    intro hk1
    exfalso
    simp only at hk
    subst hk
    revert hk1
    unfold pushS
    split <;> simp [goes, over]
  · rename_i hk
    simp only at hk
    subst hk
    unfold popS
    split <;> (try split) <;> simp_all [goes, over]
  · rename_i hk0 hk1
    intro hk
    exfalso
    simp only at hk1
    revert hk
    unfold stealS
    split <;> (try split) <;> simp [goes, over] <;> exact fun e => hk1 e
theorem left_step {w w1 w' : World} {B m d z p : Nat} {n : Int} {v on : Value} {C : List Int} {a : PAct} {c : AC} (h0 : a.told = 0) (g0 : a.got = 0) (hi : a.kind = 1 → a.at_ ≤ 7 → a.i = 0) (hk : a.kind ≤ 2) (h : Left w B m d z p n v on (pstep z C a) w1 c) (ho : Only (fun _ => False) w1 w') :
    (.tuple #[.int .u8 c.wh, .int .i64 c.x, .int .i64 0] : Value) = .tuple #[.int .u8 ((pstep z C a).what : Int), .int .i64 (pstep z C a).val, .int .i64 0] ∧ ∃ v', AStep w B m d z p n v on (pstep z C a) w' v' := by
  obtain ⟨v', k1, dv, rfl, k2⟩ := h
  obtain ⟨e1, e2, e3, e4⟩ := pstep_told (d := z) (C := C) h0 g0
  have hi' := pstep_i0 (d := z) (C := C) hi
  generalize pstep z C a = r at *
  have q := k1.quiet ho
  refine ⟨by simp only [toAC]; rw [e1, e2], v', q.dq, ⟨⟨dv, q.act, k2.keep ho (fun _ _ _ e => e) (fun _ _ _ _ e => e) (fun _ e => .inl e)⟩, hi', e4, by rw [e3]; exact hk⟩, q.only, q.row⟩
def Valid (a : PAct) : Prop :=
  a.kind = 0 ∧ (a.at_ = 0 ∨ a.at_ = 1 ∨ a.at_ = 2 ∨ a.at_ = 3 ∨ a.at_ = 10 ∨ a.at_ = 11 ∨ a.at_ = 12 ∨ a.at_ = 13 ∨ a.at_ = 20 ∨ a.at_ = 21) ∨
  a.kind = 1 ∧ (a.at_ = 0 ∨ a.at_ = 1 ∨ a.at_ = 2 ∨ a.at_ = 3 ∨ a.at_ = 4 ∨ a.at_ = 5 ∨ a.at_ = 6 ∨ a.at_ = 7 ∨ a.at_ = 8) ∨
  a.kind = 2 ∧ (a.at_ = 0 ∨ a.at_ = 1 ∨ a.at_ = 2 ∨ a.at_ = 3 ∨ a.at_ = 4 ∨ a.at_ = 5)
theorem l0_12 (B m d z p : Nat) (n : Int) (v on : Value) (C : List Int) (a : PAct) (dv : Value) (w : World) (h : DqS w B m d z n v C on) (hp : Blk w p 79 ((toAC a dv).arr d)) (hn : n + 3 ≤ 4611686018427387904) (hS : Safe z C a) (h0 : a.told = 0) (hi : a.kind = 1 → a.at_ ≤ 7 → a.i = 0) (hk : a.kind = 0) (ha : a.at_ = 12) (ba bv : Nat) (hba : Blk w ba 37 #[.pointer (some ⟨p, 0, none⟩)]) (hbv : Blk w bv 2 #[.int .i64 a.read]) (hvv : v.ownBlock ≠ some bv) :
    Calls Try.prog 73 #[.pointer (some ⟨ba, 0, none⟩), .pointer (some ⟨bv, 0, none⟩)] w fun e w' => e = .returned (.int .i64 0) ∧ ∃ c', Blk w' p 79 (c'.arr d) ∧ Left w B m d z p (n + cnt a) v on (pstep z C a) w' c' := by
  obtain ⟨kind, av, at', b, t, aw, an, nw, i, rd, told, got⟩ := a
  simp only at hk ha h0
  subst hk ha h0
  obtain ⟨⟨s1, s2, s3⟩, s4⟩ := hS
  simp only [pok, bd] at s3 s4
  refine (growStore_any ba bv rd B m d z p n v on C _ w h hp (by omega) hba hbv hvv s4.1 (by simp only [toAC]; omega) (by simp only [toAC]; omega) (by simp only [toAC]; omega) (by simp only [toAC]; omega) (by simp only [toAC, if_true]; omega) (by simp only [toAC]; omega) hn).mono ?_
  rintro e w' ⟨rfl, k1⟩
  refine ⟨rfl, _, k1.act, ?_⟩
  have hpb := place_bd (w := nw) (n := 2 * an) (i := i) (by omega)
  have hN : cellN C (place nw (2 * an) i) = 1 := cellN_in (by omega) (by omega)
  replace k1 := k1.steps (n' := n + 1) (congrArg (fun x => n + x) hN)
  refine ⟨v, k1, _, rfl, ?_⟩
  by_cases hq : i + 1 = b <;> simp [Does, pstep, pushS, goes, hq, nextF, toAC]
set_option maxRecDepth 100000 in
theorem astep_any (B m d z p : Nat) (n : Int) (v on : Value) (C : List Int) (a : PAct) (w : World) (h : DqS w B m d z n v C on) (ha : ActI w p d v a) (hn : n + 3 ≤ 4611686018427387904) (hS : Safe z C a) (h0 : a.told = 0) (hV : Valid a) :
    Calls Try.prog 13 #[.pointer (some ⟨p, 0, none⟩)] w fun e w' => e = .returned (.tuple #[.int .u8 ((pstep z C a).what : Int), .int .i64 (pstep z C a).val, .int .i64 0]) ∧ ∃ v', AStep w B m d z p (n + cnt a) v on (pstep z C a) w' v' := by
  obtain ⟨⟨dv, hp, hd⟩, hi, hg, hk2⟩ := ha
  have fin : ∀ (e : Ending) (w' : World), (∃ c' w1, e = .returned (.tuple #[.int .u8 c'.wh, .int .i64 c'.x, .int .i64 0]) ∧ Left w B m d z p (n + cnt a) v on (pstep z C a) w1 c' ∧ Only (fun _ => False) w1 w') → e = .returned (.tuple #[.int .u8 ((pstep z C a).what : Int), .int .i64 (pstep z C a).val, .int .i64 0]) ∧ ∃ v', AStep w B m d z p (n + cnt a) v on (pstep z C a) w' v' := by
    rintro e w' ⟨c', w1, rfl, k1, k2⟩
    obtain ⟨k3, k4⟩ := left_step h0 (hg h0) hi hk2 k1 k2
    exact ⟨by rw [k3], k4⟩
  have via : ∀ (fid : Nat), (∀ w, (callFunc fid #[.pointer (some ⟨p, 0, none⟩)]).run Try.prog w = .ok (.enter fid #[.pointer (some ⟨p, 0, none⟩)]) w) → dv = meth fid p →
      (Calls Try.prog fid #[.pointer (some ⟨p, 0, none⟩)] w fun e w' => e = .returned (.int .i64 0) ∧ ∃ c', Blk w' p 79 (c'.arr d) ∧ Left w B m d z p (n + cnt a) v on (pstep z C a) w' c') →
      Calls Try.prog 13 #[.pointer (some ⟨p, 0, none⟩)] w fun e w' => e = .returned (.tuple #[.int .u8 ((pstep z C a).what : Int), .int .i64 (pstep z C a).val, .int .i64 0]) ∧ ∃ v', AStep w B m d z p (n + cnt a) v on (pstep z C a) w' v' := by
    intro fid hcf hdv hl
    refine (step_via p d fid #[.pointer (some ⟨p, 0, none⟩)] #[] _ w _ hp hdv hcf hl).mono ?_
    exact fun e w' k => fin e w' k
  unfold Does at hd
  rw [if_pos h0] at hd
  rcases hV with ⟨hk, ha⟩ | ⟨hk, ha⟩ | ⟨hk, ha⟩
  · rcases ha with ha | ha | ha | ha | ha | ha | ha | ha | ha | ha
    · rw [if_neg (by omega), hk, ha] at hd
      exact via 28 (fun _ => by kernel_rfl) hd (l0_0 B m d z p n v on C a dv w h hp hn hS h0 hi hk ha)
    · rw [if_neg (by omega), hk, ha] at hd
      exact via 37 (fun _ => by kernel_rfl) hd (l0_1 B m d z p n v on C a dv w h hp hn hS h0 hi hk ha)
    · rw [if_neg (by omega), hk, ha] at hd
      exact via 47 (fun _ => by kernel_rfl) hd (l0_2 B m d z p n v on C a dv w h hp hn hS h0 hi hk ha)
    · rw [if_neg (by omega), hk, ha] at hd
      exact via 54 (fun _ => by kernel_rfl) hd (l0_3 B m d z p n v on C a dv w h hp hn hS h0 hi hk ha)
    · rw [if_neg (by omega), hk, ha] at hd
      exact via 58 (fun _ => by kernel_rfl) hd (l0_10 B m d z p n v on C a dv w h hp hn hS h0 hi hk ha)
    · rw [if_neg (by omega), hk, ha] at hd
      exact via 70 (fun _ => by kernel_rfl) hd (l0_11 B m d z p n v on C a dv w h hp hn hS h0 hi hk ha)
    · rw [if_pos ⟨hk, ha⟩] at hd
      obtain ⟨ba, bv, hdv, j1, j2, j3⟩ := hd
      refine (step_via p d 73 #[] #[.pointer (some ⟨ba, 0, none⟩), .pointer (some ⟨bv, 0, none⟩)] _ w _ hp hdv (fun _ => by kernel_rfl) (l0_12 B m d z p n v on C a dv w h hp hn hS h0 hi hk ha ba bv j1 j2 j3)).mono ?_
      exact fun e w' k => fin e w' k
    · rw [if_neg (by omega), hk, ha] at hd
      exact via 69 (fun _ => by kernel_rfl) hd (l0_13 B m d z p n v on C a dv w h hp hn hS h0 hi hk ha)
    · rw [if_neg (by omega), hk, ha] at hd
      exact via 59 (fun _ => by kernel_rfl) hd (l0_20 B m d z p n v on C a dv w h hp hn hS h0 hi hk ha)
    · rw [if_neg (by omega), hk, ha] at hd
      exact via 66 (fun _ => by kernel_rfl) hd (l0_21 B m d z p n v on C a dv w h hp hn hS h0 hi hk ha)
  · rcases ha with ha | ha | ha | ha | ha | ha | ha | ha | ha
    · rw [if_neg (by omega), hk, ha] at hd
      exact via 29 (fun _ => by kernel_rfl) hd (l1_0 B m d z p n v on C a dv w h hp hn hS h0 hi hk ha)
    · rw [if_neg (by omega), hk, ha] at hd
      exact via 38 (fun _ => by kernel_rfl) hd (l1_1 B m d z p n v on C a dv w h hp hn hS h0 hi hk ha)
    · rw [if_neg (by omega), hk, ha] at hd
      exact via 48 (fun _ => by kernel_rfl) hd (l1_2 B m d z p n v on C a dv w h hp hn hS h0 hi hk ha)
    · rw [if_neg (by omega), hk, ha] at hd
      exact via 56 (fun _ => by kernel_rfl) hd (l1_3 B m d z p n v on C a dv w h hp hn hS h0 hi hk ha)
    · rw [if_neg (by omega), hk, ha] at hd
      exact via 61 (fun _ => by kernel_rfl) hd (l1_4 B m d z p n v on C a dv w h hp hn hS h0 hi hk ha)
    · rw [if_neg (by omega), hk, ha] at hd
      exact via 62 (fun _ => by kernel_rfl) hd (l1_5 B m d z p n v on C a dv w h hp hn hS h0 hi hk ha)
    · rw [if_neg (by omega), hk, ha] at hd
      exact via 67 (fun _ => by kernel_rfl) hd (l1_6 B m d z p n v on C a dv w h hp hn hS h0 hi hk ha)
    · rw [if_neg (by omega), hk, ha] at hd
      exact via 71 (fun _ => by kernel_rfl) hd (l1_7 B m d z p n v on C a dv w h hp hn hS h0 hi hk ha)
    · rw [if_neg (by omega), hk, ha] at hd
      exact via 61 (fun _ => by kernel_rfl) hd (l1_8 B m d z p n v on C a dv w h hp hn hS h0 hi hk ha)
  · rcases ha with ha | ha | ha | ha | ha | ha
    · rw [if_neg (by omega), hk, ha] at hd
      exact via 30 (fun _ => by kernel_rfl) hd (l2_0 B m d z p n v on C a dv w h hp hn hS h0 hi hk ha)
    · rw [if_neg (by omega), hk, ha] at hd
      exact via 39 (fun _ => by kernel_rfl) hd (l2_1 B m d z p n v on C a dv w h hp hn hS h0 hi hk ha)
    · rw [if_neg (by omega), hk, ha] at hd
      exact via 50 (fun _ => by kernel_rfl) hd (l2_2 B m d z p n v on C a dv w h hp hn hS h0 hi hk ha)
    · rw [if_neg (by omega), hk, ha] at hd
      exact via 57 (fun _ => by kernel_rfl) hd (l2_3 B m d z p n v on C a dv w h hp hn hS h0 hi hk ha)
    · rw [if_neg (by omega), hk, ha] at hd
      exact via 63 (fun _ => by kernel_rfl) hd (l2_4 B m d z p n v on C a dv w h hp hn hS h0 hi hk ha)
    · rw [if_neg (by omega), hk, ha] at hd
      exact via 68 (fun _ => by kernel_rfl) hd (l2_5 B m d z p n v on C a dv w h hp hn hS h0 hi hk ha)
end Go.Proofs.Ytmghlhngdopifaa
