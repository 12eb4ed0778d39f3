/- Several texts in one: DkT. -/
import Derived.Test.YthggliknnmhbdaaGreatMWAB
import Derived.Test.YthggliknnmhbdaaGreatMWAI
import Derived.Laws.OwnMore
/- A disk with its fuse in one word, and what its calls do with it. -/
namespace Go.Proofs.YthggliknnmhbdaaGreat
set_option maxRecDepth 100000
open Go.RowKit Go.WideShapes Go.ChangeShapes Go.ChangeAt
set_option linter.unusedVariables false
/-- what a disk holds for good, what is loose, how many calls its fuse allows -/
structure Dst where
  g : List (List UInt8)
  l : List (Nat × List UInt8)
  fu : Option Nat
/-- has the fuse burnt down? -/
def Dst.still (S : Dst) : Bool := S.fu == some 0
/-- a write's answer, and what is there then -/
def wrS (n : Nat) (S : Dst) (k : Int) (s : List UInt8) : Int × Dst :=
  if wErr n k s.length = 0 then (if S.still then (51, S) else (0, ⟨S.g, S.l ++ [(k.toNat, pad 0 s)], S.fu.map (· - 1)⟩)) else (wErr n k s.length, S)
def syS (S : Dst) : Int × Dst := if S.still then (51, S) else (0, ⟨syncW S.l S.g, [], S.fu.map (· - 1)⟩)
/-- what is read now -/
def Dst.cur (S : Dst) : List (List UInt8) := syncW S.l S.g
/-- a disk of n sectors at p; m: how many calls it has had at most -/
def DkS (w : World) (p gs n : Nat) (S : Dst) (B m : Nat) : Prop :=
  (1 ≤ n ∧ n ≤ 4096 ∧ m ≤ 1000000 ∧ S.l.length ≤ m) ∧ ∃ A c fb left, DiskAt w p gs n S.g S.l A c fb left B ∧ -(m : Int) ≤ left ∧ left ≤ 9223372036854775807 ∧ (S.fu = none → fb = false) ∧ (∀ k : Nat, S.fu = some k → fb = true ∧ left = (k : Int))
def zeroG (n : Nat) : List (List UInt8) := List.replicate n (List.replicate 128 0)
theorem zeroG_ok (n : Nat) : SecOk n [] (zeroG n) := ⟨by simp [zeroG], fun s hs => by rw [(List.mem_replicate.1 hs).2]; simp, by simp⟩
theorem zeroG_flat (n : Nat) : (zeroG n).flatten = List.replicate (n * 128) 0 := by
  unfold zeroG
  induction n with
  | zero => simp
  | succ n ih => rw [List.replicate_succ, List.flatten_cons, ih, Nat.succ_mul, Nat.add_comm, ← List.replicate_append_replicate]
theorem zeroG_made (n : Nat) : madeCells zeroB.cells (n * 128) = (secL (zeroG n)).toArray := by
  unfold secL
  rw [zeroG_flat, List.map_replicate]
  apply Array.toList_inj.1
  apply List.ext_getElem?
  intro j
  have hz : zeroB.cells = Array.replicate 128 (.int .u8 0) := rfl
  by_cases hj : j < n * 128
  · have h1 : j % 128 < 128 := Nat.mod_lt _ (by decide)
    simp [madeCells, hj, hz, byteV, h1]
  · simp [madeCells, hj]
theorem DkS.ok {w : World} {p gs n : Nat} {S : Dst} {B m : Nat} (h : DkS w p gs n S B m) : SecOk n S.l S.g := by
  obtain ⟨_, A, c, fb, left, D, _⟩ := h
  exact D.ok
theorem DkS.only {w w' : World} {p gs n : Nat} {S : Dst} {B m : Nat} (h : DkS w p gs n S B m) (o : Only (fun _ => False) w w') : DkS w' p gs n S B m := by
  obtain ⟨hb, A, c, fb, left, D, hl⟩ := h
  exact ⟨hb, A, c, fb, left, ⟨o.blk D.blk (fun h => h), o.blk D.sec (fun h => h), o.owns D.own (fun _ _ h => h), D.lo, D.ok⟩, hl⟩
theorem DkS.size {w : World} {p gs n : Nat} {S : Dst} {B m : Nat} (h : DkS w p gs n S B m) : B < w.heap.size := by
  obtain ⟨hb, A, c, fb, left, D, hl⟩ := h
  have := D.blk.lt
  have := D.lo
  omega
/-- what turns only a block of another type leaves it -/
theorem DkS.away {w w' : World} {p gs n : Nat} {S : Dst} {B m : Nat} {x : Nat} {t : TypeId} {cs : Array Value} (h : DkS w p gs n S B m) (hx : Blk w x t cs) (o : Only (fun b => b = x) w w') (ht : ¬ DT t) : DkS w' p gs n S B m := by
  obtain ⟨hb, A, c, fb, left, D, hl⟩ := h
  have t1 : 62 ≠ t := fun e => ht (.inl e.symm)
  have t2 : 65 ≠ t := fun e => ht (.inr (.inl e.symm))
  have t3 : 67 ≠ t := fun e => ht (.inr (.inr e.symm))
  exact ⟨hb, A, c, fb, left, ⟨o.blk D.blk (Blk.ne_ D.blk hx t1), o.blk D.sec (Blk.ne_ D.sec hx t2), o.owns D.own (fun k hk e => own_blk_ne D.own hx t3 (hk.trans (congrArg some e))), D.lo, D.ok⟩, hl⟩
/-- an append to a row of another type leaves it -/
theorem DkS.grown {w w' : World} {p gs n : Nat} {S : Dst} {B m : Nat} {base size k : Nat} {e : TypeId} {v : Value} {xs : List Value} (h : DkS w p gs n S B m) (ho : w.ownsRow base e size v k xs) (hg : w.grownBy w' v.ownBlock) (ht : ¬ DT e) : DkS w' p gs n S B m := by
  rcases ho.2 with ⟨rfl, _⟩ | ⟨g, cap, cur, rfl, hbb, hh, _⟩
  · exact h.only ((Only.refl (fun _ => False) w).grown hg (fun k hk => by simp [Value.ownBlock] at hk))
  · exact h.away (x := g) (t := e) (cs := cur) hh ((Only.refl (fun b => b = g) w).grown hg (fun k hk => .inl (by simpa [Value.ownBlock] using hk.symm))) ht
theorem DkS.more {w : World} {p gs n : Nat} {S : Dst} {B m m' : Nat} (h : DkS w p gs n S B m) (h1 : m ≤ m') (h2 : m' ≤ 1000000) : DkS w p gs n S B m' := by
  obtain ⟨⟨a1, a2, a3, a4⟩, A, c, fb, left, D, l1, l2, l3⟩ := h
  exact ⟨⟨a1, a2, h2, by omega⟩, A, c, fb, left, D, by omega, l2, l3⟩
theorem dk_new (n : Nat) (w : World) (h0 : 1 ≤ n) (h1 : n ≤ 4096) :
    Calls Tryz.prog 13 #[.int .i64 n] w fun e w' => e = .returned (.tuple #[.pointer (some ⟨w.heap.size + 1, 0, none⟩), .int .i64 0]) ∧ DkS w' (w.heap.size + 1) w.heap.size n ⟨zeroG n, [], none⟩ w.heap.size 0 ∧ Only (fun _ => False) w w' := by
  refine (dnew_any n w h0 h1).mono ?_
  rintro e w' ⟨rfl, rfl⟩
  refine ⟨rfl, ⟨⟨h0, h1, by omega, by simp⟩, none, 0, false, 0, ⟨?_, ?_, World.ownsRow_nil _ _ _ _, by omega, zeroG_ok n⟩, by omega, by omega, fun _ => rfl, fun k hk => by cases hk⟩, ((Only.refl _ w).alloc _).alloc _⟩
  · have := Blk.new (w.alloc (.cells (madeCells zeroB.cells (n * 128)) 65)) 62 #[.slice (some ⟨w.heap.size, 0, none⟩) n n, .slice none 0 0, .bool false, .int .i64 0]
    simpa using this
  · have := (Blk.new w 65 (madeCells zeroB.cells (n * 128))).alloc (.cells #[.slice (some ⟨w.heap.size, 0, none⟩) n n, .slice none 0 0, .bool false, .int .i64 0] 62)
    rwa [zeroG_made] at this ⊢
/-- what is written while the fuse is burnt down -/
theorem write_still (p : Nat) (A' : Addr) (n c : Nat) (v : Value) (k : Int) (s : ByteArray) (w : World) (h : Blk w p 62 #[.slice (some A') n c, v, .bool true, .int .i64 0]) :
    Calls Tryz.prog 51 #[.pointer (some ⟨p, 0, none⟩), .int .i64 k, .string s] w fun e w' => e = .returned (.int .i64 (if wErr n k s.size = 0 then 51 else wErr n k s.size)) ∧ w = w' := by
  have hcl : w.cell? ⟨p, 0, none⟩ = some (.slice (some A') n c) := h.cell 0
  have HD := Lib.hid h
  clear h
  by_cases h1 : k < 0
  · have hE : (if wErr n k s.size = 0 then 51 else wErr n k s.size) = 50 := by
      have e0 : wErr n k s.size = 50 := by unfold wErr; rw [if_neg (by omega)]
      rw [e0]; rfl
    rw [hE]
    clear hE
    go_enter Tryz.func51, Tryz.ntmps51
    go_wp2_with fail
    refine (none_any _ _ _ _ _ _ _ _ HD.out).mono ?_
    rintro e w1 ⟨rfl, rfl⟩
    go_wp2
    go_ret
    exact ⟨rfl, rfl⟩
  by_cases h2 : k ≥ (n : Int)
  · have hE : (if wErr n k s.size = 0 then 51 else wErr n k s.size) = 50 := by
      have e0 : wErr n k s.size = 50 := by unfold wErr; rw [if_neg (by omega)]
      rw [e0]; rfl
    rw [hE]
    clear hE
    go_enter Tryz.func51, Tryz.ntmps51
    go_wp2_with fail
    refine (none_any _ _ _ _ _ _ _ _ HD.out).mono ?_
    rintro e w1 ⟨rfl, rfl⟩
    go_wp2
    go_ret
    exact ⟨rfl, rfl⟩
  by_cases h3 : (128 : Int) < (s.size : Int)
  · have hE : (if wErr n k s.size = 0 then 51 else wErr n k s.size) = 4 := by
      have e0 : wErr n k s.size = 4 := by unfold wErr; rw [if_pos (by omega), if_neg (by omega)]
      rw [e0]; rfl
    rw [hE]
    clear hE
    go_enter Tryz.func51, Tryz.ntmps51
    go_wp2_with fail
    refine (none_any _ _ _ _ _ _ _ _ HD.out).mono ?_
    rintro e w1 ⟨rfl, rfl⟩
    go_wp2
    go_ret
    exact ⟨rfl, rfl⟩
  · have hE : (if wErr n k s.size = 0 then 51 else wErr n k s.size) = 51 := by
      have e0 : wErr n k s.size = 0 := by unfold wErr; rw [if_pos (by omega), if_pos (by omega)]
      rw [e0]; rfl
    rw [hE]
    clear hE
    go_enter Tryz.func51, Tryz.ntmps51
    go_wp2_with fail
    refine (none_any _ _ _ _ _ _ _ _ HD.out).mono ?_
    rintro e w1 ⟨rfl, rfl⟩
    go_wp2_with fail
    refine (burn_no _ _ _ _ HD.out).mono ?_
    rintro e w1 ⟨rfl, rfl⟩
    go_wp2
    go_ret
    exact ⟨rfl, rfl⟩
theorem sync_still (p : Nat) (A' : Addr) (n c : Nat) (v : Value) (w : World) (h : Blk w p 62 #[.slice (some A') n c, v, .bool true, .int .i64 0]) :
    Calls Tryz.prog 54 #[.pointer (some ⟨p, 0, none⟩)] w fun e w' => e = .returned (.int .i64 51) ∧ w = w' := by
  have HD := Lib.hid h
  clear h
  go_enter Tryz.func54, Tryz.ntmps54
  go_wp2_with fail
  refine (none_any _ _ _ _ _ _ _ _ HD.out).mono ?_
  rintro e w1 ⟨rfl, rfl⟩
  go_wp2_with fail
  refine (burn_no _ _ _ _ HD.out).mono ?_
  rintro e w1 ⟨rfl, rfl⟩
  go_wp2
  go_ret
  exact ⟨rfl, rfl⟩
/-- not burnt down, in both words -/
theorem still_off {S : Dst} {fb : Bool} {left : Int} (h : S.still = false) (h1 : S.fu = none → fb = false) (h2 : ∀ k : Nat, S.fu = some k → fb = true ∧ left = (k : Int)) : (fb && decide (left = 0)) = false := by
  cases hf : S.fu with
  | none => rw [h1 hf]; rfl
  | some k =>
    obtain ⟨e1, e2⟩ := h2 k hf
    have hk : k ≠ 0 := fun e => by
      subst e
      simp [Dst.still, hf] at h
    rw [e1, e2]
    simp
    omega
theorem still_on {S : Dst} {fb : Bool} {left : Int} (h : S.still = true) (h2 : ∀ k : Nat, S.fu = some k → fb = true ∧ left = (k : Int)) : fb = true ∧ left = 0 := by
  have hf : S.fu = some 0 := by simpa [Dst.still] using h
  exact h2 0 hf
theorem burnt {S : Dst} {fb : Bool} {left : Int} (h : S.still = false) (h1 : S.fu = none → fb = false) (h2 : ∀ k : Nat, S.fu = some k → fb = true ∧ left = (k : Int)) : (S.fu.map (· - 1) = none → fb = false) ∧ (∀ k : Nat, S.fu.map (· - 1) = some k → fb = true ∧ left - 1 = (k : Int)) := by
  cases hf : S.fu with
  | none => exact ⟨fun _ => h1 hf, fun k hk => by cases hk⟩
  | some k =>
    obtain ⟨e1, e2⟩ := h2 k hf
    have hk : k ≠ 0 := fun e => by
      subst e
      simp [Dst.still, hf] at h
    refine ⟨(fun h => by cases h), fun j hj => ⟨e1, ?_⟩⟩
    simp at hj
    omega
theorem dk_write (p gs n : Nat) (S : Dst) (B m : Nat) (k : Int) (s : ByteArray) (w : World) (D : DkS w p gs n S B m) (hm : m < 1000000) (hs : s.size ≤ 9223372036854775807) :
    Calls Tryz.prog 51 #[.pointer (some ⟨p, 0, none⟩), .int .i64 k, .string s] w fun e w' => e = .returned (.int .i64 (wrS n S k s.data.toList).1) ∧ DkS w' p gs n (wrS n S k s.data.toList).2 B (m + 1) ∧ Only (fun b => B ≤ b) w w' ∧ Far w w' := by
  have D0 := D
  obtain ⟨⟨h1, h2, h3, h4⟩, A, c, fb, left, D, hl, hr, f1, f2⟩ := D
  have hlen : s.data.toList.length = s.size := by simp
  unfold wrS
  rw [hlen]
  by_cases hst : S.still = true
  · obtain ⟨rfl, rfl⟩ := still_on hst f2
    refine (write_still p _ n n _ k s w D.blk).mono ?_
    rintro e w' ⟨rfl, rfl⟩
    simp only [hst, if_true]
    by_cases hE : wErr n k s.size = 0
    · simp only [hE, if_true]
      exact ⟨trivial, D0.more (by omega) (by omega), Only.refl _ _, Far.refl _⟩
    · simp only [hE, if_false]
      exact ⟨trivial, D0.more (by omega) (by omega), Only.refl _ _, Far.refl _⟩
  · have hst' : S.still = false := by simpa using hst
    refine (write_any p gs n S.g S.l A c fb left B k s w D h2 (by omega) (still_off hst' f1 f2) hr (by omega) hs).mono ?_
    rintro e w' ⟨he, ⟨A', c', D'⟩, o, o2⟩
    by_cases hE : wErr n k s.size = 0
    · have hk : (0 ≤ k ∧ k < (n : Int)) ∧ s.size ≤ 128 := by
        unfold wErr at hE
        split at hE
        · split at hE
          · exact ⟨by assumption, by assumption⟩
          · omega
        · omega
      simp only [hE, if_true, hst'] at D' he ⊢
      obtain ⟨b1, b2⟩ := burnt hst' f1 f2
      have hw : (wrote 0 n (k, s.data.toList)).toList = [(k.toNat, pad 0 s.data.toList)] := by
        unfold wrote
        rw [if_pos ⟨hk.1.1, hk.1.2, by rw [hlen]; exact hk.2⟩]
        simp
      rw [hw] at D'
      refine ⟨he, ⟨⟨h1, h2, by omega, by simp; omega⟩, A', c', fb, left - 1, D', by omega, by omega, b1, b2⟩, o, o2⟩
    · have hw : (wrote 0 n (k, s.data.toList)).toList = [] := by
        unfold wrote
        rw [if_neg (fun h => hE (by unfold wErr; rw [if_pos ⟨h.1, h.2.1⟩, if_pos (by rw [← hlen]; exact h.2.2)]))]
        rfl
      rw [hw, List.append_nil] at D'
      simp only [hE, if_false] at D' he ⊢
      exact ⟨he, ⟨⟨h1, h2, by omega, by omega⟩, A', c', fb, left, D', by omega, hr, f1, f2⟩, o, o2⟩
theorem dk_sync (p gs n : Nat) (S : Dst) (B m : Nat) (w : World) (D : DkS w p gs n S B m) (hm : m < 1000000) :
    Calls Tryz.prog 54 #[.pointer (some ⟨p, 0, none⟩)] w fun e w' => e = .returned (.int .i64 (syS S).1) ∧ DkS w' p gs n (syS S).2 B (m + 1) ∧ Only (fun b => B ≤ b) w w' ∧ Far w w' := by
  have D0 := D
  obtain ⟨⟨h1, h2, h3, h4⟩, A, c, fb, left, D, hl, hr, f1, f2⟩ := D
  unfold syS
  by_cases hst : S.still = true
  · obtain ⟨rfl, rfl⟩ := still_on hst f2
    refine (sync_still p _ n n _ w D.blk).mono ?_
    rintro e w' ⟨rfl, rfl⟩
    simp only [hst, if_true]
    exact ⟨trivial, D0.more (by omega) (by omega), Only.refl _ _, Far.refl _⟩
  · have hst' : S.still = false := by simpa using hst
    refine (sync_any p gs n S.g S.l A c fb left B w D h2 (by omega) (still_off hst' f1 f2) hr (by omega)).mono ?_
    rintro e w' ⟨he, D', o⟩
    have hlo := D.lo
    obtain ⟨b1, b2⟩ := burnt hst' f1 f2
    simp only [hst'] at he ⊢
    refine ⟨he, ⟨⟨h1, h2, by omega, by simp⟩, none, 0, fb, left - 1, D', by omega, by omega, b1, b2⟩, o.mono fun b hb => by rcases hb with rfl | rfl <;> omega, Far.of_only o (fun k t cs hk hb => ?_)⟩
    rcases hk with rfl | rfl
    · rw [blk_same hb D.blk]; exact .inl rfl
    · rw [blk_same hb D.sec]; exact .inr (.inl rfl)
theorem dk_len (p gs n : Nat) (S : Dst) (B m : Nat) (w : World) (D : DkS w p gs n S B m) :
    Calls Tryz.prog 31 #[.pointer (some ⟨p, 0, none⟩)] w fun e w' => e = .returned (.int .i64 n) ∧ w = w' := by
  obtain ⟨_, A, c, fb, left, D, h2⟩ := D
  exact len_any p _ n _ _ _ _ w D.blk
theorem own_form {w : World} {base size n : Nat} {e : TypeId} {v : Value} {xs : List Value} (h : w.ownsRow base e size v n xs) : ∃ A c, v = .slice A n c ∧ ∀ ad, A = some ad → base ≤ ad.block := by
  rcases h.2 with ⟨rfl, rfl⟩ | ⟨g, cap, cur, rfl, hb, _⟩
  · exact ⟨_, _, rfl, fun ad h => by cases h⟩
  · exact ⟨_, _, rfl, fun ad h => by cases h; exact hb⟩
theorem ord_guard {o : Oper} {y : Nat → Option Bool} {X Y : Prop} {j : Nat} {b : Bool} (hg : o.guard = some (j, b)) (hy : y j = some b) (h : X) : if Region.wanted o y = true then X else Y := by
  have hw : Region.wanted o y = true := by simp [Region.wanted, hg, hy]
  rw [if_pos hw]
  exact h
theorem own_cells {w : World} {base n : Nat} {e : TypeId} {v : Value} {xs : List Value} (h : w.ownsRow base e 1 v n xs) (h0 : 0 < n) : ∃ g cap, v = .slice (some ⟨g, 0, none⟩) n cap ∧ base ≤ g ∧ g < w.heap.size ∧ ∀ i u, xs[i]? = some u → w.cell? ⟨g, i, none⟩ = some u := by
  rcases h.2 with ⟨_, h1⟩ | ⟨g, cap, cur, rfl, hb, hk, _, _, _, ht⟩
  · omega
  · have hB : Blk w g e cur := hk
    refine ⟨g, cap, rfl, hb, hB.lt, fun i u hu => ?_⟩
    rw [hB.cell, ← hu, ← ht, Nat.mul_one]
    have hl : xs.length = n := by have := h.1; omega
    have hi : i < n := by have := (List.getElem?_eq_some_iff.1 hu).1; omega
    rw [List.getElem?_take_of_lt hi, Array.getElem?_toList]
end Go.Proofs.YthggliknnmhbdaaGreat
