/- Several texts in one: SecA, SecB, SecC, SecD, SecP, SecE. -/
import Derived.Test.YthggliknnmhbdaaGreatMWAA
import Derived.Test.YthggliknnmhbdaaGreatRows
import Derived.Lib.Hide
import Derived.Laws.CopyRow
/- The small methods of a disk of sectors, and what no disk answers. -/
namespace Go.Proofs.YthggliknnmhbdaaGreat
set_option maxRecDepth 100000
open Go.RowKit
theorem none_any (b : Nat) (A' : Addr) (n c : Nat) (v f l : Value) (w : World) (h : Blk w b 62 #[.slice (some A') n c, v, f, l]) :
    Calls Tryz.prog 35 #[.pointer (some ⟨b, 0, none⟩)] w fun e w' => e = .returned (.bool false) ∧ w = w' := by
  have c0 : w.cell? ⟨b, 0, none⟩ = some (.slice (some A') n c) := h.cell 0
  clear h
  go_enter Tryz.func35, Tryz.ntmps35
  go_wp2
  rw [show Sem.run Tryz.prog (Go.binOp .eql 59 (.slice (some A') n c) (.slice none 0 0)) w = .ok (.bool false) w from rfl]
  go_wp2
  go_ret
  exact ⟨rfl, rfl⟩
end Go.Proofs.YthggliknnmhbdaaGreat
/- The fuse of a disk of sectors; how long it is. -/
namespace Go.Proofs.YthggliknnmhbdaaGreat
set_option maxRecDepth 100000
open Go.RowKit
theorem still_any (b : Nat) (S L : Value) (f : Bool) (l : Int) (w : World) (h : Blk w b 62 #[S, L, .bool f, .int .i64 l]) :
    Calls Tryz.prog 76 #[.pointer (some ⟨b, 0, none⟩)] w fun e w' => e = .returned (.bool (f && decide (l = 0))) ∧ w = w' := by
  have c2 : w.cell? ⟨b, 2, none⟩ = some (.bool f) := h.cell 2
  have c3 : w.cell? ⟨b, 3, none⟩ = some (.int .i64 l) := h.cell 3
  clear h
  cases f
  · go_enter Tryz.func76, Tryz.ntmps76
    go_wp2
    go_ret
    exact ⟨rfl, rfl⟩
  · go_enter Tryz.func76, Tryz.ntmps76
    go_wp2
    go_ret
    exact ⟨by simp [show (l == 0) = decide (l = 0) from rfl], rfl⟩
/-- a call goes on: one less is left -/
theorem burn_yes (b : Nat) (S L : Value) (f : Bool) (l : Int) (w : World) (h : Blk w b 62 #[S, L, .bool f, .int .i64 l]) (hs : (f && decide (l = 0)) = false)
    (h0 : -4611686018427387904 ≤ l) (h1 : l ≤ 9223372036854775807) :
    Calls Tryz.prog 74 #[.pointer (some ⟨b, 0, none⟩)] w fun e w' => e = .returned (.bool true) ∧ w' = w.setCell ⟨b, 3, none⟩ (.int .i64 (l - 1)) := by
  have c3 : w.cell? ⟨b, 3, none⟩ = some (.int .i64 l) := h.cell 3
  have f3 : w.frozen? ⟨b, 3, none⟩ = false := h.frozen 3
  have HH := Lib.hid h
  clear h
  go_enter Tryz.func74, Tryz.ntmps74
  go_wp2_with (go_at_call 76; refine (still_any _ _ _ _ _ _ HH.out).mono ?_; rintro e w' ⟨rfl, rfl⟩)
  go_ret
  exact ⟨rfl, rfl⟩
theorem burn_no (b : Nat) (S L : Value) (w : World) (h : Blk w b 62 #[S, L, .bool true, .int .i64 0]) :
    Calls Tryz.prog 74 #[.pointer (some ⟨b, 0, none⟩)] w fun e w' => e = .returned (.bool false) ∧ w = w' := by
  have HH := Lib.hid h
  clear h
  go_enter Tryz.func74, Tryz.ntmps74
  go_wp2_with (go_at_call 76; refine (still_any _ _ _ _ _ _ HH.out).mono ?_; rintro e w' ⟨rfl, rfl⟩)
  go_ret
  exact ⟨rfl, rfl⟩
theorem len_any (b : Nat) (A : Addr) (n c : Nat) (v f l : Value) (w : World) (h : Blk w b 62 #[.slice (some A) n c, v, f, l]) :
    Calls Tryz.prog 31 #[.pointer (some ⟨b, 0, none⟩)] w fun e w' => e = .returned (.int .i64 n) ∧ w = w' := by
  have c0 : w.cell? ⟨b, 0, none⟩ = some (.slice (some A) n c) := h.cell 0
  have HH := Lib.hid h
  clear h
  go_enter Tryz.func31, Tryz.ntmps31
  go_wp2_with (go_at_call 35; refine (none_any _ _ _ _ _ _ _ _ HH.out).mono ?_; rintro e w' ⟨rfl, rfl⟩)
  go_ret
  exact ⟨rfl, rfl⟩
end Go.Proofs.YthggliknnmhbdaaGreat
/- A disk of sectors: the fuse is set; a disk is made. -/
namespace Go.Proofs.YthggliknnmhbdaaGreat
set_option maxRecDepth 100000
open Go.RowKit Go.WideShapes Go.ChangeShapes
/-- what an empty sector is -/
def zeroB : Value := .agg (Array.replicate 128 (.int .u8 0))
theorem infoSB : ∃ i, Tryz.prog.info? 65 = some i ∧ i.zero = some zeroB ∧ i.size = 128 ∧ i.bytes = 128 := by
  have h : (Tryz.prog.info? 65).map (fun i => (i.zero, i.size, i.bytes)) = some (some zeroB, 128, 128) := by kernel_rfl
  cases hp : Tryz.prog.info? 65 with
  | none => rw [hp] at h; cases h
  | some i =>
    rw [hp] at h
    simp only [Option.map_some, Option.some.injEq, Prod.mk.injEq] at h
    exact ⟨i, rfl, h.1, h.2.1, h.2.2⟩
theorem dnew_any (n : Nat) (w : World) (h0 : 1 ≤ n) (h1 : n ≤ 4096) :
    Calls Tryz.prog 13 #[.int .i64 n] w fun e w' => e = .returned (.tuple #[.pointer (some ⟨w.heap.size + 1, 0, none⟩), .int .i64 0]) ∧
      w' = (w.alloc (.cells (madeCells zeroB.cells (n * 128)) 65)).alloc (.cells #[.slice (some ⟨w.heap.size, 0, none⟩) n n, .slice none 0 0, .bool false, .int .i64 0] 62) := by
  obtain ⟨i, hi, hz, hs, hb⟩ := infoSB
  have hm := run_make_rowN 59 65 i zeroB (by kernel_rfl) hi hz .i64 .i64 n n (Nat.le_refl _) (by rw [hb]; omega) (by omega) w
  rw [hs] at hm
  generalize madeCells zeroB.cells (n * 128) = M at hm ⊢
  clear hi hz hs hb
  go_enter Tryz.func13, Tryz.ntmps13
  go_wp2
  go_ret2
  exact ⟨rfl, rfl⟩
end Go.Proofs.YthggliknnmhbdaaGreat
/- What a crash keeps of a loose write. -/
namespace Go.Proofs.YthggliknnmhbdaaGreat
set_option maxRecDepth 100000
open Go.RowKit Go.WideShapes Go.ChangeShapes
theorem keep_no (A : Option Addr) (m c : Nat) (cs : Array Value) (n : Int) (w : World) (hn : n ≤ 0) :
    Calls Tryz.prog 36 #[.slice A m c, .agg cs, .int .i64 n] w fun e w' => e = .returned (.tuple #[]) ∧ w' = w.alloc (.cells cs 67) := by
  have hm : min n 128 = n := by omega
  go_enter Tryz.func36, Tryz.ntmps36
  go_wp2
  go_end0
  exact ⟨rfl, rfl⟩
end Go.Proofs.YthggliknnmhbdaaGreat
/- Sectors, plain: what stays of loose writes. No program in sight. Bytes are of any type. -/
namespace Go.Proofs.YthggliknnmhbdaaGreat
set_option maxRecDepth 100000
variable {α : Type}
/-- of a write so many bytes are kept -/
def keepW (g : List (List α)) (w : Nat × List α) (n : Int) : List (List α) :=
  g.set w.1 (w.2.take (min n 128).toNat ++ (g.getD w.1 []).drop (min n 128).toNat)
def syncW (l : List (Nat × List α)) (g : List (List α)) : List (List α) := l.foldl (fun g w => keepW g w 128) g
/-- all sectors are of one length, all writes too, and go to a sector that is there -/
structure SecOk (k : Nat) (l : List (Nat × List α)) (g : List (List α)) : Prop where
  len : g.length = k
  all : ∀ s ∈ g, s.length = 128
  lo : ∀ w ∈ l, w.1 < k ∧ w.2.length = 128
theorem keepW_length (g : List (List α)) (w : Nat × List α) (n : Int) : (keepW g w n).length = g.length := by simp [keepW]
theorem getD_mem (g : List (List α)) (i : Nat) (h : i < g.length) : g.getD i [] ∈ g := by
  rw [List.getD_eq_getElem?_getD, List.getElem?_eq_getElem h]; exact List.getElem_mem h
theorem keepW_all {k : Nat} {l : List (Nat × List α)} {g : List (List α)} (h : SecOk k l g) {w : Nat × List α} (hw : w.1 < k ∧ w.2.length = 128) (n : Int) : SecOk k l (keepW g w n) := by
  refine ⟨by rw [keepW_length, h.len], fun s hs => ?_, h.lo⟩
  rcases List.mem_or_eq_of_mem_set hs with hs | rfl
  · exact h.all s hs
  · have := h.all _ (getD_mem g w.1 (by rw [h.len]; exact hw.1))
    simp only [List.length_append, List.length_take, List.length_drop, this, hw.2]
    omega
theorem SecOk.tail {k : Nat} {w : Nat × List α} {l : List (Nat × List α)} {g : List (List α)} (h : SecOk k (w :: l) g) : SecOk k l g :=
  ⟨h.len, h.all, fun x hx => h.lo x (List.mem_cons_of_mem _ hx)⟩
theorem syncW_ok {k : Nat} : ∀ {l : List (Nat × List α)} {g : List (List α)}, SecOk k l g → SecOk k [] (syncW l g)
  | [], _, h => ⟨h.len, h.all, by simp⟩
  | w :: l, g, h => by
    show SecOk k [] (syncW l (keepW g w 128))
    exact syncW_ok (keepW_all h.tail (h.lo w (by simp)) 128)
theorem keepW_none {k : Nat} {l : List (Nat × List α)} {g : List (List α)} (h : SecOk k l g) (w : Nat × List α) (n : Int) (hn : n ≤ 0) (hw : w.1 < k) : keepW g w n = g := by
  unfold keepW
  rw [show (min n 128).toNat = 0 by omega, List.take_zero, List.drop_zero, List.nil_append]
  have hl : w.1 < g.length := by rw [h.len]; exact hw
  apply List.ext_getElem?
  intro i
  rw [List.getElem?_set]
  split
  · next he =>
    subst he
    rw [List.getD_eq_getElem?_getD, List.getElem?_eq_getElem hl]; rfl
  · rfl
theorem flat_length : ∀ (g : List (List α)), (∀ s ∈ g, s.length = 128) → g.flatten.length = g.length * 128
  | [], _ => rfl
  | s :: g, h => by
    rw [List.flatten_cons, List.length_append, h s (by simp), flat_length g (fun t ht => h t (by simp [ht])), List.length_cons]
    omega
/-- a text, filled up to a sector -/
def pad (z : α) (t : List α) : List α := t ++ List.replicate (128 - t.length) z
theorem pad_length (z : α) (t : List α) (h : t.length ≤ 128) : (pad z t).length = 128 := by simp [pad]; omega
/-- what a write of that text at that place leaves, loose -/
def wrote (z : α) (k : Nat) (s : Int × List α) : Option (Nat × List α) :=
  if 0 ≤ s.1 ∧ s.1 < k ∧ s.2.length ≤ 128 then some (s.1.toNat, pad z s.2) else none
end Go.Proofs.YthggliknnmhbdaaGreat
/- What a crash keeps of a loose write, and what a sync does. -/
namespace Go.Proofs.YthggliknnmhbdaaGreat
set_option maxRecDepth 100000
open Go.RowKit Go.WideShapes Go.ChangeShapes
set_option linter.unusedVariables false
attribute [local simp] frOf dstsOf frGo predsHold allHold Region.binds slotOf seen Is Act.put
def byteV (c : UInt8) : Value := .int .u8 (c.toNat : Int)
def secL (g : List (List UInt8)) : List Value := g.flatten.map byteV
def wrL (w : Nat × List UInt8) : List Value := .int .i64 (w.1 : Int) :: w.2.map byteV
theorem setRow_other (w : World) (g k : Nat) (Y : Array Value) (h : k ≠ g) : (w.setRow g Y).heap[k]? = w.heap[k]? := by
  simp only [World.setRow, Array.getElem?_modify]
  rw [if_neg (fun e => h e.symm)]
theorem only_setRow (w : World) (g : Nat) (Y : Array Value) : Only (fun b => b = g) w (w.setRow g Y) := ⟨rfl, rfl, rfl, by simp [World.setRow], fun k _ h => setRow_other w g k Y h⟩
theorem Blk.setRow_ {w : World} {g : Nat} {t : TypeId} {X : Array Value} (h : Blk w g t X) (Y : Array Value) : Blk (w.setRow g Y) g t Y := setRow_heap w g X Y t (0, 0) h
theorem byteV_one (l : List UInt8) : ∀ v ∈ l.map byteV, v.oneCell' = true := by
  intro v hv
  obtain ⟨c, _, rfl⟩ := List.mem_map.1 hv
  rfl
theorem addr_plus (k o n : Nat) : (⟨k, o, none⟩ : Addr).add n = ⟨k, o + n, none⟩ := by unfold Addr.add; split <;> simp_all
theorem sizeU8 : (Tryz.prog.info? 5).map (·.size) = some 1 := by kernel_rfl
theorem keep_yesA (gs n k : Nat) (m : Nat) (txt : List UInt8) (X YL : List Value) (w : World) (hm : 1 ≤ m) (hm2 : m ≤ 128) (hYL : YL = X.take (k * 128) ++ (txt.take m).map byteV ++ X.drop (k * 128 + m)) (hk : k < n) (hn : n ≤ 4096) (ht : txt.length = 128)
    (hb : Blk w gs 65 X.toArray) (hX : X.length = n * 128) :
    Calls Tryz.prog 36 #[.slice (some ⟨gs, 0, none⟩) n n, .agg (wrL (k, txt)).toArray, .int .i64 m] w fun e w' => e = .returned (.tuple #[]) ∧
      Blk w' gs 65 YL.toArray ∧ Only (fun b => b = gs) w w' := by
  have hpos : (0 : Int) < (m : Int) := by omega
  have hm0 : (0 : Int) ≤ (m : Int) := by omega
  have hm1 : (m : Int) ≤ 128 := by omega
  have hk0 : (0 : Int) ≤ (k : Int) := by omega
  have hk1 : (k : Int) < (n : Int) := by omega
  have hgs := hb.lt
  obtain ⟨W, hW⟩ : ∃ W, W = (w.alloc (.cells (wrL (k, txt)).toArray 67)).drew := ⟨_, rfl⟩
  obtain ⟨Y, hY⟩ : ∃ Y : Array Value, Y = YL.toArray := ⟨_, rfl⟩
  have hbW : Blk W gs 65 X.toArray := by rw [hW]; exact (hb.alloc _).drew
  have hOW : Only (fun b => b = gs) w W := by rw [hW]; exact ((Only.refl _ w).alloc _).drew
  have hnew : Blk W w.heap.size 67 (wrL (k, txt)).toArray := by rw [hW]; exact (Blk.new w _ _).drew
  have hfit : k * 128 + m ≤ X.length := by rw [hX]; omega
  have hcopy : ∀ ty, (Builtin.copy_ #[93, 93] ty #[.slice (some ⟨gs, k * 128, none⟩) m 128, .slice (some ⟨w.heap.size, 1, none⟩) m 128]).run Tryz.prog W = .ok (.int .i64 m) (W.setRow gs Y) := by
    intro ty
    have hsrc : ∀ j v, ((txt.take m).map byteV)[j]? = some v → W.cell? ((⟨w.heap.size, 1, none⟩ : Addr).add j) = some v := by
      intro j v hv
      rw [addr_plus, hnew.cell]
      simp only [wrL, List.getElem?_toArray]
      rw [show 1 + j = j + 1 by omega, List.getElem?_cons_succ]
      rw [List.getElem?_map] at hv ⊢
      rw [List.getElem?_take] at hv
      split at hv
      · exact hv
      · cases hv
    have hlen : ((txt.take m).map byteV).length = Nat.min m m := by simp [ht] <;> omega
    have hgo : (goInt ((txt.take m).map byteV).length) = Value.int .i64 m := by rw [hlen]; simp [goInt]
    have := run_copy_row (P := Tryz.prog) W 93 93 ty 5 gs (k * 128) m 128 ⟨w.heap.size, 1, none⟩ m 128 X.toArray 65 ((txt.take m).map byteV) Tryz.underlying93 sizeU8 hbW hlen hsrc (by rw [hlen]; simpa using hfit) (byteV_one _)
    rw [this, hgo]
    congr 2
    rw [hY, hYL]
    simp [ht]
    rw [show min m 128 = m by omega]
  have hload : ∀ w1, w1 = W ∨ w1 = W.setRow gs Y → w1.cell? ⟨w.heap.size, 0, none⟩ = some (.int .i64 k) := by
    intro w1 hR
    have hc : Blk w1 w.heap.size 67 (wrL (k, txt)).toArray := by
      rcases hR with rfl | rfl
      · exact hnew
      · exact (setRow_other W gs _ Y (by omega)).trans hnew
    rw [hc.cell]
    rfl
  have hfin : Blk (W.setRow gs Y) gs 65 YL.toArray ∧ Only (fun b => b = gs) w (W.setRow gs Y) := by
    refine ⟨?_, hOW.trans (only_setRow W gs Y)⟩
    rw [← hY]
    exact hbW.setRow_ Y
  have HF := Lib.hid hfin
  have HW := Lib.hid hW
  clear hfin hbW hOW hnew hY hYL hb hX ht hfit hW
  go_enter Tryz.func36, Tryz.ntmps36
  go_wp2_with fail
  have hdp : decide (0 < m) = true := by simp; omega
  refine wp_region_st (by kernel_rfl) (fun ld x => if ld 9 = true then x = W.setRow gs Y else x = W) [Is (.slice (some ⟨gs, 0, none⟩) n n), Is (.pointer (some ⟨w.heap.size, 0, none⟩)), Is (.int .i64 k), Is (.pointer (some ⟨gs, k * 128, none⟩)), Is (.int .i64 m), Is (.slice (some ⟨gs, k * 128, none⟩) m 128), Is (.pointer (some ⟨w.heap.size, 1, none⟩)), Is (.int .i64 m), Is (.slice (some ⟨w.heap.size, 1, none⟩) m 128), fun _ _ => True] (by kernel_rfl)
    ⟨is_stab _ _, is_stab _ _, is_stab _ _, is_stab _ _, is_stab _ _, is_stab _ _, is_stab _ _, is_stab _ _, is_stab _ _, (fun _ _ _ _ _ => trivial), trivial⟩ (by simp; exact HW.out.symm) ⟨?_, ?_, ?_, ?_, ?_, ?_, ?_, ?_, ?_, ?_, trivial⟩ ?_
  · intro ld u w1 hi he hS hp K hK
    refine ord_plain rfl ?_
    simp at hp hK ⊢
    simp only [hdp] at hK
    go_simp
    exact hK _ _ (by simpa [ldW] using hS) rfl
  · intro ld u w1 hi he hS hp K hK
    refine ord_plain rfl ?_
    simp at hp hK ⊢
    simp only [hdp] at hK
    go_simp
    exact hK _ _ (by simpa [ldW] using hS) rfl
  · intro ld u w1 hi he hS hp K hK
    refine ord_plain rfl ?_
    simp at hp hK ⊢
    simp only [hdp] at hK
    simp only [hp] at hK
    have hc := hload w1 (by by_cases h9 : ld 9 = true <;> simp [h9] at hS <;> simp [hS])
    go_simp
    exact hK _ _ (by simpa [ldW] using hS) rfl
  · intro ld u w1 hi he hS hp K hK
    refine ord_plain rfl ?_
    simp at hp hK ⊢
    simp only [hdp] at hK
    obtain ⟨hp1, hp2⟩ := hp
    simp only [hp1, hp2] at hK
    go_simp
    exact hK _ _ (by simpa [ldW] using hS) rfl
  · intro ld u w1 hi he hS hp K hK
    refine ord_plain rfl ?_
    simp at hp hK ⊢
    simp only [hdp] at hK
    go_simp
    exact hK _ _ (by simpa [ldW] using hS) rfl
  · intro ld u w1 hi he hS hp K hK
    refine ord_plain rfl ?_
    simp at hp hK ⊢
    simp only [hdp] at hK
    obtain ⟨hp1, hp2⟩ := hp
    simp only [hp1, hp2] at hK
    go_simp
    exact hK _ _ (by simpa [ldW] using hS) rfl
  · intro ld u w1 hi he hS hp K hK
    refine ord_plain rfl ?_
    simp at hp hK ⊢
    simp only [hdp] at hK
    go_simp
    exact hK _ _ (by simpa [ldW] using hS) rfl
  · intro ld u w1 hi he hS hp K hK
    refine ord_plain rfl ?_
    simp at hp hK ⊢
    simp only [hdp] at hK
    go_simp
    exact hK _ _ (by simpa [ldW] using hS) rfl
  · intro ld u w1 hi he hS hp K hK
    refine ord_plain rfl ?_
    simp at hp hK ⊢
    simp only [hdp] at hK
    obtain ⟨hp1, hp2⟩ := hp
    simp only [hp1, hp2] at hK
    go_simp
    exact hK _ _ (by simpa [ldW] using hS) rfl
  · intro ld u w1 hi he hS hp K hK
    refine ord_plain rfl ?_
    simp at hp hK ⊢
    simp only [hdp] at hK
    obtain ⟨hp1, hp2⟩ := hp
    simp only [hp1, hp2] at hK
    simp [hi] at hS
    subst hS
    go_simp
    refine hK _ _ ?_
    simp [ldW]
  · intro u w1 ld hld hS hp
    simp at hp ⊢
    have h9 := hld 9 (by decide)
    simp [h9] at hS
    subst hS
    go_wp2
    go_end0
    exact ⟨rfl, HF.out⟩
theorem keep_yesB (gs n k : Nat) (txt : List UInt8) (X YL : List Value) (N : Int) (w : World) (hN : 128 < N) (hYL : YL = X.take (k * 128) ++ (txt.take 128).map byteV ++ X.drop (k * 128 + 128)) (hk : k < n) (hn : n ≤ 4096) (ht : txt.length = 128)
    (hb : Blk w gs 65 X.toArray) (hX : X.length = n * 128) :
    Calls Tryz.prog 36 #[.slice (some ⟨gs, 0, none⟩) n n, .agg (wrL (k, txt)).toArray, .int .i64 N] w fun e w' => e = .returned (.tuple #[]) ∧
      Blk w' gs 65 YL.toArray ∧ Only (fun b => b = gs) w w' := by
  have hpos : (0 : Int) < (128 : Int) := by omega
  have hm0 : (0 : Int) ≤ (128 : Int) := by omega
  have hm1 : (128 : Int) ≤ 128 := by omega
  have hk0 : (0 : Int) ≤ (k : Int) := by omega
  have hk1 : (k : Int) < (n : Int) := by omega
  have hgs := hb.lt
  obtain ⟨W, hW⟩ : ∃ W, W = (w.alloc (.cells (wrL (k, txt)).toArray 67)).drew := ⟨_, rfl⟩
  obtain ⟨Y, hY⟩ : ∃ Y : Array Value, Y = YL.toArray := ⟨_, rfl⟩
  have hbW : Blk W gs 65 X.toArray := by rw [hW]; exact (hb.alloc _).drew
  have hOW : Only (fun b => b = gs) w W := by rw [hW]; exact ((Only.refl _ w).alloc _).drew
  have hnew : Blk W w.heap.size 67 (wrL (k, txt)).toArray := by rw [hW]; exact (Blk.new w _ _).drew
  have hfit : k * 128 + 128 ≤ X.length := by rw [hX]; omega
  have hcopy : ∀ ty, (Builtin.copy_ #[93, 93] ty #[.slice (some ⟨gs, k * 128, none⟩) 128 128, .slice (some ⟨w.heap.size, 1, none⟩) 128 128]).run Tryz.prog W = .ok (.int .i64 128) (W.setRow gs Y) := by
    intro ty
    have hsrc : ∀ j v, ((txt.take 128).map byteV)[j]? = some v → W.cell? ((⟨w.heap.size, 1, none⟩ : Addr).add j) = some v := by
      intro j v hv
      rw [addr_plus, hnew.cell]
      simp only [wrL, List.getElem?_toArray]
      rw [show 1 + j = j + 1 by omega, List.getElem?_cons_succ]
      rw [List.getElem?_map] at hv ⊢
      rw [List.getElem?_take] at hv
      split at hv
      · exact hv
      · cases hv
    have hlen : ((txt.take 128).map byteV).length = Nat.min 128 128 := by simp [ht] <;> omega
    have hgo : (goInt ((txt.take 128).map byteV).length) = Value.int .i64 128 := by rw [hlen]; simp [goInt]
    have := run_copy_row (P := Tryz.prog) W 93 93 ty 5 gs (k * 128) 128 128 ⟨w.heap.size, 1, none⟩ 128 128 X.toArray 65 ((txt.take 128).map byteV) Tryz.underlying93 sizeU8 hbW hlen hsrc (by rw [hlen]; simpa using hfit) (byteV_one _)
    rw [this, hgo]
    congr 2
    rw [hY, hYL]
    simp [ht]
  have hload : ∀ w1, w1 = W ∨ w1 = W.setRow gs Y → w1.cell? ⟨w.heap.size, 0, none⟩ = some (.int .i64 k) := by
    intro w1 hR
    have hc : Blk w1 w.heap.size 67 (wrL (k, txt)).toArray := by
      rcases hR with rfl | rfl
      · exact hnew
      · exact (setRow_other W gs _ Y (by omega)).trans hnew
    rw [hc.cell]
    rfl
  have hfin : Blk (W.setRow gs Y) gs 65 YL.toArray ∧ Only (fun b => b = gs) w (W.setRow gs Y) := by
    refine ⟨?_, hOW.trans (only_setRow W gs Y)⟩
    rw [← hY]
    exact hbW.setRow_ Y
  have HF := Lib.hid hfin
  have HW := Lib.hid hW
  clear hfin hbW hOW hnew hY hYL hb hX ht hfit hW
  go_enter Tryz.func36, Tryz.ntmps36
  go_wp2_with fail
  refine wp_region_st (by kernel_rfl) (fun ld x => if ld 9 = true then x = W.setRow gs Y else x = W) [Is (.slice (some ⟨gs, 0, none⟩) n n), Is (.pointer (some ⟨w.heap.size, 0, none⟩)), Is (.int .i64 k), Is (.pointer (some ⟨gs, k * 128, none⟩)), Is (.int .i64 128), Is (.slice (some ⟨gs, k * 128, none⟩) 128 128), Is (.pointer (some ⟨w.heap.size, 1, none⟩)), Is (.int .i64 128), Is (.slice (some ⟨w.heap.size, 1, none⟩) 128 128), fun _ _ => True] (by kernel_rfl)
    ⟨is_stab _ _, is_stab _ _, is_stab _ _, is_stab _ _, is_stab _ _, is_stab _ _, is_stab _ _, is_stab _ _, is_stab _ _, (fun _ _ _ _ _ => trivial), trivial⟩ (by simp; exact HW.out.symm) ⟨?_, ?_, ?_, ?_, ?_, ?_, ?_, ?_, ?_, ?_, trivial⟩ ?_
  · intro ld u w1 hi he hS hp K hK
    refine ord_plain rfl ?_
    simp at hp hK ⊢
    go_simp
    exact hK _ _ (by simpa [ldW] using hS) rfl
  · intro ld u w1 hi he hS hp K hK
    refine ord_plain rfl ?_
    simp at hp hK ⊢
    go_simp
    exact hK _ _ (by simpa [ldW] using hS) rfl
  · intro ld u w1 hi he hS hp K hK
    refine ord_plain rfl ?_
    simp at hp hK ⊢
    simp only [hp] at hK
    have hc := hload w1 (by by_cases h9 : ld 9 = true <;> simp [h9] at hS <;> simp [hS])
    go_simp
    exact hK _ _ (by simpa [ldW] using hS) rfl
  · intro ld u w1 hi he hS hp K hK
    refine ord_plain rfl ?_
    simp at hp hK ⊢
    obtain ⟨hp1, hp2⟩ := hp
    simp only [hp1, hp2] at hK
    go_simp
    exact hK _ _ (by simpa [ldW] using hS) rfl
  · intro ld u w1 hi he hS hp K hK
    refine ord_plain rfl ?_
    simp at hp hK ⊢
    go_simp
    exact hK _ _ (by simpa [ldW] using hS) rfl
  · intro ld u w1 hi he hS hp K hK
    refine ord_plain rfl ?_
    simp at hp hK ⊢
    obtain ⟨hp1, hp2⟩ := hp
    simp only [hp1, hp2] at hK
    go_simp
    exact hK _ _ (by simpa [ldW] using hS) rfl
  · intro ld u w1 hi he hS hp K hK
    refine ord_plain rfl ?_
    simp at hp hK ⊢
    go_simp
    exact hK _ _ (by simpa [ldW] using hS) rfl
  · intro ld u w1 hi he hS hp K hK
    refine ord_plain rfl ?_
    simp at hp hK ⊢
    go_simp
    exact hK _ _ (by simpa [ldW] using hS) rfl
  · intro ld u w1 hi he hS hp K hK
    refine ord_plain rfl ?_
    simp at hp hK ⊢
    obtain ⟨hp1, hp2⟩ := hp
    simp only [hp1, hp2] at hK
    go_simp
    exact hK _ _ (by simpa [ldW] using hS) rfl
  · intro ld u w1 hi he hS hp K hK
    refine ord_plain rfl ?_
    simp at hp hK ⊢
    obtain ⟨hp1, hp2⟩ := hp
    simp only [hp1, hp2] at hK
    simp [hi] at hS
    subst hS
    go_simp
    refine hK _ _ ?_
    simp [ldW]
  · intro u w1 ld hld hS hp
    simp at hp ⊢
    have h9 := hld 9 (by decide)
    simp [h9] at hS
    subst hS
    go_wp2
    go_end0
    exact ⟨rfl, HF.out⟩
end Go.Proofs.YthggliknnmhbdaaGreat
