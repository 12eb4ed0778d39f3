/- A disk in one word, and what its calls do with it. -/
import Derived.Test.YtlpnhikoipkjbaaSecS
import Derived.Laws.OwnMore
namespace Go.Proofs.Ytlpnhikoipkjbaa
open Go.RowKit Go.WideShapes Go.ChangeShapes Go.ChangeAt
set_option linter.unusedVariables false
/-- a disk of n sectors at p that holds g for good and l loose; so many calls have burnt something -/
def Dk (w : World) (p gs n : Nat) (g : List (List UInt8)) (l : List (Nat × List UInt8)) (B m : Nat) : Prop :=
  (1 ≤ n ∧ n ≤ 4096 ∧ m ≤ 1000000 ∧ l.length ≤ m) ∧ ∃ A c left, DiskAt w p gs n g l A c left B ∧ -(m : Int) ≤ left ∧ left ≤ 0
def zeroG (n : Nat) : List (List UInt8) := List.replicate n (List.replicate 128 0)
theorem zeroG_ok (n : Nat) : SecOk n [] (zeroG n) := ⟨by simp [zeroG], fun s hs => by rw [(List.mem_replicate.1 hs).2]; simp, by simp⟩
theorem zeroG_flat (n : Nat) : (zeroG n).flatten = List.replicate (n * 128) 0 := by
  unfold zeroG
  induction n with
  | zero => simp
  | succ n ih => rw [List.replicate_succ, List.flatten_cons, ih, Nat.succ_mul, Nat.add_comm, ← List.replicate_append_replicate]
theorem zeroG_made (n : Nat) : madeCells zeroB.cells (n * 128) = (secL (zeroG n)).toArray := by
  unfold secL
  rw [zeroG_flat, List.map_replicate]
  apply Array.toList_inj.1
  apply List.ext_getElem?
  intro j
  have hz : zeroB.cells = Array.replicate 128 (.int .u8 0) := rfl
  by_cases hj : j < n * 128
  · have h1 : j % 128 < 128 := Nat.mod_lt _ (by decide)
    simp [madeCells, hj, hz, byteV, h1]
  · simp [madeCells, hj]
theorem Dk.ok {w : World} {p gs n : Nat} {g : List (List UInt8)} {l : List (Nat × List UInt8)} {B m : Nat} (h : Dk w p gs n g l B m) : SecOk n l g := by
  obtain ⟨_, A, c, left, D, _⟩ := h
  exact D.ok
theorem Dk.only {w w' : World} {p gs n : Nat} {g : List (List UInt8)} {l : List (Nat × List UInt8)} {B m : Nat} (h : Dk w p gs n g l B m) (o : Only (fun _ => False) w w') : Dk w' p gs n g l B m := by
  obtain ⟨hb, A, c, left, D, hl⟩ := h
  exact ⟨hb, A, c, left, ⟨o.blk D.blk (fun h => h), o.blk D.sec (fun h => h), o.owns D.own (fun _ _ h => h), D.lo, D.ok⟩, hl⟩
theorem Dk.size {w : World} {p gs n : Nat} {g : List (List UInt8)} {l : List (Nat × List UInt8)} {B m : Nat} (h : Dk w p gs n g l B m) : B < w.heap.size := by
  obtain ⟨hb, A, c, left, D, hl⟩ := h
  have := D.blk.lt
  have := D.lo
  omega
theorem dk_new (n : Nat) (w : World) (h0 : 1 ≤ n) (h1 : n ≤ 4096) :
    Calls Try.prog 8 #[.int .i64 n] w fun e w' => e = .returned (.tuple #[.pointer (some ⟨w.heap.size + 1, 0, none⟩), .int .i64 0]) ∧ Dk w' (w.heap.size + 1) w.heap.size n (zeroG n) [] w.heap.size 0 ∧ Only (fun _ => False) w w' := by
  refine (dnew_any n w h0 h1).mono ?_
  rintro e w' ⟨rfl, rfl⟩
  refine ⟨rfl, ⟨⟨h0, h1, by omega, by simp⟩, none, 0, 0, ⟨?_, ?_, World.ownsRow_nil _ _ _ _, by omega, zeroG_ok n⟩, by omega, by omega⟩, ((Only.refl _ w).alloc _).alloc _⟩
  · have := Blk.new (w.alloc (.cells (madeCells zeroB.cells (n * 128)) 52)) 50 #[.slice (some ⟨w.heap.size, 0, none⟩) n n, .slice none 0 0, .bool false, .int .i64 0]
    simpa using this
  · have := (Blk.new w 52 (madeCells zeroB.cells (n * 128))).alloc (.cells #[.slice (some ⟨w.heap.size, 0, none⟩) n n, .slice none 0 0, .bool false, .int .i64 0] 50)
    rwa [zeroG_made] at this ⊢
theorem dk_write (p gs n : Nat) (g : List (List UInt8)) (l : List (Nat × List UInt8)) (B m : Nat) (k : Int) (s : ByteArray) (w : World) (D : Dk w p gs n g l B m) (hm : m < 1000000) (hs : s.size ≤ 9223372036854775807) :
    Calls Try.prog 9 #[.pointer (some ⟨p, 0, none⟩), .int .i64 k, .string s] w fun e w' => (∃ r, e = .returned (.int .i64 r)) ∧ Dk w' p gs n g (l ++ (wrote 0 n (k, s.data.toList)).toList) B (m + 1) ∧ Only (fun b => B ≤ b) w w' := by
  obtain ⟨⟨h1, h2, h3, h4⟩, A, c, left, D, hl, hr⟩ := D
  refine (write_any p gs n g l A c left B k s w D h2 (by omega) hr (by omega) hs).mono ?_
  rintro e w' ⟨he, ⟨A', c', left', D', l1, l2⟩, o⟩
  refine ⟨he, ⟨⟨h1, h2, by omega, ?_⟩, A', c', left', D', by omega, by omega⟩, o⟩
  rw [List.length_append]
  have : (wrote 0 n (k, s.data.toList)).toList.length ≤ 1 := by cases wrote 0 n (k, s.data.toList) <;> simp
  omega
theorem dk_sync (p gs n : Nat) (g : List (List UInt8)) (l : List (Nat × List UInt8)) (B m : Nat) (w : World) (D : Dk w p gs n g l B m) (hm : m < 1000000) :
    Calls Try.prog 11 #[.pointer (some ⟨p, 0, none⟩)] w fun e w' => e = .returned (.int .i64 0) ∧ Dk w' p gs n (syncW l g) [] B (m + 1) ∧ Only (fun b => B ≤ b) w w' := by
  obtain ⟨⟨h1, h2, h3, h4⟩, A, c, left, D, hl, hr⟩ := D
  refine (sync_any p gs n g l A c left B w D h2 (by omega) hr (by omega)).mono ?_
  rintro e w' ⟨he, D', o⟩
  have hlo := D.lo
  exact ⟨he, ⟨⟨h1, h2, by omega, by simp⟩, none, 0, left - 1, D', by omega, by omega⟩, o.mono fun b hb => by rcases hb with rfl | rfl <;> omega⟩
theorem dk_crash (p gs n : Nat) (g : List (List UInt8)) (l : List (Nat × List UInt8)) (B m : Nat) (ps : List Int) (AP : Option Addr) (cp BP : Nat) (w : World) (D : Dk w p gs n g l B m)
    (hps : Reads w BP 1 AP ps.length (ps.map (Value.int .i64))) (hBP : BP ≤ w.heap.size) (hav : 0 < ps.length → ∀ ad, AP = some ad → ad.block ≠ p ∧ ad.block ≠ gs) :
    Calls Try.prog 10 #[.pointer (some ⟨p, 0, none⟩), .slice AP ps.length cp] w fun e w' => e = .returned (.int .i64 0) ∧ Dk w' p gs n (crashW l ps g) [] B m ∧ Only (fun b => B ≤ b) w w' := by
  obtain ⟨⟨h1, h2, h3, h4⟩, A, c, left, D, hl, hr⟩ := D
  refine (crash_any p gs n g l A c left B ps AP cp BP w D h2 (by omega) hps hBP hav).mono ?_
  rintro e w' ⟨he, D', o⟩
  have hlo := D.lo
  exact ⟨he, ⟨⟨h1, h2, h3, by simp⟩, none, 0, left, D', hl, hr⟩, o.mono fun b hb => by rcases hb with rfl | rfl <;> omega⟩
def strG (g : List (List UInt8)) : ByteArray := ⟨g.flatten.toArray⟩
theorem dk_sure (p gs n : Nat) (g : List (List UInt8)) (l : List (Nat × List UInt8)) (B m : Nat) (w : World) (D : Dk w p gs n g l B m) :
    Calls Try.prog 13 #[.pointer (some ⟨p, 0, none⟩)] w fun e w' => e = .returned (.string (strG g)) ∧ Dk w' p gs n g l B m ∧ Only (fun _ => False) w w' := by
  have D0 := D
  obtain ⟨⟨h1, h2, h3, h4⟩, A, c, left, D, hl, hr⟩ := D
  refine (sure_any p gs n g l A c left B w D h2).mono ?_
  rintro e w' ⟨he, o⟩
  have o' : Only (fun _ => False) w w' := Only.below_ o
  exact ⟨he, D0.only o', o'⟩
theorem dk_loose (p gs n : Nat) (g : List (List UInt8)) (l : List (Nat × List UInt8)) (B m : Nat) (w : World) (D : Dk w p gs n g l B m) :
    Calls Try.prog 12 #[.pointer (some ⟨p, 0, none⟩)] w fun e w' => e = .returned (.int .i64 (l.length : Nat)) ∧ w = w' := by
  obtain ⟨_, A, c, left, D, _⟩ := D
  exact loose_any _ _ _ _ _ _ _ _ _ _ D.blk
/-- what the writes of a script leave, loose -/
def keyS (s : SP) : Int × List UInt8 := (s.k, s.text.data.toList)
def wro (n : Nat) (ss : List SP) : List (Nat × List UInt8) := (ss.map keyS).filterMap (wrote 0 n)
theorem wro_snoc (n : Nat) (ss : List SP) {k : Nat} {s : SP} (h : ss[k]? = some s) : wro n (ss.take (k + 1)) = wro n (ss.take k) ++ (wrote 0 n (s.k, s.text.data.toList)).toList := by
  have hk : k < ss.length := (List.getElem?_eq_some_iff.1 h).1
  have e : ss[k] = s := (List.getElem?_eq_some_iff.1 h).2
  unfold wro
  rw [List.take_succ_eq_append_getElem hk, e, List.map_append, List.filterMap_append]
  congr 1
theorem wro_len (n : Nat) (ss : List SP) : (wro n ss).length ≤ ss.length := by
  unfold wro
  have := List.length_filterMap_le (wrote (0 : UInt8) n) (ss.map keyS)
  simpa using this
theorem wro_all (n : Nat) (ss : List SP) : wro n (ss.take ss.length) = wro n ss := by rw [List.take_length]
theorem Dk.away {w w' : World} {p gs n : Nat} {g : List (List UInt8)} {l : List (Nat × List UInt8)} {B m x : Nat} {t : TypeId} {cs : Array Value} (h : Dk w p gs n g l B m) (hx : Blk w x t cs) (o : Only (fun b => b = x) w w')
    (t1 : 50 ≠ t) (t2 : 52 ≠ t) (t3 : 54 ≠ t) : Dk w' p gs n g l B m := by
  obtain ⟨hb, A, c, left, D, hl⟩ := h
  exact ⟨hb, A, c, left, ⟨o.blk D.blk (Blk.ne_ D.blk hx t1), o.blk D.sec (Blk.ne_ D.sec hx t2), o.owns D.own (fun k hk e => own_blk_ne D.own hx t3 (hk.trans (congrArg some e))), D.lo, D.ok⟩, hl⟩
theorem Dk.lts {w : World} {p gs n : Nat} {g : List (List UInt8)} {l : List (Nat × List UInt8)} {B m : Nat} (h : Dk w p gs n g l B m) : p < w.heap.size ∧ gs < w.heap.size := by
  obtain ⟨hb, A, c, left, D, hl⟩ := h
  exact ⟨D.blk.lt, D.sec.lt⟩
theorem own_of_blk {w : World} {x base n : Nat} {t : TypeId} {xs : List Value} (h : Blk w x t xs.toArray) (hb : base ≤ x) (hn : xs.length = n) (hm : n ≤ maxLen) : w.ownsRow base t 1 (.slice (some ⟨x, 0, none⟩) n n) n xs :=
  ⟨by omega, .inr ⟨x, n, xs.toArray, rfl, hb, h, Nat.le_refl _, hm, by simp [hn], by rw [Nat.mul_one, ← hn]; exact List.take_length⟩⟩
theorem own_form {w : World} {base size n : Nat} {e : TypeId} {v : Value} {xs : List Value} (h : w.ownsRow base e size v n xs) : ∃ A c, v = .slice A n c ∧ ∀ ad, A = some ad → base ≤ ad.block := by
  rcases h.2 with ⟨rfl, rfl⟩ | ⟨g, cap, cur, rfl, hb, _⟩
  · exact ⟨_, _, rfl, fun ad h => by cases h⟩
  · exact ⟨_, _, rfl, fun ad h => by cases h; exact hb⟩
theorem reads_one {w : World} {t : TypeId} (v : Value) : Reads (w.alloc (.cells #[v] t)) (w.heap.size + 1) 1 (some ⟨w.heap.size, 0, none⟩) 1 [v] :=
  ⟨by simp, fun _ => ⟨_, rfl, by simp, fun j u hu => by
    match j, hu with
    | 0, hu => simp at hu; subst hu; simp [Addr.add]⟩⟩
theorem ord_guard {o : Oper} {y : Nat → Option Bool} {X Y : Prop} {j : Nat} {b : Bool} (hg : o.guard = some (j, b)) (hy : y j = some b) (h : X) : if Region.wanted o y = true then X else Y := by
  have hw : Region.wanted o y = true := by simp [Region.wanted, hg, hy]
  rw [if_pos hw]
  exact h
/-- the picks of way 1, as they are made -/
def pickL (j q : Nat) : List Value := (List.range j).map (fun i : Nat => Value.int .i64 ((128 : Int) + (i : Int))) ++ List.replicate (q - j) (.int .i64 0)
theorem pickL_len (j q : Nat) (h : j ≤ q) : (pickL j q).length = q := by simp [pickL]; omega
theorem pickL_zero (q : Nat) : madeCells (Value.int .i64 0).cells (q * 1) = (pickL 0 q).toArray := by
  apply Array.toList_inj.1
  have : (Value.int .i64 0).cells = #[.int .i64 0] := rfl
  rw [this, Nat.mul_one, toList_madeCells_one]
  simp [pickL]
theorem pickL_set (j q : Nat) (h : j < q) : (pickL j q).toArray.setIfInBounds j (.int .i64 ((128 : Int) + (j : Int))) = (pickL (j + 1) q).toArray := by
  apply Array.toList_inj.1
  apply List.ext_getElem?
  intro i
  simp only [Array.toList_setIfInBounds, List.getElem?_set, pickL, List.getElem?_append, List.length_map, List.length_range, List.length_append, List.length_replicate, List.getElem?_map, List.getElem?_replicate]
  by_cases h1 : i < j
  · have h2 : i < j + 1 := by omega
    have h3 : ¬ j = i := by omega
    simp [h1, h2, h3]
  · by_cases h4 : j = i
    · subst h4
      have h5 : j < j + (q - j) := by omega
      simp [h5]
    · have h2 : ¬ i < j + 1 := by omega
      simp only [h1, h2, h4, if_false]
      have : (i - j < q - j) = (i - (j + 1) < q - (j + 1)) := by apply propext; omega
      simp only [this]
theorem pickL_all (q : Nat) : pickL q q = ((List.range q).map (fun i : Nat => (128 : Int) + (i : Int))).map (Value.int .i64) := by
  simp [pickL]
theorem pickL_none (q : Nat) : pickL 0 q = (List.replicate q (0 : Int)).map (Value.int .i64) := by
  simp [pickL]
theorem own_cells {w : World} {base n : Nat} {e : TypeId} {v : Value} {xs : List Value} (h : w.ownsRow base e 1 v n xs) (h0 : 0 < n) : ∃ g cap, v = .slice (some ⟨g, 0, none⟩) n cap ∧ base ≤ g ∧ g < w.heap.size ∧ ∀ i u, xs[i]? = some u → w.cell? ⟨g, i, none⟩ = some u := by
  rcases h.2 with ⟨_, h1⟩ | ⟨g, cap, cur, rfl, hb, hk, _, _, _, ht⟩
  · omega
  · have hB : Blk w g e cur := hk
    refine ⟨g, cap, rfl, hb, hB.lt, fun i u hu => ?_⟩
    rw [hB.cell, ← hu, ← ht, Nat.mul_one]
    have hl : xs.length = n := by have := h.1; omega
    have hi : i < n := by have := (List.getElem?_eq_some_iff.1 hu).1; omega
    rw [List.getElem?_take_of_lt hi, Array.getElem?_toList]
theorem pickL_cell (j q : Nat) (h : j < q) : (pickL j q).toArray[j]? = some (.int .i64 0) := by
  have h0 : 0 < q - j := by omega
  simp [pickL, List.getElem?_append, List.getElem?_replicate, h0]
end Go.Proofs.Ytlpnhikoipkjbaa
