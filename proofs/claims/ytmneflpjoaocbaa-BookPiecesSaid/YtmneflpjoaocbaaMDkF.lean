/- Several texts in one: DkF. -/
import Derived.Test.YtmneflpjoaocbaaMWF
import Derived.Test.YtmneflpjoaocbaaMWA
/- A disk of sectors whole: what a sync leaves. -/
namespace Go.Proofs.Ytmneflpjoaocbaa
set_option maxRecDepth 100000
open Go.RowKit Go.WideShapes Go.ChangeShapes
set_option linter.unusedVariables false
attribute [local simp] frOf dstsOf frGo predsHold allHold Region.binds slotOf seen Is Act.put
theorem secL_len {n : Nat} {l : List (Nat × List UInt8)} {g : List (List UInt8)} (h : SecOk n l g) : (secL g).length = n * 128 := by
  unfold secL
  rw [List.length_map, flat_length g h.all, h.len]
theorem flat_cut (g : List (List UInt8)) : ∀ (i : Nat) (s : List UInt8), (∀ t ∈ g, t.length = 128) → i < g.length → (g.set i s).flatten = g.flatten.take (i * 128) ++ s ++ g.flatten.drop (i * 128 + 128) := by
  induction g with
  | nil => intro i s _ h; simp at h
  | cons t g ih =>
    intro i s h hi
    have ht := h t (by simp)
    cases i with
    | zero => simp [ht]
    | succ i =>
      have := ih i s (fun t ht => h t (by simp [ht])) (by simpa using hi)
      rw [List.set_cons_succ, List.flatten_cons, this, List.flatten_cons]
      rw [show (i + 1) * 128 = t.length + i * 128 by omega, List.take_length_add_append, show t.length + i * 128 + 128 = t.length + (i * 128 + 128) by omega, List.drop_length_add_append]
      simp
theorem flat_mid (g : List (List UInt8)) : ∀ (i : Nat), (∀ t ∈ g, t.length = 128) → i < g.length → g.flatten.drop (i * 128) = g.getD i [] ++ g.flatten.drop (i * 128 + 128) := by
  induction g with
  | nil => intro i _ h; simp at h
  | cons t g ih =>
    intro i h hi
    have ht := h t (by simp)
    cases i with
    | zero => simp [ht]
    | succ i =>
      have := ih i (fun t ht => h t (by simp [ht])) (by simpa using hi)
      rw [List.flatten_cons, show (i + 1) * 128 = t.length + i * 128 by omega, List.drop_length_add_append, this, show t.length + i * 128 + 128 = t.length + (i * 128 + 128) by omega, List.drop_length_add_append]
      simp
theorem secL_keep {n : Nat} {l : List (Nat × List UInt8)} {g : List (List UInt8)} (h : SecOk n l g) {x : Nat × List UInt8} (hx : x.1 < n) (N : Int) (m : Nat) (hm : (min N 128).toNat = m) (hm2 : m ≤ 128) :
    (secL g).take (x.1 * 128) ++ (x.2.take m).map byteV ++ (secL g).drop (x.1 * 128 + m) = secL (keepW g x N) := by
  have hl : x.1 < g.length := by rw [h.len]; exact hx
  unfold secL keepW
  rw [hm, flat_cut g _ _ h.all hl]
  simp only [List.map_append, List.map_take, List.map_drop, List.append_assoc]
  congr 2
  have hd := flat_mid g x.1 h.all hl
  have hlen := h.all _ (getD_mem g x.1 hl)
  have : g.flatten.drop (x.1 * 128 + m) = (g.getD x.1 []).drop m ++ g.flatten.drop (x.1 * 128 + 128) := by
    rw [← List.drop_drop, hd, List.drop_append]
    rw [hlen, show m - 128 = 0 by omega]
    rfl
  rw [← List.map_drop, this]
  simp
theorem keep_any (gs n : Nat) (g : List (List UInt8)) (l : List (Nat × List UInt8)) (x : Nat × List UInt8) (N : Int) (w : World) (hok : SecOk n l g) (hx : x.1 < n ∧ x.2.length = 128) (hn : n ≤ 4096)
    (hb : Blk w gs 71 (secL g).toArray) :
    Calls Try.prog 31 #[.slice (some ⟨gs, 0, none⟩) n n, .agg (wrL x).toArray, .int .i64 N] w fun e w' => e = .returned (.tuple #[]) ∧
      Blk w' gs 71 (secL (keepW g x N)).toArray ∧ Only (fun b => b = gs) w w' := by
  by_cases h : N ≤ 0
  · refine (keep_no (some ⟨gs, 0, none⟩) n n (wrL x).toArray N w h).mono ?_
    rintro e w' ⟨rfl, rfl⟩
    rw [keepW_none hok x N h hx.1]
    exact ⟨rfl, hb.alloc _, (Only.refl _ w).alloc _⟩
  · by_cases h2 : N ≤ 128
    · obtain ⟨m, rfl⟩ : ∃ m : Nat, N = m := ⟨N.toNat, by omega⟩
      have hk := secL_keep hok hx.1 (m : Int) m (by omega) (by omega)
      refine (keep_yesA gs n x.1 m x.2 (secL g) _ w (by omega) (by omega) rfl hx.1 hn hx.2 hb (secL_len hok)).mono ?_
      rintro e w' ⟨rfl, h1, h2⟩
      rw [hk] at h1
      exact ⟨rfl, h1, h2⟩
    · have hk := secL_keep hok hx.1 N 128 (by omega) (by omega)
      refine (keep_yesB gs n x.1 x.2 (secL g) _ N w (by omega) rfl hx.1 hn hx.2 hb (secL_len hok)).mono ?_
      rintro e w' ⟨rfl, h1, h2⟩
      rw [hk] at h1
      exact ⟨rfl, h1, h2⟩
/-- a disk: its sectors, its loose writes, whether it has a fuse, how many calls that allows -/
structure DiskAt (w : World) (p gs n : Nat) (g : List (List UInt8)) (l : List (Nat × List UInt8)) (A : Option Addr) (c : Nat) (fb : Bool) (left : Int) (B : Nat) : Prop where
  blk : Blk w p 69 #[.slice (some ⟨gs, 0, none⟩) n n, .slice A l.length c, .bool fb, .int .i64 left]
  sec : Blk w gs 71 (secL g).toArray
  own : w.ownsRow B 73 129 (.slice A l.length c) l.length (l.flatMap wrL)
  lo : B ≤ p ∧ B ≤ gs
  ok : SecOk n l g
def SD (p gs : Nat) (vl : Value) (b : Nat) : Prop := b = p ∨ b = gs ∨ vl.ownBlock = some b
theorem wrL_len {x : Nat × List UInt8} (h : x.2.length = 128) : (wrL x).length = 129 := by simp [wrL, h]
theorem flat_at : ∀ (l : List (Nat × List UInt8)), (∀ x ∈ l, x.2.length = 128) → ∀ {k j : Nat} {x : Nat × List UInt8}, l[k]? = some x → j < 129 → (l.flatMap wrL)[k * 129 + j]? = (wrL x)[j]?
  | [], _, k, j, x, h, _ => by simp at h
  | y :: l, hl, 0, j, x, h, hj => by
    simp at h; subst h
    rw [List.flatMap_cons, List.getElem?_append_left (by rw [wrL_len (hl y (by simp))]; omega)]
    simp
  | y :: l, hl, k + 1, j, x, h, hj => by
    rw [List.flatMap_cons, List.getElem?_append_right (by rw [wrL_len (hl y (by simp))]; omega), wrL_len (hl y (by simp))]
    rw [show (k + 1) * 129 + j - 129 = k * 129 + j by omega]
    exact flat_at l (fun x hx => hl x (by simp [hx])) (by simpa using h) hj
theorem loose_range {w : World} {B : Nat} {A : Option Addr} {c : Nat} {l : List (Nat × List UInt8)} (ho : w.ownsRow B 73 129 (.slice A l.length c) l.length (l.flatMap wrL)) (hl : ∀ x ∈ l, x.2.length = 128) {k : Nat} {x : Nat × List UInt8} (hx : l[k]? = some x) :
    ∃ gl, A = some ⟨gl, 0, none⟩ ∧ gl < w.heap.size ∧ B ≤ gl ∧ w.rangeAt gl (k * 129) (wrL x) := by
  have hk : k < l.length := (List.getElem?_eq_some_iff.1 hx).1
  rcases owns_form ho with ⟨_, h0⟩ | ⟨gl, cap, hv, _, _, hB, hlt⟩
  · omega
  · injection hv with h1 _ h3
    subst h1
    refine ⟨gl, rfl, hlt, hB, fun j v hj => ?_⟩
    have hj1 : j < 129 := by have := (List.getElem?_eq_some_iff.1 hj).1; rwa [wrL_len (hl x (List.mem_of_getElem? hx))] at this
    have hc := (Reads.of_own ho).2 (by omega)
    obtain ⟨ad, e, _, hcell⟩ := hc
    injection e with e
    subst e
    have := hcell (k * 129 + j) v ((flat_at l hl hx hj1).trans hj)
    rwa [addr_plus, Nat.zero_add] at this
theorem sizeW : (Try.prog.info? 73).map (·.size) = some 129 := by kernel_rfl
theorem zeroW : (Try.prog.info? 73).map (fun i => (i.zero, i.size)) = some (some (.agg (Array.mk (.int .i64 0 :: List.replicate 128 (.int .u8 0)))), 129) := by kernel_rfl
theorem wrL_one (x : Nat × List UInt8) : ∀ v ∈ wrL x, v.oneCell' = true := by
  intro v hv
  rcases List.mem_cons.1 hv with rfl | hv
  · rfl
  · exact byteV_one _ v hv
/-- the types of a disk's memory -/
def DT (t : TypeId) : Prop := t = 69 ∨ t = 71 ∨ t = 73
/-- Of the memory that was there only a disk's has turned. -/
structure Far (w w' : World) : Prop where
  os : w'.os = w.os
  tape : w'.tape = w.tape
  output : w'.output = w.output
  size : w.heap.size ≤ w'.heap.size
  blk : ∀ k t cs, Blk w k t cs → ¬ DT t → Blk w' k t cs
theorem Far.refl (w : World) : Far w w := ⟨rfl, rfl, rfl, Nat.le_refl _, fun _ _ _ h _ => h⟩
theorem Far.trans {a b c : World} (h : Far a b) (k : Far b c) : Far a c := ⟨k.os.trans h.os, k.tape.trans h.tape, k.output.trans h.output, Nat.le_trans h.size k.size, fun i t cs hb ht => k.blk i t cs (h.blk i t cs hb ht) ht⟩
theorem Far.of_only {S : Nat → Prop} {w w' : World} (h : Only S w w') (hS : ∀ k t cs, S k → Blk w k t cs → DT t) : Far w w' := ⟨h.os, h.tape, h.output, h.size, fun k t cs hb ht => h.blk hb (fun hs => ht (hS k t cs hs hb))⟩
theorem Far.of_none {w w' : World} (h : Only (fun _ => False) w w') : Far w w' := Far.of_only h (fun _ _ _ h _ => h.elim)
theorem Far.owns {w w' : World} (h : Far w w') {base : Nat} {e : TypeId} {size n : Nat} {v : Value} {xs : List Value} (ho : w.ownsRow base e size v n xs) (he : ¬ DT e) : w'.ownsRow base e size v n xs := by
  refine ⟨ho.1, ?_⟩
  rcases ho.2 with hn | ⟨g, cap, cur, rfl, hb, hgg, rest⟩
  · exact .inl hn
  · exact .inr ⟨g, cap, cur, rfl, hb, h.blk g e cur hgg he, rest⟩
theorem Far.drewN {a w : World} (h : Far a w) (n : Nat) : Far a (w.drewN n) := ⟨h.os, h.tape, h.output, h.size, h.blk⟩
theorem Far.drew {a w : World} (h : Far a w) : Far a w.drew := ⟨h.os, h.tape, h.output, h.size, h.blk⟩
theorem blk_same {w : World} {g : Nat} {t t' : TypeId} {cs cs' : Array Value} (h : Blk w g t cs) (h' : Blk w g t' cs') : t = t' := by
  unfold Blk at h h'
  rw [h] at h'
  injection h' with h'
  injection h' with _ ht
theorem own_same {w : World} {base size n : Nat} {e t : TypeId} {v : Value} {xs : List Value} {cs : Array Value} {k : Nat} (h : w.ownsRow base e size v n xs) (hk : v.ownBlock = some k) (hb : Blk w k t cs) : t = e := by
  rcases h.2 with ⟨rfl, _⟩ | ⟨g, cap, cur, rfl, _, hh, _⟩
  · simp [Value.ownBlock] at hk
  · have : g = k := by simpa [Value.ownBlock] using hk
    subst this
    exact blk_same hb hh
end Go.Proofs.Ytmneflpjoaocbaa
