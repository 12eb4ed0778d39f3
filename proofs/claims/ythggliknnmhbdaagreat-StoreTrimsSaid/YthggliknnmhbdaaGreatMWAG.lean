/- Several texts in one: DkF, DkG, DkH. -/
import Derived.Test.YthggliknnmhbdaaGreatMWAF
import Derived.Test.YthggliknnmhbdaaGreatMWAA
/- A disk of sectors whole: what a sync leaves. -/
namespace Go.Proofs.YthggliknnmhbdaaGreat
set_option maxRecDepth 100000
open Go.RowKit Go.WideShapes Go.ChangeShapes
set_option linter.unusedVariables false
attribute [local simp] frOf dstsOf frGo predsHold allHold Region.binds slotOf seen Is Act.put
theorem secL_len {n : Nat} {l : List (Nat × List UInt8)} {g : List (List UInt8)} (h : SecOk n l g) : (secL g).length = n * 128 := by
  unfold secL
  rw [List.length_map, flat_length g h.all, h.len]
theorem flat_cut (g : List (List UInt8)) : ∀ (i : Nat) (s : List UInt8), (∀ t ∈ g, t.length = 128) → i < g.length → (g.set i s).flatten = g.flatten.take (i * 128) ++ s ++ g.flatten.drop (i * 128 + 128) := by
  induction g with
  | nil => intro i s _ h; simp at h
  | cons t g ih =>
    intro i s h hi
    have ht := h t (by simp)
    cases i with
    | zero => simp [ht]
    | succ i =>
      have := ih i s (fun t ht => h t (by simp [ht])) (by simpa using hi)
      rw [List.set_cons_succ, List.flatten_cons, this, List.flatten_cons]
      rw [show (i + 1) * 128 = t.length + i * 128 by omega, List.take_length_add_append, show t.length + i * 128 + 128 = t.length + (i * 128 + 128) by omega, List.drop_length_add_append]
      simp
theorem flat_mid (g : List (List UInt8)) : ∀ (i : Nat), (∀ t ∈ g, t.length = 128) → i < g.length → g.flatten.drop (i * 128) = g.getD i [] ++ g.flatten.drop (i * 128 + 128) := by
  induction g with
  | nil => intro i _ h; simp at h
  | cons t g ih =>
    intro i h hi
    have ht := h t (by simp)
    cases i with
    | zero => simp [ht]
    | succ i =>
      have := ih i (fun t ht => h t (by simp [ht])) (by simpa using hi)
      rw [List.flatten_cons, show (i + 1) * 128 = t.length + i * 128 by omega, List.drop_length_add_append, this, show t.length + i * 128 + 128 = t.length + (i * 128 + 128) by omega, List.drop_length_add_append]
      simp
theorem secL_keep {n : Nat} {l : List (Nat × List UInt8)} {g : List (List UInt8)} (h : SecOk n l g) {x : Nat × List UInt8} (hx : x.1 < n) (N : Int) (m : Nat) (hm : (min N 128).toNat = m) (hm2 : m ≤ 128) :
    (secL g).take (x.1 * 128) ++ (x.2.take m).map byteV ++ (secL g).drop (x.1 * 128 + m) = secL (keepW g x N) := by
  have hl : x.1 < g.length := by rw [h.len]; exact hx
  unfold secL keepW
  rw [hm, flat_cut g _ _ h.all hl]
  simp only [List.map_append, List.map_take, List.map_drop, List.append_assoc]
  congr 2
  have hd := flat_mid g x.1 h.all hl
  have hlen := h.all _ (getD_mem g x.1 hl)
  have : g.flatten.drop (x.1 * 128 + m) = (g.getD x.1 []).drop m ++ g.flatten.drop (x.1 * 128 + 128) := by
    rw [← List.drop_drop, hd, List.drop_append]
    rw [hlen, show m - 128 = 0 by omega]
    rfl
  rw [← List.map_drop, this]
  simp
theorem keep_any (gs n : Nat) (g : List (List UInt8)) (l : List (Nat × List UInt8)) (x : Nat × List UInt8) (N : Int) (w : World) (hok : SecOk n l g) (hx : x.1 < n ∧ x.2.length = 128) (hn : n ≤ 4096)
    (hb : Blk w gs 65 (secL g).toArray) :
    Calls Tryz.prog 36 #[.slice (some ⟨gs, 0, none⟩) n n, .agg (wrL x).toArray, .int .i64 N] w fun e w' => e = .returned (.tuple #[]) ∧
      Blk w' gs 65 (secL (keepW g x N)).toArray ∧ Only (fun b => b = gs) w w' := by
  by_cases h : N ≤ 0
  · refine (keep_no (some ⟨gs, 0, none⟩) n n (wrL x).toArray N w h).mono ?_
    rintro e w' ⟨rfl, rfl⟩
    rw [keepW_none hok x N h hx.1]
    exact ⟨rfl, hb.alloc _, (Only.refl _ w).alloc _⟩
  · by_cases h2 : N ≤ 128
    · obtain ⟨m, rfl⟩ : ∃ m : Nat, N = m := ⟨N.toNat, by omega⟩
      have hk := secL_keep hok hx.1 (m : Int) m (by omega) (by omega)
      refine (keep_yesA gs n x.1 m x.2 (secL g) _ w (by omega) (by omega) rfl hx.1 hn hx.2 hb (secL_len hok)).mono ?_
      rintro e w' ⟨rfl, h1, h2⟩
      rw [hk] at h1
      exact ⟨rfl, h1, h2⟩
    · have hk := secL_keep hok hx.1 N 128 (by omega) (by omega)
      refine (keep_yesB gs n x.1 x.2 (secL g) _ N w (by omega) rfl hx.1 hn hx.2 hb (secL_len hok)).mono ?_
      rintro e w' ⟨rfl, h1, h2⟩
      rw [hk] at h1
      exact ⟨rfl, h1, h2⟩
/-- a disk: its sectors, its loose writes, whether it has a fuse, how many calls that allows -/
structure DiskAt (w : World) (p gs n : Nat) (g : List (List UInt8)) (l : List (Nat × List UInt8)) (A : Option Addr) (c : Nat) (fb : Bool) (left : Int) (B : Nat) : Prop where
  blk : Blk w p 62 #[.slice (some ⟨gs, 0, none⟩) n n, .slice A l.length c, .bool fb, .int .i64 left]
  sec : Blk w gs 65 (secL g).toArray
  own : w.ownsRow B 67 129 (.slice A l.length c) l.length (l.flatMap wrL)
  lo : B ≤ p ∧ B ≤ gs
  ok : SecOk n l g
theorem wrL_len {x : Nat × List UInt8} (h : x.2.length = 128) : (wrL x).length = 129 := by simp [wrL, h]
theorem flat_at : ∀ (l : List (Nat × List UInt8)), (∀ x ∈ l, x.2.length = 128) → ∀ {k j : Nat} {x : Nat × List UInt8}, l[k]? = some x → j < 129 → (l.flatMap wrL)[k * 129 + j]? = (wrL x)[j]?
  | [], _, k, j, x, h, _ => by simp at h
  | y :: l, hl, 0, j, x, h, hj => by
    simp at h; subst h
    rw [List.flatMap_cons, List.getElem?_append_left (by rw [wrL_len (hl y (by simp))]; omega)]
    simp
  | y :: l, hl, k + 1, j, x, h, hj => by
    rw [List.flatMap_cons, List.getElem?_append_right (by rw [wrL_len (hl y (by simp))]; omega), wrL_len (hl y (by simp))]
    rw [show (k + 1) * 129 + j - 129 = k * 129 + j by omega]
    exact flat_at l (fun x hx => hl x (by simp [hx])) (by simpa using h) hj
theorem loose_range {w : World} {B : Nat} {A : Option Addr} {c : Nat} {l : List (Nat × List UInt8)} (ho : w.ownsRow B 67 129 (.slice A l.length c) l.length (l.flatMap wrL)) (hl : ∀ x ∈ l, x.2.length = 128) {k : Nat} {x : Nat × List UInt8} (hx : l[k]? = some x) :
    ∃ gl, A = some ⟨gl, 0, none⟩ ∧ gl < w.heap.size ∧ B ≤ gl ∧ w.rangeAt gl (k * 129) (wrL x) := by
  have hk : k < l.length := (List.getElem?_eq_some_iff.1 hx).1
  rcases owns_form ho with ⟨_, h0⟩ | ⟨gl, cap, hv, _, _, hB, hlt⟩
  · omega
  · injection hv with h1 _ h3
    subst h1
    refine ⟨gl, rfl, hlt, hB, fun j v hj => ?_⟩
    have hj1 : j < 129 := by have := (List.getElem?_eq_some_iff.1 hj).1; rwa [wrL_len (hl x (List.mem_of_getElem? hx))] at this
    have hc := (Reads.of_own ho).2 (by omega)
    obtain ⟨ad, e, _, hcell⟩ := hc
    injection e with e
    subst e
    have := hcell (k * 129 + j) v ((flat_at l hl hx hj1).trans hj)
    rwa [addr_plus, Nat.zero_add] at this
theorem sizeW : (Tryz.prog.info? 67).map (·.size) = some 129 := by kernel_rfl
theorem zeroW : (Tryz.prog.info? 67).map (fun i => (i.zero, i.size)) = some (some (.agg (Array.mk (.int .i64 0 :: List.replicate 128 (.int .u8 0)))), 129) := by kernel_rfl
theorem wrL_one (x : Nat × List UInt8) : ∀ v ∈ wrL x, v.oneCell' = true := by
  intro v hv
  rcases List.mem_cons.1 hv with rfl | hv
  · rfl
  · exact byteV_one _ v hv
/-- the types of a disk's memory -/
def DT (t : TypeId) : Prop := t = 62 ∨ t = 65 ∨ t = 67
/-- Of the memory that was there only a disk's has turned. -/
structure Far (w w' : World) : Prop where
  os : w'.os = w.os
  tape : w'.tape = w.tape
  output : w'.output = w.output
  size : w.heap.size ≤ w'.heap.size
  blk : ∀ k t cs, Blk w k t cs → ¬ DT t → Blk w' k t cs
theorem Far.refl (w : World) : Far w w := ⟨rfl, rfl, rfl, Nat.le_refl _, fun _ _ _ h _ => h⟩
theorem Far.trans {a b c : World} (h : Far a b) (k : Far b c) : Far a c := ⟨k.os.trans h.os, k.tape.trans h.tape, k.output.trans h.output, Nat.le_trans h.size k.size, fun i t cs hb ht => k.blk i t cs (h.blk i t cs hb ht) ht⟩
theorem Far.of_only {S : Nat → Prop} {w w' : World} (h : Only S w w') (hS : ∀ k t cs, S k → Blk w k t cs → DT t) : Far w w' := ⟨h.os, h.tape, h.output, h.size, fun k t cs hb ht => h.blk hb (fun hs => ht (hS k t cs hs hb))⟩
theorem Far.of_none {w w' : World} (h : Only (fun _ => False) w w') : Far w w' := Far.of_only h (fun _ _ _ h _ => h.elim)
theorem Far.owns {w w' : World} (h : Far w w') {base : Nat} {e : TypeId} {size n : Nat} {v : Value} {xs : List Value} (ho : w.ownsRow base e size v n xs) (he : ¬ DT e) : w'.ownsRow base e size v n xs := by
  refine ⟨ho.1, ?_⟩
  rcases ho.2 with hn | ⟨g, cap, cur, rfl, hb, hgg, rest⟩
  · exact .inl hn
  · exact .inr ⟨g, cap, cur, rfl, hb, h.blk g e cur hgg he, rest⟩
theorem Far.drewN {a w : World} (h : Far a w) (n : Nat) : Far a (w.drewN n) := ⟨h.os, h.tape, h.output, h.size, h.blk⟩
theorem Far.drew {a w : World} (h : Far a w) : Far a w.drew := ⟨h.os, h.tape, h.output, h.size, h.blk⟩
theorem blk_same {w : World} {g : Nat} {t t' : TypeId} {cs cs' : Array Value} (h : Blk w g t cs) (h' : Blk w g t' cs') : t = t' := by
  unfold Blk at h h'
  rw [h] at h'
  injection h' with h'
  injection h' with _ ht
theorem own_same {w : World} {base size n : Nat} {e t : TypeId} {v : Value} {xs : List Value} {cs : Array Value} {k : Nat} (h : w.ownsRow base e size v n xs) (hk : v.ownBlock = some k) (hb : Blk w k t cs) : t = e := by
  rcases h.2 with ⟨rfl, _⟩ | ⟨g, cap, cur, rfl, _, hh, _⟩
  · simp [Value.ownBlock] at hk
  · have : g = k := by simpa [Value.ownBlock] using hk
    subst this
    exact blk_same hb hh
end Go.Proofs.YthggliknnmhbdaaGreat
/- A disk of sectors: what a sync does. -/
namespace Go.Proofs.YthggliknnmhbdaaGreat
set_option maxRecDepth 100000
open Go.RowKit Go.WideShapes Go.ChangeShapes
set_option linter.unusedVariables false
attribute [local simp] frOf dstsOf frGo predsHold allHold Region.binds slotOf seen Is Act.put
def zeroWc : Array Value := Array.mk (.int .i64 0 :: List.replicate 128 (.int .u8 0))
theorem syncW_okl {n : Nat} {l : List (Nat × List UInt8)} {g : List (List UInt8)} (h : SecOk n l g) (k : Nat) : SecOk n l (syncW (l.take k) g) := by
  have := syncW_ok (l := l.take k) (g := g) (k := n) ⟨h.len, h.all, fun w hw => h.lo w (List.mem_of_mem_take hw)⟩
  exact ⟨this.len, this.all, h.lo⟩
theorem syncW_snoc {l : List (Nat × List UInt8)} {g : List (List UInt8)} {k : Nat} {x : Nat × List UInt8} (hx : l[k]? = some x) : syncW (l.take (k + 1)) g = keepW (syncW (l.take k) g) x 128 := by
  have : l.take (k + 1) = l.take k ++ [x] := by rw [List.take_add_one, hx]; rfl
  rw [this]
  simp [syncW]
set_option maxHeartbeats 1000000 in
theorem sync_any (p gs n : Nat) (g : List (List UInt8)) (l : List (Nat × List UInt8)) (A : Option Addr) (c : Nat) (fb : Bool) (left : Int) (B : Nat) (w : World) (D : DiskAt w p gs n g l A c fb left B) (hn : n ≤ 4096) (h0 : -4611686018427387904 ≤ left) (hst : (fb && decide (left = 0)) = false) (h1 : left ≤ 9223372036854775807) (hll : l.length ≤ 1000000) :
    Calls Tryz.prog 54 #[.pointer (some ⟨p, 0, none⟩)] w fun e w' => e = .returned (.int .i64 0) ∧ DiskAt w' p gs n (syncW l g) [] none 0 fb (left - 1) B ∧ Only (fun b => b = p ∨ b = gs) w w' := by
  have hpg : p ≠ gs := Blk.ne_ D.blk D.sec (by decide)
  obtain ⟨hzv, hzi⟩ := zero_of_info zeroW
  have HD := Lib.hid D
  have HI := Lib.hid hzi
  clear D hzi
  go_enter Tryz.func54, Tryz.ntmps54
  go_wp2_with fail
  refine (none_any _ _ _ _ _ _ _ _ HD.out.blk).mono ?_
  rintro e w1 ⟨rfl, rfl⟩
  go_wp2_with fail
  refine (burn_yes _ _ _ _ _ _ HD.out.blk hst h0 h1).mono ?_
  rintro e w1 ⟨rfl, rfl⟩
  obtain ⟨W, hW⟩ : ∃ W, W = w.setCell ⟨p, 3, none⟩ (.int .i64 (left - 1)) := ⟨_, rfl⟩
  rw [← hW]
  have hO : Only (fun b => b = p ∨ b = gs) w W := by rw [hW]; exact (Only.refl _ w).setCell (.inl (.inl rfl)) _
  have hP : Blk W p 62 #[.slice (some ⟨gs, 0, none⟩) n n, .slice A l.length c, .bool fb, .int .i64 (left - 1)] := by rw [hW]; exact HD.out.blk.set_ 3 _
  have hG : Blk W gs 65 (secL g).toArray := by rw [hW]; exact HD.out.sec.far (fun e => hpg e.symm) _
  have hR : W.ownsRow B 67 129 (.slice A l.length c) l.length (l.flatMap wrL) := by
    rw [hW]
    exact ((Only.refl (fun b => b = p) w).setCell (p := ⟨p, 3, none⟩) (.inl rfl) _).owns HD.out.own (fun k hk e => own_blk_ne HD.out.own HD.out.blk (by decide) (hk.trans (congrArg some e)))
  clear hW
  have c1 : W.cell? ⟨p, 1, none⟩ = some (.slice A l.length c) := hP.cell 1
  have HO := Lib.hid hO
  have HP := Lib.hid hP
  have HG := Lib.hid hG
  have HR := Lib.hid hR
  clear hO hP hG hR
  go_wp2
  go_loopw [17] (fun i wr => ∃ k : Nat, k ≤ l.length ∧ i = .int .i64 k ∧ Blk wr p 62 #[.slice (some ⟨gs, 0, none⟩) n n, .slice A l.length c, .bool fb, .int .i64 (left - 1)] ∧ Blk wr gs 65 (secL (syncW (l.take k) g)).toArray ∧
    wr.ownsRow B 67 129 (.slice A l.length c) l.length (l.flatMap wrL) ∧ Only (fun b => b = p ∨ b = gs) w wr) (fun i _ => l.length - (intOf i).toNat)
  case atStart => exact ⟨0, by omega, rfl, HP.out, HG.out, HR.out, HO.out⟩
  case round =>
    obtain ⟨k, hk, rfl, b1, b2, b3, b4⟩ := hrel
    by_cases hlt : k < l.length
    · obtain ⟨x, hx⟩ : ∃ x, l[k]? = some x := ⟨_, List.getElem?_eq_getElem hlt⟩
      obtain ⟨gl, rfl, hgl, hBl, hrg⟩ := loose_range b3 (fun y hy => (HD.out.ok.lo y hy).2) hx
      have hxo := HD.out.ok.lo x (List.mem_of_getElem? hx)
      have hlo : (0 : Int) ≤ (k : Int) := by omega
      have hhi : (k : Int) < (l.length : Int) := by omega
      have hld := run_loadAt_mid (P := Tryz.prog) wr gl (k * 129) 67 (wrL x) _ hrg Tryz.underlying67 rfl (by rw [wrL_len hxo.2]; exact sizeW)
      have hst := run_storeAt_new (P := Tryz.prog) wr 67 zeroWc (wrL x).toArray (by simp only [List.size_toArray, wrL_len hxo.2]; exact HI.out) (by simp only [List.size_toArray, wrL_len hxo.2]; rfl) (all_oneCell_toArray (wrL_one x))
      have hok := syncW_okl HD.out.ok k
      obtain ⟨W2, hW2⟩ : ∃ W2, W2 = (wr.alloc (.cells (wrL x).toArray 67)).drew := ⟨_, rfl⟩
      have d1 : Blk W2 p 62 #[.slice (some ⟨gs, 0, none⟩) n n, .slice (some ⟨gl, 0, none⟩) l.length c, .bool fb, .int .i64 (left - 1)] := by rw [hW2]; exact (b1.alloc _).drew
      have d2 : Blk W2 gs 65 (secL (syncW (l.take k) g)).toArray := by rw [hW2]; exact (b2.alloc _).drew
      have dO : Only (fun _ => False) wr W2 := by rw [hW2]; exact ((Only.refl _ wr).alloc _).drew
      have d3 := dO.owns b3 (fun _ _ h => h)
      have d4 : Only (fun b => b = p ∨ b = gs) w W2 := b4.trans (dO.mono fun _ h => h.elim)
      have d5 : Blk W2 wr.heap.size 67 (wrL x).toArray := by rw [hW2]; exact (Blk.new wr _ _).drew
      have hgsr : wr.heap.size ≠ gs := fun e => by have := b2.lt; omega
      have hkeep := keep_any gs n _ l x 128 W2 hok hxo hn d2
      rw [← syncW_snoc hx] at hkeep
      have HW2 := Lib.hid hW2
      clear hW2
      have HLT := Lib.hid hlt
      have hl2 : ∀ y, (y = W2 ∨ Only (fun b => b = gs) W2 y) → y.cell? ⟨p, 0, none⟩ = some (.slice (some ⟨gs, 0, none⟩) n n) ∧ (Instr.loadAt 67 (.pointer (some ⟨wr.heap.size, 0, none⟩))).run Tryz.prog y = .ok (.agg (wrL x).toArray) y := by
        intro y hy
        have hb : Only (fun b => b = gs) W2 y := by
          rcases hy with rfl | hy
          · exact Only.refl _ _
          · exact hy
        have e1 := hb.blk d1 hpg
        have e2 := hb.blk d5 hgsr
        refine ⟨e1.cell 0, run_loadAt_mid (P := Tryz.prog) y wr.heap.size 0 67 (wrL x) _ (fun j v hv => ?_) Tryz.underlying67 rfl (by rw [wrL_len hxo.2]; exact sizeW)⟩
        rw [Nat.zero_add, e2.cell]
        simpa using hv
      have HB1 := Lib.hid b1
      have HD1 := Lib.hid d1
      have HD2 := Lib.hid d2
      have HD3 := Lib.hid d3
      have HD4 := Lib.hid d4
      have HK := Lib.hid hkeep
      clear b1 b2 b3 b4 d1 d2 d3 d4 d5 dO hrg hkeep hok
      go_wp2_with (first | refine wpList_load_by rfl 67 (.tmp 19) rfl rfl hld ?_ | refine wpList_store_by rfl 67 (.tmp 4) (.tmp 20) rfl rfl rfl hst ?_)
      clear hld hst
      refine wp_region_st (by kernel_rfl) (fun ld y => if ld 5 = true then (Blk y gs 65 (secL (syncW (l.take (k + 1)) g)).toArray ∧ Only (fun b => b = gs) W2 y) else y = W2) [Is (.pointer (some ⟨p, 0, none⟩)), Is (.pointer (some ⟨p, 0, none⟩)), Is (.pointer (some ⟨p, 0, none⟩)), Is (.slice (some ⟨gs, 0, none⟩) n n), Is (.agg (wrL x).toArray), fun _ _ => True] (by kernel_rfl)
        ⟨is_stab _ _, is_stab _ _, is_stab _ _, is_stab _ _, is_stab _ _, (fun _ _ _ _ _ => trivial), trivial⟩ (by simp; exact HW2.out.symm) ⟨?_, ?_, ?_, ?_, ?_, ?_, trivial⟩ ?_
      · intro ld u w1 hi he hS hp K hK
        refine ord_plain rfl ?_
        simp at hp hK ⊢
        go_simp
        exact hK _ _ (by simpa [ldW] using hS) rfl
      · intro ld u w1 hi he hS hp K hK
        refine ord_plain rfl ?_
        simp at hp hK ⊢
        simp only [hp] at hK
        go_simp
        exact hK _ _ (by simpa [ldW] using hS) rfl
      · intro ld u w1 hi he hS hp K hK
        refine ord_plain rfl ?_
        simp at hp hK ⊢
        simp only [hp] at hK
        go_simp
        exact hK _ _ (by simpa [ldW] using hS) rfl
      · intro ld u w1 hi he hS hp K hK
        refine ord_plain rfl ?_
        simp at hp hK ⊢
        simp only [hp] at hK
        have hc := (hl2 w1 (by by_cases h5 : ld 5 = true <;> simp [h5] at hS <;> simp [hS])).1
        go_simp
        exact hK _ _ (by simpa [ldW] using hS) rfl
      · intro ld u w1 hi he hS hp K hK
        refine ord_plain rfl ?_
        simp at hp hK ⊢
        refine wp_load_by 67 (.tmp 4) rfl rfl (hl2 w1 (by by_cases h5 : ld 5 = true <;> simp [h5] at hS <;> simp [hS])).2 ?_
        exact hK _ _ (by simpa [ldW] using hS) rfl
      · intro ld u w1 hi he hS hp K hK
        refine ord_plain rfl ?_
        simp at hp hK ⊢
        obtain ⟨hp1, hp2⟩ := hp
        simp only [hp1, hp2] at hK
        simp [hi] at hS
        subst hS
        go_simp
        refine HK.out.mono ?_
        rintro e w2 ⟨rfl, k1, k2⟩
        refine hK _ _ ?_; simp [ldW]; exact ⟨k1, k2⟩
      · intro u w1 ld hld hS hp
        simp at hp ⊢
        have h5 := hld 5 (by decide)
        simp [h5] at hS
        obtain ⟨s1, s2⟩ := hS
        have e1 := s2.blk HD1.out hpg
        have e3 := s2.owns HD3.out (fun k hk e => own_blk_ne HD3.out HD2.out (by decide) (hk.trans (congrArg some e)))
        have e4 := HD4.out.trans (s2.mono (T := fun b => b = p ∨ b = gs) fun _ h => .inr h)
        have E1 := Lib.hid e1
        have E3 := Lib.hid e3
        have E4 := Lib.hid e4
        have S1 := Lib.hid s1
        clear e1 e3 e4 s1 s2 hl2
        go_wp2
        go_roundw
        case rel => exact ⟨k + 1, HLT.out, by go_num, E1.out, S1.out, E3.out, E4.out⟩
        case measure => have := HLT.out; simp [intOf]; omega
    · obtain rfl : k = l.length := by omega
      rw [List.take_length] at b2
      have f1 := b1.frozen 1
      have e1 : wr.cell? ⟨p, 1, none⟩ = some (.slice A l.length c) := b1.cell 1
      have B1 := Lib.hid b1
      have B2 := Lib.hid b2
      have B4 := Lib.hid b4
      clear b1 b2 b3 b4
      go_wp2
      go_ret
      refine ⟨rfl, ⟨B1.out.set_ 1 _, B2.out.far (fun e => hpg e.symm) _, World.ownsRow_nil _ _ _ _, HD.out.lo, ⟨(syncW_ok HD.out.ok).len, (syncW_ok HD.out.ok).all, by simp⟩⟩, B4.out.setCell (.inl (.inl rfl)) _⟩
end Go.Proofs.YthggliknnmhbdaaGreat
/- A disk of sectors: what a crash does. -/
namespace Go.Proofs.YthggliknnmhbdaaGreat
set_option maxRecDepth 100000
open Go.RowKit Go.WideShapes Go.ChangeShapes
set_option linter.unusedVariables false
attribute [local simp] frOf dstsOf frGo predsHold allHold Region.binds slotOf seen Is Act.put
end Go.Proofs.YthggliknnmhbdaaGreat
