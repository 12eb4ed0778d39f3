/- Operations that write: stores, copies. No conditions. -/
import Derived.Test.YtlpnhikoipkjbaaAbsJ
import Derived.Laws.Sem
set_option linter.unusedVariables false
namespace Go.Proofs.Ytlpnhikoipkjbaa.Abs
open Go Go.RowKit
noncomputable abbrev hp (H : PT AO) : Hp := fun b => PT.get b H
theorem hp_set (H : PT AO) (b : Pos) (o : AO) : hp (PT.set o b H) = (hp H).set b o := by
  funext q
  simp only [hp, Hp.set, PT.get_set]
theorem hp_del (H : PT AO) (b : Pos) : hp (PT.del b H) = (hp H).del b := by
  funext q
  simp only [hp, Hp.del, PT.get_del]
noncomputable def wrK {R : Type} : List AV → Nat → PT AV → (PT AV → R) → R
  | [], _, t, k => k t
  | v :: l, i, t, k => PT.setK v (pk i) t fun t => wrK l (i + 1) t k
theorem wrK_eq {R : Type} : ∀ (l : List AV) (i : Nat) (t : PT AV) (k : PT AV → R), wrK l i t k = k (fillT l i t)
  | [], i, t, k => rfl
  | v :: l, i, t, k => by simp only [wrK, PT.setK_eq, fillT]; rw [wrK_eq l (i + 1)]
/-- the value of one cell -/
def oneA : AV → Bool
  | .agg _ => false
  | .tup _ => false
  | _ => true
theorem oneA_conc {ρ : Ren} {v : AV} {u : Value} (h : oneA v = true) (hv : conc ρ v = some u) : u.oneCell' = true := by
  have key : (∀ cs, u ≠ .agg cs) → (∀ cs, u ≠ .tuple cs) → u.oneCell' = true := by
    intro h1 h2
    cases u <;> first | rfl | exact absurd rfl (h1 _) | exact absurd rfl (h2 _)
  cases v <;> first
    | (cases h; done)
    | (unfold conc at hv; injection hv with hv; subst hv; exact key (fun cs => (ρ.one _ cs).1) (fun cs => (ρ.one _ cs).2))
    | (unfold conc at hv; injection hv with hv; subst hv; rfl)
    | (unfold conc at hv; split at hv <;> first | (cases hv; done) | (split at hv <;> first | (cases hv; done) | (injection hv with hv; subst hv; rfl)) | (injection hv with hv; subst hv; first | rfl | (split <;> rfl)))
/-- which block a value leads to -/
def idOf : AV → Option Pos
  | .ptr b _ => some b
  | .slc b _ _ _ _ => some b
  | .slz b _ _ => some b
  | .map b => some b
  | _ => none
/-- nothing but what x leads to has turned -/
def Keep (x : AV) (H H' : PT AO) : Prop := ∀ q, idOf x ≠ some q → PT.get q H' = PT.get q H
def KeepN (x : AV) (n : Pos) (H H' : PT AO) : Prop := ∀ q, idOf x ≠ some q → q.nat < n.nat → PT.get q H' = PT.get q H
theorem Keep.refl (x : AV) (H : PT AO) : Keep x H H := fun _ _ => rfl
theorem Keep.n {x : AV} {H H' : PT AO} (h : Keep x H H') (n : Pos) : KeepN x n H H' := fun q e _ => h q e
theorem keep_set {x : AV} {H : PT AO} {b : Pos} {o : AO} (h : idOf x = some b) : Keep x H (PT.set o b H) := fun q e => by
  rw [PT.get_set, if_neg (fun e' => e (by rw [e']; exact h))]
/-- what a step yields -/
def Yields (r : Result Next) (u : Value) (w : World) : Prop := r = .ok (.value u) w ∨ (r = .ok .skip w ∧ u = undef)
section
variable {P : Program}
theorem run_storeRow (k : Nat) (t : TypeId) (fz : Nat × Nat) (off : Nat) : ∀ (vs : List Value) (i : Nat) (w : World) (cc : Array Value), w.heap[k]? = some (.cells cc t fz) →
    (∀ j, j < vs.length → off + i + j < cc.size ∧ ¬ (fz.1 ≤ off + i + j ∧ off + i + j < fz.2)) → (∀ v ∈ vs, v.oneCell' = true) →
    ∃ w' cc', (storeCells ⟨k, off, none⟩ vs i).run P w = .ok () w' ∧ w'.heap[k]? = some (.cells cc' t fz) ∧ cc'.size = cc.size ∧
      (∀ j, cc'[j]? = if off + i ≤ j ∧ j < off + i + vs.length then vs[j - (off + i)]? else cc[j]?) ∧ (∀ q, q ≠ k → w'.heap[q]? = w.heap[q]?) ∧
      w'.heap.size = w.heap.size ∧ w'.os = w.os ∧ w'.tape = w.tape ∧ w'.output = w.output
  | [], i, w, cc, hk, _, _ => ⟨w, cc, rfl, hk, rfl, fun j => by simp; omega, fun _ _ => rfl, rfl, rfl, rfl, rfl⟩
  | v :: vs, i, w, cc, hk, hc, h1 => by
    have h0 := hc 0 (by simp)
    simp only [Nat.add_zero] at h0
    have hcell : w.cell? ⟨k, off + i, none⟩ = some (cc[off + i]'h0.1) := by simp [World.cell?, hk, h0.1]
    have hfz : w.frozen? ⟨k, off + i, none⟩ = false := by
      obtain ⟨lo, hi⟩ := fz
      simp only [World.frozen?, hk, Bool.and_eq_false_iff, decide_eq_false_iff_not]
      have := h0.2
      simp only at this
      omega
    have hst : (store ((⟨k, off, none⟩ : Addr).add i) v).run P w = .ok () (w.setCell ⟨k, off + i, none⟩ v) := by
      rw [addr_add, run_store P w _ v _ (h1 v (by simp))]
      simp [hcell, hfz]
    have hk' : (w.setCell ⟨k, off + i, none⟩ v).heap[k]? = some (.cells (cc.setIfInBounds (off + i) v) t fz) := by
      simp [World.setCell, Array.getElem?_modify, hk]
    obtain ⟨w', cc', e1, e2, e3, e4, e5, e6, e7, e8, e9⟩ := run_storeRow k t fz off vs (i + 1) _ _ hk' (fun j hj => by
      have := hc (j + 1) (by simpa using hj)
      rw [show off + i + (j + 1) = off + (i + 1) + j by omega] at this
      simpa using this) (fun u hu => h1 u (by simp [hu]))
    refine ⟨w', cc', by simp only [storeCells, Sem.run_bind, hst, Result.andThen_ok, e1], e2, by rw [e3]; simp, fun j => ?_, fun q hq => ?_, by rw [e6]; simp [World.setCell], e7, e8, e9⟩
    · rw [e4]
      by_cases ha : off + (i + 1) ≤ j ∧ j < off + (i + 1) + vs.length
      · rw [if_pos ha, if_pos (by simp only [List.length_cons]; omega), show j - (off + i) = (j - (off + (i + 1))) + 1 by omega]
        simp
      · rw [if_neg ha]
        by_cases hb : j = off + i
        · subst hb
          rw [if_pos (by simp only [List.length_cons]; omega)]
          simp [h0.1]
        · rw [if_neg (by simp only [List.length_cons]; omega), Array.getElem?_setIfInBounds_ne (fun e => hb e.symm)]
    · rw [e5 q hq]
      exact Below.heap_setCell w ⟨k, off + i, none⟩ v q (fun e => hq e)
/-- cells that are written into a row -/
noncomputable def putK {R : Type} (x : AV) (vs : List AV) (H : PT AO) (k : PT AO → Option R) : Option R :=
  match x with
  | .ptr b o => (match PT.get b H with
    | some (.row cs n df es ty) => if o + vs.length ≤ n ∧ vs.all oneA = true then wrK vs o cs fun cs => PT.setK (.row cs n df es ty) b H k else none
    | _ => none)
  | _ => none
theorem allOne {ρ : Ren} : ∀ {l : List AV} {us : List Value}, l.all oneA = true → concs ρ l = some us → ∀ u ∈ us, u.oneCell' = true
  | [], us, _, h => by cases h; simp
  | v :: l, us, ha, h => by
    obtain ⟨y, ys, rfl, h1, h2⟩ := concs_cons h
    simp only [List.all_cons, Bool.and_eq_true] at ha
    intro u hu
    rcases List.mem_cons.1 hu with rfl | hu
    · exact oneA_conc ha.1 h1
    · exact allOne ha.2 h2 u hu
theorem putK_some {R : Type} {x : AV} {vs : List AV} {H : PT AO} {k : PT AO → Option R} {r : R} (h : putK x vs H k = some r) :
    ∃ H', k H' = some r ∧ Keep x H H' ∧ ∀ {ρ : Ren} {n : Pos} {w : World} {us : List Value} {u : Value}, Good ρ n (hp H) w → concs ρ vs = some us → conc ρ x = some u →
      ∃ a w', u = .pointer (some a) ∧ (storeCells a us).run P w = .ok () w' ∧ Good ρ n (hp H') w' ∧ Fr ρ n (hp H) w ρ n (hp H') w' := by
  unfold putK at h
  split at h
  · rename_i b o
    split at h
    · rename_i cs m df es hb
      split at h
      · rename_i hc
        rw [wrK_eq, PT.setK_eq] at h
        refine ⟨_, h, keep_set rfl, fun {ρ n w us u} hg hus hx => ?_⟩
        obtain ⟨kk, d, e, cc, t, fz, h1, h2, h3, h4⟩ := hg.cell hb
        obtain ⟨k', d', e', h1', rfl⟩ := conc_ptr hx
        rw [h1] at h1'; injection h1' with h1'; injection h1' with t1 t2; injection t2 with t2 t3
        subst t1; subst t2; subst t3
        have hlen := concs_len hus
        obtain ⟨w', cc', e1, e2, e3, e4, e5, e6, e7, e8, e9⟩ := run_storeRow (P := P) kk t fz (d + o) us 0 w cc h2 (fun j hj => by
          obtain ⟨v, y, _, _, f3, f4⟩ := h3.1 (o + j) (by omega)
          have := (Array.getElem?_eq_some_iff.1 f3).1
          rw [show d + (o + j) = d + o + 0 + j by omega] at this f4
          exact ⟨this, f4⟩) (allOne hc.2 hus)
        rw [hp_set]
        refine ⟨_, w', rfl, e1, hg.turn (g := hp H) hb h1 e2 e5 e6 e7 e8 e9 ⟨fun i hi => ?_, fun i hi => ?_, h3.2.2⟩⟩
        · obtain ⟨v, y, f1, f2, f3, f4⟩ := h3.1 i hi
          simp only [Nat.add_zero] at e4
          by_cases hio : o ≤ i ∧ i < o + vs.length
          · have hj : i - o < vs.length := by omega
            obtain ⟨y', g1, g2⟩ := concs_get hus (List.getElem?_eq_getElem hj)
            refine ⟨vs[i - o], y', ?_, g2, ?_, f4⟩
            · unfold cellA
              rw [fillT_get, if_pos hio, List.getElem?_eq_getElem hj]
            · rw [e4, if_pos (by omega), show d + i - (d + o) = i - o by omega]
              exact g1
          · refine ⟨v, y, ?_, f2, ?_, f4⟩
            · unfold cellA at f1 ⊢
              rw [fillT_get, if_neg hio]
              exact f1
            · rw [e4, if_neg (by omega)]
              exact f3
        · have := h3.2.1 i hi
          exact ⟨by rw [e3]; exact this.1, this.2⟩
      · cases h
    · cases h
  · cases h
noncomputable def storeK {R : Type} (P : Program) (t : TypeId) (x v : AV) (H : PT AO) (k : PT AO → Option R) : Option R :=
  match sizeT P t with
  | some z => if (cellsA v).length = z then putK x (cellsA v) H k else none
  | none => none
theorem storeK_some {R : Type} {t : TypeId} {x v : AV} {H : PT AO} {k : PT AO → Option R} {r : R} (h : storeK P t x v H k = some r) :
    ∃ H', k H' = some r ∧ Keep x H H' ∧ ∀ {ρ : Ren} {n : Pos} {w : World} {u ux : Value}, Good ρ n (hp H) w → conc ρ v = some u → conc ρ x = some ux →
      ∃ w', (Instr.storeAt t ux u).run P w = .ok () w' ∧ Good ρ n (hp H') w' ∧ Fr ρ n (hp H) w ρ n (hp H') w' := by
  unfold storeK at h
  split at h
  · rename_i z hz
    split at h
    · rename_i hl
      obtain ⟨H', h1, hkp, h2⟩ := putK_some (P := P) h
      refine ⟨H', h1, hkp, fun {ρ n w u ux} hg hv hx => ?_⟩
      have hc := cells_conc hv
      obtain ⟨a, w', rfl, e1, e2, e3⟩ := h2 hg hc hx
      refine ⟨w', ?_, e2, e3⟩
      have hlen := concs_len hc
      simp only [Array.length_toList] at hlen
      simp [Instr.storeAt, Instr.sureAddr, storeVar, run_sizeOf hz, hlen, hl, e1]
    · cases h
  · cases h
/-- the first cells of a slice or a string -/
noncomputable def firstA (z n : Nat) (x : AV) (g : Hp) : Option (List AV) :=
  match x with
  | .slc b o _ _ _ => (match g b with | some (.row cs m df _ _) => if o + n * z ≤ m then rdCells cs df (n * z) o else none | _ => none)
  | .slz .. => if n * z = 0 then some [] else none
  | .nils => some []
  | .str l => some ((l.take n).map fun (c : Nat) => AV.int .u8 (Int.ofNat c))
  | _ => none
theorem run_firstA {ρ : Ren} {n : Pos} {g : Hp} {w : World} {z m : Nat} {x : AV} {u : Value} {l : List AV} (hg : Good ρ n g w) (h : firstA z m x g = some l) (hx : conc ρ x = some u) :
    ∃ us, concs ρ l = some us ∧ (Builtin.firstCells z m u).run P w = .ok us.toArray w := by
  unfold firstA at h
  split at h
  · rename_i b o ln c e
    split at h
    · rename_i cs mm df es hb
      split at h
      · rename_i hc
        obtain ⟨kk, d, e', cc, t, fz, h1, h2, h3, h4⟩ := hg.cell hb
        obtain ⟨k', d', e'', h1', rfl⟩ := conc_slc hx
        rw [h1] at h1'; injection h1' with h1'; injection h1' with t1 t2; injection t2 with t2 t3
        subst t1; subst t2; subst t3
        obtain ⟨us, h5, h6, h7⟩ := rdCells_conc h4 (m * z) o h hc
        refine ⟨us, h5, ?_⟩
        have hr := run_loadCells_list (P := P) w ⟨kk, d + o, none⟩ us (fun j y e => by rw [addr_add]; exact h7 j y e)
        rw [h6] at hr
        exact hr
      · cases h
    · cases h
  · split at h
    · rename_i h0
      injection h with h; subst h
      obtain ⟨a, c, rfl⟩ := conc_slz' hx
      exact ⟨[], rfl, by simp [Builtin.firstCells, h0, loadCells, loadCellsFrom]⟩
    · cases h
  · injection h with h; subst h
    cases hx
    exact ⟨[], rfl, by simp [Builtin.firstCells]⟩
  · rename_i s
    injection h with h; subst h
    obtain ⟨hl, rfl⟩ := conc_str hx
    refine ⟨(s.take m).map fun (c : Nat) => Value.int .u8 (Int.ofNat c), ?_, ?_⟩
    · refine concs_of (by simp) fun i hi => ?_
      have hi' : i < (s.take m).length := by simpa using hi
      exact ⟨.int .u8 (Int.ofNat (s.take m)[i]), .int .u8 (Int.ofNat (s.take m)[i]), by rw [List.getElem?_map, List.getElem?_eq_getElem hi']; rfl, by rw [List.getElem?_map, List.getElem?_eq_getElem hi']; rfl, rfl⟩
    · have hd : ((strOf s).extract 0 m).data = ((s.take m).map UInt8.ofNat).toArray := by
        rw [strOf_cut]; simp [strOf]
      simp only [Builtin.firstCells, hd, Sem.run_pure]
      congr 1
      apply Array.ext'
      simp only [Array.toList_map, List.map_map]
      apply List.map_congr_left
      intro c hc
      have : c < 256 := by simpa using List.all_eq_true.1 hl c (List.mem_of_mem_take hc)
      simp [UInt8.toNat_ofNat', Nat.mod_eq_of_lt this]
  · cases h
def lenL : AV → Option Nat
  | .slc _ _ n _ _ => some n
  | .slz .. => some 0
  | .nils => some 0
  | .str l => some l.length
  | _ => none
theorem run_lenL {ρ : Ren} {x : AV} {u : Value} {n : Nat} (h : lenL x = some n) (hx : conc ρ x = some u) (w : World) : (Builtin.lenOf u).run P w = .ok n w := by
  unfold lenL at h
  split at h
  · injection h with h; subst h; obtain ⟨_, _, _, _, rfl⟩ := conc_slc hx; simp [Builtin.lenOf]
  · injection h with h; subst h; obtain ⟨_, _, rfl⟩ := conc_slz' hx; simp [Builtin.lenOf]
  · injection h with h; subst h; cases hx; simp [Builtin.lenOf]
  · injection h with h; subst h; obtain ⟨_, rfl⟩ := conc_str hx; simp [Builtin.lenOf, strOf_size]
  · cases h
def headA : AV → Option AV
  | .slc b o _ _ _ => some (.ptr b o)
  | _ => none
noncomputable def copyK {R : Type} (P : Program) (t : TypeId) (d s : AV) (H : PT AO) (k : AV → PT AO → Option R) : Option R :=
  match P.underlying t with
  | some (.slice e) => (match sizeT P e, lenL d, lenL s with
    | some z, some nd, some ns => forceN (Nat.min ns nd) fun n => (if n = 0 then (match d with | .str _ => none | _ => k (.int .i64 0) H) else
        (match firstA z n s (hp H), headA d with | some l, some x => putK x l H fun H => k (.int .i64 n) H | _, _ => none))
    | _, _, _ => none)
  | _ => none
theorem lenL_slice {ρ : Ren} {x : AV} {u : Value} {n : Nat} (h : lenL x = some n) (hs : ∀ l, x ≠ .str l) (hx : conc ρ x = some u) : ∃ a c, u = .slice a n c := by
  unfold lenL at h
  split at h
  · injection h with h; subst h; obtain ⟨_, _, _, _, rfl⟩ := conc_slc hx; exact ⟨_, _, rfl⟩
  · injection h with h; subst h; obtain ⟨_, _, rfl⟩ := conc_slz' hx; exact ⟨_, _, rfl⟩
  · injection h with h; subst h; cases hx; exact ⟨_, _, rfl⟩
  · exact (hs _ rfl).elim
  · cases h
theorem firstA_zero {z : Nat} {x : AV} {g : Hp} {n : Nat} (h : lenL x = some n) : ∀ {ρ : Ren} {u : Value} (w : World), conc ρ x = some u → (Builtin.firstCells z 0 u).run P w = .ok #[] w := by
  intro ρ u w hx
  unfold lenL at h
  split at h
  · obtain ⟨_, _, _, _, rfl⟩ := conc_slc hx; simp [Builtin.firstCells, loadCells, loadCellsFrom]
  · obtain ⟨_, _, rfl⟩ := conc_slz' hx; simp [Builtin.firstCells, loadCells, loadCellsFrom]
  · cases hx; simp [Builtin.firstCells]
  · obtain ⟨_, rfl⟩ := conc_str hx
    simp [Builtin.firstCells]
  · cases h
theorem copyK_some {R : Type} {t t2 ty : TypeId} {d s : AV} {H : PT AO} {k : AV → PT AO → Option R} {r : R} (h : copyK P t d s H k = some r) :
    ∃ v H', k v H' = some r ∧ Keep d H H' ∧ ∀ {ρ : Ren} {n : Pos} {w : World} {ud us : Value}, Good ρ n (hp H) w → conc ρ d = some ud → conc ρ s = some us →
      ∃ u w', conc ρ v = some u ∧ (Builtin.copy_ #[t, t2] ty #[ud, us]).run P w = .ok u w' ∧ Good ρ n (hp H') w' ∧ Fr ρ n (hp H) w ρ n (hp H') w' := by
  unfold copyK at h
  split at h
  · rename_i e hu
    split at h
    · rename_i z nd ns hz hnd hns
      rw [forceN_eq] at h
      split at h
      · rename_i h0
        split at h
        · cases h
        · rename_i hnot
          refine ⟨_, _, h, .refl _ _, fun {ρ n w ud us} hg hd hs => ?_⟩
          obtain ⟨a, c, rfl⟩ := lenL_slice hnd (fun l e => hnot l e) hd
          refine ⟨_, w, rfl, ?_, hg, Fr.refl _ _ _ _ hg.ids⟩
          have h1 := run_lenL (P := P) hns hs w
          have h2 := firstA_zero (P := P) (z := z) (g := hp H) hns w hs
          simp only [Builtin.copy_]
          cases a <;> simp [run_underlying hu, h1, h0, run_sizeOf hz, h2, storeCells, goInt]
      · rename_i h0
        split at h
        · rename_i l x hl hx
          obtain ⟨H', h1, hkp, h2⟩ := putK_some (P := P) h
          have hsl : ∃ b o ln c ex, d = .slc b o ln c ex ∧ x = .ptr b o := by
            unfold headA at hx
            split at hx
            · injection hx with hx; exact ⟨_, _, _, _, _, rfl, hx.symm⟩
            · cases hx
          obtain ⟨b, o, ln, c, ex, rfl, rfl⟩ := hsl
          refine ⟨_, _, h1, hkp, fun {ρ n w ud us} hg hd hs => ?_⟩
          obtain ⟨vs, h3, h4⟩ := run_firstA (P := P) hg hl hs
          obtain ⟨kk, dd, xx, hb, rfl⟩ := conc_slc hd
          obtain ⟨a, w', e0, e1, e2, e3⟩ := h2 hg h3 (ptr_conc hb)
          injection e0 with e0; injection e0 with e0
          subst e0
          injection hnd with hnd
          subst hnd
          have h5 := run_lenL (P := P) hns hs w
          refine ⟨_, w', rfl, ?_, e2, e3⟩
          simp [Builtin.copy_, run_underlying hu, h5, run_sizeOf hz, h4, e1, goInt]
        · cases h
    · cases h
  · cases h
end
end Go.Proofs.Ytlpnhikoipkjbaa.Abs
