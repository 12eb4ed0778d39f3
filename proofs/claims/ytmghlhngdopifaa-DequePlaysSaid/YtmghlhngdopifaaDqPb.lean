/- DequePlays: the state of its loops, in words. -/
import Derived.Test.YtmghlhngdopifaaDqPa
import Derived.Test.YtmghlhngdopifaaDqDd
namespace Go.Proofs.Ytmghlhngdopifaa
open Go.RowKit
set_option linter.unusedVariables false
/-- the document's deque, its memory and all acts on it -/
structure RMach (w : World) (B m d : Nat) (n : Int) (v : Value) (C : List Int) (qs : List Nat) (acts : List PAct) (on : Option Nat) : Prop where
  mem : DMem w B m n v C
  dq : Blk w d 84 #[.pointer (some ⟨m, 0, none⟩), .int .i64 0, onv qs on]
  act : ∀ (i : Nat) a, acts[i]? = some a → ∃ q x, qs[i]? = some q ∧ Blk w q 62 (rarr { a with v := x } d) ∧ (a.kind = 0 → x = a.v)
  len : qs.length = acts.length
  nodup : qs.Nodup
  bd : B ≤ d
  ge : ∀ q ∈ qs, B ≤ q
section
variable {w w' : World} {B m d z p q : Nat} {n : Int} {v v' : Value} {C : List Int} {ps qs : List Nat} {acts : List PAct} {on : Option Nat} {a : PAct}
theorem RMach.stay {S : Nat → Prop} (h : RMach w B m d n v C qs acts on) (ho : Only S w w') (hS : ∀ x (cs : Array Value) t, S x → Blk w x t cs → t ≠ 56 ∧ t ≠ 84 ∧ t ≠ 62) (hv : ∀ k, v.ownBlock = some k → ¬ S k) : RMach w' B m d n v C qs acts on :=
  ⟨h.mem.only ho (fun e => (hS _ _ _ e h.mem.blk).1 rfl) hv, ho.blk h.dq (fun e => (hS _ _ _ e h.dq).2.1 rfl), fun i a ha => by
    obtain ⟨q, x, h1, h2, h3⟩ := h.act i a ha
    exact ⟨q, x, h1, ho.blk h2 (fun e => (hS _ _ _ e h2).2.2 rfl), h3⟩, h.len, h.nodup, h.bd, h.ge⟩
/-- what a deque does not look at may turn, numbers' rows too -/
theorem MachW.stay2 {S : Nat → Prop} (h : MachW w B m d z n v C ps acts on) (ho : Only S w w') (hS : ∀ x (cs : Array Value) t, S x → Blk w x t cs → t ≠ 72 ∧ t ≠ 74 ∧ t ≠ 79 ∧ (t = 37 → no12 acts ∨ 2 ≤ cs.size) ∧ (t = 2 → 2 ≤ cs.size)) (hv : ∀ k, v.ownBlock = some k → ¬ S k) : MachW w' B m d z n v C ps acts on := by
  refine ⟨⟨h.dq.mem.only ho (fun e => (hS _ _ _ e h.dq.mem.blk).1 rfl) hv, ho.blk h.dq.blk (fun e => (hS _ _ _ e h.dq.blk).2.1 rfl), h.dq.base⟩, fun i a ha => ?_, h.len, h.nodup, h.ge⟩
  obtain ⟨p, hp, ⟨⟨dv, h1, h2⟩, h3, h4, h5⟩⟩ := h.act i a ha
  refine ⟨p, hp, ⟨⟨dv, ho.blk h1 (fun e => (hS _ _ _ e h1).2.2.1 rfl), ?_⟩, h3, h4, h5⟩⟩
  unfold Does at h2 ⊢
  split at h2
  · rename_i h0
    rw [if_pos h0]
    split at h2
    · rename_i hk
      rw [if_pos hk]
      obtain ⟨ba, bv, e, k1, k2, k3⟩ := h2
      refine ⟨ba, bv, e, ho.blk k1 (fun e => ?_), ho.blk k2 (fun e => ?_), k3⟩
      · rcases (hS _ _ _ e k1).2.2.2.1 rfl with hn | hn
        · exact hn i a ha h0 hk.1 hk.2
        · simp at hn
      · have := (hS _ _ _ e k2).2.2.2.2 rfl
        simp at this
    · rename_i hk
      rw [if_neg hk]
      exact h2
  · rename_i h0
    rw [if_neg h0]
    exact h2
theorem popS_v {dd : Int} {x : Int} : popS dd C { a with v := x } = { (popS dd C a) with a := { (popS dd C a).a with v := x } } := by
  obtain ⟨kind, av, at', b, t, aw, an, nw, ii, rd, told, got⟩ := a
  unfold popS
  simp only
  split <;> (try split) <;> rfl
theorem stealS_v {dd : Int} {x : Int} : stealS dd C { a with v := x } = { (stealS dd C a) with a := { (stealS dd C a).a with v := x } } := by
  obtain ⟨kind, av, at', b, t, aw, an, nw, ii, rd, told, got⟩ := a
  unfold stealS
  simp only
  split <;> (try split) <;> rfl
theorem pstep_v {dd : Int} {x : Int} (hk : a.kind ≠ 0) : pstep dd C { a with v := x } = { (pstep dd C a) with a := { (pstep dd C a).a with v := x } } := by
  obtain ⟨kind, av, at', b, t, aw, an, nw, ii, rd, told, got⟩ := a
  match kind, hk with
  | 0, hk => exact absurd rfl hk
  | 1, _ => exact popS_v (a := ⟨1, av, at', b, t, aw, an, nw, ii, rd, told, got⟩)
  | k + 2, _ => exact stealS_v (a := ⟨k + 2, av, at', b, t, aw, an, nw, ii, rd, told, got⟩)
theorem lt_own {base size k : Nat} {e : TypeId} {k' : Nat} {xs : List Value} (h : w.ownsRow base e size v k xs) (hv : v.ownBlock = some k') : k' < w.heap.size := by
  rcases owns_form h with ⟨rfl, _⟩ | ⟨g, cap, rfl, _, _, _, hlt⟩
  · cases hv
  · cases hv; exact hlt
/-- a step of an act of the document -/
theorem rmstep_any (B m d q i : Nat) (n : Int) (v : Value) (C : List Int) (qs : List Nat) (acts : List PAct) (on : Option Nat) (a : PAct) (w : World) (h : RMach w B m d n v C qs acts on) (hn : n + 3 ≤ 4611686018427387904) (ha : acts[i]? = some a) (hq : qs[i]? = some q) (h0 : a.told = 0) (g0 : a.got = 0) (hi : a.kind = 1 → a.at_ ≤ 7 → a.i = 0) (hS : Safe 0 C a) (hV : Valid a) :
    Calls Try.prog 20 #[.pointer (some ⟨q, 0, none⟩)] w fun e w' => e = .returned (.tuple #[.int .u8 ((pstep (0 : Nat) C a).what : Int), .int .i64 (pstep (0 : Nat) C a).val, .int .i64 0]) ∧
      ∃ v', RMach w' B m d (n + cnt a) v' (pstep (0 : Nat) C a).C qs (acts.set i (pstep (0 : Nat) C a).a) on ∧ Only (fun x => mine m v x ∨ x = q) w w' ∧ (∀ k, v'.ownBlock = some k → v.ownBlock = some k ∨ w.heap.size ≤ k) := by
  obtain ⟨q', x, hq', hb, hx⟩ := h.act i a ha
  have hqe : q' = q := by rw [hq] at hq'; exact (Option.some.inj hq').symm
  subst hqe
  have hkk := (pstep_told (d := ((0 : Nat) : Int)) (C := C) h0 g0).2.2.1
  have hstep : ∃ x', (pstep ((0 : Nat) : Int) C { a with v := x }).what = (pstep (0 : Nat) C a).what ∧ (pstep ((0 : Nat) : Int) C { a with v := x }).val = (pstep (0 : Nat) C a).val ∧ (pstep ((0 : Nat) : Int) C { a with v := x }).C = (pstep (0 : Nat) C a).C ∧ (pstep ((0 : Nat) : Int) C { a with v := x }).a = { (pstep (0 : Nat) C a).a with v := x' } ∧ ((pstep (0 : Nat) C a).a.kind = 0 → x' = (pstep (0 : Nat) C a).a.v) := by
    by_cases hk : a.kind = 0
    · have := hx hk
      subst this
      exact ⟨(pstep (0 : Nat) C a).a.v, rfl, rfl, rfl, rfl, fun _ => rfl⟩
    · rw [pstep_v hk]
      exact ⟨x, rfl, rfl, rfl, rfl, fun e => absurd (hkk.symm.trans e) hk⟩
  obtain ⟨x', e1, e2, e3, e4, e5⟩ := hstep
  refine (rstep_any B m d q' n v (onv qs on) C { a with v := x } w (RStp.refl h.mem h.dq hb) hn hS h0 g0 hi hV).mono ?_
  rintro e w' ⟨rfl, v', s⟩
  rw [e1, e2]
  rw [e3, e4] at s
  refine ⟨rfl, v', ⟨s.mem, s.dq, fun j b hj => ?_, by rw [List.length_set]; exact h.len, h.nodup, h.bd, h.ge⟩, s.only, s.row⟩
  by_cases hji : j = i
  · subst hji
    rw [getElem?_set_same ha] at hj
    cases hj
    exact ⟨q', x', hq, s.act, e5⟩
  · rw [getElem?_set_other hji] at hj
    obtain ⟨q2, x2, k1, k2, k3⟩ := h.act j b hj
    refine ⟨q2, x2, k1, s.only.blk k2 ?_, k3⟩
    rintro ((e | e) | e)
    · exact Blk.ne_ k2 h.mem.blk (by decide) e
    · exact own_blk_ne h.mem.own k2 (by decide) e
    · exact nodup_ne h.nodup hq k1 hji e
/-- an act of the document begins -/
theorem RMach.begin_ {kind : Nat} {x x' : Int} (h : RMach w B m d n v C qs acts on) (hon : ∀ i, on = some i → i < acts.length) (hb : RBegun d kind x m (onv qs on) w w') (hx : kind = 0 → x = x') :
    RMach w' B m d n v C (qs ++ [w.heap.size]) (acts ++ [newA kind x']) (if kind = 2 then on else some acts.length) := by
  obtain ⟨h1, h2, h3⟩ := hb
  have hlt : ∀ q ∈ qs, q < w.heap.size := by
    intro q hq
    obtain ⟨i, hi⟩ := List.getElem?_of_mem hq
    have hl := (List.getElem?_eq_some_iff.1 hi).1
    rw [h.len] at hl
    obtain ⟨q', y, k1, k2, _⟩ := h.act i _ (List.getElem?_eq_getElem hl)
    rw [hi] at k1
    cases k1
    exact k2.lt
  refine ⟨h.mem.only h3 (fun e => Blk.ne_ h.mem.blk h.dq (by decide) e) (fun k hk e => own_blk_ne h.mem.own h.dq (by decide) (e ▸ hk)), ?_, fun i a hi => ?_, by simp [h.len], ?_, h.bd, fun q hq => ?_⟩
  · have : onv (qs ++ [w.heap.size]) (if kind = 2 then on else some acts.length) = if kind = 2 then onv qs on else .pointer (some ⟨w.heap.size, 0, none⟩) := by
      split
      · exact onv_append h.len hon _
      · simp only [onv]
        rw [List.getD_eq_getElem?_getD, ← h.len]
        simp
    rw [this]
    exact h2
  · rcases get_append hi with hi | ⟨rfl, rfl⟩
    · obtain ⟨q, y, k1, k2, k3⟩ := h.act i a hi
      exact ⟨q, y, by rw [List.getElem?_append_left (List.getElem?_eq_some_iff.1 k1).1]; exact k1, h3.blk k2 (fun e => Blk.ne_ k2 h.dq (by decide) e), k3⟩
    · exact ⟨w.heap.size, x, by rw [← h.len]; simp, h1, fun hk => hx hk⟩
  · rw [List.nodup_append]
    refine ⟨h.nodup, by simp, fun p hp q hq e => ?_⟩
    simp at hq
    subst hq e
    exact absurd (hlt _ hp) (Nat.lt_irrefl _)
  · rcases List.mem_append.1 hq with hq | hq
    · exact h.ge q hq
    · simp at hq
      subst hq
      have := h.bd
      have := h.dq.lt
      omega
theorem RMach.free (h : RMach w B m d n v C qs acts on) (hf : own acts on = none) (hon : ∀ i, on = some i → i < acts.length) : onv qs on = .pointer none ∨ ∃ q a, onv qs on = .pointer (some ⟨q, 0, none⟩) ∧ Blk w q 62 (rarr a d) ∧ a.told ≠ 0 := by
  cases on with
  | none => exact .inl rfl
  | some i =>
    have hi := hon i rfl
    obtain ⟨q, x, hq, hb, _⟩ := h.act i _ (List.getElem?_eq_getElem hi)
    have ht : acts[i].told ≠ 0 := fun e => by
      simp only [own, List.getElem?_eq_getElem hi, e, if_true] at hf
      cases hf
    refine .inr ⟨q, _, ?_, hb, ht⟩
    simp only [onv]
    rw [List.getD_eq_getElem?_getD, hq]
    rfl
theorem RMach.busy {b : PAct} (h : RMach w B m d n v C qs acts on) (hf : own acts on = some b) : ∃ q a, onv qs on = .pointer (some ⟨q, 0, none⟩) ∧ Blk w q 62 (rarr a d) ∧ a.told = 0 := by
  cases on with
  | none => cases hf
  | some i =>
    have hi : ∃ b, acts[i]? = some b ∧ b.told = 0 := by
      simp only [own] at hf
      split at hf
      · cases hf
      · rename_i b hb
        split at hf
        · rename_i h0; exact ⟨b, hb, h0⟩
        · cases hf
    obtain ⟨b, hb, h0⟩ := hi
    obtain ⟨q, x, hq, hb2, _⟩ := h.act i _ hb
    refine ⟨q, _, ?_, hb2, h0⟩
    simp only [onv]
    rw [List.getD_eq_getElem?_getD, hq]
    rfl
end
structure PlayP (y : World) (sq : List (Nat × Array Value)) (B m d m2 d2 : Nat) (va vb : Value) (xa xb : List Value) (n : Int) (v : Value) (C : List Int) (ps : List Nat) (acts : List PAct) (on : Option Nat) (n2 : Int) (v2 : Value) (C2 : List Int) (qs : List Nat) (bcts : List PAct) (on2 : Option Nat) : Prop where
  mw : MachW y B m d 0 n v C ps acts on
  rm : RMach y B m2 d2 n2 v2 C2 qs bcts on2
  ra : y.ownsRow B 37 1 va xa.length xa
  rb : y.ownsRow B 60 1 vb xb.length xb
  sep : ∀ k, v.ownBlock = some k → ¬ (v2.ownBlock = some k)
  ok : no12 acts ∨ 2 ≤ xa.length
  sb : ∀ p ∈ sq, Blk y p.1 36 p.2
  c2 : 2 ≤ C2.length
theorem typesP : ¬ Dts 60 ∧ 60 ≠ 37 ∧ 36 ≠ 60 ∧ ¬ Dts 36 := by
  unfold Dts
  decide
section
variable {y y' : World} {sq : List (Nat × Array Value)} {B m d m2 d2 : Nat} {va vb va' : Value} {xa xb : List Value} {n : Int} {v : Value} {C : List Int} {ps : List Nat} {acts : List PAct} {on : Option Nat} {n2 : Int} {v2 : Value} {C2 : List Int} {qs : List Nat} {bcts : List PAct} {on2 : Option Nat}
theorem PlayP.keep (h : PlayP y sq B m d m2 d2 va vb xa xb n v C ps acts on n2 v2 C2 qs bcts on2) (o : Only (fun _ => False) y y') : PlayP y' sq B m d m2 d2 va vb xa xb n v C ps acts on n2 v2 C2 qs bcts on2 :=
  ⟨h.mw.stay2 o (fun _ _ _ e => e.elim) (fun _ _ e => e), h.rm.stay o (fun _ _ _ e => e.elim) (fun _ _ e => e), o.owns h.ra (fun _ _ e => e), o.owns h.rb (fun _ _ e => e), h.sep, h.ok, fun p hp => o.blk (h.sb p hp) (fun e => e), h.c2⟩
theorem PlayP.appA (h : PlayP y sq B m d m2 d2 va vb xa xb n v C ps acts on n2 v2 C2 qs bcts on2) {ob : Obj} (hg : (y.alloc ob).grownBy y' va.ownBlock) {u : Value} (ho : y'.ownsRow B 37 1 va' (xa.length + 1) (xa ++ [u])) : PlayP y' sq B m d m2 d2 va' vb (xa ++ [u]) xb n v C ps acts on n2 v2 C2 qs bcts on2 := by
  have o : Only (fun x => va.ownBlock = some x) y y' := ((Only.refl _ y).alloc ob).grown hg (fun k hk => .inl hk)
  refine ⟨h.mw.stay2 o (fun x cs t hx hb => ?_) (fun k hk => own_own_ne h.mw.dq.mem.own h.ra (by decide) k hk), h.rm.stay o (fun x cs t hx hb => ?_) (fun k hk => own_own_ne h.rm.mem.own h.ra (by decide) k hk), by simpa using ho, o.owns h.rb (fun k hk => own_own_ne h.rb h.ra typesP.2.1 k hk), h.sep, ?_, fun p hp => o.blk (h.sb p hp) (fun e => notDts2.2.1 (own_blk h.ra e (h.sb p hp)).1), h.c2⟩
  · obtain ⟨rfl, hn⟩ := own_blk h.ra hx hb
    refine ⟨by decide, by decide, by decide, fun _ => ?_, fun e => absurd e (by decide)⟩
    rcases h.ok with k | k
    · exact .inl k
    · exact .inr (by omega)
  · obtain ⟨rfl, hn⟩ := own_blk h.ra hx hb
    exact ⟨by decide, by decide, by decide⟩
  · rcases h.ok with k | k
    · exact .inl k
    · exact .inr (by simp; omega)
theorem PlayP.appB (h : PlayP y sq B m d m2 d2 va vb xa xb n v C ps acts on n2 v2 C2 qs bcts on2) {ob : Obj} (hg : (y.alloc ob).grownBy y' vb.ownBlock) {u : Value} (ho : y'.ownsRow B 60 1 va' (xb.length + 1) (xb ++ [u])) : PlayP y' sq B m d m2 d2 va va' xa (xb ++ [u]) n v C ps acts on n2 v2 C2 qs bcts on2 := by
  have o : Only (fun x => vb.ownBlock = some x) y y' := ((Only.refl _ y).alloc ob).grown hg (fun k hk => .inl hk)
  refine ⟨h.mw.stay2 o (fun x cs t hx hb => ?_) (fun k hk => own_own_ne h.mw.dq.mem.own h.rb (by decide) k hk), h.rm.stay o (fun x cs t hx hb => ?_) (fun k hk => own_own_ne h.rm.mem.own h.rb (by decide) k hk), o.owns h.ra (fun k hk => own_own_ne h.ra h.rb (fun e => typesP.2.1 e.symm) k hk), by simpa using ho, h.sep, h.ok, fun p hp => o.blk (h.sb p hp) (fun e => typesP.2.2.1 (own_blk h.rb e (h.sb p hp)).1), h.c2⟩
  · obtain ⟨rfl, hn⟩ := own_blk h.rb hx hb
    exact ⟨by decide, by decide, by decide, fun e => absurd e (by decide), fun e => absurd e (by decide)⟩
  · obtain ⟨rfl, hn⟩ := own_blk h.rb hx hb
    exact ⟨by decide, by decide, by decide⟩
/-- something of the program's deque has turned -/
theorem PlayP.turnP {n' : Int} {v' : Value} {C' : List Int} {ps' : List Nat} {acts' : List PAct} {on' : Option Nat} {S : Nat → Prop} (h : PlayP y sq B m d m2 d2 va vb xa xb n v C ps acts on n2 v2 C2 qs bcts on2) (f : Far y y') (mw : MachW y' B m d 0 n' v' C' ps' acts' on') (ok : no12 acts' ∨ 2 ≤ xa.length) (o : Only S y y') (hS : ∀ x, S x → v.ownBlock = some x ∨ ∃ cs t, Blk y x t cs ∧ (t = 72 ∨ t = 74 ∨ t = 79))
    (row : ∀ k, v'.ownBlock = some k → v.ownBlock = some k ∨ y.heap.size ≤ k) : PlayP y' sq B m d m2 d2 va vb xa xb n' v' C' ps' acts' on' n2 v2 C2 qs bcts on2 := by
  refine ⟨mw, h.rm.stay o (fun x cs t hx hb => ?_) (fun k hk hs => ?_), f.owns h.ra notDts.1, f.owns h.rb typesP.1, fun k hk hk2 => ?_, ok, fun p hp => f.keep _ _ (h.sb p hp) (fun cs t k e => by cases e; exact typesP.2.2.2), h.c2⟩
  · rcases hS x hx with e | ⟨cs', t', hb', ht⟩
    · obtain ⟨rfl, _⟩ := own_blk h.mw.dq.mem.own e hb
      exact ⟨by decide, by decide, by decide⟩
    · unfold Blk at hb hb'
      rw [hb] at hb'
      cases hb'
      rcases ht with rfl | rfl | rfl <;> exact ⟨by decide, by decide, by decide⟩
  · rcases hS k hs with e | ⟨cs', t', hb', ht⟩
    · exact h.sep k e hk
    · obtain ⟨rfl, _⟩ := own_blk h.rm.mem.own hk hb'
      rcases ht with e | e | e <;> exact absurd e (by decide)
  · rcases row k hk with e | e
    · exact h.sep k e hk2
    · have := lt_own h.rm.mem.own hk2
      omega
/-- something of the document's deque has turned -/
theorem PlayP.turnR {n' : Int} {v' : Value} {C' : List Int} {qs' : List Nat} {bcts' : List PAct} {on' : Option Nat} {S : Nat → Prop} (h : PlayP y sq B m d m2 d2 va vb xa xb n v C ps acts on n2 v2 C2 qs bcts on2) (rm : RMach y' B m2 d2 n' v' C' qs' bcts' on') (hC : 2 ≤ C'.length) (o : Only S y y') (hS : ∀ x, S x → v2.ownBlock = some x ∨ ∃ cs t, Blk y x t cs ∧ (t = 56 ∨ t = 84 ∨ t = 62))
    (row : ∀ k, v'.ownBlock = some k → v2.ownBlock = some k ∨ y.heap.size ≤ k) : PlayP y' sq B m d m2 d2 va vb xa xb n v C ps acts on n' v' C' qs' bcts' on' := by
  have hty : ∀ x (cs : Array Value) t, S x → Blk y x t cs → t = 2 ∧ 2 ≤ cs.size ∨ (t = 56 ∨ t = 84 ∨ t = 62) := by
    intro x cs t hx hb
    rcases hS x hx with e | ⟨cs', t', hb', ht⟩
    · obtain ⟨rfl, hn⟩ := own_blk h.rm.mem.own e hb
      exact .inl ⟨rfl, Nat.le_trans h.c2 hn⟩
    · unfold Blk at hb hb'
      rw [hb] at hb'
      cases hb'
      exact .inr ht
  have hrow : ∀ {t : TypeId} {va : Value} {k : Nat} {xs : List Value}, y.ownsRow B t 1 va k xs → t ≠ 2 → t ≠ 56 → t ≠ 84 → t ≠ 62 → ∀ k, va.ownBlock = some k → ¬ S k := by
    intro t va k xs ho h1 h2 h3 h4 j hj hs
    rcases hS j hs with e | ⟨cs', t', hb', ht⟩
    · exact own_own_ne ho h.rm.mem.own h1 j hj e
    · obtain ⟨rfl, _⟩ := own_blk ho hj hb'
      rcases ht with e | e | e
      · exact h2 e
      · exact h3 e
      · exact h4 e
  refine ⟨h.mw.stay2 o (fun x cs t hx hb => ?_) (fun k hk hs => ?_), rm, o.owns h.ra (hrow h.ra (by decide) (by decide) (by decide) (by decide)), o.owns h.rb (hrow h.rb (by decide) (by decide) (by decide) (by decide)), fun k hk hk2 => ?_, h.ok, fun p hp => o.blk (h.sb p hp) (fun e => ?_), hC⟩
  · rcases hty x cs t hx hb with ⟨rfl, hn⟩ | rfl | rfl | rfl
    · exact ⟨by decide, by decide, by decide, fun e => absurd e (by decide), fun _ => hn⟩
    all_goals exact ⟨by decide, by decide, by decide, fun e => absurd e (by decide), fun e => absurd e (by decide)⟩
  · rcases hS k hs with e | ⟨cs', t', hb', ht⟩
    · exact h.sep k hk e
    · obtain ⟨rfl, _⟩ := own_blk h.mw.dq.mem.own hk hb'
      rcases ht with e | e | e <;> exact absurd e (by decide)
  · rcases row k hk2 with e | e
    · exact h.sep k hk e
    · have := lt_own h.mw.dq.mem.own hk
      omega
  · rcases hty _ _ _ e (h.sb p hp) with ⟨e, _⟩ | e | e | e <;> exact absurd e (by decide)
theorem PlayP.drop (h : PlayP y sq B m d m2 d2 va vb xa xb n v C ps acts on n2 v2 C2 qs bcts on2) : PlayP y [] B m d m2 d2 va vb xa xb n v C ps acts on n2 v2 C2 qs bcts on2 := ⟨h.mw, h.rm, h.ra, h.rb, h.sep, h.ok, fun _ hp => by simp at hp, h.c2⟩
theorem PlayP.with_ (h : PlayP y [] B m d m2 d2 va vb xa xb n v C ps acts on n2 v2 C2 qs bcts on2) {q : Nat} {cs : Array Value} (hb : Blk y q 36 cs) : PlayP y [(q, cs)] B m d m2 d2 va vb xa xb n v C ps acts on n2 v2 C2 qs bcts on2 := ⟨h.mw, h.rm, h.ra, h.rb, h.sep, h.ok, fun p hp => by simp at hp; subst hp; exact hb, h.c2⟩
end
end Go.Proofs.Ytmghlhngdopifaa
