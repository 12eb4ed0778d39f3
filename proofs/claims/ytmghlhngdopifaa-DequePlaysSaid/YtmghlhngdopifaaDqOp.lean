/- DequeOnce: the state of its loops, in words. -/
import Derived.Test.YtmghlhngdopifaaDqOn
namespace Go.Proofs.Ytmghlhngdopifaa
open Go.RowKit
set_option linter.unusedVariables false
theorem reads_one {w : World} {t : TypeId} (v : Value) : Reads (w.alloc (.cells #[v] t)) (w.heap.size + 1) 1 (some ⟨w.heap.size, 0, none⟩) 1 [v] :=
  ⟨by simp, fun _ => ⟨_, rfl, by simp, fun j u hu => by
    match j, hu with
    | 0, hu => simp at hu; subst hu; simp [Addr.add]⟩⟩
section
variable {w : World} {base base' e e' size n n' : Nat} {v v' : Value} {xs xs' : List Value}
theorem own_own_ne {t t' : TypeId} (h : w.ownsRow base t size v n xs) (h' : w.ownsRow base' t' size v' n' xs') (hne : t ≠ t') : ∀ k, v.ownBlock = some k → ¬ (v'.ownBlock = some k) := by
  intro k hk hk'
  rcases h.2 with ⟨rfl, _⟩ | ⟨g, cap, cur, rfl, _, hg, _⟩
  · cases hk
  · cases hk
    rcases h'.2 with ⟨rfl, _⟩ | ⟨g', cap', cur', rfl, _, hg', _⟩
    · cases hk'
    · cases hk'
      rw [hg] at hg'
      injection hg' with hg'
      injection hg' with _ ht
      exact hne ht
theorem own_blk {t t' : TypeId} {cs : Array Value} {x : Nat} (h : w.ownsRow base t 1 v n xs) (hv : v.ownBlock = some x) (hb : Blk w x t' cs) : t' = t ∧ n ≤ cs.size := by
  rcases h.2 with ⟨rfl, _⟩ | ⟨g, cap, cur, rfl, _, hg, hc, _, hsz, _⟩
  · cases hv
  · cases hv
    unfold Blk at hb
    rw [hg] at hb
    injection hb with hb
    injection hb with h1 h2
    subst h1 h2
    exact ⟨rfl, by omega⟩
theorem own_map {t : TypeId} {b κ : Nat} {g : Int → Int} (h : w.ownsRow base t size v n xs) (hm : IMap w b κ g) : ¬ (v.ownBlock = some b) := by
  intro hv
  rcases h.2 with ⟨rfl, _⟩ | ⟨g', cap, cur, rfl, _, hg, _⟩
  · cases hv
  · cases hv
    obtain ⟨D, k, h1, ⟨es, clock, h2, h3⟩, h4⟩ := hm
    rw [hg] at h2
    cases h2
theorem own_at {t : TypeId} {g cap : Nat} (h : w.ownsRow base t 1 (.slice (some ⟨g, 0, none⟩) n cap) n xs) {j : Nat} {u : Value} (hu : xs[j]? = some u) : w.cell? ⟨g, j, none⟩ = some u ∧ w.frozen? ⟨g, j, none⟩ = false := by
  rcases h.2 with ⟨e', _⟩ | ⟨g', cap', cur, e', hb, hg, hnc, hcm, hsz, htk⟩
  · cases e'
  · cases e'
    have : cur[j]? = some u := by
      rw [← htk, List.getElem?_take] at hu
      split at hu
      · simpa using hu
      · cases hu
    exact ⟨(Blk.cell hg j).trans this, Blk.frozen hg j⟩
end
def ptrv (p : Nat) : Value := .pointer (some ⟨p, 0, none⟩)
def kdv (a : PAct) : Value := .int .i64 (a.kind : Int)
def flv (a : PAct) : Value := .bool (decide (a.told ≠ 0))
structure OnceP (y : World) (sq : List (Nat × Array Value)) (B m d bl X : Nat) (va vo vk : Value) (xa xo xk : List Value) (n : Int) (v : Value) (C : List Int) (ps : List Nat) (acts : List PAct) (on : Option Nat) (g : Int → Int) : Prop where
  mw : MachW y B m d 0 n v C ps acts on
  ra : y.ownsRow B 37 1 va xa.length xa
  ro : y.ownsRow B 4 1 vo xo.length xo
  rk : y.ownsRow B 3 1 vk xk.length xk
  im : IMap y bl X g
  ok : no12 acts ∨ 2 ≤ xa.length
  sb : ∀ p ∈ sq, Blk y p.1 36 p.2
theorem notDts2 : ¬ Dts 36 ∧ 36 ≠ 37 ∧ 36 ≠ 4 ∧ 36 ≠ 3 := by
  unfold Dts
  decide
theorem notDts : ¬ Dts 37 ∧ ¬ Dts 4 ∧ ¬ Dts 3 ∧ 4 ≠ 37 ∧ 3 ≠ 37 := by
  unfold Dts
  decide
section
variable {y y' : World} {sq : List (Nat × Array Value)} {B m d bl X : Nat} {va vo vk va' : Value} {xa xo xk : List Value} {n : Int} {v : Value} {C : List Int} {ps : List Nat} {acts : List PAct} {on : Option Nat} {g : Int → Int}
theorem OnceP.keep (h : OnceP y sq B m d bl X va vo vk xa xo xk n v C ps acts on g) (o : Only (fun _ => False) y y') : OnceP y' sq B m d bl X va vo vk xa xo xk n v C ps acts on g :=
  ⟨h.mw.stay o (fun _ _ _ e => e.elim), o.owns h.ra (fun _ _ e => e), o.owns h.ro (fun _ _ e => e), o.owns h.rk (fun _ _ e => e), h.im.only o (fun e => e), h.ok, fun p hp => o.blk (h.sb p hp) (fun e => e)⟩
theorem OnceP.appA (h : OnceP y sq B m d bl X va vo vk xa xo xk n v C ps acts on g) {ob : Obj} (hg : (y.alloc ob).grownBy y' va.ownBlock) {u : Value} (ho : y'.ownsRow B 37 1 va' (xa.length + 1) (xa ++ [u])) : OnceP y' sq B m d bl X va' vo vk (xa ++ [u]) xo xk n v C ps acts on g := by
  have o : Only (fun x => va.ownBlock = some x) y y' := ((Only.refl _ y).alloc ob).grown hg (fun k hk => .inl hk)
  refine ⟨h.mw.stay o (fun x cs t hx hb => ?_), by simpa using ho, o.owns h.ro (fun k hk => own_own_ne h.ro h.ra notDts.2.2.2.1 k hk), o.owns h.rk (fun k hk => own_own_ne h.rk h.ra notDts.2.2.2.2 k hk), h.im.only o (own_map h.ra h.im), ?_, fun p hp => o.blk (h.sb p hp) (fun e => notDts2.2.1 (own_blk h.ra e (h.sb p hp)).1)⟩
  · obtain ⟨rfl, hn⟩ := own_blk h.ra hx hb
    refine ⟨notDts.1, fun _ => ?_⟩
    rcases h.ok with k | k
    · exact .inl k
    · exact .inr (by omega)
  · rcases h.ok with k | k
    · exact .inl k
    · exact .inr (by simp; omega)
theorem OnceP.appO (h : OnceP y sq B m d bl X va vo vk xa xo xk n v C ps acts on g) {ob : Obj} (hg : (y.alloc ob).grownBy y' vo.ownBlock) {u : Value} (ho : y'.ownsRow B 4 1 va' (xo.length + 1) (xo ++ [u])) : OnceP y' sq B m d bl X va va' vk xa (xo ++ [u]) xk n v C ps acts on g := by
  have o : Only (fun x => vo.ownBlock = some x) y y' := ((Only.refl _ y).alloc ob).grown hg (fun k hk => .inl hk)
  refine ⟨h.mw.stay o (fun x cs t hx hb => ?_), o.owns h.ra (fun k hk => own_own_ne h.ra h.ro (fun e => notDts.2.2.2.1 e.symm) k hk), by simpa using ho, o.owns h.rk (fun k hk => own_own_ne h.rk h.ro (by decide) k hk), h.im.only o (own_map h.ro h.im), h.ok, fun p hp => o.blk (h.sb p hp) (fun e => notDts2.2.2.1 (own_blk h.ro e (h.sb p hp)).1)⟩
  obtain ⟨rfl, hn⟩ := own_blk h.ro hx hb
  exact ⟨notDts.2.1, fun e => absurd e notDts.2.2.2.1⟩
theorem OnceP.appK (h : OnceP y sq B m d bl X va vo vk xa xo xk n v C ps acts on g) {ob : Obj} (hg : (y.alloc ob).grownBy y' vk.ownBlock) {u : Value} (ho : y'.ownsRow B 3 1 va' (xk.length + 1) (xk ++ [u])) : OnceP y' sq B m d bl X va vo va' xa xo (xk ++ [u]) n v C ps acts on g := by
  have o : Only (fun x => vk.ownBlock = some x) y y' := ((Only.refl _ y).alloc ob).grown hg (fun k hk => .inl hk)
  refine ⟨h.mw.stay o (fun x cs t hx hb => ?_), o.owns h.ra (fun k hk => own_own_ne h.ra h.rk (fun e => notDts.2.2.2.2 e.symm) k hk), o.owns h.ro (fun k hk => own_own_ne h.ro h.rk (by decide) k hk), by simpa using ho, h.im.only o (own_map h.rk h.im), h.ok, fun p hp => o.blk (h.sb p hp) (fun e => notDts2.2.2.2 (own_blk h.rk e (h.sb p hp)).1)⟩
  obtain ⟨rfl, hn⟩ := own_blk h.rk hx hb
  exact ⟨notDts.2.2.1, fun e => absurd e notDts.2.2.2.2⟩
theorem OnceP.put (h : OnceP y sq B m d bl X va vo vk xa xo xk n v C ps acts on g) {X' : Nat} {g' : Int → Int} (hm : IMap y' bl X' g') (hg : y.grownBy y' (some bl)) : OnceP y' sq B m d bl X' va vo vk xa xo xk n v C ps acts on g' := by
  have o : Only (fun x => x = bl) y y' := (Only.refl _ y).grown hg (fun k hk => .inl (by cases hk; rfl))
  refine ⟨h.mw.stay o (fun x cs t hx hb => ?_), o.owns h.ra (fun k hk e => own_map h.ra h.im (e ▸ hk)), o.owns h.ro (fun k hk e => own_map h.ro h.im (e ▸ hk)), o.owns h.rk (fun k hk e => own_map h.rk h.im (e ▸ hk)), hm, h.ok, fun p hp => o.blk (h.sb p hp) (h.im.ne (h.sb p hp))⟩
  exact absurd hx (h.im.ne hb)
theorem OnceP.setO {go cap nn : Nat} (h : OnceP y sq B m d bl X va (.slice (some ⟨go, 0, none⟩) nn cap) vk xa xo xk n v C ps acts on g) (hn : nn = xo.length) {j : Nat} (hj : j < xo.length) (u : Value) : OnceP (y.setCell ⟨go, j, none⟩ u) sq B m d bl X va (.slice (some ⟨go, 0, none⟩) nn cap) vk xa (xo.set j u) xk n v C ps acts on g := by
  subst hn
  have o : Only (fun x => x = go) y (y.setCell ⟨go, j, none⟩ u) := (Only.refl (fun x => x = go) y).setCell (p := ⟨go, j, none⟩) (.inl rfl) u
  have hgo : ∀ x, x = go → (Value.slice (some ⟨go, 0, none⟩) xo.length cap).ownBlock = some x := by rintro x rfl; rfl
  refine ⟨h.mw.stay o (fun x cs t hx hb => ?_), o.owns h.ra (fun k hk e => own_own_ne h.ra h.ro (fun e => notDts.2.2.2.1 e.symm) k hk (hgo k e)), by simpa using owns_set h.ro j hj u, o.owns h.rk (fun k hk e => own_own_ne h.rk h.ro (by decide) k hk (hgo k e)), h.im.only o (fun e => own_map h.ro h.im (hgo _ e)), h.ok, fun p hp => o.blk (h.sb p hp) (fun e => notDts2.2.2.1 (own_blk h.ro (hgo _ e) (h.sb p hp)).1)⟩
  obtain ⟨rfl, hn⟩ := own_blk h.ro (hgo x hx) hb
  exact ⟨notDts.2.1, fun e => absurd e notDts.2.2.2.1⟩
theorem OnceP.turn {n' : Int} {v' : Value} {C' : List Int} {ps' : List Nat} {acts' : List PAct} {on' : Option Nat} (h : OnceP y sq B m d bl X va vo vk xa xo xk n v C ps acts on g) (f : Far y y') (mw : MachW y' B m d 0 n' v' C' ps' acts' on') (ok : no12 acts' ∨ 2 ≤ xa.length) : OnceP y' sq B m d bl X va vo vk xa xo xk n' v' C' ps' acts' on' g :=
  ⟨mw, f.owns h.ra notDts.1, f.owns h.ro notDts.2.1, f.owns h.rk notDts.2.2.1, h.im.far f, ok, fun p hp => f.keep _ _ (h.sb p hp) (fun cs t k e => by cases e; exact notDts2.1)⟩
theorem OnceP.more (h : OnceP y sq B m d bl X va vo vk xa xo xk n v C ps acts on g) {X' : Nat} (hX : X ≤ X') : OnceP y sq B m d bl X' va vo vk xa xo xk n v C ps acts on g := ⟨h.mw, h.ra, h.ro, h.rk, h.im.more hX, h.ok, h.sb⟩
theorem ok_of {L : List Int} {P N : Int} {dd : Int} (hM : Mach dd C acts on L P N) {k : Nat} (hk : P ≤ k) : no12 acts ∨ 2 ≤ k := by
  by_cases h : P < 2
  · exact .inl (mach_two hM h)
  · exact .inr (by omega)
end
theorem rising_len : ∀ (L : List Int) (lo hi : Int), lo ≤ hi → L.Pairwise (· < ·) → (∀ x ∈ L, lo < x ∧ x ≤ hi) → (L.length : Int) ≤ hi - lo
  | [], lo, hi, h, _, _ => by simp; omega
  | a :: L, lo, hi, h, hp, hx => by
    rw [List.pairwise_cons] at hp
    have h1 := hx a (by simp)
    have := rising_len L a hi h1.2 hp.2 fun x hm => ⟨hp.1 x hm, (hx x (by simp [hm])).2⟩
    simp
    omega
theorem OnceL.len {L : List Int} {P st : Int} {g : Int → Int} (h : OnceL L P st g) : (L.length : Int) ≤ P := by
  have := rising_len L st P h.2.2.2.2 h.1 h.2.1
  have := h.2.2.2.1
  omega
theorem wf64 {x : Int} (h0 : -1000000 ≤ x) (h1 : x ≤ 1000000) : (Lit.int .i64 x).wf = true := by
  simp [Lit.wf, IntKind.min, IntKind.max, IntKind.signed, IntKind.bits]
  omega
theorem own_ge {w : World} {base size n k : Nat} {e : TypeId} {v : Value} {xs : List Value} (h : w.ownsRow base e size v n xs) (hv : v.ownBlock = some k) : base ≤ k := by
  rcases owns_form h with ⟨rfl, _⟩ | ⟨g, cap, rfl, _, _, hg, _⟩
  · cases hv
  · cases hv; exact hg
theorem own_slice {w : World} {base size n : Nat} {e : TypeId} {v : Value} {xs : List Value} (h : w.ownsRow base e size v n xs) : ∃ A c, v = .slice A n c := by
  rcases owns_form h with ⟨rfl, rfl⟩ | ⟨g, cap, rfl, _⟩
  · exact ⟨_, _, rfl⟩
  · exact ⟨_, _, rfl⟩
theorem own_some {w : World} {base size n : Nat} {e : TypeId} {v : Value} {xs : List Value} (h : w.ownsRow base e size v n xs) (hn : 0 < n) : ∃ g c, v = .slice (some ⟨g, 0, none⟩) n c := by
  rcases owns_form h with ⟨rfl, rfl⟩ | ⟨g, cap, rfl, _⟩
  · omega
  · exact ⟨_, _, rfl⟩
theorem set_id {α : Type} {l : List α} {i : Nat} {x : α} (h : l[i]? = some x) : l.set i x = l := by
  apply List.ext_getElem?
  intro j
  rw [List.getElem?_set]
  split
  · rename_i e
    subst e
    split
    · exact h.symm
    · rename_i hl
      rw [List.getElem?_eq_none (by omega)] at h
      cases h
  · rfl
section
variable {y y' : World} {sq : List (Nat × Array Value)} {B m d bl X : Nat} {va vo vk va' : Value} {xa : List Value} {n : Int} {v : Value} {C : List Int} {ps : List Nat} {acts : List PAct} {on : Option Nat} {g : Int → Int}
theorem OnceP.turned {i : Nat} {a a' : PAct} {b : Bool} (h : OnceP y sq B m d bl X va vo vk xa ((acts.map flv).set i (.bool b)) (acts.map kdv) n v C ps (acts.set i a') on g) (ha : acts[i]? = some a) (hk : a'.kind = a.kind) (hb : b = decide (a'.told ≠ 0)) :
    OnceP y sq B m d bl X va vo vk xa ((acts.set i a').map flv) ((acts.set i a').map kdv) n v C ps (acts.set i a') on g := by
  have e1 : (acts.set i a').map flv = (acts.map flv).set i (.bool b) := by rw [List.map_set]; simp [flv, hb]
  have e2 : (acts.set i a').map kdv = acts.map kdv := by
    rw [List.map_set]
    refine set_id ?_
    rw [List.getElem?_map, ha]
    simp [kdv, hk]
  rw [e1, e2]
  exact h
end
/-- the state between the rounds -/
structure OnceI (y : World) (sq : List (Nat × Array Value)) (B m d bl X : Nat) (va vo vk : Value) (P st : Int) (n : Int) (v : Value) (C : List Int) (ps : List Nat) (acts : List PAct) (on : Option Nat) (L : List Int) (g : Int → Int) : Prop where
  p : OnceP y sq B m d bl X va vo vk (ps.map ptrv) (acts.map flv) (acts.map kdv) n v C ps acts on g
  mm : Mach (0 : Nat) C acts on L P 10000
  hn : n ≤ X
  ol : OnceL L P st g
  pl : P ≤ acts.length
section
variable {y y' : World} {sq : List (Nat × Array Value)} {B m d bl X : Nat} {va vo vk va' : Value} {P st n : Int} {v : Value} {C : List Int} {ps : List Nat} {acts : List PAct} {on : Option Nat} {L : List Int} {g : Int → Int}
theorem OnceI.keep (h : OnceI y sq B m d bl X va vo vk P st n v C ps acts on L g) (o : Only (fun _ => False) y y') : OnceI y' sq B m d bl X va vo vk P st n v C ps acts on L g := ⟨h.p.keep o, h.mm, h.hn, h.ol, h.pl⟩
theorem OnceI.more (h : OnceI y sq B m d bl X va vo vk P st n v C ps acts on L g) {X' : Nat} (hX : X ≤ X') : OnceI y sq B m d bl X' va vo vk P st n v C ps acts on L g := ⟨h.p.more hX, h.mm, Int.le_trans h.hn (by omega), h.ol, h.pl⟩
theorem OnceI.drop (h : OnceI y sq B m d bl X va vo vk P st n v C ps acts on L g) : OnceI y [] B m d bl X va vo vk P st n v C ps acts on L g := ⟨⟨h.p.mw, h.p.ra, h.p.ro, h.p.rk, h.p.im, h.p.ok, fun _ hp => by simp at hp⟩, h.mm, h.hn, h.ol, h.pl⟩
theorem OnceI.with_ (h : OnceI y [] B m d bl X va vo vk P st n v C ps acts on L g) {q : Nat} {cs : Array Value} (hb : Blk y q 36 cs) : OnceI y [(q, cs)] B m d bl X va vo vk P st n v C ps acts on L g := ⟨⟨h.p.mw, h.p.ra, h.p.ro, h.p.rk, h.p.im, h.p.ok, fun p hp => by simp at hp; subst hp; exact hb⟩, h.mm, h.hn, h.ol, h.pl⟩
theorem OnceI.lens (h : OnceI y sq B m d bl X va vo vk P st n v C ps acts on L g) : ps.length = acts.length := h.p.mw.len
theorem OnceI.dom (h : OnceI y sq B m d bl X va vo vk P st n v C ps acts on L g) : 0 ≤ P := Int.le_trans h.ol.2.2.2.1 h.ol.2.2.2.2
end
end Go.Proofs.Ytmghlhngdopifaa
