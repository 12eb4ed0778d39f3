/- DequeOnce: words: the map of what is left, the script as it lies, what keeps a machine. -/
import Derived.Test.YtmghlhngdopifaaDqZa
import Derived.Maps.OwnOps
import Derived.Maps.Views
import Derived.ProofKit
import Derived.OpenShut
namespace Go.Proofs.Ytmghlhngdopifaa
open Go.RowKit Go.WideShapes Go.ChangeShapes Go.ChangeAt
set_option linter.unusedVariables false
/-- numbers by numbers: block b is a map that gives g -/
def IMap (w : World) (b κ : Nat) (g : Int → Int) : Prop :=
  ∃ (D : DataW Unit) (n : Nat), n ≤ κ ∧ w.ownsMap Try.prog 2 (plainElem Try.prog 3) b n D ∧ Maps.IsMap D ∧ ∀ x : Int, (Lit.int .i64 x).wf = true → D.atKey (.int .i64 x) (.lit (.int .i64 0)) = .lit (.int .i64 (g x))
def updI (g : Int → Int) (k x : Int) : Int → Int := fun z => if z = k then x else g z
theorem keyI : Maps.Keyed Try.prog 2 := Maps.int_keyed Try.underlying2
theorem zeroI (w : World) : (zeroValue 3).run Try.prog w = .ok (.int .i64 0) w := by kernel_rfl
theorem IMap.made (w : World) : IMap (w.alloc (.map #[] 0)) w.heap.size 0 (fun _ => 0) :=
  ⟨.map [], 0, Nat.le_refl _, World.ownsMap_made _ _ _ _, ⟨[], rfl⟩, fun x _ => rfl⟩
section
variable {w w' : World} {b κ : Nat} {g : Int → Int}
theorem IMap.more (h : IMap w b κ g) {κ' : Nat} (hk : κ ≤ κ') : IMap w b κ' g := by
  obtain ⟨D, n, h1, h2⟩ := h
  exact ⟨D, n, Nat.le_trans h1 hk, h2⟩
theorem IMap.heap (h : IMap w b κ g) (hb : ∀ es clock, w.heap[b]? = some (.map es clock) → w'.heap[b]? = some (.map es clock)) : IMap w' b κ g := by
  obtain ⟨D, n, h1, ⟨es, clock, h2, h3⟩, h4⟩ := h
  exact ⟨D, n, h1, ⟨es, clock, hb _ _ h2, h3⟩, h4⟩
theorem IMap.lt (h : IMap w b κ g) : b < w.heap.size := by
  obtain ⟨D, n, h1, h2, _⟩ := h
  exact h2.lt
theorem IMap.only {S : Nat → Prop} (h : IMap w b κ g) (ho : Only S w w') (hS : ¬ S b) : IMap w' b κ g := h.heap fun es clock e => (ho.block b h.lt hS).trans e
theorem IMap.far (h : IMap w b κ g) (hf : Far w w') : IMap w' b κ g := h.heap fun es clock e => hf.keep _ _ e (fun cs t k e' => by cases e')
theorem IMap.ne {x : Nat} {t : TypeId} {cs : Array Value} (h : IMap w b κ g) (hb : Blk w x t cs) : x ≠ b := by
  rintro rfl
  obtain ⟨D, n, h1, ⟨es, clock, h2, h3⟩, h4⟩ := h
  unfold Blk at hb
  rw [hb] at h2
  cases h2
theorem IMap.look (h : IMap w b κ g) {x : Int} (hx : (Lit.int .i64 x).wf = true) : (Instr.lookup 33 (.map (some b)) (.int .i64 x) false).run Try.prog w = .ok (.int .i64 (g x)) w := by
  obtain ⟨D, n, _, hown, _, hat⟩ := h
  obtain ⟨c, hrun, hc, _⟩ := hown.lookup_int keyI Try.underlying33 Try.underlying3 (zeroI w) (Maps.keyOf_int_mk Try.underlying2 hx)
  rw [hat x hx] at hc
  have hc' : g x = c := (Lit.int.inj (DataW.lit.inj hc)).2
  rw [hrun, hc']
theorem IMap.put (h : IMap w b κ g) {x y : Int} (hx : (Lit.int .i64 x).wf = true) (hy : (Lit.int .i64 y).wf = true) (hκ : κ < maxLen) :
    ∃ w', (Instr.mapUpdate 33 (.map (some b)) (.int .i64 x) (.int .i64 y)).run Try.prog w = .ok () w' ∧ IMap w' b (κ + 1) (updI g x y) ∧ w.grownBy w' (some b) := by
  obtain ⟨D, n, hn, hown, hD, hat⟩ := h
  obtain ⟨w', hrun, h2, h3⟩ := hown.update (t := 33) (e := 3) keyI Try.underlying33 (by omega) (Maps.keyOf_int_mk Try.underlying2 hx) (plainElem_int Try.underlying3 hy)
  refine ⟨w', hrun, ⟨_, _, by omega, h2, hD.put _ _, fun z hz => ?_⟩, h3⟩
  unfold updI
  by_cases e : z = x
  · subst e
    rw [if_pos rfl, Maps.atKey_put_same hD (by trivial)]
  · rw [if_neg e, Maps.atKey_put_other (fun e' => by injection e' with _ e'; exact e e')]
    exact hat z hz
end
theorem wpList_ilook (w : World) {ops : Array Oper} {rest : List Oper} {o : Oper} {a : Act} {Q : Exit → Act → World → Prop}
    (hg : o.guard = none) (m x : Operand) (hop : o.op = Op.lookup 33 m x false) (b κ : Nat) (g : Int → Int) (hm : a.eval m = .map (some b)) (h : IMap w b κ g) (k : Int) (hx : a.eval x = .int .i64 k) (hk : (Lit.int .i64 k).wf = true)
    (hK : wpList Try.prog ops Q rest (a.put o.dst (.int .i64 (g k))) w) : wpList Try.prog ops Q (o :: rest) a w := by
  refine wpList_plain hg fun K' hK' => ?_
  have hrun := h.look hk
  unfold Oper.wp
  simp [execOp, hop, hm, hx, hrun, Result.andThen]
  exact hK' _ _ hK
theorem wpList_iput (w : World) {ops : Array Oper} {rest : List Oper} {o : Oper} {a : Act} {Q : Exit → Act → World → Prop}
    (hg : o.guard = none) (m x v : Operand) (hop : o.op = Op.mapUpdate 33 m x v) (b κ : Nat) (g : Int → Int) (hm : a.eval m = .map (some b)) (h : IMap w b κ g) (hκ : κ < maxLen) (k y : Int) (hx : a.eval x = .int .i64 k) (hv : a.eval v = .int .i64 y) (hk : (Lit.int .i64 k).wf = true) (hy : (Lit.int .i64 y).wf = true)
    (hK : ∀ w', IMap w' b (κ + 1) (updI g k y) → w.grownBy w' (some b) → wpList Try.prog ops Q rest (a.put o.dst undef) w') : wpList Try.prog ops Q (o :: rest) a w := by
  refine wpList_plain hg fun K' hK' => ?_
  obtain ⟨w', hrun, r1, r2⟩ := h.put hk hy hκ
  unfold Oper.wp
  simp [execOp, hop, hm, hx, hv, hrun, Result.andThen]
  exact hK' _ _ (hK w' r1 r2)
/-- what is left, and what was stolen last -/
def OnceL (L : List Int) (P st : Int) (g : Int → Int) : Prop := L.Pairwise (· < ·) ∧ (∀ x ∈ L, st < x ∧ x ≤ P) ∧ (∀ x, g x = if x ∈ L then 1 else 0) ∧ 0 ≤ st ∧ st ≤ P
section
variable {L L' : List Int} {P st v : Int} {g : Int → Int}
theorem OnceL.push (h : OnceL L P st g) : OnceL (L ++ [P + 1]) (P + 1) st (updI g (P + 1) 1) := by
  obtain ⟨h1, h2, h3, h4, h5⟩ := h
  refine ⟨?_, fun x hx => ?_, fun x => ?_, h4, by omega⟩
  · rw [List.pairwise_append]
    refine ⟨h1, by simp, fun x hx y hy => ?_⟩
    simp at hy
    have := (h2 x hx).2
    omega
  · rcases List.mem_append.1 hx with hx | hx
    · have := h2 x hx; omega
    · simp at hx; omega
  · unfold updI
    by_cases e : x = P + 1
    · rw [if_pos e, if_pos (by simp [e])]
    · rw [if_neg e, h3]
      simp [e]
theorem OnceL.pop (h : OnceL (L' ++ [v]) P st g) : g v = 1 ∧ (st < v ∧ v ≤ P) ∧ (∀ x ∈ L', x < v) ∧ OnceL L' P st (updI g v 0) := by
  obtain ⟨h1, h2, h3, h4, h5⟩ := h
  rw [List.pairwise_append] at h1
  obtain ⟨h1, _, h6⟩ := h1
  have h7 : ∀ x ∈ L', x < v := fun x hx => h6 x hx v (by simp)
  refine ⟨by rw [h3, if_pos (by simp)], h2 v (by simp), h7, h1, fun x hx => h2 x (by simp [hx]), fun x => ?_, h4, h5⟩
  unfold updI
  by_cases e : x = v
  · subst e
    rw [if_pos rfl, if_neg (fun hx => by have := h7 x hx; omega)]
  · rw [if_neg e, h3]
    simp [e]
theorem OnceL.steal (h : OnceL (v :: L') P st g) : g v = 1 ∧ (st < v ∧ v ≤ P) ∧ OnceL L' P v (updI g v 0) := by
  obtain ⟨h1, h2, h3, h4, h5⟩ := h
  rw [List.pairwise_cons] at h1
  have h6 := h2 v (by simp)
  refine ⟨by rw [h3, if_pos (by simp)], h6, h1.2, fun x hx => ⟨h1.1 x hx, (h2 x (by simp [hx])).2⟩, fun x => ?_, by omega, h6.2⟩
  unfold updI
  by_cases e : x = v
  · subst e
    rw [if_pos rfl, if_neg (fun hx => by have := h1.1 x hx; omega)]
  · rw [if_neg e, h3]
    simp [e]
end
/-- a step of a script -/
structure S16 where
  act : Int
  v : Int
  n : Int
  k : Int
def Scr16 (w : World) (R : Nat) (A : Option Addr) (ss : List S16) : Prop :=
  ∀ (i : Nat) s, ss[i]? = some s → ∃ b off, A = some ⟨b, off, none⟩ ∧ b < R ∧ w.cell? ⟨b, off + i * 4, none⟩ = some (.int .i64 s.act) ∧ w.cell? ⟨b, off + i * 4 + 1, none⟩ = some (.int .i64 s.v) ∧
    w.cell? ⟨b, off + i * 4 + 2, none⟩ = some (.int .u16 s.n) ∧ w.cell? ⟨b, off + i * 4 + 3, none⟩ = some (.int .u8 s.k) ∧ (0 ≤ s.n ∧ s.n < 65536) ∧ (0 ≤ s.k ∧ s.k < 256)
theorem Scr16.keep {w w' : World} {R : Nat} {A : Option Addr} {ss : List S16} (h : Scr16 w R A ss) (hb : ∀ p : Addr, p.block < R → w'.cell? p = w.cell? p) : Scr16 w' R A ss := by
  intro i s hs
  obtain ⟨b, off, h1, h2, c0, c1, c2, c3, h3⟩ := h i s hs
  exact ⟨b, off, h1, h2, (hb ⟨b, _, none⟩ h2).trans c0, (hb ⟨b, _, none⟩ h2).trans c1, (hb ⟨b, _, none⟩ h2).trans c2, (hb ⟨b, _, none⟩ h2).trans c3, h3⟩
theorem Scr16.below {w w' : World} {R : Nat} {A : Option Addr} {ss : List S16} (h : Scr16 w R A ss) (hb : Below R w w') : Scr16 w' R A ss := h.keep fun _ hp => hb.cell hp
theorem cellsStep16 : Try.prog.cellsOf 36 = 4 := by kernel_rfl
theorem open_script {H : Type} {enc : TypeId × Value → H} {W : World} {base : Nat} {spare : Nat → Bool} {held : Bool} {fuel : Nat} {a0 : Option Addr} {len cap : Nat} {x : DataW H × List MemPlace}
    (h : DataW.trod enc Try.prog W base spare held fuel 22 [.slice a0 len cap] = some x) : ∃ ss : List S16, ss.length = len ∧ Scr16 W W.heap.size a0 ss ∧ len ≤ maxLen := by
  rcases open_slice_fields Try.underlying22 Try.underlying36 (by kernel_rfl) cellsStep16 h with ⟨hcs, _⟩ | ⟨a, len', cap', m, D, Pl, hcs, _, hl, hm, hmm, _, hi⟩
  · simp at hcs
    obtain ⟨rfl, rfl, rfl⟩ := hcs
    exact ⟨[], rfl, fun i s hs => by simp at hs, by simp [maxLen]⟩
  · simp at hcs
    obtain ⟨rfl, rfl, rfl⟩ := hcs
    have hlm : len ≤ m := by rw [hmm]; split <;> omega
    have hex : ∀ i, i < len → ∃ s : S16, ∃ b off, some a = some (⟨b, off, none⟩ : Addr) ∧ b < W.heap.size ∧ W.cell? ⟨b, off + i * 4, none⟩ = some (.int .i64 s.act) ∧ W.cell? ⟨b, off + i * 4 + 1, none⟩ = some (.int .i64 s.v) ∧
        W.cell? ⟨b, off + i * 4 + 2, none⟩ = some (.int .u16 s.n) ∧ W.cell? ⟨b, off + i * 4 + 3, none⟩ = some (.int .u8 s.k) ∧ (0 ≤ s.n ∧ s.n < 65536) ∧ (0 ≤ s.k ∧ s.k < 256) := by
      intro i hil
      obtain ⟨ys, n, _, _, _, hf⟩ := hi i (by omega)
      obtain ⟨v0, y0, c0, _, d0⟩ := hf 0 _ rfl
      replace c0 : W.cell? (a.add (i * 4 + 0)) = some v0 := c0
      obtain ⟨v1, y1, c1, _, d1⟩ := hf 1 _ rfl
      replace c1 : W.cell? (a.add (i * 4 + 1)) = some v1 := c1
      obtain ⟨v2, y2, c2, _, d2⟩ := hf 2 _ rfl
      replace c2 : W.cell? (a.add (i * 4 + 2)) = some v2 := c2
      obtain ⟨v3, y3, c3, _, d3⟩ := hf 3 _ rfl
      replace c3 : W.cell? (a.add (i * 4 + 3)) = some v3 := c3
      obtain ⟨z0, e0, _⟩ := DataW.trod_int Try.underlying3 d0
      obtain ⟨z1, e1, _⟩ := DataW.trod_int Try.underlying2 d1
      obtain ⟨z2, e2, _, wz2⟩ := DataW.trod_int Try.underlying34 d2
      obtain ⟨z3, e3, _, wz3⟩ := DataW.trod_int Try.underlying5 d3
      simp only [List.cons.injEq, and_true] at e0 e1 e2 e3
      subst e0 e1 e2 e3
      obtain ⟨b, off, spot⟩ := a
      have hspot : spot = none := by
        obtain ⟨ys', n', _, _, _, hf'⟩ := hi 0 (by omega)
        obtain ⟨v', y', c', _⟩ := hf' 0 _ rfl
        have hsp := World.cell?_spot c'
        simpa [Addr.add] using hsp
      subst hspot
      have hadd : ∀ k, (⟨b, off, none⟩ : Addr).add k = ⟨b, off + k, none⟩ := by intro k; unfold Addr.add; split <;> simp_all
      rw [hadd] at c0 c1 c2 c3
      have hb : b < W.heap.size := block_lt_of_cell c0
      have hz3 := bounds_u8 wz3
      have hz2 := bounds_u16 wz2
      exact ⟨⟨z0, z1, z2, z3⟩, b, off, rfl, hb, c0, c1, c2, c3, by dsimp only; omega, by dsimp only; omega⟩
    let f : Nat → S16 := fun i => if h : i < len then Classical.choose (hex i h) else ⟨0, 0, 0, 0⟩
    refine ⟨(List.range len).map f, by simp, ?_, by omega⟩
    intro i s hs
    have hil : i < len := by have := (List.getElem?_eq_some_iff.1 hs).1; simpa using this
    have : f i = s := by simpa [List.getElem?_range hil] using hs
    have hc := Classical.choose_spec (hex i hil)
    have e : Classical.choose (hex i hil) = s := by rw [← this]; simp [f, hil]
    rw [e] at hc
    exact hc
/-- no act of the owner has read a value that it is to copy -/
def no12 (acts : List PAct) : Prop := ∀ (i : Nat) a, acts[i]? = some a → a.told = 0 → a.kind = 0 → a.at_ = 12 → False
section
variable {w w' : World} {B m d z p : Nat} {n : Int} {v on' : Value} {C : List Int} {ps : List Nat} {acts : List PAct} {on : Option Nat} {L : List Int} {P N : Int}
theorem mach_two {dd : Int} (hM : Mach dd C acts on L P N) (hP : P < 2) : no12 acts := by
  intro i a ha h0 hk h12
  obtain ⟨ws, cur, q, hc, ho, hs, hL, hT⟩ := hM.ex
  have hon := hM.kinds i a ha h0 (by omega)
  have hown : own acts on = some a := by rw [hon]; simp only [own, ha, h0, if_true]
  rw [hown] at ho
  obtain ⟨_, ho⟩ := ho
  have ht0 := hc.top0
  rcases ho with ⟨_, hB, hP1, hp⟩ | ⟨hk1, _⟩
  · cases hp with
    | s0 e => omega
    | s1 e hb => omega
    | s2 e hb ht => omega
    | s3 e hb ht hw => omega
    | s10 e hb ht hw hn he => omega
    | s11 e hb ht hw hn g hi => omega
    | s12 e hb ht hw hn g hi hr =>
      have h1 := ht.1
      have h2 := g.2.2.1
      omega
    | s13 e hb ht hw hn g hi => omega
    | s20 e hb ht hw hn hl => omega
    | s21 e hb ht hw hn hl hv => omega
  · omega
theorem no12_own {dd : Int} {k : Nat} {x : Int} (hM : Mach dd C (acts ++ [newA k x]) (some acts.length) L P N) : no12 (acts ++ [newA k x]) := by
  intro i a ha h0 hk h12
  have hi := hM.kinds i a ha h0 (by omega)
  cases hi
  simp at ha
  subst ha
  simp [newA] at h12
theorem no12_steal (h : no12 acts) : no12 (acts ++ [newA 2 0]) := by
  intro i a ha h0 hk h12
  rcases get_append ha with ha | ⟨_, rfl⟩
  · exact h i a ha h0 hk h12
  · simp [newA] at hk
theorem Does.stay {S : Nat → Prop} {a : PAct} {dv : Value} (h : Does w p v a dv) (ho : Only S w w') (hs : a.told = 0 → a.kind = 0 → a.at_ = 12 → ∀ ba c, Blk w ba 37 #[c] → ¬ S ba) (hv : ∀ bv (cs : Array Value), Blk w bv 2 cs → ¬ S bv) : Does w' p v a dv := by
  unfold Does at h ⊢
  split at h
  · rename_i h0
    rw [if_pos h0]
    split at h
    · rename_i h1
      rw [if_pos h1]
      obtain ⟨ba, bv, e, k1, k2, k3⟩ := h
      exact ⟨ba, bv, e, ho.blk k1 (hs h0 h1.1 h1.2 _ _ k1), ho.blk k2 (hv _ _ k2), k3⟩
    · rename_i h1
      rw [if_neg h1]
      exact h
  · rename_i h0
    rw [if_neg h0]
    exact h
/-- what a deque does not look at may turn -/
theorem MachW.stay {S : Nat → Prop} (h : MachW w B m d z n v C ps acts on) (ho : Only S w w') (hS : ∀ x (cs : Array Value) t, S x → Blk w x t cs → ¬ Dts t ∧ (t = 37 → no12 acts ∨ 2 ≤ cs.size)) : MachW w' B m d z n v C ps acts on := by
  have hno : ∀ x (cs : Array Value) t, Blk w x t cs → Dts t → ¬ S x := fun x cs t hb ht hs => (hS x cs t hs hb).1 ht
  refine ⟨⟨h.dq.mem.only ho (hno _ _ _ h.dq.mem.blk (.inl rfl)) (fun k hk => ?_), ho.blk h.dq.blk (hno _ _ _ h.dq.blk (.inr (.inr (.inl rfl)))), h.dq.base⟩, fun i a ha => ?_, h.len, h.nodup, h.ge⟩
  · obtain ⟨cs, t, hb, ht⟩ := h.dq.dts (x := k) (.inl (.inr hk))
    exact hno _ _ _ hb ht
  · obtain ⟨p, hp, ⟨⟨dv, h1, h2⟩, h3, h4, h5⟩⟩ := h.act i a ha
    refine ⟨p, hp, ⟨⟨dv, ho.blk h1 (hno _ _ _ h1 (.inr (.inr (.inr rfl)))), h2.stay ho (fun g0 gk g12 ba c hb hs => ?_) (fun bv cs hb => hno _ _ _ hb (.inr (.inl rfl)))⟩, h3, h4, h5⟩⟩
    rcases (hS ba _ _ hs hb).2 rfl with hn | hn
    · exact hn i a ha g0 gk g12
    · simp at hn
end
end Go.Proofs.Ytmghlhngdopifaa
