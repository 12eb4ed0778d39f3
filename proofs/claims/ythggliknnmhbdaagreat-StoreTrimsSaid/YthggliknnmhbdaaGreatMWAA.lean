/- Several texts in one: Words, Ord, St, Long. -/
import Derived.Handy
import Derived.Lib.Hide
import Derived.Maps.AppendAt
import Derived.Deep.AppendLies
import Derived.Deep.Draws
import Derived.Deep.QuietTactic
import Derived.BigQuiet
import Derived.Deep.Slices
import Derived.Deep.Fields
import Derived.ChangeSame
import Derived.RegionTactic
import Derived.WalkKit
import Derived.Deep.WholeRow
import Derived.Deep.MidRow
import Derived.WalkSpells
/- Small plain words on memory: a block that is known whole, what only some blocks' turning means. No conditions. -/
namespace Go.Proofs.YthggliknnmhbdaaGreat
set_option maxRecDepth 100000
open Go.RowKit

def Blk (w : World) (g : Nat) (t : TypeId) (cs : Array Value) : Prop := w.heap[g]? = some (.cells cs t (0, 0))

section
variable {w w' : World} {g : Nat} {t : TypeId} {cs : Array Value}
theorem Blk.lt (h : Blk w g t cs) : g < w.heap.size := by
  rcases Nat.lt_or_ge g w.heap.size with hlt | hge
  · exact hlt
  · unfold Blk at h; rw [Array.getElem?_eq_none hge] at h; cases h
theorem Blk.cell (h : Blk w g t cs) (i : Nat) : w.cell? ⟨g, i, none⟩ = cs[i]? := cell_of_row w g i cs t (0, 0) h
theorem Blk.frozen (h : Blk w g t cs) (i : Nat) : w.frozen? ⟨g, i, none⟩ = false := by
  unfold Blk at h
  simp [World.frozen?, h]
theorem Blk.new (w : World) (t : TypeId) (cs : Array Value) : Blk (w.alloc (.cells cs t)) w.heap.size t cs := heap_alloc_new w _
theorem Blk.drew (h : Blk w g t cs) : Blk w.drew g t cs := h
theorem Blk.drewN (h : Blk w g t cs) (n : Nat) : Blk (w.drewN n) g t cs := h
theorem Blk.alloc (h : Blk w g t cs) (o : Obj) : Blk (w.alloc o) g t cs := (Below.heap_alloc w o g h.lt).trans h
theorem Blk.set_ (h : Blk w g t cs) (i : Nat) (u : Value) : Blk (w.setCell ⟨g, i, none⟩ u) g t (cs.setIfInBounds i u) := by
  unfold Blk at h ⊢
  simp [World.setCell, Array.getElem?_modify, h]
theorem Blk.far (h : Blk w g t cs) {p : Addr} (hp : g ≠ p.block) (u : Value) : Blk (w.setCell p u) g t cs := (Below.heap_setCell w p u g hp).trans h
theorem Blk.below {B : Nat} (h : Blk w g t cs) (hb : Below B w w') (hg : g < B) : Blk w' g t cs := (hb.block g hg).trans h
theorem Blk.grown {row : Option Nat} (h : Blk w g t cs) (hb : w.grownBy w' row) (hg : some g ≠ row) : Blk w' g t cs := (hb.block g h.lt hg).trans h
theorem Blk.ne_ {g' : Nat} {t' : TypeId} {cs' : Array Value} (h : Blk w g t cs) (h' : Blk w g' t' cs') (hne : t ≠ t') : g ≠ g' := by
  rintro rfl
  unfold Blk at h h'
  rw [h] at h'
  injection h' with h'
  injection h' with _ ht
  exact hne ht
theorem own_blk_ne {base : Nat} {e : TypeId} {size n : Nat} {v : Value} {xs : List Value} (h : w.ownsRow base e size v n xs) (hg : Blk w g t cs) (hne : e ≠ t) : v.ownBlock ≠ some g := by
  rcases h.2 with ⟨rfl, _⟩ | ⟨g', cap, cur, rfl, _, hh, _⟩
  · simp [Value.ownBlock]
  · intro he
    have : g' = g := by simpa [Value.ownBlock] using he
    subst this
    exact Blk.ne_ (t := e) hh hg hne rfl
end

/-- Of the blocks that were there only those of which S says so have turned. -/
structure Only (S : Nat → Prop) (w w' : World) : Prop where
  os : w'.os = w.os
  tape : w'.tape = w.tape
  output : w'.output = w.output
  size : w.heap.size ≤ w'.heap.size
  block : ∀ k, k < w.heap.size → ¬ S k → w'.heap[k]? = w.heap[k]?

section
variable {S T : Nat → Prop} {a w w' : World}
theorem Only.refl (S : Nat → Prop) (w : World) : Only S w w := ⟨rfl, rfl, rfl, Nat.le_refl _, fun _ _ _ => rfl⟩
theorem Only.trans {b c : World} (h : Only S a b) (k : Only S b c) : Only S a c :=
  ⟨k.os.trans h.os, k.tape.trans h.tape, k.output.trans h.output, Nat.le_trans h.size k.size, fun i hi hs => (k.block i (Nat.lt_of_lt_of_le hi h.size) hs).trans (h.block i hi hs)⟩
/-- What the second step turns is turned too, or was not there ahead of the first one. -/
theorem Only.trans' {b c : World} (h : Only S a b) (k : Only T b c) (hT : ∀ i, T i → S i ∨ a.heap.size ≤ i) : Only S a c :=
  ⟨k.os.trans h.os, k.tape.trans h.tape, k.output.trans h.output, Nat.le_trans h.size k.size, fun i hi hs => (k.block i (Nat.lt_of_lt_of_le hi h.size) (fun ht => by rcases hT i ht with h1 | h1; exact hs h1; omega)).trans (h.block i hi hs)⟩
theorem Only.mono (h : Only S w w') (hs : ∀ i, S i → T i) : Only T w w' := ⟨h.os, h.tape, h.output, h.size, fun i hi ht => h.block i hi (fun hS => ht (hs i hS))⟩
theorem Only.drew (h : Only S a w) : Only S a w.drew := ⟨h.os, h.tape, h.output, h.size, h.block⟩
theorem Only.drewN (h : Only S a w) (n : Nat) : Only S a (w.drewN n) := ⟨h.os, h.tape, h.output, h.size, h.block⟩
theorem Only.alloc (h : Only S a w) (o : Obj) : Only S a (w.alloc o) :=
  ⟨h.os, h.tape, h.output, Nat.le_trans h.size (by simp), fun i hi hs => (Below.heap_alloc w o i (Nat.lt_of_lt_of_le hi h.size)).trans (h.block i hi hs)⟩
theorem Only.setCell (h : Only S a w) {p : Addr} (hp : S p.block ∨ a.heap.size ≤ p.block) (u : Value) : Only S a (w.setCell p u) :=
  ⟨h.os, h.tape, h.output, by simpa [World.setCell] using h.size, fun i hi hs => (Below.heap_setCell w p u i (by
    rintro rfl
    rcases hp with hp | hp
    · exact hs hp
    · omega)).trans (h.block i hi hs)⟩
theorem Only.grown (h : Only S a w) {row : Option Nat} (hg : w.grownBy w' row) (hr : ∀ k, row = some k → S k ∨ a.heap.size ≤ k) : Only S a w' :=
  ⟨hg.os.trans h.os, hg.tape.trans h.tape, hg.output.trans h.output, Nat.le_trans h.size hg.size, fun i hi hs => (hg.block i (Nat.lt_of_lt_of_le hi h.size) (fun e => by
    rcases hr i e.symm with h1 | h1
    · exact hs h1
    · omega)).trans (h.block i hi hs)⟩
theorem Only.below_ (h : Below a.heap.size a w) : Only S a w := ⟨h.os, h.tape, h.output, h.size, fun i hi _ => h.block i hi⟩
theorem Only.below {B : Nat} (h : Only S w w') (hS : ∀ i, S i → B ≤ i) (hB : B ≤ w.heap.size) : Below B w w' :=
  ⟨h.os, h.tape, h.output, h.size, fun k hk => h.block k (by omega) (fun hs => by have := hS k hs; omega)⟩
theorem Only.blk {g : Nat} {t : TypeId} {cs : Array Value} (h : Only S w w') (hb : Blk w g t cs) (hg : ¬ S g) : Blk w' g t cs := (h.block g hb.lt hg).trans hb
theorem Only.owns {base : Nat} {e : TypeId} {size n : Nat} {v : Value} {xs : List Value} (h : Only S w w') (ho : w.ownsRow base e size v n xs) (hv : ∀ k, v.ownBlock = some k → ¬ S k) : w'.ownsRow base e size v n xs := by
  refine ⟨ho.1, ?_⟩
  rcases ho.2 with hn | ⟨g, cap, cur, rfl, hb, hgg, rest⟩
  · exact .inl hn
  · refine .inr ⟨g, cap, cur, rfl, hb, ?_, rest⟩
    rw [h.block g (Array.getElem?_eq_some_iff.1 hgg).1 (hv g rfl)]
    exact hgg
theorem Only.cell {p : Addr} (h : Only S w w') (hp : p.block < w.heap.size) (hs : ¬ S p.block) : w'.cell? p = w.cell? p := World.cell?_of_block (h.block p.block hp hs)
end

/-- An owned row behind a store into it. -/
theorem owns_set {w : World} {base : Nat} {e : TypeId} {g n cap : Nat} {xs : List Value} (h : w.ownsRow base e 1 (.slice (some ⟨g, 0, none⟩) n cap) n xs) (j : Nat) (_hj : j < n) (u : Value) :
    (w.setCell ⟨g, j, none⟩ u).ownsRow base e 1 (.slice (some ⟨g, 0, none⟩) n cap) n (xs.set j u) := (h.stored j u).1
theorem owns_form {w : World} {base : Nat} {e : TypeId} {size n : Nat} {v : Value} {xs : List Value} (h : w.ownsRow base e size v n xs) :
    (v = .slice none 0 0 ∧ n = 0) ∨ ∃ g cap, v = .slice (some ⟨g, 0, none⟩) n cap ∧ n ≤ cap ∧ cap ≤ maxLen ∧ base ≤ g ∧ g < w.heap.size := by
  rcases h.2 with h0 | ⟨g, cap, cur, h1, h2, h3, h4, h5, _⟩
  · exact .inl h0
  · exact .inr ⟨g, cap, h1, h4, h5, h2, (Array.getElem?_eq_some_iff.1 h3).1⟩
theorem block_of_add (a : Addr) (n : Nat) : (a.add n).block = a.block := by unfold Addr.add; split <;> rfl
theorem add_of_add (a : Addr) (i j : Nat) : (a.add i).add j = a.add (i + j) := by
  unfold Addr.add
  by_cases hi : i = 0 <;> by_cases hj : j = 0 <;> simp [hi, hj, Nat.add_assoc]

def Reads (w : World) (B size : Nat) (A : Option Addr) (n : Nat) (xs : List Value) : Prop :=
  xs.length = n * size ∧ (0 < n → ∃ ad, A = some ad ∧ ad.block < B ∧ ∀ j u, xs[j]? = some u → w.cell? (ad.add j) = some u)

section
variable {w w' : World} {B B' size n : Nat} {A : Option Addr} {xs : List Value}
theorem Reads.at_ {k : Nat} (h : Reads w B 1 A n xs) (hk : k < n) : ∃ ad u, A = some ad ∧ ad.block < B ∧ xs[k]? = some u ∧ w.cell? (ad.add k) = some u := by
  obtain ⟨ad, e, hb, hc⟩ := h.2 (by omega)
  have hl : k < xs.length := by have := h.1; omega
  exact ⟨ad, xs[k], e, hb, List.getElem?_eq_getElem hl, hc k _ (List.getElem?_eq_getElem hl)⟩
theorem Reads.keep (h : Reads w B size A n xs) (hk : ∀ p : Addr, p.block < B → w'.cell? p = w.cell? p) : Reads w' B size A n xs :=
  ⟨h.1, fun hn => by
    obtain ⟨ad, e, hb, hc⟩ := h.2 hn
    exact ⟨ad, e, hb, fun j u hu => (hk _ (by rw [block_of_add]; exact hb)).trans (hc j u hu)⟩⟩
theorem Reads.more (h : Reads w B size A n xs) (hB : B ≤ B') : Reads w B' size A n xs :=
  ⟨h.1, fun hn => by
    obtain ⟨ad, e, hb, hc⟩ := h.2 hn
    exact ⟨ad, e, by omega, hc⟩⟩
theorem Reads.below (h : Reads w B size A n xs) (hb : Below B w w') : Reads w' B size A n xs := h.keep fun _ hp => hb.cell hp
theorem Reads.drew (h : Reads w B size A n xs) : Reads w.drew B size A n xs := h
theorem Reads.drewN (h : Reads w B size A n xs) (k : Nat) : Reads (w.drewN k) B size A n xs := h
theorem Reads.alloc (h : Reads w B size A n xs) (hB : B ≤ w.heap.size) (o : Obj) : Reads (w.alloc o) B size A n xs := h.keep fun p hp => World.cell?_alloc_lt w o p (by omega)
theorem Reads.setCell (h : Reads w B size A n xs) {p : Addr} (hB : B ≤ p.block) (u : Value) : Reads (w.setCell p u) B size A n xs :=
  h.keep fun q hq => World.cell?_setCell_other w p q u (fun e => by subst e; omega)
theorem Reads.grown (h : Reads w B size A n xs) {row : Option Nat} (hg : w.grownBy w' row) (hB : B ≤ w.heap.size) (hr : ∀ g, row = some g → B ≤ g) : Reads w' B size A n xs :=
  h.keep fun p hp => World.cell?_of_block (hg.block p.block (by omega) (fun e => by have := hr _ e.symm; omega))
theorem Reads.cut (h : Reads w B size A n xs) {k cap : Nat} (hk : k ≤ n) (hc : n ≤ cap) :
    Reads w B size (if cap = k then A else A.map (·.add (k * size))) (n - k) (xs.drop (k * size)) := by
  refine ⟨by rw [List.length_drop, h.1, Nat.sub_mul], fun hn => ?_⟩
  obtain ⟨ad, rfl, hb, hcell⟩ := h.2 (by omega)
  rw [if_neg (by omega)]
  refine ⟨ad.add (k * size), rfl, by rw [block_of_add]; exact hb, fun j u hu => ?_⟩
  rw [add_of_add]
  exact hcell _ u (by rw [← hu, List.getElem?_drop])
theorem Reads.of_own {base : Nat} {e : TypeId} {c : Nat} (h : w.ownsRow base e size (.slice A n c) n xs) : Reads w w.heap.size size A n xs := by
  refine ⟨h.1, fun hn => ?_⟩
  obtain ⟨g, cap, hv, _, hlt⟩ := h.form hn
  have hA : A = some ⟨g, 0, none⟩ := by injection hv
  subst hA
  exact ⟨_, rfl, hlt, h.cells (g := g) rfl⟩
end

section
variable {P : Program} (w : World)

theorem run_append_of_nil (base : Nat) (t ty e : TypeId) (i : TypeInfo) (size : Nat) (ht : P.underlying t = some (.slice e)) (hi : P.info? e = some i)
    (v : Value) (n : Nat) (xs : List Value) (hown : w.ownsRow base e size v n xs) (c : Nat) : (Builtin.append_ #[t, t] ty #[v, .slice none 0 c]).run P w = .ok v w := by
  rcases hown.2 with ⟨rfl, rfl⟩ | ⟨g, cap, cur, rfl, _, _, hnc, _⟩
  · simp [Builtin.append_, run_underlying ht, sizeOf, typeInfo, hi, Builtin.lenOf, Builtin.firstCells]
  · simp [Builtin.append_, run_underlying ht, sizeOf, typeInfo, hi, Builtin.lenOf, Builtin.firstCells, hnc, storeCells]

theorem run_append_any (base : Nat) (t ty e : TypeId) (i : TypeInfo) (z : Value) (size bytes : Nat) (ht : P.underlying t = some (.slice e)) (hi : P.info? e = some i) (hz : i.zero = some z)
    (hsize : i.size = size) (hby : i.bytes = bytes) (hzs : z.cells.size = size) (hsz : 0 < size)
    (v : Value) (n : Nat) (xs : List Value) (hown : w.ownsRow base e size v n xs)
    (B : Nat) (A : Option Addr) (m c : Nat) (news : List Value) (hr : Reads w B size A m news) (h1 : ∀ u ∈ news, u.oneCell' = true)
    (h63 : n + m ≤ maxLen) (hbytes : (n + m) * bytes ≤ 140737488355328) (hbase : base ≤ w.heap.size) :
    ∃ v' w', (Builtin.append_ #[t, t] ty #[v, .slice A m c]).run P w = .ok v' w' ∧ w'.ownsRow base e size v' (n + m) (xs ++ news) ∧ w.grownBy w' v.ownBlock ∧
      (v'.ownBlock = v.ownBlock ∨ v'.ownBlock = some w.heap.size) := by
  rcases A with _ | ad
  · have hm : m = 0 := by
      rcases Nat.eq_zero_or_pos m with h0 | h0
      · exact h0
      · obtain ⟨ad, h, _⟩ := hr.2 h0
        cases h
    subst hm
    have hn : news = [] := List.eq_nil_of_length_eq_zero (by simpa using hr.1)
    subst hn
    exact ⟨v, w, run_append_of_nil w base t ty e i size ht hi v n xs hown c, by simpa using hown, World.grownBy.refl w _, .inl rfl⟩
  · have hcells : ∀ j u, news[j]? = some u → w.cell? (ad.add j) = some u := by
      intro j u hu
      rcases Nat.eq_zero_or_pos m with h0 | h0
      · subst h0
        have hn : news = [] := List.eq_nil_of_length_eq_zero (by simpa using hr.1)
        subst hn
        simp at hu
      · obtain ⟨ad', h, _, hc⟩ := hr.2 h0
        injection h with h
        subst h
        exact hc j u hu
    obtain ⟨v', w', hrun, h2, h3, _, h5⟩ := run_append_own_at (P := P) w base t ty e i z size bytes ht hi hz hsize hby hzs hsz v n xs hown ad m c news hr.1 hcells h1 h63 hbytes hbase
    exact ⟨v', w', hrun, h2, h3, h5⟩

theorem wp_append_any {o : Oper} {a : Act} {K : Act → World → Prop} {Q : Exit → Act → World → Prop} (s x : Operand) (t : TypeId)
    (ho : o.op = .call { callee := .builtin .append, args := #[s, x], argTypes := #[t, t] })
    (base : Nat) (e : TypeId) (i : TypeInfo) (z : Value) (size bytes : Nat) (ht : P.underlying t = some (.slice e)) (hi : P.info? e = some i) (hz : i.zero = some z)
    (hsize : i.size = size) (hby : i.bytes = bytes) (hzs : z.cells.size = size) (hsz : 0 < size)
    (v : Value) (n : Nat) (xs : List Value) (hs : a.eval s = v) (hown : w.ownsRow base e size v n xs)
    (B : Nat) (A : Option Addr) (m c : Nat) (news : List Value) (hx : a.eval x = .slice A m c) (hr : Reads w B size A m news) (h1 : ∀ u ∈ news, u.oneCell' = true)
    (h63 : n + m ≤ maxLen) (hbytes : (n + m) * bytes ≤ 140737488355328) (hbase : base ≤ w.heap.size)
    (h : ∀ v' w', w'.ownsRow base e size v' (n + m) (xs ++ news) → w.grownBy w' v.ownBlock → (v'.ownBlock = v.ownBlock ∨ v'.ownBlock = some w.heap.size) → K (a.put o.dst v') w') : o.wp P a w K Q := by
  obtain ⟨v', w', hrun, h2, h3, h4⟩ := run_append_any (P := P) w base t o.type e i z size bytes ht hi hz hsize hby hzs hsz v n xs hown B A m c news hr h1 h63 hbytes hbase
  unfold Oper.wp execOp
  simp only [ho, resolve, invoke, builtin, Sem.run_bind, Sem.run_pure, Result.andThen_ok, List.map_toArray, List.map_cons, List.map_nil, hs, hx, hrun]
  exact h v' w' h2 h3 h4

theorem wpList_append_any {ops : Array Oper} {rest : List Oper} {o : Oper} {a : Act} {Q : Exit → Act → World → Prop} (hgd : o.guard = none) (s x : Operand) (t : TypeId)
    (ho : o.op = .call { callee := .builtin .append, args := #[s, x], argTypes := #[t, t] })
    (base : Nat) (e : TypeId) (i : TypeInfo) (z : Value) (size bytes : Nat) (ht : P.underlying t = some (.slice e)) (hi : P.info? e = some i) (hz : i.zero = some z)
    (hsize : i.size = size) (hby : i.bytes = bytes) (hzs : z.cells.size = size) (hsz : 0 < size)
    (v : Value) (n : Nat) (xs : List Value) (hs : a.eval s = v) (hown : w.ownsRow base e size v n xs)
    (B : Nat) (A : Option Addr) (m c : Nat) (news : List Value) (hx : a.eval x = .slice A m c) (hr : Reads w B size A m news) (h1 : ∀ u ∈ news, u.oneCell' = true)
    (h63 : n + m ≤ maxLen) (hbytes : (n + m) * bytes ≤ 140737488355328) (hbase : base ≤ w.heap.size)
    (h : ∀ v' w', w'.ownsRow base e size v' (n + m) (xs ++ news) → w.grownBy w' v.ownBlock → (v'.ownBlock = v.ownBlock ∨ v'.ownBlock = some w.heap.size) → wpList P ops Q rest (a.put o.dst v') w') : wpList P ops Q (o :: rest) a w :=
  wpList_plain hgd fun _ hK => wp_append_any w s x t ho base e i z size bytes ht hi hz hsize hby hzs hsz v n xs hs hown B A m c news hx hr h1 h63 hbytes hbase fun v' w' h2 h3 h4 => hK _ _ (h v' w' h2 h3 h4)

end


theorem quiet_left {P : Program} {f : FuncId} {args : Array Value} {w : World} {n : Nat} {v : Value}
    (h : Calls P f args (w.drewN n) fun e w' => e = .returned v ∧ w.drewN n = w') : Calls P f args (w.drewN n) fun e w'' => e = .returned v ∧ ∃ m, w'' = w.drewN m :=
  h.mono fun _ _ ⟨he, hm⟩ => ⟨he, n, hm.symm⟩

theorem run_make_rowN {P : Program} (t e : TypeId) (i : TypeInfo) (z : Value) (ht : P.underlying t = some (.slice e)) (hi : P.info? e = some i) (hz : i.zero = some z)
    (kl kc : IntKind) (n c : Nat) (hnc : n ≤ c) (hbytes : i.bytes * c ≤ 281474976710656) (h63 : c ≤ 9223372036854775807) (w : World) :
    (Instr.makeSlice t (.int kl (n : Int)) (.int kc (c : Int))).run P w = .ok (.slice (some ⟨w.heap.size, 0, none⟩) n c) (w.alloc (.cells (madeCells z.cells (c * i.size)) e)) := by
  have hb : (i.bytes : Int) * (c : Int) ≤ 281474976710656 := by
    have h : ((i.bytes * c : Nat) : Int) ≤ 281474976710656 := by omega
    rwa [Int.natCast_mul] at h
  have hr := run_make (P := P) w t e i z ht hi hz kl kc n c (by omega) (by omega) hb (by omega)
  simp only [Int.toNat_natCast] at hr
  exact hr
theorem results_tmp4 {fn : Func} {t u v x : Tmp} (h : fn.results = #[.tmp t, .tmp u, .tmp v, .tmp x]) (tmps : Array Value) (P : Program) (w : World) :
    (results fn tmps).run P w = .ok (.tuple #[tmps.getD t undef, tmps.getD u undef, tmps.getD v undef, tmps.getD x undef]) w := by simp [results, h]
section
open Go.ChangeShapes Go.WideShapes Go.Deep
section
variable {H : Type} {enc : TypeId × Value → H} {P : Program} {w : World} {base : Nat} {spare : Nat → Bool} {held : Bool}
end
end
end Go.Proofs.YthggliknnmhbdaaGreat
/- A region that draws its order, walked once, operation by operation, where what each one yields stands whatever the others do meanwhile. No conditions. -/
namespace Go.Proofs.YthggliknnmhbdaaGreat
set_option maxRecDepth 100000
open Go.RowKit

/-- A frame in which the places ds hold what u says. -/
def frGo (ds : List Nat) (u : Nat → Value) : Nat → List Value → List Value
  | _, [] => []
  | s, x :: xs => (if ds.contains s then u s else x) :: frGo ds u (s + 1) xs
def slotOf (u : Nat → Value) (t : Option Nat) : Value := match t with | some t => u t | none => undef
def seen (t : Option Nat) (v : Value) : Value := match t with | some _ => v | none => undef
def upd (u : Nat → Value) (t : Option Nat) (v : Value) : Nat → Value := fun s => if t = some s then v else u s

theorem frGo_len (ds : List Nat) (u : Nat → Value) : ∀ (s : Nat) (xs : List Value), (frGo ds u s xs).length = xs.length
  | _, [] => rfl
  | s, _ :: xs => by simp [frGo, frGo_len ds u (s + 1) xs]
theorem frGo_at (ds : List Nat) (u : Nat → Value) : ∀ (xs : List Value) (s k : Nat), (frGo ds u s xs)[k]? = (xs[k]?).map fun x => if ds.contains (s + k) then u (s + k) else x
  | [], s, k => by simp [frGo]
  | x :: xs, s, 0 => by simp [frGo]
  | x :: xs, s, k + 1 => by
    simp only [frGo, List.getElem?_cons_succ, frGo_at ds u xs (s + 1) k]
    rw [show s + 1 + k = s + (k + 1) by omega]
theorem frGo_put (ds : List Nat) (u : Nat → Value) (xs : List Value) (t : Nat) (v : Value) (ht : t ∈ ds) :
    (frGo ds u 0 xs).toArray.setIfInBounds t v = (frGo ds (upd u (some t) v) 0 xs).toArray := by
  apply Array.ext_getElem?
  intro k
  rw [Array.getElem?_setIfInBounds]
  simp only [List.getElem?_toArray, List.size_toArray, frGo_len, frGo_at, Nat.zero_add]
  by_cases hk : t = k
  · subst hk
    by_cases hl : t < xs.length
    · simp [hl, upd, ht]
    · simp [hl]
  · rw [if_neg hk]
    cases xs[k]? with
    | none => rfl
    | some x =>
      simp only [Option.map_some, upd, Option.some.injEq, hk, if_false]

def predsHold (ops : Array Oper) (V : List (Value → World → Prop)) (u : Nat → Value) (w : World) : List Edge → Prop
  | [] => True
  | e :: es => (if Region.binds .any e = true then (match ops[e.on]? with | some o => V.getD e.on (fun _ _ => True) (slotOf u o.dst) w | none => True) else True) ∧ predsHold ops V u w es
def allHold (V : List (Value → World → Prop)) (u : Nat → Value) (w : World) : Nat → List Oper → Prop
  | _, [] => True
  | i, o :: os => V.getD i (fun _ _ => True) (slotOf u o.dst) w ∧ allHold V u w (i + 1) os

def dstsOf (ops : Array Oper) : List Nat := ops.toList.filterMap (·.dst)
def frOf (ops : Array Oper) (u : Nat → Value) (tmps : Array Value) : Array Value := (frGo (dstsOf ops) u 0 tmps.toList).toArray

/-- One operation's part. -/
def OrdStep (P : Program) (ops : Array Oper) (Q : Exit → Act → World → Prop) (R : World → World → Prop) (V : List (Value → World → Prop)) (a : Act) (w : World) (i : Nat) (o : Oper) : Prop :=
  ∀ (u : Nat → Value) (w1 : World), R w.drew w1 → predsHold ops V u w1 o.after.toList →
    ∀ K : Act → World → Prop, (∀ v w2, R w1 w2 → V.getD i (fun _ _ => True) (seen o.dst v) w2 → K ((⟨frOf ops u a.tmps, a.defers⟩ : Act).put o.dst v) w2) →
      if Region.wanted o (yielded ops (frOf ops u a.tmps)) = true then o.wp P ⟨frOf ops u a.tmps, a.defers⟩ w1 K Q else V.getD i (fun _ _ => True) undef w1
def OrdSteps (P : Program) (ops : Array Oper) (Q : Exit → Act → World → Prop) (R : World → World → Prop) (V : List (Value → World → Prop)) (a : Act) (w : World) : Nat → List Oper → Prop
  | _, [] => True
  | i, o :: os => OrdStep P ops Q R V a w i o ∧ OrdSteps P ops Q R V a w (i + 1) os

/-- Each edge points back, no two operations write one place. -/
def ordOk (ops : Array Oper) : Bool :=
  ops.toList.zipIdx.all (fun (o, i) => o.after.toList.all (fun e => !Region.binds .any e || decide (e.on < i))) &&
  ops.toList.zipIdx.all (fun (o, i) => ops.toList.zipIdx.all fun (o', j) => i == j || o.dst.isNone || o.dst != o'.dst)

section
variable {P : Program} {ops : Array Oper} {Q : Exit → Act → World → Prop} {R : World → World → Prop} {V : List (Value → World → Prop)} {a : Act} {w : World}

theorem OrdSteps.at_ : ∀ (l : List Oper) (k : Nat), OrdSteps P ops Q R V a w k l → ∀ i o, l[i]? = some o → OrdStep P ops Q R V a w (k + i) o
  | [], _, _, i, o, h => by simp at h
  | x :: l, k, hs, 0, o, h => by
    simp at h
    subst h
    exact hs.1
  | x :: l, k, hs, i + 1, o, h => by
    have := OrdSteps.at_ l (k + 1) hs.2 i o (by simpa using h)
    rwa [show k + 1 + i = k + (i + 1) by omega] at this
theorem allHold_mk {u : Nat → Value} {w1 : World} : ∀ (l : List Oper) (k : Nat), (∀ i o, l[i]? = some o → V.getD (k + i) (fun _ _ => True) (slotOf u o.dst) w1) → allHold V u w1 k l
  | [], _, _ => trivial
  | x :: l, k, h => ⟨h 0 x rfl, allHold_mk l (k + 1) fun i o ho => by
      have := h (i + 1) o (by simpa using ho)
      rwa [show k + (i + 1) = k + 1 + i by omega] at this⟩
theorem predsHold_mk {u : Nat → Value} {w1 : World} : ∀ (es : List Edge), (∀ e ∈ es, Region.binds .any e = true → ∀ o, ops[e.on]? = some o → V.getD e.on (fun _ _ => True) (slotOf u o.dst) w1) → predsHold ops V u w1 es
  | [], _ => trivial
  | e :: es, h => ⟨by
      split
      · rename_i hb
        split
        · exact h e (by simp) hb _ (by assumption)
        · trivial
      · trivial, predsHold_mk es fun e' he => h e' (by simp [he])⟩

theorem ordOk_edge (h : ordOk ops = true) {i : Nat} {o : Oper} (ho : ops[i]? = some o) {e : Edge} (he : e ∈ o.after) (hb : Region.binds .any e = true) : e.on < i := by
  simp only [ordOk, Bool.and_eq_true, List.all_eq_true] at h
  have hm : (o, i) ∈ ops.toList.zipIdx := by
    rw [List.mem_zipIdx_iff_getElem?]
    simpa using ho
  have h1 := h.1 (o, i) hm e (by simpa using he)
  simpa [hb] using h1
theorem ordOk_dst (h : ordOk ops = true) {i j : Nat} {o o' : Oper} (ho : ops[i]? = some o) (ho' : ops[j]? = some o') (hij : i ≠ j) {t : Nat} (ht : o.dst = some t) : o'.dst ≠ some t := by
  simp only [ordOk, Bool.and_eq_true, List.all_eq_true] at h
  have hm : (o, i) ∈ ops.toList.zipIdx := by
    rw [List.mem_zipIdx_iff_getElem?]
    simpa using ho
  have hm' : (o', j) ∈ ops.toList.zipIdx := by
    rw [List.mem_zipIdx_iff_getElem?]
    simpa using ho'
  have h1 := h.2 (o, i) hm (o', j) hm'
  simp only [Bool.or_eq_true, beq_iff_eq, hij, false_or, ht, Option.isNone_some, Bool.false_eq_true, bne_iff_ne] at h1
  exact fun e => h1 e.symm

theorem count_le_set {l : Array Bool} {i : Nat} {n : Nat} (hi : l.getD i true = false) (h : (l.toList.filter (!·)).length ≤ n + 1) :
    ((l.setIfInBounds i true).toList.filter (!·)).length ≤ n := by
  have hlt : i < l.size := by
    rcases Nat.lt_or_ge i l.size with h' | h'
    · exact h'
    · simp [Array.getElem?_eq_none h'] at hi
  have hx : l.toList[i]? = some false := by
    simp [hlt] at hi
    simp [hlt, hi]
  rw [Array.toList_setIfInBounds]
  generalize l.toList = xs at *
  clear hi hlt
  induction xs generalizing i n with
  | nil => simp at hx
  | cons x xs ih =>
    cases i with
    | zero =>
      simp at hx
      subst hx
      simp at h ⊢
      exact h
    | succ i =>
      simp at hx
      cases x with
      | true =>
        simp at h ⊢
        exact ih h hx
      | false =>
        simp at h ⊢
        cases n with
        | zero =>
          exfalso
          have : xs.filter (!·) = [] := List.eq_nil_of_length_eq_zero (by omega)
          have hm : false ∈ xs := List.mem_of_getElem? hx
          have := List.filter_eq_nil_iff.1 this false hm
          simp at this
        | succ n => exact Nat.succ_le_succ (ih (by omega) hx)

theorem wpAny_ord (hok : ordOk ops = true) (htrans : ∀ {x y z}, R x y → R y z → R x z) (hV : ∀ i v {x y}, V.getD i (fun _ _ => True) v x → R x y → V.getD i (fun _ _ => True) v y) (hrefl : ∀ x, R x x)
    (steps : OrdSteps P ops Q R V a w 0 ops.toList)
    (done : ∀ u w1, R w.drew w1 → allHold V u w1 0 ops.toList → Q .normal ⟨frOf ops u a.tmps, a.defers⟩ w1) :
    ∀ (fuel : Nat) (listed : Array Bool) (u : Nat → Value) (w1 : World), listed.size = ops.size → (listed.toList.filter (!·)).length ≤ fuel → R w.drew w1 →
      (∀ i o, ops[i]? = some o → listed.getD i false = true → V.getD i (fun _ _ => True) (slotOf u o.dst) w1) →
      wpAny P .any ops Q fuel listed ⟨frOf ops u a.tmps, a.defers⟩ w1 := by
  have hall : ∀ (listed : Array Bool) (u : Nat → Value) (w1 : World), listed.size = ops.size → R w.drew w1 →
      (∀ i o, ops[i]? = some o → listed.getD i false = true → V.getD i (fun _ _ => True) (slotOf u o.dst) w1) → Region.ready .any ops listed = [] → Q .normal ⟨frOf ops u a.tmps, a.defers⟩ w1 := by
    intro listed u w1 hsz hR hI hr
    have hlist : ∀ n, ∀ i, i < n → i < ops.size → listed.getD i false = true := by
      intro n
      induction n with
      | zero => intro i hi; omega
      | succ n ih =>
        intro i hi hlt
        rcases Nat.lt_or_ge i n with h | h
        · exact ih i h hlt
        · obtain rfl : i = n := by omega
          cases hb : listed.getD i false with
          | true => rfl
          | false =>
            exfalso
            have hm : i ∈ Region.ready .any ops listed := mem_ready.2 ⟨by simp [hsz, hlt] at hb ⊢; exact hb, ops[i], by simp [hlt], fun e he hb => by
              have := ordOk_edge hok (i := i) (o := ops[i]) (by simp [hlt]) he hb
              exact ih e.on this (by omega)⟩
            rw [hr] at hm
            cases hm
    refine done u w1 hR (allHold_mk _ 0 fun i o ho => ?_)
    rw [Nat.zero_add]
    have ho' : ops[i]? = some o := by simpa using ho
    have hlt : i < ops.size := (Array.getElem?_eq_some_iff.1 ho').1
    exact hI i o ho' (hlist (i + 1) i (by omega) hlt)
  intro fuel
  induction fuel with
  | zero =>
    intro listed u w1 hsz hc hR hI
    have hr : Region.ready .any ops listed = [] := by
      rw [List.eq_nil_iff_forall_not_mem]
      intro j hj
      have h0 := (mem_ready.1 hj).1
      have hlt : j < listed.size := by
        rcases Nat.lt_or_ge j listed.size with h' | h'
        · exact h'
        · simp [Array.getElem?_eq_none h'] at h0
      have hm : false ∈ listed.toList := by
        simp [hlt] at h0
        rw [← h0]
        simp
      have hn := List.eq_nil_of_length_eq_zero (Nat.le_zero.1 hc)
      have := List.filter_eq_nil_iff.1 hn false hm
      simp at this
    exact ⟨hr, hall listed u w1 hsz hR hI hr⟩
  | succ fuel ih =>
    intro listed u w1 hsz hc hR hI
    refine ⟨hall listed u w1 hsz hR hI, fun i hi => ?_⟩
    obtain ⟨hun, o, ho, hes⟩ := mem_ready.1 hi
    have hst := OrdSteps.at_ ops.toList 0 steps i o (by simpa using ho)
    rw [Nat.zero_add] at hst
    have hput : ∀ v, (⟨frOf ops u a.tmps, a.defers⟩ : Act).put o.dst v = ⟨frOf ops (upd u o.dst v) a.tmps, a.defers⟩ := by
      intro v
      cases hd : o.dst with
      | none =>
        have : upd u none v = u := by funext s; simp [upd]
        rw [this]
        rfl
      | some t =>
        have htm : t ∈ dstsOf ops := List.mem_filterMap.2 ⟨o, by simpa using Array.mem_of_getElem? ho, hd⟩
        show (⟨_, _⟩ : Act) = _
        simp only [frOf]
        rw [frGo_put _ _ _ _ _ htm]
    have hnext : ∀ v w2, R w1 w2 → V.getD i (fun _ _ => True) (seen o.dst v) w2 → wpAny P .any ops Q fuel (listed.setIfInBounds i true) ((⟨frOf ops u a.tmps, a.defers⟩ : Act).put o.dst v) w2 := by
      intro v w2 hR2 hv
      rw [hput v]
      refine ih _ _ _ (by simpa using hsz) (count_le_set hun hc) (htrans hR hR2) fun j oj hj hl => ?_
      by_cases hij : j = i
      · subst hij
        rw [ho] at hj
        injection hj with hj
        subst hj
        have h2 : slotOf (upd u o.dst v) o.dst = seen o.dst v := by cases o.dst <;> simp [slotOf, upd, seen]
        rw [h2]
        exact hv
      · rw [getD_set_ne false (Ne.symm hij)] at hl
        have h1 := hV j _ (hI j oj hj hl) hR2
        have h2 : slotOf (upd u o.dst v) oj.dst = slotOf u oj.dst := by
          cases hd : oj.dst with
          | none => rfl
          | some t =>
            have := ordOk_dst hok hj ho hij hd
            simp [slotOf, upd, this]
        rw [h2]
        exact h1
    have hpre : predsHold ops V u w1 o.after.toList := predsHold_mk _ fun e he hb o' ho' => hI e.on o' ho' (hes e (by simpa using he) hb)
    have h1 := hst u w1 hR hpre _ hnext
    unfold wpOp
    simp only [ho]
    split at h1
    · rename_i hw
      rw [if_pos hw]
      exact .inl h1
    · rename_i hw
      rw [if_neg hw]
      exact hnext undef w1 (hrefl w1) (by cases o.dst <;> exact h1)

theorem filter_replicate (n : Nat) : ((Array.replicate n false).toList.filter (!·)).length ≤ n := by simp
theorem frOf_self (ops : Array Oper) (a : Act) : (⟨frOf ops (fun s => a.tmps.getD s undef) a.tmps, a.defers⟩ : Act) = a := by
  have h : frOf ops (fun s => a.tmps.getD s undef) a.tmps = a.tmps := by
    unfold frOf
    apply Array.ext_getElem?
    intro k
    simp only [List.getElem?_toArray, frGo_at, Nat.zero_add, Array.getElem?_toList]
    cases hk : a.tmps[k]? with
    | none => rfl
    | some x => simp [Array.getD_eq_getD_getElem?, hk]
  rw [h]

/-- Each of them stands whatever R's steps do. -/
def stabs (R : World → World → Prop) : List (Value → World → Prop) → Prop
  | [] => True
  | p :: ps => (∀ v {x y}, p v x → R x y → p v y) ∧ stabs R ps
theorem stabs_at : ∀ (V : List (Value → World → Prop)), stabs R V → ∀ i v {x y}, V.getD i (fun _ _ => True) v x → R x y → V.getD i (fun _ _ => True) v y
  | [], _, _, _, _, _, h, _ => by simp at h ⊢
  | p :: _, hs, 0, v, _, _, h, hR => hs.1 v h hR
  | _ :: ps, hs, i + 1, v, _, _, h, hR => by
    have := stabs_at ps hs.2 i v (by simpa using h) hR
    simpa using this
/-- A region that draws its order: each operation once. -/
theorem wp_region_ord {id : Nat} (hm : P.follows .mixedOrders = true) (R : World → World → Prop) (V : List (Value → World → Prop)) (hok : ordOk ops = true)
    (hrefl : ∀ x, R x x) (htrans : ∀ {x y z}, R x y → R y z → R x z) (hV : stabs R V)
    (steps : OrdSteps P ops Q R V a w 0 ops.toList)
    (done : ∀ u w1, R w.drew w1 → allHold V u w1 0 ops.toList → Q .normal ⟨frOf ops u a.tmps, a.defers⟩ w1) : (Code.region id ops true).wp P Q a w := by
  refine wp_region_any hm ?_
  change wpAny P .any ops Q ops.size (Array.replicate ops.size false) a w.drew
  have h := wpAny_ord (Q := Q) (R := R) (V := V) (a := a) (w := w) hok htrans (stabs_at V hV) hrefl steps done ops.size (Array.replicate ops.size false) (fun s => a.tmps.getD s undef) w.drew (by simp) (filter_replicate _) (hrefl _) (fun i o _ hl => by
    exfalso
    simp only [Array.getD_eq_getD_getElem?, Array.getElem?_replicate] at hl
    split at hl <;> simp at hl)
  rwa [frOf_self] at h

theorem ord_plain {o : Oper} {y : Nat → Option Bool} {X Y : Prop} (hg : o.guard = none) (h : X) : if Region.wanted o y = true then X else Y := by
  have hw : Region.wanted o y = true := by simp [Region.wanted, hg]
  rw [if_pos hw]
  exact h
/-- Only new memory is made. -/
def Grows (w w' : World) : Prop := Below w.heap.size w w'
theorem Grows.refl (w : World) : Grows w w := Below.refl _ _
theorem Grows.trans {a b c : World} (h : Grows a b) (k : Grows b c) : Grows a c := Below.trans h (Below.mono k h.size)
theorem Grows.drew (w : World) : Grows w w.drew := (Below.refl _ w).drew
theorem Grows.alloc (w : World) (o : Obj) : Grows w (w.alloc o) := (Below.refl _ w).alloc (Nat.le_refl _) o
theorem Grows.blk {w w' : World} (h : Grows w w') {g : Nat} {t : TypeId} {cs : Array Value} (hb : Blk w g t cs) : Blk w' g t cs := Blk.below hb h hb.lt
/-- It is that value. -/
def Is (x : Value) : Value → World → Prop := fun v _ => v = x
/-- It is a row of its own. -/
def IsRow (n : Nat) (t : TypeId) (cs : Array Value) : Value → World → Prop := fun v w => ∃ g, v = .slice (some ⟨g, 0, none⟩) n n ∧ Blk w g t cs
theorem is_stab (R : World → World → Prop) (a : Value) : ∀ v {x y : World}, Is a v x → R x y → Is a v y := fun _ _ _ h _ => h
theorem isRow_stab (n : Nat) (t : TypeId) (cs : Array Value) : ∀ v {x y : World}, IsRow n t cs v x → Grows x y → IsRow n t cs v y := fun _ _ _ ⟨g, h1, h2⟩ h => ⟨g, h1, h.blk h2⟩
end
end Go.Proofs.YthggliknnmhbdaaGreat
/- A region that draws its order, in which some operations turn the world: each operation once, by which ones have been done. No conditions. -/
namespace Go.Proofs.YthggliknnmhbdaaGreat
set_option maxRecDepth 100000
open Go.RowKit
set_option linter.unusedVariables false
def ldW (ld : Nat → Bool) (i : Nat) : Nat → Bool := fun j => if j = i then true else ld j
/-- the edges that bind have been done -/
def edgesDone (ld : Nat → Bool) : List Edge → Prop
  | [] => True
  | e :: es => (if Region.binds .any e = true then ld e.on = true else True) ∧ edgesDone ld es
/-- One operation's part. -/
def StStep (P : Program) (ops : Array Oper) (Q : Exit → Act → World → Prop) (St : (Nat → Bool) → World → Prop) (V : List (Value → World → Prop)) (a : Act) (i : Nat) (o : Oper) : Prop :=
  ∀ (ld : Nat → Bool) (u : Nat → Value) (w1 : World), ld i = false → edgesDone ld o.after.toList → St ld w1 → predsHold ops V u w1 o.after.toList →
    ∀ K : Act → World → Prop, (∀ v w2, St (ldW ld i) w2 → V.getD i (fun _ _ => True) (seen o.dst v) w2 → K ((⟨frOf ops u a.tmps, a.defers⟩ : Act).put o.dst v) w2) →
      if Region.wanted o (yielded ops (frOf ops u a.tmps)) = true then o.wp P ⟨frOf ops u a.tmps, a.defers⟩ w1 K Q else St (ldW ld i) w1 ∧ V.getD i (fun _ _ => True) undef w1
def StSteps (P : Program) (ops : Array Oper) (Q : Exit → Act → World → Prop) (St : (Nat → Bool) → World → Prop) (V : List (Value → World → Prop)) (a : Act) : Nat → List Oper → Prop
  | _, [] => True
  | i, o :: os => StStep P ops Q St V a i o ∧ StSteps P ops Q St V a (i + 1) os
section
variable {P : Program} {ops : Array Oper} {Q : Exit → Act → World → Prop} {St : (Nat → Bool) → World → Prop} {V : List (Value → World → Prop)} {a : Act} {w : World}
theorem StSteps.at_ : ∀ (l : List Oper) (k : Nat), StSteps P ops Q St V a k l → ∀ i o, l[i]? = some o → StStep P ops Q St V a (k + i) o
  | [], _, _, i, o, h => by simp at h
  | x :: l, k, hs, 0, o, h => by
    simp at h
    subst h
    exact hs.1
  | x :: l, k, hs, i + 1, o, h => by
    have := StSteps.at_ l (k + 1) hs.2 i o (by simpa using h)
    rwa [show k + 1 + i = k + (i + 1) by omega] at this
theorem edgesDone_mk {ld : Nat → Bool} : ∀ (es : List Edge), (∀ e ∈ es, Region.binds .any e = true → ld e.on = true) → edgesDone ld es
  | [], _ => trivial
  | e :: es, h => ⟨by
      split
      · rename_i hb; exact h e (by simp) hb
      · trivial, edgesDone_mk es fun e' he => h e' (by simp [he])⟩
theorem ldW_set {l : Array Bool} {i : Nat} (hi : i < l.size) : (fun j => (l.setIfInBounds i true).getD j false) = ldW (fun j => l.getD j false) i := by
  funext j
  unfold ldW
  by_cases h : j = i
  · subst h; simp [hi]
  · rw [if_neg h, getD_set_ne false (Ne.symm h)]
theorem wpAny_st (hok : ordOk ops = true) (hV : ∀ i v {x y : World}, V.getD i (fun _ _ => True) v x → V.getD i (fun _ _ => True) v y)
    (steps : StSteps P ops Q St V a 0 ops.toList)
    (done : ∀ u w1 ld, (∀ i, i < ops.size → ld i = true) → St ld w1 → allHold V u w1 0 ops.toList → Q .normal ⟨frOf ops u a.tmps, a.defers⟩ w1) :
    ∀ (fuel : Nat) (listed : Array Bool) (u : Nat → Value) (w1 : World), listed.size = ops.size → (listed.toList.filter (!·)).length ≤ fuel → St (fun j => listed.getD j false) w1 →
      (∀ i o, ops[i]? = some o → listed.getD i false = true → V.getD i (fun _ _ => True) (slotOf u o.dst) w1) →
      wpAny P .any ops Q fuel listed ⟨frOf ops u a.tmps, a.defers⟩ w1 := by
  have hall : ∀ (listed : Array Bool) (u : Nat → Value) (w1 : World), listed.size = ops.size → St (fun j => listed.getD j false) w1 →
      (∀ i o, ops[i]? = some o → listed.getD i false = true → V.getD i (fun _ _ => True) (slotOf u o.dst) w1) → Region.ready .any ops listed = [] → Q .normal ⟨frOf ops u a.tmps, a.defers⟩ w1 := by
    intro listed u w1 hsz hR hI hr
    have hlist : ∀ n, ∀ i, i < n → i < ops.size → listed.getD i false = true := by
      intro n
      induction n with
      | zero => intro i hi; omega
      | succ n ih =>
        intro i hi hlt
        rcases Nat.lt_or_ge i n with h | h
        · exact ih i h hlt
        · obtain rfl : i = n := by omega
          cases hb : listed.getD i false with
          | true => rfl
          | false =>
            exfalso
            have hm : i ∈ Region.ready .any ops listed := mem_ready.2 ⟨by simp [hsz, hlt] at hb ⊢; exact hb, ops[i], by simp [hlt], fun e he hb => by
              have := ordOk_edge hok (i := i) (o := ops[i]) (by simp [hlt]) he hb
              exact ih e.on this (by omega)⟩
            rw [hr] at hm
            cases hm
    refine done u w1 _ (fun i hi => hlist (i + 1) i (by omega) hi) hR (allHold_mk _ 0 fun i o ho => ?_)
    rw [Nat.zero_add]
    have ho' : ops[i]? = some o := by simpa using ho
    have hlt : i < ops.size := (Array.getElem?_eq_some_iff.1 ho').1
    exact hI i o ho' (hlist (i + 1) i (by omega) hlt)
  intro fuel
  induction fuel with
  | zero =>
    intro listed u w1 hsz hc hR hI
    have hr : Region.ready .any ops listed = [] := by
      rw [List.eq_nil_iff_forall_not_mem]
      intro j hj
      have h0 := (mem_ready.1 hj).1
      have hlt : j < listed.size := by
        rcases Nat.lt_or_ge j listed.size with h' | h'
        · exact h'
        · simp [Array.getElem?_eq_none h'] at h0
      have hm : false ∈ listed.toList := by
        simp [hlt] at h0
        rw [← h0]
        simp
      have hn := List.eq_nil_of_length_eq_zero (Nat.le_zero.1 hc)
      have := List.filter_eq_nil_iff.1 hn false hm
      simp at this
    exact ⟨hr, hall listed u w1 hsz hR hI hr⟩
  | succ fuel ih =>
    intro listed u w1 hsz hc hR hI
    refine ⟨hall listed u w1 hsz hR hI, fun i hi => ?_⟩
    obtain ⟨hun, o, ho, hes⟩ := mem_ready.1 hi
    have hlt : i < listed.size := by rw [hsz]; exact (Array.getElem?_eq_some_iff.1 ho).1
    have hst := StSteps.at_ ops.toList 0 steps i o (by simpa using ho)
    rw [Nat.zero_add] at hst
    have hput : ∀ v, (⟨frOf ops u a.tmps, a.defers⟩ : Act).put o.dst v = ⟨frOf ops (upd u o.dst v) a.tmps, a.defers⟩ := by
      intro v
      cases hd : o.dst with
      | none =>
        have : upd u none v = u := by funext s; simp [upd]
        rw [this]
        rfl
      | some t =>
        have htm : t ∈ dstsOf ops := List.mem_filterMap.2 ⟨o, by simpa using Array.mem_of_getElem? ho, hd⟩
        show (⟨_, _⟩ : Act) = _
        simp only [frOf]
        rw [frGo_put _ _ _ _ _ htm]
    have hnext : ∀ v w2, St (ldW (fun j => listed.getD j false) i) w2 → V.getD i (fun _ _ => True) (seen o.dst v) w2 → wpAny P .any ops Q fuel (listed.setIfInBounds i true) ((⟨frOf ops u a.tmps, a.defers⟩ : Act).put o.dst v) w2 := by
      intro v w2 hR2 hv
      rw [hput v]
      refine ih _ _ _ (by simpa using hsz) (count_le_set hun hc) (by rw [ldW_set hlt]; exact hR2) fun j oj hj hl => ?_
      by_cases hij : j = i
      · subst hij
        rw [ho] at hj
        injection hj with hj
        subst hj
        have h2 : slotOf (upd u o.dst v) o.dst = seen o.dst v := by cases o.dst <;> simp [slotOf, upd, seen]
        rw [h2]
        exact hv
      · rw [getD_set_ne false (Ne.symm hij)] at hl
        have h1 := hV j (y := w2) _ (hI j oj hj hl)
        have h2 : slotOf (upd u o.dst v) oj.dst = slotOf u oj.dst := by
          cases hd : oj.dst with
          | none => rfl
          | some t =>
            have := ordOk_dst hok hj ho hij hd
            simp [slotOf, upd, this]
        rw [h2]
        exact h1
    have hpre : predsHold ops V u w1 o.after.toList := predsHold_mk _ fun e he hb o' ho' => hI e.on o' ho' (hes e (by simpa using he) hb)
    have hun' : (fun j => listed.getD j false) i = false := by
      simp only
      simp only [Array.getD_eq_getD_getElem?] at hun ⊢
      rw [Array.getElem?_eq_getElem hlt] at hun ⊢
      simpa using hun
    have hed : edgesDone (fun j => listed.getD j false) o.after.toList := edgesDone_mk _ fun e he hb => hes e (by simpa using he) hb
    have h1 := hst (fun j => listed.getD j false) u w1 hun' hed hR hpre _ hnext
    unfold wpOp
    simp only [ho]
    split at h1
    · rename_i hw
      rw [if_pos hw]
      exact .inl h1
    · rename_i hw
      rw [if_neg hw]
      exact hnext undef w1 h1.1 (by cases o.dst <;> exact h1.2)
/-- A region that draws its order: each operation once; St: what the world is, by which operations have been done. -/
theorem wp_region_st {id : Nat} (hm : P.follows .mixedOrders = true) (St : (Nat → Bool) → World → Prop) (V : List (Value → World → Prop)) (hok : ordOk ops = true)
    (hV : stabs (fun _ _ => True) V) (start : St (fun _ => false) w.drew)
    (steps : StSteps P ops Q St V a 0 ops.toList)
    (done : ∀ u w1 ld, (∀ i, i < ops.size → ld i = true) → St ld w1 → allHold V u w1 0 ops.toList → Q .normal ⟨frOf ops u a.tmps, a.defers⟩ w1) : (Code.region id ops true).wp P Q a w := by
  refine wp_region_any hm ?_
  change wpAny P .any ops Q ops.size (Array.replicate ops.size false) a w.drew
  have hrep : ∀ j, (Array.replicate ops.size false).getD j false = false := by
    intro j
    simp only [Array.getD_eq_getD_getElem?, Array.getElem?_replicate]
    split <;> rfl
  have h := wpAny_st (Q := Q) (V := V) (a := a) hok (fun i v x y h => stabs_at (R := fun _ _ => True) V hV i v h trivial) steps done ops.size (Array.replicate ops.size false) (fun s => a.tmps.getD s undef) w.drew (by simp) (filter_replicate _) (by
    have : (fun j => (Array.replicate ops.size false).getD j false) = fun _ => false := funext hrep
    rw [this]; exact start) (fun i o _ hl => by
    rw [hrep] at hl; cases hl)
  rwa [frOf_self] at h
end
/-- A state in which one operation (is it done?) turns the world: of the blocks only S, and it leaves Q. -/
def Sti (S : Nat → Prop) (W : World) (b : Bool) (Q : World → Prop) (y : World) : Prop := Only S W y ∧ (if b = true then Q y else y = W)
theorem Sti.start {S : Nat → Prop} {W : World} {Q : World → Prop} : Sti S W false Q W := ⟨Only.refl _ _, by simp⟩
theorem Sti.was {S : Nat → Prop} {W y : World} {b : Bool} {Q : World → Prop} (h : Sti S W b Q y) (hb : b = false) : y = W := by simpa [hb] using h.2
theorem Sti.got {S : Nat → Prop} {W y : World} {b : Bool} {Q : World → Prop} (h : Sti S W b Q y) (hb : b = true) : Q y := by simpa [hb] using h.2
theorem Sti.put {S : Nat → Prop} {W y : World} {Q : World → Prop} (h : Only S W y) (hq : Q y) : Sti S W true Q y := ⟨h, by simpa using hq⟩
theorem Sti.or {S : Nat → Prop} {W y : World} {b : Bool} {Q : World → Prop} (h : Sti S W b Q y) : y = W ∨ Q y := by
  cases b with
  | false => exact .inl (h.was rfl)
  | true => exact .inr (h.got rfl)
/-- Two operations, one behind the other, turn the world; b0: what the second one stands behind too. -/
def Sti2 (S : Nat → Prop) (W : World) (b0 b1 b2 : Bool) (Q1 Q2 : World → Prop) (y : World) : Prop := Only S W y ∧ (b2 = true → b1 = true ∧ b0 = true) ∧ (if b2 = true then Q2 y else if b1 = true then Q1 y else y = W)
section
variable {S : Nat → Prop} {W y : World} {b0 b1 b2 : Bool} {Q1 Q2 : World → Prop}
theorem Sti2.start {b0 : Bool} : Sti2 S W b0 false false Q1 Q2 W := ⟨Only.refl _ _, by simp, by simp⟩
theorem Sti2.was (h : Sti2 S W b0 b1 b2 Q1 Q2 y) (hb : b1 = false) : y = W ∧ b2 = false := by
  obtain ⟨_, h2, h3⟩ := h
  cases b2 with
  | false => simpa [hb] using h3
  | true => simp [hb] at h2
theorem Sti2.mid (h : Sti2 S W b0 b1 b2 Q1 Q2 y) (hb : b1 = true) (hc : b2 = false) : Q1 y := by simpa [hb, hc] using h.2.2
theorem Sti2.got (h : Sti2 S W b0 b1 b2 Q1 Q2 y) (hb : b2 = true) : Q2 y := by simpa [hb] using h.2.2
theorem Sti2.or (h : Sti2 S W b0 b1 b2 Q1 Q2 y) : y = W ∨ Q1 y ∨ Q2 y := by
  cases b2 with
  | true => exact .inr (.inr (h.got rfl))
  | false =>
    cases b1 with
    | true => exact .inr (.inl (h.mid rfl rfl))
    | false => exact .inl (h.was rfl).1
theorem Sti2.more {b0' : Bool} (h : Sti2 S W b0 b1 b2 Q1 Q2 y) (hb : b0 = true → b0' = true) : Sti2 S W b0' b1 b2 Q1 Q2 y := ⟨h.1, fun e => ⟨(h.2.1 e).1, hb (h.2.1 e).2⟩, h.2.2⟩
end
end Go.Proofs.YthggliknnmhbdaaGreat
/- Loads and stores of long arrays and structs, by one equation on the run: for whatever cells. -/
namespace Go.Proofs.YthggliknnmhbdaaGreat
set_option maxRecDepth 100000
open Go.RowKit
def bs (s : ByteArray) : List Nat := s.data.toList.map UInt8.toNat
theorem bs_lt (s : ByteArray) : ∀ c ∈ bs s, c < 256 := by
  intro c hc
  obtain ⟨u, _, rfl⟩ := List.mem_map.1 hc
  exact UInt8.toNat_lt u
theorem bs_len (s : ByteArray) : (bs s).length = s.size := by simp [bs]

/-- A row of bytes: block g begins with the cells xs, which may be written. -/
structure ByteRow (w : World) (g : Nat) (xs : List Nat) : Prop where
  lt : g < w.heap.size
  cell : ∀ j, j < xs.length → w.cell? ⟨g, j, none⟩ = some (.int .u8 ((xs.getD j 0 : Nat) : Int))
  free : ∀ j, j < xs.length → w.frozen? ⟨g, j, none⟩ = false
theorem ByteRow.only {S : Nat → Prop} {w w' : World} {g : Nat} {xs : List Nat} (h : ByteRow w g xs) (ho : Only S w w') (hg : ¬ S g) : ByteRow w' g xs :=
  ⟨Nat.lt_of_lt_of_le h.lt ho.size, fun j hj => (ho.cell (p := ⟨g, j, none⟩) h.lt hg).trans (h.cell j hj), fun j hj => (World.frozen?_of_block (ho.block g h.lt hg)).trans (h.free j hj)⟩
theorem ByteRow.set {w : World} {g : Nat} {xs : List Nat} (h : ByteRow w g xs) (k v : Nat) (hk : k < xs.length) : ByteRow (w.setCell ⟨g, k, none⟩ (.int .u8 v)) g (xs.set k v) := by
  refine ⟨by simpa using h.lt, fun j hj => ?_, fun j hj => by rw [World.frozen?_setCell]; exact h.free j (by simpa using hj)⟩
  rw [List.length_set] at hj
  by_cases e : k = j
  · subst e
    rw [World.cell?_setCell_same _ _ _ (h.cell k hk)]
    simp [List.getD, hk]
  · rw [World.cell?_setCell_other _ _ _ _ (by intro e2; injection e2 with _ e2; exact e e2), h.cell j hj]
    simp [List.getD, List.getElem?_set_ne e]
section
variable {P : Program}
theorem bytesRow_at (s : ByteArray) (cap j : Nat) (hj : j < s.size) : (bytesRow s cap)[j]? = some (.int .u8 (((bs s).getD j 0 : Nat) : Int)) := by
  have hj' : j < s.data.size := hj
  unfold bytesRow bs
  rw [Array.getElem?_append_left (by simpa using hj')]
  simp [List.getD]
  exact ⟨s.data[j], Array.getElem?_eq_getElem hj', by simp [Array.getElem?_eq_getElem hj']⟩
theorem wp_conv_bytes {o : Oper} {a : Act} {w : World} {K : Act → World → Prop} {Q : Exit → Act → World → Prop} (src dst e : TypeId) (x : Operand) (ho : o.op = .convert src dst x)
    (hs : P.underlying src = some .string) (hd : P.underlying dst = some (.slice e)) (he : P.underlying e = some (.int .u8)) {s : ByteArray} (hx : a.eval x = .string s)
    (h : ∀ c w', ByteRow w' w.heap.size (bs s) → Only (fun _ => False) w w' → w'.heap.size = w.heap.size + 1 → s.size ≤ c → K (a.put o.dst (.slice (some ⟨w.heap.size, 0, none⟩) s.size c)) w') : o.wp P a w K Q := by
  unfold Oper.wp execOp
  simp only [ho, hx, Sem.run_bind, Sem.run_pure, Result.andThen_ok, run_bytes_of_string w src dst e s hs hd he]
  refine h _ _ ⟨by simp, fun j hj => ?_, fun j hj => ?_⟩ (((Only.refl _ w).drew).alloc _) (by simp) (grownCap_ge w s.size 0 e)
  · rw [bs_len] at hj
    have hh := heap_alloc_new w.drew (.cells (bytesRow s (grownCap w s.size 0 e)) e ((bytesRow s (grownCap w s.size 0 e)).size, (bytesRow s (grownCap w s.size 0 e)).size + 1))
    rw [World.size_drew] at hh
    rw [cell_of_row _ _ _ _ _ _ hh]
    exact bytesRow_at s _ j hj
  · rw [bs_len] at hj
    have hh := heap_alloc_new w.drew (.cells (bytesRow s (grownCap w s.size 0 e)) e ((bytesRow s (grownCap w s.size 0 e)).size, (bytesRow s (grownCap w s.size 0 e)).size + 1))
    rw [World.size_drew] at hh
    have hsz : j < (bytesRow s (grownCap w s.size 0 e)).size := by
      have := bytesRow_at s (grownCap w s.size 0 e) j hj
      exact (Array.getElem?_eq_some_iff.1 this).1
    simp only [World.frozen?, hh]
    simp; omega
theorem wpList_conv_bytes {ops : Array Oper} {rest : List Oper} {o : Oper} {a : Act} {w : World} {Q : Exit → Act → World → Prop} (hgd : o.guard = none) (src dst e : TypeId) (x : Operand) (ho : o.op = .convert src dst x)
    (hs : P.underlying src = some .string) (hd : P.underlying dst = some (.slice e)) (he : P.underlying e = some (.int .u8)) {s : ByteArray} (hx : a.eval x = .string s)
    (h : ∀ c w', ByteRow w' w.heap.size (bs s) → Only (fun _ => False) w w' → w'.heap.size = w.heap.size + 1 → s.size ≤ c → wpList P ops Q rest (a.put o.dst (.slice (some ⟨w.heap.size, 0, none⟩) s.size c)) w') : wpList P ops Q (o :: rest) a w :=
  wpList_plain hgd fun _ hK => wp_conv_bytes src dst e x ho hs hd he hx fun c w' h1 h2 h3 h4 => hK _ _ (h c w' h1 h2 h3 h4)
theorem wp_load_by {op : Oper} {a : Act} {w : World} {K : Act → World → Prop} {Q : Exit → Act → World → Prop} (ty : TypeId) (x : Operand) (ho : op.op = .load ty x) {pa v : Value} (hx : a.eval x = pa)
    (hr : (Instr.loadAt ty pa).run P w = .ok v w) (h : K (a.put op.dst v) w) : op.wp P a w K Q := by
  unfold Oper.wp execOp
  simp only [ho, hx, Sem.run_bind, Sem.run_pure, Result.andThen_ok, hr]
  exact h
theorem wpList_load_by {ops : Array Oper} {rest : List Oper} {op : Oper} {a : Act} {w : World} {Q : Exit → Act → World → Prop} (hgd : op.guard = none) (ty : TypeId) (x : Operand) (ho : op.op = .load ty x) {pa v : Value} (hx : a.eval x = pa)
    (hr : (Instr.loadAt ty pa).run P w = .ok v w) (h : wpList P ops Q rest (a.put op.dst v) w) : wpList P ops Q (op :: rest) a w :=
  wpList_plain hgd fun _ hK => wp_load_by ty x ho hx hr (hK _ _ h)
theorem wp_store_by {op : Oper} {a : Act} {w w' : World} {K : Act → World → Prop} {Q : Exit → Act → World → Prop} (ty : TypeId) (x y : Operand) (ho : op.op = .store ty x y) {pa v : Value} (hx : a.eval x = pa) (hy : a.eval y = v)
    (hr : (Instr.storeAt ty pa v).run P w = .ok () w') (h : K (a.put op.dst undef) w') : op.wp P a w K Q := by
  unfold Oper.wp execOp
  simp only [ho, hx, hy, Sem.run_bind, Sem.run_pure, Result.andThen_ok, hr]
  exact h
theorem wpList_store_by {ops : Array Oper} {rest : List Oper} {op : Oper} {a : Act} {w w' : World} {Q : Exit → Act → World → Prop} (hgd : op.guard = none) (ty : TypeId) (x y : Operand) (ho : op.op = .store ty x y) {pa v : Value} (hx : a.eval x = pa) (hy : a.eval y = v)
    (hr : (Instr.storeAt ty pa v).run P w = .ok () w') (h : wpList P ops Q rest (a.put op.dst undef) w') : wpList P ops Q (op :: rest) a w :=
  wpList_plain hgd fun _ hK => wp_store_by ty x y ho hx hy hr (hK _ _ h)
end
end Go.Proofs.YthggliknnmhbdaaGreat
