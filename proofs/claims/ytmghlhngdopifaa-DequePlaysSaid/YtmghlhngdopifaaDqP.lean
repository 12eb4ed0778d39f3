/- Deques, plain: what each step of an act does with cells; what is there stays there. No program in sight. -/
namespace Go.Proofs.Ytmghlhngdopifaa
/-- a cell -/
def ld (C : List Int) (k : Int) : Int := if 0 ≤ k ∧ k < C.length then C.getD k.toNat 0 else 0
def st (C : List Int) (k x : Int) : List Int := if 0 ≤ k ∧ k < C.length then C.set k.toNat x else C
theorem st_len (C : List Int) (k x : Int) : (st C k x).length = C.length := by unfold st; split <;> simp
theorem ld_st (C : List Int) (k x j : Int) : ld (st C k x) j = if j = k ∧ 0 ≤ k ∧ k < C.length then x else ld C j := by
  by_cases hk : 0 ≤ k ∧ k < C.length
  · have e : st C k x = C.set k.toNat x := if_pos hk
    by_cases hj : j = k
    · subst hj
      have h1 : j.toNat < C.length := by omega
      rw [if_pos ⟨rfl, hk⟩, e, ld, List.length_set, if_pos hk]
      simp [List.getD_eq_getElem?_getD, h1]
    · rw [if_neg (fun h => hj h.1), e]
      unfold ld
      rw [List.length_set]
      by_cases h0 : 0 ≤ j ∧ j < C.length
      · rw [if_pos h0, if_pos h0]
        have : k.toNat ≠ j.toNat := by omega
        simp [List.getD_eq_getElem?_getD, this]
      · rw [if_neg h0, if_neg h0]
  · rw [if_neg (fun h => hk h.2), st, if_neg hk]
theorem ld_st_ne {C : List Int} {k x j : Int} (h : j ≠ k) : ld (st C k x) j = ld C j := by rw [ld_st, if_neg (fun e => h e.1)]
theorem ld_st_eq {C : List Int} {k x : Int} (h0 : 0 ≤ k) (h1 : k < C.length) : ld (st C k x) k = x := by rw [ld_st, if_pos ⟨rfl, h0, h1⟩]
theorem ld_app {C l : List Int} {k : Int} (h0 : k < C.length) : ld (C ++ l) k = ld C k := by
  unfold ld
  by_cases h : 0 ≤ k
  · have h1 : k.toNat < C.length := by omega
    rw [if_pos ⟨h, by rw [List.length_append]; omega⟩, if_pos ⟨h, h0⟩]
    simp [List.getD_eq_getElem?_getD, List.getElem?_append_left h1]
  · rw [if_neg (fun e => h e.1), if_neg (fun e => h e.1)]
theorem ld_new {C : List Int} {x : Int} {l : List Int} : ld (C ++ x :: l) C.length = x := by
  unfold ld
  rw [if_pos ⟨by omega, by simp; omega⟩]
  simp [List.getD_eq_getElem?_getD]
/-- An act: a push (0), a pop (1), a steal (2); how many steps are done (of a push that grows: 10 and on); what it has read. -/
structure PAct where
  kind : Nat
  v : Int
  at_ : Nat
  b : Int
  t : Int
  w : Int
  n : Int
  nw : Int
  i : Int
  read : Int
  told : Nat
  got : Int
def newA (kind : Nat) (v : Int) : PAct := ⟨kind, v, 0, 0, 0, 0, 0, 0, 0, 0, 0, 0⟩
/-- what a step answers, the act behind it, the cells behind it -/
structure Res where
  what : Nat
  val : Int
  a : PAct
  C : List Int
def goes (a : PAct) (at' : Nat) (C : List Int) : Res := ⟨0, 0, { a with at_ := at' }, C⟩
def over (a : PAct) (what : Nat) (v : Int) (C : List Int) : Res := ⟨what, v, { a with told := what, got := v }, C⟩
def place (w n i : Int) : Int := w + 1 + i % n
def fresh (n : Int) : List Int := (2 * n) :: List.replicate (2 * n).toNat 0
def pushS (d : Int) (C : List Int) (a : PAct) : Res :=
  match a.at_ with
  | 0 => goes { a with b := ld C (d + 1) } 1 C
  | 1 => goes { a with t := ld C d } 2 C
  | 2 => goes { a with w := ld C (d + 2) } 3 C
  | 3 => goes { a with n := ld C a.w } (if a.b - a.t ≥ ld C a.w then 10 else 20) C
  | 10 => goes { a with nw := C.length, i := a.t } (if a.t = a.b then 13 else 11) (C ++ fresh a.n)
  | 11 => goes { a with read := ld C (place a.w a.n a.i) } 12 C
  | 12 => goes { a with i := a.i + 1 } (if a.i + 1 = a.b then 13 else 11) (st C (place a.nw (2 * a.n) a.i) a.read)
  | 13 => goes { a with w := a.nw, n := 2 * a.n } 20 (st C (d + 2) a.nw)
  | 20 => goes a 21 (st C (place a.w a.n a.b) a.v)
  | _ => over a 1 0 (st C (d + 1) (a.b + 1))
def popS (d : Int) (C : List Int) (a : PAct) : Res :=
  match a.at_ with
  | 0 => goes { a with b := ld C (d + 1) - 1 } 1 C
  | 1 => goes { a with w := ld C (d + 2) } 2 C
  | 2 => goes a 3 (st C (d + 1) a.b)
  | 3 => goes { a with t := ld C d } (if ld C d > a.b then 4 else 5) C
  | 4 => over a 3 0 (st C (d + 1) (a.b + 1))
  | 5 => goes { a with n := ld C a.w } 6 C
  | 6 => if a.t < a.b then over { a with read := ld C (place a.w a.n a.b) } 2 (ld C (place a.w a.n a.b)) C else goes { a with read := ld C (place a.w a.n a.b) } 7 C
  | 7 => if ld C d = a.t then goes { a with i := 1 } 8 (st C d (a.t + 1)) else goes { a with i := 0 } 8 C
  | _ => if a.i = 1 then over a 2 a.read (st C (d + 1) (a.b + 1)) else over a 3 0 (st C (d + 1) (a.b + 1))
def stealS (d : Int) (C : List Int) (a : PAct) : Res :=
  match a.at_ with
  | 0 => goes { a with t := ld C d } 1 C
  | 1 => if a.t ≥ ld C (d + 1) then over { a with b := ld C (d + 1) } 3 0 C else goes { a with b := ld C (d + 1) } 2 C
  | 2 => goes { a with w := ld C (d + 2) } 3 C
  | 3 => goes { a with n := ld C a.w } 4 C
  | 4 => goes { a with read := ld C (place a.w a.n a.t) } 5 C
  | _ => if ld C d = a.t then over a 2 a.read (st C d (a.t + 1)) else over a 4 0 C
def pstep (d : Int) (C : List Int) (a : PAct) : Res :=
  match a.kind with
  | 0 => pushS d C a
  | 1 => popS d C a
  | _ => stealS d C a

/-- how the cells lie: arrays (where, size), the one in use, what it holds, from top on -/
structure Core (d : Int) (C : List Int) (ws : List (Int × Int)) (cur : Int × Int) (q : List Int) (P : Int) : Prop where
  d0 : 0 ≤ d
  dl : d + 2 < C.length
  lay : ∀ p ∈ ws, 1 ≤ p.2 ∧ d + 3 ≤ p.1 ∧ p.1 + p.2 < C.length ∧ ld C p.1 = p.2
  apart : ∀ p ∈ ws, ∀ r ∈ ws, p = r ∨ p.1 + p.2 < r.1 ∨ r.1 + r.2 < p.1
  curm : cur ∈ ws
  wh : ld C (d + 2) = cur.1
  top0 : 0 ≤ ld C d
  topP : ld C d + q.length ≤ P
  room : (q.length : Int) ≤ cur.2
  cont : ∀ j : Nat, j < q.length → ld C (place cur.1 cur.2 (ld C d + j)) = q.getD j 0
theorem place_bd {w n i : Int} (hn : 1 ≤ n) : w + 1 ≤ place w n i ∧ place w n i ≤ w + n := by
  unfold place
  have := Int.emod_nonneg i (show n ≠ 0 by omega)
  have := Int.emod_lt_of_pos i (show 0 < n by omega)
  omega
theorem place_ne {w n i j : Int} (h1 : i < j) (h2 : j - i < n) : place w n i ≠ place w n j := by
  unfold place
  intro e
  have e' : i % n = j % n := by omega
  have := Int.emod_emod_of_dvd (j - i) (Int.dvd_refl n)
  have h3 : (j - i) % n = 0 := by rw [Int.sub_emod, e']; simp
  rw [Int.emod_eq_of_lt (by omega) (by omega)] at h3
  omega
section
variable {d : Int} {C : List Int} {ws : List (Int × Int)} {cur : Int × Int} {q : List Int} {P : Int}
theorem Core.place_far (h : Core d C ws cur q P) {p r : Int × Int} (hp : p ∈ ws) (hr : r ∈ ws) (hne : p ≠ r) (i j : Int) : place p.1 p.2 i ≠ place r.1 r.2 j := by
  have h1 := place_bd (w := p.1) (i := i) (h.lay p hp).1
  have h2 := place_bd (w := r.1) (i := j) (h.lay r hr).1
  rcases h.apart p hp r hr with e | e | e
  · exact absurd e hne
  · omega
  · omega
theorem Core.place_size (h : Core d C ws cur q P) {p r : Int × Int} (hp : p ∈ ws) (hr : r ∈ ws) (i : Int) : place p.1 p.2 i ≠ r.1 := by
  have h1 := place_bd (w := p.1) (i := i) (h.lay p hp).1
  have h2 := (h.lay r hr).1
  rcases h.apart p hp r hr with rfl | e | e
  · omega
  · omega
  · omega
theorem Core.place_in (h : Core d C ws cur q P) {p : Int × Int} (hp : p ∈ ws) (i : Int) : d + 4 ≤ place p.1 p.2 i ∧ place p.1 p.2 i < C.length := by
  have h1 := place_bd (w := p.1) (i := i) (h.lay p hp).1
  have h2 := h.lay p hp
  omega
theorem Core.size (h : Core d C ws cur q P) {p : Int × Int} (hp : p ∈ ws) : ld C p.1 = p.2 := (h.lay p hp).2.2.2
end
/-- what a push under way that grows has copied -/
def Copied (C q : List Int) (top : Int) (a : PAct) : Prop := ∀ x, a.t ≤ x → x < a.i → top ≤ x → ld C (place a.nw (2 * a.n) x) = q.getD (x - top).toNat 0
def Grow (C : List Int) (ws : List (Int × Int)) (q : List Int) (cur : Int × Int) (top : Int) (a : PAct) : Prop := (a.nw, 2 * a.n) ∈ ws ∧ cur.1 + cur.2 < a.nw ∧ a.t ≤ a.i ∧ Copied C q top a
def PT (cur : Int × Int) (top : Int) (a : PAct) : Prop := 0 ≤ a.t ∧ a.t ≤ top ∧ a.b - a.t ≤ cur.2
inductive PushI (top bot : Int) (cur : Int × Int) (C : List Int) (ws : List (Int × Int)) (q : List Int) (a : PAct) : Prop
  | s0 (e : a.at_ = 0)
  | s1 (e : a.at_ = 1) (hb : a.b = bot)
  | s2 (e : a.at_ = 2) (hb : a.b = bot) (ht : PT cur top a)
  | s3 (e : a.at_ = 3) (hb : a.b = bot) (ht : PT cur top a) (hw : a.w = cur.1)
  | s10 (e : a.at_ = 10) (hb : a.b = bot) (ht : PT cur top a) (hw : a.w = cur.1) (hn : a.n = cur.2) (he : a.b - a.t = a.n)
  | s11 (e : a.at_ = 11) (hb : a.b = bot) (ht : PT cur top a) (hw : a.w = cur.1) (hn : a.n = cur.2) (g : Grow C ws q cur top a) (hi : a.i < a.b)
  | s12 (e : a.at_ = 12) (hb : a.b = bot) (ht : PT cur top a) (hw : a.w = cur.1) (hn : a.n = cur.2) (g : Grow C ws q cur top a) (hi : a.i < a.b) (hr : top ≤ a.i → a.read = q.getD (a.i - top).toNat 0)
  | s13 (e : a.at_ = 13) (hb : a.b = bot) (ht : PT cur top a) (hw : a.w = cur.1) (hn : a.n = cur.2) (g : Grow C ws q cur top a) (hi : a.i = a.b)
  | s20 (e : a.at_ = 20) (hb : a.b = bot) (ht : PT cur top a) (hw : a.w = cur.1) (hn : a.n = cur.2) (hl : a.b - a.t < a.n)
  | s21 (e : a.at_ = 21) (hb : a.b = bot) (ht : PT cur top a) (hw : a.w = cur.1) (hn : a.n = cur.2) (hl : a.b - a.t < a.n) (hv : ld C (place a.w a.n a.b) = a.v)
inductive PopI (top bot : Int) (cur : Int × Int) (q : List Int) (a : PAct) : Prop
  | s0 (e : a.at_ = 0) (hB : bot = top + q.length)
  | s1 (e : a.at_ = 1) (hB : bot = top + q.length) (hb : a.b = bot - 1)
  | s2 (e : a.at_ = 2) (hB : bot = top + q.length) (hb : a.b = bot - 1) (hw : a.w = cur.1)
  | s3 (e : a.at_ = 3) (hb : bot = a.b) (hq : top + q.length = a.b + 1) (hw : a.w = cur.1)
  | s4 (e : a.at_ = 4) (hb : bot = a.b) (hq : q = []) (ht : top = a.b + 1)
  | s5 (e : a.at_ = 5) (hb : bot = a.b) (hq : top + q.length = a.b + 1) (hw : a.w = cur.1) (ht : 0 ≤ a.t ∧ a.t ≤ a.b ∧ a.t ≤ top) (hf : a.t < a.b → top ≤ a.b)
  | s6 (e : a.at_ = 6) (hb : bot = a.b) (hq : top + q.length = a.b + 1) (hw : a.w = cur.1) (ht : 0 ≤ a.t ∧ a.t ≤ a.b ∧ a.t ≤ top) (hf : a.t < a.b → top ≤ a.b) (hn : a.n = cur.2)
  | s7 (e : a.at_ = 7) (hb : bot = a.b) (hq : top + q.length = a.b + 1) (ht : a.t = a.b) (ht' : a.t ≤ top) (hr : top = a.b → q = [a.read])
  | s8 (e : a.at_ = 8) (hb : bot = a.b) (hq : q = []) (ht : top = a.b + 1) (hi : a.i = 0 ∨ a.i = 1)
/-- how many must be there for a thief that has seen one -/
def need : Option PAct → Nat
  | none => 1
  | some a => if a.kind = 1 ∧ (a.at_ = 5 ∨ a.at_ = 6) ∧ a.t < a.b then 2 else 1
theorem need_bd (o : Option PAct) : 1 ≤ need o ∧ need o ≤ 2 := by
  unfold need
  split
  · omega
  · split <;> omega
inductive ThiefI (m : Nat) (top : Int) (cur : Int × Int) (C : List Int) (ws : List (Int × Int)) (q : List Int) (a : PAct) : Prop
  | s0 (e : a.at_ = 0)
  | s1 (e : a.at_ = 1) (ht : 0 ≤ a.t ∧ a.t ≤ top)
  | s2 (e : a.at_ = 2) (ht : 0 ≤ a.t ∧ a.t ≤ top) (hq : a.t = top → m ≤ q.length)
  | s3 (e : a.at_ = 3) (ht : 0 ≤ a.t ∧ a.t ≤ top) (hq : a.t = top → m ≤ q.length) (hw : (a.w, ld C a.w) ∈ ws ∧ a.w ≤ cur.1) (hs : a.t = top → ld C (place a.w (ld C a.w) a.t) = q.getD 0 0)
  | s4 (e : a.at_ = 4) (ht : 0 ≤ a.t ∧ a.t ≤ top) (hq : a.t = top → m ≤ q.length) (hw : (a.w, ld C a.w) ∈ ws ∧ a.w ≤ cur.1) (hs : a.t = top → ld C (place a.w (ld C a.w) a.t) = q.getD 0 0) (hn : a.n = ld C a.w)
  | s5 (e : a.at_ = 5) (ht : 0 ≤ a.t ∧ a.t ≤ top) (hq : a.t = top → m ≤ q.length) (hr : a.t = top → a.read = q.getD 0 0)
/-- the owner's act under way, if there is one -/
def OwnI (top bot : Int) (cur : Int × Int) (C : List Int) (ws : List (Int × Int)) (q : List Int) (P : Int) : Option PAct → Prop
  | none => bot = top + q.length
  | some a => a.told = 0 ∧ (a.kind = 0 ∧ bot = top + q.length ∧ top + q.length + 1 ≤ P ∧ PushI top bot cur C ws q a ∨ a.kind = 1 ∧ PopI top bot cur q a)
end Go.Proofs.Ytmghlhngdopifaa
