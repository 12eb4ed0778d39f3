/- Deques, plain: each step of each act keeps what is known (the deque's proof). No program in sight. -/
import Derived.Test.YtmghlhngdopifaaDqP
namespace Go.Proofs.Ytmghlhngdopifaa
section
variable {d : Int} {C C' : List Int} {ws : List (Int × Int)} {cur : Int × Int} {q : List Int} {P : Int}
/-- cells below the arrays have turned, but not where the array is, nor top -/
theorem Core.low (h : Core d C ws cur q P) (hl : C'.length = C.length) (hk : ∀ k, k ≠ d + 1 → ld C' k = ld C k) : Core d C' ws cur q P := by
  have e0 := hk d (by omega)
  refine ⟨h.d0, by rw [hl]; exact h.dl, fun p hp => ?_, h.apart, h.curm, by rw [hk _ (by omega)]; exact h.wh, by rw [e0]; exact h.top0, by rw [e0]; exact h.topP, h.room, fun j hj => ?_⟩
  · have := h.lay p hp
    rw [hl, hk _ (by omega)]
    exact this
  · have := h.place_in h.curm (ld C d + j)
    rw [e0, hk _ (by omega)]
    exact h.cont j hj
/-- what a thief sees stays, where sizes and its slot do -/
theorem ThiefI.keep {m : Nat} {top : Int} {a : PAct} {cur' : Int × Int} {ws' : List (Int × Int)} (h : ThiefI m top cur C ws q a) (hws : ∀ p ∈ ws, p ∈ ws') (hcur : cur.1 ≤ cur'.1)
    (hsz : ∀ p ∈ ws, ld C p.1 = p.2 → ld C' p.1 = p.2)
    (hs : ∀ p ∈ ws, p.1 ≤ cur.1 → a.t = top → m ≤ q.length → ld C p.1 = p.2 → ld C' (place p.1 p.2 a.t) = ld C (place p.1 p.2 a.t)) : ThiefI m top cur' C' ws' q a := by
  have key : ∀ (hq : a.t = top → m ≤ q.length) (hw : (a.w, ld C a.w) ∈ ws ∧ a.w ≤ cur.1), (ld C' a.w = ld C a.w) ∧ (a.t = top → ld C' (place a.w (ld C a.w) a.t) = ld C (place a.w (ld C a.w) a.t)) := by
    intro hq hw
    exact ⟨hsz _ hw.1 rfl, fun ht => hs _ hw.1 hw.2 ht (hq ht) rfl⟩
  cases h with
  | s0 e => exact .s0 e
  | s1 e ht => exact .s1 e ht
  | s2 e ht hq => exact .s2 e ht hq
  | s3 e ht hq hw hx =>
    obtain ⟨k1, k2⟩ := key hq hw
    refine .s3 e ht hq ⟨by rw [k1]; exact hws _ hw.1, by omega⟩ fun h => ?_
    rw [k1, k2 h]; exact hx h
  | s4 e ht hq hw hx hn =>
    obtain ⟨k1, k2⟩ := key hq hw
    refine .s4 e ht hq ⟨by rw [k1]; exact hws _ hw.1, by omega⟩ (fun h => ?_) (by rw [k1]; exact hn)
    rw [k1, k2 h]; exact hx h
  | s5 e ht hq hr => exact .s5 e ht hq hr
/-- a smaller need -/
theorem ThiefI.less {m m' : Nat} {top : Int} {a : PAct} {q' : List Int} (h : ThiefI m top cur C ws q a) (hm : m ≤ q.length → m' ≤ q'.length ∧ q'.getD 0 0 = q.getD 0 0) : ThiefI m' top cur C ws q' a := by
  cases h with
  | s0 e => exact .s0 e
  | s1 e ht => exact .s1 e ht
  | s2 e ht hq => exact .s2 e ht fun h => (hm (hq h)).1
  | s3 e ht hq hw hx => exact .s3 e ht (fun h => (hm (hq h)).1) hw fun h => by rw [hx h, (hm (hq h)).2]
  | s4 e ht hq hw hx hn => exact .s4 e ht (fun h => (hm (hq h)).1) hw (fun h => by rw [hx h, (hm (hq h)).2]) hn
  | s5 e ht hq hr => exact .s5 e ht (fun h => (hm (hq h)).1) fun h => by rw [hr h, (hm (hq h)).2]
/-- top has gone on: this thief is too late -/
theorem ThiefI.late {m m' : Nat} {top : Int} {a : PAct} {q' : List Int} (h : ThiefI m top cur C ws q a) (hC : ∀ p ∈ ws, ld C p.1 = p.2 → ld C' p.1 = p.2) : ThiefI m' (top + 1) cur C' ws q' a := by
  cases h with
  | s0 e => exact .s0 e
  | s1 e ht => exact .s1 e ⟨ht.1, by omega⟩
  | s2 e ht hq => exact .s2 e ⟨ht.1, by omega⟩ fun h => by omega
  | s3 e ht hq hw hx =>
    have := hC _ hw.1 rfl
    exact .s3 e ⟨ht.1, by omega⟩ (fun h => by omega) (by simp only at this; rw [this]; exact hw) fun h => by omega
  | s4 e ht hq hw hx hn =>
    have := hC _ hw.1 rfl
    simp only at this
    exact .s4 e ⟨ht.1, by omega⟩ (fun h => by omega) (by rw [this]; exact hw) (fun h => by omega) (by rw [this]; exact hn)
  | s5 e ht hq hr => exact .s5 e ⟨ht.1, by omega⟩ (fun h => by omega) fun h => by omega
/-- top goes on by one, what stood first is gone -/
theorem Core.pop (h : Core d C ws cur q P) {q' : List Int} {v : Int} (hq : q = v :: q') : Core d (st C d (ld C d + 1)) ws cur q' P := by
  have hd : ld (st C d (ld C d + 1)) d = ld C d + 1 := ld_st_eq h.d0 (by have := h.dl; omega)
  have hk : ∀ k, k ≠ d → ld (st C d (ld C d + 1)) k = ld C k := fun k hk => ld_st_ne hk
  have h1 := h.topP
  have h2 := h.room
  have h3 := h.top0
  subst hq
  simp only [List.length_cons] at h1 h2
  refine ⟨h.d0, by rw [st_len]; exact h.dl, fun p hp => ?_, h.apart, h.curm, by rw [hk _ (by omega)]; exact h.wh, by rw [hd]; omega, by rw [hd]; omega, by omega, fun j hj => ?_⟩
  · have := h.lay p hp
    rw [st_len, hk _ (by omega)]
    exact this
  · have := h.place_in h.curm (ld C d + 1 + j)
    have hc := h.cont (j + 1) (by simpa using hj)
    rw [hd, hk _ (by omega)]
    rw [show ld C d + ((j + 1 : Nat) : Int) = ld C d + 1 + j by omega] at hc
    rw [hc]
    simp
theorem getD_tail {v : Int} {q' : List Int} {x : Int} (hx : 1 ≤ x) : (v :: q').getD x.toNat 0 = q'.getD (x - 1).toNat 0 := by
  obtain ⟨n, rfl⟩ : ∃ n : Nat, x = n + 1 := ⟨(x - 1).toNat, by omega⟩
  rw [show ((n : Int) + 1).toNat = n + 1 by omega, show ((n : Int) + 1 - 1).toNat = n by omega]
  simp
theorem Grow.pop {top : Int} {a : PAct} {v : Int} {q' : List Int} (g : Grow C ws (v :: q') cur top a) (hC : ∀ x, ld C' (place a.nw (2 * a.n) x) = ld C (place a.nw (2 * a.n) x)) : Grow C' ws q' cur (top + 1) a :=
  ⟨g.1, g.2.1, g.2.2.1, fun x h1 h2 h3 => by rw [hC, g.2.2.2 x h1 h2 (by omega), getD_tail (by omega)]; congr 1; omega⟩
theorem OwnI.pop (hc : Core d C ws cur q P) {o : Option PAct} {v : Int} {q' : List Int} (h : OwnI (ld C d) (ld C (d + 1)) cur C ws q P o) (hq : q = v :: q') (hn : need o ≤ q.length) :
    OwnI (ld (st C d (ld C d + 1)) d) (ld (st C d (ld C d + 1)) (d + 1)) cur (st C d (ld C d + 1)) ws q' P o := by
  have hd : ld (st C d (ld C d + 1)) d = ld C d + 1 := ld_st_eq hc.d0 (by have := hc.dl; omega)
  have hk : ∀ k, k ≠ d → ld (st C d (ld C d + 1)) k = ld C k := fun k hk => ld_st_ne hk
  rw [hd, hk (d + 1) (by omega)]
  subst hq
  have hpl : ∀ p ∈ ws, ∀ x, ld (st C d (ld C d + 1)) (place p.1 p.2 x) = ld C (place p.1 p.2 x) := fun p hp x => hk _ (by have := hc.place_in hp x; omega)
  generalize st C d (ld C d + 1) = C2 at *
  have hPT : ∀ a : PAct, PT cur (ld C d) a → PT cur (ld C d + 1) a := fun a ht => ⟨ht.1, by have := ht.2.1; omega, ht.2.2⟩
  have hG : ∀ a : PAct, Grow C ws (v :: q') cur (ld C d) a → Grow C2 ws q' cur (ld C d + 1) a := fun a g => g.pop fun x => hpl _ g.1 x
  have hlen : ((v :: q').length : Int) = q'.length + 1 := by simp
  cases o with
  | none =>
    have h' : ld C (d + 1) = ld C d + (v :: q').length := h
    show ld C (d + 1) = ld C d + 1 + q'.length
    omega
  | some a =>
    obtain ⟨h0, h⟩ := h
    rcases h with ⟨hk', hB, hP, hp⟩ | ⟨hk', hp⟩
    · refine ⟨h0, .inl ⟨hk', by omega, by omega, ?_⟩⟩
      cases hp with
      | s0 e => exact .s0 e
      | s1 e hb => exact .s1 e hb
      | s2 e hb ht => exact .s2 e hb (hPT a ht)
      | s3 e hb ht hw => exact .s3 e hb (hPT a ht) hw
      | s10 e hb ht hw hn he => exact .s10 e hb (hPT a ht) hw hn he
      | s11 e hb ht hw hn g hi => exact .s11 e hb (hPT a ht) hw hn (hG a g) hi
      | s12 e hb ht hw hn g hi hr => exact .s12 e hb (hPT a ht) hw hn (hG a g) hi fun h => by rw [hr (by omega), getD_tail (by omega)]; congr 1; omega
      | s13 e hb ht hw hn g hi => exact .s13 e hb (hPT a ht) hw hn (hG a g) hi
      | s20 e hb ht hw hn hl => exact .s20 e hb (hPT a ht) hw hn hl
      | s21 e hb ht hw hn hl hv => exact .s21 e hb (hPT a ht) hw hn hl (by rw [hw, hn, hpl _ hc.curm, ← hw, ← hn]; exact hv)
    · refine ⟨h0, .inr ⟨hk', ?_⟩⟩
      cases hp with
      | s0 e hB => exact .s0 e (by omega)
      | s1 e hB hb => exact .s1 e (by omega) hb
      | s2 e hB hb hw => exact .s2 e (by omega) hb hw
      | s3 e hb hq hw => exact .s3 e hb (by omega) hw
      | s4 e hb hq ht => cases hq
      | s5 e hb hq hw ht hf =>
        refine .s5 e hb (by omega) hw ⟨ht.1, ht.2.1, by omega⟩ fun hlt => ?_
        have : need (some a) = 2 := by simp [need, hk', e, hlt]
        rw [this] at hn
        omega
      | s6 e hb hq hw ht hf hn' =>
        refine .s6 e hb (by omega) hw ⟨ht.1, ht.2.1, by omega⟩ (fun hlt => ?_) hn'
        have : need (some a) = 2 := by simp [need, hk', e, hlt]
        rw [this] at hn
        omega
      | s7 e hb hq ht ht' hr => exact .s7 e hb (by omega) ht (by omega) fun h => by omega
      | s8 e hb hq ht hi => cases hq
/-- a thief's step -/
theorem thief_step (hc : Core d C ws cur q P) {o : Option PAct} (ho : OwnI (ld C d) (ld C (d + 1)) cur C ws q P o) {a : PAct} (h : ThiefI (need o) (ld C d) cur C ws q a) (h0 : a.told = 0) :
    ((stealS d C a).what = 0 ∧ (stealS d C a).val = 0 ∧ (stealS d C a).C = C ∧ (stealS d C a).a.told = 0 ∧ ThiefI (need o) (ld C d) cur C ws q (stealS d C a).a) ∨
    (((stealS d C a).what = 3 ∨ (stealS d C a).what = 4) ∧ (stealS d C a).val = 0 ∧ (stealS d C a).C = C ∧ (stealS d C a).a.told = (stealS d C a).what) ∨
    ((stealS d C a).what = 2 ∧ (stealS d C a).a.told = 2 ∧ (stealS d C a).C = st C d (ld C d + 1) ∧ ∃ q', q = (stealS d C a).val :: q' ∧ need o ≤ q.length) := by
  have hbot : ld C (d + 1) ≤ ld C d + q.length ∧ (need o = 2 → ld C (d + 1) < ld C d + q.length) := by
    cases o with
    | none => exact ⟨Int.le_of_eq ho, fun h => by simp [need] at h⟩
    | some b =>
      obtain ⟨_, ho⟩ := ho
      rcases ho with ⟨hk', hB, _, _⟩ | ⟨hk', hp⟩
      · exact ⟨by omega, fun h => by simp [need, hk'] at h⟩
      · cases hp with
        | s0 e hB => exact ⟨by omega, fun h => by simp [need, e] at h⟩
        | s1 e hB hb => exact ⟨by omega, fun h => by simp [need, e] at h⟩
        | s2 e hB hb hw => exact ⟨by omega, fun h => by simp [need, e] at h⟩
        | s3 e hb hq hw => exact ⟨by omega, fun h => by omega⟩
        | s4 e hb hq ht => exact ⟨by subst hq; simp; omega, fun h => by subst hq; simp; omega⟩
        | s5 e hb hq hw ht hf => exact ⟨by omega, fun h => by omega⟩
        | s6 e hb hq hw ht hf hn => exact ⟨by omega, fun h => by omega⟩
        | s7 e hb hq ht ht' hr => exact ⟨by omega, fun h => by omega⟩
        | s8 e hb hq ht hi => exact ⟨by subst hq; simp; omega, fun h => by subst hq; simp; omega⟩
  have hnb := need_bd o
  have ht0 := hc.top0
  unfold stealS
  cases h with
  | s0 e => rw [e]; exact .inl ⟨rfl, rfl, rfl, h0, .s1 rfl ⟨ht0, Int.le_refl _⟩⟩
  | s1 e ht =>
    rw [e]
    by_cases hge : a.t ≥ ld C (d + 1)
    · simp only [if_pos hge]
      exact .inr (.inl ⟨.inl rfl, rfl, rfl, rfl⟩)
    · simp only [if_neg hge]
      exact .inl ⟨rfl, rfl, rfl, h0, .s2 rfl ht fun h => by simp only [goes] at h; omega⟩
  | s2 e ht hq =>
    rw [e]
    refine .inl ⟨rfl, rfl, rfl, h0, .s3 rfl ht hq ⟨?_, ?_⟩ fun h => ?_⟩
    · simp only [goes]; rw [hc.wh, hc.size hc.curm]; exact hc.curm
    · simp only [goes]; rw [hc.wh]; exact Int.le_refl _
    · simp only [goes] at h ⊢
      have := hc.cont 0 (by have := hq h; omega)
      rw [hc.wh, hc.size hc.curm, h]
      simpa using this
  | s3 e ht hq hw hs => rw [e]; exact .inl ⟨rfl, rfl, rfl, h0, .s4 rfl ht hq hw hs rfl⟩
  | s4 e ht hq hw hs hn => rw [e]; exact .inl ⟨rfl, rfl, rfl, h0, .s5 rfl ht hq fun h => by simp only [goes] at h ⊢; rw [hn]; exact hs h⟩
  | s5 e ht hq hr =>
    rw [e]
    by_cases he : ld C d = a.t
    · simp only [if_pos he]
      refine .inr (.inr ⟨rfl, rfl, by simp only [over]; rw [he], ?_⟩)
      have h1 := hq he.symm
      have h2 := hr he.symm
      cases q with
      | nil => simp at h1; omega
      | cons v q' => exact ⟨q', by simp only [over]; rw [h2]; rfl, h1⟩
    · simp only [if_neg he]
      exact .inr (.inl ⟨.inr rfl, rfl, rfl, rfl⟩)
/-- how large the newest array is -/
def capNow (cur : Int × Int) : Option PAct → Int
  | none => cur.2
  | some a => if a.kind = 0 ∧ 11 ≤ a.at_ ∧ a.at_ ≤ 13 then 2 * cur.2 else cur.2
def Sz (d : Int) (C : List Int) (cur : Int × Int) (N : Int) (o : Option PAct) : Prop := (C.length : Int) ≤ d + 3 + 3 * capNow cur o ∧ capNow cur o ≤ N
theorem capNow_one {cur : Int × Int} {a : PAct} (h : ¬ (11 ≤ a.at_ ∧ a.at_ ≤ 13)) : capNow cur (some a) = cur.2 := by simp only [capNow]; rw [if_neg (fun e => h e.2)]
theorem capNow_two {cur : Int × Int} {a : PAct} (hk : a.kind = 0) (h : 11 ≤ a.at_ ∧ a.at_ ≤ 13) : capNow cur (some a) = 2 * cur.2 := by simp only [capNow]; rw [if_pos ⟨hk, h⟩]
/-- how many steps an act has still to do, at most -/
def rank (P : Int) (a : PAct) : Int :=
  match a.kind with
  | 0 => match a.at_ with
    | 0 => 2 * P + 12
    | 1 => 2 * P + 11
    | 2 => 2 * P + 10
    | 3 => 2 * P + 9
    | 10 => 2 * P + 8
    | 11 => 2 * (a.b - a.i) + 4
    | 12 => 2 * (a.b - a.i) + 3
    | 13 => 3
    | 20 => 2
    | _ => 1
  | 1 => 9 - (a.at_ : Int)
  | _ => 6 - (a.at_ : Int)
/-- the owner's push: what it answers and leaves -/
structure Pushed (d : Int) (C : List Int) (ws : List (Int × Int)) (cur : Int × Int) (q : List Int) (P N : Int) (a : PAct) (r : Res) : Prop where
  same : r.a.kind = 0 ∧ r.a.v = a.v
  ex : ∃ ws' cur' q', Core d r.C ws' cur' q' P ∧ OwnI (ld r.C d) (ld r.C (d + 1)) cur' r.C ws' q' P (if r.what = 0 then some r.a else none) ∧
    (r.what = 0 ∧ r.val = 0 ∧ r.a.told = 0 ∧ q' = q ∨ r.what = 1 ∧ r.val = 0 ∧ r.a.told = 1 ∧ q' = q ++ [a.v]) ∧
    (∀ x, ThiefI 1 (ld C d) cur C ws q x → ThiefI 1 (ld r.C d) cur' r.C ws' q' x) ∧ Sz d r.C cur' N (if r.what = 0 then some r.a else none) ∧ (r.what = 0 → rank P r.a + 1 ≤ rank P a)
theorem push_step (hc : Core d C ws cur q P) {a : PAct} (hk0 : a.kind = 0) (h0 : a.told = 0) (hB : ld C (d + 1) = ld C d + q.length) (hP : ld C d + q.length + 1 ≤ P) (hp : PushI (ld C d) (ld C (d + 1)) cur C ws q a) {N : Int} (hN : 2 * P ≤ N) (hs : Sz d C cur N (some a)) :
    Pushed d C ws cur q P N a (pushS d C a) := by
  have hroom := hc.room
  have ht0 := hc.top0
  have stay : ∀ r : Res, r.what = 0 → r.val = 0 → r.C = C → r.a.kind = 0 → r.a.v = a.v → r.a.told = 0 → PushI (ld C d) (ld C (d + 1)) cur C ws q r.a → capNow cur (some r.a) = capNow cur (some a) → rank P r.a + 1 ≤ rank P a → Pushed d C ws cur q P N a r := by
    intro r e0 e1 e2 e3 e4 e5 hp' hcap hrk
    refine ⟨⟨e3, e4⟩, ws, cur, q, by rw [e2]; exact hc, ?_, .inl ⟨e0, e1, e5, rfl⟩, fun x hx => by rw [e2]; exact hx, by rw [if_pos e0, e2, Sz, hcap]; exact hs, fun _ => hrk⟩
    rw [if_pos e0, e2]
    exact ⟨e5, .inl ⟨e3, hB, hP, hp'⟩⟩
  unfold pushS
  cases hp with
  | s0 e => rw [e]; exact stay _ rfl rfl rfl hk0 rfl h0 (.s1 rfl rfl) (by simp [capNow, goes, e]) (by simp [rank, goes, hk0, e]; omega)
  | s1 e hb => rw [e]; exact stay _ rfl rfl rfl hk0 rfl h0 (.s2 rfl hb ⟨ht0, Int.le_refl _, by simp only [goes]; omega⟩) (by simp [capNow, goes, e]) (by simp [rank, goes, hk0, e]; omega)
  | s2 e hb ht => rw [e]; exact stay _ rfl rfl rfl hk0 rfl h0 (.s3 rfl hb ht hc.wh) (by simp [capNow, goes, e]) (by simp [rank, goes, hk0, e]; omega)
  | s3 e hb ht hw =>
    rw [e]
    have hn : ld C a.w = cur.2 := by rw [hw]; exact hc.size hc.curm
    have h3 := ht.2.2
    by_cases hge : a.b - a.t ≥ ld C a.w
    · simp only [if_pos hge]
      exact stay _ rfl rfl rfl hk0 rfl h0 (.s10 rfl hb ht hw hn (by simp only [goes]; omega)) (by simp [capNow, goes, e]) (by simp [rank, goes, hk0, e]; omega)
    · simp only [if_neg hge]
      exact stay _ rfl rfl rfl hk0 rfl h0 (.s20 rfl hb ht hw hn (by simp only [goes]; omega)) (by simp [capNow, goes, e]) (by simp [rank, goes, hk0, e]; omega)
  | s10 e hb ht hw hn he =>
    rw [e]
    have hcur := hc.lay cur hc.curm
    have hne : ¬ a.t = a.b := by omega
    simp only [if_neg hne]
    have hlen : (fresh a.n).length = 1 + (2 * a.n).toNat := by simp [fresh]; omega
    have hld : ∀ k : Int, k < (C.length : Int) → ld (C ++ fresh a.n) k = ld C k := fun k hk => ld_app hk
    have hdl := hc.dl
    have hnew : ld (C ++ fresh a.n) C.length = 2 * a.n := ld_new
    have hpl : ∀ p ∈ ws, ∀ x, ld (C ++ fresh a.n) (place p.1 p.2 x) = ld C (place p.1 p.2 x) := fun p hp x => hld _ (hc.place_in hp x).2
    have hC : Core d (C ++ fresh a.n) (((C.length : Int), 2 * a.n) :: ws) cur q P := by
      refine ⟨hc.d0, by rw [List.length_append]; omega, fun p hp => ?_, fun p hp r hr => ?_, List.mem_cons_of_mem _ hc.curm, by rw [hld _ hdl]; exact hc.wh, by rw [hld _ (by omega)]; exact ht0, by rw [hld _ (by omega)]; exact hc.topP, hroom, fun j hj => ?_⟩
      · rcases List.mem_cons.1 hp with rfl | hp
        · exact ⟨by simp only; omega, by simp only; omega, by simp only; rw [List.length_append, hlen]; omega, hnew⟩
        · have := hc.lay p hp
          rw [hld _ (by omega), List.length_append]
          refine ⟨this.1, this.2.1, by omega, this.2.2.2⟩
      · rcases List.mem_cons.1 hp with rfl | hp <;> rcases List.mem_cons.1 hr with rfl | hr
        · exact .inl rfl
        · have := hc.lay r hr
          exact .inr (.inr this.2.2.1)
        · have := hc.lay p hp
          exact .inr (.inl this.2.2.1)
        · exact hc.apart p hp r hr
      · rw [hld d (by omega), hpl _ hc.curm]
        exact hc.cont j hj
    refine ⟨⟨hk0, rfl⟩, _, cur, q, hC, ?_, .inl ⟨rfl, rfl, h0, rfl⟩, fun x hx => ?_, ⟨?_, ?_⟩, fun _ => by have := ht.1; simp [rank, goes, hk0, e]; omega⟩
    · simp only [goes, if_true]
      rw [hld d (by omega), hld (d + 1) (by omega)]
      refine ⟨h0, .inl ⟨hk0, hB, hP, .s11 rfl hb ht hw hn ⟨List.mem_cons_self, hcur.2.2.1, Int.le_refl _, fun x h1 h2 _ => ?_⟩ ?_⟩⟩
      · simp only at h1 h2; omega
      · simp only; omega
    · simp only [goes]
      rw [hld d (by omega)]
      exact hx.keep (fun p hp => List.mem_cons_of_mem _ hp) (Int.le_refl _) (fun p hp h => by rw [hld _ (by have := hc.lay p hp; omega)]; exact h) fun p hp _ _ _ _ => hpl p hp _
    · have h1 := hs.1
      rw [capNow_one (by omega)] at h1
      simp only [goes, if_true]
      simp only [capNow]
      rw [if_pos ⟨hk0, by omega, by omega⟩, List.length_append, hlen]
      omega
    · simp only [goes, if_true]
      simp only [capNow]
      rw [if_pos ⟨hk0, by omega, by omega⟩]
      have := ht.1
      omega
  | s11 e hb ht hw hn g hi =>
    rw [e]
    refine stay _ rfl rfl rfl hk0 rfl h0 (.s12 rfl hb ht hw hn g hi fun h => ?_) (by simp [capNow, goes, e]) (by simp [rank, goes, hk0, e]; omega)
    simp only [goes] at h ⊢
    have := hc.cont (a.i - ld C d).toNat (by omega)
    rw [hw, hn, ← this]
    congr 2
    omega
  | s12 e hb ht hw hn g hi hr =>
    rw [e]
    simp only
    have hcur := hc.lay cur hc.curm
    have hg1 := hc.lay _ g.1
    have hne : cur ≠ (a.nw, 2 * a.n) := fun h => by have := g.2.1; rw [h] at this; simp only at this; omega
    have hx := hc.place_in g.1 a.i
    have hk : ∀ k, k ≠ place a.nw (2 * a.n) a.i → ld (st C (place a.nw (2 * a.n) a.i) a.read) k = ld C k := fun k hk => ld_st_ne hk
    have he : ld (st C (place a.nw (2 * a.n) a.i) a.read) (place a.nw (2 * a.n) a.i) = a.read := ld_st_eq (by have := hc.d0; simp only at hx; omega) (by simp only at hx; omega)
    have hsz : ∀ p ∈ ws, ld (st C (place a.nw (2 * a.n) a.i) a.read) p.1 = ld C p.1 := fun p hp => hk _ (fun h => hc.place_size g.1 hp a.i h.symm)
    have hfar : ∀ p ∈ ws, p ≠ (a.nw, 2 * a.n) → ∀ x, ld (st C (place a.nw (2 * a.n) a.i) a.read) (place p.1 p.2 x) = ld C (place p.1 p.2 x) := fun p hp hne x => hk _ (hc.place_far hp g.1 hne x a.i)
    have k0 := hk d (by simp only at hx; omega)
    have k1 := hk (d + 1) (by simp only at hx; omega)
    have k2 := hk (d + 2) (by simp only at hx; omega)
    have hlen := st_len C (place a.nw (2 * a.n) a.i) a.read
    have hbt := ht.2.2
    have hti := g.2.2.1
    generalize st C (place a.nw (2 * a.n) a.i) a.read = C2 at *
    have hC : Core d C2 ws cur q P := by
      refine ⟨hc.d0, by rw [hlen]; exact hc.dl, fun p hp => ?_, hc.apart, hc.curm, by rw [k2]; exact hc.wh, by rw [k0]; exact ht0, by rw [k0]; exact hc.topP, hroom, fun j hj => ?_⟩
      · rw [hlen, hsz p hp]; exact hc.lay p hp
      · rw [k0, hfar _ hc.curm hne]; exact hc.cont j hj
    have hcop : Copied C2 q (ld C2 d) { a with i := a.i + 1 } := by
      intro x h1 h2 h3
      simp only at h1 h2 ⊢
      rw [k0] at h3 ⊢
      by_cases hxi : x = a.i
      · subst hxi
        rw [he]; exact hr h3
      · rw [hk _ (place_ne (by omega) (by omega))]
        exact g.2.2.2 x h1 (by omega) h3
    refine ⟨⟨hk0, rfl⟩, ws, cur, q, hC, ?_, .inl ⟨rfl, rfl, h0, rfl⟩, fun x hx => ?_, ?_, fun _ => ?_⟩
    · simp only [goes, if_true]
      refine ⟨h0, .inl ⟨hk0, by rw [k0, k1]; exact hB, by rw [k0]; exact hP, ?_⟩⟩
      rw [k1]
      by_cases hib : a.i + 1 = a.b
      · simp only [if_pos hib]
        exact .s13 rfl hb (by rw [k0]; exact ht) hw hn ⟨g.1, g.2.1, by simp only; omega, hcop⟩ hib
      · simp only [if_neg hib]
        exact .s11 rfl hb (by rw [k0]; exact ht) hw hn ⟨g.1, g.2.1, by simp only; omega, hcop⟩ (by simp only; omega)
    · simp only [goes]
      rw [k0]
      refine hx.keep (fun p hp => hp) (Int.le_refl _) (fun p hp h => by rw [hsz p hp]; exact h) fun p hp hle _ _ _ => hfar p hp (fun h => ?_) _
      have := congrArg Prod.fst h
      have := g.2.1
      simp only at *
      omega
    · simp only [goes, if_true, Sz]
      simp only [capNow]
      rw [hlen, if_pos ⟨hk0, by split <;> omega, by split <;> omega⟩]
      have h1 := hs.1
      have h2 := hs.2
      rw [capNow_two hk0 (by omega)] at h1 h2
      exact ⟨h1, h2⟩
    · by_cases hib : a.i + 1 = a.b
      · simp [rank, goes, hk0, e, hib]; omega
      · simp [rank, goes, hk0, e, hib]; omega
  | s13 e hb ht hw hn g hi =>
    rw [e]
    simp only
    have hcur := hc.lay cur hc.curm
    have hg1 := hc.lay _ g.1
    have hx := hc.dl
    have hd0 := hc.d0
    have hk : ∀ k, k ≠ d + 2 → ld (st C (d + 2) a.nw) k = ld C k := fun k hk => ld_st_ne hk
    have he : ld (st C (d + 2) a.nw) (d + 2) = a.nw := ld_st_eq (by omega) (by omega)
    have k0 := hk d (by omega)
    have k1 := hk (d + 1) (by omega)
    have hsz : ∀ p ∈ ws, ld (st C (d + 2) a.nw) p.1 = ld C p.1 := fun p hp => hk _ (by have := hc.lay p hp; omega)
    have hpl : ∀ p ∈ ws, ∀ x, ld (st C (d + 2) a.nw) (place p.1 p.2 x) = ld C (place p.1 p.2 x) := fun p hp x => hk _ (by have := hc.place_in hp x; omega)
    have hlen := st_len C (d + 2) a.nw
    generalize st C (d + 2) a.nw = C2 at *
    have hbt := ht.2.2
    have hC : Core d C2 ws (a.nw, 2 * a.n) q P := by
      refine ⟨hc.d0, by rw [hlen]; exact hc.dl, fun p hp => ?_, hc.apart, g.1, he, by rw [k0]; exact ht0, by rw [k0]; exact hc.topP, by simp only; omega, fun j hj => ?_⟩
      · rw [hlen, hsz p hp]; exact hc.lay p hp
      · have hcp := g.2.2.2 (ld C d + j) (by have := ht.2.1; omega) (by omega) (by omega)
        rw [k0, hpl _ g.1]
        simp only
        rw [hcp]
        congr 1
        omega
    refine ⟨⟨hk0, rfl⟩, ws, (a.nw, 2 * a.n), q, hC, ?_, .inl ⟨rfl, rfl, h0, rfl⟩, fun x hx => ?_, ?_, fun _ => by simp [rank, goes, hk0, e]⟩
    · simp only [goes, if_true]
      refine ⟨h0, .inl ⟨hk0, by rw [k0, k1]; exact hB, by rw [k0]; exact hP, ?_⟩⟩
      rw [k0, k1]
      exact .s20 rfl hb ⟨ht.1, ht.2.1, by simp only; omega⟩ rfl rfl (by simp only; omega)
    · simp only [goes]
      rw [k0]
      exact hx.keep (fun p hp => hp) (by have := g.2.1; simp only; omega) (fun p hp h => by rw [hsz p hp]; exact h) fun p hp _ _ _ _ => hpl p hp _
    · simp only [goes, if_true, Sz]
      rw [hlen, capNow_one (by simp)]
      have h1 := hs.1
      have h2 := hs.2
      rw [capNow_two hk0 (by omega)] at h1 h2
      simp only
      rw [hn]
      exact ⟨h1, h2⟩
  | s20 e hb ht hw hn hl =>
    rw [e]
    simp only
    have hcur := hc.lay cur hc.curm
    have hx := hc.place_in hc.curm a.b
    have hdl := hc.dl
    have hd0 := hc.d0
    have ht2 := ht.2.1
    rw [hw, hn]
    have hk : ∀ k, k ≠ place cur.1 cur.2 a.b → ld (st C (place cur.1 cur.2 a.b) a.v) k = ld C k := fun k hk => ld_st_ne hk
    have he : ld (st C (place cur.1 cur.2 a.b) a.v) (place cur.1 cur.2 a.b) = a.v := ld_st_eq (by omega) (by omega)
    have k0 := hk d (by omega)
    have k1 := hk (d + 1) (by omega)
    have k2 := hk (d + 2) (by omega)
    have hsz : ∀ p ∈ ws, ld (st C (place cur.1 cur.2 a.b) a.v) p.1 = ld C p.1 := fun p hp => hk _ (fun h => hc.place_size hc.curm hp a.b h.symm)
    have hfar : ∀ p ∈ ws, p ≠ cur → ∀ x, ld (st C (place cur.1 cur.2 a.b) a.v) (place p.1 p.2 x) = ld C (place p.1 p.2 x) := fun p hp hne x => hk _ (hc.place_far hp hc.curm hne x a.b)
    have hnear : ∀ x, ld C d ≤ x → x < a.b → ld (st C (place cur.1 cur.2 a.b) a.v) (place cur.1 cur.2 x) = ld C (place cur.1 cur.2 x) := fun x h1 h2 => hk _ (place_ne h2 (by omega))
    have hlen := st_len C (place cur.1 cur.2 a.b) a.v
    generalize st C (place cur.1 cur.2 a.b) a.v = C2 at *
    have hC : Core d C2 ws cur q P := by
      refine ⟨hc.d0, by rw [hlen]; exact hc.dl, fun p hp => ?_, hc.apart, hc.curm, by rw [k2]; exact hc.wh, by rw [k0]; exact ht0, by rw [k0]; exact hc.topP, hroom, fun j hj => ?_⟩
      · rw [hlen, hsz p hp]; exact hc.lay p hp
      · rw [k0, hnear _ (by omega) (by omega)]; exact hc.cont j hj
    refine ⟨⟨hk0, rfl⟩, ws, cur, q, hC, ?_, .inl ⟨rfl, rfl, h0, rfl⟩, fun x hx => ?_, ?_, fun _ => by simp [rank, goes, hk0, e]⟩
    · simp only [goes, if_true]
      refine ⟨h0, .inl ⟨hk0, by rw [k0, k1]; exact hB, by rw [k0]; exact hP, ?_⟩⟩
      rw [k0, k1]
      exact .s21 rfl hb ht hw hn hl (by simp only; rw [hw, hn]; exact he)
    · simp only [goes]
      rw [k0]
      refine hx.keep (fun p hp => hp) (Int.le_refl _) (fun p hp h => by rw [hsz p hp]; exact h) fun p hp _ h1 h2 _ => ?_
      by_cases hpc : p = cur
      · subst hpc
        exact hnear _ (by omega) (by omega)
      · exact hfar p hp hpc _
    · simp only [goes, if_true, Sz]
      rw [hlen, capNow_one (by simp)]
      have h1 := hs.1
      have h2 := hs.2
      rw [capNow_one (by omega)] at h1 h2
      exact ⟨h1, h2⟩
  | s21 e hb ht hw hn hl hv =>
    rw [e]
    simp only
    have hdl := hc.dl
    have hd0 := hc.d0
    have ht2 := ht.2.1
    have hk : ∀ k, k ≠ d + 1 → ld (st C (d + 1) (a.b + 1)) k = ld C k := fun k hk => ld_st_ne hk
    have he : ld (st C (d + 1) (a.b + 1)) (d + 1) = a.b + 1 := ld_st_eq (by omega) (by omega)
    have hlen := st_len C (d + 1) (a.b + 1)
    generalize st C (d + 1) (a.b + 1) = C2 at *
    have hC := hc.low hlen hk
    have k0 := hk d (by omega)
    have hsz : ∀ p ∈ ws, ld C2 p.1 = ld C p.1 := fun p hp => hk _ (by have := hc.lay p hp; omega)
    have hpl : ∀ p ∈ ws, ∀ x, ld C2 (place p.1 p.2 x) = ld C (place p.1 p.2 x) := fun p hp x => hk _ (by have := hc.place_in hp x; omega)
    have hl1 : ((q ++ [a.v]).length : Int) = q.length + 1 := by simp
    refine ⟨⟨hk0, rfl⟩, ws, cur, q ++ [a.v], ⟨hC.d0, hC.dl, hC.lay, hC.apart, hC.curm, hC.wh, hC.top0, ?_, by rw [hl1]; omega, fun j hj => ?_⟩, ?_, .inr ⟨rfl, rfl, rfl, rfl⟩, fun x hx => ?_, ?_, fun h => by simp [over] at h⟩
    · simp only [over]; rw [hl1, k0]; omega
    · simp only [over]
      rcases Nat.lt_or_ge j q.length with h | h
      · rw [hC.cont j h]
        simp [List.getD_eq_getElem?_getD, List.getElem?_append_left h]
      · obtain rfl : j = q.length := by simp at hj; omega
        rw [k0, hpl _ hc.curm, show ld C d + (q.length : Int) = a.b by omega, ← hw, ← hn, hv]
        simp [List.getD_eq_getElem?_getD]
    · simp only [over]
      show ld C2 (d + 1) = ld C2 d + ((q ++ [a.v]).length : Int)
      rw [he, k0, hl1]
      omega
    · simp only [over]
      rw [k0]
      have hx2 := hx.keep (C' := C2) (cur' := cur) (ws' := ws) (fun p hp => hp) (Int.le_refl _) (fun p hp h => by rw [hsz p hp]; exact h) fun p hp _ _ _ _ => hpl p hp _
      refine hx2.less fun h => ⟨by simp, ?_⟩
      cases q with
      | nil => simp at h
      | cons y q => rfl
    · have h1 := hs.1
      have h2 := hs.2
      rw [capNow_one (by omega)] at h1 h2
      exact ⟨by simp only [over]; rw [hlen]; exact h1, h2⟩
/-- what a pop that has done its swap holds -/
def hold : Option PAct → List Int
  | none => []
  | some a => if a.kind = 1 ∧ a.at_ = 8 ∧ a.i = 1 then [a.read] else []
/-- the owner's pop: what it answers and leaves -/
structure Popped (d : Int) (C : List Int) (ws : List (Int × Int)) (cur : Int × Int) (q : List Int) (P : Int) (a : PAct) (r : Res) : Prop where
  same : r.a.kind = 1
  ex : ∃ q', Core d r.C ws cur q' P ∧ OwnI (ld r.C d) (ld r.C (d + 1)) cur r.C ws q' P (if r.what = 0 then some r.a else none) ∧
    (r.what = 0 ∧ r.val = 0 ∧ r.a.told = 0 ∧ q' ++ hold (some r.a) = q ++ hold (some a) ∨ r.what = 2 ∧ r.a.told = 2 ∧ q ++ hold (some a) = q' ++ [r.val] ∨ r.what = 3 ∧ r.val = 0 ∧ r.a.told = 3 ∧ q = [] ∧ hold (some a) = [] ∧ q' = []) ∧
    (∀ x, ThiefI (need (some a)) (ld C d) cur C ws q x → ThiefI (need (if r.what = 0 then some r.a else none)) (ld r.C d) cur r.C ws q' x)
theorem hold_none {a : PAct} (h : a.at_ ≠ 8) : hold (some a) = [] := by simp [hold, h]
theorem need_one {a : PAct} (h : ¬ (a.at_ = 5 ∨ a.at_ = 6)) : need (some a) = 1 := by simp only [need]; rw [if_neg (fun e => h e.2.1)]
theorem popS_0 {a : PAct} (e : a.at_ = 0) : popS d C a = goes { a with b := ld C (d + 1) - 1 } 1 C := by cases a; cases e; rfl
theorem popS_1 {a : PAct} (e : a.at_ = 1) : popS d C a = goes { a with w := ld C (d + 2) } 2 C := by cases a; cases e; rfl
theorem popS_2 {a : PAct} (e : a.at_ = 2) : popS d C a = goes a 3 (st C (d + 1) a.b) := by cases a; cases e; rfl
theorem popS_3 {a : PAct} (e : a.at_ = 3) : popS d C a = goes { a with t := ld C d } (if ld C d > a.b then 4 else 5) C := by cases a; cases e; rfl
theorem popS_4 {a : PAct} (e : a.at_ = 4) : popS d C a = over a 3 0 (st C (d + 1) (a.b + 1)) := by cases a; cases e; rfl
theorem popS_5 {a : PAct} (e : a.at_ = 5) : popS d C a = goes { a with n := ld C a.w } 6 C := by cases a; cases e; rfl
theorem popS_6 {a : PAct} (e : a.at_ = 6) : popS d C a = if a.t < a.b then over { a with read := ld C (place a.w a.n a.b) } 2 (ld C (place a.w a.n a.b)) C else goes { a with read := ld C (place a.w a.n a.b) } 7 C := by cases a; cases e; rfl
theorem popS_7 {a : PAct} (e : a.at_ = 7) : popS d C a = if ld C d = a.t then goes { a with i := 1 } 8 (st C d (a.t + 1)) else goes { a with i := 0 } 8 C := by cases a; cases e; rfl
theorem popS_8 {a : PAct} (e : a.at_ = 8) : popS d C a = if a.i = 1 then over a 2 a.read (st C (d + 1) (a.b + 1)) else over a 3 0 (st C (d + 1) (a.b + 1)) := by cases a; cases e; rfl
theorem pop_step (hc : Core d C ws cur q P) {a : PAct} (hk1 : a.kind = 1) (h0 : a.told = 0) (hp : PopI (ld C d) (ld C (d + 1)) cur q a) :
    Popped d C ws cur q P a (popS d C a) := by
  have hroom := hc.room
  have ht0 := hc.top0
  have hd0 := hc.d0
  have hdl := hc.dl
  have stay : ∀ r : Res, a.at_ ≠ 8 → r.what = 0 → r.val = 0 → r.C = C → r.a.kind = 1 → r.a.told = 0 → r.a.at_ ≠ 8 → PopI (ld C d) (ld C (d + 1)) cur q r.a →
      (∀ x, ThiefI (need (some a)) (ld C d) cur C ws q x → ThiefI (need (some r.a)) (ld C d) cur C ws q x) → Popped d C ws cur q P a r := by
    intro r e8 e0 e1 e2 e3 e4 e5 hp' hx
    refine ⟨e3, q, by rw [e2]; exact hc, ?_, .inl ⟨e0, e1, e4, by rw [hold_none e8, hold_none e5]⟩, fun x h => by rw [e2, if_pos e0]; exact hx x h⟩
    rw [if_pos e0, e2]
    exact ⟨e4, .inr ⟨e3, hp'⟩⟩
  have low : ∀ x : Int, Core d (st C (d + 1) x) ws cur q P ∧ ld (st C (d + 1) x) d = ld C d ∧ ld (st C (d + 1) x) (d + 1) = x ∧
      (∀ m y, ThiefI m (ld C d) cur C ws q y → ThiefI m (ld C d) cur (st C (d + 1) x) ws q y) := by
    intro x
    have hk : ∀ k, k ≠ d + 1 → ld (st C (d + 1) x) k = ld C k := fun k hk => ld_st_ne hk
    refine ⟨hc.low (st_len _ _ _) hk, hk d (by omega), ld_st_eq (by omega) (by omega), fun m y hy => ?_⟩
    exact hy.keep (fun p hp => hp) (Int.le_refl _) (fun p hp h => by rw [hk _ (by have := hc.lay p hp; omega)]; exact h) fun p hp _ _ _ _ => hk _ (by have := hc.place_in hp y.t; omega)
  cases hp with
  | s0 e hB => rw [popS_0 e]; exact stay _ (by omega) rfl rfl rfl hk1 h0 (by simp [goes]) (.s1 rfl hB rfl) fun x hx => by rwa [need_one (by simp [goes]), ← need_one (a := a) (by omega)]
  | s1 e hB hb => rw [popS_1 e]; exact stay _ (by omega) rfl rfl rfl hk1 h0 (by simp [goes]) (.s2 rfl hB hb hc.wh) fun x hx => by rwa [need_one (by simp [goes]), ← need_one (a := a) (by omega)]
  | s2 e hB hb hw =>
    rw [popS_2 e]
    obtain ⟨l1, l2, l3, l4⟩ := low a.b
    refine ⟨hk1, q, l1, ⟨h0, .inr ⟨hk1, .s3 rfl l3 (by simp only [goes]; rw [l2]; omega) hw⟩⟩, .inl ⟨rfl, rfl, h0, by rw [hold_none (a := a) (by omega), hold_none (by simp [goes])]⟩, fun x hx => ?_⟩
    simp only [goes, if_true]
    rw [l2, need_one (by simp), ← need_one (a := a) (by omega)]
    exact l4 _ x hx
  | s3 e hb hq hw =>
    rw [popS_3 e]
    have hnd : need (some a) = 1 := need_one (by omega)
    by_cases hgt : ld C d > a.b
    · simp only [if_pos hgt]
      have hq0 : q = [] := List.eq_nil_of_length_eq_zero (by omega)
      refine stay _ (by omega) rfl rfl rfl hk1 h0 (by simp [goes]) (.s4 rfl hb hq0 (by simp only [goes]; subst hq0; simpa using hq)) fun x hx => ?_
      rwa [need_one (by simp [goes]), ← hnd]
    · simp only [if_neg hgt]
      refine stay _ (by omega) rfl rfl rfl hk1 h0 (by simp [goes]) (.s5 rfl hb hq hw ⟨ht0, by simp only [goes]; omega, Int.le_refl _⟩ fun _ => by simp only [goes]; omega) fun x hx => ?_
      rw [hnd] at hx
      by_cases hlt : ld C d < a.b
      · have h2 : need (some (goes { a with t := ld C d } 5 C).a) = 2 := by simp [need, goes, hk1, hlt]
        rw [h2]
        exact hx.less fun _ => ⟨by omega, rfl⟩
      · have h2 : need (some (goes { a with t := ld C d } 5 C).a) = 1 := by simp only [need, goes]; rw [if_neg (fun h => hlt h.2.2)]
        rw [h2]
        exact hx
  | s4 e hb hq ht =>
    rw [popS_4 e]
    obtain ⟨l1, l2, l3, l4⟩ := low (a.b + 1)
    refine ⟨hk1, q, l1, ?_, .inr (.inr ⟨rfl, rfl, rfl, hq, hold_none (by omega), hq⟩), fun x hx => ?_⟩
    · show ld (st C (d + 1) (a.b + 1)) (d + 1) = ld (st C (d + 1) (a.b + 1)) d + q.length
      rw [l2, l3, hq]; simp; omega
    · simp only [over]
      rw [l2, need_one (a := a) (by omega)] at *
      exact l4 _ x hx
  | s5 e hb hq hw ht hf =>
    rw [popS_5 e]
    refine stay _ (by omega) rfl rfl rfl hk1 h0 (by simp [goes]) (.s6 rfl hb hq hw ht hf (by simp only [goes]; rw [hw]; exact hc.size hc.curm)) fun x hx => ?_
    have : need (some (goes { a with n := ld C a.w } 6 C).a) = need (some a) := by simp [need, goes, hk1, e]
    rwa [this]
  | s6 e hb hq hw ht hf hn =>
    rw [popS_6 e]
    have hlast : ∀ j : Nat, (j : Int) + 1 = q.length → ld C (place a.w a.n a.b) = q.getD j 0 := by
      intro j hj
      rw [hw, hn, ← hc.cont j (by omega)]
      congr 2
      omega
    by_cases hlt : a.t < a.b
    · simp only [if_pos hlt]
      have h1 := hf hlt
      have hnd : need (some a) = 2 := by simp [need, hk1, e, hlt]
      obtain ⟨q', v, rfl⟩ : ∃ q' v, q = q' ++ [v] := ⟨q.dropLast, q.getLast (by intro h; subst h; simp at hq; omega), (List.dropLast_concat_getLast _).symm⟩
      have hl : ((q' ++ [v]).length : Int) = q'.length + 1 := by simp
      have hv : ld C (place a.w a.n a.b) = v := by
        rw [hlast q'.length (by omega)]
        simp [List.getD_eq_getElem?_getD]
      rw [hv]
      refine ⟨hk1, q', ⟨hd0, hdl, hc.lay, hc.apart, hc.curm, hc.wh, ht0, by simp only [over]; have := hc.topP; omega, by omega, fun j hj => ?_⟩, ?_, .inr (.inl ⟨rfl, rfl, by rw [hold_none (by omega)]; simp [over]⟩), fun x hx => ?_⟩
      · have := hc.cont j (by simp; omega)
        simp only [over]
        rw [this]
        simp [List.getD_eq_getElem?_getD, List.getElem?_append_left hj]
      · show ld C (d + 1) = ld C d + q'.length
        omega
      · rw [hnd] at hx
        refine hx.less fun h => ⟨by simp only [over, need]; simp at h; simpa using h, ?_⟩
        cases q' with
        | nil => simp at h
        | cons y q' => rfl
    · simp only [if_neg hlt]
      refine stay _ (by omega) rfl rfl rfl hk1 h0 (by simp [goes]) (.s7 rfl hb hq (by simp only [goes]; omega) (by simp only [goes]; omega) fun h => ?_) fun x hx => ?_
      · simp only [goes] at h ⊢
        have h1 : q.length = 1 := by omega
        obtain ⟨v, rfl⟩ := List.length_eq_one_iff.1 h1
        rw [hlast 0 (by simp)]
        rfl
      · have h2 : need (some a) = 1 := by simp only [need]; rw [if_neg (fun h => hlt h.2.2)]
        rw [need_one (by simp [goes]), ← h2]
        exact hx
  | s7 e hb hq ht ht' hr =>
    rw [popS_7 e]
    have hnd : need (some a) = 1 := need_one (by omega)
    by_cases he : ld C d = a.t
    · simp only [if_pos he]
      have hq1 := hr (by omega)
      have hcp := hc.pop hq1
      have hd : ld (st C d (ld C d + 1)) d = ld C d + 1 := ld_st_eq hd0 (by omega)
      have hk : ∀ k, k ≠ d → ld (st C d (ld C d + 1)) k = ld C k := fun k hk => ld_st_ne hk
      rw [← he]
      refine ⟨hk1, [], hcp, ⟨h0, .inr ⟨hk1, .s8 rfl (by simp only [goes]; rw [hk _ (by omega)]; exact hb) rfl (by simp only [goes]; rw [hd]; omega) (.inr rfl)⟩⟩, .inl ⟨rfl, rfl, h0, ?_⟩, fun x hx => ?_⟩
      · rw [hold_none (a := a) (by omega), hq1]
        simp [hold, goes, hk1]
      · simp only [goes, if_true]
        rw [hd]
        exact hx.late fun p hp h => by rw [hk _ (by have := hc.lay p hp; omega)]; exact h
    · simp only [if_neg he]
      have hq0 : q = [] := List.eq_nil_of_length_eq_zero (by omega)
      refine ⟨hk1, q, hc, ⟨h0, .inr ⟨hk1, .s8 rfl hb hq0 (by simp only [goes]; subst hq0; simpa using hq) (.inl rfl)⟩⟩, .inl ⟨rfl, rfl, h0, ?_⟩, fun x hx => ?_⟩
      · rw [hold_none (a := a) (by omega)]
        simp [hold, goes]
      · simp only [goes, if_true]
        rw [need_one (by simp), ← hnd]
        exact hx
  | s8 e hb hq ht hi =>
    rw [popS_8 e]
    obtain ⟨l1, l2, l3, l4⟩ := low (a.b + 1)
    have hnd : need (some a) = 1 := need_one (by omega)
    have hown : OwnI (ld (st C (d + 1) (a.b + 1)) d) (ld (st C (d + 1) (a.b + 1)) (d + 1)) cur (st C (d + 1) (a.b + 1)) ws q P none := by
      show ld (st C (d + 1) (a.b + 1)) (d + 1) = ld (st C (d + 1) (a.b + 1)) d + q.length
      rw [l2, l3, hq]; simp; omega
    by_cases h1 : a.i = 1
    · simp only [if_pos h1]
      refine ⟨hk1, q, l1, hown, .inr (.inl ⟨rfl, rfl, by simp [hold, hk1, e, h1, over]⟩), fun x hx => ?_⟩
      simp only [over]
      rw [l2]
      rw [hnd] at hx
      exact l4 _ x hx
    · simp only [if_neg h1]
      refine ⟨hk1, q, l1, hown, .inr (.inr ⟨rfl, rfl, rfl, hq, by simp [hold, h1], hq⟩), fun x hx => ?_⟩
      simp only [over]
      rw [l2]
      rw [hnd] at hx
      exact l4 _ x hx
theorem popS_len (a : PAct) : (popS d C a).C.length = C.length := by
  unfold popS
  split <;> simp only [goes, over, st_len]
  · split <;> simp only
  · split <;> simp only [st_len]
  · split <;> simp only [st_len]
theorem stealS_len (a : PAct) : (stealS d C a).C.length = C.length := by
  unfold stealS
  split <;> simp only [goes, over]
  · split <;> simp only
  · split <;> simp only [st_len]
theorem popS_rank {a : PAct} (hk : a.kind = 1) (h : (popS d C a).what = 0) : rank P (popS d C a).a + 1 ≤ rank P a ∧ (popS d C a).a.kind = 1 := by
  have h9 : a.at_ < 8 := by
    rcases Nat.lt_or_ge a.at_ 8 with h8 | h8
    · exact h8
    · exfalso
      unfold popS at h
      split at h <;> try omega
      split at h <;> simp [over] at h
  obtain ⟨n, hn⟩ : ∃ n, a.at_ = n := ⟨_, rfl⟩
  obtain ⟨kind, v, at_, b, t, w, n', nw, i, read, told, got⟩ := a
  simp only at hk hn h9
  subst hk hn
  have : at_ = 0 ∨ at_ = 1 ∨ at_ = 2 ∨ at_ = 3 ∨ at_ = 4 ∨ at_ = 5 ∨ at_ = 6 ∨ at_ = 7 := by omega
  rcases this with rfl | rfl | rfl | rfl | rfl | rfl | rfl | rfl
  · simp [popS, goes, rank]
  · simp [popS, goes, rank]
  · simp [popS, goes, rank]
  · simp only [popS, goes, rank]; exact ⟨by split <;> omega, trivial⟩
  · simp [popS, over] at h
  · simp [popS, goes, rank]
  · simp only [popS] at h ⊢
    split at h
    · simp [over] at h
    · rename_i hb
      rw [if_neg hb]
      simp [goes, rank]
  · simp only [popS]
    split <;> simp [goes, rank]
theorem stealS_rank {a : PAct} (hk : a.kind = 2) (h : (stealS d C a).what = 0) : rank P (stealS d C a).a + 1 ≤ rank P a ∧ (stealS d C a).a.kind = 2 := by
  have h9 : a.at_ < 5 := by
    rcases Nat.lt_or_ge a.at_ 5 with h8 | h8
    · exact h8
    · exfalso
      unfold stealS at h
      split at h <;> try omega
      split at h <;> simp [over] at h
  obtain ⟨kind, v, at_, b, t, w, n', nw, i, read, told, got⟩ := a
  simp only at hk h9
  subst hk
  have : at_ = 0 ∨ at_ = 1 ∨ at_ = 2 ∨ at_ = 3 ∨ at_ = 4 := by omega
  rcases this with rfl | rfl | rfl | rfl | rfl
  · simp [stealS, goes, rank]
  · simp only [stealS] at h ⊢
    split at h
    · simp [over] at h
    · rename_i hb
      rw [if_neg hb]
      simp [goes, rank]
  · simp [stealS, goes, rank]
  · simp [stealS, goes, rank]
  · simp [stealS, goes, rank]
theorem stealS_kind (a : PAct) : (stealS d C a).a.kind = a.kind := by
  unfold stealS
  split <;> simp only [goes, over]
  · split <;> simp only
  · split <;> simp only
end
/-- the owner's act, if it is under way -/
def own (acts : List PAct) (on : Option Nat) : Option PAct :=
  match on with
  | none => none
  | some i => match acts[i]? with
    | none => none
    | some a => if a.told = 0 then some a else none
def pend : Option PAct → List Int
  | none => []
  | some a => if a.kind = 0 then [a.v] else []
/-- Acts on a deque, all that is known of them: L: the values that are there, the one that is being pushed last, one that is being popped too. -/
structure Mach (d : Int) (C : List Int) (acts : List PAct) (on : Option Nat) (L : List Int) (P N : Int) : Prop where
  hN : 2 * P ≤ N
  onk : ∀ i, on = some i → ∃ a, acts[i]? = some a ∧ a.kind ≠ 2
  kinds : ∀ (i : Nat) a, acts[i]? = some a → a.told = 0 → a.kind ≠ 2 → on = some i
  ex : ∃ ws cur q, Core d C ws cur q P ∧ OwnI (ld C d) (ld C (d + 1)) cur C ws q P (own acts on) ∧ Sz d C cur N (own acts on) ∧ L = q ++ hold (own acts on) ++ pend (own acts on) ∧
    ∀ (i : Nat) a, acts[i]? = some a → a.told = 0 → a.kind = 2 → ThiefI (need (own acts on)) (ld C d) cur C ws q a
/-- what a step of an act comes to, by what is there -/
def Came (a : PAct) (r : Res) (L L' : List Int) : Prop :=
  r.what = 0 ∧ r.val = 0 ∧ r.a.told = 0 ∧ L' = L ∨ r.a.told = r.what ∧
    (a.kind = 0 ∧ r.what = 1 ∧ r.val = 0 ∧ L' = L ∨ a.kind = 1 ∧ r.what = 2 ∧ L = L' ++ [r.val] ∨ a.kind = 1 ∧ r.what = 3 ∧ r.val = 0 ∧ L = [] ∧ L' = [] ∨
      a.kind = 2 ∧ r.what = 2 ∧ L = r.val :: L' ∨ a.kind = 2 ∧ (r.what = 3 ∨ r.what = 4) ∧ r.val = 0 ∧ L' = L)
theorem getElem?_set_same {l : List PAct} {i : Nat} {a b : PAct} (h : l[i]? = some a) : (l.set i b)[i]? = some b := by
  have := (List.getElem?_eq_some_iff.1 h).1
  simp [this]
theorem getElem?_set_other {l : List PAct} {i j : Nat} {b : PAct} (h : j ≠ i) : (l.set i b)[j]? = l[j]? := by
  rw [List.getElem?_set]
  rw [if_neg (fun e => h e.symm)]
theorem own_other {acts : List PAct} {on : Option Nat} {i : Nat} {b : PAct} (h : on ≠ some i) : own (acts.set i b) on = own acts on := by
  cases on with
  | none => rfl
  | some j =>
    have hj : j ≠ i := fun e => h (by rw [e])
    simp only [own, getElem?_set_other hj]
theorem own_same {acts : List PAct} {i : Nat} {a b : PAct} (h : acts[i]? = some a) : own (acts.set i b) (some i) = if b.told = 0 then some b else none := by
  simp only [own, getElem?_set_same h]
theorem mach_step {d : Int} {C : List Int} {acts : List PAct} {on : Option Nat} {L : List Int} {P N : Int} (h : Mach d C acts on L P N) {i : Nat} {a : PAct} (ha : acts[i]? = some a) (h0 : a.told = 0) :
    ∃ L', Mach d (pstep d C a).C (acts.set i (pstep d C a).a) on L' P N ∧ Came a (pstep d C a) L L' ∧ (pstep d C a).a.kind = a.kind ∧ ((pstep d C a).what = 0 → rank P (pstep d C a).a + 1 ≤ rank P a) := by
  obtain ⟨ws, cur, q, hc, ho, hs, hL, hT⟩ := h.ex
  by_cases hk2 : a.kind = 2
  · have hst : pstep d C a = stealS d C a := by simp only [pstep, hk2]
    have hon : on ≠ some i := fun e => by
      obtain ⟨b, hb, hb2⟩ := h.onk i e
      rw [ha] at hb; cases hb; exact hb2 hk2
    have ht := hT i a ha h0 hk2
    have hstep := thief_step hc ho ht h0
    have hkd := stealS_kind (d := d) (C := C) a
    have hlen := stealS_len (d := d) (C := C) a
    have hrk := stealS_rank (d := d) (C := C) (P := P) hk2
    rw [hst]
    generalize stealS d C a = r at *
    have honk : ∀ j, on = some j → ∃ b, (acts.set i r.a)[j]? = some b ∧ b.kind ≠ 2 := by
      intro j hj
      obtain ⟨b, hb, hb2⟩ := h.onk j hj
      exact ⟨b, by rw [getElem?_set_other (fun e => hon (by rw [hj, e]))]; exact hb, hb2⟩
    have hkinds : ∀ (j : Nat) b, (acts.set i r.a)[j]? = some b → b.told = 0 → b.kind ≠ 2 → on = some j := by
      intro j b hb hb0 hbk
      by_cases hj : j = i
      · subst hj
        rw [getElem?_set_same ha] at hb
        cases hb
        exact absurd (hkd.trans hk2) hbk
      · rw [getElem?_set_other hj] at hb
        exact h.kinds j b hb hb0 hbk
    rcases hstep with ⟨e1, e2, e3, e4, e5⟩ | ⟨e1, e2, e3, e4⟩ | ⟨e1, e2, e3, q', e4, e5⟩
    · refine ⟨L, ⟨h.hN, honk, hkinds, ws, cur, q, by rw [e3]; exact hc, by rw [e3, own_other hon]; exact ho, by rw [e3, own_other hon]; exact hs, by rw [own_other hon]; exact hL, fun j b hb hb0 hbk => ?_⟩, .inl ⟨e1, e2, e4, rfl⟩, hkd, fun e => (hrk e).1⟩
      rw [e3, own_other hon]
      by_cases hj : j = i
      · subst hj
        rw [getElem?_set_same ha] at hb
        cases hb
        exact e5
      · rw [getElem?_set_other hj] at hb
        exact hT j b hb hb0 hbk
    · refine ⟨L, ⟨h.hN, honk, hkinds, ws, cur, q, by rw [e3]; exact hc, by rw [e3, own_other hon]; exact ho, by rw [e3, own_other hon]; exact hs, by rw [own_other hon]; exact hL, fun j b hb hb0 hbk => ?_⟩, .inr ⟨e4, .inr (.inr (.inr (.inr ⟨hk2, e1, e2, rfl⟩)))⟩, hkd, fun e => (hrk e).1⟩
      rw [e3, own_other hon]
      by_cases hj : j = i
      · subst hj
        rw [getElem?_set_same ha] at hb
        cases hb
        exfalso; omega
      · rw [getElem?_set_other hj] at hb
        exact hT j b hb hb0 hbk
    · have hcp := hc.pop e4
      have hop := ho.pop hc e4 e5
      rw [← e3] at hcp hop
      have hd : ld r.C d = ld C d + 1 := by rw [e3]; exact ld_st_eq hc.d0 (by have := hc.dl; omega)
      have hk : ∀ k, k ≠ d → ld r.C k = ld C k := fun k hk => by rw [e3]; exact ld_st_ne hk
      refine ⟨q' ++ hold (own acts on) ++ pend (own acts on), ⟨h.hN, honk, hkinds, ws, cur, q', hcp, by rw [own_other hon]; exact hop, by rw [own_other hon, Sz, hlen]; exact hs, by rw [own_other hon], fun j b hb hb0 hbk => ?_⟩, .inr ⟨by rw [e1, e2], .inr (.inr (.inr (.inl ⟨hk2, e1, by rw [hL, e4]; simp⟩)))⟩, hkd, fun e => (hrk e).1⟩
      rw [own_other hon, hd]
      by_cases hj : j = i
      · subst hj
        rw [getElem?_set_same ha] at hb
        cases hb
        exfalso; omega
      · rw [getElem?_set_other hj] at hb
        exact (hT j b hb hb0 hbk).late fun p hp hpe => by rw [hk _ (by have := hc.lay p hp; have := hc.d0; omega)]; exact hpe
  · have hon : on = some i := h.kinds i a ha h0 hk2
    subst hon
    have hown : own acts (some i) = some a := by simp only [own, ha, h0, if_true]
    rw [hown] at ho hs hL hT
    have honk : ∀ b : PAct, b.kind ≠ 2 → ∀ j, some i = some j → ∃ c, (acts.set i b)[j]? = some c ∧ c.kind ≠ 2 := by
      intro b hb j hj
      cases hj
      exact ⟨b, getElem?_set_same ha, hb⟩
    have hkinds : ∀ b : PAct, ∀ (j : Nat) c, (acts.set i b)[j]? = some c → c.told = 0 → c.kind ≠ 2 → some i = some j := by
      intro b j c hc' hc0 hck
      by_cases hj : j = i
      · rw [hj]
      · rw [getElem?_set_other hj] at hc'
        exact h.kinds j c hc' hc0 hck
    have hthief : ∀ b : PAct, b.kind ≠ 2 → ∀ (j : Nat) c, (acts.set i b)[j]? = some c → c.told = 0 → c.kind = 2 → ThiefI (need (some a)) (ld C d) cur C ws q c := by
      intro b hb j c hc' hc0 hck
      by_cases hj : j = i
      · subst hj
        rw [getElem?_set_same ha] at hc'
        cases hc'
        exact absurd hck hb
      · rw [getElem?_set_other hj] at hc'
        exact hT j c hc' hc0 hck
    obtain ⟨_, ho⟩ := ho
    rcases ho with ⟨hk0, hB, hP, hp⟩ | ⟨hk1, hp⟩
    · have hst : pstep d C a = pushS d C a := by simp only [pstep, hk0]
      rw [hst]
      have hstep := push_step hc hk0 h0 hB hP hp h.hN hs
      generalize pushS d C a = r at *
      obtain ⟨⟨s1, s2⟩, ws', cur', q', c1, c2, c3, c4, c5, c6⟩ := hstep
      have hnd : need (some a) = 1 := by simp [need, hk0]
      have hhd : hold (some a) = [] := by simp [hold, hk0]
      have hpd : pend (some a) = [a.v] := by simp [pend, hk0]
      rw [hhd, hpd] at hL
      have hr2 : r.a.kind ≠ 2 := by rw [s1]; decide
      rcases c3 with ⟨w1, w2, w3, w4⟩ | ⟨w1, w2, w3, w4⟩
      · have hown' : own (acts.set i r.a) (some i) = some r.a := by rw [own_same ha, if_pos w3]
        rw [if_pos w1] at c2 c5
        refine ⟨L, ⟨h.hN, honk _ hr2, hkinds _, ws', cur', q', c1, by rw [hown']; exact c2, by rw [hown']; exact c5, ?_, fun j b hb hb0 hbk => ?_⟩, .inl ⟨w1, w2, w3, rfl⟩, by rw [s1, hk0], c6⟩
        · rw [hown', w4, hL, s2.symm]
          simp [hold, pend, s1]
        · rw [hown']
          have : need (some r.a) = 1 := by simp [need, s1]
          rw [this]
          have := hthief _ hr2 j b hb hb0 hbk
          rw [hnd] at this
          exact c4 b this
      · have hown' : own (acts.set i r.a) (some i) = none := by rw [own_same ha, if_neg (by omega)]
        rw [if_neg (by omega)] at c2 c5
        refine ⟨L, ⟨h.hN, honk _ hr2, hkinds _, ws', cur', q', c1, by rw [hown']; exact c2, by rw [hown']; exact c5, ?_, fun j b hb hb0 hbk => ?_⟩, .inr ⟨by omega, .inl ⟨hk0, w1, w2, rfl⟩⟩, by rw [s1, hk0], c6⟩
        · rw [hown', w4, hL]
          simp [hold, pend]
        · rw [hown']
          have := hthief _ hr2 j b hb hb0 hbk
          rw [hnd] at this
          exact c4 b this
    · have hst : pstep d C a = popS d C a := by simp only [pstep, hk1]
      rw [hst]
      have hstep := pop_step hc hk1 h0 hp
      have hlen := popS_len (d := d) (C := C) a
      have hrk := popS_rank (d := d) (C := C) (P := P) hk1
      generalize popS d C a = r at *
      obtain ⟨s1, q', c1, c2, c3, c4⟩ := hstep
      have hpd : pend (some a) = [] := by simp [pend, hk1]
      rw [hpd, List.append_nil] at hL
      have hr2 : r.a.kind ≠ 2 := by rw [s1]; decide
      have hcap : capNow cur (some a) = cur.2 := by simp [capNow, hk1]
      rw [Sz, hcap] at hs
      by_cases w1 : r.what = 0
      · rcases c3 with ⟨_, w2, w3, w4⟩ | ⟨w, _⟩ | ⟨w, _⟩
        · have hown' : own (acts.set i r.a) (some i) = some r.a := by rw [own_same ha, if_pos w3]
          rw [if_pos w1] at c2 c4
          have hcap' : capNow cur (some r.a) = cur.2 := by simp [capNow, s1]
          refine ⟨L, ⟨h.hN, honk _ hr2, hkinds _, ws, cur, q', c1, by rw [hown']; exact c2, by rw [hown', Sz, hcap', hlen]; exact hs, ?_, fun j b hb hb0 hbk => ?_⟩, .inl ⟨w1, w2, w3, rfl⟩, by rw [s1, hk1], fun e => (hrk e).1⟩
          · rw [hown', hL, ← w4]
            simp [pend, s1]
          · rw [hown']
            exact c4 b (hthief _ hr2 j b hb hb0 hbk)
        · omega
        · omega
      · rw [if_neg w1] at c2 c4
        have hsz : Sz d r.C cur N none := by rw [Sz, hlen]; exact hs
        have ht0 : r.a.told ≠ 0 := by rcases c3 with ⟨w, _⟩ | ⟨w, w2, _⟩ | ⟨w, _, w2, _⟩ <;> omega
        have hown' : own (acts.set i r.a) (some i) = none := by rw [own_same ha, if_neg ht0]
        have key : Mach d r.C (acts.set i r.a) (some i) q' P N := by
          refine ⟨h.hN, honk _ hr2, hkinds _, ws, cur, q', c1, by rw [hown']; exact c2, by rw [hown']; exact hsz, by rw [hown']; simp [hold, pend], fun j b hb hb0 hbk => ?_⟩
          rw [hown']
          exact c4 b (hthief _ hr2 j b hb hb0 hbk)
        rcases c3 with ⟨w, _⟩ | ⟨w, w2, w3⟩ | ⟨w, w2, w3, w4, w5, w6⟩
        · omega
        · exact ⟨q', key, .inr ⟨by omega, .inr (.inl ⟨hk1, w, by rw [hL, w3]⟩)⟩, by rw [s1, hk1], fun e => absurd e w1⟩
        · exact ⟨q', key, .inr ⟨by omega, .inr (.inr (.inl ⟨hk1, w, w2, by rw [hL, w4, w5]; rfl, w6⟩))⟩, by rw [s1, hk1], fun e => absurd e w1⟩
end Go.Proofs.Ytmghlhngdopifaa
