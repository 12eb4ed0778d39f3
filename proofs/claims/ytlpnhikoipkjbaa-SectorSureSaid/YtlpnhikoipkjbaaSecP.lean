/- Sectors, plain: what stays of loose writes. No program in sight. Bytes are of any type. -/
namespace Go.Proofs.Ytlpnhikoipkjbaa
variable {α : Type}
/-- of a write so many bytes are kept -/
def keepW (g : List (List α)) (w : Nat × List α) (n : Int) : List (List α) :=
  g.set w.1 (w.2.take (min n 128).toNat ++ (g.getD w.1 []).drop (min n 128).toNat)
/-- a crash: the first writes by their picks, the others not at all -/
def crashW : List (Nat × List α) → List Int → List (List α) → List (List α)
  | [], _, g => g
  | _ :: _, [], g => g
  | w :: l, n :: ps, g => crashW l ps (keepW g w n)
def syncW (l : List (Nat × List α)) (g : List (List α)) : List (List α) := l.foldl (fun g w => keepW g w 128) g
/-- all sectors are of one length, all writes too, and go to a sector that is there -/
structure SecOk (k : Nat) (l : List (Nat × List α)) (g : List (List α)) : Prop where
  len : g.length = k
  all : ∀ s ∈ g, s.length = 128
  lo : ∀ w ∈ l, w.1 < k ∧ w.2.length = 128
theorem keepW_length (g : List (List α)) (w : Nat × List α) (n : Int) : (keepW g w n).length = g.length := by simp [keepW]
theorem getD_mem (g : List (List α)) (i : Nat) (h : i < g.length) : g.getD i [] ∈ g := by
  rw [List.getD_eq_getElem?_getD, List.getElem?_eq_getElem h]; exact List.getElem_mem h
theorem keepW_all {k : Nat} {l : List (Nat × List α)} {g : List (List α)} (h : SecOk k l g) {w : Nat × List α} (hw : w.1 < k ∧ w.2.length = 128) (n : Int) : SecOk k l (keepW g w n) := by
  refine ⟨by rw [keepW_length, h.len], fun s hs => ?_, h.lo⟩
  rcases List.mem_or_eq_of_mem_set hs with hs | rfl
  · exact h.all s hs
  · have := h.all _ (getD_mem g w.1 (by rw [h.len]; exact hw.1))
    simp only [List.length_append, List.length_take, List.length_drop, this, hw.2]
    omega
theorem SecOk.tail {k : Nat} {w : Nat × List α} {l : List (Nat × List α)} {g : List (List α)} (h : SecOk k (w :: l) g) : SecOk k l g :=
  ⟨h.len, h.all, fun x hx => h.lo x (List.mem_cons_of_mem _ hx)⟩
theorem crashW_ok {k : Nat} : ∀ {l : List (Nat × List α)} {ps : List Int} {g : List (List α)}, SecOk k l g → SecOk k [] (crashW l ps g)
  | [], _, _, h => ⟨h.len, h.all, by simp⟩
  | _ :: _, [], _, h => ⟨h.len, h.all, by simp⟩
  | w :: l, n :: ps, g, h => by
    unfold crashW
    exact crashW_ok (keepW_all h.tail (h.lo w (by simp)) n)
theorem syncW_ok {k : Nat} : ∀ {l : List (Nat × List α)} {g : List (List α)}, SecOk k l g → SecOk k [] (syncW l g)
  | [], _, h => ⟨h.len, h.all, by simp⟩
  | w :: l, g, h => by
    show SecOk k [] (syncW l (keepW g w 128))
    exact syncW_ok (keepW_all h.tail (h.lo w (by simp)) 128)
theorem keepW_none {k : Nat} {l : List (Nat × List α)} {g : List (List α)} (h : SecOk k l g) (w : Nat × List α) (n : Int) (hn : n ≤ 0) (hw : w.1 < k) : keepW g w n = g := by
  unfold keepW
  rw [show (min n 128).toNat = 0 by omega, List.take_zero, List.drop_zero, List.nil_append]
  have hl : w.1 < g.length := by rw [h.len]; exact hw
  apply List.ext_getElem?
  intro i
  rw [List.getElem?_set]
  split
  · next he =>
    subst he
    rw [List.getD_eq_getElem?_getD, List.getElem?_eq_getElem hl]; rfl
  · rfl
/-- what goes whole goes as in a sync -/
theorem keepW_whole (g : List (List α)) (w : Nat × List α) (n : Int) (hn : 128 ≤ n) : keepW g w n = keepW g w 128 := by
  unfold keepW
  rw [show (min n 128).toNat = (min (128 : Int) 128).toNat by omega]
theorem crashW_whole : ∀ (l : List (Nat × List α)) (ps : List Int) (g : List (List α)), l.length ≤ ps.length → (∀ i, i < l.length → 128 ≤ ps.getD i 0) → crashW l ps g = syncW l g
  | [], _, _, _, _ => by unfold crashW; rfl
  | _ :: _, [], _, h, _ => by simp at h
  | w :: l, n :: ps, g, h, hp => by
    unfold crashW
    rw [keepW_whole g w n (by simpa using hp 0 (by simp))]
    exact crashW_whole l ps _ (by simpa using h) (fun i hi => by simpa using hp (i + 1) (by simpa using hi))
theorem crashW_none {k : Nat} : ∀ (l : List (Nat × List α)) (ps : List Int) (g : List (List α)), SecOk k l g → (∀ i, i < l.length → ps.getD i 0 ≤ 0) → crashW l ps g = g
  | [], _, _, _, _ => by unfold crashW; rfl
  | _ :: _, [], _, _, _ => by unfold crashW; rfl
  | w :: l, n :: ps, g, h, hp => by
    unfold crashW
    rw [keepW_none h w n (by simpa using hp 0 (by simp)) (h.lo w (by simp)).1]
    exact crashW_none l ps _ h.tail (fun i hi => by simpa using hp (i + 1) (by simpa using hi))
/-- each byte is one that was there, or that the write has there -/
theorem keepW_byte {k : Nat} {l : List (Nat × List α)} {g : List (List α)} (h : SecOk k l g) {w : Nat × List α} (hw : w.1 < k ∧ w.2.length = 128) (n : Int) (i j : Nat) (d : α) :
    ((keepW g w n).getD i []).getD j d = (g.getD i []).getD j d ∨ (w.1 = i ∧ j < 128 ∧ ((keepW g w n).getD i []).getD j d = w.2.getD j d) := by
  have hl : w.1 < g.length := by rw [h.len]; exact hw.1
  by_cases hi : w.1 = i
  · subst hi
    have hg := h.all _ (getD_mem g w.1 hl)
    have he : (keepW g w n).getD w.1 [] = w.2.take (min n 128).toNat ++ (g.getD w.1 []).drop (min n 128).toNat := by
      simp [keepW, List.getD_eq_getElem?_getD, hl]
    rw [he]
    by_cases hj : j < (min n 128).toNat
    · right
      refine ⟨rfl, by omega, ?_⟩
      rw [List.getD_eq_getElem?_getD, List.getElem?_append_left (by simp [hw.2]; omega), List.getElem?_take_of_lt hj, List.getD_eq_getElem?_getD]
    · left
      rw [List.getD_eq_getElem?_getD, List.getElem?_append_right (by simp [hw.2]; omega), List.getElem?_drop, List.getD_eq_getElem?_getD]
      congr 2
      simp [hw.2]
      omega
  · left
    have : (keepW g w n).getD i [] = g.getD i [] := by
      simp [keepW, List.getD_eq_getElem?_getD, hi]
    rw [this]
theorem crashW_byte {k : Nat} (i j : Nat) (d : α) : ∀ (l : List (Nat × List α)) (ps : List Int) (g : List (List α)), SecOk k l g →
    ((crashW l ps g).getD i []).getD j d = (g.getD i []).getD j d ∨ ∃ w ∈ l, w.1 = i ∧ j < 128 ∧ ((crashW l ps g).getD i []).getD j d = w.2.getD j d
  | [], _, _, _ => by unfold crashW; exact .inl rfl
  | _ :: _, [], _, _ => by unfold crashW; exact .inl rfl
  | w :: l, n :: ps, g, h => by
    have hc : crashW (w :: l) (n :: ps) g = crashW l ps (keepW g w n) := by rw [crashW]
    rw [hc]
    rcases crashW_byte i j d l ps _ (keepW_all h.tail (h.lo w (by simp)) n) with he | ⟨x, hx, h1, h2, h3⟩
    · rcases keepW_byte h (h.lo w (by simp)) n i j d with hk | ⟨h1, h2, h3⟩
      · exact .inl (he.trans hk)
      · exact .inr ⟨w, by simp, h1, h2, he.trans h3⟩
    · exact .inr ⟨x, by simp [hx], h1, h2, h3⟩
/-- the sectors in one row -/
theorem flat_get {k : Nat} : ∀ (g : List (List α)), g.length = k → (∀ s ∈ g, s.length = 128) → ∀ (i : Nat) (d : α), g.flatten.getD i d = (g.getD (i / 128) []).getD (i % 128) d := by
  intro g
  induction g generalizing k with
  | nil => intro _ _ i d; simp
  | cons s g ih =>
    intro hk hs i d
    have h0 := hs s (by simp)
    rw [List.flatten_cons]
    by_cases hi : i < 128
    · rw [Nat.div_eq_of_lt hi, Nat.mod_eq_of_lt hi]
      simp [List.getD_eq_getElem?_getD, List.getElem?_append_left (show i < s.length by omega)]
    · have := ih rfl (fun t ht => hs t (by simp [ht])) (i - 128) d
      rw [show i / 128 = (i - 128) / 128 + 1 by omega, show i % 128 = (i - 128) % 128 by omega]
      rw [List.getD_eq_getElem?_getD, List.getElem?_append_right (by omega), h0, ← List.getD_eq_getElem?_getD, this]
      simp
theorem flat_length : ∀ (g : List (List α)), (∀ s ∈ g, s.length = 128) → g.flatten.length = g.length * 128
  | [], _ => rfl
  | s :: g, h => by
    rw [List.flatten_cons, List.length_append, h s (by simp), flat_length g (fun t ht => h t (by simp [ht])), List.length_cons]
    omega
/-- a text, filled up to a sector -/
def pad (z : α) (t : List α) : List α := t ++ List.replicate (128 - t.length) z
theorem pad_length (z : α) (t : List α) (h : t.length ≤ 128) : (pad z t).length = 128 := by simp [pad]; omega
theorem pad_get (z : α) (t : List α) (j : Nat) : (pad z t).getD j z = t.getD j z := by
  unfold pad
  by_cases hj : j < t.length
  · simp [List.getD_eq_getElem?_getD, List.getElem?_append_left hj]
  · rw [List.getD_eq_getElem?_getD, List.getElem?_append_right (by omega), List.getElem?_replicate, List.getD_eq_getElem?_getD, List.getElem?_eq_none (by omega)]
    split <;> rfl
/-- what a write of that text at that place leaves, loose -/
def wrote (z : α) (k : Nat) (s : Int × List α) : Option (Nat × List α) :=
  if 0 ≤ s.1 ∧ s.1 < k ∧ s.2.length ≤ 128 then some (s.1.toNat, pad z s.2) else none
theorem wrote_some {z : α} {k : Nat} {s : Int × List α} {w : Nat × List α} (h : wrote z k s = some w) : s.1 = w.1 ∧ w.1 < k ∧ s.2.length ≤ 128 ∧ w.2 = pad z s.2 := by
  unfold wrote at h
  split at h
  · next hc =>
    cases h
    exact ⟨by simp only; omega, by simp only; omega, hc.2.2, rfl⟩
  · cases h
theorem wrote_ok (z : α) {k : Nat} {g : List (List α)} (h : SecOk k [] g) (l : List (Int × List α)) : SecOk k (l.filterMap (wrote z k)) g := by
  refine ⟨h.len, h.all, fun w hw => ?_⟩
  obtain ⟨s, _, hs⟩ := List.mem_filterMap.1 hw
  obtain ⟨_, h1, h2, h3⟩ := wrote_some hs
  exact ⟨h1, by rw [h3, pad_length z _ h2]⟩
/-- SectorSure's law: a byte that is another behind a crash is one that some write has there -/
theorem sure_byte (z : α) {k : Nat} {g : List (List α)} (h : SecOk k [] g) (l : List (Int × List α)) (ps : List Int) (x : Nat) :
    (crashW (l.filterMap (wrote z k)) ps g).flatten.getD x z = g.flatten.getD x z ∨ ∃ s ∈ l, s.1 = (x / 128 : Nat) ∧ s.2.length ≤ 128 ∧ s.2.getD (x % 128) z = (crashW (l.filterMap (wrote z k)) ps g).flatten.getD x z := by
  have hc := crashW_ok (ps := ps) (wrote_ok z h l)
  rw [flat_get _ hc.len hc.all, flat_get _ h.len h.all]
  rcases crashW_byte (x / 128) (x % 128) z (l.filterMap (wrote z k)) ps g (wrote_ok z h l) with he | ⟨w, hw, h1, _, h3⟩
  · exact .inl he
  · obtain ⟨s, hs, hq⟩ := List.mem_filterMap.1 hw
    obtain ⟨e1, _, e3, e4⟩ := wrote_some hq
    refine .inr ⟨s, hs, by rw [e1, h1], e3, ?_⟩
    rw [h3, e4, pad_get]
/-- SectorWhole's laws -/
theorem whole_sync (z : α) (k : Nat) (g : List (List α)) (l : List (Int × List α)) (rest : List Int) :
    crashW (l.filterMap (wrote z k)) ((List.range (l.filterMap (wrote z k)).length).map (fun i : Nat => (128 : Int) + (i : Int)) ++ rest) g = syncW (l.filterMap (wrote z k)) g := by
  refine crashW_whole _ _ _ (by simp) (fun i hi => ?_)
  rw [List.getD_eq_getElem?_getD, List.getElem?_append_left (by simpa using hi)]
  simp [List.getElem?_range hi]
  try omega
theorem whole_none (z : α) {k : Nat} {g : List (List α)} (h : SecOk k [] g) (l : List (Int × List α)) (rest : List Int) :
    crashW (l.filterMap (wrote z k)) (List.replicate (l.filterMap (wrote z k)).length 0 ++ rest) g = g := by
  refine crashW_none _ _ _ (wrote_ok z h l) (fun i hi => ?_)
  rw [List.getD_eq_getElem?_getD, List.getElem?_append_left (by simpa using hi)]
  simp [hi]
end Go.Proofs.Ytlpnhikoipkjbaa
