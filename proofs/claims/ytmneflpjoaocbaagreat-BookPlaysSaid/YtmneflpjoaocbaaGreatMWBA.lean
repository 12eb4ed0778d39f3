/- Several texts in one: RsA. -/
import Derived.Test.YtmneflpjoaocbaaGreatMWAZ
import Derived.Test.YtmneflpjoaocbaaGreatMWAT
import Derived.Test.YtmneflpjoaocbaaGreatMWAE
import Derived.ProofKit
import Derived.OpenShut
/- A step of a pair, any of them; the opening of steps. No conditions beyond what each states. -/
namespace Go.Proofs.YtmneflpjoaocbaaGreat
open Go.RowKit Go.WideShapes Go.ChangeShapes Go.ChangeAt
set_option linter.unusedVariables false
theorem cellsStepB : Tryz.prog.cellsOf 41 = 4 := by kernel_rfl
theorem cellsIB : Tryz.prog.cellsOf 3 = 1 := by kernel_rfl
theorem open_picksB {H : Type} {enc : TypeId × Value → H} {W : World} {base : Nat} {spare : Nat → Bool} {held : Bool} {fuel : Nat} {A : Option Addr} {len cap : Nat} {x : DataW H × List MemPlace}
    (h : DataW.trod enc Tryz.prog W base spare held fuel 39 [.slice A len cap] = some x) : ∃ ps : List Int, ps.length = len ∧ Reads W W.heap.size 1 A len (ps.map (.int .i64)) ∧ len ≤ cap ∧ cap ≤ maxLen := by
  rcases open_ints Tryz.underlying39 Tryz.underlying3 cellsIB h with ⟨hcs, _⟩ | ⟨a', len', cap', zs, hcs, _, hl', hm', hz, _, hcell, _⟩
  · simp at hcs
    obtain ⟨rfl, rfl, rfl⟩ := hcs
    exact ⟨[], rfl, Reads.none_, Nat.le_refl _, by simp [maxLen]⟩
  · simp at hcs
    obtain ⟨rfl, rfl, rfl⟩ := hcs
    have hzl : len ≤ zs.length := by rw [hz]; split <;> omega
    have htl : (zs.take len).length = len := by rw [List.length_take]; omega
    refine ⟨zs.take len, htl, ?_, hl', hm'⟩
    by_cases h0 : len = 0
    · subst h0; exact ⟨by simp, fun h => by omega⟩
    · have hlt : a'.block < W.heap.size := by have := block_lt_of_cell (hcell 0 (by omega)); rwa [block_of_add] at this
      refine reads_ints htl hlt (fun j hj => ?_)
      rw [hcell j (by omega)]
      simp [List.getD, hj]
theorem TextRow.R {w : World} {A : Option Addr} {xs : List ByteArray} (h : TextRow w A xs) : TextR w w.heap.size A xs := fun j hj => h.at_ j hj
/-- the numbers of the steps are numbers -/
def NumB (ss : List BP) : Prop := ∀ s ∈ ss, s.n ≤ 9223372036854775807
theorem open_stepsB {H : Type} {enc : TypeId × Value → H} {W : World} {base : Nat} {spare : Nat → Bool} {held : Bool} {fuel : Nat} {a0 : Option Addr} {len cap : Nat} {x : DataW H × List MemPlace}
    (h : DataW.trod enc Tryz.prog W base spare held fuel 22 [.slice a0 len cap] = some x) : ∃ ss : List BP, ss.length = len ∧ ScrB W W.heap.size a0 ss ∧ NumB ss ∧ len ≤ maxLen := by
  rcases open_slice_fields Tryz.underlying22 Tryz.underlying41 (by kernel_rfl) cellsStepB h with ⟨hcs, _⟩ | ⟨a, len', cap', m, D, Pl, hcs, _, hl, hm, hmm, _, hi⟩
  · simp at hcs
    obtain ⟨rfl, rfl, rfl⟩ := hcs
    exact ⟨[], rfl, fun i s hs => by simp at hs, fun s hs => by simp at hs, by simp [maxLen]⟩
  · simp at hcs
    obtain ⟨rfl, rfl, rfl⟩ := hcs
    have hlm : len ≤ m := by rw [hmm]; split <;> omega
    have hex : ∀ i, i < len → ∃ s : BP, (∃ b off, some a = some (⟨b, off, none⟩ : Addr) ∧ b < W.heap.size ∧ W.cell? ⟨b, off + i * 4, none⟩ = some (.int .u8 s.act) ∧ W.cell? ⟨b, off + i * 4 + 1, none⟩ = some (.slice s.ta s.texts.length s.tc) ∧
        W.cell? ⟨b, off + i * 4 + 2, none⟩ = some (.int .i64 s.n) ∧ W.cell? ⟨b, off + i * 4 + 3, none⟩ = some (.slice s.la s.picks.length s.lc) ∧
        TextR W W.heap.size s.ta s.texts ∧ Reads W W.heap.size 1 s.la s.picks.length (s.picks.map (.int .i64)) ∧ (∀ x ∈ s.texts, x.size ≤ maxLen) ∧ s.texts.length ≤ s.tc ∧ s.tc ≤ maxLen ∧ s.picks.length ≤ s.lc ∧ s.lc ≤ maxLen ∧ 0 ≤ s.act ∧ s.act < 256) ∧ s.n ≤ 9223372036854775807 := by
      intro i hil
      obtain ⟨ys, n, _, _, _, hf⟩ := hi i (by omega)
      obtain ⟨v0, y0, c0, _, d0⟩ := hf 0 _ rfl
      replace c0 : W.cell? (a.add (i * 4 + 0)) = some v0 := c0
      obtain ⟨v1, y1, c1, _, d1⟩ := hf 1 _ rfl
      replace c1 : W.cell? (a.add (i * 4 + 1)) = some v1 := c1
      obtain ⟨v2, y2, c2, _, d2⟩ := hf 2 _ rfl
      replace c2 : W.cell? (a.add (i * 4 + 2)) = some v2 := c2
      obtain ⟨v3, y3, c3, _, d3⟩ := hf 3 _ rfl
      replace c3 : W.cell? (a.add (i * 4 + 3)) = some v3 := c3
      obtain ⟨z0, e0, _, wz0⟩ := DataW.trod_int Tryz.underlying5 d0
      obtain ⟨z2, e2, _, wz2⟩ := DataW.trod_int Tryz.underlying3 d2
      simp only [List.cons.injEq, and_true] at e0 e2
      subst e0 e2
      obtain ⟨b, off, spot⟩ := a
      have hspot : spot = none := by
        obtain ⟨ys', n', _, _, _, hf'⟩ := hi 0 (by omega)
        obtain ⟨v', y', c', _⟩ := hf' 0 _ rfl
        have hsp := World.cell?_spot c'
        simpa [Addr.add] using hsp
      subst hspot
      have hadd : ∀ k, (⟨b, off, none⟩ : Addr).add k = ⟨b, off + k, none⟩ := by intro k; unfold Addr.add; split <;> simp_all
      rw [hadd] at c0 c1 c2 c3
      have hb : b < W.heap.size := block_lt_of_cell c0
      have hz0 := bounds_u8 wz0
      have hz2 := bounds_i64 wz2
      obtain ⟨ta, tl, tc, rfl⟩ : ∃ ta tl tc, v1 = .slice ta tl tc := by
        rcases open_strings Tryz.underlying38 Tryz.underlying9 (by kernel_rfl) d1 with ⟨hcs, _⟩ | ⟨a', len', cap', ss, hcs, _⟩
        · simp at hcs
          exact ⟨_, _, _, hcs⟩
        · simp at hcs
          exact ⟨_, _, _, hcs⟩
      obtain ⟨xs, rfl, hrow, hcp, hmx, hall⟩ := open_texts d1
      obtain ⟨la, ll, lc, rfl⟩ : ∃ la ll lc, v3 = .slice la ll lc := by
        rcases open_ints Tryz.underlying39 Tryz.underlying3 cellsIB d3 with ⟨hcs, _⟩ | ⟨a', len', cap', zs, hcs, _, _⟩
        · simp at hcs
          exact ⟨_, _, _, hcs⟩
        · simp at hcs
          exact ⟨_, _, _, hcs⟩
      obtain ⟨ps, rfl, hr, hl', hm'⟩ := open_picksB d3
      exact ⟨⟨z0, xs, ta, tc, z2, ps, la, lc⟩, ⟨b, off, rfl, hb, c0, c1, c2, c3, hrow.R, hr, by simpa [maxLen] using hall, hcp, by simpa [maxLen] using hmx, hl', hm', by dsimp only; omega, by dsimp only; omega⟩, by dsimp only; omega⟩
    let f : Nat → BP := fun i => if h : i < len then Classical.choose (hex i h) else ⟨0, [], none, 0, 0, [], none, 0⟩
    have hsp : ∀ i s, ((List.range len).map f)[i]? = some s → ∃ h : i < len, Classical.choose (hex i h) = s := by
      intro i s hs
      have hil : i < len := by have := (List.getElem?_eq_some_iff.1 hs).1; simpa using this
      have : f i = s := by simpa [List.getElem?_range hil] using hs
      exact ⟨hil, by rw [← this]; simp [f, hil]⟩
    refine ⟨(List.range len).map f, by simp, ?_, ?_, by omega⟩
    · intro i s hs
      obtain ⟨hil, e⟩ := hsp i s hs
      have hc := Classical.choose_spec (hex i hil)
      rw [e] at hc
      exact hc.1
    · intro s hs
      obtain ⟨i, hi'⟩ := List.getElem?_of_mem hs
      obtain ⟨hil, e⟩ := hsp i s hi'
      have hc := Classical.choose_spec (hex i hil)
      rw [e] at hc
      exact hc.2
theorem ScrB.keep {w w' : World} {R : Nat} {A : Option Addr} {ss : List BP} (h : ScrB w R A ss) (hb : ∀ p : Addr, p.block < R → w'.cell? p = w.cell? p) : ScrB w' R A ss := by
  intro i s hs
  obtain ⟨b, off, h1, h2, c0, c1, c2, c3, ht, hr, h3⟩ := h i s hs
  exact ⟨b, off, h1, h2, (hb ⟨b, _, none⟩ h2).trans c0, (hb ⟨b, _, none⟩ h2).trans c1, (hb ⟨b, _, none⟩ h2).trans c2, (hb ⟨b, _, none⟩ h2).trans c3, ht.keep hb, hr.keep hb, h3⟩
theorem ScrB.below {w w' : World} {R : Nat} {A : Option Addr} {ss : List BP} (h : ScrB w R A ss) (hb : Below R w w') : ScrB w' R A ss := h.keep fun _ hp => hb.cell hp
theorem TextR.low {w : World} {R : Nat} {A : Option Addr} {xs : List ByteArray} (h : TextR w R A xs) (hR : R ≤ w.heap.size) : LowRow w R A xs :=
  ⟨h.row hR, fun h0 ad hA => by
    obtain ⟨g, off, h1, h2, _⟩ := h 0 h0
    rw [hA] at h1
    injection h1 with h1
    rw [h1]
    exact h2⟩
theorem PW.more {w : World} {pb p gs q gg n : Nat} {f nn : Int} {S : Dst} {bo xo : Option Nat} {t : List UInt8} {br : Bool} {B m m' : Nat} (h : PW w pb p gs q gg n f nn S bo xo t br B m) (h1 : m ≤ m') (h2 : m' ≤ 1000000) : PW w pb p gs q gg n f nn S bo xo t br B m' :=
  ⟨h.blk, h.lo, HalfD.more h.d h1 h2, h.no, h.b, h.x, h.tl⟩
/-- the pair, whatever has become of it -/
def PWx (w : World) (pb p gs q gg n : Nat) (f nn : Int) (B m : Nat) : Prop := ∃ S bo xo t br, PW w pb p gs q gg n f nn S bo xo t br B m
theorem PW.x_ {w : World} {pb p gs q gg n : Nat} {f nn : Int} {S : Dst} {bo xo : Option Nat} {t : List UInt8} {br : Bool} {B m m' : Nat} (h : PW w pb p gs q gg n f nn S bo xo t br B m) (h1 : m ≤ m') (h2 : m' ≤ 1000000) : PWx w pb p gs q gg n f nn B m' := ⟨_, _, _, _, _, h.more h1 h2⟩
theorem pdo_any (w : World) (pb p gs q gg n : Nat) (f nn : Int) (B m : Nat) (D : PWx w pb p gs q gg n f nn B m) (hn : n ≤ 12) (hk0 : -9223372036854775808 ≤ nn) (hk1 : nn ≤ 9223372036854775807) (hm : m ≤ 900000) (s : BP) (hx : LowRow w B s.ta s.texts) (hps : Reads w B 1 s.la s.picks.length (s.picks.map (Value.int .i64)))
    (hlen : s.texts.length ≤ 20) (hxs : ∀ x ∈ s.texts, x.size ≤ 262144) (dv : Nat) (hd : dv < 256) (hs1 : s.n ≤ 9223372036854775807) :
    Calls Tryz.prog 9 #[.pointer (some ⟨pb, 0, none⟩), stepV dv (.slice s.ta s.texts.length s.tc) s.n (.slice s.la s.picks.length s.lc)] w fun e w' => e = .returned (.bool true) ∧ PWx w' pb p gs q gg n f nn B (m + 26) ∧ Only (fun b => B ≤ b) w w' := by
  obtain ⟨S, bo, xo, t, br, D⟩ := D
  have hno := D.no
  have hxs' : ∀ x ∈ s.texts, x.size ≤ 4294967296 := fun x h => by have := hxs x h; omega
  have hr : dv % 9 = 0 ∨ dv % 9 = 1 ∨ dv % 9 = 2 ∨ dv % 9 = 3 ∨ dv % 9 = 4 ∨ dv % 9 = 5 ∨ dv % 9 = 6 ∨ dv % 9 = 7 ∨ dv % 9 = 8 := by omega
  have fin : ∀ (e : Ending) (w' : World) {S' : Dst} {bo' xo' : Option Nat} {t' : List UInt8} {br' : Bool} {m' : Nat}, m' ≤ m + 26 → (e = .returned (.bool true) ∧ PW w' pb p gs q gg n f nn S' bo' xo' t' br' B m' ∧ Only (fun b => B ≤ b) w w') → e = .returned (.bool true) ∧ PWx w' pb p gs q gg n f nn B (m + 26) ∧ Only (fun b => B ≤ b) w w' := fun e w' _ _ _ _ _ _ hle h => ⟨h.1, h.2.1.x_ hle (by omega), h.2.2⟩
  rcases hr with hr | hr | hr | hr | hr | hr | hr | hr | hr
  · cases bo with
    | none =>
      obtain rfl := hno.1 rfl
      exact (pdo_app_nil0 w pb p gs q gg n f nn S t br B m D dv _ _ _ hr).mono (fun e w' h => fin e w' (by omega) h)
    | some bb =>
      obtain ⟨xx, rfl⟩ : ∃ xx, xo = some xx := Option.ne_none_iff_exists'.1 (fun e => by cases hno.2 e)
      exact (pdo_app0 w pb p gs q gg n f nn S bb xx t br B m D (by omega) s.texts s.ta s.tc hx (by omega) hxs' dv _ _ hr).mono (fun e w' h => fin e w' (by omega) h)
  · cases bo with
    | none =>
      obtain rfl := hno.1 rfl
      exact (pdo_app_nil1 w pb p gs q gg n f nn S t br B m D dv _ _ _ hr).mono (fun e w' h => fin e w' (by omega) h)
    | some bb =>
      obtain ⟨xx, rfl⟩ : ∃ xx, xo = some xx := Option.ne_none_iff_exists'.1 (fun e => by cases hno.2 e)
      exact (pdo_app1 w pb p gs q gg n f nn S bb xx t br B m D (by omega) s.texts s.ta s.tc hx (by omega) hxs' dv _ _ hr).mono (fun e w' h => fin e w' (by omega) h)
  · cases bo with
    | none =>
      obtain rfl := hno.1 rfl
      exact (pdo_app_nil2 w pb p gs q gg n f nn S t br B m D dv _ _ _ hr).mono (fun e w' h => fin e w' (by omega) h)
    | some bb =>
      obtain ⟨xx, rfl⟩ : ∃ xx, xo = some xx := Option.ne_none_iff_exists'.1 (fun e => by cases hno.2 e)
      exact (pdo_app2 w pb p gs q gg n f nn S bb xx t br B m D (by omega) s.texts s.ta s.tc hx (by omega) hxs' dv _ _ hr).mono (fun e w' h => fin e w' (by omega) h)
  · cases bo with
    | none =>
      obtain rfl := hno.1 rfl
      exact (pdo_sync_nil w pb p gs q gg n f nn S t br B m D dv _ _ _ hd hr).mono (fun e w' h => fin e w' (by omega) h)
    | some bb =>
      obtain ⟨xx, rfl⟩ : ∃ xx, xo = some xx := Option.ne_none_iff_exists'.1 (fun e => by cases hno.2 e)
      exact (pdo_sync w pb p gs q gg n f nn S bb xx t br B m D (by omega) dv _ _ _ hr).mono (fun e w' h => fin e w' (by omega) h)
  · exact (pdo_crash w pb p gs q gg n f nn S bo xo t br B m D s.picks s.la s.lc hps dv _ _ hr).mono (fun e w' h => fin e w' (by omega) h)
  · by_cases h0 : s.n < 0
    · exact (pdo_fuse_bad w pb p gs q gg n f nn S bo xo t br B m D dv _ _ _ hr h0).mono (fun e w' h => fin e w' (by omega) h)
    · obtain ⟨k, hk⟩ : ∃ k : Nat, s.n = k := ⟨s.n.toNat, by omega⟩
      rw [hk]
      exact (pdo_fuse w pb p gs q gg n f nn S bo xo t br B m D dv _ _ k hr (by omega)).mono (fun e w' h => fin e w' (by omega) h)
  · refine (pdo_open w pb p gs q gg n f nn S bo xo t br B m D hk0 hk1 (by omega) dv _ _ _ hr).mono ?_
    rintro e w' ⟨h1, ⟨bo', xo', h2⟩, h3⟩
    exact fin e w' (by omega) ⟨h1, h2, h3⟩
  · by_cases h0 : 0 < s.texts.length
    · exact (pdo_write w pb p gs q gg n f nn S bo xo t br B m D (by omega) s.texts s.ta s.tc hx h0 _ rfl (by have := hxs _ (List.getElem_mem h0); rw [ByteArray.size_data.symm] at this; simp at this ⊢; omega) dv _ _ hr).mono (fun e w' h => fin e w' (by omega) h)
    · exact (pdo_write_none w pb p gs q gg n f nn S bo xo t br B m D (by omega) s.texts s.ta s.tc hx (by omega) dv _ _ hr).mono (fun e w' h => fin e w' (by omega) h)
  · exact (pdo_clear w pb p gs q gg n f nn S bo xo t br B m D hk0 hk1 (by omega) dv _ _ _ hr).mono (fun e w' h => fin e w' (by omega) h)
end Go.Proofs.YtmneflpjoaocbaaGreat
