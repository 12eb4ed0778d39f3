/- Deques: an act that is done whole. -/
import Derived.Test.YtmghlhngdopifaaDqU
namespace Go.Proofs.Ytmghlhngdopifaa
open Go.RowKit
set_option linter.unusedVariables false
theorem rank_bd {d : Int} {C : List Int} {acts : List PAct} {on : Option Nat} {L : List Int} {P N : Int} (h : Mach d C acts on L P N) {i : Nat} {a : PAct} (ha : acts[i]? = some a) (h0 : a.told = 0) (hk : a.kind ≤ 2) : 1 ≤ rank P a ∧ rank P a ≤ 2 * P + 12 := by
  obtain ⟨ws, cur, q, hc, ho, hs, hL, hT⟩ := h.ex
  have t0 := hc.top0
  have tP := hc.topP
  obtain ⟨kind, av, at', b, t, aw, an, nw, ii, rd, told, got⟩ := a
  simp only at h0 hk
  subst h0
  by_cases hk2 : kind = 2
  · subst hk2
    have ht := hT i _ ha rfl rfl
    cases ht with
    | s0 e => simp only at e; subst e; simp only [rank]; omega
    | s1 e ht => simp only at e; subst e; simp only [rank]; omega
    | s2 e ht hq => simp only at e; subst e; simp only [rank]; omega
    | s3 e ht hq hw hx => simp only at e; subst e; simp only [rank]; omega
    | s4 e ht hq hw hx hn => simp only at e; subst e; simp only [rank]; omega
    | s5 e ht hq hr => simp only at e; subst e; simp only [rank]; omega
  · have hon := h.kinds i _ ha rfl hk2
    subst hon
    have hown : own acts (some i) = some ⟨kind, av, at', b, t, aw, an, nw, ii, rd, 0, got⟩ := by simp only [own, ha, if_true]
    rw [hown] at ho
    obtain ⟨_, ho⟩ := ho
    simp only at ho
    rcases ho with ⟨hk0, hB, hP1, hp⟩ | ⟨hk1, hp⟩
    · subst hk0
      cases hp with
      | s0 e => simp only at e; subst e; simp only [rank]; omega
      | s1 e hb1 => simp only at e; subst e; simp only [rank]; omega
      | s2 e hb1 ht => simp only at e; subst e; simp only [rank]; omega
      | s3 e hb1 ht hw => simp only at e; subst e; simp only [rank]; omega
      | s10 e hb1 ht hw hn he => simp only at e; subst e; simp only [rank]; omega
      | s11 e hb1 ht hw hn g hi => simp only [PT, Grow] at e hb1 ht hi g; subst e; simp only [rank]; omega
      | s12 e hb1 ht hw hn g hi hr => simp only [PT, Grow] at e hb1 ht hi g; subst e; simp only [rank]; omega
      | s13 e hb1 ht hw hn g hi => simp only at e; subst e; simp only [rank]; omega
      | s20 e hb1 ht hw hn hl => simp only at e; subst e; simp only [rank]; omega
      | s21 e hb1 ht hw hn hl hv => simp only at e; subst e; simp only [rank]; omega
    · subst hk1
      cases hp with
      | s0 e hB => simp only at e; subst e; simp only [rank]; omega
      | s1 e hB hb1 => simp only at e; subst e; simp only [rank]; omega
      | s2 e hB hb1 hw => simp only at e; subst e; simp only [rank]; omega
      | s3 e hb1 hq hw => simp only at e; subst e; simp only [rank]; omega
      | s4 e hb1 hq ht => simp only at e; subst e; simp only [rank]; omega
      | s5 e hb1 hq hw ht hf => simp only at e; subst e; simp only [rank]; omega
      | s6 e hb1 hq hw ht hf hn => simp only at e; subst e; simp only [rank]; omega
      | s7 e hb1 hq ht ht' hr => simp only at e; subst e; simp only [rank]; omega
      | s8 e hb1 hq ht hi => simp only at e; subst e; simp only [rank]; omega
/-- what an act that was done whole has come to -/
def Ended (kind : Nat) (what : Nat) (val : Int) (L L' : List Int) : Prop :=
  kind = 0 ∧ what = 1 ∧ val = 0 ∧ L' = L ∨ kind = 1 ∧ what = 2 ∧ L = L' ++ [val] ∨ kind = 1 ∧ what = 3 ∧ val = 0 ∧ L = [] ∧ L' = [] ∨ kind = 2 ∧ what = 2 ∧ L = val :: L' ∨ kind = 2 ∧ (what = 3 ∨ what = 4) ∧ val = 0 ∧ L' = L
structure Whole (K : List Int → PAct → Prop) (w : World) (B m d z : Nat) (ps : List Nat) (acts : List PAct) (on : Option Nat) (i : Nat) (kind : Nat) (n : Int) (L : List Int) (P N : Int) (what : Nat) (val : Int) (w' : World) : Prop where
  last : ∃ Cf bf, K Cf bf ∧ Mach z Cf (acts.set i bf) on L P N ∧ bf.told = 0 ∧ bf.kind = kind ∧ what = (pstep z Cf bf).what ∧ what ≠ 0
  only : Only (fun x => B ≤ x) w w'
  far : Far w w'
  ex : ∃ v' n' C' a' L', n' ≤ n + 5000 ∧ MachW w' B m d z n' v' C' ps (acts.set i a') on ∧ Mach z C' (acts.set i a') on L' P N ∧ Ended kind what val L L' ∧ a'.told ≠ 0 ∧ a'.kind = kind
set_option maxHeartbeats 1000000 in
set_option maxRecDepth 100000 in
theorem whole_with (K : List Int → PAct → Prop) (B m d z p i : Nat) (n : Int) (v : Value) (C : List Int) (ps : List Nat) (acts : List PAct) (on : Option Nat) (L : List Int) (P N : Int) (a : PAct) (w : World) (hW : MachW w B m d z n v C ps acts on) (hM : Mach z C acts on L P N) (hP : P ≤ 1000) (hN : N ≤ 10000) (hz : z ≤ 1000)
    (hn : n ≤ 4000000000000000000) (ha : acts[i]? = some a) (hp : ps[i]? = some p) (h0 : a.told = 0) (hk : a.kind ≤ 2) (hK0 : K C a) (hKs : ∀ C' b, K C' b → b.told = 0 → b.kind = a.kind → (pstep z C' b).what = 0 → K (pstep z C' b).C (pstep z C' b).a) :
    Calls Try.prog 14 #[.pointer (some ⟨p, 0, none⟩)] w fun e w' => ∃ (what : Nat) (val : Int), e = .returned (.tuple #[.int .u8 (what : Int), .int .i64 val, .bool true]) ∧ Whole K w B m d z ps acts on i a.kind n L P N what val w' := by
  have hr := rank_bd hM ha h0 hk
  have HW := Lib.hid hW
  have HM := Lib.hid hM
  have HA := Lib.hid ha
  have HP' := Lib.hid hp
  have H0 := Lib.hid h0
  have hset : acts.set i a = acts := by
    apply List.ext_getElem?
    intro j
    by_cases hj : j = i
    · subst hj; rw [getElem?_set_same ha, ha]
    · rw [getElem?_set_other hj]
  have HS := Lib.hid hset
  clear hW hM ha hp h0 hset
  go_enter Try.func14, Try.ntmps14
  go_wp2_with fail
  go_loopw [5] (fun s y => ∃ (k : Nat) (b : PAct) (v1 : Value) (n1 : Int) (C1 : List Int), s = .int .i64 k ∧ (k : Int) + rank P b ≤ 4999 ∧ n1 ≤ n + k ∧ MachW y B m d z n1 v1 C1 ps (acts.set i b) on ∧ Mach z C1 (acts.set i b) on L P N ∧ b.told = 0 ∧ b.kind = a.kind ∧ K C1 b ∧ Only (fun x => B ≤ x) w y ∧ Far w y) (fun s _ => 5000 - (intOf s).toNat)
  case atStart => exact ⟨0, a, v, n, C, rfl, by omega, by omega, by rw [HS.out]; exact HW.out, by rw [HS.out]; exact HM.out, H0.out, rfl, hK0, Only.refl _ _, Far.refl _⟩
  case round =>
    obtain ⟨yr, rfl⟩ : ∃ yr, yr = wr := ⟨_, rfl⟩
    obtain ⟨k, b, v1, n1, C1, rfl, hk1, hn1, w1, m1, b0, bk, kk, o1, f1⟩ := hrel
    have HLAST := Lib.hid (And.intro kk m1)
    have HKN := Lib.hid (hKs C1 b kk b0 bk)
    have HB0 := Lib.hid b0
    have hgb : (acts.set i b)[i]? = some b := getElem?_set_same HA.out
    have hrb := rank_bd m1 hgb b0 (by omega)
    have hstep := mstep_any B m d z p i n1 v1 C1 ps _ on L P N b yr w1 m1 hP hN hz (by omega) hgb HP'.out b0
    have HST := Lib.hid hstep
    have HO := Lib.hid o1
    have HF := Lib.hid f1
    have HBK := Lib.hid bk
    have hlt : (k : Int) < 5000 := by omega
    have hcnt : cnt b ≤ 1 := by unfold cnt; split <;> omega
    clear w1 m1 hstep o1 f1 hgb bk kk
    go_wp2_with fail
    refine HST.out.mono ?_
    rintro e y2 ⟨rfl, ⟨o2, f2⟩, v2, L2, w2, m2, c2, k2, r2⟩
    have W2 := Lib.hid w2
    have M2 := Lib.hid m2
    have C2 := Lib.hid c2
    have K2 := Lib.hid k2
    have O2 := Lib.hid (HO.out.trans o2)
    have F2 := Lib.hid (HF.out.trans f2)
    clear w2 m2 c2 k2 o2 f2
    generalize hr9 : pstep z C1 b = r at *
    have HR9 := Lib.hid hr9
    clear hr9
    by_cases hw : r.what = 0
    · have hw' : ((r.what : Nat) : Int) = 0 := by omega
      have hr2 := r2 hw
      have hc : r.a.told = 0 ∧ L2 = L := by
        rcases C2.out with ⟨_, _, e1, e2⟩ | ⟨_, e | e | e | e | e⟩
        · exact ⟨e1, e2⟩
        all_goals omega
      have HCC := Lib.hid hc
      have hn2 := hn1
      clear r2 hc
      go_wp2_with fail
      go_roundw
      case rel =>
        refine ⟨k + 1, r.a, v2, _, r.C, by go_num, by omega, ?_, by have := W2.out; rwa [List.set_set] at this, by have := M2.out; rw [List.set_set, HCC.out.2] at this; exact this, HCC.out.1, K2.out.trans HBK.out, HKN.out hw, O2.out, F2.out⟩
        push_cast
        omega
      case measure => simp [intOf]; omega
    · have hw' : ¬ ((r.what : Nat) : Int) = 0 := by omega
      clear r2
      go_wp2_with fail
      go_ret3
      refine ⟨r.what, r.val, rfl, ⟨C1, b, HLAST.out.1, HLAST.out.2, HB0.out, HBK.out, by rw [HR9.out], hw⟩, O2.out, F2.out, v2, _, r.C, r.a, L2, ?_, by have := W2.out; rwa [List.set_set] at this, by have := M2.out; rwa [List.set_set] at this, ?_, ?_, K2.out.trans HBK.out⟩
      · omega
      · rcases C2.out with ⟨e, _⟩ | ⟨_, e⟩
        · exact absurd e hw
        · rw [HBK.out] at e
          exact e
      · rcases C2.out with ⟨e, _⟩ | ⟨e, _⟩
        · exact absurd e hw
        · rw [e]; exact hw
end Go.Proofs.Ytmghlhngdopifaa
