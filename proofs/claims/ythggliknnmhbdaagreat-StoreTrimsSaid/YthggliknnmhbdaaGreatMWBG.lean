/- Several texts in one: StK. -/
import Derived.Test.YthggliknnmhbdaaGreatMWBF
import Derived.Test.YthggliknnmhbdaaGreatMStoreW
/- StoreTrims: its walk. No conditions beyond what each states. -/
namespace Go.Proofs.YthggliknnmhbdaaGreat
open Go.RowKit
set_option linter.unusedVariables false
/-- what stands in the midst of each round -/
def LM (p gs B m j : Nat) (w y : World) (sp : Nat) : Prop := ∃ (k o g bb : Nat) (u : ByteArray) (rs : List ByteArray) (T : List (List UInt8)), k + o = 1 ∧ 1 ≤ g ∧ g ≤ j + 1 ∧ u.size ≤ 65536 ∧ (∀ x ∈ hdB g u :: rs, x.size ≤ 131072) ∧ (frsB (hdB g u :: rs)).length ≤ 1270 ∧ T.length = 10 ∧
  DiskIs p gs B m (if k = 0 then sectorsL (frsB (hdB g u :: rs)) 10 ++ T else T ++ sectorsL (frsB (hdB g u :: rs)) 10) y ∧ BookB y bb p (k * 10 : Nat) (10 : Nat) (sB (frsB (hdB g u :: rs))) false ∧ B ≤ bb ∧ StoW y sp p bb k g ∧ B ≤ sp ∧ Only (fun b => B ≤ b) w y
/-- what stands at the head of each round -/
abbrev LI (p gs B j : Nat) (w y : World) (sp : Nat) : Prop := LM p gs B (1000 + 1000 * j) j w y sp
theorem LM.more {p gs B m m' j j' : Nat} {w y : World} {sp : Nat} (h : LM p gs B m j w y sp) (h1 : m ≤ m') (h2 : m' ≤ 1000000) (h3 : j ≤ j') : LM p gs B m' j' w y sp := by
  obtain ⟨k, o, g, bb, u, rs, T, a1, a2, a3, a4, a5, a6, a7, a8, a9⟩ := h
  exact ⟨k, o, g, bb, u, rs, T, a1, a2, by omega, a4, a5, a6, a7, a8.more h1 h2, a9⟩
theorem LM.only {p gs B m j : Nat} {w y y' : World} {sp : Nat} (h : LM p gs B m j w y sp) (o' : Only (fun _ => False) y y') : LM p gs B m j w y' sp := by
  obtain ⟨k, o, g, bb, u, rs, T, a1, a2, a3, a4, a5, a6, a7, a8, a9, a10, a11, a12, a13⟩ := h
  exact ⟨k, o, g, bb, u, rs, T, a1, a2, a3, a4, a5, a6, a7, a8.only o', o'.blk a9 (fun h => h), a10, o'.blk a11 (fun h => h), a12, a13.trans (o'.mono fun _ h => h.elim)⟩
/-- an Append in the midst of a round -/
theorem app_LM (p gs B m j : Nat) (w y : World) (sp : Nat) (h : LM p gs B m j w y sp) (x : ByteArray) (A : Option Addr) (c : Nat) (hr : ∀ bb W, (∃ cs, Blk y bb 72 cs) → FarX (fun b => b = bb) y W → TextRow W A [x]) (hx : x.size ≤ 1024) (hm : m + 10000 ≤ 1000000) :
    Calls Tryz.prog 8 #[.pointer (some ⟨sp, 0, none⟩), .slice A 1 c] y fun e w' => ∃ r, (r = 0 ∨ r = 6) ∧ e = .returned (.int .i64 r) ∧ LM p gs B (m + 12) j w w' sp := by
  obtain ⟨k, o, g, bb, u, rs, T, a1, a2, a3, a4, a5, a6, a7, a8, a9, a10, a11, a12, a13⟩ := h
  have key : ∀ (X Y : List (List UInt8)), X.length = k * 10 → (∀ xs, (if k = 0 then sectorsL (frsB xs) 10 ++ T else T ++ sectorsL (frsB xs) 10) = X ++ sectorsL (frsB xs) 10 ++ Y) →
      Calls Tryz.prog 8 #[.pointer (some ⟨sp, 0, none⟩), .slice A 1 c] y fun e w' => ∃ r, (r = 0 ∨ r = 6) ∧ e = .returned (.int .i64 r) ∧ LM p gs B (m + 12) j w w' sp := fun X Y hX hL => by
    rw [hL] at a8
    refine (stapp_ok p gs sp k g bb X Y (hdB g u :: rs) x A c B m y a8 hX (by omega) a9 a10 a11 a12 (fun W hW => hr bb W ⟨_, a9⟩ hW) hx a6 hm).mono ?_
    rintro e w' ⟨r, xs', h1, h2, h3, h4⟩
    refine ⟨r, h1, h2, ?_⟩
    rcases h3 with rfl | rfl
    · refine ⟨k, o, g, bb, u, rs, T, a1, a2, a3, a4, a5, h4.l, a7, ?_, h4.b, a10, h4.s, a12, a13.trans h4.only⟩
      rw [hL]
      exact h4.d
    · refine ⟨k, o, g, bb, u, rs ++ [x], T, a1, a2, a3, a4, fun z hz => ?_, h4.l, a7, ?_, h4.b, a10, h4.s, a12, a13.trans h4.only⟩
      · rcases List.mem_append.1 (show z ∈ (hdB g u :: rs) ++ [x] from hz) with h | h
        · exact a5 z h
        · rw [List.mem_singleton.1 h]; omega
      · rw [show hdB g u :: (rs ++ [x]) = (hdB g u :: rs) ++ [x] from rfl, hL]
        exact h4.d
  by_cases hk : k = 0
  · exact key [] T (by simp [hk]) (fun xs => by rw [if_pos hk, List.nil_append])
  · exact key T [] (by omega) (fun xs => by rw [if_neg hk, List.append_nil])
theorem hdB_small (g : Nat) (s : ByteArray) (hs : s.size ≤ 65536) : (hdB g s).size ≤ 131072 := by
  have h1 := hdB_size g s
  have h2 := enc9_len g
  have h3 := enc9_len s.size
  omega
theorem fit_empty : fsize (hdB 1 ⟨#[]⟩).size ≤ 1270 := by
  have h1 := hdB_size 1 ⟨#[]⟩
  have h2 := enc9_len 1
  have h3 := enc9_len (⟨#[]⟩ : ByteArray).size
  have h4 : (⟨#[]⟩ : ByteArray).size = 0 := rfl
  have h5 := vsize_le (hdB 1 ⟨#[]⟩).size
  unfold fsize
  omega
theorem frs_one (h : ByteArray) (hh : h.size ≤ 131072) (hf : fsize h.size ≤ 1270) : (frsB [h]).length ≤ 1270 := by
  rw [frsB_len [h] (fun x hx => by rw [List.mem_singleton.1 hx]; exact hh)]
  simpa [fsz] using hf
theorem fitR_zero {g : Nat} {t : ByteArray} (h : fitR g t = 0) : fsize (hdB g t).size ≤ 1270 := by
  unfold fitR at h
  by_cases h1 : 1270 < fsize (hdB g t).size
  · rw [if_pos h1] at h; simp at h
  · omega
theorem fitR_or (g : Nat) (t : ByteArray) : fitR g t = 6 ∨ fitR g t = 0 := by
  unfold fitR
  by_cases h1 : 1270 < fsize (hdB g t).size
  · rw [if_pos h1]; exact .inl rfl
  · rw [if_neg h1]; exact .inr rfl
/-- behind a round's Trim and Open -/
structure RP (p gs B m o g sp b2 s2 b3 : Nat) (hd : ByteArray) (w y : World) : Prop where
  li : ∀ j, j ≤ 100 → g ≤ j + 1 → m ≤ 1000 + 1000 * (j + 1) → LI p gs B (j + 1) w y s2
  s1 : StoW y sp p b2 o (g + 1)
  k1 : BookB y b2 p (o * 10 : Nat) (10 : Nat) (sB (frsB [hd])) false
  s2 : StoW y s2 p b3 o (g + 1)
  k2 : BookB y b3 p (o * 10 : Nat) (10 : Nat) (sB (frsB [hd])) false
set_option maxRecDepth 100000 in
theorem trim_open (p gs B m k o g sp bb b2 : Nat) (t u : ByteArray) (rs : List ByteArray) (X Y : List (List UInt8)) (w y y1 : World) (ho : k + o = 1) (hw : Only (fun b => B ≤ b) w y)
    (hTP : TrimP p gs sp o g (hdB (g + 1) t) X Y B m b2 y y1) (hXY : (o = 0 ∧ X = [] ∧ Y = sectorsL (frsB (hdB g u :: rs)) 10) ∨ (o = 1 ∧ X = sectorsL (frsB (hdB g u :: rs)) 10 ∧ Y = []))
    (hg1 : 1 ≤ g) (hg2 : g ≤ 1000) (hu : u.size ≤ 65536) (ht : t.size ≤ 1024) (hx : ∀ x ∈ hdB g u :: rs, x.size ≤ 131072) (hl : (frsB (hdB g u :: rs)).length ≤ 1270) (hfit : fitR (g + 1) t = 0) (hm : m + 30000 ≤ 1000000) (hsp : B ≤ sp) :
    Calls Tryz.prog 6 #[.pointer (some ⟨p, 0, none⟩)] y1 fun e w' => ∃ s2 b3 A c, e = .returned (.tuple #[.pointer (some ⟨s2, 0, none⟩), .string t, .slice A 0 c, .int .i64 0]) ∧ RP p gs B (m + 84) o g sp b2 s2 b3 (hdB (g + 1) t) w w' := by
  have hf1 := frs_one (hdB (g + 1) t) (hdB_small _ _ (by omega)) (fitR_zero hfit)
  have hx1 : ∀ x ∈ [hdB (g + 1) t], x.size ≤ 131072 := fun x h => by rw [List.mem_singleton.1 h]; exact hdB_small _ _ (by omega)
  have fin : ∀ (w' : World) (s2 b3 : Nat) (L : List (List UInt8)), L = X ++ sectorsL (frsB [hdB (g + 1) t]) 10 ++ Y → SOp p gs B (m + 84) o (g + 1) [hdB (g + 1) t] L s2 b3 y1 w' → RP p gs B (m + 84) o g sp b2 s2 b3 (hdB (g + 1) t) w w' := fun w' s2 b3 L hL h => by
    refine ⟨fun j hj100 hj hmj => ?_, h.far.blk _ _ _ hTP.s nDT_store, h.far.blk _ _ _ hTP.b nDT_book, h.s, h.b⟩
    have hd := h.d
    rcases hXY with ⟨e1, e2, e3⟩ | ⟨e1, e2, e3⟩
    · refine ⟨o, k, g + 1, b3, t, [], sectorsL (frsB (hdB g u :: rs)) 10, by omega, by omega, by omega, by omega, hx1, hf1, sectorsL_len _ _, ?_, h.b, h.newb, h.s, h.new, (hw.trans hTP.only).trans h.only⟩
      rw [if_pos e1]
      rw [hL, e2, e3, List.nil_append] at hd
      exact DiskIs.more (m := m + 84) (m' := 1000 + 1000 * (j + 1)) hd hmj (by omega)
    · refine ⟨o, k, g + 1, b3, t, [], sectorsL (frsB (hdB g u :: rs)) 10, by omega, by omega, by omega, by omega, hx1, hf1, sectorsL_len _ _, ?_, h.b, h.newb, h.s, h.new, (hw.trans hTP.only).trans h.only⟩
      rw [if_neg (by omega)]
      rw [hL, e2, e3, List.append_nil] at hd
      exact DiskIs.more (m := m + 84) (m' := 1000 + 1000 * (j + 1)) hd hmj (by omega)
  rcases hXY with ⟨e1, e2, e3⟩ | ⟨e1, e2, e3⟩
  · have hD := hTP.d
    have hL : X ++ sectorsL (frsB [hdB (g + 1) t]) 10 ++ Y = sectorsL (frsB [hdB (g + 1) t]) 10 ++ sectorsL (frsB (hdB g u :: rs)) 10 := by rw [e2, e3, List.nil_append]
    rw [hL] at hD
    refine (sopen_ok p gs B m (g + 1) g o (g + 1) t u t [] rs [] [hdB (g + 1) t] (hdB g u :: rs) [hdB (g + 1) t] _ y1 hD rfl rfl (.inr rfl) hx1 hx hf1 hl (by omega) (by omega) (by omega) hu (by omega) (.inl ⟨e1, rfl, rfl, rfl, rfl, .inr (by omega)⟩)).mono ?_
    rintro e w' ⟨s2, b3, A, c, he, h⟩
    exact ⟨s2, b3, A, c, he, fin w' s2 b3 _ hL.symm h⟩
  · have hD := hTP.d
    have hL : X ++ sectorsL (frsB [hdB (g + 1) t]) 10 ++ Y = sectorsL (frsB (hdB g u :: rs)) 10 ++ sectorsL (frsB [hdB (g + 1) t]) 10 := by rw [e2, e3, List.append_nil]
    rw [hL] at hD
    refine (sopen_ok p gs B m g (g + 1) o (g + 1) u t t rs [] [] (hdB g u :: rs) [hdB (g + 1) t] [hdB (g + 1) t] _ y1 hD rfl rfl (.inr rfl) hx hx1 hl hf1 (by omega) (by omega) hu (by omega) (by omega) (.inr ⟨e1, rfl, rfl, rfl, rfl, rfl, by omega⟩)).mono ?_
    rintro e w' ⟨s2, b3, A, c, he, h⟩
    exact ⟨s2, b3, A, c, he, fin w' s2 b3 _ hL.symm h⟩
end Go.Proofs.YthggliknnmhbdaaGreat
