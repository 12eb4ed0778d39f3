/- Appends to slices; bytes as a string. No conditions. -/
import Derived.Test.YtlpnhikoipkjbaaAbsM
import Derived.Laws.AppendOwn
import Derived.Lib.Builder
import Derived.Lib.UnsafeStr
set_option linter.unusedVariables false
namespace Go.Proofs.Ytlpnhikoipkjbaa.Abs
open Go Go.RowKit
section
variable {P : Program} {ρ : Ren}
theorem run_bytesA0 {n : Pos} {g : Hp} {w : World} {s d : TypeId} {x v : AV} {u : Value} (hg : Good ρ n g w) (h : bytesA0 P s d x g = some v) (hx : conc ρ x = some u) :
    ∃ y, conc ρ v = some y ∧ (convert s d u).run P w = .ok y w := by
  unfold bytesA0 at h
  split at h
  · rename_i e hs hd
    split at h
    · rename_i he
      injection h with h; subst h
      cases hx
      refine ⟨_, str_conc rfl, ?_⟩
      rw [run_convert_bytes_string w s d e _ 0 0 hs he hd]
      simp [Conv.bytesToString]
      rfl
    · rename_i he
      injection h with h; subst h
      obtain ⟨a, c, rfl⟩ := conc_slz' hx
      refine ⟨_, str_conc rfl, ?_⟩
      rw [run_convert_bytes_string w s d e _ 0 c hs he hd]
      rw [run_bytesToString w a 0 c [] (by simp [loadCells, loadCellsFrom])]
      rfl
    · rename_i b o ln c ex he
      split at h
      · rename_i l hl
        split at h
        · rename_i r hr
          injection h with h; subst h
          obtain ⟨us, h1, h2⟩ := run_firstA (P := P) hg hl hx
          obtain ⟨k, dd, xx, hb, rfl⟩ := conc_slc hx
          obtain ⟨h3, h4⟩ := byteL_conc (ρ := ρ) hr
          rw [h1] at h4
          injection h4 with h4
          subst h4
          refine ⟨_, str_conc h3, ?_⟩
          simp only [Builtin.firstCells, Nat.mul_one] at h2
          rw [run_convert_bytes_string w s d e _ ln _ hs he hd, run_bytesToString w _ ln _ _ h2, foldl_push_bytes]
          have e1 : (ByteArray.empty.data ++ (List.map (fun n : Int => UInt8.ofNat n.toNat) (List.map Int.ofNat r)).toArray) = (r.map UInt8.ofNat).toArray := by
            have e2 : ByteArray.empty.data = #[] := rfl
            rw [e2]
            simp [Function.comp_def]
          rw [e1]
          rfl
        · cases h
      · cases h
    · cases h
  · cases h
theorem run_unsA {n : Pos} {g : Hp} {w : World} {s d : TypeId} {x v : AV} {u : Value} (hg : Good ρ n g w) (h : unsA P s d x g = some v) (hx : conc ρ x = some u) :
    ∃ y, conc ρ v = some y ∧ (convert s d u).run P w = .ok y w := by
  have size_of : ∀ {t z}, sizeT P t = some z → ∃ j, P.info? t = some j ∧ j.size = z := fun {t z} hz => by
    unfold sizeT at hz
    split at hz
    · rename_i i hi; injection hz with hz; exact ⟨i, hi, hz⟩
    · cases hz
  unfold unsA at h
  split at h
  · rename_i t b o hs hd
    split at h
    · rename_i cs m df es e z hb hz
      split at h
      · rename_i ho
        injection h with h; subst h
        rw [Nat.blt_eq] at ho
        obtain ⟨kk, dd, xx, cc, ty, fz, h1, h2, h3, h4⟩ := hg.cell hb
        obtain ⟨k', d', x', h1', rfl⟩ := conc_ptr hx
        rw [h1] at h1'; injection h1' with h1'; injection h1' with t1 t2; injection t2 with t2 t3
        subst t1; subst t2
        obtain ⟨j, hj, hjz⟩ := size_of hz
        obtain ⟨v', y', f1, f2, f3, f4⟩ := h3.1 o ho
        have hlt := (Array.getElem?_eq_some_iff.1 f3).1
        exact ⟨_, hx, Lib.run_to_unsafe w ⟨kk, dd + o, none⟩ hs hd hj (by omega) (show w.shape? kk = some (ty, cc.size) by simp [World.shape?, h2]) hlt⟩
      · cases h
    · cases h
  · rename_i t b o hs hd
    split at h
    · rename_i cs m df es e z hb hz
      split at h
      · rename_i ho
        injection h with h; subst h
        obtain ⟨kk, dd, xx, cc, ty, fz, h1, h2, h3, h4⟩ := hg.cell hb
        obtain ⟨k', d', x', h1', rfl⟩ := conc_ptr hx
        rw [h1] at h1'; injection h1' with h1'; injection h1' with t1 t2; injection t2 with t2 t3
        subst t1; subst t2
        obtain ⟨j, hj, hjz⟩ := size_of hz
        obtain ⟨rfl, rfl⟩ := h3.2.2 e rfl
        have hm : m ≤ cc.size := by
          rcases Nat.lt_or_ge cc.size m with hlt | hge
          · obtain ⟨v', y', f1, f2, f3, f4⟩ := h3.1 cc.size hlt
            have := (Array.getElem?_eq_some_iff.1 f3).1
            omega
          · exact hge
        refine ⟨_, hx, Lib.run_from_unsafe w ⟨kk, 0 + o, none⟩ hs hd hj (show w.shape? kk = some (ty, cc.size) by simp [World.shape?, h2]) ?_⟩
        simp only [Nat.zero_add]
        exact liesAt_mono _ _ _ _ (Nat.div_le_div_right hm) ho
      · cases h
    · cases h
  · cases h
theorem run_bytesA {n : Pos} {g : Hp} {w : World} {s d : TypeId} {x v : AV} {u : Value} (hg : Good ρ n g w) (h : bytesA P s d x g = some v) (hx : conc ρ x = some u) :
    ∃ y, conc ρ v = some y ∧ (convert s d u).run P w = .ok y w := by
  unfold bytesA at h
  split at h
  · rename_i v' hv; rw [h] at hv; exact run_bytesA0 hg hv hx
  · exact run_unsA hg h hx
def notInt (P : Program) (t : TypeId) : Bool := match P.underlying t with | some (.int _) => false | some _ => true | none => false
theorem run_notInt {t : TypeId} (h : notInt P t = true) : ∃ d, P.underlying t = some d ∧ ∀ k, d ≠ .int k := by
  unfold notInt at h
  split at h
  · cases h
  · rename_i d h2 hd; exact ⟨d, hd, fun k e => h2 k e⟩
  · cases h
/-- what is appended: the cells of a slice, of a string; or so many zeros -/
def SrcOk (P : Program) (u : TypeId) (i : TypeInfo) (m : Nat) (ux : Value) (news : Array Value) (w : World) : Prop :=
  (notInt P u = true ∧ (∀ w, (Builtin.lenOf ux).run P w = .ok m w) ∧ (Builtin.firstCells i.size m ux).run P w = .ok news w) ∨
  ∃ kk kd zv, P.underlying u = some (.int kk) ∧ ux = .int kd (m : Int) ∧ m ≤ 1048576 ∧ (m : Int) * i.bytes ≤ 281474976710656 ∧ i.zero = some zv ∧ zv.cells.size = i.size ∧ news = Builtin.zeroCells zv.cells m
theorem wrap_small {m : Nat} (h : m ≤ 1048576) : IntKind.i64.wrap (m : Int) = m := by
  rw [IntKind.wrap_i64]; omega
theorem app_room {t u ty e : TypeId} {i : TypeInfo} {sLen sCap m : Nat} {a : Addr} {ux : Value} {news : Array Value} {w w' : World} (hu : P.underlying t = some (.slice e)) (hi : P.info? e = some i)
    (hs : SrcOk P u i m ux news w) (hc : sLen + m ≤ sCap) (hst : (storeCells (a.add (sLen * i.size)) news.toList).run P w = .ok () w') :
    (Builtin.append_ #[t, u] ty #[.slice (some a) sLen sCap, ux]).run P w = .ok (.slice (some a) (sLen + m) sCap) w' := by
  rcases hs with ⟨hn, hl, hf⟩ | ⟨kk, kd, zv, hd, rfl, hm, hby, hzv, hzs, rfl⟩
  · obtain ⟨d, hd, hk⟩ := run_notInt hn
    simp [Builtin.append_, run_underlying hu, run_underlying hd, sizeOf, typeInfo, hi, hl, hc, hf, hst]
  · have h1 : ¬ (281474976710656 < (m : Int) * (i.bytes : Int)) := by omega
    have h2 : ¬ ((m : Int) < 0) := by omega
    have hst' : (storeCells (a.add (sLen * i.size)) (Builtin.zeroCells zv.cells m).toList).run P w = .ok () w' := hst
    by_cases h0 : m * i.size = 0
    · have hz : (Builtin.zeroCells zv.cells m).toList = [] := by
        apply List.eq_nil_of_length_eq_zero
        simp [Builtin.zeroCells, hzs, h0]
      rw [hz] at hst'
      simp [Builtin.append_, run_underlying hu, run_underlying hd, sizeOf, typeInfo, hi, hc, asInt, asIntOf, wrap_small hm, h1, h2, h0, hst']
    · simp [Builtin.append_, run_underlying hu, run_underlying hd, sizeOf, typeInfo, hi, hc, asInt, asIntOf, wrap_small hm, h1, h2, h0, zeroValue, hzv, hst']
theorem app_nothing {t u ty e : TypeId} {i : TypeInfo} {sLen sCap : Nat} {a : Option Addr} {ux : Value} {w : World} (hu : P.underlying t = some (.slice e)) (hi : P.info? e = some i)
    (hs : SrcOk P u i 0 ux #[] w) (hc : sLen ≤ sCap) :
    (Builtin.append_ #[t, u] ty #[.slice a sLen sCap, ux]).run P w = .ok (.slice a sLen sCap) w := by
  rcases hs with ⟨hn, hl, hf⟩ | ⟨kk, kd, zv, hd, rfl, hm, hby, hzv, hzs, _⟩
  · obtain ⟨d, hd, hk⟩ := run_notInt hn
    cases a <;> simp [Builtin.append_, run_underlying hu, run_underlying hd, sizeOf, typeInfo, hi, hl, hc, hf, storeCells]
  · have hw : IntKind.i64.wrap 0 = 0 := by decide
    cases a <;> simp [Builtin.append_, run_underlying hu, run_underlying hd, sizeOf, typeInfo, hi, hc, asInt, asIntOf, hw, storeCells]
theorem app_grow {t u ty e : TypeId} {i : TypeInfo} {zv : Value} {sLen sCap m : Nat} {a : Option Addr} {ux : Value} {olds news : Array Value} {w : World} (hu : P.underlying t = some (.slice e)) (hi : P.info? e = some i) (hzv : i.zero = some zv)
    (hs : SrcOk P u i m ux news w.drew) (hc : sCap < sLen + m) (hb : (sLen + m) * i.bytes ≤ 140737488355328) (h63 : sLen + m ≤ 9223372036854775807)
    (ho : (Builtin.firstCells i.size sLen (.slice a sLen sCap)).run P w.drew = .ok olds w.drew) :
    (Builtin.append_ #[t, u] ty #[.slice a sLen sCap, ux]).run P w =
      .ok (.slice (some ⟨w.heap.size, 0, none⟩) (sLen + m) (grownCap w (sLen + m) sCap e)) (w.drew.alloc (.cells (olds ++ news ++ Builtin.zeroCells zv.cells (grownCap w (sLen + m) sCap e - (sLen + m))) e)) := by
  have h1 : ¬ (sLen + m ≤ sCap) := by omega
  have h2 : ¬ (281474976710656 < Builtin.nextslicecap (sLen + m) sCap * i.bytes) := by have := growslice_fits hc hb; omega
  have h3 : ¬ (9223372036854775807 < ((sLen : Int) + (m : Int))) := by omega
  rcases hs with ⟨hn, hl, hf⟩ | ⟨kk, kd, zv', hd, rfl, hm, hby, hzv', hzs, rfl⟩
  · obtain ⟨d, hd, hk⟩ := run_notInt hn
    simp [Builtin.append_, run_underlying hu, run_underlying hd, sizeOf, typeInfo, zeroValue, hi, hzv, hl, h1, h2, h3, Question.forced, ho, hf, newRow, grownCap]
  · rw [hzv] at hzv'; injection hzv' with hzv'; subst hzv'
    have h4 : ¬ (281474976710656 < (m : Int) * (i.bytes : Int)) := by omega
    have h5 : ¬ ((m : Int) < 0) := by omega
    by_cases h0 : m * i.size = 0
    · have hz : Builtin.zeroCells zv.cells m = #[] := by
        apply Array.eq_empty_of_size_eq_zero
        simp [Builtin.zeroCells, hzs, h0]
      simp [Builtin.append_, run_underlying hu, run_underlying hd, sizeOf, typeInfo, zeroValue, hi, hzv, asInt, asIntOf, wrap_small hm, h1, h2, h3, h4, h5, hz, Question.forced, ho, newRow, grownCap]
    · simp [Builtin.append_, run_underlying hu, run_underlying hd, sizeOf, typeInfo, zeroValue, hi, hzv, asInt, asIntOf, wrap_small hm, h1, h2, h3, h4, h5, h0, Question.forced, ho, newRow, grownCap]
def srcN (P : Program) (u : TypeId) (x : AV) : Option Nat :=
  match notInt P u with
  | true => lenL x
  | false => (match P.underlying u, x with | some (.int _), .int _ (.ofNat m) => if m ≤ 1048576 then some m else none | _, _ => none)
noncomputable def srcL (P : Program) (u e : TypeId) (i : TypeInfo) (m : Nat) (x : AV) (g : Hp) : Option (List AV) :=
  match notInt P u with
  | true => firstA i.size m x g
  | false => (match zeroA P e with | some (z :: zs) => some (cycA (z :: zs) (m * i.size)) | _ => none)
theorem src_ok {n : Pos} {g : Hp} {w : World} {u e : TypeId} {i : TypeInfo} {zv : Value} {m : Nat} {x : AV} {ux : Value} {news : List AV} (hg : Good ρ n g w) (hi : P.info? e = some i) (hzv : i.zero = some zv) (hzs : zv.cells.size = i.size) (hby : (m : Int) * i.bytes ≤ 281474976710656)
    (hm : srcN P u x = some m) (h : srcL P u e i m x g = some news) (hx : conc ρ x = some ux) : ∃ xs, concs ρ news = some xs ∧ SrcOk P u i m ux xs.toArray w ∧ SrcOk P u i m ux xs.toArray w.drew := by
  unfold srcN at hm
  unfold srcL at h
  split at hm
  · rename_i hn
    rw [hn] at h
    simp only at h
    obtain ⟨us, h1, h2⟩ := run_firstA (P := P) hg h hx
    obtain ⟨us', h3, h4⟩ := run_firstA (P := P) (hg.drew (w.drawn + 1)) h hx
    rw [h1] at h3
    injection h3 with h3
    subst h3
    exact ⟨us, h1, .inl ⟨hn, run_lenL hm hx, h2⟩, .inl ⟨hn, run_lenL hm hx, h4⟩⟩
  · rename_i hn
    rw [hn] at h
    simp only at h
    split at hm
    · rename_i kk kd m' hu
      split at hm
      · rename_i hle
        injection hm with hm; subst hm
        split at h
        · rename_i z zs hz
          injection h with h; subst h
          obtain ⟨i', zv', hi', hzv', hc⟩ := zeroA_conc (ρ := ρ) hz
          rw [hi] at hi'; injection hi' with hi'; subst hi'
          rw [hzv] at hzv'; injection hzv' with hzv'; subst hzv'
          have hcc := cycA_conc hc (by simp) (m' * i.size)
          have hx' := conc_int hx
          have he : (madeCells zv.cells (m' * i.size)).toList.toArray = Builtin.zeroCells zv.cells m' := by
            rw [Array.toArray_toList]
            unfold madeCells Builtin.zeroCells
            rw [hzs]
          refine ⟨_, hcc, ?_⟩
          rw [he]
          exact ⟨.inr ⟨kk, kd, zv, hu, hx', hle, hby, hzv, hzs, rfl⟩, .inr ⟨kk, kd, zv, hu, hx', hle, hby, hzv, hzs, rfl⟩⟩
        · cases h
      · cases hm
    · cases hm
theorem src_none {n : Pos} {g : Hp} {w : World} {u e : TypeId} {i : TypeInfo} {zv : Value} {x : AV} {ux : Value} (hg : Good ρ n g w) (hi : P.info? e = some i) (hzv : i.zero = some zv) (hzs : zv.cells.size = i.size)
    (hm : srcN P u x = some 0) (hx : conc ρ x = some ux) : SrcOk P u i 0 ux #[] w := by
  unfold srcN at hm
  split at hm
  · rename_i hn
    exact .inl ⟨hn, run_lenL hm hx, firstA_zero (g := g) hm w hx⟩
  · split at hm
    · rename_i kk kd m' hu
      split at hm
      · injection hm with hm; subst hm
        have hx' := conc_int hx
        exact .inr ⟨kk, kd, zv, hu, hx', by omega, by simp, hzv, hzs, by simp [Builtin.zeroCells, Array.range]⟩
      · cases hm
    · cases hm
/-- the heap where an old name gives way to a new one of the same block -/
theorem Good.rename {n : Pos} {g : Hp} {w w' : World} (hg : Good ρ n g w) {b : Pos} {ao ao' : AO} {k d x d' x' : Nat} {o : Obj} (hb : g b = some ao) (hk : ρ.at_ b = some (k, d, x))
    (hw : w'.heap[k]? = some o) (hrest : ∀ q, q ≠ k → w'.heap[q]? = w.heap[q]?) (hsz : w'.heap.size = w.heap.size) (hos : w'.os = w.os) (htp : w'.tape = w.tape) (hout : w'.output = w.output)
    (ho : ObjC (ρ.put n (k, d', x')) d' x' ao' o) : Good (ρ.put n (k, d', x')) n.succ ((g.del b).set n ao') w' ∧ Fr ρ n g w (ρ.put n (k, d', x')) n.succ ((g.del b).set n ao') w' := by
  have hl := Ren.le_put (k, d', x') (hg.fresh n (Nat.le_refl _))
  have old : ∀ q a, q ≠ n → ((g.del b).set n ao') q = some a → q ≠ b ∧ g q = some a ∧ ∀ y, (ρ.put n (k, d', x')).at_ q = some y → ρ.at_ q = some y := by
    intro q a hq e
    simp only [Hp.set, if_neg hq, Hp.del] at e
    split at e
    · cases e
    · rename_i hqb
      exact ⟨hqb, e, fun y ey => by simpa [Ren.put, hq] using ey⟩
  refine ⟨⟨fun q a e => ?_, fun q q' a a' k1 d1 y1 d2 y2 e1 e2 e3 e4 => ?_, fun q hq => ?_⟩, ⟨hl, by rw [Pos.nat_succ]; omega, fun q hq => ?_, hos, htp, hout, by omega, fun q hq hn => hrest q (fun e => ?_), fun q a k1 d1 y1 e1 e2 => ?_, fun q a e => ?_⟩⟩
  · by_cases hq : q = n
    · subst hq
      simp only [Hp.set, if_pos] at e
      injection e with e; subst e
      exact ⟨k, d', x', o, Ren.put_at _ _ _, hw, ho⟩
    · obtain ⟨hqb, e', _⟩ := old q a hq e
      obtain ⟨k1, d1, y1, ob, h1, h2, h3⟩ := hg.rep q a e'
      refine ⟨k1, d1, y1, ob, hl.at_ _ _ h1, ?_, h3.le hl⟩
      rw [hrest k1 (fun e0 => hqb (by subst e0; exact hg.inj q b a ao k1 d1 y1 d x e' hb h1 hk))]
      exact h2
  · by_cases hq : q = n
    · by_cases hq' : q' = n
      · rw [hq, hq']
      · obtain ⟨hqb, e', ey⟩ := old q' a' hq' e2
        rw [hq, Ren.put_at] at e3
        injection e3 with e3; injection e3 with e3
        subst e3
        exact absurd (hg.inj q' b a' ao k d2 y2 d x e' hb (ey _ e4) hk) hqb
    · obtain ⟨hqb, e', ey⟩ := old q a hq e1
      by_cases hq' : q' = n
      · rw [hq', Ren.put_at] at e4
        injection e4 with e4; injection e4 with e4
        subst e4
        exact absurd (hg.inj q b a ao k d1 y1 d x e' hb (ey _ e3) hk) hqb
      · obtain ⟨hqb', e'', ey'⟩ := old q' a' hq' e2
        exact hg.inj q q' a a' k1 d1 y1 d2 y2 e' e'' (ey _ e3) (ey' _ e4)
  · rw [Pos.nat_succ] at hq
    show (if q = n then _ else ρ.at_ q) = none
    rw [if_neg (fun e => by subst e; omega)]
    exact hg.fresh q (by omega)
  · show (if q = n then _ else ρ.at_ q) = _
    rw [if_neg (fun e => by subst e; omega)]
  · subst e; exact hn b ao d x hb hk
  · by_cases hq : q = n
    · subst hq
      rw [Ren.put_at] at e2
      injection e2 with e2; injection e2 with e2
      exact .inr ⟨b, ao, d, x, hb, by rw [← e2]; exact hk⟩
    · obtain ⟨hqb, e', ey⟩ := old q a hq e1
      exact .inr ⟨q, a, d1, y1, e', ey _ e2⟩
  · by_cases hq : q = n
    · exact .inr (by rw [hq]; exact Nat.le_refl _)
    · obtain ⟨hqb, e', _⟩ := old q a hq e
      exact .inl ⟨a, e'⟩
theorem Hp.del_le (g : Hp) (b : Pos) : Hp.le (g.del b) g := by
  intro q o e
  simp only [Hp.del] at e
  split at e
  · cases e
  · exact e
theorem Fr.sub {ρ' : Ren} {n n' : Pos} {g g0 g' : Hp} {w w' : World} (h : Fr ρ n g0 w ρ' n' g' w') (hl : Hp.le g0 g) : Fr ρ n g w ρ' n' g' w' :=
  ⟨h.le, h.num, h.old, h.os, h.tape, h.output, h.size, fun k hk hn => h.block k hk (fun b ao d x hb hx => hn b ao d x (hl _ _ hb) hx), fun b ao k d x e1 e2 => by
    rcases h.new b ao k d x e1 e2 with h1 | ⟨b0, ao0, d0, x0, h1, h2⟩
    · exact .inl h1
    · exact .inr ⟨b0, ao0, d0, x0, hl _ _ h1, h2⟩, fun b ao e => by
    rcases h.dom b ao e with ⟨ao0, h1⟩ | h1
    · exact .inl ⟨ao0, hl _ _ h1⟩
    · exact .inr h1⟩
/-- a new row that has more room than is known -/
theorem objC_open {ρ' : Ren} {cs : PT AV} {df : Option AV} {l : List AV} {xs : List Value} {cc : Array Value} {t : TypeId} {z x : Nat} (h : concs ρ' l = some xs) (hcell : ∀ i, i < l.length → cellA cs df i = l[i]?)
    (hcc : ∀ i, i < l.length → cc[i]? = xs[i]?) (hsz : l.length + x * z ≤ cc.size) {ty : Option TypeId} (hty : ty = some t ∨ ty = none) : ObjC ρ' 0 x (.row cs l.length df z ty) (.cells cc t (0, 0)) := by
  refine ⟨fun i hi => ?_, fun i hi => ⟨by omega, by simp⟩, fun e he => ⟨by rcases hty with h | h <;> rw [h] at he <;> cases he; rfl, rfl⟩⟩
  obtain ⟨u, h1, h2⟩ := concs_get h (List.getElem?_eq_getElem hi)
  exact ⟨l[i], u, by rw [hcell i hi, List.getElem?_eq_getElem hi], h2, by rw [Nat.zero_add, hcc i hi]; exact h1, by simp⟩
end
/-- a long row of one value, all of it -/
noncomputable def uniA (P : Program) (u : TypeId) (z m : Nat) (x : AV) (g : Hp) : Option AV :=
  match Nat.blt 256 m with
  | false => none
  | true => (match notInt P u, x with
    | true, .slc b o _ _ _ => (match g b with
      | some (.row .lf n (some v) _ _) => if Nat.ble (o + m * z) n && oneA v then some v else none
      | _ => none)
    | _, _ => none)
/-- what is known of a block's type behind an append in place -/
def tyIf (e : TypeId) : Option TypeId → Option TypeId
  | some t => if Nat.beq t e then some e else none
  | none => none
noncomputable def appendK {R : Type} (P : Program) (t u : TypeId) (s x : AV) (n : Pos) (H : PT AO) (k : AV → Pos → PT AO → Option R) : Option R :=
  match P.underlying t with
  | some (.slice e) => (match P.info? e, lenL s, srcN P u x with
    | some i, some sl, some m =>
      (match i.zero with
      | none => none
      | some zv => if zv.cells.size = i.size ∧ 0 < i.size then
        (if m = 0 then (match s with
          | .nils => k s n H
          | .slc b o len cap ex => if len ≤ cap then k (.slc b o len cap ex) n H else none
          | .slz b o p => k (.slz b o p) n H
          | _ => none)
        else if (sl + m) * i.bytes ≤ 1073741824 ∧ sl + m ≤ 1073741824 then
          (match uniA P u i.size m x (hp H), s with
          | some v, .slc b o len cap false => (match PT.get b H with
            | some (.row cs rn df es _) => if es = i.size ∧ len = cap ∧ o + cap * i.size = rn then (match rdCells cs df (len * i.size) o with
              | some olds => PT.delK b H fun H => rowK olds 0 .lf fun cs c => forceN (c + m * i.size) fun c => PT.setK (.row cs c (some v) i.size none) n H fun H => forceN (len + m) fun q => k (.slc n 0 q q false) n.succ H
              | none => none) else none
            | _ => none)
          | _, _ => (match srcL P u e i m x (hp H) with
          | none => none
          | some news => if news.all oneA = true ∧ news.length = m * i.size then
            (match s with
            | .nils => rowK news 0 .lf fun cs c => PT.setK (.row cs c none i.size (some e)) n H fun H => forceN m fun m => k (.slc n 0 m m false) n.succ H
            | .slc b o len cap true => if len + m ≤ cap then putK (.ptr b (o + len * i.size)) news H fun H => forceN (len + m) fun q => k (.slc b o q cap true) n H else
                (match firstA i.size len s (hp H) with
                | some olds => rowK (olds ++ news) 0 .lf fun cs c => PT.setK (.row cs c none i.size (some e)) n H fun H => forceN (len + m) fun q => k (.slc n 0 q q false) n.succ H
                | none => none)
            | .slc b o len cap false => (match PT.get b H with
                | some (.row cs rn df es ty) => if es = i.size ∧ len = cap ∧ o + cap * i.size = rn then
                    (if o = 0 then PT.delK b H fun H => wrK news rn cs fun cs => forceN (rn + news.length) fun rn => PT.setK (.row cs rn df es (tyIf e ty)) n H fun H => forceN (len + m) fun q => k (.slc n 0 q q false) n.succ H
                    else (match rdCells cs df (len * i.size) o with
                      | some olds => PT.delK b H fun H => rowK (olds ++ news) 0 .lf fun cs c => PT.setK (.row cs c none i.size none) n H fun H => forceN (len + m) fun q => k (.slc n 0 q q false) n.succ H
                      | none => none)) else none
                | _ => none)
            | .slz b o p => (match PT.get b H with
                | some (.row cs rn df es ty) => if es = i.size ∧ o = rn then
                    PT.delK b H fun H => rowK news 0 .lf fun cs c => PT.setK (.row cs c none i.size none) n H fun H => forceN m fun m => k (.slc n 0 m m false) n.succ H else none
                | _ => none)
            | _ => none) else none))
        else none) else none)
    | _, _, _ => none)
  | _ => none
section
variable {P : Program} {ρ : Ren}
theorem rdCells_len {cs : PT AV} {df : Option AV} : ∀ {z o : Nat} {l : List AV}, rdCells cs df z o = some l → l.length = z ∧ ∀ j, j < z → l[j]? = cellA cs df (o + j)
  | 0, o, l, h => by injection h with h; subst h; exact ⟨rfl, fun j hj => by omega⟩
  | z + 1, o, l, h => by
    unfold rdCells at h
    split at h
    · rename_i v l' hv hl
      injection h with h; subst h
      obtain ⟨h1, h2⟩ := rdCells_len hl
      refine ⟨by simp [h1], fun j hj => ?_⟩
      cases j with
      | zero => simpa using hv.symm
      | succ j => rw [List.getElem?_cons_succ, h2 j (by omega), show o + 1 + j = o + (j + 1) by omega]
    · cases h
theorem size_zero (z : Array Value) (n : Nat) : (Builtin.zeroCells z n).size = n * z.size := by simp [Builtin.zeroCells]
/-- the slice grows into a new row -/
theorem grow_case {n : Pos} {g g0 : Hp} {w : World} (hg : Good ρ n g w) (hl0 : Hp.le g0 g) {t u ty e : TypeId} {i : TypeInfo} {zv : Value} {sl sc m : Nat} {a : Option Addr} {ux : Value} {l0 l1 : List AV} {xs0 xs1 : List Value}
    (hu : P.underlying t = some (.slice e)) (hi : P.info? e = some i) (hzv : i.zero = some zv) (hzs : zv.cells.size = i.size)
    (hs : SrcOk P u i m ux xs1.toArray w.drew) (hc : sc < sl + m) (hb : (sl + m) * i.bytes ≤ 1073741824) (hsm : sl + m ≤ 1073741824)
    (ho : (Builtin.firstCells i.size sl (.slice a sl sc)).run P w.drew = .ok xs0.toArray w.drew)
    (h0 : concs ρ l0 = some xs0) (h1 : concs ρ l1 = some xs1) {cs : PT AV} {df : Option AV} (hcell : ∀ j, j < (l0 ++ l1).length → cellA cs df j = (l0 ++ l1)[j]?) {c : Nat} (hcl : c = (l0 ++ l1).length) {tt : Option TypeId} (htt : tt = some e ∨ tt = none) :
    ∃ ρ' y w', conc ρ' (.slc n 0 (sl + m) (sl + m) false) = some y ∧ (Builtin.append_ #[t, u] ty #[.slice a sl sc, ux]).run P w = .ok y w' ∧
      Good ρ' n.succ (g0.set n (.row cs c df i.size tt)) w' ∧ Fr ρ n g w ρ' n.succ (g0.set n (.row cs c df i.size tt)) w' := by
  have hr := app_grow (ty := ty) hu hi hzv hs hc (by omega) (by omega) ho
  have hge := grownCap_ge w (sl + m) sc e
  have hgd : Good ρ n g0 w.drew := (hg.sub hl0).drew (w.drawn + 1)
  have hls := Ren.le_put (w.heap.size, 0, grownCap w (sl + m) sc e - (sl + m)) (hg.fresh n (Nat.le_refl _))
  have hlen := concs_len (concs_app h0 h1)
  obtain ⟨q1, q2⟩ := hgd.alloc (.row cs c df i.size tt) (.cells (xs0.toArray ++ xs1.toArray ++ Builtin.zeroCells zv.cells (grownCap w (sl + m) sc e - (sl + m))) e) (grownCap w (sl + m) sc e - (sl + m)) (by
    subst hcl
    refine objC_open (concs_le hls _ (concs_app h0 h1)) hcell (fun j hj => ?_) ?_ htt
    · rw [Array.getElem?_append_left (by simp only [Array.size_append, List.size_toArray]; rw [← List.length_append, hlen]; exact hj)]
      simp
    · simp only [Array.size_append, List.size_toArray, size_zero, hzs]
      rw [← List.length_append, hlen]
      exact Nat.le_refl _)
  refine ⟨_, _, _, slc_conc (Ren.put_at _ _ _), ?_, q1, (q2.drew' (w.drawn + 1)).sub hl0⟩
  rw [hr]
  simp only [Bool.false_eq_true, if_false, Nat.zero_add]
  rw [show sl + m + (grownCap w (sl + m) sc e - (sl + m)) = grownCap w (sl + m) sc e by omega]
  rfl
/-- the slice goes on in its own row, which nobody else knows any more -/
theorem room_case {n : Pos} {g : Hp} {w : World} (hg : Good ρ n g w) {t u ty e : TypeId} {i : TypeInfo} {sl m b0 : Nat} {ux : Value} {l1 : List AV} {xs1 : List Value} {b : Pos} {cs0 cs : PT AV} {df0 df : Option AV} {rn o kk d x c : Nat} {l0 : List AV}
    (hu : P.underlying t = some (.slice e)) (hi : P.info? e = some i)
    (hs : SrcOk P u i m ux xs1.toArray w) {tt0 tt : Option TypeId} (hbb : g b = some (.row cs0 rn df0 i.size tt0)) (htt : tt = none ∨ (o = 0 ∧ tt = tt0)) (hk : ρ.at_ b = some (kk, d, x)) (hmx : m ≤ x) (horn : o + sl * i.size = rn)
    (h1 : concs ρ l1 = some xs1) (hone : l1.all oneA = true) (hlen1 : l1.length = m * i.size)
    (hl0 : l0.length = sl * i.size) (hl0c : ∀ j, j < sl * i.size → l0[j]? = cellA cs0 df0 (o + j))
    (hcell : ∀ j, j < (l0 ++ l1).length → cellA cs df j = (l0 ++ l1)[j]?) (hcl : c = (l0 ++ l1).length) :
    ∃ ρ' y w', conc ρ' (.slc n 0 (sl + m) (sl + m) false) = some y ∧ (Builtin.append_ #[t, u] ty #[.slice (some ⟨kk, d + o, none⟩) sl (sl + x), ux]).run P w = .ok y w' ∧
      Good ρ' n.succ ((g.del b).set n (.row cs c df i.size tt)) w' ∧ Fr ρ n g w ρ' n.succ ((g.del b).set n (.row cs c df i.size tt)) w' := by
  obtain ⟨kk', d', x', cc, ty', fz, g1, g2, g3, g4⟩ := hg.cell hbb
  rw [hk] at g1; injection g1 with g1; injection g1 with t1 t2; injection t2 with t2 t3
  subst t1; subst t2; subst t3
  have hlx := concs_len h1
  have hmz : m * i.size ≤ x * i.size := Nat.mul_le_mul_right _ hmx
  obtain ⟨w', cc', e1, e2, e3, e4, e5, e6, e7, e8, e9⟩ := run_storeRow (P := P) kk ty' fz (d + o + sl * i.size) xs1 0 w cc g2 (fun j hj => by
    have := g3.2.1 j (by omega)
    rw [show d + rn + j = d + o + sl * i.size + 0 + j by omega] at this
    exact this) (allOne hone h1)
  simp only [Nat.add_zero] at e4
  have hr := app_room (ty := ty) (sLen := sl) (m := m) (sCap := sl + x) (a := ⟨kk, d + o, none⟩) hu hi hs (by omega) (by rw [addr_add]; simpa using e1)
  have hls := Ren.le_put (kk, d + o, x - m) (hg.fresh n (Nat.le_refl _))
  have hxm : (x - m) * i.size + m * i.size = x * i.size := by rw [← Nat.add_mul]; congr 1; omega
  obtain ⟨q1, q2⟩ := hg.rename (d' := d + o) (x' := x - m) (ao' := .row cs c df i.size tt) hbb hk e2 e5 e6 e7 e8 e9 (by
    subst hcl
    refine ⟨fun j hj => ?_, fun j hj => ?_, ?_⟩
    · rw [List.length_append] at hj
      by_cases hjs : j < sl * i.size
      · obtain ⟨v, y, f1, f2, f3, f4⟩ := g3.1 (o + j) (by omega)
        refine ⟨v, y, ?_, conc_le hls _ f2, ?_, ?_⟩
        · rw [hcell j (by rw [List.length_append]; exact hj), List.getElem?_append_left (by omega), hl0c j hjs, f1]
        · rw [e4, if_neg (by omega), ← f3]
          congr 1
          omega
        · rw [show d + o + j = d + (o + j) by omega]; exact f4
      · have hj1 : j - l0.length < l1.length := by omega
        obtain ⟨y, f1, f2⟩ := concs_get h1 (List.getElem?_eq_getElem hj1)
        refine ⟨l1[j - l0.length], y, ?_, conc_le hls _ f2, ?_, ?_⟩
        · rw [hcell j (by rw [List.length_append]; exact hj), List.getElem?_append_right (by omega), List.getElem?_eq_getElem hj1]
        · rw [e4, if_pos (by omega), ← f1]
          congr 1
          omega
        · have := g3.2.1 (j - l0.length) (by omega)
          rw [show d + rn + (j - l0.length) = d + o + j by omega] at this
          exact this.2
    · rw [List.length_append]
      have := g3.2.1 (m * i.size + j) (by omega)
      rw [show d + o + (l0.length + l1.length) + j = d + rn + (m * i.size + j) by omega]
      exact ⟨by rw [e3]; exact this.1, this.2⟩
    · intro e2 he2
      rcases htt with h | ⟨h, h'⟩
      · rw [h] at he2; cases he2
      · have := g3.2.2 e2 (by rw [← h']; exact he2)
        exact ⟨this.1, by omega⟩)
  refine ⟨_, _, w', slc_conc (Ren.put_at _ _ _), ?_, q1, q2⟩
  rw [hr]
  simp only [Bool.false_eq_true, if_false, Nat.add_zero]
  rw [show sl + m + (x - m) = sl + x by omega]
theorem firstA_drew {n : Pos} {g : Hp} {w : World} {z m : Nat} {x : AV} {u : Value} {l : List AV} {xs : List Value} (hg : Good ρ n g w) (h : firstA z m x g = some l) (hx : conc ρ x = some u) (hc : concs ρ l = some xs) :
    (Builtin.firstCells z m u).run P w = .ok xs.toArray w ∧ (Builtin.firstCells z m u).run P w.drew = .ok xs.toArray w.drew := by
  obtain ⟨us, h1, h2⟩ := run_firstA (P := P) hg h hx
  obtain ⟨us', h3, h4⟩ := run_firstA (P := P) (hg.drew (w.drawn + 1)) h hx
  rw [hc] at h1 h3
  injection h1 with h1; injection h3 with h3
  subst h1; subst h3
  exact ⟨h2, h4⟩
theorem tyIf_room {e : TypeId} {tt tt0 : Option TypeId} {o : Nat} (h : tt = none ∨ (o = 0 ∧ tt = tyIf e tt0)) : tt = none ∨ (o = 0 ∧ tt = tt0) := by
  rcases h with h | ⟨h1, h2⟩
  · exact .inl h
  · cases tt0 with
    | none => exact .inl h2
    | some t =>
      simp only [tyIf] at h2
      split at h2
      · rename_i h3; rw [Nat.eq_of_beq_eq_true h3]; exact .inr ⟨h1, h2⟩
      · exact .inl h2
theorem tyIf_grow {e : TypeId} {tt tt0 : Option TypeId} {o : Nat} (h : tt = none ∨ (o = 0 ∧ tt = tyIf e tt0)) : tt = some e ∨ tt = none := by
  rcases h with h | ⟨h1, h2⟩
  · exact .inr h
  · cases tt0 with
    | none => exact .inr h2
    | some t =>
      simp only [tyIf] at h2
      split at h2
      · exact .inl h2
      · exact .inr h2
theorem keep_del {x : AV} {n b : Pos} {H : PT AO} (h : idOf x = some b) (o : AO) : KeepN x n H (PT.set o n (PT.del b H)) := fun q e hq => by
  rw [PT.get_set, if_neg (fun e => by subst e; omega), PT.get_del, if_neg (fun e' => e (by rw [e']; exact h))]
theorem uniA_src {u e : TypeId} {i : TypeInfo} {m : Nat} {x v : AV} {g : Hp} (h : uniA P u i.size m x g = some v) : srcL P u e i m x g = some (List.replicate (m * i.size) v) ∧ oneA v = true := by
  unfold uniA at h
  cases hm : Nat.blt 256 m with
  | false => rw [hm] at h; cases h
  | true =>
    rw [hm] at h
    dsimp only at h
    split at h
    · rename_i b o ln c ex hn
      split at h
      · rename_i n v' es ty hb
        split at h
        · rename_i hc
          simp only [Bool.and_eq_true] at hc
          injection h with h; subst h
          refine ⟨?_, hc.2⟩
          unfold srcL
          rw [hn]
          simp only [firstA, hb]
          rw [if_pos (Nat.le_of_ble_eq_true hc.1)]
          have : ∀ (z o : Nat), rdCells .lf (some v') z o = some (List.replicate z v') := by
            intro z
            induction z with
            | zero => intro o; rfl
            | succ z ih =>
              intro o
              have hcell : cellA .lf (some v') o = some v' := by simp [cellA, PT.get_lf]
              simp only [rdCells, hcell, ih, List.replicate_succ]
          exact this _ _
        · cases h
      · cases h
    · cases h
theorem app_both {n : Pos} {H : PT AO} {t u ty e : TypeId} {i : TypeInfo} {zv : Value} {len m : Nat} {x : AV} {news : List AV} {b : Pos} {o rn : Nat} {cs : PT AV} {df : Option AV} {tt0 : Option TypeId}
    (hu : P.underlying t = some (.slice e)) (hi : P.info? e = some i) (hzv : i.zero = some zv) (hz : zv.cells.size = i.size ∧ 0 < i.size) (hbd : (len + m) * i.bytes ≤ 1073741824 ∧ len + m ≤ 1073741824)
    (hm0 : ¬ m = 0) (hone : news.all oneA = true ∧ news.length = m * i.size)
    (hsrc : ∀ {ρ : Ren} {ux : Value} {w : World}, Good ρ n (hp H) w → conc ρ x = some ux → ∃ xs, concs ρ news = some xs ∧ SrcOk P u i m ux xs.toArray w ∧ SrcOk P u i m ux xs.toArray w.drew)
    (hb : PT.get b H = some (.row cs rn df i.size tt0)) (hrn : o + len * i.size = rn)
    (l0 : List AV) (cs' : PT AV) (df' : Option AV) (c : Nat) (tt : Option TypeId) (htt : tt = none ∨ (o = 0 ∧ tt = tyIf e tt0)) (a1 : l0.length = len * i.size) (a2 : ∀ j, j < len * i.size → l0[j]? = cellA cs df (o + j))
    (a3 : ∀ j, j < (l0 ++ news).length → cellA cs' df' j = (l0 ++ news)[j]?) (a4 : c = (l0 ++ news).length)
    {ρ : Ren} {w : World} {us ux : Value} (hg : Good ρ n (hp H) w) (hs : conc ρ (.slc b o len len false) = some us) (hx : conc ρ x = some ux) :
    ∃ ρ' y w', conc ρ' (.slc n 0 (len + m) (len + m) false) = some y ∧ (Builtin.append_ #[t, u] ty #[us, ux]).run P w = .ok y w' ∧ Good ρ' n.succ (((hp H).del b).set n (.row cs' c df' i.size tt)) w' ∧ Fr ρ n (hp H) w ρ' n.succ (((hp H).del b).set n (.row cs' c df' i.size tt)) w' := by
  obtain ⟨xs, h1, h2, h3⟩ := hsrc hg hx
  obtain ⟨kk, d, xx, hb', rfl⟩ := conc_slc hs
  by_cases hroom : m ≤ xx
  · exact room_case (ty := ty) hg hu hi h2 (b0 := 0) hb (tyIf_room htt) hb' hroom hrn h1 hone.1 hone.2 a1 a2 a3 a4
  · have hol : firstA i.size len (.slc b o len len false) (hp H) = rdCells cs df (len * i.size) o := by
      have hb2 : hp H b = some (.row cs rn df i.size tt0) := hb
      simp only [firstA, hb2]
      rw [if_pos (by omega)]
    have hex : ∃ l, rdCells cs df (len * i.size) o = some l := by
      obtain ⟨_, _, _, _, _, _, _, _, _, hcell⟩ := hg.cell hb
      have : ∀ z o', o' + z ≤ rn → ∃ l, rdCells cs df z o' = some l := by
        intro z
        induction z with
        | zero => intro o' _; exact ⟨[], rfl⟩
        | succ z ih =>
          intro o' ho'
          obtain ⟨l, hl⟩ := ih (o' + 1) (by omega)
          obtain ⟨v, _, hv, _⟩ := hcell o' (by omega)
          exact ⟨v :: l, by simp only [rdCells, hv, hl]⟩
      exact this _ _ (by omega)
    obtain ⟨l, hl⟩ := hex
    obtain ⟨b1, b2⟩ := rdCells_len hl
    have hll : l = l0 := by
      apply List.ext_getElem?
      intro j
      by_cases hj : j < len * i.size
      · rw [b2 j hj, a2 j hj]
      · rw [List.getElem?_eq_none (by omega), List.getElem?_eq_none (by omega)]
    subst hll
    rw [hl] at hol
    obtain ⟨xs0, h4, _⟩ := run_firstA (P := P) hg hol hs
    obtain ⟨h5, h6⟩ := firstA_drew (P := P) hg hol hs h4
    exact grow_case (ty := ty) hg (Hp.del_le _ b) (l0 := l) (l1 := news) hu hi hzv hz.1 h3 (by simp; omega) hbd.1 hbd.2 h6 h4 h1 a3 a4 (tyIf_grow htt)
theorem appendK_some {R : Type} {t u ty : TypeId} {s x : AV} {n : Pos} {H : PT AO} {k : AV → Pos → PT AO → Option R} {r : R} (h : appendK P t u s x n H k = some r) :
    ∃ v n' H', k v n' H' = some r ∧ KeepN s n H H' ∧ ∀ {ρ : Ren} {w : World} {us ux : Value}, Good ρ n (hp H) w → conc ρ s = some us → conc ρ x = some ux →
      ∃ ρ' y w', conc ρ' v = some y ∧ (Builtin.append_ #[t, u] ty #[us, ux]).run P w = .ok y w' ∧ Good ρ' n' (hp H') w' ∧ Fr ρ n (hp H) w ρ' n' (hp H') w' := by
  unfold appendK at h
  split at h
  case h_2 => cases h
  rename_i e hu
  split at h
  case h_2 => cases h
  rename_i i sl m hi hsl hm
  split at h
  case h_1 => cases h
  rename_i zv hzv
  split at h
  case isFalse => cases h
  rename_i hz
  split at h
  · rename_i h0
    subst h0
    have hf0 := fun {ρ : Ren} {ux : Value} {w : World} (hg : Good ρ n (hp H) w) (hx : conc ρ x = some ux) => src_none (P := P) hg hi hzv hz.1 hm hx
    split at h
    · refine ⟨_, _, _, h, (Keep.refl _ _).n n, fun {ρ w us ux} hg hs hx => ⟨ρ, us, w, hs, ?_, hg, Fr.refl _ _ _ _ hg.ids⟩⟩
      cases hs
      exact app_nothing hu hi (hf0 hg hx) (Nat.le_refl _)
    · rename_i b o len cap ex
      split at h
      · rename_i hc
        refine ⟨_, _, _, h, (Keep.refl _ _).n n, fun {ρ w us ux} hg hs hx => ⟨ρ, us, w, hs, ?_, hg, Fr.refl _ _ _ _ hg.ids⟩⟩
        obtain ⟨kk, d, xx, hb, rfl⟩ := conc_slc hs
        exact app_nothing hu hi (hf0 hg hx) (by split <;> omega)
      · cases h
    · refine ⟨_, _, _, h, (Keep.refl _ _).n n, fun {ρ w us ux} hg hs hx => ⟨ρ, us, w, hs, ?_, hg, Fr.refl _ _ _ _ hg.ids⟩⟩
      obtain ⟨a, c, rfl⟩ := conc_slz' hs
      exact app_nothing hu hi (hf0 hg hx) (Nat.zero_le _)
    · cases h
  · rename_i hm0
    split at h
    case isFalse => cases h
    rename_i hbd
    have hmb : (m : Int) * i.bytes ≤ 281474976710656 := by
      have h1 := hbd.1
      have h2 : m * i.bytes ≤ (sl + m) * i.bytes := Nat.mul_le_mul_right _ (by omega)
      have h3 : ((m * i.bytes : Nat) : Int) ≤ 281474976710656 := by omega
      simpa using h3
    split at h
    · rename_i v b o len cap huni
      injection hsl with hsl; subst hsl
      obtain ⟨hnews, hv1⟩ := uniA_src (e := e) huni
      have hone : (List.replicate (m * i.size) v).all oneA = true ∧ (List.replicate (m * i.size) v).length = m * i.size := ⟨by rw [List.all_eq_true]; intro y hy; rw [(List.mem_replicate.1 hy).2]; exact hv1, by simp⟩
      split at h
      · rename_i cs rn df es tt0 hb
        split at h
        case isFalse => cases h
        rename_i hc
        obtain ⟨rfl, rfl, hrn⟩ := hc
        split at h
        · rename_i olds hol
          rw [PT.delK_eq, rowK_eq, forceN_eq, PT.setK_eq, forceN_eq] at h
          obtain ⟨b1, b2⟩ := rdCells_len hol
          refine ⟨_, _, _, h, keep_del rfl _, fun {ρ w us ux} hg hs hx => ?_⟩
          rw [hp_set, hp_del]
          refine app_both (ty := ty) hu hi hzv hz hbd hm0 hone (fun hg hx => src_ok (P := P) hg hi hzv hz.1 hmb hm hnews hx) hb hrn olds _ _ _ _ (.inl rfl) b1 b2 (fun j hj => ?_) (by simp) hg hs hx
          unfold cellA
          rw [fillT_get]
          by_cases hj1 : j < olds.length
          · rw [if_pos (by omega), List.getElem?_append_left hj1, Nat.sub_zero, List.getElem?_eq_getElem hj1]
          · rw [if_neg (by omega), PT.get_lf, List.getElem?_append_right (by omega), List.getElem?_replicate, if_pos (by simp at hj; omega)]
        · cases h
      · cases h
    rename_i hne
    clear hne
    split at h
    · cases h
    · rename_i news hnews
      split at h
      case isFalse => cases h
      rename_i hone
      have hsrc := fun {ρ : Ren} {ux : Value} {w : World} (hg : Good ρ n (hp H) w) (hx : conc ρ x = some ux) => src_ok (P := P) hg hi hzv hz.1 hmb hm hnews hx
      split at h
      · -- nil
        rw [rowK_eq, PT.setK_eq, forceN_eq] at h
        refine ⟨_, _, _, h, keep_new _, fun {ρ w us ux} hg hs hx => ?_⟩
        cases hs
        injection hsl with hsl; subst hsl
        obtain ⟨xs, h1, h2, h3⟩ := hsrc hg hx
        obtain ⟨ρ', y, w', q1, q2, q3, q4⟩ := grow_case (ty := ty) hg (g0 := hp H) (fun _ _ e => e) (sl := 0) (sc := 0) (a := none) (l0 := []) (l1 := news) (xs0 := []) (xs1 := xs) (cs := fillT news 0 .lf) (df := none) (c := 0 + news.length) hu hi hzv hz.1 h3 (by omega) hbd.1 hbd.2 (by simp [Builtin.firstCells]) rfl h1 (fun j hj => fillT_cell _ _ _ hj) (by simp) (.inl rfl)
        rw [hp_set]
        rw [Nat.zero_add] at q1
        exact ⟨ρ', y, w', q1, q2, q3, q4⟩
      · -- exact
        rename_i b o len cap
        injection hsl with hsl; subst hsl
        split at h
        · rename_i hc
          obtain ⟨H', hk, hkp, hspec⟩ := putK_some (P := P) h
          rw [forceN_eq] at hk
          refine ⟨_, _, _, hk, fun q e _ => hkp q e, fun {ρ w us ux} hg hs hx => ?_⟩
          obtain ⟨xs, h1, h2, h3⟩ := hsrc hg hx
          obtain ⟨kk, d, xx, hb, rfl⟩ := conc_slc hs
          obtain ⟨a, w', e0, e1, e2, e3⟩ := hspec hg h1 (ptr_conc hb)
          injection e0 with e0; injection e0 with e0
          subst e0
          refine ⟨ρ, _, w', slc_conc hb, ?_, e2, e3⟩
          simp only [if_true]
          exact app_room hu hi h2 hc (by rw [addr_add]; simpa [Nat.add_assoc] using e1)
        · rename_i hc
          split at h
          · rename_i olds hol
            rw [rowK_eq, PT.setK_eq, forceN_eq] at h
            refine ⟨_, _, _, h, keep_new _, fun {ρ w us ux} hg hs hx => ?_⟩
            obtain ⟨xs, h1, h2, h3⟩ := hsrc hg hx
            obtain ⟨xs0, h4, _⟩ := run_firstA (P := P) hg hol hs
            obtain ⟨h5, h6⟩ := firstA_drew (P := P) hg hol hs h4
            obtain ⟨kk, d, xx, hb, rfl⟩ := conc_slc hs
            rw [hp_set]
            exact grow_case (ty := ty) hg (g0 := hp H) (fun _ _ e => e) (l0 := olds) (l1 := news) (cs := fillT (olds ++ news) 0 .lf) (df := none) (c := 0 + (olds ++ news).length) hu hi hzv hz.1 h3 (by simp; omega) hbd.1 hbd.2 h6 h4 h1 (fun j hj => fillT_cell _ _ _ hj) (by simp) (.inl rfl)
          · cases h
      · -- not exact
        rename_i b o len cap
        injection hsl with hsl; subst hsl
        split at h
        · rename_i cs rn df es tt0 hb
          split at h
          case isFalse => cases h
          rename_i hc
          obtain ⟨rfl, rfl, hrn⟩ := hc
          have both := fun (l0 : List AV) (cs' : PT AV) (df' : Option AV) (c : Nat) (tt : Option TypeId) (htt : tt = none ∨ (o = 0 ∧ tt = tyIf e tt0)) (a1 : l0.length = len * i.size) (a2 : ∀ j, j < len * i.size → l0[j]? = cellA cs df (o + j))
              (a3 : ∀ j, j < (l0 ++ news).length → cellA cs' df' j = (l0 ++ news)[j]?) (a4 : c = (l0 ++ news).length) {ρ : Ren} {w : World} {us ux : Value} (hg : Good ρ n (hp H) w) (hs : conc ρ (.slc b o len len false) = some us) (hx : conc ρ x = some ux) =>
            app_both (ty := ty) hu hi hzv hz hbd hm0 hone hsrc hb hrn l0 cs' df' c tt htt a1 a2 a3 a4 hg hs hx
          split at h
          · rename_i ho
            subst ho
            rw [PT.delK_eq, wrK_eq, forceN_eq, PT.setK_eq, forceN_eq] at h
            refine ⟨_, _, _, h, keep_del rfl _, fun {ρ w us ux} hg hs hx => ?_⟩
            rw [hp_set, hp_del]
            rw [Nat.zero_add] at hrn
            obtain ⟨_, _, _, _, _, _, _, _, _, hcell⟩ := hg.cell hb
            have hex : ∃ l, rdCells cs df (len * i.size) 0 = some l := by
              have : ∀ z o', o' + z ≤ rn → ∃ l, rdCells cs df z o' = some l := by
                intro z
                induction z with
                | zero => intro o' _; exact ⟨[], rfl⟩
                | succ z ih =>
                  intro o' ho'
                  obtain ⟨l, hl⟩ := ih (o' + 1) (by omega)
                  obtain ⟨v, _, hv, _⟩ := hcell o' (by omega)
                  exact ⟨v :: l, by simp only [rdCells, hv, hl]⟩
              exact this _ _ (by omega)
            obtain ⟨l, hl⟩ := hex
            obtain ⟨b1, b2⟩ := rdCells_len hl
            refine both l _ df _ _ (.inr ⟨rfl, rfl⟩) b1 b2 (fun j hj => ?_) (by rw [List.length_append, b1, hrn]) hg hs hx
            rw [List.length_append] at hj
            unfold cellA
            rw [fillT_get]
            by_cases hj1 : j < len * i.size
            · rw [if_neg (by omega), List.getElem?_append_left (by omega), b2 j hj1, Nat.zero_add]
              rfl
            · rw [if_pos (by omega), List.getElem?_append_right (by omega), b1, hrn, List.getElem?_eq_getElem (by omega)]
          · split at h
            · rename_i olds hol
              rw [PT.delK_eq, rowK_eq, PT.setK_eq, forceN_eq] at h
              obtain ⟨b1, b2⟩ := rdCells_len hol
              refine ⟨_, _, _, h, keep_del rfl _, fun {ρ w us ux} hg hs hx => ?_⟩
              rw [hp_set, hp_del]
              exact both olds _ none _ _ (.inl rfl) b1 b2 (fun j hj => fillT_cell _ _ _ hj) (by simp) hg hs hx
            · cases h
        · cases h
      · -- at the end of a row
        rename_i b o p
        injection hsl with hsl; subst hsl
        split at h
        · rename_i cs rn df es tt0 hb
          split at h
          case isFalse => cases h
          rename_i hc
          obtain ⟨rfl, rfl⟩ := hc
          rw [PT.delK_eq, rowK_eq, PT.setK_eq, forceN_eq] at h
          refine ⟨_, _, _, h, keep_del rfl _, fun {ρ w us ux} hg hs hx => ?_⟩
          rw [hp_set, hp_del]
          obtain ⟨xs, h1, h2, h3⟩ := hsrc hg hx
          obtain ⟨kk, d, xx, hb', rfl⟩ := conc_slz hs
          by_cases hroom : m ≤ xx
          · have := room_case (ty := ty) hg hu hi h2 (b0 := 0) (tt := none) hb (.inl rfl) hb' hroom (o := o) (sl := 0) (by simp) h1 hone.1 hone.2 (l0 := []) (by simp) (fun j hj => by simp at hj) (cs := fillT news 0 .lf) (df := none) (c := 0 + news.length) (fun j hj => fillT_cell _ _ _ hj) (by simp)
            rw [if_neg (by omega)]
            simpa using this
          · have key : ∀ a sc, (if xx = 0 then Value.slice (some ⟨kk, d + p, none⟩) 0 0 else .slice (some ⟨kk, d + o, none⟩) 0 xx) = .slice (some a) 0 sc → sc < m →
                ∃ ρ' y w', conc ρ' (.slc n 0 m m false) = some y ∧ (Builtin.append_ #[t, u] ty #[.slice (some a) 0 sc, ux]).run P w = .ok y w' ∧ Good ρ' n.succ (((hp H).del b).set n (.row (fillT news 0 .lf) (0 + news.length) none i.size none)) w' ∧ Fr ρ n (hp H) w ρ' n.succ (((hp H).del b).set n (.row (fillT news 0 .lf) (0 + news.length) none i.size none)) w' := by
              intro a sc _ hsc
              have := grow_case (ty := ty) hg (Hp.del_le _ b) (sl := 0) (sc := sc) (a := some a) (l0 := []) (l1 := news) (xs0 := []) (xs1 := xs) (cs := fillT news 0 .lf) (df := none) (c := 0 + news.length) hu hi hzv hz.1 h3 (by omega) hbd.1 hbd.2 (by simp [Builtin.firstCells, loadCells, loadCellsFrom]) rfl h1 (fun j hj => fillT_cell _ _ _ hj) (by simp) (.inr rfl)
              simpa using this
            by_cases hx0 : xx = 0
            · rw [if_pos hx0]
              exact key _ _ (by rw [if_pos hx0]) (by omega)
            · rw [if_neg hx0]
              exact key _ _ (by rw [if_neg hx0]) (by omega)
        · cases h
      · cases h
end
end Go.Proofs.Ytlpnhikoipkjbaa.Abs
