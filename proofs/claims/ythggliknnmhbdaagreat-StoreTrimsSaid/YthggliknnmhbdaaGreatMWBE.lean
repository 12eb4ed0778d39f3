/- Several texts in one: StC, StD, StE, StF, StG. -/
import Derived.Test.YthggliknnmhbdaaGreatMWBC
import Derived.Test.YthggliknnmhbdaaGreatMWBD
/- The walk of store.put's first closure: a head is appended to an empty part. No conditions beyond what it states. -/
namespace Go.Proofs.YthggliknnmhbdaaGreat
open Go.RowKit
set_option linter.unusedVariables false
theorem nDT_cur : ¬ DT 49 := fun h => by rcases h with h | h | h <;> revert h <;> decide
theorem nDT_u64 : ¬ DT 33 := fun h => by rcases h with h | h | h <;> revert h <;> decide
theorem nDT_int : ¬ DT 3 := fun h => by rcases h with h | h | h <;> revert h <;> decide
theorem nDT_store : ¬ DT 51 := fun h => by rcases h with h | h | h <;> revert h <;> decide
theorem nDT_pdisk : ¬ DT 24 := fun h => by rcases h with h | h | h <;> revert h <;> decide
theorem nDT_pstore : ¬ DT 23 := fun h => by rcases h with h | h | h <;> revert h <;> decide
/-- a part that has a head, and its book -/
structure PutP (p gs bb f : Nat) (tx : List UInt8) (X Y : List (List UInt8)) (B m : Nat) (w w' : World) : Prop where
  d : ∃ S, DkS w' p gs 20 S B m ∧ CurIs 20 S (X ++ sectorsL tx 10 ++ Y)
  b : BookB w' bb p f (10 : Nat) (sB tx) false
  far : FarX (fun b => b = bb) w w'
  only : Only (fun b => B ≤ b) w w'
set_option maxHeartbeats 2000000 in
set_option maxRecDepth 100000 in
theorem put1_ok (p gs bb f k g m cb gb sb : Nat) (S : Dst) (B : Nat) (s : ByteArray) (X Y : List (List UInt8)) (w : World) (D : DkS w p gs 20 S B m) (hc : CurIs 20 S (X ++ sectorsL [] 10 ++ Y)) (hX : X.length = f) (hf : f + 10 ≤ 20)
    (hb : BookB w bb p f (10 : Nat) (sB []) false) (hBb : B ≤ bb) (hcb : Blk w cb 49 #[.pointer (some ⟨bb, 0, none⟩), .int .i64 (k : Int), .int .u64 (g : Int)]) (hgb : Blk w gb 33 #[.int .u64 (g : Int)]) (hsb : Blk w sb 9 #[.string s])
    (hg : g < 18446744073709551616) (hs : s.size ≤ 65536) (hfit : fsize (hdB g s).size ≤ 1270) (hm : m + 7000 ≤ 1000000) :
    Calls Tryz.prog 48 #[.pointer (some ⟨cb, 0, none⟩), .pointer (some ⟨gb, 0, none⟩), .pointer (some ⟨sb, 0, none⟩)] w fun e w' => e = .returned (.int .i64 0) ∧ PutP p gs bb f (frsB [hdB g s]) X Y B (m + 12) w w' := by
  have hl := enc9_len g
  have hl2 := enc9_len s.size
  have hsz := hdB_size g s
  obtain ⟨hd, hhd⟩ : ∃ hd, hd = hdB g s := ⟨_, rfl⟩
  have HH : Hid (∀ W, Calls Tryz.prog 47 #[.int .u64 (g : Int), .string s] W fun e w' => e = .returned (.string hd) ∧ Below W.heap.size W w') := Lib.hid (fun W => by rw [hhd]; exact head_ok g s W hg (by omega))
  rw [← hhd] at hsz hfit ⊢
  have hap := appS_okH 20 f 10 X Y hX [] S [hd] hc (by simp) (fun x hx => by rw [List.mem_singleton.1 hx]; omega)
  have hapl := append_any p gs 20 f 10 bb S B m [] false [hd]
  obtain ⟨R, hR⟩ : ∃ R, R = appS 20 f 10 S [] false [hd] := ⟨_, rfl⟩
  rw [← hR] at hap hapl
  obtain ⟨h1, h2, h3⟩ : R.1 = 0 ∧ R.2.2 = (frsB [hd], false) ∧ CurIs 20 R.2.1 (X ++ sectorsL (frsB [hd]) 10 ++ Y) := by
    rcases hap with ⟨_, h⟩ | ⟨h1, h2, h3, _⟩
    · simp [fsz] at h; omega
    · simp only [List.nil_append] at h2 h3
      exact ⟨h1, h2, h3⟩
  have hbl := hb.lt
  have HA : Hid (∀ V1 V2 : World, Below w.heap.size w V1 → V2 = V1.alloc (.cells #[.string hd] 9) → Calls Tryz.prog 29 #[.pointer (some ⟨bb, 0, none⟩), .slice (some ⟨V1.heap.size, 0, none⟩) 1 1] V2 fun e w' => e = .returned (.int .i64 0) ∧ PutP p gs bb f (frsB [hd]) X Y B (m + 12) w w') := Lib.hid (fun V1 V2 o1 hV2 => by
    have o2 : Only (fun _ => False) w V2 := by rw [hV2]; exact (Only.below_ o1).alloc _
    have bv : Blk V2 V1.heap.size 9 #[.string hd] := by rw [hV2]; exact Blk.new V1 _ _
    have hnb : ¬ V1.heap.size = bb := fun e => by have := o1.size; omega
    have h := hapl (some ⟨V1.heap.size, 0, none⟩) 1 V2 (D.only o2) (o2.blk hb (fun h => h)) hBb (fun W hF _ => ⟨fun i hi => by
      obtain rfl : i = 0 := by simpa using hi
      have b' := hF.blk _ _ _ bv nDT_string hnb
      exact ⟨V1.heap.size, 0, rfl, b'.lt, b'.cell 0⟩⟩) hf (by simp) (by omega) (by simp) (fun x hx => by rw [List.mem_singleton.1 hx]; omega)
    rw [h1, h2] at h
    refine h.mono ?_
    rintro e w' ⟨k1, k2, k3, k4, k5⟩
    exact ⟨k1, ⟨_, k2, h3⟩, k3, (FarX.none o2).trans k4, (o2.mono fun _ h => h.elim).trans k5⟩)
  have hdr : Below w.heap.size w w.drew := (Below.refl _ w).drew
  have d0 : w.drew.cell? ⟨cb, 0, none⟩ = some (.pointer (some ⟨bb, 0, none⟩)) := hcb.cell 0
  have d1 : w.drew.cell? ⟨gb, 0, none⟩ = some (.int .u64 (g : Int)) := hgb.cell 0
  have d2 : w.drew.cell? ⟨sb, 0, none⟩ = some (.string s) := hsb.cell 0
  have HDR := Lib.hid hdr
  have HBK : Hid (Blk w bb 72 #[.pointer (some ⟨p, 0, none⟩), .int .i64 (f : Int), .int .i64 ((10 : Nat) : Int), .string (sB []), .bool false]) := Lib.hid hb
  have HCB := Lib.hid hcb
  have HGB := Lib.hid hgb
  have HSB := Lib.hid hsb
  clear hl hl2 hsz hhd hap hapl hR h1 h2 h3 hbl D hc hb hcb hgb hsb hfit hdr
  go_enter Tryz.func48, Tryz.ntmps48
  go_wp2_with fail
  go_region_held3 (fun w' => w'.cell? ⟨cb, 0, none⟩ = some (.pointer (some ⟨bb, 0, none⟩)) ∧ w'.cell? ⟨gb, 0, none⟩ = some (.int .u64 (g : Int)) ∧ w'.cell? ⟨sb, 0, none⟩ = some (.string s)) (go_keep) (first
    | (go_at_call 47; refine (HH.out _).mono ?_; rintro e V1 ⟨rfl, k1⟩; have O1 : Hid (Below w.heap.size w V1) := Lib.hid (HDR.out.trans (k1.mono HDR.out.size)); have o1 : Only (fun _ => False) w V1 := Only.below_ O1.out; obtain ⟨V2, hV2⟩ : ∃ V2, V2 = V1.alloc (.cells #[.string hd] 9) := ⟨_, rfl⟩; have HV2 := Lib.hid hV2.symm; have o2 : Only (fun _ => False) w V2 := (by rw [hV2]; exact o1.alloc _); have r0 : V1.cell? ⟨cb, 0, none⟩ = some (.pointer (some ⟨bb, 0, none⟩)) := (o1.blk HCB.out (fun h => h)).cell 0; have r1 : V1.cell? ⟨gb, 0, none⟩ = some (.int .u64 (g : Int)) := (o1.blk HGB.out (fun h => h)).cell 0; have r2 : V1.cell? ⟨sb, 0, none⟩ = some (.string s) := (o1.blk HSB.out (fun h => h)).cell 0; have s0 : V2.cell? ⟨cb, 0, none⟩ = some (.pointer (some ⟨bb, 0, none⟩)) := (o2.blk HCB.out (fun h => h)).cell 0; have s1 : V2.cell? ⟨gb, 0, none⟩ = some (.int .u64 (g : Int)) := (o2.blk HGB.out (fun h => h)).cell 0; have s2 : V2.cell? ⟨sb, 0, none⟩ = some (.string s) := (o2.blk HSB.out (fun h => h)).cell 0; rw [hV2] at s0 s1 s2; clear k1 o1 o2 hV2)
    | (go_at_call 29; rw [HV2.out]; refine (HA.out V1 V2 O1.out HV2.out.symm).mono ?_; rintro e V3 ⟨rfl, k1⟩; have K1 := Lib.hid k1; have t0 : V3.cell? ⟨cb, 0, none⟩ = some (.pointer (some ⟨bb, 0, none⟩)) := (k1.far.blk _ _ _ HCB.out nDT_cur (fun e => Blk.ne_ HCB.out HBK.out (by decide) e)).cell 0; have t1 : V3.cell? ⟨gb, 0, none⟩ = some (.int .u64 (g : Int)) := (k1.far.blk _ _ _ HGB.out nDT_u64 (fun e => Blk.ne_ HGB.out HBK.out (by decide) e)).cell 0; have t2 : V3.cell? ⟨sb, 0, none⟩ = some (.string s) := (k1.far.blk _ _ _ HSB.out nDT_string (fun e => Blk.ne_ HSB.out HBK.out (by decide) e)).cell 0; clear k1))
  go_wp2_with fail
  go_ret
  exact ⟨rfl, K1.out⟩
end Go.Proofs.YthggliknnmhbdaaGreat
/- The walks of book.Open at a part that records have made, of store.put at an empty part. No conditions beyond what each states. -/
namespace Go.Proofs.YthggliknnmhbdaaGreat
open Go.RowKit
set_option linter.unusedVariables false
attribute [local simp] frOf dstsOf frGo predsHold allHold Region.binds slotOf seen Is Act.put
/-- a part was opened -/
structure OpenP (p gs f : Nat) (S : Dst) (xs : List ByteArray) (B m bb : Nat) (A : Option Addr) (c : Nat) (w w' : World) : Prop where
  d : DkS w' p gs 20 S B m
  far : Far w w'
  only : Only (fun b => B ≤ b) w w'
  new : w.heap.size ≤ bb
  book : BookB w' bb p f (10 : Nat) (sB (frsB xs)) false
  row : w'.ownsRow w.heap.size 9 1 (.slice A xs.length c) xs.length (xs.map .string)
theorem bopen_ok (p gs f : Nat) (S : Dst) (xs : List ByteArray) (X Y : List (List UInt8)) (B m : Nat) (w : World) (D : DkS w p gs 20 S B m) (hc : CurIs 20 S (X ++ sectorsL (frsB xs) 10 ++ Y)) (hX : X.length = f) (hx : ∀ x ∈ xs, x.size ≤ 131072) (hl : (frsB xs).length ≤ 1270) (hm : m + 12000 ≤ 1000000) :
    Calls Tryz.prog 17 #[.pointer (some ⟨p, 0, none⟩), .int .i64 (f : Int), .int .i64 10] w fun e w' => ∃ bb A c, e = .returned (.tuple #[.pointer (some ⟨bb, 0, none⟩), .slice A xs.length c, .int .i64 0]) ∧ OpenP p gs f S xs B (m + 42) bb A c w w' := by
  obtain ⟨h1, h2, h3⟩ := opS_okH 20 f 10 X Y xs S hc hX (by omega) hx hl
  have h := bopen_full p gs 20 S B m (f : Int) ((10 : Nat) : Int) w D (by omega) (by omega) hm
  unfold txU at h2
  unfold rsU at h3
  rw [h1] at h h3
  rw [if_pos rfl] at h3
  refine h.mono ?_
  rintro e w' ⟨k1, k2, k3, k4⟩
  rcases k4 with ⟨_, b, v, he, hb, hB, hR⟩ | ⟨h0, he⟩
  · obtain ⟨A, c, hv, ht⟩ := own_texts hR
    rw [h3] at hv ht
    rw [h2] at hB
    exact ⟨b, A, c, by rw [he, hv], k1, k2, k3, hb, hB, ht⟩
  · exact absurd rfl h0
/-- the current of put, as it is made -/
structure CurSt (W : World) (cb k g : Nat) (b3 b5 : Bool) (y : World) : Prop where
  only : Only (fun b => b = cb) W y
  blk : Blk y cb 49 #[.pointer none, (if b3 = true then .int .i64 (k : Int) else .int .i64 0), (if b5 = true then .int .u64 (g : Int) else .int .u64 0)]
theorem results_put {fn : Func} {tmps : Array Value} {w : World} {g : Nat} {x y z : Value} (h : fn.results = #[.cell 10 49, .tmp 11]) (h4 : tmps.getD 10 undef = .pointer (some ⟨g, 0, none⟩)) (hb : Blk w g 49 #[x, y, z]) :
    (results fn tmps).run Tryz.prog w = .ok (.tuple #[.agg #[x, y, z], tmps.getD 11 undef]) w := by
  have c0 : w.cell? ⟨g, 0, none⟩ = some x := by rw [hb.cell]; rfl
  have c1 : w.cell? ⟨g, 1, none⟩ = some y := by rw [hb.cell]; rfl
  have c2 : w.cell? ⟨g, 2, none⟩ = some z := by rw [hb.cell]; rfl
  have h4' : tmps[10]?.getD undef = .pointer (some ⟨g, 0, none⟩) := by simpa using h4
  simp [results, h, h4', go_sem, c0, c1, c2, loadVar]
theorem nDT_fn : ¬ DT 31 := fun h => by rcases h with h | h | h <;> revert h <;> decide
/-- put's last region: how far it is -/
structure S5 (cb bb k g : Nat) (W6 W7 : World) (Q2 : World → Prop) (b5 b6 b7 : Bool) (y : World) : Prop where
  cur : Blk y cb 49 #[.pointer (some ⟨bb, 0, none⟩), .int .i64 (k : Int), .int .u64 (g : Int)]
  m6 : b6 = true → b5 = true
  m7 : b7 = true → b6 = true
  st : if b7 = true then ∃ y0, Q2 y0 ∧ Only (fun b => b = cb) y0 y else if b6 = true then Q2 y else if b5 = true then y = W7 else y = W6
section
variable {cb bb k g : Nat} {W6 W7 : World} {Q2 : World → Prop} {b5 b6 b7 : Bool} {y y' : World}
theorem S5.at5 (h : S5 cb bb k g W6 W7 Q2 b5 b6 b7 y) (h5 : b5 = false) : y = W6 := by
  have h6 : b6 = false := by cases b6 with | false => rfl | true => have := h.m6 rfl; rw [h5] at this; cases this
  have h7 : b7 = false := by cases b7 with | false => rfl | true => have := h.m7 rfl; rw [h6] at this; cases this
  have := h.st
  simpa [h5, h6, h7] using this
theorem S5.at6 (h : S5 cb bb k g W6 W7 Q2 b5 b6 b7 y) (h5 : b5 = true) (h6 : b6 = false) : y = W7 := by
  have h7 : b7 = false := by cases b7 with | false => rfl | true => have := h.m7 rfl; rw [h6] at this; cases this
  have := h.st
  simpa [h5, h6, h7] using this
theorem S5.do5 (h : S5 cb bb k g W6 W7 Q2 b5 b6 b7 y) (h5 : b5 = false) (hc : Blk W7 cb 49 #[.pointer (some ⟨bb, 0, none⟩), .int .i64 (k : Int), .int .u64 (g : Int)]) : S5 cb bb k g W6 W7 Q2 true b6 b7 W7 := by
  have h6 : b6 = false := by cases b6 with | false => rfl | true => have := h.m6 rfl; rw [h5] at this; cases this
  have h7 : b7 = false := by cases b7 with | false => rfl | true => have := h.m7 rfl; rw [h6] at this; cases this
  subst h6 h7
  exact ⟨hc, by simp, by simp, by simp⟩
theorem S5.do6 (h : S5 cb bb k g W6 W7 Q2 b5 b6 b7 y) (h5 : b5 = true) (h6 : b6 = false) (hc : Blk y' cb 49 #[.pointer (some ⟨bb, 0, none⟩), .int .i64 (k : Int), .int .u64 (g : Int)]) (hq : Q2 y') : S5 cb bb k g W6 W7 Q2 b5 true b7 y' := by
  have h7 : b7 = false := by cases b7 with | false => rfl | true => have := h.m7 rfl; rw [h6] at this; cases this
  subst h5 h7
  exact ⟨hc, by simp, by simp, by simpa using hq⟩
theorem S5.do7 (h : S5 cb bb k g W6 W7 Q2 b5 b6 b7 y) (h6 : b6 = true) (h7 : b7 = false) : S5 cb bb k g W6 W7 Q2 b5 b6 true (((y.setCell ⟨cb, 0, none⟩ (.pointer (some ⟨bb, 0, none⟩))).setCell ⟨cb, 1, none⟩ (.int .i64 (k : Int))).setCell ⟨cb, 2, none⟩ (.int .u64 (g : Int))) := by
  have hq : Q2 y := by have := h.st; simpa [h6, h7] using this
  refine ⟨((h.cur.set_ 0 (.pointer (some ⟨bb, 0, none⟩))).set_ 1 (.int .i64 (k : Int))).set_ 2 (.int .u64 (g : Int)), h.m6, fun _ => h6, ?_⟩
  rw [if_pos rfl]
  exact ⟨y, hq, (((Only.refl (fun b => b = cb) y).setCell (p := ⟨cb, 0, none⟩) (.inl rfl) _).setCell (p := ⟨cb, 1, none⟩) (.inl rfl) _).setCell (p := ⟨cb, 2, none⟩) (.inl rfl) _⟩
theorem S5.got (h : S5 cb bb k g W6 W7 Q2 b5 b6 b7 y) (h7 : b7 = true) : Blk y cb 49 #[.pointer (some ⟨bb, 0, none⟩), .int .i64 (k : Int), .int .u64 (g : Int)] ∧ ∃ y0, Q2 y0 ∧ Only (fun b => b = cb) y0 y := by
  have := h.st
  rw [if_pos h7] at this
  exact ⟨h.cur, this⟩
end
/-- a part has a head, and a book that is new -/
structure PutQ (p gs k g : Nat) (hd : ByteArray) (X Y : List (List UInt8)) (B m bb : Nat) (w w' : World) : Prop where
  d : ∃ S, DkS w' p gs 20 S B m ∧ CurIs 20 S (X ++ sectorsL (frsB [hd]) 10 ++ Y)
  b : BookB w' bb p (k * 10 : Nat) (10 : Nat) (sB (frsB [hd])) false
  new : w.heap.size ≤ bb
  far : Far w w'
  only : Only (fun b => B ≤ b) w w'
set_option maxHeartbeats 4000000 in
set_option maxRecDepth 100000 in
theorem put_ok (p gs k g m : Nat) (S : Dst) (B : Nat) (s : ByteArray) (X Y : List (List UInt8)) (w : World) (D : DkS w p gs 20 S B m) (hc : CurIs 20 S (X ++ sectorsL [] 10 ++ Y)) (hX : X.length = k * 10) (hk : k < 2)
    (hg : g < 18446744073709551616) (hs : s.size ≤ 65536) (hfit : fsize (hdB g s).size ≤ 1270) (hm : m + 20000 ≤ 1000000) :
    Calls Tryz.prog 26 #[.pointer (some ⟨p, 0, none⟩), .int .i64 (k : Int), .int .i64 10, .int .u64 (g : Int), .string s] w fun e w' => ∃ bb, e = .returned (.tuple #[.agg #[.pointer (some ⟨bb, 0, none⟩), .int .i64 (k : Int), .int .u64 (g : Int)], .int .i64 0]) ∧ PutQ p gs k g (hdB g s) X Y B (m + 55) bb w w' := by
  obtain ⟨w1, hw1⟩ : ∃ w1, w1 = w.alloc (.cells #[.int .u64 (g : Int)] 33) := ⟨_, rfl⟩
  obtain ⟨w2, hw2⟩ : ∃ w2, w2 = w1.alloc (.cells #[.string s] 9) := ⟨_, rfl⟩
  obtain ⟨w3, hw3⟩ : ∃ w3, w3 = w2.alloc (.cells #[.pointer none, .int .i64 0, .int .u64 0] 49) := ⟨_, rfl⟩
  obtain ⟨gb, hgb⟩ : ∃ gb, gb = w.heap.size := ⟨_, rfl⟩
  have z1 : w1.heap.size = gb + 1 := by rw [hw1, hgb]; simp
  have z2 : w2.heap.size = gb + 2 := by rw [hw2]; simp [z1]
  have o1 : Only (fun _ => False) w w1 := by rw [hw1]; exact (Only.refl _ w).alloc _
  have o2 : Only (fun _ => False) w1 w2 := by rw [hw2]; exact (Only.refl _ w1).alloc _
  have o3 : Only (fun _ => False) w2 w3 := by rw [hw3]; exact (Only.refl _ w2).alloc _
  have b1 : Blk w1 gb 33 #[.int .u64 (g : Int)] := by rw [hw1, hgb]; exact Blk.new w _ _
  have b2 : Blk w2 (gb + 1) 9 #[.string s] := by rw [hw2, ← z1]; exact Blk.new w1 _ _
  have b3 : Blk w3 (gb + 2) 49 #[.pointer none, .int .i64 0, .int .u64 0] := by rw [hw3, ← z2]; exact Blk.new w2 _ _
  obtain ⟨sb, hsb⟩ : ∃ sb, sb = gb + 1 := ⟨_, rfl⟩
  obtain ⟨cb, hcb⟩ : ∃ cb, cb = sb + 1 := ⟨_, rfl⟩
  rw [← hsb] at b2
  rw [show gb + 2 = cb by omega] at b3
  obtain ⟨W4, hW4⟩ : ∃ W4, W4 = w3.drew := ⟨_, rfl⟩
  have o4 : Only (fun _ => False) w3 W4 := by rw [hW4]; exact (Only.refl _ w3).drew
  have b1' := o4.blk (o3.blk (o2.blk b1 (fun h => h)) (fun h => h)) (fun h => h)
  have b2' := o4.blk (o3.blk b2 (fun h => h)) (fun h => h)
  have HC1 : Hid (W4.cell? ⟨gb, 0, none⟩ = some (.int .u64 (g : Int))) := Lib.hid (b1'.cell 0)
  have HB1 := Lib.hid b1'
  have HB2 := Lib.hid b2'
  have HB4 := Lib.hid (o4.blk b3 (fun h => h))
  have HL : Hid (gb < W4.heap.size) := Lib.hid b1'.lt
  have HNE : Hid (¬ gb = cb) := Lib.hid (by omega)
  have HNS : Hid (¬ sb = cb) := Lib.hid (by omega)
  have HO4 := Lib.hid (((o1.trans o2).trans o3).trans o4)
  have HW1 := Lib.hid hw1.symm
  have HW2 := Lib.hid hw2.symm
  have HW3 := Lib.hid hw3.symm
  have HW4 := Lib.hid hW4
  have HSB := Lib.hid hsb.symm
  have HCB := Lib.hid hcb.symm
  have HNEW : Hid (w.heap.size ≤ cb) := Lib.hid (by omega)
  have HD := Lib.hid D
  have HC := Lib.hid hc
  have HGS := Lib.hid hgb.symm
  clear z1 z2 o1 o2 o3 o4 b1 b2 b3 b1' b2' hw1 hw2 hw3 hW4 hc D hsb hcb hgb
  go_enter Tryz.func26, Tryz.ntmps26
  go_wp2_with fail
  rw [HGS.out]
  rw [HW1.out, HW2.out, HW3.out, HSB.out, HCB.out]
  refine wp_region_st (by kernel_rfl) (fun dn y => CurSt W4 cb k g (dn 3) (dn 5) y) [Is (.int .i64 (k : Int)), Is (.int .u64 (g : Int)), Is (.pointer (some ⟨cb, 1, none⟩)), fun _ _ => True, Is (.pointer (some ⟨cb, 2, none⟩)), fun _ _ => True] (by kernel_rfl)
    ⟨is_stab _ _, is_stab _ _, is_stab _ _, (fun _ _ _ _ _ => trivial), is_stab _ _, (fun _ _ _ _ _ => trivial), trivial⟩ (by rw [← HW4.out]; exact ⟨Only.refl _ _, by simpa using HB4.out⟩) ⟨?_, ?_, ?_, ?_, ?_, ?_, trivial⟩ ?_
  · intro dn u w1 hi he hS hp K hK
    refine ord_plain rfl ?_
    simp at hp hK ⊢
    go_simp
    exact hK _ _ (by simpa [ldW] using hS) rfl
  · intro dn u w1 hi he hS hp K hK
    refine ord_plain rfl ?_
    simp at hp hK ⊢
    have hc : w1.cell? ⟨gb, 0, none⟩ = some (.int .u64 (g : Int)) := (hS.only.cell (p := ⟨gb, 0, none⟩) HL.out HNE.out).trans HC1.out
    go_simp
    exact hK _ _ (by simpa [ldW] using hS) rfl
  · intro dn u w1 hi he hS hp K hK
    refine ord_plain rfl ?_
    simp at hp hK ⊢
    simp only [hp] at hK
    go_simp
    exact hK _ _ (by simpa [ldW] using hS) rfl
  · intro dn u w1 hi he hS hp K hK
    refine ord_plain rfl ?_
    simp at hp hK ⊢
    simp only [hp] at hK
    have hc1 := hS.blk.cell 1
    have hf1 : w1.frozen? ⟨cb, 1, none⟩ = false := hS.blk.frozen 1
    go_simp
    exact hK _ ⟨hS.only.setCell (p := ⟨cb, 1, none⟩) (.inl rfl) _, by have hb := hS.blk.set_ 1 (.int .i64 (k : Int)); simpa [ldW, hi] using hb⟩
  · intro dn u w1 hi he hS hp K hK
    refine ord_plain rfl ?_
    simp at hp hK ⊢
    simp only [hp] at hK
    go_simp
    exact hK _ _ (by simpa [ldW] using hS) rfl
  · intro dn u w1 hi he hS hp K hK
    refine ord_plain rfl ?_
    simp at hp hK ⊢
    simp only [hp] at hK
    have hc2 := hS.blk.cell 2
    have hf2 : w1.frozen? ⟨cb, 2, none⟩ = false := hS.blk.frozen 2
    go_simp
    exact hK _ ⟨hS.only.setCell (p := ⟨cb, 2, none⟩) (.inl rfl) _, by have hb := hS.blk.set_ 2 (.int .u64 (g : Int)); simpa [ldW, hi] using hb⟩
  · intro u w1 dn hld hS hp
    simp at hp ⊢
    have h3 := hld 3 (by decide)
    have h5 := hld 5 (by decide)
    have hb := hS.blk
    simp only [h3, h5, if_true] at hb
    have HS1 := Lib.hid hS.only
    have HS2 := Lib.hid hb
    clear hS hb hp hld h3 h5
    obtain ⟨y1, hy1⟩ : ∃ y1, y1 = w1 := ⟨_, rfl⟩
    rw [← hy1] at HS1 HS2 ⊢
    clear hy1
    have HOY : Hid (Only (fun _ => False) w y1) := Lib.hid (HO4.out.trans' HS1.out (fun i hi => .inr (by rw [hi]; exact HNEW.out)))
    have HBu : Hid (B < w.heap.size) := Lib.hid HD.out.size
    have hOp := bopen_ok p gs (k * 10) S [] X Y B m y1 (HD.out.only HOY.out) HC.out hX (by simp) (by simp [frsB]) (by omega)
    have hki : ((k * 10 : Nat) : Int) = (k : Int) * 10 := by omega
    rw [hki] at hOp
    have hwk : IntKind.i64.wrap ((k : Int) * 10) = (k : Int) * 10 := IntWalk.i64_in _ (by omega)
    have HOP := Lib.hid hOp
    clear hOp hki
    go_wp2_with fail
    refine HOP.out.mono ?_
    rintro e y2 ⟨bb, A, c, rfl, OP⟩
    have HO := Lib.hid OP
    have HB2' : Hid (Blk y2 sb 9 #[.string s]) := Lib.hid (OP.far.blk _ _ _ (HS1.out.blk HB2.out HNS.out) nDT_string)
    have HB1' : Hid (Blk y2 gb 33 #[.int .u64 (g : Int)]) := Lib.hid (OP.far.blk _ _ _ (HS1.out.blk HB1.out HNE.out) nDT_u64)
    have hcur := OP.far.blk _ _ _ HS2.out nDT_cur
    have c0 : y2.cell? ⟨cb, 0, none⟩ = some (.pointer none) := hcur.cell 0
    have f0 : y2.frozen? ⟨cb, 0, none⟩ = false := hcur.frozen 0
    have hcur3 := hcur.set_ 0 (.pointer (some ⟨bb, 0, none⟩))
    obtain ⟨y3, hy3⟩ : ∃ y3, y3 = y2.setCell ⟨cb, 0, none⟩ (.pointer (some ⟨bb, 0, none⟩)) := ⟨_, rfl⟩
    have o3 : Only (fun b => b = cb) y2 y3 := by rw [hy3]; exact (Only.refl (fun b => b = cb) y2).setCell (p := ⟨cb, 0, none⟩) (.inl rfl) _
    rw [← hy3] at hcur3
    obtain ⟨W6, hW6⟩ : ∃ W6, W6 = y3.drew := ⟨_, rfl⟩
    have o6 : Only (fun _ => False) y3 W6 := by rw [hW6]; exact (Only.refl _ y3).drew
    obtain ⟨W7, hW7⟩ : ∃ W7, W7 = W6.alloc (.cells #[.func (.func 48) #[] #[.pointer (some ⟨cb, 0, none⟩), .pointer (some ⟨gb, 0, none⟩), .pointer (some ⟨sb, 0, none⟩)], .func (.func 30) #[.pointer (some ⟨bb, 0, none⟩)] #[]] 31) := ⟨_, rfl⟩
    obtain ⟨fb, hfb⟩ : ∃ fb, fb = W6.heap.size := ⟨_, rfl⟩
    have o7 : Only (fun _ => False) W6 W7 := by rw [hW7]; exact (Only.refl _ W6).alloc _
    have bf : Blk W7 fb 31 #[.func (.func 48) #[] #[.pointer (some ⟨cb, 0, none⟩), .pointer (some ⟨gb, 0, none⟩), .pointer (some ⟨sb, 0, none⟩)], .func (.func 30) #[.pointer (some ⟨bb, 0, none⟩)] #[]] := by rw [hW7, hfb]; exact Blk.new W6 _ _
    have hcu6 := o6.blk hcur3 (fun h => h)
    have hcu7 := o7.blk hcu6 (fun h => h)
    have oc : Only (fun b => b = cb) y2 W7 := o3.trans ((o6.trans o7).mono fun _ h => h.elim)
    have d7 : DkS W7 p gs 20 S B (m + 42) := OP.d.away hcur oc nDT_cur
    have hk7 : BookB W7 bb p (k * 10 : Nat) (10 : Nat) (sB []) false := oc.blk OP.book (fun e => Blk.ne_ OP.book hcur (by decide) e)
    have hBb : B ≤ bb := by have h1 := OP.new; have h2 := HOY.out.size; have := HBu.out; omega
    have g7 : Blk W7 gb 33 #[.int .u64 (g : Int)] := oc.blk HB1'.out HNE.out
    have s7 : Blk W7 sb 9 #[.string s] := oc.blk HB2'.out HNS.out
    obtain ⟨tx, htx⟩ : ∃ tx, tx = frsB [hdB g s] := ⟨_, rfl⟩
    obtain ⟨Q2, hQ2⟩ : ∃ Q2 : World → Prop, Q2 = fun y => PutP p gs bb (k * 10) tx X Y B (m + 55) W7 y := ⟨_, rfl⟩
    have hp1 := put1_ok p gs bb (k * 10) k g (m + 42) cb gb sb S B s X Y W7 d7 HC.out hX (by omega) hk7 hBb hcu7 g7 s7 hg hs hfit (by omega)
    rw [← htx] at hp1
    have hsy : ∀ W, PutP p gs bb (k * 10) tx X Y B (m + 42 + 12) W7 W → Calls Tryz.prog 30 #[.pointer (some ⟨bb, 0, none⟩)] W fun e w' => e = .returned (.int .i64 0) ∧ PutP p gs bb (k * 10) tx X Y B (m + 55) W7 w' := fun W hP => by
      obtain ⟨S1, hd1, hc1⟩ := hP.d
      obtain ⟨q1, q2⟩ := hc1.sy
      have h := bsync_any p gs 20 (k * 10) 10 bb S1 B (m + 42 + 12) tx false W hd1 hP.b hBb (by omega)
      have e1 : bsyS S1 false = (0, ⟨X ++ sectorsL tx 10 ++ Y, [], none⟩, false) := by
        unfold bsyS
        rw [if_neg (by simp), q1]
        rfl
      rw [e1] at h
      refine h.mono ?_
      rintro e w' ⟨k1, k2, k3, k4, k5⟩
      exact ⟨k1, ⟨_, k2, q2⟩, k3, hP.far.trans k4, hP.only.trans k5⟩
    have hfirst := first_any 2 (fun i => if i = 0 then 48 else 30) (fun i => if i = 0 then #[] else #[.pointer (some ⟨bb, 0, none⟩)]) (fun i => if i = 0 then #[.pointer (some ⟨cb, 0, none⟩), .pointer (some ⟨gb, 0, none⟩), .pointer (some ⟨sb, 0, none⟩)] else #[]) fb 2 (fun i W => if i = 0 then W = W7 else if i = 1 then PutP p gs bb (k * 10) tx X Y B (m + 42 + 12) W7 W else Q2 W) (fun _ _ => False) W7 (by omega)
      (fun i hi W hW => by
        have hbf : Blk W fb 31 #[.func (.func 48) #[] #[.pointer (some ⟨cb, 0, none⟩), .pointer (some ⟨gb, 0, none⟩), .pointer (some ⟨sb, 0, none⟩)], .func (.func 30) #[.pointer (some ⟨bb, 0, none⟩)] #[]] := by
          by_cases h0 : i = 0
          · rw [if_pos h0] at hW; rw [hW]; exact bf
          · rw [if_neg h0, if_pos (by omega)] at hW
            exact hW.far.blk _ _ _ bf nDT_fn (fun e => Blk.ne_ bf hk7 (by decide) e)
        by_cases h0 : i = 0
        · subst h0; exact hbf.cell 0
        · obtain rfl : i = 1 := by omega
          exact hbf.cell 1)
      (fun i hi xs W => by
        by_cases h0 : i = 0
        · subst h0; exact enters_of Tryz.func48 (by kernel_rfl) rfl xs W
        · rw [if_neg h0]; exact enters_of Tryz.func30 (by kernel_rfl) rfl xs W)
      (fun i hi W hW => by
        by_cases h0 : i = 0
        · subst h0
          obtain rfl : W = W7 := hW
          exact hp1.mono fun e w' h => .inl ⟨h.1, h.2⟩
        · obtain rfl : i = 1 := by omega
          exact (hsy W hW).mono fun e w' h => .inl ⟨h.1, by show Q2 w'; rw [hQ2]; exact h.2⟩)
      rfl
    have HF : Hid (Calls Tryz.prog 19 #[.slice (some ⟨fb, 0, none⟩) 2 2] W7 (FirstP 2 (fun i W => if i = 0 then W = W7 else if i = 1 then PutP p gs bb (k * 10) tx X Y B (m + 42 + 12) W7 W else Q2 W) (fun _ _ => False))) := Lib.hid hfirst
    have HQ : Hid (∀ y, (if (2 : Nat) = 0 then y = W7 else if (2 : Nat) = 1 then PutP p gs bb (k * 10) tx X Y B (m + 42 + 12) W7 y else Q2 y) → Q2 y) := Lib.hid (fun y h => h)
    have HQC : Hid (∀ y, (if (2 : Nat) = 0 then y = W7 else if (2 : Nat) = 1 then PutP p gs bb (k * 10) tx X Y B (m + 42 + 12) W7 y else Q2 y) → Blk y cb 49 #[.pointer (some ⟨bb, 0, none⟩), .int .i64 (k : Int), .int .u64 (g : Int)]) := Lib.hid (fun y h => by
      have h2 : Q2 y := h
      rw [hQ2] at h2
      exact h2.far.blk _ _ _ hcu7 nDT_cur (fun e => Blk.ne_ hcu7 hk7 (by decide) e))
    have HQ2 := Lib.hid hQ2
    have HTX := Lib.hid htx
    have HCU := Lib.hid hcu6
    have HC7 := Lib.hid hcu7
    have HW6 := Lib.hid hW6
    have HW7 := Lib.hid hW7.symm
    have HFB := Lib.hid hfb.symm
    have HY3 := Lib.hid hy3.symm
    have HCUR := Lib.hid hcur
    have HOC := Lib.hid oc
    have HFAR : Hid (FarX (fun b => b = bb ∨ b = cb) w W7) := Lib.hid ((FarX.none HOY.out).trans ((FarX.far OP.far).trans (FarX.of_only oc fun b hb => .inr hb)))
    have HONL : Hid (Only (fun b => B ≤ b) w W7) := Lib.hid ((HOY.out.mono fun _ h => h.elim).trans (OP.only.trans (oc.mono fun b hb => by rw [hb]; have := HNEW.out; have := HBu.out; omega)))
    have HBB := Lib.hid (show w.heap.size ≤ bb by have h1 := OP.new; have h2 := HOY.out.size; omega)
    clear OP hcur hcur3 o3 o6 hW6 hW7 o7 bf hcu6 hcu7 oc d7 hk7 hBb g7 s7 htx hQ2 hp1 hsy hfirst hfb hy3 hwk
    go_wp2_with fail
    rw [HY3.out]
    clear c0 f0
    refine wp_region_st (by kernel_rfl) (fun dn y => S5 cb bb k g W6 W7 Q2 (dn 5) (dn 6) (dn 7) y) [Is (.agg #[.pointer (some ⟨bb, 0, none⟩), .int .i64 (k : Int), .int .u64 (g : Int)]), Is (.func (.func 48) #[] #[.pointer (some ⟨cb, 0, none⟩), .pointer (some ⟨gb, 0, none⟩), .pointer (some ⟨sb, 0, none⟩)]), Is (.pointer (some ⟨cb, 0, none⟩)), Is (.pointer (some ⟨bb, 0, none⟩)), Is (.func (.func 30) #[.pointer (some ⟨bb, 0, none⟩)] #[]), Is (.slice (some ⟨fb, 0, none⟩) 2 2), Is (.int .i64 0), fun _ _ => True, Is (.int .i64 0)] (by kernel_rfl)
      ⟨is_stab _ _, is_stab _ _, is_stab _ _, is_stab _ _, is_stab _ _, is_stab _ _, is_stab _ _, (fun _ _ _ _ _ => trivial), is_stab _ _, trivial⟩ (by rw [← HW6.out]; exact ⟨HCU.out, by simp, by simp, by simp⟩) ⟨?_, ?_, ?_, ?_, ?_, ?_, ?_, ?_, ?_, trivial⟩ ?_
    · intro dn u w1 hi he hS hp K hK
      refine ord_plain rfl ?_
      simp at hp hK ⊢
      have hc0 : w1.cell? ⟨cb, 0, none⟩ = some (.pointer (some ⟨bb, 0, none⟩)) := hS.cur.cell 0
      have hc1 : w1.cell? ⟨cb, 1, none⟩ = some (.int .i64 (k : Int)) := hS.cur.cell 1
      have hc2 : w1.cell? ⟨cb, 2, none⟩ = some (.int .u64 (g : Int)) := hS.cur.cell 2
      go_simp
      exact hK _ _ (by simpa [ldW] using hS) rfl
    · intro dn u w1 hi he hS hp K hK
      refine ord_plain rfl ?_
      simp at hp hK ⊢
      go_simp
      exact hK _ _ (by simpa [ldW] using hS) rfl
    · intro dn u w1 hi he hS hp K hK
      refine ord_plain rfl ?_
      simp at hp hK ⊢
      go_simp
      exact hK _ _ (by simpa [ldW] using hS) rfl
    · intro dn u w1 hi he hS hp K hK
      refine ord_plain rfl ?_
      simp at hp hK ⊢
      simp only [hp] at hK
      have hc0 : w1.cell? ⟨cb, 0, none⟩ = some (.pointer (some ⟨bb, 0, none⟩)) := hS.cur.cell 0
      go_simp
      exact hK _ _ (by simpa [ldW] using hS) rfl
    · intro dn u w1 hi he hS hp K hK
      refine ord_plain rfl ?_
      simp at hp hK ⊢
      simp only [hp] at hK
      go_simp
      exact hK _ _ (by simpa [ldW] using hS) rfl
    · intro dn u w1 hi he hS hp K hK
      refine ord_plain rfl ?_
      simp at hp hK ⊢
      simp only [hp] at hK
      obtain rfl := hS.at5 hi
      have hfb := HFB.out
      go_simp
      try rw [hfb]
      exact hK _ _ (by rw [HW7.out]; simpa [ldW] using hS.do5 hi HC7.out) rfl
    · intro dn u w1 hi he hS hp K hK
      refine ord_plain rfl ?_
      simp at hp hK ⊢
      simp only [hp] at hK
      have h5 : dn 5 = true := by simp [edgesDone] at he; simp [he]
      obtain rfl := hS.at6 h5 hi
      go_simp
      refine HF.out.mono ?_
      rintro e w2 (⟨rfl, k1⟩ | ⟨r, hr, rfl, k1⟩)
      · exact hK _ _ (by simpa [ldW, h5] using hS.do6 h5 hi (HQC.out w2 k1) (HQ.out w2 k1)) rfl
      · exact k1.elim
    · intro dn u w1 hi he hS hp K hK
      refine ord_plain rfl ?_
      simp at hp hK ⊢
      simp only [hp] at hK
      have h6 : dn 6 = true := by simp [edgesDone] at he; simp [he]
      have hc0 : w1.cell? ⟨cb, 0, none⟩ = some (.pointer (some ⟨bb, 0, none⟩)) := hS.cur.cell 0
      have hc1 : w1.cell? ⟨cb, 1, none⟩ = some (.int .i64 (k : Int)) := hS.cur.cell 1
      have hc2 : w1.cell? ⟨cb, 2, none⟩ = some (.int .u64 (g : Int)) := hS.cur.cell 2
      have hf0 : w1.frozen? ⟨cb, 0, none⟩ = false := hS.cur.frozen 0
      have hf1 : w1.frozen? ⟨cb, 1, none⟩ = false := hS.cur.frozen 1
      have hf2 : w1.frozen? ⟨cb, 2, none⟩ = false := hS.cur.frozen 2
      go_simp
      exact hK _ (by simpa [ldW, h6] using hS.do7 h6 hi)
    · intro dn u w1 hi he hS hp K hK
      refine ord_plain rfl ?_
      simp at hp hK ⊢
      simp only [hp] at hK
      go_simp
      exact hK _ _ (by simpa [ldW] using hS) rfl
    · intro u w1 dn hld hS hp
      simp at hp ⊢
      have hQ := hS.got (hld 7 (by decide))
      have h8 : u 11 = .int .i64 0 := by first | exact hp.2.2.2.2.2.2.2.2 | exact hp.2.2.2.2.2.2.2
      simp only [h8]
      clear hS hp hld h8
      obtain ⟨hcb, y0, hq, o0⟩ := hQ
      obtain ⟨yz, hyz⟩ : ∃ yz, yz = w1 := ⟨_, rfl⟩
      rw [← hyz] at hcb o0 ⊢
      clear hyz
      have z0 : yz.cell? ⟨cb, 0, none⟩ = some (.pointer (some ⟨bb, 0, none⟩)) := hcb.cell 0
      have z1 : yz.cell? ⟨cb, 1, none⟩ = some (.int .i64 (k : Int)) := hcb.cell 1
      have z2 : yz.cell? ⟨cb, 2, none⟩ = some (.int .u64 (g : Int)) := hcb.cell 2
      rw [HQ2.out] at hq
      have HQ0 := Lib.hid hq
      have HO0 := Lib.hid o0
      have HZC := Lib.hid hcb
      clear hcb hq o0
      go_wp2_with fail
      try simp only [Exit.inBlock, Exit.then]
      refine bodyPost_ret (results_put Tryz.results26 rfl HZC.out) rfl ?_
      have hq := HQ0.out
      have oz : Only (fun b => b = cb) y0 yz := HO0.out
      have hcur0' : Blk y0 cb 49 #[.pointer (some ⟨bb, 0, none⟩), .int .i64 (k : Int), .int .u64 (g : Int)] := HQC.out y0 (by show Q2 y0; rw [HQ2.out]; exact hq)
      refine ⟨bb, rfl, ?_, ?_, HBB.out, ?_, ?_⟩
      · obtain ⟨S1, h1, h2⟩ := hq.d
        exact ⟨S1, h1.away hcur0' oz nDT_cur, by rw [← HTX.out]; exact h2⟩
      · rw [← HTX.out]
        exact oz.blk hq.b (fun e => Blk.ne_ hq.b hcur0' (by decide) e)
      · exact FarX.new ((HFAR.out.trans (hq.far.mono fun b hb => .inl hb)).trans (FarX.of_only oz fun b hb => .inr hb)) (fun b hb => by
          rcases hb with hb | hb
          · rw [hb]; exact HBB.out
          · rw [hb]; exact HNEW.out)
      · exact (HONL.out.trans hq.only).trans (oz.mono fun b hb => by rw [hb]; have := HNEW.out; have := HBu.out; omega)
end Go.Proofs.YthggliknnmhbdaaGreat
/- The walk of store.Make on an empty disk. No conditions beyond what each states. -/
namespace Go.Proofs.YthggliknnmhbdaaGreat
open Go.RowKit
set_option linter.unusedVariables false
/-- a disk of twenty sectors that are read as these -/
def DiskIs (p gs B m : Nat) (L : List (List UInt8)) (w : World) : Prop := ∃ S, DkS w p gs 20 S B m ∧ CurIs 20 S L
theorem DiskIs.more {p gs B m m' : Nat} {L : List (List UInt8)} {w : World} (h : DiskIs p gs B m L w) (h1 : m ≤ m') (h2 : m' ≤ 1000000) : DiskIs p gs B m' L w := by
  obtain ⟨S, a, b⟩ := h
  exact ⟨S, a.more h1 h2, b⟩
theorem DiskIs.only {p gs B m : Nat} {L : List (List UInt8)} {w w' : World} (h : DiskIs p gs B m L w) (o : Only (fun _ => False) w w') : DiskIs p gs B m L w' := by
  obtain ⟨S, a, b⟩ := h
  exact ⟨S, a.only o, b⟩
theorem cclear_ok (p gs f : Nat) (X T Y : List (List UInt8)) (B m : Nat) (w : World) (D : DiskIs p gs B m (X ++ T ++ Y) w) (hX : X.length = f) (hT : T.length = 10) (hm : m + 12000 ≤ 1000000) :
    Calls Tryz.prog 23 #[.pointer (some ⟨p, 0, none⟩), .int .i64 (f : Int), .int .i64 10] w fun e w' => e = .returned (.int .i64 0) ∧ DiskIs p gs B (m + 42) (X ++ sectorsL [] 10 ++ Y) w' ∧ Far w w' ∧ Only (fun b => B ≤ b) w w' := by
  obtain ⟨S, D, hc⟩ := D
  obtain ⟨h1, h2⟩ := clS_okH 20 f 10 X T Y S hc hX hT (by omega)
  have h := bclear_full p gs 20 S B m (f : Int) ((10 : Nat) : Int) w D (by omega) (by omega) hm
  rw [h1] at h
  refine h.mono ?_
  rintro e w' ⟨k1, k2, k3, k4⟩
  exact ⟨k1, ⟨_, k2, h2⟩, k3, k4⟩
theorem mk1_ok (hb tb : Nat) (s : ByteArray) (w : World) (h1 : w.cell? ⟨hb, 0, none⟩ = some (.int .i64 10)) (h2 : w.cell? ⟨tb, 0, none⟩ = some (.string s)) (hs : s.size ≤ 65536) (hfit : fsize (hdB 1 s).size ≤ 1270) :
    Calls Tryz.prog 20 #[.pointer (some ⟨hb, 0, none⟩), .pointer (some ⟨tb, 0, none⟩)] w fun e w' => e = .returned (.int .i64 0) ∧ Only (fun _ => False) w w' := by
  have hf := fits_ok 1 s w (by omega) hs
  unfold fitR at hf
  rw [if_neg (by omega)] at hf
  have HF : Hid (Calls Tryz.prog 21 #[.int .i64 10, .int .u64 1, .string s] w fun e w' => e = .returned (.int .i64 0) ∧ Below w.heap.size w w') := Lib.hid hf
  clear hf hfit
  go_enter Tryz.func20, Tryz.ntmps20
  go_wp2_with fail
  refine HF.out.mono ?_
  rintro e w1 ⟨rfl, k1⟩
  have K1 := Lib.hid k1
  clear k1
  go_wp2_with fail
  go_ret
  exact ⟨rfl, Only.below_ K1.out⟩
theorem mk2_ok (p gs db hb : Nat) (T Y : List (List UInt8)) (B m : Nat) (w : World) (h0 : w.cell? ⟨db, 0, none⟩ = some (.pointer (some ⟨p, 0, none⟩))) (h1 : w.cell? ⟨hb, 0, none⟩ = some (.int .i64 10)) (D : DiskIs p gs B m ([] ++ T ++ Y) w) (hT : T.length = 10) (hm : m + 12000 ≤ 1000000) :
    Calls Tryz.prog 22 #[.pointer (some ⟨db, 0, none⟩), .pointer (some ⟨hb, 0, none⟩)] w fun e w' => e = .returned (.int .i64 0) ∧ DiskIs p gs B (m + 42) ([] ++ sectorsL [] 10 ++ Y) w' ∧ Far w w' ∧ Only (fun b => B ≤ b) w w' := by
  have HC : Hid (Calls Tryz.prog 23 #[.pointer (some ⟨p, 0, none⟩), .int .i64 0, .int .i64 10] w fun e w' => e = .returned (.int .i64 0) ∧ DiskIs p gs B (m + 42) ([] ++ sectorsL [] 10 ++ Y) w' ∧ Far w w' ∧ Only (fun b => B ≤ b) w w') := Lib.hid (cclear_ok p gs 0 [] T Y B m w D rfl hT hm)
  clear D
  go_enter Tryz.func22, Tryz.ntmps22
  go_wp2_with fail
  refine HC.out.mono ?_
  rintro e w1 ⟨rfl, k1, k2, k3⟩
  have K := Lib.hid (And.intro k1 (And.intro k2 k3))
  clear k1 k2 k3
  go_wp2_with fail
  go_ret
  exact ⟨rfl, K.out⟩
theorem mk3_ok (p gs db hb : Nat) (X T : List (List UInt8)) (B m : Nat) (w : World) (h0 : w.cell? ⟨db, 0, none⟩ = some (.pointer (some ⟨p, 0, none⟩))) (h1 : w.cell? ⟨hb, 0, none⟩ = some (.int .i64 10)) (D : DiskIs p gs B m (X ++ T ++ []) w) (hX : X.length = 10) (hT : T.length = 10) (hm : m + 12000 ≤ 1000000) :
    Calls Tryz.prog 24 #[.pointer (some ⟨db, 0, none⟩), .pointer (some ⟨hb, 0, none⟩)] w fun e w' => e = .returned (.int .i64 0) ∧ DiskIs p gs B (m + 42) (X ++ sectorsL [] 10 ++ []) w' ∧ Far w w' ∧ Only (fun b => B ≤ b) w w' := by
  have HC : Hid (Calls Tryz.prog 23 #[.pointer (some ⟨p, 0, none⟩), .int .i64 10, .int .i64 10] w fun e w' => e = .returned (.int .i64 0) ∧ DiskIs p gs B (m + 42) (X ++ sectorsL [] 10 ++ []) w' ∧ Far w w' ∧ Only (fun b => B ≤ b) w w') := Lib.hid (cclear_ok p gs 10 X T [] B m w D hX hT hm)
  clear D
  go_enter Tryz.func24, Tryz.ntmps24
  go_wp2_with fail
  refine HC.out.mono ?_
  rintro e w1 ⟨rfl, k1, k2, k3⟩
  have K := Lib.hid (And.intro k1 (And.intro k2 k3))
  clear k1 k2 k3
  go_wp2_with fail
  go_ret
  exact ⟨rfl, K.out⟩
theorem mk4_ok (p gs db hb tb : Nat) (Y : List (List UInt8)) (s : ByteArray) (B m : Nat) (w : World) (h0 : w.cell? ⟨db, 0, none⟩ = some (.pointer (some ⟨p, 0, none⟩))) (h1 : w.cell? ⟨hb, 0, none⟩ = some (.int .i64 10)) (h2 : w.cell? ⟨tb, 0, none⟩ = some (.string s)) (D : DiskIs p gs B m ([] ++ sectorsL [] 10 ++ Y) w) (hs : s.size ≤ 65536) (hfit : fsize (hdB 1 s).size ≤ 1270) (hm : m + 20000 ≤ 1000000) :
    Calls Tryz.prog 25 #[.pointer (some ⟨db, 0, none⟩), .pointer (some ⟨hb, 0, none⟩), .pointer (some ⟨tb, 0, none⟩)] w fun e w' => e = .returned (.int .i64 0) ∧ DiskIs p gs B (m + 55) ([] ++ sectorsL (frsB [hdB 1 s]) 10 ++ Y) w' ∧ Far w w' ∧ Only (fun b => B ≤ b) w w' := by
  obtain ⟨S, D, hc⟩ := D
  have HC : Hid (Calls Tryz.prog 26 #[.pointer (some ⟨p, 0, none⟩), .int .i64 0, .int .i64 10, .int .u64 1, .string s] w fun e w' => ∃ bb, e = .returned (.tuple #[.agg #[.pointer (some ⟨bb, 0, none⟩), .int .i64 0, .int .u64 1], .int .i64 0]) ∧ PutQ p gs 0 1 (hdB 1 s) [] Y B (m + 55) bb w w') := Lib.hid (put_ok p gs 0 1 m S B s [] Y w D hc rfl (by omega) (by omega) hs hfit hm)
  clear D hc hfit
  go_enter Tryz.func25, Tryz.ntmps25
  go_wp2_with fail
  refine HC.out.mono ?_
  rintro e w1 ⟨bb, rfl, k⟩
  have K := Lib.hid k
  clear k
  have oa : Only (fun _ => False) w1 (w1.alloc (.cells #[.pointer (some ⟨bb, 0, none⟩), .int .i64 0, .int .u64 1] 49)) := (Only.refl _ w1).alloc _
  have HOA := Lib.hid oa
  clear oa
  go_wp2_with fail
  go_ret
  exact ⟨rfl, DiskIs.only K.out.d HOA.out, K.out.far.trans (Far.of_none HOA.out), K.out.only.trans (HOA.out.mono fun _ h => h.elim)⟩
theorem nDT_func : ¬ DT 31 := fun h => by rcases h with h | h | h <;> revert h <;> decide
/-- what stands of Make's memory, and its disk -/
structure MkJ (p gs B m db hb tb fb : Nat) (s : ByteArray) (row : Array Value) (L : List (List UInt8)) (w W : World) : Prop where
  d : DiskIs p gs B m L W
  far : Far w W
  only : Only (fun b => B ≤ b) w W
  b0 : Blk W db 24 #[.pointer (some ⟨p, 0, none⟩)]
  b1 : Blk W hb 3 #[.int .i64 10]
  b2 : Blk W tb 9 #[.string s]
  b3 : Blk W fb 31 row
theorem MkJ.next {p gs B m m' db hb tb fb : Nat} {s : ByteArray} {row : Array Value} {L L' : List (List UInt8)} {w W W' : World} (h : MkJ p gs B m db hb tb fb s row L w W) (d : DiskIs p gs B m' L' W') (f : Far W W') (o : Only (fun b => B ≤ b) W W') : MkJ p gs B m' db hb tb fb s row L' w W' :=
  ⟨d, h.far.trans f, h.only.trans o, f.blk _ _ _ h.b0 nDT_pdisk, f.blk _ _ _ h.b1 nDT_int, f.blk _ _ _ h.b2 nDT_string, f.blk _ _ _ h.b3 nDT_func⟩
set_option maxHeartbeats 2000000 in
set_option maxRecDepth 100000 in
theorem make_ok (p gs B m : Nat) (s : ByteArray) (T0 T1 : List (List UInt8)) (w : World) (D : DiskIs p gs B m ([] ++ T0 ++ T1) w) (h0 : T0.length = 10) (h1 : T1.length = 10) (hs : s.size ≤ 65536) (hfit : fsize (hdB 1 s).size ≤ 1270) (hm : m + 30000 ≤ 1000000) :
    Calls Tryz.prog 7 #[.pointer (some ⟨p, 0, none⟩), .string s] w fun e w' => e = .returned (.int .i64 0) ∧ DiskIs p gs B (m + 139) ([] ++ sectorsL (frsB [hdB 1 s]) 10 ++ sectorsL [] 10) w' ∧ Only (fun b => B ≤ b) w w' := by
  obtain ⟨w1, hw1⟩ : ∃ w1, w1 = w.alloc (.cells #[.pointer (some ⟨p, 0, none⟩)] 24) := ⟨_, rfl⟩
  obtain ⟨w2, hw2⟩ : ∃ w2, w2 = w1.alloc (.cells #[.string s] 9) := ⟨_, rfl⟩
  obtain ⟨w3, hw3⟩ : ∃ w3, w3 = w2.alloc (.cells #[.int .i64 10] 3) := ⟨_, rfl⟩
  obtain ⟨db, hdb⟩ : ∃ db, db = w.heap.size := ⟨_, rfl⟩
  have z1 : w1.heap.size = db + 1 := by rw [hw1, hdb]; simp
  have z2 : w2.heap.size = db + 1 + 1 := by rw [hw2]; simp [z1]
  have z3 : w3.heap.size = db + 1 + 1 + 1 := by rw [hw3]; simp [z2]
  obtain ⟨tb, htb⟩ : ∃ tb, tb = db + 1 := ⟨_, rfl⟩
  obtain ⟨hb, hhb⟩ : ∃ hb, hb = tb + 1 := ⟨_, rfl⟩
  obtain ⟨fb, hfb⟩ : ∃ fb, fb = hb + 1 := ⟨_, rfl⟩
  obtain ⟨row, hrow⟩ : ∃ row : Array Value, row = #[.func (.func 20) #[] #[.pointer (some ⟨hb, 0, none⟩), .pointer (some ⟨tb, 0, none⟩)], .func (.func 22) #[] #[.pointer (some ⟨db, 0, none⟩), .pointer (some ⟨hb, 0, none⟩)], .func (.func 24) #[] #[.pointer (some ⟨db, 0, none⟩), .pointer (some ⟨hb, 0, none⟩)], .func (.func 25) #[] #[.pointer (some ⟨db, 0, none⟩), .pointer (some ⟨hb, 0, none⟩), .pointer (some ⟨tb, 0, none⟩)]] := ⟨_, rfl⟩
  obtain ⟨w4, hw4⟩ : ∃ w4, w4 = w3.alloc (.cells row 31) := ⟨_, rfl⟩
  have o1 : Only (fun _ => False) w w1 := by rw [hw1]; exact (Only.refl _ w).alloc _
  have o2 : Only (fun _ => False) w1 w2 := by rw [hw2]; exact (Only.refl _ w1).alloc _
  have o3 : Only (fun _ => False) w2 w3 := by rw [hw3]; exact (Only.refl _ w2).alloc _
  have o4 : Only (fun _ => False) w3 w4 := by rw [hw4]; exact (Only.refl _ w3).alloc _
  have b0 : Blk w1 db 24 #[.pointer (some ⟨p, 0, none⟩)] := by rw [hw1, hdb]; exact Blk.new w _ _
  have b2 : Blk w2 tb 9 #[.string s] := by rw [hw2, htb, ← z1]; exact Blk.new w1 _ _
  have b1 : Blk w3 hb 3 #[.int .i64 10] := by rw [hw3, hhb, htb, ← z2]; exact Blk.new w2 _ _
  have b3 : Blk w4 fb 31 row := by rw [hw4, hfb, hhb, htb, ← z3]; exact Blk.new w3 _ _
  have o := ((o1.trans o2).trans o3).trans o4
  have d2 := D.only (o1.trans o2)
  have J0 : MkJ p gs B m db hb tb fb s row ([] ++ T0 ++ T1) w4 w4 := ⟨D.only o, Far.refl _, Only.refl _ _, o4.blk (o3.blk (o2.blk b0 (fun h => h)) (fun h => h)) (fun h => h), o4.blk b1 (fun h => h), o4.blk (o3.blk b2 (fun h => h)) (fun h => h), b3⟩
  have hfirst := first_any 4 (fun i => if i = 0 then 20 else if i = 1 then 22 else if i = 2 then 24 else 25) (fun _ => #[]) (fun i => if i = 0 then #[.pointer (some ⟨hb, 0, none⟩), .pointer (some ⟨tb, 0, none⟩)] else if i = 1 then #[.pointer (some ⟨db, 0, none⟩), .pointer (some ⟨hb, 0, none⟩)] else if i = 2 then #[.pointer (some ⟨db, 0, none⟩), .pointer (some ⟨hb, 0, none⟩)] else #[.pointer (some ⟨db, 0, none⟩), .pointer (some ⟨hb, 0, none⟩), .pointer (some ⟨tb, 0, none⟩)]) fb 4
    (fun i W => if i = 0 then MkJ p gs B m db hb tb fb s row ([] ++ T0 ++ T1) w4 W else if i = 1 then MkJ p gs B m db hb tb fb s row ([] ++ T0 ++ T1) w4 W else if i = 2 then MkJ p gs B (m + 42) db hb tb fb s row ([] ++ sectorsL [] 10 ++ T1) w4 W else if i = 3 then MkJ p gs B (m + 84) db hb tb fb s row ([] ++ sectorsL [] 10 ++ sectorsL [] 10) w4 W else MkJ p gs B (m + 139) db hb tb fb s row ([] ++ sectorsL (frsB [hdB 1 s]) 10 ++ sectorsL [] 10) w4 W)
    (fun _ _ => False) w4 (by omega)
    (fun i hi W hW => by
      have hi' : i = 0 ∨ i = 1 ∨ i = 2 ∨ i = 3 := by omega
      rcases hi' with rfl | rfl | rfl | rfl
      · have h : MkJ p gs B m db hb tb fb s row ([] ++ T0 ++ T1) w4 W := hW
        have := h.b3; rw [hrow] at this; exact this.cell 0
      · have h : MkJ p gs B m db hb tb fb s row ([] ++ T0 ++ T1) w4 W := hW
        have := h.b3; rw [hrow] at this; exact this.cell 1
      · have h : MkJ p gs B (m + 42) db hb tb fb s row ([] ++ sectorsL [] 10 ++ T1) w4 W := hW
        have := h.b3; rw [hrow] at this; exact this.cell 2
      · have h : MkJ p gs B (m + 84) db hb tb fb s row ([] ++ sectorsL [] 10 ++ sectorsL [] 10) w4 W := hW
        have := h.b3; rw [hrow] at this; exact this.cell 3)
    (fun i hi xs W => by
      have hi' : i = 0 ∨ i = 1 ∨ i = 2 ∨ i = 3 := by omega
      rcases hi' with rfl | rfl | rfl | rfl
      · exact enters_of Tryz.func20 (by kernel_rfl) rfl xs W
      · exact enters_of Tryz.func22 (by kernel_rfl) rfl xs W
      · exact enters_of Tryz.func24 (by kernel_rfl) rfl xs W
      · exact enters_of Tryz.func25 (by kernel_rfl) rfl xs W)
    (fun i hi W hW => by
      have hi' : i = 0 ∨ i = 1 ∨ i = 2 ∨ i = 3 := by omega
      rcases hi' with rfl | rfl | rfl | rfl
      · have h : MkJ p gs B m db hb tb fb s row ([] ++ T0 ++ T1) w4 W := hW
        exact (mk1_ok hb tb s W (h.b1.cell 0) (h.b2.cell 0) hs hfit).mono fun e w' k => .inl ⟨k.1, h.next (h.d.only k.2) (Far.of_none k.2) (k.2.mono fun _ h => h.elim)⟩
      · have h : MkJ p gs B m db hb tb fb s row ([] ++ T0 ++ T1) w4 W := hW
        exact (mk2_ok p gs db hb T0 T1 B m W (h.b0.cell 0) (h.b1.cell 0) h.d h0 (by omega)).mono fun e w' k => .inl ⟨k.1, h.next k.2.1 k.2.2.1 k.2.2.2⟩
      · have h : MkJ p gs B (m + 42) db hb tb fb s row ([] ++ sectorsL [] 10 ++ T1) w4 W := hW
        have hd := h.d
        rw [List.nil_append, ← List.append_nil (sectorsL [] 10 ++ T1)] at hd
        refine (mk3_ok p gs db hb (sectorsL [] 10) T1 B (m + 42) W (h.b0.cell 0) (h.b1.cell 0) hd (sectorsL_len _ _) h1 (by omega)).mono fun e w' k => .inl ⟨k.1, ?_⟩
        have hd2 := k.2.1
        rw [List.append_nil] at hd2
        exact h.next (by rw [List.nil_append]; exact hd2) k.2.2.1 k.2.2.2
      · have h : MkJ p gs B (m + 84) db hb tb fb s row ([] ++ sectorsL [] 10 ++ sectorsL [] 10) w4 W := hW
        exact (mk4_ok p gs db hb tb (sectorsL [] 10) s B (m + 84) W (h.b0.cell 0) (h.b1.cell 0) (h.b2.cell 0) h.d hs hfit (by omega)).mono fun e w' k => .inl ⟨k.1, h.next k.2.1 k.2.2.1 k.2.2.2⟩)
    J0
  have HF : Hid (Calls Tryz.prog 19 #[.slice (some ⟨fb, 0, none⟩) 4 4] w4 fun e w' => e = .returned (.int .i64 0) ∧ DiskIs p gs B (m + 139) ([] ++ sectorsL (frsB [hdB 1 s]) 10 ++ sectorsL [] 10) w' ∧ Only (fun b => B ≤ b) w w') := Lib.hid (hfirst.mono fun e w' h => by
    rcases h with ⟨h1, h2⟩ | ⟨r, _, _, h⟩
    · have h2' : MkJ p gs B (m + 139) db hb tb fb s row ([] ++ sectorsL (frsB [hdB 1 s]) 10 ++ sectorsL [] 10) w4 w' := h2
      exact ⟨h1, h2'.d, (o.mono fun _ h => h.elim).trans h2'.only⟩
    · exact h.elim)
  have HH : Hid (Calls Tryz.prog 16 #[.pointer (some ⟨p, 0, none⟩)] w2 fun e w' => e = .returned (.tuple #[.int .i64 10, .int .i64 0]) ∧ w2 = w') := Lib.hid (by
    obtain ⟨S, a, _⟩ := d2
    exact half_ok p gs S B m w2 a)
  have cb0 : w2.cell? ⟨db, 0, none⟩ = some (.pointer (some ⟨p, 0, none⟩)) := (o2.blk b0 (fun h => h)).cell 0
  rw [hw2, hw1] at cb0
  rw [hrow] at hw4
  have HW1 := Lib.hid hw1.symm
  have HW2 := Lib.hid hw2.symm
  have HW3 := Lib.hid hw3.symm
  have HW4 := Lib.hid hw4.symm
  have HDB := Lib.hid hdb.symm
  have HTB := Lib.hid htb.symm
  have HHB := Lib.hid hhb.symm
  have HFB := Lib.hid hfb.symm
  rw [hdb] at cb0
  have HZ2 : Hid (w2.heap.size = hb) := Lib.hid (by rw [z2, hhb, htb])
  clear hw1 hw2 hw3 hw4 hdb htb hhb hfb z1 z2 z3 o1 o2 o3 o4 b0 b1 b2 b3 o d2 J0 hfirst D hrow hfit
  go_enter Tryz.func7, Tryz.ntmps7
  go_wp2_with fail
  clear cb0
  rw [HW1.out, HW2.out]
  refine HH.out.mono ?_
  rintro e wx ⟨rfl, rfl⟩
  go_wp2_with fail
  rw [HZ2.out, HDB.out, HTB.out, HFB.out, HW3.out, HW4.out]
  refine HF.out.mono ?_
  rintro e wy ⟨rfl, k1, k2⟩
  have K := Lib.hid (And.intro k1 k2)
  clear k1 k2
  go_wp2_with fail
  go_ret
  exact ⟨rfl, K.out⟩
end Go.Proofs.YthggliknnmhbdaaGreat
/- The walks of store.Trim's two closures. No conditions beyond what each states. -/
namespace Go.Proofs.YthggliknnmhbdaaGreat
open Go.RowKit
set_option linter.unusedVariables false
set_option maxHeartbeats 2000000 in
set_option maxRecDepth 100000 in
theorem trim1_ok (p gs s k o g bb q0 ob hb : Nat) (X T Y : List (List UInt8)) (B m : Nat) (w : World) (D : DiskIs p gs B m (X ++ T ++ Y) w) (hX : X.length = o * 10) (hT : T.length = 10) (ho : o < 2) (hm : m + 12000 ≤ 1000000)
    (hS : StoW w s p bb k g) (h0 : Blk w q0 23 #[.pointer (some ⟨s, 0, none⟩)]) (h1 : Blk w ob 3 #[.int .i64 (o : Int)]) (h2 : Blk w hb 3 #[.int .i64 10]) :
    Calls Tryz.prog 32 #[.pointer (some ⟨q0, 0, none⟩), .pointer (some ⟨ob, 0, none⟩), .pointer (some ⟨hb, 0, none⟩)] w fun e w' => e = .returned (.int .i64 0) ∧ DiskIs p gs B (m + 42) (X ++ sectorsL [] 10 ++ Y) w' ∧ Far w w' ∧ Only (fun b => B ≤ b) w w' := by
  have odr : Only (fun _ => False) w w.drew := (Only.refl _ w).drew
  have hoi : ((o * 10 : Nat) : Int) = (o : Int) * 10 := by omega
  have hcl := cclear_ok p gs (o * 10) X T Y B m w.drew (D.only odr) hX hT hm
  rw [hoi] at hcl
  have HC : Hid (Calls Tryz.prog 23 #[.pointer (some ⟨p, 0, none⟩), .int .i64 ((o : Int) * 10), .int .i64 10] w.drew fun e w' => e = .returned (.int .i64 0) ∧ DiskIs p gs B (m + 42) (X ++ sectorsL [] 10 ++ Y) w' ∧ Far w w' ∧ Only (fun b => B ≤ b) w w') := Lib.hid (hcl.mono fun e w' h => ⟨h.1, h.2.1, (Far.of_none odr).trans h.2.2.1, (odr.mono fun _ h => h.elim).trans h.2.2.2⟩)
  have hwo : IntKind.i64.wrap ((o : Int) * 10) = (o : Int) * 10 := IntWalk.i64_in _ (by omega)
  have d0 : w.drew.cell? ⟨q0, 0, none⟩ = some (.pointer (some ⟨s, 0, none⟩)) := h0.cell 0
  have d1 : w.drew.cell? ⟨s, 3, none⟩ = some (.pointer (some ⟨p, 0, none⟩)) := Blk.cell hS 3
  have d2 : w.drew.cell? ⟨ob, 0, none⟩ = some (.int .i64 (o : Int)) := h1.cell 0
  have d3 : w.drew.cell? ⟨hb, 0, none⟩ = some (.int .i64 10) := h2.cell 0
  have H0 := Lib.hid h0
  have H1 := Lib.hid h1
  have H2 := Lib.hid h2
  have HS : Hid (Blk w s 51 #[.pointer (some ⟨bb, 0, none⟩), .int .i64 (k : Int), .int .u64 (g : Int), .pointer (some ⟨p, 0, none⟩), .bool false]) := Lib.hid hS
  clear odr hoi hcl D hS h0 h1 h2
  go_enter Tryz.func32, Tryz.ntmps32
  go_wp2_with fail
  go_region_held3 (fun w' => w'.cell? ⟨q0, 0, none⟩ = some (.pointer (some ⟨s, 0, none⟩)) ∧ w'.cell? ⟨s, 3, none⟩ = some (.pointer (some ⟨p, 0, none⟩)) ∧ w'.cell? ⟨ob, 0, none⟩ = some (.int .i64 (o : Int)) ∧ w'.cell? ⟨hb, 0, none⟩ = some (.int .i64 10)) (go_keep) ((
    (go_at_call 23; refine HC.out.mono ?_; rintro e V1 ⟨rfl, k1, k2, k3⟩; have K := Lib.hid (And.intro k1 (And.intro k2 k3)); have r0 : V1.cell? ⟨q0, 0, none⟩ = some (.pointer (some ⟨s, 0, none⟩)) := (k2.blk _ _ _ H0.out nDT_pstore).cell 0; have r1 : V1.cell? ⟨s, 3, none⟩ = some (.pointer (some ⟨p, 0, none⟩)) := (k2.blk _ _ _ HS.out nDT_store).cell 3; have r2 : V1.cell? ⟨ob, 0, none⟩ = some (.int .i64 (o : Int)) := (k2.blk _ _ _ H1.out nDT_int).cell 0; have r3 : V1.cell? ⟨hb, 0, none⟩ = some (.int .i64 10) := (k2.blk _ _ _ H2.out nDT_int).cell 0; clear k1 k2 k3)))
  go_wp2_with fail
  go_ret
  exact ⟨rfl, K.out⟩
/-- behind the second closure -/
structure T2P (p gs o g cx : Nat) (hd : ByteArray) (X Y : List (List UInt8)) (B m bb : Nat) (w w' : World) : Prop where
  d : DiskIs p gs B m (X ++ sectorsL (frsB [hd]) 10 ++ Y) w'
  b : BookB w' bb p (o * 10 : Nat) (10 : Nat) (sB (frsB [hd])) false
  cur : Blk w' cx 49 #[.pointer (some ⟨bb, 0, none⟩), .int .i64 (o : Int), .int .u64 ((g : Int) + 1)]
  far : FarX (fun b => b = cx) w w'
  only : Only (fun b => B ≤ b) w w'
set_option maxHeartbeats 2000000 in
set_option maxRecDepth 100000 in
theorem trim2_ok (p gs s k o g bb q0 ob hb q1 cx : Nat) (X Y : List (List UInt8)) (t : ByteArray) (B m : Nat) (w : World) (D : DiskIs p gs B m (X ++ sectorsL [] 10 ++ Y) w) (hX : X.length = o * 10) (ho : o < 2) (hm : m + 20000 ≤ 1000000)
    (hg : g + 1 < 18446744073709551616) (ht : t.size ≤ 65536) (hfit : fsize (hdB (g + 1) t).size ≤ 1270) (hB : B ≤ cx)
    (hS : StoW w s p bb k g) (h0 : Blk w q0 23 #[.pointer (some ⟨s, 0, none⟩)]) (h1 : Blk w ob 3 #[.int .i64 (o : Int)]) (h2 : Blk w hb 3 #[.int .i64 10]) (h3 : Blk w q1 9 #[.string t]) (h4 : Blk w cx 49 #[.pointer none, .int .i64 0, .int .u64 0]) :
    Calls Tryz.prog 33 #[.pointer (some ⟨q0, 0, none⟩), .pointer (some ⟨ob, 0, none⟩), .pointer (some ⟨hb, 0, none⟩), .pointer (some ⟨q1, 0, none⟩), .pointer (some ⟨cx, 0, none⟩)] w fun e w' => e = .returned (.int .i64 0) ∧ ∃ bb', T2P p gs o g cx (hdB (g + 1) t) X Y B (m + 55) bb' w w' := by
  have odr : Only (fun _ => False) w w.drew := (Only.refl _ w).drew
  obtain ⟨S, D, hc⟩ := D
  have hgi : ((g + 1 : Nat) : Int) = (g : Int) + 1 := by omega
  have hpt := put_ok p gs o (g + 1) m S B t X Y w.drew (D.only odr) hc hX ho hg ht hfit hm
  rw [hgi] at hpt
  have HP := Lib.hid hpt
  have hwg : IntKind.u64.wrap ((g : Int) + 1) = (g : Int) + 1 := IntWalk.u64_in _ (by omega)
  have d0 : w.drew.cell? ⟨q0, 0, none⟩ = some (.pointer (some ⟨s, 0, none⟩)) := h0.cell 0
  have d1 : w.drew.cell? ⟨s, 3, none⟩ = some (.pointer (some ⟨p, 0, none⟩)) := Blk.cell hS 3
  have d2 : w.drew.cell? ⟨s, 2, none⟩ = some (.int .u64 (g : Int)) := Blk.cell hS 2
  have d3 : w.drew.cell? ⟨ob, 0, none⟩ = some (.int .i64 (o : Int)) := h1.cell 0
  have d4 : w.drew.cell? ⟨hb, 0, none⟩ = some (.int .i64 10) := h2.cell 0
  have d5 : w.drew.cell? ⟨q1, 0, none⟩ = some (.string t) := h3.cell 0
  have H0 := Lib.hid h0
  have H1 := Lib.hid h1
  have H2 := Lib.hid h2
  have H3 := Lib.hid h3
  have H4 := Lib.hid h4
  have HS : Hid (Blk w s 51 #[.pointer (some ⟨bb, 0, none⟩), .int .i64 (k : Int), .int .u64 (g : Int), .pointer (some ⟨p, 0, none⟩), .bool false]) := Lib.hid hS
  have HODR := Lib.hid odr
  have N0 : Hid (¬ q0 = cx) := Lib.hid (Blk.ne_ h0 h4 (by decide))
  have N1 : Hid (¬ s = cx) := Lib.hid (Blk.ne_ HS.out h4 (by decide))
  have N2 : Hid (¬ ob = cx) := Lib.hid (Blk.ne_ h1 h4 (by decide))
  have N3 : Hid (¬ hb = cx) := Lib.hid (Blk.ne_ h2 h4 (by decide))
  have N4 : Hid (¬ q1 = cx) := Lib.hid (Blk.ne_ h3 h4 (by decide))
  have HB := Lib.hid hB
  clear odr hgi hpt D hc hS h0 h1 h2 h3 h4 hfit hB
  generalize hdB (g + 1) t = hd at *
  go_enter Tryz.func33, Tryz.ntmps33
  go_wp2_with fail
  go_region_held3 (fun w' => w'.cell? ⟨q0, 0, none⟩ = some (.pointer (some ⟨s, 0, none⟩)) ∧ w'.cell? ⟨s, 3, none⟩ = some (.pointer (some ⟨p, 0, none⟩)) ∧ w'.cell? ⟨s, 2, none⟩ = some (.int .u64 (g : Int)) ∧ w'.cell? ⟨ob, 0, none⟩ = some (.int .i64 (o : Int)) ∧ w'.cell? ⟨hb, 0, none⟩ = some (.int .i64 10) ∧ w'.cell? ⟨q1, 0, none⟩ = some (.string t)) (first | exact ⟨t0, t1, t2, t3, t4, t5⟩ | go_keep) ((
    (go_at_call 26; refine HP.out.mono ?_; rintro e V1 ⟨b2, rfl, PQ⟩; have HQ := Lib.hid PQ; have kf := (Far.of_none HODR.out).trans PQ.far; have r0 : V1.cell? ⟨q0, 0, none⟩ = some (.pointer (some ⟨s, 0, none⟩)) := (kf.blk _ _ _ H0.out nDT_pstore).cell 0; have r1 : V1.cell? ⟨s, 3, none⟩ = some (.pointer (some ⟨p, 0, none⟩)) := (kf.blk _ _ _ HS.out nDT_store).cell 3; have r2 : V1.cell? ⟨s, 2, none⟩ = some (.int .u64 (g : Int)) := (kf.blk _ _ _ HS.out nDT_store).cell 2; have r3 : V1.cell? ⟨ob, 0, none⟩ = some (.int .i64 (o : Int)) := (kf.blk _ _ _ H1.out nDT_int).cell 0; have r4 : V1.cell? ⟨hb, 0, none⟩ = some (.int .i64 10) := (kf.blk _ _ _ H2.out nDT_int).cell 0; have r5 : V1.cell? ⟨q1, 0, none⟩ = some (.string t) := (kf.blk _ _ _ H3.out nDT_string).cell 0; have bx := kf.blk _ _ _ H4.out nDT_cur; have x0 : V1.cell? ⟨cx, 0, none⟩ = some (.pointer none) := bx.cell 0; have x1 : V1.cell? ⟨cx, 1, none⟩ = some (.int .i64 0) := bx.cell 1; have x2 : V1.cell? ⟨cx, 2, none⟩ = some (.int .u64 0) := bx.cell 2; have y0 : V1.frozen? ⟨cx, 0, none⟩ = false := bx.frozen 0; have y1 : V1.frozen? ⟨cx, 1, none⟩ = false := bx.frozen 1; have y2 : V1.frozen? ⟨cx, 2, none⟩ = false := bx.frozen 2; obtain ⟨V2, hV2⟩ : ∃ V2, V2 = ((V1.setCell ⟨cx, 0, none⟩ (.pointer (some ⟨b2, 0, none⟩))).setCell ⟨cx, 1, none⟩ (.int .i64 (o : Int))).setCell ⟨cx, 2, none⟩ (.int .u64 ((g : Int) + 1)) := ⟨_, rfl⟩; have oV : Only (fun b => b = cx) V1 V2 := (by rw [hV2]; exact (((Only.refl (fun b => b = cx) V1).setCell (p := ⟨cx, 0, none⟩) (.inl rfl) _).setCell (p := ⟨cx, 1, none⟩) (.inl rfl) _).setCell (p := ⟨cx, 2, none⟩) (.inl rfl) _); have bV : Blk V2 cx 49 #[.pointer (some ⟨b2, 0, none⟩), .int .i64 (o : Int), .int .u64 ((g : Int) + 1)] := (by rw [hV2]; exact ((bx.set_ 0 (.pointer (some ⟨b2, 0, none⟩))).set_ 1 (.int .i64 (o : Int))).set_ 2 (.int .u64 ((g : Int) + 1))); have HOV := Lib.hid oV; have HBV := Lib.hid bV; have HBX := Lib.hid bx; have HKF := Lib.hid kf; have t0 : V2.cell? ⟨q0, 0, none⟩ = some (.pointer (some ⟨s, 0, none⟩)) := (oV.blk (kf.blk _ _ _ H0.out nDT_pstore) N0.out).cell 0; have t1 : V2.cell? ⟨s, 3, none⟩ = some (.pointer (some ⟨p, 0, none⟩)) := (oV.blk (kf.blk _ _ _ HS.out nDT_store) N1.out).cell 3; have t2 : V2.cell? ⟨s, 2, none⟩ = some (.int .u64 (g : Int)) := (oV.blk (kf.blk _ _ _ HS.out nDT_store) N1.out).cell 2; have t3 : V2.cell? ⟨ob, 0, none⟩ = some (.int .i64 (o : Int)) := (oV.blk (kf.blk _ _ _ H1.out nDT_int) N2.out).cell 0; have t4 : V2.cell? ⟨hb, 0, none⟩ = some (.int .i64 10) := (oV.blk (kf.blk _ _ _ H2.out nDT_int) N3.out).cell 0; have t5 : V2.cell? ⟨q1, 0, none⟩ = some (.string t) := (oV.blk (kf.blk _ _ _ H3.out nDT_string) N4.out).cell 0; rw [hV2] at t0 t1 t2 t3 t4 t5; have HV2 := Lib.hid hV2.symm; clear PQ kf bx oV bV hV2)))
  rw [HV2.out]
  clear t0 t1 t2 t3 t4 t5
  go_wp2_with fail
  go_ret
  refine ⟨rfl, b2, ?_, ?_, HBV.out, ?_, ?_⟩
  · obtain ⟨S1, a1, a2⟩ := HQ.out.d
    exact ⟨S1, a1.away HBX.out HOV.out nDT_cur, a2⟩
  · exact HOV.out.blk HQ.out.b (fun e => Blk.ne_ HQ.out.b HBX.out (by decide) e)
  · exact (FarX.far HKF.out).trans (FarX.of_only HOV.out fun b hb => hb)
  · exact ((HODR.out.mono fun _ h => h.elim).trans HQ.out.only).trans (HOV.out.mono fun b hb => by rw [hb]; exact HB.out)
end Go.Proofs.YthggliknnmhbdaaGreat
/- The walk of store.Trim. No conditions beyond what each states. -/
namespace Go.Proofs.YthggliknnmhbdaaGreat
open Go.RowKit
set_option linter.unusedVariables false
/-- behind a Trim that was done -/
structure TrimP (p gs s o g : Nat) (hd : ByteArray) (X Y : List (List UInt8)) (B m bb : Nat) (w w' : World) : Prop where
  d : DiskIs p gs B m (X ++ sectorsL (frsB [hd]) 10 ++ Y) w'
  b : BookB w' bb p (o * 10 : Nat) (10 : Nat) (sB (frsB [hd])) false
  s : StoW w' s p bb o (g + 1)
  only : Only (fun b => B ≤ b) w w'
theorem fits_any_at (g : Nat) (t : ByteArray) (W : World) (hg : g < 18446744073709551616) (ht : t.size ≤ 65536) (w : World) (o : Only (fun _ => False) w W) :
    Calls Tryz.prog 21 #[.int .i64 10, .int .u64 (g : Int), .string t] W fun e w' => e = .returned (.int .i64 (fitR g t)) ∧ Only (fun _ => False) w w' :=
  (fits_ok g t W hg ht).mono fun e w' h => ⟨h.1, o.trans (Only.below_ h.2)⟩
set_option maxHeartbeats 4000000 in
set_option maxRecDepth 100000 in
theorem trim_full (p gs s k g bb : Nat) (t : ByteArray) (L : List (List UInt8)) (B m : Nat) (w : World) (D : DiskIs p gs B m L w) (hS : StoW w s p bb k g) (hg : g + 1 < 18446744073709551616) (ht : t.size ≤ 65536) (hfit : fitR (g + 1) t = 6) :
    Calls Tryz.prog 10 #[.pointer (some ⟨s, 0, none⟩), .string t] w fun e w' => e = .returned (.int .i64 6) ∧ Only (fun _ => False) w w' := by
  obtain ⟨w1, hw1⟩ : ∃ w1, w1 = w.alloc (.cells #[.pointer (some ⟨s, 0, none⟩)] 23) := ⟨_, rfl⟩
  obtain ⟨w2, hw2⟩ : ∃ w2, w2 = w1.alloc (.cells #[.string t] 9) := ⟨_, rfl⟩
  obtain ⟨w3, hw3⟩ : ∃ w3, w3 = w2.alloc (.cells #[.int .i64 10] 3) := ⟨_, rfl⟩
  obtain ⟨q0, hq0⟩ : ∃ q0, q0 = w.heap.size := ⟨_, rfl⟩
  have z1 : w1.heap.size = q0 + 1 := by rw [hw1, hq0]; simp
  have z2 : w2.heap.size = q0 + 1 + 1 := by rw [hw2]; simp [z1]
  obtain ⟨q1, hq1⟩ : ∃ q1, q1 = q0 + 1 := ⟨_, rfl⟩
  obtain ⟨hb, hhb⟩ : ∃ hb, hb = q1 + 1 := ⟨_, rfl⟩
  have o1 : Only (fun _ => False) w w1 := by rw [hw1]; exact (Only.refl _ w).alloc _
  have o2 : Only (fun _ => False) w1 w2 := by rw [hw2]; exact (Only.refl _ w1).alloc _
  have o3 : Only (fun _ => False) w2 w3 := by rw [hw3]; exact (Only.refl _ w2).alloc _
  have b0 : Blk w1 q0 23 #[.pointer (some ⟨s, 0, none⟩)] := by rw [hw1, hq0]; exact Blk.new w _ _
  have b1 : Blk w2 q1 9 #[.string t] := by rw [hw2, hq1, ← z1]; exact Blk.new w1 _ _
  have b2 : Blk w3 hb 3 #[.int .i64 10] := by rw [hw3, hhb, hq1, ← z2]; exact Blk.new w2 _ _
  have o12 := o1.trans o2
  have o := o12.trans o3
  have odr : Only (fun _ => False) w w3.drew := o.trans (Only.refl _ w3).drew
  have s2 : StoW w2 s p bb k g := o12.blk hS (fun h => h)
  have s3 : Blk w3.drew s 51 #[.pointer (some ⟨bb, 0, none⟩), .int .i64 (k : Int), .int .u64 (g : Int), .pointer (some ⟨p, 0, none⟩), .bool false] := odr.blk hS (fun h => h)
  have HN := Lib.hid (stnone_ok s2)
  have HLEN : Hid (Calls Tryz.prog 31 #[.pointer (some ⟨p, 0, none⟩)] w2 fun e w' => e = .returned (.int .i64 20) ∧ w2 = w') := Lib.hid (by
    obtain ⟨S, a, _⟩ := D.only o12
    exact dk_len p gs 20 S B m w2 a)
  have hgi : ((g + 1 : Nat) : Int) = (g : Int) + 1 := by omega
  have hft := fits_any_at (g + 1) t w3.drew hg ht w3 (Only.refl _ w3).drew
  rw [hfit, hgi] at hft
  have HFT := Lib.hid hft
  have hwg : IntKind.u64.wrap ((g : Int) + 1) = (g : Int) + 1 := IntWalk.u64_in _ (by omega)
  have c0 : w2.cell? ⟨q0, 0, none⟩ = some (.pointer (some ⟨s, 0, none⟩)) := (o2.blk b0 (fun h => h)).cell 0
  have c3 : w2.cell? ⟨s, 3, none⟩ = some (.pointer (some ⟨p, 0, none⟩)) := Blk.cell s2 3
  have c4 : w2.cell? ⟨s, 4, none⟩ = some (.bool false) := Blk.cell s2 4
  rw [hw2, hw1] at c0 c3 c4
  rw [hq0] at c0
  have d0 : w3.drew.cell? ⟨hb, 0, none⟩ = some (.int .i64 10) := b2.cell 0
  have d1 : w3.drew.cell? ⟨q0, 0, none⟩ = some (.pointer (some ⟨s, 0, none⟩)) := (o3.blk (o2.blk b0 (fun h => h)) (fun h => h)).cell 0
  have d2 : w3.drew.cell? ⟨s, 2, none⟩ = some (.int .u64 (g : Int)) := s3.cell 2
  have d3 : w3.drew.cell? ⟨q1, 0, none⟩ = some (.string t) := (o3.blk b1 (fun h => h)).cell 0
  have E0 := Lib.hid (o3.blk (o2.blk b0 (fun h => h)) (fun h => h))
  have E1 := Lib.hid (o3.blk b1 (fun h => h))
  have E2 := Lib.hid b2
  have E3 : Hid (Blk w3 s 51 #[.pointer (some ⟨bb, 0, none⟩), .int .i64 (k : Int), .int .u64 (g : Int), .pointer (some ⟨p, 0, none⟩), .bool false]) := Lib.hid (o.blk hS (fun h => h))
  have HW1 := Lib.hid hw1.symm
  have HW2 := Lib.hid hw2.symm
  have HW3 := Lib.hid hw3.symm
  have HQ0 := Lib.hid hq0.symm
  have HQ1 := Lib.hid hq1.symm
  have HHB : Hid (w2.heap.size = hb) := Lib.hid (by rw [z2, hhb, hq1])
  have HO3 := Lib.hid o
  clear hw1 hw2 hw3 hq0 hq1 hhb z1 z2 o1 o2 o3 b0 b1 b2 o12 o odr s2 s3 D hS hgi hft hfit
  go_enter Tryz.func10, Tryz.ntmps10
  go_wp2_with fail
  rw [HW1.out, HW2.out]
  refine HN.out.mono ?_
  rintro e wx ⟨rfl, rfl⟩
  rw [HW1.out, HW2.out] at c0 c3 c4
  go_wp2_with fail
  refine HLEN.out.mono ?_
  rintro e wx ⟨rfl, rfl⟩
  go_wp2_with fail
  rw [HHB.out, HQ0.out, HQ1.out, HW3.out]
  clear c0 c3 c4
  go_region_held3 (fun w' => w'.cell? ⟨hb, 0, none⟩ = some (.int .i64 10) ∧ w'.cell? ⟨q0, 0, none⟩ = some (.pointer (some ⟨s, 0, none⟩)) ∧ w'.cell? ⟨s, 2, none⟩ = some (.int .u64 (g : Int)) ∧ w'.cell? ⟨q1, 0, none⟩ = some (.string t)) (go_keep) ((
    (go_at_call 21; refine HFT.out.mono ?_; rintro e V1 ⟨rfl, k1⟩; have K := Lib.hid k1; have ko : Only (fun _ => False) w3 V1 := k1; have r0 : V1.cell? ⟨hb, 0, none⟩ = some (.int .i64 10) := (ko.blk E2.out (fun h => h)).cell 0; have r1 : V1.cell? ⟨q0, 0, none⟩ = some (.pointer (some ⟨s, 0, none⟩)) := (ko.blk E0.out (fun h => h)).cell 0; have r2 : V1.cell? ⟨s, 2, none⟩ = some (.int .u64 (g : Int)) := (ko.blk E3.out (fun h => h)).cell 2; have r3 : V1.cell? ⟨q1, 0, none⟩ = some (.string t) := (ko.blk E1.out (fun h => h)).cell 0; have KO := Lib.hid ko; clear k1 ko)))
  go_wp2_with fail
  go_ret
  exact ⟨rfl, HO3.out.trans KO.out⟩
set_option maxHeartbeats 8000000 in
set_option maxRecDepth 100000 in
theorem trim_ok (p gs s k o g bb : Nat) (t : ByteArray) (X T Y : List (List UInt8)) (B m : Nat) (w : World) (D : DiskIs p gs B m (X ++ T ++ Y) w) (hX : X.length = o * 10) (hT : T.length = 10) (hk : k + o = 1) (hS : StoW w s p bb k g) (hBs : B ≤ s) (hg1 : g + 1 ≤ 4611686018427387904) (ht : t.size ≤ 65536) (hfit : fitR (g + 1) t = 0) (hm : m + 30000 ≤ 1000000) :
    Calls Tryz.prog 10 #[.pointer (some ⟨s, 0, none⟩), .string t] w fun e w' => e = .returned (.int .i64 0) ∧ ∃ bb', TrimP p gs s o g (hdB (g + 1) t) X Y B (m + 97) bb' w w' := by
  have hg : g + 1 < 18446744073709551616 := by omega
  have hfs : fsize (hdB (g + 1) t).size ≤ 1270 := by
    unfold fitR at hfit
    by_cases h : 1270 < fsize (hdB (g + 1) t).size
    · rw [if_pos h] at hfit; simp at hfit
    · omega
  have HD0 := Lib.hid D
  have HS0 := Lib.hid hS
  obtain ⟨w1, hw1⟩ : ∃ w1, w1 = w.alloc (.cells #[.pointer (some ⟨s, 0, none⟩)] 23) := ⟨_, rfl⟩
  obtain ⟨w2, hw2⟩ : ∃ w2, w2 = w1.alloc (.cells #[.string t] 9) := ⟨_, rfl⟩
  obtain ⟨w3, hw3⟩ : ∃ w3, w3 = w2.alloc (.cells #[.int .i64 10] 3) := ⟨_, rfl⟩
  obtain ⟨q0, hq0⟩ : ∃ q0, q0 = w.heap.size := ⟨_, rfl⟩
  have z1 : w1.heap.size = q0 + 1 := by rw [hw1, hq0]; simp
  have z2 : w2.heap.size = q0 + 1 + 1 := by rw [hw2]; simp [z1]
  obtain ⟨q1, hq1⟩ : ∃ q1, q1 = q0 + 1 := ⟨_, rfl⟩
  obtain ⟨hb, hhb⟩ : ∃ hb, hb = q1 + 1 := ⟨_, rfl⟩
  have o1 : Only (fun _ => False) w w1 := by rw [hw1]; exact (Only.refl _ w).alloc _
  have o2 : Only (fun _ => False) w1 w2 := by rw [hw2]; exact (Only.refl _ w1).alloc _
  have o3 : Only (fun _ => False) w2 w3 := by rw [hw3]; exact (Only.refl _ w2).alloc _
  have b0 : Blk w1 q0 23 #[.pointer (some ⟨s, 0, none⟩)] := by rw [hw1, hq0]; exact Blk.new w _ _
  have b1 : Blk w2 q1 9 #[.string t] := by rw [hw2, hq1, ← z1]; exact Blk.new w1 _ _
  have b2 : Blk w3 hb 3 #[.int .i64 10] := by rw [hw3, hhb, hq1, ← z2]; exact Blk.new w2 _ _
  have o12 := o1.trans o2
  have o := o12.trans o3
  have odr : Only (fun _ => False) w w3.drew := o.trans (Only.refl _ w3).drew
  have s2 : StoW w2 s p bb k g := o12.blk hS (fun h => h)
  have s3 : Blk w3.drew s 51 #[.pointer (some ⟨bb, 0, none⟩), .int .i64 (k : Int), .int .u64 (g : Int), .pointer (some ⟨p, 0, none⟩), .bool false] := odr.blk hS (fun h => h)
  have HN := Lib.hid (stnone_ok s2)
  have HLEN : Hid (Calls Tryz.prog 31 #[.pointer (some ⟨p, 0, none⟩)] w2 fun e w' => e = .returned (.int .i64 20) ∧ w2 = w') := Lib.hid (by
    obtain ⟨S, a, _⟩ := D.only o12
    exact dk_len p gs 20 S B m w2 a)
  have hgi : ((g + 1 : Nat) : Int) = (g : Int) + 1 := by omega
  have hft := fits_any_at (g + 1) t w3.drew hg ht w3 (Only.refl _ w3).drew
  rw [hfit, hgi] at hft
  have HFT := Lib.hid hft
  have hwg : IntKind.u64.wrap ((g : Int) + 1) = (g : Int) + 1 := IntWalk.u64_in _ (by omega)
  have c0 : w2.cell? ⟨q0, 0, none⟩ = some (.pointer (some ⟨s, 0, none⟩)) := (o2.blk b0 (fun h => h)).cell 0
  have c3 : w2.cell? ⟨s, 3, none⟩ = some (.pointer (some ⟨p, 0, none⟩)) := Blk.cell s2 3
  have c4 : w2.cell? ⟨s, 4, none⟩ = some (.bool false) := Blk.cell s2 4
  rw [hw2, hw1] at c0 c3 c4
  rw [hq0] at c0
  have d0 : w3.drew.cell? ⟨hb, 0, none⟩ = some (.int .i64 10) := b2.cell 0
  have d1 : w3.drew.cell? ⟨q0, 0, none⟩ = some (.pointer (some ⟨s, 0, none⟩)) := (o3.blk (o2.blk b0 (fun h => h)) (fun h => h)).cell 0
  have d2 : w3.drew.cell? ⟨s, 2, none⟩ = some (.int .u64 (g : Int)) := s3.cell 2
  have d3 : w3.drew.cell? ⟨q1, 0, none⟩ = some (.string t) := (o3.blk b1 (fun h => h)).cell 0
  have E0 := Lib.hid (o3.blk (o2.blk b0 (fun h => h)) (fun h => h))
  have E1 := Lib.hid (o3.blk b1 (fun h => h))
  have E2 := Lib.hid b2
  have E3 : Hid (Blk w3 s 51 #[.pointer (some ⟨bb, 0, none⟩), .int .i64 (k : Int), .int .u64 (g : Int), .pointer (some ⟨p, 0, none⟩), .bool false]) := Lib.hid (o.blk hS (fun h => h))
  have HW1 := Lib.hid hw1.symm
  have HW2 := Lib.hid hw2.symm
  have HW3 := Lib.hid hw3.symm
  have HQ0 := Lib.hid hq0.symm
  have HQ1 := Lib.hid hq1.symm
  have HHB : Hid (w2.heap.size = hb) := Lib.hid (by rw [z2, hhb, hq1])
  have HO3 := Lib.hid o
  have HBw : Hid (B < w.heap.size) := Lib.hid (by obtain ⟨S, a, _⟩ := D; exact a.size)
  have HNQ : Hid (¬ q0 = hb) := Lib.hid (by omega)
  clear hw1 hw2 hw3 hq0 hq1 hhb z1 z2 o1 o2 o3 b0 b1 b2 o12 o odr s2 s3 D hS hgi hft hfit
  go_enter Tryz.func10, Tryz.ntmps10
  go_wp2_with fail
  rw [HW1.out, HW2.out]
  refine HN.out.mono ?_
  rintro e wx ⟨rfl, rfl⟩
  rw [HW1.out, HW2.out] at c0 c3 c4
  go_wp2_with fail
  refine HLEN.out.mono ?_
  rintro e wx ⟨rfl, rfl⟩
  go_wp2_with fail
  rw [HHB.out, HQ0.out, HQ1.out, HW3.out]
  clear c0 c3 c4
  go_region_held3 (fun w' => w'.cell? ⟨hb, 0, none⟩ = some (.int .i64 10) ∧ w'.cell? ⟨q0, 0, none⟩ = some (.pointer (some ⟨s, 0, none⟩)) ∧ w'.cell? ⟨s, 2, none⟩ = some (.int .u64 (g : Int)) ∧ w'.cell? ⟨q1, 0, none⟩ = some (.string t)) (go_keep) ((
    (go_at_call 21; refine HFT.out.mono ?_; rintro e V1 ⟨rfl, k1⟩; have K := Lib.hid k1; have ko : Only (fun _ => False) w3 V1 := k1; have r0 : V1.cell? ⟨hb, 0, none⟩ = some (.int .i64 10) := (ko.blk E2.out (fun h => h)).cell 0; have r1 : V1.cell? ⟨q0, 0, none⟩ = some (.pointer (some ⟨s, 0, none⟩)) := (ko.blk E0.out (fun h => h)).cell 0; have r2 : V1.cell? ⟨s, 2, none⟩ = some (.int .u64 (g : Int)) := (ko.blk E3.out (fun h => h)).cell 2; have r3 : V1.cell? ⟨q1, 0, none⟩ = some (.string t) := (ko.blk E1.out (fun h => h)).cell 0; have KO := Lib.hid ko; clear k1 ko)))
  clear d0 d1 d2 d3
  obtain ⟨w5, hw5⟩ : ∃ w5, w5 = V1.alloc (.cells #[.int .i64 (o : Int)] 3) := ⟨_, rfl⟩
  obtain ⟨w6, hw6⟩ : ∃ w6, w6 = w5.alloc (.cells #[.pointer none, .int .i64 0, .int .u64 0] 49) := ⟨_, rfl⟩
  obtain ⟨ob, hob⟩ : ∃ ob, ob = V1.heap.size := ⟨_, rfl⟩
  have z5 : w5.heap.size = ob + 1 := by rw [hw5, hob]; simp
  have z6 : w6.heap.size = ob + 1 + 1 := by rw [hw6]; simp [z5]
  obtain ⟨cx, hcx⟩ : ∃ cx, cx = ob + 1 := ⟨_, rfl⟩
  obtain ⟨fb, hfb⟩ : ∃ fb, fb = cx + 1 := ⟨_, rfl⟩
  obtain ⟨w7, hw7⟩ : ∃ w7, w7 = w6.alloc (.cells #[.func (.func 32) #[] #[.pointer (some ⟨q0, 0, none⟩), .pointer (some ⟨ob, 0, none⟩), .pointer (some ⟨hb, 0, none⟩)], .func (.func 33) #[] #[.pointer (some ⟨q0, 0, none⟩), .pointer (some ⟨ob, 0, none⟩), .pointer (some ⟨hb, 0, none⟩), .pointer (some ⟨q1, 0, none⟩), .pointer (some ⟨cx, 0, none⟩)]] 31) := ⟨_, rfl⟩
  have p5 : Only (fun _ => False) V1 w5 := by rw [hw5]; exact (Only.refl _ V1).alloc _
  have p6 : Only (fun _ => False) w5 w6 := by rw [hw6]; exact (Only.refl _ w5).alloc _
  have p7 : Only (fun _ => False) w6 w7 := by rw [hw7]; exact (Only.refl _ w6).alloc _
  have po : Only (fun _ => False) w3 w7 := ((KO.out.trans p5).trans p6).trans p7
  have pw : Only (fun _ => False) w w7 := HO3.out.trans po
  have g0 := po.blk E0.out (fun h => h)
  have g1 := po.blk E1.out (fun h => h)
  have g2 := po.blk E2.out (fun h => h)
  have g3 : StoW w7 s p bb k g := pw.blk HS0.out (fun h => h)
  have g4 : Blk w7 ob 3 #[.int .i64 (o : Int)] := p7.blk (p6.blk (by rw [hw5, hob]; exact Blk.new V1 _ _) (fun h => h)) (fun h => h)
  have g5 : Blk w7 cx 49 #[.pointer none, .int .i64 0, .int .u64 0] := p7.blk (by rw [hw6, hcx, ← z5]; exact Blk.new w5 _ _) (fun h => h)
  have g6 : Blk w7 fb 31 #[.func (.func 32) #[] #[.pointer (some ⟨q0, 0, none⟩), .pointer (some ⟨ob, 0, none⟩), .pointer (some ⟨hb, 0, none⟩)], .func (.func 33) #[] #[.pointer (some ⟨q0, 0, none⟩), .pointer (some ⟨ob, 0, none⟩), .pointer (some ⟨hb, 0, none⟩), .pointer (some ⟨q1, 0, none⟩), .pointer (some ⟨cx, 0, none⟩)]] := by
    have e6 : w6.heap.size = fb := by rw [z6, hfb, hcx]
    rw [hw7, ← e6]
    exact Blk.new w6 _ _
  have g7 : DiskIs p gs B m (X ++ T ++ Y) w7 := HD0.out.only pw
  have hcB : B ≤ cx := by have h1 := HBw.out; have h2 := (HO3.out.trans KO.out).size; omega
  have hnew : w.heap.size ≤ cx := by have h2 := (HO3.out.trans KO.out).size; omega
  obtain ⟨hd, hhd⟩ : ∃ hd, hd = hdB (g + 1) t := ⟨_, rfl⟩
  have hfirst := first_any 2 (fun i => if i = 0 then 32 else 33) (fun _ => #[]) (fun i => if i = 0 then #[.pointer (some ⟨q0, 0, none⟩), .pointer (some ⟨ob, 0, none⟩), .pointer (some ⟨hb, 0, none⟩)] else #[.pointer (some ⟨q0, 0, none⟩), .pointer (some ⟨ob, 0, none⟩), .pointer (some ⟨hb, 0, none⟩), .pointer (some ⟨q1, 0, none⟩), .pointer (some ⟨cx, 0, none⟩)]) fb 2
    (fun i W => if i = 0 then W = w7 else if i = 1 then DiskIs p gs B (m + 42) (X ++ sectorsL [] 10 ++ Y) W ∧ Far w7 W ∧ Only (fun b => B ≤ b) w7 W else ∃ bb', T2P p gs o g cx hd X Y B (m + 97) bb' w7 W)
    (fun _ _ => False) w7 (by omega)
    (fun i hi W hW => by
      have hbf : Blk W fb 31 #[.func (.func 32) #[] #[.pointer (some ⟨q0, 0, none⟩), .pointer (some ⟨ob, 0, none⟩), .pointer (some ⟨hb, 0, none⟩)], .func (.func 33) #[] #[.pointer (some ⟨q0, 0, none⟩), .pointer (some ⟨ob, 0, none⟩), .pointer (some ⟨hb, 0, none⟩), .pointer (some ⟨q1, 0, none⟩), .pointer (some ⟨cx, 0, none⟩)]] := by
        by_cases h0 : i = 0
        · rw [if_pos h0] at hW; rw [hW]; exact g6
        · rw [if_neg h0, if_pos (by omega)] at hW
          exact hW.2.1.blk _ _ _ g6 nDT_func
      by_cases h0 : i = 0
      · subst h0; exact hbf.cell 0
      · obtain rfl : i = 1 := by omega
        exact hbf.cell 1)
    (fun i hi xs W => by
      by_cases h0 : i = 0
      · subst h0; exact enters_of Tryz.func32 (by kernel_rfl) rfl xs W
      · rw [if_neg h0]; exact enters_of Tryz.func33 (by kernel_rfl) rfl xs W)
    (fun i hi W hW => by
      by_cases h0 : i = 0
      · subst h0
        obtain rfl : W = w7 := hW
        exact (trim1_ok p gs s k o g bb q0 ob hb X T Y B m W g7 hX hT (by omega) (by omega) g3 g0 g4 g2).mono fun e w' h => .inl ⟨h.1, h.2⟩
      · obtain rfl : i = 1 := by omega
        have hJ : DiskIs p gs B (m + 42) (X ++ sectorsL [] 10 ++ Y) W ∧ Far w7 W ∧ Only (fun b => B ≤ b) w7 W := hW
        obtain ⟨j1, j2, j3⟩ := hJ
        refine (trim2_ok p gs s k o g bb q0 ob hb q1 cx X Y t B (m + 42) W j1 hX (by omega) (by omega) hg ht hfs hcB (j2.blk _ _ _ g3 nDT_store) (j2.blk _ _ _ g0 nDT_pstore) (j2.blk _ _ _ g4 nDT_int) (j2.blk _ _ _ g2 nDT_int) (j2.blk _ _ _ g1 nDT_string) (j2.blk _ _ _ g5 nDT_cur)).mono fun e w' h => .inl ⟨h.1, ?_⟩
        obtain ⟨_, bb', h2⟩ := h
        rw [← hhd] at h2
        exact ⟨bb', h2.d, h2.b, h2.cur, (FarX.far j2).trans h2.far, j3.trans h2.only⟩)
    rfl
  have HF : Hid (Calls Tryz.prog 19 #[.slice (some ⟨fb, 0, none⟩) 2 2] w7 fun e w' => e = .returned (.int .i64 0) ∧ ∃ bb', T2P p gs o g cx hd X Y B (m + 97) bb' w7 w') := Lib.hid (hfirst.mono fun e w' h => by
    rcases h with ⟨h1, h2⟩ | ⟨r, _, _, h⟩
    · exact ⟨h1, h2⟩
    · exact h.elim)
  have r4 : V1.cell? ⟨s, 1, none⟩ = some (.int .i64 (k : Int)) := (KO.out.blk E3.out (fun h => h)).cell 1
  have hlim : ¬ (4611686018427387904 : Int) < (g : Int) + 1 := by omega
  have hok : (1 : Int) - (k : Int) = (o : Int) := by omega
  have hwo : IntKind.i64.wrap (o : Int) = (o : Int) := IntWalk.i64_in _ (by omega)
  have G0 := Lib.hid g0
  have G3 : Hid (Blk w7 s 51 #[.pointer (some ⟨bb, 0, none⟩), .int .i64 (k : Int), .int .u64 (g : Int), .pointer (some ⟨p, 0, none⟩), .bool false]) := Lib.hid g3
  have G5 := Lib.hid g5
  have HPW := Lib.hid pw
  have HW5 := Lib.hid hw5.symm
  have HW6 := Lib.hid hw6.symm
  have HW7 := Lib.hid hw7.symm
  have HOB := Lib.hid hob.symm
  have HCX := Lib.hid hcx.symm
  have HFB := Lib.hid hfb.symm
  have HHD := Lib.hid hhd
  have HBS := Lib.hid hBs
  have rr0 := r0
  have rr1 := r1
  have rr2 := r2
  have rr3 := r3
  have rr4 := r4
  clear hw5 hw6 hw7 hob hcx hfb z5 z6 p5 p6 p7 po pw g0 g1 g2 g3 g4 g5 g6 g7 hcB hfirst hhd hfs rr0 rr1 rr2 rr3 rr4
  go_wp2_with fail
  rw [HOB.out, HCX.out, HFB.out, HW5.out, HW6.out, HW7.out]
  clear r0 r1 r2 r3 r4
  refine HF.out.mono ?_
  rintro e W8 ⟨rfl, b2, TP⟩
  have HT := Lib.hid TP
  have u0 : W8.cell? ⟨q0, 0, none⟩ = some (.pointer (some ⟨s, 0, none⟩)) := (TP.far.blk _ _ _ G0.out nDT_pstore (fun e => Blk.ne_ G0.out G5.out (by decide) e)).cell 0
  have us : StoW W8 s p bb k g := TP.far.blk _ _ _ G3.out nDT_store (fun e => Blk.ne_ G3.out G5.out (by decide) e)
  have HUS := Lib.hid us
  have HUQ := Lib.hid (TP.far.blk _ _ _ G0.out nDT_pstore (fun e => Blk.ne_ G0.out G5.out (by decide) e))
  have HK := Lib.hid (stkept_ok 0 us (by omega) (by omega))
  clear TP us
  go_wp2_with fail
  refine HK.out.mono ?_
  rintro e W9 ⟨rfl, k1, k2⟩
  have hnx : ¬ cx = s := fun e => Blk.ne_ HT.out.cur HUS.out (by decide) e
  have hnq : ¬ q0 = s := fun e => Blk.ne_ HUQ.out HUS.out (by decide) e
  have bx := k2.blk HT.out.cur hnx
  have x0 : W9.cell? ⟨cx, 0, none⟩ = some (.pointer (some ⟨b2, 0, none⟩)) := bx.cell 0
  have x1 : W9.cell? ⟨cx, 1, none⟩ = some (.int .i64 (o : Int)) := bx.cell 1
  have x2 : W9.cell? ⟨cx, 2, none⟩ = some (.int .u64 ((g : Int) + 1)) := bx.cell 2
  have xq : W9.cell? ⟨q0, 0, none⟩ = some (.pointer (some ⟨s, 0, none⟩)) := (k2.blk HUQ.out hnq).cell 0
  have s0 : W9.cell? ⟨s, 0, none⟩ = some (.pointer (some ⟨bb, 0, none⟩)) := Blk.cell k1 0
  have s1 : W9.cell? ⟨s, 1, none⟩ = some (.int .i64 (k : Int)) := Blk.cell k1 1
  have s2 : W9.cell? ⟨s, 2, none⟩ = some (.int .u64 (g : Int)) := Blk.cell k1 2
  have f0 : W9.frozen? ⟨s, 0, none⟩ = false := Blk.frozen k1 0
  have f1 : W9.frozen? ⟨s, 1, none⟩ = false := Blk.frozen k1 1
  have f2 : W9.frozen? ⟨s, 2, none⟩ = false := Blk.frozen k1 2
  have K1 := Lib.hid k1
  have K2 := Lib.hid k2
  clear k1 k2 hnx hnq bx u0
  go_wp2_with fail
  go_ret
  obtain ⟨W10, hW10⟩ : ∃ W10, W10 = ((W9.setCell ⟨s, 0, none⟩ (.pointer (some ⟨b2, 0, none⟩))).setCell ⟨s, 1, none⟩ (.int .i64 (o : Int))).setCell ⟨s, 2, none⟩ (.int .u64 ((g : Int) + 1)) := ⟨_, rfl⟩
  have oz : Only (fun b => b = s) W9 W10 := by rw [hW10]; exact (((Only.refl (fun b => b = s) W9).setCell (p := ⟨s, 0, none⟩) (.inl rfl) _).setCell (p := ⟨s, 1, none⟩) (.inl rfl) _).setCell (p := ⟨s, 2, none⟩) (.inl rfl) _
  have bz : Blk W10 s 51 #[.pointer (some ⟨b2, 0, none⟩), .int .i64 (o : Int), .int .u64 ((g : Int) + 1), .pointer (some ⟨p, 0, none⟩), .bool false] := by
    have h1 : Blk W9 s 51 #[.pointer (some ⟨bb, 0, none⟩), .int .i64 (k : Int), .int .u64 (g : Int), .pointer (some ⟨p, 0, none⟩), .bool false] := K1.out
    rw [hW10]
    exact ((h1.set_ 0 (.pointer (some ⟨b2, 0, none⟩))).set_ 1 (.int .i64 (o : Int))).set_ 2 (.int .u64 ((g : Int) + 1))
  rw [← hW10]
  have hgi : ((g + 1 : Nat) : Int) = (g : Int) + 1 := by omega
  have oy : Only (fun b => b = s) W8 W10 := K2.out.trans oz
  have HUS' : Blk W8 s 51 #[.pointer (some ⟨bb, 0, none⟩), .int .i64 (k : Int), .int .u64 (g : Int), .pointer (some ⟨p, 0, none⟩), .bool false] := HUS.out
  refine ⟨rfl, b2, ?_, ?_, ?_, ?_⟩
  · obtain ⟨S1, a1, a2⟩ := HT.out.d
    rw [← HHD.out]
    exact ⟨S1, a1.away HUS' oy nDT_store, a2⟩
  · rw [← HHD.out]
    exact oy.blk HT.out.b (fun e => Blk.ne_ HT.out.b HUS' (by decide) e)
  · show Blk W10 s 51 #[.pointer (some ⟨b2, 0, none⟩), .int .i64 (o : Int), .int .u64 ((g + 1 : Nat) : Int), .pointer (some ⟨p, 0, none⟩), .bool false]
    rw [hgi]
    exact bz
  · exact (HPW.out.mono fun _ h => h.elim).trans (HT.out.only.trans (oy.mono fun b hb => by rw [hb]; exact HBS.out))
end Go.Proofs.YthggliknnmhbdaaGreat
