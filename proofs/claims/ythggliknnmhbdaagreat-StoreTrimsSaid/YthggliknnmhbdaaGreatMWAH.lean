/- Several texts in one: DkI. -/
import Derived.Test.YthggliknnmhbdaaGreatMWAG
import Derived.Great.FillDense
import Derived.Great.BuildSlice
import Derived.Lib.BufferWrite
/- A disk of sectors: what a write does. -/
namespace Go.Proofs.YthggliknnmhbdaaGreat
set_option maxRecDepth 100000
open Go.RowKit Go.WideShapes Go.ChangeShapes
set_option linter.unusedVariables false
attribute [local simp] frOf dstsOf frGo predsHold allHold Region.binds slotOf seen Is Act.put
def zs128 : List Value := List.replicate 128 (.int .u8 0)
def wr0 (k : Nat) : List Value := .int .i64 (k : Int) :: zs128
theorem zs_len : zs128.length = 128 := List.length_replicate
theorem zs_drop (m : Nat) : zs128.drop m = List.replicate (128 - m) (.int .u8 0) := List.drop_replicate
theorem wr0_len (k : Nat) : (wr0 k).length = 129 := by simp [wr0, zs_len]
theorem wr0_one (k : Nat) : ∀ v ∈ wr0 k, v.oneCell' = true := by
  intro v hv
  rcases List.mem_cons.1 hv with rfl | hv
  · rfl
  · rw [(List.mem_replicate.1 hv).2]; rfl
theorem built_w (k : Nat) : Tryz.prog.built 67 [(0, .int .i64 (k : Int))] = some (wr0 k).toArray := by kernel_rfl
theorem infoW : ∃ i, Tryz.prog.info? 67 = some i ∧ i.zero = some (.agg zeroWc) ∧ i.size = 129 ∧ i.bytes = 136 := by
  have h : (Tryz.prog.info? 67).map (fun i => (i.zero, i.size, i.bytes)) = some (some (.agg zeroWc), 129, 136) := by kernel_rfl
  cases hp : Tryz.prog.info? 67 with
  | none => rw [hp] at h; cases h
  | some i =>
    rw [hp] at h
    simp only [Option.map_some, Option.some.injEq, Prod.mk.injEq] at h
    exact ⟨i, rfl, h.1, h.2.1, h.2.2⟩
theorem wrL_pad (k : Nat) (s : ByteArray) (hs : s.size ≤ 128) : wrL (k, pad 0 s.data.toList) = .int .i64 (k : Int) :: (Lib.byteCells s.data.toList ++ List.replicate (128 - s.size) (.int .u8 0)) := by
  have hbl : s.data.toList.length = s.size := by simp
  have h1 : Lib.byteCells s.data.toList = s.data.toList.map byteV := rfl
  unfold wrL pad
  rw [h1, hbl]
  simp [byteV]
theorem run_rowW (w : World) (cs : List Value) (hl : cs.length = 129) : (Instr.buildSlice 60 1 #[(0, .agg cs.toArray)]).run Tryz.prog w = .ok (.slice (some ⟨w.heap.size, 0, none⟩) 1 1) (w.alloc (.cells cs.toArray 67)) := by
  obtain ⟨i, hi, hz, hs, hb⟩ := infoW
  refine run_buildSlice (P := Tryz.prog) w 60 67 1 _ cs.toArray i (.agg zeroWc) Tryz.underlying60 hi hz (by rw [hs]; decide) (by rw [hs]; decide) ?_
  rw [hs]
  have := Go.Great.fill_whole (s := 129) (by decide) [.agg cs.toArray] ((Array.range (1 * 129)).map ((Value.agg zeroWc).cells[· % (Value.agg zeroWc).cells.size]!)) (by intro v hv; simp at hv; subst hv; simp [Value.cells, hl]) (by simp)
  simpa [Value.cells] using this
def WSt (W2 W3 W4 W5 : World) (ld : Nat → Bool) (y : World) : Prop :=
  (ld 6 = true → ld 5 = true) ∧ (ld 7 = true → ld 4 = true ∧ ld 6 = true) ∧ (ld 10 = true → ld 7 = true) ∧ y = (if ld 10 = true then W5 else if ld 7 = true then W4 else if ld 6 = true then W3 else W2)
theorem wpList_build_by {P : Program} {ops : Array Oper} {rest : List Oper} {op : Oper} {a : Act} {w : World} {Q : Exit → Act → World → Prop} (hgd : op.guard = none) (t : TypeId) (parts : Array (Nat × Operand)) (ho : op.op = .build t parts) {v : Value}
    (hr : (Instr.build t (parts.map fun (i, x) => (i, a.eval x))).run P w = .ok v w) (h : wpList P ops Q rest (a.put op.dst v) w) : wpList P ops Q (op :: rest) a w :=
  wpList_plain hgd fun _ hK => by
    unfold Oper.wp execOp
    simp only [ho, Sem.run_bind, Sem.run_pure, Result.andThen_ok, hr]
    exact hK _ _ h
theorem wp_bs_by {P : Program} {op : Oper} {a : Act} {w w' : World} {K : Act → World → Prop} {Q : Exit → Act → World → Prop} (t : TypeId) (len : Nat) (parts : Array (Nat × Operand)) (ho : op.op = .buildSlice t len parts) {v : Value}
    (hr : (Instr.buildSlice t len (parts.map fun (i, x) => (i, a.eval x))).run P w = .ok v w') (h : K (a.put op.dst v) w') : op.wp P a w K Q := by
  unfold Oper.wp execOp
  simp only [ho, Sem.run_bind, Sem.run_pure, Result.andThen_ok, hr]
  exact h
theorem wp_append_by {P : Program} {o : Oper} {a : Act} {w w' : World} {K : Act → World → Prop} {Q : Exit → Act → World → Prop} (s x : Operand) (t : TypeId)
    (ho : o.op = .call { callee := .builtin .append, args := #[s, x], argTypes := #[t, t] }) {sv xv v' : Value} (hs : a.eval s = sv) (hx : a.eval x = xv)
    (hrun : (Builtin.append_ #[t, t] o.type #[sv, xv]).run P w = .ok v' w') (h : K (a.put o.dst v') w') : o.wp P a w K Q := by
  unfold Oper.wp execOp
  simp only [ho, resolve, invoke, builtin, Sem.run_bind, Sem.run_pure, Result.andThen_ok, List.map_toArray, List.map_cons, List.map_nil, hs, hx, hrun]
  exact h
/-- what a write is answered, while there is fuse -/
def wErr (n : Nat) (k : Int) (len : Nat) : Int := if 0 ≤ k ∧ k < (n : Int) then (if len ≤ 128 then 0 else 4) else 50
set_option maxHeartbeats 2000000 in
set_option maxRecDepth 100000 in
theorem write_any (p gs n : Nat) (g : List (List UInt8)) (l : List (Nat × List UInt8)) (A : Option Addr) (c : Nat) (fb : Bool) (left : Int) (B : Nat) (k : Int) (s : ByteArray) (w : World) (D : DiskAt w p gs n g l A c fb left B) (hn : n ≤ 4096)
    (h0 : -4611686018427387904 ≤ left) (hst : (fb && decide (left = 0)) = false) (h1 : left ≤ 9223372036854775807) (hll : l.length ≤ 1000000) (hs : s.size ≤ 9223372036854775807) :
    Calls Tryz.prog 51 #[.pointer (some ⟨p, 0, none⟩), .int .i64 k, .string s] w fun e w' => e = .returned (.int .i64 (wErr n k s.size)) ∧
      (∃ A' c', DiskAt w' p gs n g (l ++ (wrote 0 n (k, s.data.toList)).toList) A' c' fb (if wErr n k s.size = 0 then left - 1 else left) B) ∧ Only (fun b => B ≤ b) w w' ∧ Far w w' := by
  have hbl : s.data.toList.length = s.size := by simp
  by_cases hk : 0 ≤ k ∧ k < (n : Int)
  · obtain ⟨k, rfl⟩ : ∃ j : Nat, k = j := ⟨k.toNat, by omega⟩
    have hk0 := hk.1
    have hk1 := hk.2
    by_cases hsz : s.size ≤ 128
    · have hE : wErr n (k : Int) s.size = 0 := by unfold wErr; rw [if_pos ⟨hk0, hk1⟩, if_pos hsz]
      rw [hE]
      clear hE
      have hw : (wrote 0 n ((k : Int), s.data.toList)).toList = [(k, pad 0 s.data.toList)] := by
        unfold wrote
        rw [if_pos ⟨hk0, hk1, by rw [hbl]; exact hsz⟩]
        simp
      rw [hw]
      have hx : (k, pad 0 s.data.toList).2.length = 128 := pad_length 0 _ (by rw [hbl]; exact hsz)
      obtain ⟨x, hxe⟩ : ∃ x, x = (k, pad 0 s.data.toList) := ⟨_, rfl⟩
      rw [← hxe] at hx ⊢
      have hx1 : x.1 = k := by rw [hxe]
      have hwr : wrL x = .int .i64 (k : Int) :: (Lib.byteCells s.data.toList ++ List.replicate (128 - s.size) (.int .u8 0)) := by rw [hxe]; exact wrL_pad k s hsz
      have hpg : p ≠ gs := Blk.ne_ D.blk D.sec (by decide)
      have hszi : (s.size : Int) ≤ 128 := by omega
      have hsz0 : (0 : Int) ≤ (s.size : Int) := by omega
      have hcl : w.cell? ⟨p, 0, none⟩ = some (.slice (some ⟨gs, 0, none⟩) n n) := D.blk.cell 0
      obtain ⟨hzv, hzi⟩ := zero_of_info zeroW
      have HD := Lib.hid D
      have HX := Lib.hid hx
      have HX1 := Lib.hid hx1
      have HWR := Lib.hid hwr
      clear D hbl hw hk hx hx1 hwr hxe
      go_enter Tryz.func51, Tryz.ntmps51
      go_wp2_with fail
      refine (none_any _ _ _ _ _ _ _ _ HD.out.blk).mono ?_
      rintro e w1 ⟨rfl, rfl⟩
      go_wp2_with fail
      refine (burn_yes _ _ _ _ _ _ HD.out.blk hst h0 h1).mono ?_
      rintro e w1 ⟨rfl, rfl⟩
      obtain ⟨W, hW⟩ : ∃ W, W = w.setCell ⟨p, 3, none⟩ (.int .i64 (left - 1)) := ⟨_, rfl⟩
      rw [← hW]
      have hO : Only (fun b => b = p) w W := by rw [hW]; exact (Only.refl (fun b => b = p) w).setCell (p := ⟨p, 3, none⟩) (.inl rfl) _
      have hP : Blk W p 62 #[.slice (some ⟨gs, 0, none⟩) n n, .slice A l.length c, .bool fb, .int .i64 (left - 1)] := by rw [hW]; exact HD.out.blk.set_ 3 _
      have hG : Blk W gs 65 (secL g).toArray := hO.blk HD.out.sec (fun e => hpg e.symm)
      have hR : W.ownsRow B 67 129 (.slice A l.length c) l.length (l.flatMap wrL) := hO.owns HD.out.own (fun k hk e => own_blk_ne HD.out.own HD.out.blk (by decide) (hk.trans (congrArg some e)))
      clear hW
      have hbd := run_build (P := Tryz.prog) W 67 #[(0, .int .i64 (k : Int))] (wr0 k).toArray (built_w k)
      have hst := run_storeAt_new (P := Tryz.prog) W 67 zeroWc (wr0 k).toArray (by rw [List.size_toArray, wr0_len]; exact hzi) (by simp [zeroWc, wr0_len]) (all_oneCell_toArray (wr0_one k))
      have hcp := Lib.run_copy_row_string (P := Tryz.prog) (W.alloc (.cells (wr0 k).toArray 67)) 93 9 3 5 W.heap.size 1 128 128 s (wr0 k).toArray 67 Tryz.underlying93 sizeU8 (heap_alloc_new W _) hsz (by rw [List.size_toArray, wr0_len]; omega)
      obtain ⟨W1, hW1⟩ : ∃ W1, W1 = W.alloc (.cells (wrL x).toArray 67) := ⟨_, rfl⟩
      have hset : (W.alloc (.cells (wr0 k).toArray 67)).setRow W.heap.size ((wr0 k).take 1 ++ Lib.byteCells s.data.toList ++ (wr0 k).drop (1 + s.size)).toArray = W1 := by
        rw [hW1, HWR.out, World.setRow_alloc_new]
        unfold wr0
        rw [show 1 + s.size = s.size + 1 by omega, List.drop_succ_cons, zs_drop]
        rfl
      rw [hset] at hcp
      have HW1 := Lib.hid hW1
      obtain ⟨W2, hW2⟩ : ∃ W2, W2 = W1.drew := ⟨_, rfl⟩
      have o2 : Only (fun _ => False) W W2 := by rw [hW2, hW1]; exact ((Only.refl _ W).alloc _).drew
      have d1 := o2.blk hP (fun h => h)
      have d2 := o2.blk hG (fun h => h)
      have d3 := o2.owns hR (fun _ _ h => h)
      have d5 : Blk W2 W.heap.size 67 (wrL x).toArray := by rw [hW2, hW1]; exact (Blk.new W _ _).drew
      obtain ⟨W3, hW3⟩ : ∃ W3, W3 = W2.alloc (.cells (wrL x).toArray 67) := ⟨_, rfl⟩
      have hrow := run_rowW W2 (wrL x) (wrL_len HX.out)
      rw [← hW3] at hrow
      have o3 : Only (fun _ => False) W2 W3 := by rw [hW3]; exact (Only.refl _ W2).alloc _
      have e1 := o3.blk d1 (fun h => h)
      have e2 := o3.blk d2 (fun h => h)
      have e3 := o3.owns d3 (fun _ _ h => h)
      have e5 := o3.blk d5 (fun h => h)
      have e6 : Blk W3 W2.heap.size 67 (wrL x).toArray := by rw [hW3]; exact Blk.new W2 _ _
      obtain ⟨i, hi, hz, hsi, hb⟩ := infoW
      have hrd : Reads W3 W3.heap.size 129 (some ⟨W2.heap.size, 0, none⟩) 1 (wrL x) := ⟨by rw [wrL_len HX.out], fun _ => ⟨_, rfl, e6.lt, fun j u hu => by
        rw [addr_plus, Nat.zero_add, e6.cell]
        simpa using hu⟩⟩
      have hBW : B ≤ W3.heap.size := by have := e1.lt; have := HD.out.lo; omega
      obtain ⟨v', W4, hap, a1, a2, a3⟩ := run_append_any (P := Tryz.prog) W3 B 60 60 67 i (.agg zeroWc) 129 136 Tryz.underlying60 hi hz hsi hb rfl (by decide) _ _ _ e3 W3.heap.size (some ⟨W2.heap.size, 0, none⟩) 1 1 (wrL x) hrd (wrL_one x) (by unfold maxLen; omega) (by omega) hBW
      obtain ⟨A', c', rfl⟩ : ∃ A' c', v' = .slice A' (l.length + 1) c' := by
        rcases owns_form a1 with ⟨_, h⟩ | ⟨g', cap, h, _⟩
        · omega
        · exact ⟨_, _, h⟩
      have o4 : Only (fun b => B ≤ b ∧ b ≠ p ∧ b ≠ gs) W3 W4 := (Only.refl _ W3).grown a2 (fun q hq => by
        have h1 := own_blk_ne e3 e1 (by decide)
        have h2 := own_blk_ne e3 e2 (by decide)
        rcases owns_form e3 with ⟨h, _⟩ | ⟨g', cap, h, _, _, hB, _⟩
        · rw [h] at hq; cases hq
        · rw [h] at hq h1 h2
          have hq' : g' = q := by simpa [Value.ownBlock] using hq
          subst hq'
          exact .inl ⟨hB, fun e => h1 (by simp [Value.ownBlock, e]), fun e => h2 (by simp [Value.ownBlock, e])⟩)
      have f1 := o4.blk e1 (fun h => h.2.1 rfl)
      have f2 := o4.blk e2 (fun h => h.2.2 rfl)
      have f3 := f1.frozen 1
      have f4 : W4.cell? ⟨p, 1, none⟩ = some (.slice A l.length c) := f1.cell 1
      have hfin : DiskAt (W4.setCell ⟨p, 1, none⟩ (.slice A' (l.length + 1) c')) p gs n g (l ++ [x]) A' c' fb (left - 1) B ∧ Only (fun b => B ≤ b) w (W4.setCell ⟨p, 1, none⟩ (.slice A' (l.length + 1) c')) ∧ Far w (W4.setCell ⟨p, 1, none⟩ (.slice A' (l.length + 1) c')) := by
        have hne := own_blk_ne a1 f1 (by decide)
        refine ⟨⟨by rw [List.length_append]; exact f1.set_ 1 _, f2.far (fun e => hpg e.symm) _, ?_, HD.out.lo, ⟨HD.out.ok.len, HD.out.ok.all, fun y hy => ?_⟩⟩, ?_⟩
        · rw [List.length_append, List.flatMap_append]
          simp only [List.length_singleton, List.flatMap_cons, List.flatMap_nil, List.append_nil]
          exact ((Only.refl (fun b => b = p) W4).setCell (p := ⟨p, 1, none⟩) (.inl rfl) _).owns a1 (fun q hq e => hne (hq.trans (congrArg some e)))
        · rcases List.mem_append.1 hy with h | h
          · exact HD.out.ok.lo y h
          · rw [List.mem_singleton.1 h]
            exact ⟨by rw [HX1.out]; omega, HX.out⟩
        · have q1 : Only (fun b => B ≤ b) w W := hO.mono fun _ h => by rw [h]; exact HD.out.lo.1
          have q2 := q1.trans (o2.mono fun _ h => h.elim)
          have q3 := q2.trans (o3.mono fun _ h => h.elim)
          have q4 := q3.trans (o4.mono fun _ h => h.1)
          refine ⟨q4.setCell (.inl HD.out.lo.1) _, ?_⟩
          have t1 : Far w W := Far.of_only hO (fun k t cs hk hb => by subst hk; rw [blk_same hb HD.out.blk]; exact .inl rfl)
          have t4 : Far W3 W4 := Far.of_only (S := fun b => (Value.slice A l.length c).ownBlock = some b) ((Only.refl _ W3).grown a2 (fun q hq => .inl hq)) (fun k t cs hk hb => by rw [own_same e3 hk hb]; exact .inr (.inr rfl))
          have t5 : Far W4 (W4.setCell ⟨p, 1, none⟩ (.slice A' (l.length + 1) c')) := Far.of_only (S := fun b => b = p) ((Only.refl (fun b => b = p) W4).setCell (p := ⟨p, 1, none⟩) (.inl rfl) _) (fun k t cs hk hb => by subst hk; rw [blk_same hb f1]; exact .inl rfl)
          exact ((t1.trans (Far.of_none o2)).trans ((Far.of_none o3).trans t4)).trans t5
      have hl2 : ∀ y, y = W2 ∨ y = W3 → y.cell? ⟨p, 1, none⟩ = some (.slice A l.length c) ∧ (Instr.loadAt 67 (.pointer (some ⟨W.heap.size, 0, none⟩))).run Tryz.prog y = .ok (.agg (wrL x).toArray) y := by
        intro y hy
        have e2 : Blk y W.heap.size 67 (wrL x).toArray := by
          rcases hy with rfl | rfl
          · exact d5
          · exact e5
        refine ⟨?_, run_loadAt_mid (P := Tryz.prog) y W.heap.size 0 67 (wrL x) _ (fun j v hv => ?_) Tryz.underlying67 rfl (by rw [wrL_len HX.out]; exact sizeW)⟩
        · rcases hy with rfl | rfl
          · exact d1.cell 1
          · exact e1.cell 1
        · rw [Nat.zero_add, e2.cell]
          simpa using hv
      have HF := Lib.hid hfin
      have HL2 := Lib.hid hl2
      have HROW := Lib.hid hrow
      have HAP := Lib.hid hap
      have F3 := Lib.hid f3
      have F4 := Lib.hid f4
      have HBD := Lib.hid hbd
      have HST := Lib.hid hst
      clear hl2 hrow hap f3 f4 hbd hst
      have HW2 := Lib.hid hW2
      clear hfin hW1 hW2 hW3 hset hO hP hG hR o2 o3 o4 d1 d2 d3 d5 e1 e2 e3 e5 e6 f1 f2 a1 a2 a3 hrd hi hz hsi hb
      go_wp2_with (first | refine wpList_build_by rfl 67 #[(0, .tmp 31)] rfl HBD.out ?_ | refine wpList_store_by rfl 67 (.tmp 7) (.tmp 32) rfl rfl rfl HST.out ?_)
      have hkn : decide ((k : Int) < 0) = false := by simp
      have hsn : decide ((128 : Int) < (s.size : Int)) = false := by simp; omega
      simp only [hkn, hsn]
      generalize Value.agg _ = Z
      clear hcp hkn hsn
      refine wp_region_st (by kernel_rfl) (WSt W2 W3 W4 (W4.setCell ⟨p, 1, none⟩ (.slice A' (l.length + 1) c'))) [Is (.pointer (some ⟨p, 0, none⟩)), Is (.pointer (some ⟨p, 0, none⟩)), Is (.pointer (some ⟨p, 0, none⟩)), Is (.pointer (some ⟨p, 1, none⟩)), Is (.slice A l.length c), Is (.agg (wrL x).toArray), Is (.slice (some ⟨W2.heap.size, 0, none⟩) 1 1), Is (.slice A' (l.length + 1) c'), Is (.pointer (some ⟨p, 0, none⟩)), Is (.pointer (some ⟨p, 1, none⟩)), fun _ _ => True] (by kernel_rfl)
        ⟨is_stab _ _, is_stab _ _, is_stab _ _, is_stab _ _, is_stab _ _, is_stab _ _, is_stab _ _, is_stab _ _, is_stab _ _, is_stab _ _, (fun _ _ _ _ _ => trivial), trivial⟩ (by simp [WSt]; exact HW2.out.symm) ⟨?_, ?_, ?_, ?_, ?_, ?_, ?_, ?_, ?_, ?_, ?_, trivial⟩ ?_
      · intro ld u w1 hi he hS hp K hK
        refine ord_plain rfl ?_
        simp at hp hK ⊢
        go_simp
        exact hK _ _ (by simpa [WSt, ldW] using hS) rfl
      · intro ld u w1 hi he hS hp K hK
        refine ord_plain rfl ?_
        simp at hp hK ⊢
        go_simp
        exact hK _ _ (by simpa [WSt, ldW] using hS) rfl
      · intro ld u w1 hi he hS hp K hK
        refine ord_plain rfl ?_
        simp at hp hK ⊢
        simp only [hp] at hK
        go_simp
        exact hK _ _ (by simpa [WSt, ldW] using hS) rfl
      · intro ld u w1 hi he hS hp K hK
        refine ord_plain rfl ?_
        simp at hp hK ⊢
        simp only [hp] at hK
        go_simp
        exact hK _ _ (by simpa [WSt, ldW] using hS) rfl
      · intro ld u w1 hi he hS hp K hK
        refine ord_plain rfl ?_
        simp at hp hK ⊢
        simp only [hp] at hK
        have hS0 := hS
        obtain ⟨s1, s2, s3, s4⟩ := hS0
        have h7 : ld 7 = false := by cases h : ld 7 with | false => rfl | true => exact absurd (s2 h).1 (by simp [hi])
        have h10 : ld 10 = false := by cases h : ld 10 with | false => rfl | true => exact absurd (s3 h) (by simp [h7])
        have hy : w1 = W2 ∨ w1 = W3 := by have h := s4; simp [h7, h10] at h; split at h <;> simp [h]
        have hc := (HL2.out w1 hy).1
        simp [h7, h10] at s4
        have S1 := Lib.hid s1
        have S4 := Lib.hid s4
        clear s1 s2 s3 s4 hS hy
        go_simp
        refine hK _ _ ?_ rfl; simp [WSt, ldW, h7, h10]; exact ⟨S1.out, S4.out⟩
      · intro ld u w1 hi he hS hp K hK
        refine ord_plain rfl ?_
        simp at hp hK ⊢
        have hS0 := hS
        obtain ⟨s1, s2, s3, s4⟩ := hS0
        have h7 : ld 7 = false := by cases h : ld 7 with | false => rfl | true => exact absurd (s1 (s2 h).2) (by simp [hi])
        have h10 : ld 10 = false := by cases h : ld 10 with | false => rfl | true => exact absurd (s3 h) (by simp [h7])
        have hy : w1 = W2 ∨ w1 = W3 := by have h := s4; simp [h7, h10] at h; split at h <;> simp [h]
        refine wp_load_by 67 (.tmp 7) rfl rfl (HL2.out w1 hy).2 ?_
        simp [h7, h10] at s4
        refine hK _ _ ?_ rfl; simp [WSt, ldW, h7, h10]; exact s4
      · intro ld u w1 hi he hS hp K hK
        refine ord_plain rfl ?_
        simp at hp hK ⊢
        have hS0 := hS
        obtain ⟨s1, s2, s3, s4⟩ := hS0
        have h7 : ld 7 = false := by cases h : ld 7 with | false => rfl | true => exact absurd (s2 h).2 (by simp [hi])
        have h10 : ld 10 = false := by cases h : ld 10 with | false => rfl | true => exact absurd (s3 h) (by simp [h7])
        have h5 : ld 5 = true := by simpa [edgesDone] using he
        have h := s4
        simp [h7, h10, hi] at h
        subst h
        clear s1 s2 s3 s4 hS
        refine wp_bs_by 60 1 #[(0, .tmp 42)] rfl (by simpa [Act.eval, hp] using HROW.out) ?_
        refine hK _ _ ?_ rfl; simp [WSt, ldW, h7, h10, h5]
      · intro ld u w1 hi he hS hp K hK
        refine ord_plain rfl ?_
        simp at hp hK ⊢
        obtain ⟨hp1, hp2⟩ := hp
        obtain ⟨s1, s2, s3, s4⟩ := hS
        have he2 : ld 4 = true ∧ ld 6 = true := by simpa [edgesDone] using he
        have h5 := s1 he2.2
        have h10 : ld 10 = false := by cases h : ld 10 with | false => rfl | true => exact absurd (s3 h) (by simp [hi])
        have h := s4
        simp [hi, h10, he2] at h
        subst h
        clear s1 s2 s3 s4 he
        refine wp_append_by (.tmp 41) (.tmp 43) 60 rfl (by simpa [Act.eval] using hp1) (by simpa [Act.eval] using hp2) HAP.out ?_
        refine hK _ _ ?_ rfl; simp [WSt, ldW, h10, h5, he2]
      · intro ld u w1 hi he hS hp K hK
        refine ord_plain rfl ?_
        simp at hp hK ⊢
        obtain ⟨hp1, hp2, hp3, hp4, hp5, hp6, hp7, hp8⟩ := hp
        simp only [hp1, hp2, hp3, hp4, hp5, hp6, hp7, hp8] at hK
        go_simp
        exact hK _ _ (by simpa [WSt, ldW] using hS) rfl
      · intro ld u w1 hi he hS hp K hK
        refine ord_plain rfl ?_
        simp at hp hK ⊢
        obtain ⟨hp1, hp2, hp3, hp4, hp5, hp6, hp7, hp8, hp9⟩ := hp
        simp only [hp1, hp2, hp3, hp4, hp5, hp6, hp7, hp8, hp9] at hK
        go_simp
        exact hK _ _ (by simpa [WSt, ldW] using hS) rfl
      · intro ld u w1 hi he hS hp K hK
        refine ord_plain rfl ?_
        simp at hp hK ⊢
        obtain ⟨hp1, hp2, hp3, hp4, hp5, hp6, hp7, hp8, hp9, hp10⟩ := hp
        simp only [hp1, hp2, hp3, hp4, hp5, hp6, hp7, hp8, hp9] at hK
        obtain ⟨s1, s2, s3, s4⟩ := hS
        have h7 : ld 7 = true := by simp [edgesDone] at he; simp [he]
        have h46 := s2 h7
        have h5 := s1 h46.2
        have h := s4
        simp [hi, h7] at h
        subst h
        have f3 := F3.out
        have f4 := F4.out
        clear s1 s2 s3 s4 he
        go_simp
        refine hK _ ?_
        simp [WSt, ldW, h7, h46, h5]
      · intro u w1 ld hld hS hp
        simp at hp ⊢
        have h10 := hld 10 (by decide)
        obtain ⟨_, _, _, hS⟩ := hS
        simp [h10] at hS
        subst hS
        go_wp2
        go_ret
        exact ⟨rfl, ⟨A', c', HF.out.1⟩, HF.out.2⟩
    · have hE : wErr n (k : Int) s.size = 4 := by unfold wErr; rw [if_pos ⟨hk0, hk1⟩, if_neg hsz]
      rw [hE]
      clear hE
      have hw : (wrote 0 n ((k : Int), s.data.toList)).toList = [] := by
        unfold wrote
        rw [if_neg (fun h => hsz (by rw [← hbl]; exact h.2.2))]
        rfl
      rw [hw, List.append_nil]
      have hszi : (128 : Int) < (s.size : Int) := by omega
      have hcl : w.cell? ⟨p, 0, none⟩ = some (.slice (some ⟨gs, 0, none⟩) n n) := D.blk.cell 0
      have HD := Lib.hid D
      clear D hbl hw hk
      go_enter Tryz.func51, Tryz.ntmps51
      go_wp2_with fail
      refine (none_any _ _ _ _ _ _ _ _ HD.out.blk).mono ?_
      rintro e w1 ⟨rfl, rfl⟩
      go_wp2
      go_ret
      exact ⟨rfl, ⟨A, c, HD.out⟩, Only.refl _ _, Far.refl _⟩
  · have hE : wErr n k s.size = 50 := by unfold wErr; rw [if_neg hk]
    rw [hE]
    clear hE
    have hw : (wrote 0 n (k, s.data.toList)).toList = [] := by
      unfold wrote
      rw [if_neg (fun h => hk ⟨h.1, h.2.1⟩)]
      rfl
    rw [hw, List.append_nil]
    have hcl : w.cell? ⟨p, 0, none⟩ = some (.slice (some ⟨gs, 0, none⟩) n n) := D.blk.cell 0
    have HD := Lib.hid D
    clear D hbl hw
    have main : ∀ (hkk : k < 0 ∨ (¬ k < 0 ∧ k ≥ (n : Int))), Calls Tryz.prog 51 #[.pointer (some ⟨p, 0, none⟩), .int .i64 k, .string s] w fun e w' => e = .returned (.int .i64 50) ∧
        (∃ A' c', DiskAt w' p gs n g l A' c' fb (if (50 : Int) = 0 then left - 1 else left) B) ∧ Only (fun b => B ≤ b) w w' ∧ Far w w' := by
      intro hkk
      clear hk
      rcases hkk with hk | ⟨hk, hk2⟩
      · go_enter Tryz.func51, Tryz.ntmps51
        go_wp2_with fail
        refine (none_any _ _ _ _ _ _ _ _ HD.out.blk).mono ?_
        rintro e w1 ⟨rfl, rfl⟩
        go_wp2
        go_ret
        exact ⟨rfl, ⟨A, c, HD.out⟩, Only.refl _ _, Far.refl _⟩
      · go_enter Tryz.func51, Tryz.ntmps51
        go_wp2_with fail
        refine (none_any _ _ _ _ _ _ _ _ HD.out.blk).mono ?_
        rintro e w1 ⟨rfl, rfl⟩
        go_wp2
        go_ret
        exact ⟨rfl, ⟨A, c, HD.out⟩, Only.refl _ _, Far.refl _⟩
    exact main (by omega)
end Go.Proofs.YthggliknnmhbdaaGreat
