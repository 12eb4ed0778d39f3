/- Several texts in one: DkJ. -/
import Derived.Test.YtmneflpjoaocbaaGreatMWAC
import Derived.Test.YtmneflpjoaocbaaGreatMWAH
import Derived.Test.YtmneflpjoaocbaaGreatShelf
/- A disk of sectors: what is there for good, as a text. -/
namespace Go.Proofs.YtmneflpjoaocbaaGreat
set_option maxRecDepth 100000
open Go.RowKit Go.WideShapes Go.ChangeShapes
set_option linter.unusedVariables false
theorem ccheck_only (B b : Nat) (bx : List Value) (w : World) (h : Lib.IsBuilder 76 5 B b bx w) :
    Calls Tryz.prog 57 #[.pointer (some ⟨b, 0, none⟩)] w fun e w' => e = .returned (.tuple #[]) ∧ Lib.BuilderAt 76 5 B b (.pointer (some ⟨b, 0, none⟩)) bx w' ∧ Below B w w' ∧ Only (fun k => k = b) w w' := by
  rcases h with h | h
  · refine (ccheck_fresh b w h.cell0 h.shape h.frozen0).mono ?_
    rintro e w' ⟨rfl, rfl⟩
    exact ⟨rfl, h.used _, (Below.refl B w).setCell (p := ⟨b, 0, none⟩) h.1 _, (Only.refl (fun k => k = b) w).setCell (p := ⟨b, 0, none⟩) (.inl rfl) _⟩
  · refine (ccheck_used b w h.cell0).mono ?_
    rintro e w' ⟨rfl, rfl⟩
    exact ⟨rfl, h, Below.refl B _, Only.refl _ _⟩
theorem bwrite_any (B b : Nat) (bx : List Value) (A : Option Addr) (m c BA : Nat) (news : List Value) (w : World) (h : Lib.IsBuilder 76 5 B b bx w) (hr : Reads w BA 1 A m news) (hBA : BA ≤ B ∨ (∀ ad, A = some ad → ad.block ≠ b ∧ ad.block < w.heap.size ∧ BA ≤ w.heap.size)) (h1 : ∀ u ∈ news, u.oneCell' = true)
    (hlen : bx.length + m ≤ 140737488355328) (hBw : B ≤ w.heap.size) :
    Calls Tryz.prog 30 #[.pointer (some ⟨b, 0, none⟩), .slice A m c] w fun e w' => e = .returned (.tuple #[.int .i64 m, .nilIface]) ∧ (Lib.BuilderAt 76 5 B b (.pointer (some ⟨b, 0, none⟩)) (bx ++ news) w' ∧ Below B w w') := by
  obtain ⟨i0, hi, hz0, hz1, hz2⟩ := info_parts (show (Tryz.prog.info? 5).map (fun i => (i.zero, i.size, i.bytes)) = some (some (.int .u8 0), 1, 1) by kernel_rfl)
  have hbc : ∃ p v, w.heap[b]? = some (.cells #[p, v] 76 (0, 0)) := by
    rcases h with ⟨_, v, h, _⟩ | ⟨_, v, h, _⟩
    · exact ⟨_, v, h⟩
    · exact ⟨_, v, h⟩
  go_enter Tryz.func30, Tryz.ntmps30
  go_wp2_with fail
  refine (ccheck_only B b bx _ h).mono ?_
  rintro e w1 ⟨rfl, h1', hb1, ho1⟩
  obtain ⟨hB, v, hbk, hown, hne⟩ := h1'
  have c0 : w1.cell? ⟨b, 0, none⟩ = some (.pointer (some ⟨b, 0, none⟩)) := by rw [Lib.cell_of_heap hbk]; rfl
  have c1 : w1.cell? ⟨b, 1, none⟩ = some v := by rw [Lib.cell_of_heap hbk]; rfl
  have hr1 : Reads w1 w1.heap.size 1 A m news := by
    refine ⟨hr.1, fun hm => ?_⟩
    obtain ⟨ad, e, hlt, hc⟩ := hr.2 hm
    have hadb : ad.block ≠ b ∧ ad.block < w.heap.size := by
      rcases hBA with hBA | hBA
      · exact ⟨by omega, by omega⟩
      · exact ⟨(hBA ad e).1, (hBA ad e).2.1⟩
    exact ⟨ad, e, Nat.lt_of_lt_of_le hadb.2 ho1.size, fun j u hu => (ho1.cell (by rw [block_of_add]; exact hadb.2) (by rw [block_of_add]; exact hadb.1)).trans (hc j u hu)⟩
  have HR1 := Lib.hid hr1
  clear hr hr1 hBA hbc
  go_wp2_with (at_builtin; refine wpList_append_any (P := Tryz.prog) _ rfl _ _ 57 rfl B 5 i0 (.int .u8 0) 1 1 Tryz.underlying57 hi hz0 hz1 hz2 rfl (by decide) _ _ _ rfl hown w1.heap.size A m c news rfl HR1.out h1 ?c3 ?c4 ?c5 ?_)
  case c3 => unfold maxLen; omega
  case c4 => omega
  case c5 => have := hb1.size; omega
  intro v' w2 hown' hgrow _
  have hlt : b < w1.heap.size := by
    rcases Nat.lt_or_ge b w1.heap.size with h' | h'
    · exact h'
    · simp [Array.getElem?_eq_none h'] at hbk
  have hb2 : w2.heap[b]? = some (.cells #[.pointer (some ⟨b, 0, none⟩), v] 76 (0, 0)) := by
    rw [hgrow.block b hlt (fun e => hne e.symm)]
    exact hbk
  have d0 : w2.cell? ⟨b, 0, none⟩ = some (.pointer (some ⟨b, 0, none⟩)) := by rw [Lib.cell_of_heap hb2]; rfl
  have d1 : w2.cell? ⟨b, 1, none⟩ = some v := by rw [Lib.cell_of_heap hb2]; rfl
  have f1 : w2.frozen? ⟨b, 1, none⟩ = false := Lib.frozen_of_heap hb2 1
  obtain ⟨ao, n', cap, rfl⟩ : ∃ ao n' cap, v' = .slice ao n' cap := by
    rcases hown'.2 with ⟨hv, _⟩ | ⟨g, cap, cur, hv, _⟩
    · exact ⟨_, _, _, hv⟩
    · exact ⟨_, _, _, hv⟩
  have hn2 : news.length = m := by have := HR1.out.1; omega
  go_wp2
  go_ret2
  refine ⟨rfl, ?_, ?_⟩
  · exact Lib.BuilderAt.put (T := 76) (e := 5) hB hb2 (bs' := bx ++ news) (by simpa [hn2] using hown') (by decide)
  · exact (hb1.grown hgrow (by have := hb1.size; omega) (fun k hk => (hown.lt k hk).1)).setCell (p := ⟨b, 1, none⟩) hB _
theorem zeroBi : (Tryz.prog.info? 78).map (fun i => (i.zero, i.size)) = some (some zeroB, 128) := by kernel_rfl
theorem sec_range {w : World} {gs : Nat} {g : List (List UInt8)} (hb : Blk w gs 78 (secL g).toArray) (hall : ∀ t ∈ g, t.length = 128) {k : Nat} {t : List UInt8} (ht : g[k]? = some t) : w.rangeAt gs (k * 128) (t.map byteV) := by
  intro j v hv
  have hk : k < g.length := (List.getElem?_eq_some_iff.1 ht).1
  have hj : j < 128 := by have := (List.getElem?_eq_some_iff.1 hv).1; rw [List.length_map, hall t (List.mem_of_getElem? ht)] at this; exact this
  rw [hb.cell]
  unfold secL
  rw [List.getElem?_toArray, List.getElem?_map]
  rw [List.getElem?_map] at hv
  have h1 := flat_mid g k hall hk
  have h2 : g.flatten[k * 128 + j]? = (g.flatten.drop (k * 128))[j]? := by rw [List.getElem?_drop]
  have hgd : g.getD k [] = t := by rw [List.getD_eq_getElem?_getD, ht]; rfl
  rw [h2, h1, hgd, List.getElem?_append_left (by rw [hall t (List.mem_of_getElem? ht)]; exact hj)]
  exact hv
set_option maxHeartbeats 1000000 in
theorem sure_any (p gs n : Nat) (g : List (List UInt8)) (l : List (Nat × List UInt8)) (A : Option Addr) (c : Nat) (fb : Bool) (left : Int) (B : Nat) (w : World) (D : DiskAt w p gs n g l A c fb left B) (hn : n ≤ 4096) :
    Calls Tryz.prog 14 #[.pointer (some ⟨p, 0, none⟩)] w fun e w' => e = .returned (.string ⟨g.flatten.toArray⟩) ∧ Below w.heap.size w w' := by
  obtain ⟨hzv, hzi⟩ := zero_of_info zeroBi
  have hgl := D.ok.len
  have c0 : w.cell? ⟨p, 0, none⟩ = some (.slice (some ⟨gs, 0, none⟩) n n) := D.blk.cell 0
  have hlt := D.blk.lt
  have hltg := D.sec.lt
  have c1 : (w.alloc (.cells #[.pointer none, .slice none 0 0] 76)).cell? ⟨p, 0, none⟩ = some (.slice (some ⟨gs, 0, none⟩) n n) := (World.cell?_alloc_lt w _ ⟨p, 0, none⟩ hlt).trans c0
  have HD := Lib.hid D
  have HI := Lib.hid hzi
  clear D hzi
  go_enter Tryz.func14, Tryz.ntmps14
  go_wp2_with fail
  refine (none_any _ _ _ _ _ _ _ _ HD.out.blk).mono ?_
  rintro e w1 ⟨rfl, rfl⟩
  go_wp2
  go_loopw [13] (fun i wr => ∃ k : Nat, k ≤ n ∧ i = .int .i64 k ∧ Lib.IsBuilder 76 5 w.heap.size w.heap.size ((g.take k).flatten.map byteV) wr ∧ Below w.heap.size w wr ∧ w.heap.size < wr.heap.size) (fun i _ => n - (intOf i).toNat)
  case atStart =>
    refine ⟨0, by omega, rfl, .inl ⟨Nat.le_refl _, .slice none 0 0, heap_alloc_new w _, World.ownsRow_nil _ _ _ _, by simp [Value.ownBlock]⟩, (Below.refl _ w).alloc (Nat.le_refl _) _, by simp⟩
  case round =>
    obtain ⟨k, hk, rfl, b1, b2, b3⟩ := hrel
    by_cases hlk : k < n
    · obtain ⟨t, ht⟩ : ∃ t, g[k]? = some t := ⟨_, List.getElem?_eq_getElem (by rw [hgl]; exact hlk)⟩
      have htl := HD.out.ok.all t (List.mem_of_getElem? ht)
      have hlo : (0 : Int) ≤ (k : Int) := by omega
      have hhi : (k : Int) < (n : Int) := by omega
      have hsec : Blk wr gs 78 (secL g).toArray := HD.out.sec.below b2 hltg
      have hld := run_loadAt_mid (P := Tryz.prog) wr gs (k * 128) 78 (t.map byteV) _ (sec_range hsec HD.out.ok.all ht) Tryz.underlying78 rfl (by rw [List.length_map, htl]; exact HI.out)
      have hst := run_storeAt_new (P := Tryz.prog) wr 78 (Array.replicate 128 (.int .u8 0)) (t.map byteV).toArray (by rw [List.size_toArray, List.length_map, htl]; exact HI.out) (by simp [htl]) (all_oneCell_toArray (byteV_one _))
      obtain ⟨W2, hW2⟩ : ∃ W2, W2 = wr.alloc (.cells (t.map byteV).toArray 78) := ⟨_, rfl⟩
      rw [← hW2] at hst
      have d1 : Lib.IsBuilder 76 5 w.heap.size w.heap.size ((g.take k).flatten.map byteV) W2 := by
        have o := (Only.refl (fun _ => False) wr).alloc (.cells (t.map byteV).toArray 78)
        rw [← hW2] at o
        rcases b1 with ⟨h1, v, h2, h3, h4⟩ | ⟨h1, v, h2, h3, h4⟩
        · exact .inl ⟨h1, v, (o.block _ b3 (fun h => h)).trans h2, o.owns h3 (fun _ _ h => h), h4⟩
        · exact .inr ⟨h1, v, (o.block _ b3 (fun h => h)).trans h2, o.owns h3 (fun _ _ h => h), h4⟩
      have d5 : Blk W2 wr.heap.size 78 (t.map byteV).toArray := by rw [hW2]; exact Blk.new wr _ _
      have d6 : Below w.heap.size w W2 := by rw [hW2]; exact b2.alloc (by omega) _
      have hrd : Reads W2 W2.heap.size 1 (some ⟨wr.heap.size, 0, none⟩) 128 (t.map byteV) := ⟨by rw [List.length_map, htl], fun _ => ⟨_, rfl, d5.lt, fun j u hu => by
        rw [addr_plus, Nat.zero_add, d5.cell]
        simpa using hu⟩⟩
      have hlen : ((g.take k).flatten.map byteV).length = k * 128 := by
        rw [List.length_map, flat_length _ (fun t ht => HD.out.ok.all t (List.mem_of_mem_take ht)), List.length_take]
        omega
      have hwr := bwrite_any w.heap.size w.heap.size _ (some ⟨wr.heap.size, 0, none⟩) 128 128 W2.heap.size _ W2 d1 hrd (.inr fun ad e => by
        injection e with e
        subst e
        exact ⟨by simp; omega, d5.lt, Nat.le_refl _⟩) (byteV_one _) (by rw [hlen]; omega) (by have := d6.size; omega)
      have hcat : (g.take k).flatten.map byteV ++ t.map byteV = (g.take (k + 1)).flatten.map byteV := by
        rw [List.take_add_one, ht]
        simp
      rw [hcat] at hwr
      have HW := Lib.hid hwr
      have D6 := Lib.hid d6
      have HLK := Lib.hid hlk
      have hwl : w.heap.size < W2.heap.size := Nat.lt_trans b3 d5.lt
      have HWL := Lib.hid hwl
      clear hwl
      clear b1 b2 d1 d5 d6 hrd hwr hcat hlen hW2 hsec
      go_wp2_with (first | refine wpList_load_by rfl 78 (.tmp 15) rfl rfl hld ?_ | refine wpList_store_by rfl 78 (.tmp 5) (.tmp 16) rfl rfl rfl hst ?_)
      refine HW.out.mono ?_
      rintro e w4 ⟨rfl, k1, k2⟩
      have K2 := Lib.hid k2
      have K1 := Lib.hid k1
      clear k1 k2 hld hst
      go_wp2
      go_roundw
      case rel => exact ⟨k + 1, HLK.out, by go_num, .inr K1.out, D6.out.trans K2.out, by have := K2.out.size; have := HWL.out; omega⟩
      case measure => have := HLK.out; simp [intOf]; omega
    · obtain rfl : k = n := by omega
      rw [← hgl, List.take_length] at b1
      have B1 := Lib.hid b1
      have B2 := Lib.hid b2
      clear b1 b2
      go_wp2_with fail
      refine (Tryz.Builder_String_any w.heap.size w.heap.size g.flatten _ B1.out (by omega)).mono ?_
      rintro e w4 ⟨rfl, k2⟩
      have K2 := Lib.hid k2
      clear k2
      go_wp2
      go_ret
      exact ⟨rfl, B2.out.trans K2.out⟩
end Go.Proofs.YtmneflpjoaocbaaGreat
