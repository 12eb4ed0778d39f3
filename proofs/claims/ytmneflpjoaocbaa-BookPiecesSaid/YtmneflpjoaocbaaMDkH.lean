/- Several texts in one: DkH. -/
import Derived.Test.YtmneflpjoaocbaaMDkG
/- A disk of sectors: what a crash does. -/
namespace Go.Proofs.Ytmneflpjoaocbaa
set_option maxRecDepth 100000
open Go.RowKit Go.WideShapes Go.ChangeShapes
set_option linter.unusedVariables false
attribute [local simp] frOf dstsOf frGo predsHold allHold Region.binds slotOf seen Is Act.put
theorem crashW_okl {n : Nat} {l : List (Nat × List UInt8)} {g : List (List UInt8)} (h : SecOk n l g) (k : Nat) (ps : List Int) : SecOk n l (crashW (l.take k) ps g) := by
  have := crashW_ok (l := l.take k) (ps := ps) (g := g) (k := n) ⟨h.len, h.all, fun w hw => h.lo w (List.mem_of_mem_take hw)⟩
  exact ⟨this.len, this.all, h.lo⟩
theorem crashW_nil (l : List (Nat × List UInt8)) (g : List (List UInt8)) : crashW l [] g = g := by
  cases l <;> rfl
theorem crashW_snoc : ∀ (l : List (Nat × List UInt8)) (ps : List Int) (g : List (List UInt8)) {k : Nat} {x : Nat × List UInt8}, l[k]? = some x → crashW (l.take (k + 1)) ps g = (match ps[k]? with | some N => keepW (crashW (l.take k) ps g) x N | none => crashW (l.take k) ps g)
  | [], ps, g, k, x, h => by simp at h
  | y :: l, [], g, k, x, h => by simp [crashW_nil]
  | y :: l, q :: ps, g, 0, x, h => by
    simp at h; subst h
    simp [crashW]
  | y :: l, q :: ps, g, k + 1, x, h => by
    have := crashW_snoc l ps (keepW g y q) (k := k) (x := x) (by simpa using h)
    rw [List.take_succ_cons, List.take_succ_cons]
    simp only [crashW, List.getElem?_cons_succ]
    exact this
theorem crash_any (p gs n : Nat) (g : List (List UInt8)) (l : List (Nat × List UInt8)) (A : Option Addr) (c : Nat) (fb : Bool) (left : Int) (B : Nat) (ps : List Int) (AP : Option Addr) (cp BP : Nat) (w : World) (D : DiskAt w p gs n g l A c fb left B) (hn : n ≤ 4096) (hll : l.length ≤ 1000000)
    (hps : Reads w BP 1 AP ps.length (ps.map (Value.int .i64))) (hBP : BP ≤ w.heap.size) (hav : 0 < ps.length → ∀ ad, AP = some ad → ad.block ≠ p ∧ ad.block ≠ gs) :
    Calls Try.prog 14 #[.pointer (some ⟨p, 0, none⟩), .slice AP ps.length cp] w fun e w' => e = .returned (.int .i64 0) ∧ DiskAt w' p gs n (crashW l ps g) [] none 0 false left B ∧ Only (fun b => b = p ∨ b = gs) w w' := by
  have hpg : p ≠ gs := Blk.ne_ D.blk D.sec (by decide)
  obtain ⟨hzv, hzi⟩ := zero_of_info zeroW
  have c1 : w.cell? ⟨p, 1, none⟩ = some (.slice A l.length c) := D.blk.cell 1
  have HD := Lib.hid D
  have HI := Lib.hid hzi
  have HPS := Lib.hid hps
  have HAV := Lib.hid hav
  clear D hzi hps hav
  go_enter Try.func14, Try.ntmps14
  go_wp2_with fail
  refine (none_any _ _ _ _ _ _ _ _ HD.out.blk).mono ?_
  rintro e w1 ⟨rfl, rfl⟩
  go_wp2
  go_loopw [14] (fun i wr => ∃ k : Nat, k ≤ l.length ∧ i = .int .i64 k ∧ Blk wr p 69 #[.slice (some ⟨gs, 0, none⟩) n n, .slice A l.length c, .bool fb, .int .i64 left] ∧ Blk wr gs 71 (secL (crashW (l.take k) ps g)).toArray ∧
    wr.ownsRow B 73 129 (.slice A l.length c) l.length (l.flatMap wrL) ∧ Only (fun b => b = p ∨ b = gs) w wr) (fun i _ => l.length - (intOf i).toNat)
  case atStart => exact ⟨0, by omega, rfl, HD.out.blk, by simpa [crashW] using HD.out.sec, HD.out.own, Only.refl _ _⟩
  case round =>
    obtain ⟨k, hk, rfl, b1, b2, b3, b4⟩ := hrel
    by_cases hlt : k < l.length
    · obtain ⟨x, hx⟩ : ∃ x, l[k]? = some x := ⟨_, List.getElem?_eq_getElem hlt⟩
      obtain ⟨gl, rfl, hgl, hBl, hrg⟩ := loose_range b3 (fun y hy => (HD.out.ok.lo y hy).2) hx
      have hxo := HD.out.ok.lo x (List.mem_of_getElem? hx)
      have hlo : (0 : Int) ≤ (k : Int) := by omega
      have hhi : (k : Int) < (l.length : Int) := by omega
      have hld := run_loadAt_mid (P := Try.prog) wr gl (k * 129) 73 (wrL x) _ hrg Try.underlying73 rfl (by rw [wrL_len hxo.2]; exact sizeW)
      have hst := run_storeAt_new (P := Try.prog) wr 73 zeroWc (wrL x).toArray (by simp only [List.size_toArray, wrL_len hxo.2]; exact HI.out) (by simp only [List.size_toArray, wrL_len hxo.2]; rfl) (all_oneCell_toArray (wrL_one x))
      have hok := crashW_okl HD.out.ok k ps
      have hsnoc := crashW_snoc l ps g hx
      by_cases hkp : k < ps.length
      · obtain ⟨N, hN⟩ : ∃ N, ps[k]? = some N := ⟨_, List.getElem?_eq_getElem hkp⟩
        rw [hN] at hsnoc
        simp only at hsnoc
        obtain ⟨ad, u, rfl, had, hu, hcu0⟩ := HPS.out.at_ hkp
        obtain ⟨hav1, hav2⟩ := HAV.out (by omega) ad rfl
        have hcu := (b4.cell (p := ad.add k) (by rw [block_of_add]; omega) (by rw [block_of_add]; exact fun h => h.elim hav1 hav2)).trans hcu0
        clear hcu0
        rw [List.getElem?_map, hN] at hu
        injection hu with hu
        subst hu
        have hkp1 : (k : Int) < (ps.length : Int) := by omega
        obtain ⟨W2, hW2⟩ : ∃ W2, W2 = (wr.alloc (.cells (wrL x).toArray 73)).drew := ⟨_, rfl⟩
        have d1 : Blk W2 p 69 #[.slice (some ⟨gs, 0, none⟩) n n, .slice (some ⟨gl, 0, none⟩) l.length c, .bool fb, .int .i64 left] := by rw [hW2]; exact (b1.alloc _).drew
        have d2 : Blk W2 gs 71 (secL (crashW (l.take k) ps g)).toArray := by rw [hW2]; exact (b2.alloc _).drew
        have dO : Only (fun _ => False) wr W2 := by rw [hW2]; exact ((Only.refl _ wr).alloc _).drew
        have d3 := dO.owns b3 (fun _ _ h => h)
        have d4 : Only (fun b => b = p ∨ b = gs) w W2 := b4.trans (dO.mono fun _ h => h.elim)
        have d5 : Blk W2 wr.heap.size 73 (wrL x).toArray := by rw [hW2]; exact (Blk.new wr _ _).drew
        have hadl : ad.block < wr.heap.size := by have := b4.size; omega
        have d6 : W2.cell? (ad.add k) = some (.int .i64 N) := (dO.cell (by rw [block_of_add]; exact hadl) (fun h => h)).trans hcu
        have hadgs : (ad.add k).block ≠ gs := by rw [block_of_add]; exact hav2
        have hgsr : wr.heap.size ≠ gs := fun e => by have := b2.lt; omega
        have hkeep := keep_any gs n _ l x N W2 hok hxo hn d2
        rw [← hsnoc] at hkeep
        have HW2 := Lib.hid hW2
        clear hW2
        have HLT := Lib.hid hlt
        have hl2 : ∀ y, (y = W2 ∨ Only (fun b => b = gs) W2 y) → y.cell? ⟨p, 0, none⟩ = some (.slice (some ⟨gs, 0, none⟩) n n) ∧ (Instr.loadAt 73 (.pointer (some ⟨wr.heap.size, 0, none⟩))).run Try.prog y = .ok (.agg (wrL x).toArray) y ∧ y.cell? (ad.add k) = some (.int .i64 N) := by
          intro y hy
          have hb : Only (fun b => b = gs) W2 y := by
            rcases hy with rfl | hy
            · exact Only.refl _ _
            · exact hy
          have e1 := hb.blk d1 hpg
          have e2 := hb.blk d5 hgsr
          refine ⟨e1.cell 0, run_loadAt_mid (P := Try.prog) y wr.heap.size 0 73 (wrL x) _ (fun j v hv => ?_) Try.underlying73 rfl (by rw [wrL_len hxo.2]; exact sizeW), (hb.cell (by rw [block_of_add]; have := dO.size; omega) hadgs).trans d6⟩
          rw [Nat.zero_add, e2.cell]
          simpa using hv
        have HB1 := Lib.hid b1
        have HD1 := Lib.hid d1
        have HD2 := Lib.hid d2
        have HD3 := Lib.hid d3
        have HD4 := Lib.hid d4
        have HK := Lib.hid hkeep
        clear b1 b2 b3 b4 d1 d2 d3 d4 d5 d6 dO hrg hkeep hok hsnoc hcu hkp hN
        go_wp2_with (first | refine wpList_load_by rfl 73 (.tmp 17) rfl rfl hld ?_ | refine wpList_store_by rfl 73 (.tmp 6) (.tmp 18) rfl rfl rfl hst ?_)
        clear hld hst
        refine wp_region_st (by kernel_rfl) (fun ld y => if ld 9 = true then (Blk y gs 71 (secL (crashW (l.take (k + 1)) ps g)).toArray ∧ Only (fun b => b = gs) W2 y) else y = W2) [Is (.pointer (some ⟨p, 0, none⟩)), Is (.pointer (some ⟨p, 0, none⟩)), Is (.pointer (some ⟨p, 0, none⟩)), Is (.slice (some ⟨gs, 0, none⟩) n n), Is (.agg (wrL x).toArray), Is (.slice (some ad) ps.length cp), Is (.int .i64 k), Is (.pointer (some (ad.add k))), Is (.int .i64 N), fun _ _ => True] (by kernel_rfl)
          ⟨is_stab _ _, is_stab _ _, is_stab _ _, is_stab _ _, is_stab _ _, is_stab _ _, is_stab _ _, is_stab _ _, is_stab _ _, (fun _ _ _ _ _ => trivial), trivial⟩ (by simp; exact HW2.out.symm) ⟨?_, ?_, ?_, ?_, ?_, ?_, ?_, ?_, ?_, ?_, trivial⟩ ?_
        · intro ld u w1 hi he hS hp K hK
          refine ord_plain rfl ?_
          simp at hp hK ⊢
          go_simp
          exact hK _ _ (by simpa [ldW] using hS) rfl
        · intro ld u w1 hi he hS hp K hK
          refine ord_plain rfl ?_
          simp at hp hK ⊢
          simp only [hp] at hK
          go_simp
          exact hK _ _ (by simpa [ldW] using hS) rfl
        · intro ld u w1 hi he hS hp K hK
          refine ord_plain rfl ?_
          simp at hp hK ⊢
          simp only [hp] at hK
          go_simp
          exact hK _ _ (by simpa [ldW] using hS) rfl
        · intro ld u w1 hi he hS hp K hK
          refine ord_plain rfl ?_
          simp at hp hK ⊢
          simp only [hp] at hK
          have hc := (hl2 w1 (by by_cases h9 : ld 9 = true <;> simp [h9] at hS <;> simp [hS])).1
          go_simp
          exact hK _ _ (by simpa [ldW] using hS) rfl
        · intro ld u w1 hi he hS hp K hK
          refine ord_plain rfl ?_
          simp at hp hK ⊢
          refine wp_load_by 73 (.tmp 6) rfl rfl (hl2 w1 (by by_cases h9 : ld 9 = true <;> simp [h9] at hS <;> simp [hS])).2.1 ?_
          exact hK _ _ (by simpa [ldW] using hS) rfl
        · intro ld u w1 hi he hS hp K hK
          refine ord_plain rfl ?_
          simp at hp hK ⊢
          go_simp
          exact hK _ _ (by simpa [ldW] using hS) rfl
        · intro ld u w1 hi he hS hp K hK
          refine ord_plain rfl ?_
          simp at hp hK ⊢
          go_simp
          exact hK _ _ (by simpa [ldW] using hS) rfl
        · intro ld u w1 hi he hS hp K hK
          refine ord_plain rfl ?_
          simp at hp hK ⊢
          obtain ⟨hp1, hp2⟩ := hp
          simp only [hp1, hp2] at hK
          go_simp
          exact hK _ _ (by simpa [ldW] using hS) rfl
        · intro ld u w1 hi he hS hp K hK
          refine ord_plain rfl ?_
          simp at hp hK ⊢
          simp only [hp] at hK
          have hc := (hl2 w1 (by by_cases h9 : ld 9 = true <;> simp [h9] at hS <;> simp [hS])).2.2
          go_simp
          exact hK _ _ (by simpa [ldW] using hS) rfl
        · intro ld u w1 hi he hS hp K hK
          refine ord_plain rfl ?_
          simp at hp hK ⊢
          obtain ⟨hp1, hp2, hp3⟩ := hp
          simp only [hp1, hp2, hp3] at hK
          simp [hi] at hS
          subst hS
          go_simp
          refine HK.out.mono ?_
          rintro e w2 ⟨rfl, k1, k2⟩
          refine hK _ _ ?_; simp [ldW]; exact ⟨k1, k2⟩
        · intro u w1 ld hld hS hp
          simp at hp ⊢
          have h9 := hld 9 (by decide)
          simp [h9] at hS
          obtain ⟨s1, s2⟩ := hS
          have e1 := s2.blk HD1.out hpg
          have e3 := s2.owns HD3.out (fun k hk e => own_blk_ne HD3.out HD2.out (by decide) (hk.trans (congrArg some e)))
          have e4 := HD4.out.trans (s2.mono (T := fun b => b = p ∨ b = gs) fun _ h => .inr h)
          have E1 := Lib.hid e1
          have E3 := Lib.hid e3
          have E4 := Lib.hid e4
          have S1 := Lib.hid s1
          clear e1 e3 e4 s1 s2 hl2
          go_wp2
          go_roundw
          case rel => exact ⟨k + 1, HLT.out, by go_num, E1.out, S1.out, E3.out, E4.out⟩
          case measure => have := HLT.out; simp [intOf]; omega
      · have hN : ps[k]? = none := List.getElem?_eq_none (by omega)
        rw [hN] at hsnoc
        simp only at hsnoc
        have hkp1 : ¬ (k : Int) < (ps.length : Int) := by omega
        have HLT := Lib.hid hlt
        have HB1 := Lib.hid (b1.alloc (.cells (wrL x).toArray 73))
        have HB2 := Lib.hid (b2.alloc (.cells (wrL x).toArray 73))
        have HB3 := Lib.hid (((Only.refl (fun _ => False) wr).alloc (.cells (wrL x).toArray 73)).owns b3 (fun _ _ h => h))
        have HB4 := Lib.hid (b4.alloc (.cells (wrL x).toArray 73))
        have HS := Lib.hid hsnoc
        clear b1 b2 b3 b4 hrg hok hsnoc hkp hN
        go_wp2_with (first | refine wpList_load_by rfl 73 (.tmp 17) rfl rfl hld ?_ | refine wpList_store_by rfl 73 (.tmp 6) (.tmp 18) rfl rfl rfl hst ?_)
        go_roundw
        case rel => exact ⟨k + 1, HLT.out, by go_num, HB1.out, by rw [HS.out]; exact HB2.out, HB3.out, HB4.out⟩
        case measure => have := HLT.out; simp [intOf]; omega
    · obtain rfl : k = l.length := by omega
      rw [List.take_length] at b2
      have f1 := b1.frozen 1
      have f2 := b1.frozen 2
      have e1 : wr.cell? ⟨p, 1, none⟩ = some (.slice A l.length c) := b1.cell 1
      have e2 : wr.cell? ⟨p, 2, none⟩ = some (.bool fb) := b1.cell 2
      have B1 := Lib.hid b1
      have B2 := Lib.hid b2
      have B4 := Lib.hid b4
      clear b1 b2 b3 b4
      go_wp2
      go_ret
      refine ⟨rfl, ⟨(B1.out.set_ 1 _).set_ 2 _, (B2.out.far (fun e => hpg e.symm) _).far (fun e => hpg e.symm) _, World.ownsRow_nil _ _ _ _, HD.out.lo, ⟨(crashW_ok HD.out.ok).len, (crashW_ok HD.out.ok).all, by simp⟩⟩, (B4.out.setCell (.inl (.inl rfl)) _).setCell (.inl (.inl rfl)) _⟩
end Go.Proofs.Ytmneflpjoaocbaa
