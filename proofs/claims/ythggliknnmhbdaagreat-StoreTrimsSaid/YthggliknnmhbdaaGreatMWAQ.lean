/- Several texts in one: BkD. -/
import Derived.Test.YthggliknnmhbdaaGreatMWAO
import Derived.Test.YthggliknnmhbdaaGreatMWAC
/- Books: the stream of sectors. No conditions beyond what each states. -/
namespace Go.Proofs.YthggliknnmhbdaaGreat
set_option maxRecDepth 100000
open Go.RowKit
set_option linter.unusedVariables false
theorem sB_get (l : List UInt8) (j : Nat) (h : j < l.length) (h' : j < (sB l).size) : (sB l)[j]'h' = l.getD j 0 := by
  show (sB l).data[j]'h' = _
  simp [sB, List.getD, h]
theorem stream_step (ts : List (List UInt8)) (k : Nat) (t : List UInt8) (h : ts[k]? = some t) : streamL (ts.drop k) = t.take (if 127 < (t.getD 127 0).toNat then 0 else (t.getD 127 0).toNat) ++ (if (if 127 < (t.getD 127 0).toNat then 0 else (t.getD 127 0).toNat) < 127 then [] else streamL (ts.drop (k + 1))) := by
  have hk : k < ts.length := (List.getElem?_eq_some_iff.1 h).1
  have e : ts[k] = t := (List.getElem?_eq_some_iff.1 h).2
  rw [List.drop_eq_getElem_cons hk, e]
  rfl
set_option maxHeartbeats 1000000 in
set_option maxRecDepth 100000 in
theorem stream_any (ts : List (List UInt8)) (A : Option Addr) (c : Nat) (w : World) (hr : TextRow w A (ts.map sB)) (hall : ∀ t ∈ ts, t.length = 128) (hl : ts.length ≤ 100000) :
    Calls Tryz.prog 39 #[.slice A ts.length c] w fun e w' => e = .returned (.string (sB (streamL ts))) ∧ Below w.heap.size w w' := by
  have HR := Lib.hid hr
  clear hr
  go_enter Tryz.func39, Tryz.ntmps39
  go_wp2_with fail
  have HBu := Lib.hid (builder_new w w.heap.size (Nat.le_refl _))
  have HB0 := Lib.hid ((Below.refl w.heap.size w).alloc (Nat.le_refl _) (.cells #[.pointer none, .slice none 0 0] 97))
  go_loopw [9] (fun i wr => ∃ (k : Nat) (D : List UInt8), k ≤ ts.length ∧ i = .int .i64 k ∧ D ++ streamL (ts.drop k) = streamL ts ∧ D.length ≤ 127 * k ∧ Lib.IsBuilder 97 5 w.heap.size w.heap.size (Lib.strCells (sB D)) wr ∧ Below w.heap.size w wr) (fun i _ => ts.length - (intOf i).toNat)
  case atStart => exact ⟨0, [], by omega, rfl, rfl, by simp, HBu.out, HB0.out⟩
  case round =>
    obtain ⟨k, D, hk, rfl, hD, hDl, hbu, hbl⟩ := hrel
    have HB := Lib.hid hbl
    have HU := Lib.hid hbu
    have HD := Lib.hid hD
    clear hbl hbu HBu HB0 hD
    by_cases hlt : k < ts.length
    · obtain ⟨t, ht⟩ : ∃ t, ts[k]? = some t := ⟨_, List.getElem?_eq_getElem hlt⟩
      have htl := hall t (List.mem_of_getElem? ht)
      have hst := stream_step ts k t ht
      obtain ⟨g, off, rfl, hg, hck⟩ := HR.out.at_ k (by simpa using hlt)
      have hcell : wr.cell? ⟨g, off + k, none⟩ = some (.string (sB t)) := by
        rw [HB.out.cell (p := ⟨g, off + k, none⟩) hg, hck]
        have e : ts[k] = t := (List.getElem?_eq_some_iff.1 ht).2
        simp [e]
      have hlo : (0 : Int) ≤ (k : Int) := by omega
      have hhi : (k : Int) < (ts.length : Int) := by omega
      have hsz : (sB t).size = 128 := by rw [sB_size, htl]
      have hget := sB_get t 127 (by omega) (by omega)
      have hcl : ((t.getD 127 0).toNat) < 256 := UInt8.toNat_lt _
      generalize t.getD 127 0 = q at *
      have HST := Lib.hid hst
      clear hst ht hck
      have hwq : wrap64 (q.toNat : Int) = (q.toNat : Int) := IntWalk.wrap64_in _ (by omega)
      by_cases hc1 : 127 < q.toNat
      · have hc2 : (0 : Nat) < 127 := by omega
        have hi1 : (127 : Int) < (q.toNat : Int) := by omega
        have HS2 : Hid (D ++ t.take (0) = streamL ts) := Lib.hid (by
          rw [← HD.out, HST.out]
          simp [hc1])
        have HE : Hid (ByteArray.empty = sB (t.take 0)) := Lib.hid rfl

        go_wp2_with fail
        rw [HE.out]
        refine (wstring_any w.heap.size w.heap.size _ (sB (t.take (0))) wr HU.out (by rw [Lib.strCells_length, sB_size, sB_size, List.length_take]; omega) HB.out.size).mono ?_
        rintro e w1 ⟨rfl, hu2, hb2⟩
        rw [← strCells_append, sB_append] at hu2
        have HU2 : Hid (Lib.IsBuilder 97 5 w.heap.size w.heap.size (Lib.strCells (sB (streamL ts))) w1) := Lib.hid (by rw [← HS2.out]; exact .inr hu2)
        have HB2 := Lib.hid (HB.out.trans hb2)
        clear HU HB hu2 hb2
        go_wp2_with fail
        refine (bstring_any w.heap.size w.heap.size (sB (streamL ts)) _ HU2.out HB2.out.size).mono ?_
        rintro e w2 ⟨rfl, hb2⟩
        have HB3 := Lib.hid (HB2.out.trans hb2)
        clear HU2 HB2 hb2
        go_wp2
        go_ret
        exact ⟨rfl, HB3.out⟩
      by_cases hc2 : q.toNat < 127
      · have hi1 : ¬ (127 : Int) < (q.toNat : Int) := by omega
        have hi2 : (q.toNat : Int) < 127 := by omega
        have hi3 : (q.toNat : Int) ≤ 128 := by omega
        have HS2 : Hid (D ++ t.take (q.toNat) = streamL ts) := Lib.hid (by
          rw [← HD.out, HST.out]
          simp [hc1, hc2])
        have HE : Hid ((sB t).extract 0 q.toNat = sB (t.take q.toNat)) := Lib.hid (by rw [sB_extract]; simp)

        go_wp2_with fail
        rw [HE.out]
        refine (wstring_any w.heap.size w.heap.size _ (sB (t.take (q.toNat))) wr HU.out (by rw [Lib.strCells_length, sB_size, sB_size, List.length_take]; omega) HB.out.size).mono ?_
        rintro e w1 ⟨rfl, hu2, hb2⟩
        rw [← strCells_append, sB_append] at hu2
        have HU2 : Hid (Lib.IsBuilder 97 5 w.heap.size w.heap.size (Lib.strCells (sB (streamL ts))) w1) := Lib.hid (by rw [← HS2.out]; exact .inr hu2)
        have HB2 := Lib.hid (HB.out.trans hb2)
        clear HU HB hu2 hb2
        go_wp2_with fail
        refine (bstring_any w.heap.size w.heap.size (sB (streamL ts)) _ HU2.out HB2.out.size).mono ?_
        rintro e w2 ⟨rfl, hb2⟩
        have HB3 := Lib.hid (HB2.out.trans hb2)
        clear HU2 HB2 hb2
        go_wp2
        go_ret
        exact ⟨rfl, HB3.out⟩
      · have hi1 : ¬ (127 : Int) < (q.toNat : Int) := by omega
        have hi2 : ¬ (q.toNat : Int) < 127 := by omega
        have hi3 : (q.toNat : Int) ≤ 128 := by omega
        have HS2 : Hid (D ++ t.take (q.toNat) ++ streamL (ts.drop (k + 1)) = streamL ts) := Lib.hid (by
          rw [← HD.out, HST.out]
          simp [hc1, hc2])
        have HE : Hid ((sB t).extract 0 q.toNat = sB (t.take q.toNat)) := Lib.hid (by rw [sB_extract]; simp)

        go_wp2_with fail
        rw [HE.out]
        refine (wstring_any w.heap.size w.heap.size _ (sB (t.take (q.toNat))) wr HU.out (by rw [Lib.strCells_length, sB_size, sB_size, List.length_take]; omega) HB.out.size).mono ?_
        rintro e w1 ⟨rfl, hu2, hb2⟩
        rw [← strCells_append, sB_append] at hu2
        have HU2 := Lib.hid hu2
        have HB2 := Lib.hid (HB.out.trans hb2)
        clear HU HB hu2 hb2
        go_wp2_with fail
        go_roundw
        case rel => exact ⟨k + 1, _, by omega, by go_num, HS2.out, by simp; omega, .inr HU2.out, HB2.out⟩
        case measure => simp [intOf]; omega
    · obtain rfl : k = ts.length := by omega
      have HU2 : Hid (Lib.IsBuilder 97 5 w.heap.size w.heap.size (Lib.strCells (sB (streamL ts))) wr) := Lib.hid (by
        have := HD.out
        rw [List.drop_length] at this
        simp [streamL] at this
        rw [← this]; exact HU.out)
      have HB2 := Lib.hid HB.out
      clear HU HB
      go_wp2_with fail
      refine (bstring_any w.heap.size w.heap.size (sB (streamL ts)) _ HU2.out HB2.out.size).mono ?_
      rintro e w2 ⟨rfl, hb2⟩
      have HB3 := Lib.hid (HB2.out.trans hb2)
      clear HU2 HB2 hb2
      go_wp2
      go_ret
      exact ⟨rfl, HB3.out⟩
end Go.Proofs.YthggliknnmhbdaaGreat
