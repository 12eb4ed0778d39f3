/- Several texts in one: BkL. -/
import Derived.Test.YtmneflpjoaocbaaMBkK
/- Books: how much room there is. No conditions beyond what it states. -/
namespace Go.Proofs.Ytmneflpjoaocbaa
open Go.RowKit
set_option linter.unusedVariables false
attribute [local simp] frOf dstsOf frGo predsHold allHold Region.binds slotOf seen Is Act.put
set_option maxHeartbeats 1000000 in
set_option maxRecDepth 100000 in
theorem room_any (p f nn bb : Nat) (t : List UInt8) (br : Bool) (w : World) (h : BookB w bb p f nn (sB t) br) (hn : nn ≤ 4096) (ht : t.length ≤ 100000000) :
    Calls Try.prog 10 #[.pointer (some ⟨bb, 0, none⟩)] w fun e w' => e = .returned (.int .i64 ((nn : Int) * 127 - (t.length : Int))) ∧ Only (fun _ => False) w w' := by
  have HB0 := Lib.hid h
  have HB : ∀ W, Grows w.drew W → Hid (BookB W bb p f nn (sB t) br) := fun W hW => Lib.hid (Grows.blk (Grows.trans (Grows.drew w) hW) HB0.out)
  have hPs : ∀ W, Hid (Calls Try.prog 29 #[.agg #[.pointer (some ⟨p, 0, none⟩), .int .i64 f, .int .i64 nn]] W fun e w' => e = .returned (.int .i64 ((nn : Int) * 127)) ∧ Only (fun _ => False) W w') := fun W => Lib.hid (by
    have := psize_any p (f : Int) (nn : Int) W (by omega) (by omega)
    unfold partV at this
    exact this)
  have hsz : (sB t).size = t.length := sB_size t
  have hwr : IntKind.i64.wrap ((nn : Int) * 127 - (t.length : Int)) = (nn : Int) * 127 - (t.length : Int) := IntWalk.i64_in _ (by omega)
  clear h
  go_enter Try.func10, Try.ntmps10
  go_wp2_with fail
  refine (bnone_any bb p f nn (sB t) br w HB0.out).mono ?_
  rintro e w1 ⟨rfl, rfl⟩
  go_wp2_with fail
  refine wp_region_ord (by kernel_rfl) Grows [Is (.pointer (some ⟨bb, 0, none⟩)), Is (.pointer (some ⟨bb, 0, none⟩)), Is (.pointer (some ⟨bb, 0, none⟩)), Is (.agg #[.pointer (some ⟨p, 0, none⟩), .int .i64 f, .int .i64 nn]), Is (.int .i64 ((nn : Int) * 127)), Is (.pointer (some ⟨bb, 0, none⟩)), Is (.pointer (some ⟨bb, 0, none⟩)), Is (.pointer (some ⟨bb, 3, none⟩)), Is (.string (sB t)), Is (.int .i64 (t.length : Nat)), Is (.int .i64 ((nn : Int) * 127 - (t.length : Int))), Is (.int .i64 ((nn : Int) * 127 - (t.length : Int)))] (by kernel_rfl) Grows.refl Grows.trans
    ⟨is_stab _ _, is_stab _ _, is_stab _ _, is_stab _ _, is_stab _ _, is_stab _ _, is_stab _ _, is_stab _ _, is_stab _ _, is_stab _ _, is_stab _ _, is_stab _ _, trivial⟩ ⟨?_, ?_, ?_, ?_, ?_, ?_, ?_, ?_, ?_, ?_, ?_, ?_, trivial⟩ ?_
  · intro u w1 hR hp K hK
    refine ord_plain rfl ?_
    simp at hp hK ⊢
    go_simp
    exact hK _ _ (Grows.refl _) rfl
  · intro u w1 hR hp K hK
    refine ord_plain rfl ?_
    simp at hp hK ⊢
    simp only [hp] at hK
    go_simp
    exact hK _ _ (Grows.refl _) rfl
  · intro u w1 hR hp K hK
    refine ord_plain rfl ?_
    simp at hp hK ⊢
    simp only [hp] at hK
    go_simp
    exact hK _ _ (Grows.refl _) rfl
  · intro u w1 hR hp K hK
    refine ord_plain rfl ?_
    simp at hp hK ⊢
    simp only [hp] at hK
    have hc0 : w1.cell? ⟨bb, 0, none⟩ = some (.pointer (some ⟨p, 0, none⟩)) := (HB w1 hR).out.cell 0
    have hc1 : w1.cell? ⟨bb, 1, none⟩ = some (.int .i64 f) := (HB w1 hR).out.cell 1
    have hc2 : w1.cell? ⟨bb, 2, none⟩ = some (.int .i64 nn) := (HB w1 hR).out.cell 2
    go_simp
    exact hK _ _ (Grows.refl _) rfl
  · intro u w1 hR hp K hK
    refine ord_plain rfl ?_
    simp at hp hK ⊢
    simp only [hp] at hK
    go_simp
    refine (hPs _).out.mono ?_
    rintro e w2 ⟨rfl, ob⟩
    exact hK _ _ (ob.below (fun _ h => h.elim) (Nat.le_refl _)) rfl
  · intro u w1 hR hp K hK
    refine ord_plain rfl ?_
    simp at hp hK ⊢
    go_simp
    exact hK _ _ (Grows.refl _) rfl
  · intro u w1 hR hp K hK
    refine ord_plain rfl ?_
    simp at hp hK ⊢
    simp only [hp] at hK
    go_simp
    exact hK _ _ (Grows.refl _) rfl
  · intro u w1 hR hp K hK
    refine ord_plain rfl ?_
    simp at hp hK ⊢
    simp only [hp] at hK
    go_simp
    exact hK _ _ (Grows.refl _) rfl
  · intro u w1 hR hp K hK
    refine ord_plain rfl ?_
    simp at hp hK ⊢
    simp only [hp] at hK
    have hc3 : w1.cell? ⟨bb, 3, none⟩ = some (.string (sB t)) := (HB w1 hR).out.cell 3
    go_simp
    exact hK _ _ (Grows.refl _) rfl
  · intro u w1 hR hp K hK
    refine ord_plain rfl ?_
    simp at hp hK ⊢
    simp only [hp] at hK
    go_simp
    exact hK _ _ (Grows.refl _) rfl
  · intro u w1 hR hp K hK
    refine ord_plain rfl ?_
    simp at hp hK ⊢
    simp only [hp] at hK
    go_simp
    exact hK _ _ (Grows.refl _) rfl
  · intro u w1 hR hp K hK
    refine ord_plain rfl ?_
    simp at hp hK ⊢
    simp only [hp] at hK
    go_simp
    exact hK _ _ (Grows.refl _) rfl
  · intro u w1 hR hp
    simp at hp ⊢
    have h11 := hp.2.2.2.2.2.2.2.2.2.2.2
    simp only [h11]
    clear hp h11 hPs HB
    have HBl := Lib.hid (Below.trans (Below.drew (Below.refl w.heap.size w)) hR)
    clear hR
    go_wp2_with fail
    go_ret
    exact ⟨rfl, Only.below_ HBl.out⟩
end Go.Proofs.Ytmneflpjoaocbaa
