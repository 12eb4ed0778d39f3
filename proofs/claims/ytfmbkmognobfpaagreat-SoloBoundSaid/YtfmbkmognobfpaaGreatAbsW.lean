/- The interpreter's runs are the model's: calls and code, all together (regions that draw their order: a hypothesis). No conditions. -/
import Derived.Test.YtfmbkmognobfpaaGreatAbsV
import Derived.LoopN
set_option linter.unusedVariables false
namespace Go.Proofs.YtfmbkmognobfpaaGreat.Abs
open Go Go.RowKit
section
variable {P : Program} {J : FuncId → Bool}
theorem wrK_init (args : List AV) (nt : Nat) (k : PT AV → Res) : wrK args 0 (initF nt) k = k (fillT args 0 (initF nt)) := wrK_eq args 0 (initF nt) k
/-- what a body leaves as a call's outcome -/
theorem body_out {lim : Pos} {fn : Func} {k : AV → Pos → PT AO → Res} {L : List Out} {ρ : Ren} {n : Pos} {H : PT AO} {w : World} {A : Act} {R : Ending → World → Prop} (hd : A.defers = [])
    (hR : ∀ u w', Goes lim k L ρ n H w u w' → R (.returned u) w') {e : Exit} {A' : Act} {w' : World} (h : GoesE lim (retK P fn k) L ρ n H w A e A' w') : bodyPost P fn R e A' w' := by
  obtain ⟨e', rfl, a', n', H', L', ρ', h1, h2, h3, h4, h5⟩ := h
  have main : ∀ l, resA P a' H' fn.results.toList = some l → (match l with | [v] => k v n' H' | l => forceL l fun l => k (.tup l) n' H') = some L' → A'.defers = [] ∧ ∃ v, (results fn A'.tmps).run P w' = .ok v w' ∧ R (.returned v) w' := by
    intro l hl hk
    obtain ⟨us, g1, g2⟩ := results_run h3 h5.good hl
    refine ⟨h4.trans hd, _, g2, hR _ _ ?_⟩
    match l, us, g1, hk with
    | [], us, g1, hk => cases g1; exact ⟨.tup [], n', H', L', ρ', hk, h2, rfl, h5⟩
    | [v], us, g1, hk =>
      obtain ⟨y, ys, rfl, f1, f2⟩ := concs_cons g1
      cases f2
      exact ⟨v, n', H', L', ρ', hk, h2, f1, h5⟩
    | v :: v2 :: r, us, g1, hk =>
      obtain ⟨y, ys, rfl, f1, f2⟩ := concs_cons g1
      obtain ⟨y2, ys2, rfl, f3, f4⟩ := concs_cons f2
      have hk : forceL (v :: v2 :: r) (fun l => k (.tup l) n' H') = some L' := hk
      rw [forceL_eq] at hk
      exact ⟨.tup (v :: v2 :: r), n', H', L', ρ', hk, h2, tup_conc g1, h5⟩
  unfold retK at h1
  cases e' with
  | exit id => cases h1
  | nrm =>
    simp only at h1
    split at h1
    · rename_i v hv; exact main _ hv h1
    · rename_i l hne hl
      refine main l hl ?_
      match l, hne with
      | [], _ => exact h1
      | [v], hne => exact (hne v rfl).elim
      | v :: v2 :: r, _ => exact h1
    · cases h1
  | ret =>
    simp only at h1
    split at h1
    · rename_i v hv; exact main _ hv h1
    · rename_i l hne hl
      refine main l hl ?_
      match l, hne with
      | [], _ => exact h1
      | [v], hne => exact (hne v rfl).elim
      | v :: v2 :: r, _ => exact h1
    · cases h1
theorem callK_ok {ex : ExecT} (hex : ExecOk P ex) (lim : Pos) : CallOk P lim (callK P J ex lim) := by
  intro f args n H k L h hln
  unfold callK at h
  split at h
  · rename_i fn hf
    split at h
    · rename_i c hb
      split at h
      · cases h
      · rename_i hnm
        refine ⟨⟨fn, hf, by simpa using hnm, by rw [hb]; rfl⟩, fun ρ w us hg hus => ?_⟩
        have hs := initF_slots (nt := fn.ntmps) hus
        split at h
        · rw [wrK_init] at h
          split at h
          · rename_i L0 hL0
            refine calls_of_wp hf hb (wp_mono (hex n c _ n H _ L0 hL0 (Nat.le_refl _) ρ _ w hs hg) ?_)
            intro e A' w' hgo
            refine body_out rfl ?_ hgo
            rintro u w2 ⟨v, n', H', L', ρ', h1, h2, h3, h4⟩
            injection h1 with h1
            refine ⟨u, rfl, alikeK_some h hln hg (h2 (v, n', H') (by rw [← h1]; simp)) h3 h4⟩
          · cases h
        · rw [wrK_init] at h
          refine calls_of_wp hf hb (wp_mono (hex lim c _ n H _ L h hln ρ _ w hs hg) ?_)
          intro e A' w' hgo
          exact body_out rfl (fun u w2 hgo => ⟨u, rfl, hgo⟩) hgo
    · cases h
  · cases h
theorem exec_both (hD : DrawOk P) : ∀ f, ExecOk P (exec P J f) ∧
    ∀ lim b a n H k L, exec P J f lim (.loop b) a n H k = some L → lim.nat ≤ n.nat → ∀ (ρ : Ren) (A : Act) (w : World), Slots ρ a A → Good ρ n (hp H) w → ∀ Q : Exit → Act → World → Prop, (∀ e A' w', GoesE lim k L ρ n H w A e A' w' → Q e A' w') → Code.rounds P b Q f A w
  | 0 => ⟨(fun lim c a n H k L h => by cases h), (fun lim b a n H k L h => by cases h)⟩
  | f + 1 => by
    obtain ⟨ihA, ihB⟩ := exec_both hD f
    have hB : ∀ lim b a n H k L, exec P J (f + 1) lim (.loop b) a n H k = some L → lim.nat ≤ n.nat → ∀ (ρ : Ren) (A : Act) (w : World), Slots ρ a A → Good ρ n (hp H) w → ∀ Q : Exit → Act → World → Prop, (∀ e A' w', GoesE lim k L ρ n H w A e A' w' → Q e A' w') → Code.rounds P b Q (f + 1) A w := by
      intro lim b a n H k L h hln ρ A w hs hg Q hQ
      have h' : exec P J f lim b a n H (fun e a n H => (match e with | .nrm => exec P J f lim (.loop b) a n H k | e => k e a n H)) = some L := h
      refine wp_mono (ihA lim b a n H _ L h' hln ρ A w hs hg) ?_
      rintro e A' w' ⟨e', rfl, a', n', H', L', ρ', h1, h2, h3, h4, h5⟩
      cases e' with
      | nrm =>
        refine ihB lim b a' n' H' k L' h1 (Nat.le_trans hln h5.fr.num) ρ' A' w' h3 h5.good Q ?_
        intro e A2 w2 hgo
        exact hQ e A2 w2 (hgo.step h5 h4 h2)
      | exit id => exact hQ _ A' w' ⟨.exit id, rfl, a', n', H', L', ρ', h1, h2, h3, h4, h5⟩
      | ret => exact hQ _ A' w' ⟨.ret, rfl, a', n', H', L', ρ', h1, h2, h3, h4, h5⟩
    refine ⟨?_, hB⟩
    intro lim c a n H k L h hln ρ A w hs hg
    cases c with
    | skip => exact wp_skip ⟨.nrm, rfl, a, n, H, L, ρ, h, fun _ hx => hx, hs, rfl, Now.refl hg⟩
    | exit id => exact wp_exit ⟨.exit id, rfl, a, n, H, L, ρ, h, fun _ hx => hx, hs, rfl, Now.refl hg⟩
    | ret => exact wp_ret ⟨.ret, rfl, a, n, H, L, ρ, h, fun _ hx => hx, hs, rfl, Now.refl hg⟩
    | seq x y =>
      have h' : exec P J f lim x a n H (fun e a n H => (match e with | .nrm => exec P J f lim y a n H k | e => k e a n H)) = some L := h
      refine wp_seq (wp_mono (ihA lim x a n H _ L h' hln ρ A w hs hg) ?_)
      rintro e A' w' ⟨e', rfl, a', n', H', L', ρ', h1, h2, h3, h4, h5⟩
      cases e' with
      | nrm =>
        refine wp_mono (ihA lim y a' n' H' k L' h1 (Nat.le_trans hln h5.fr.num) ρ' A' w' h3 h5.good) ?_
        intro e A2 w2 hgo
        exact hgo.step h5 h4 h2
      | exit id => exact ⟨.exit id, rfl, a', n', H', L', ρ', h1, h2, h3, h4, h5⟩
      | ret => exact ⟨.ret, rfl, a', n', H', L', ρ', h1, h2, h3, h4, h5⟩
    | cond c x y =>
      have h' : (match ev a c with | some (.bool true) => exec P J f lim x a n H k | some (.bool false) => exec P J f lim y a n H k | _ => none) = some L := h
      split at h'
      · rename_i hc
        obtain ⟨u, e1, e2⟩ := ev_conc hs hc
        cases e1
        exact wp_cond_true e2 (ihA lim x a n H k L h' hln ρ A w hs hg)
      · rename_i hc
        obtain ⟨u, e1, e2⟩ := ev_conc hs hc
        cases e1
        exact wp_cond_false e2 (ihA lim y a n H k L h' hln ρ A w hs hg)
      · cases h'
    | block id b =>
      have h' : exec P J f lim b a n H (fun e a n H => (match e with | .exit j => if Nat.beq j id then k .nrm a n H else k (.exit j) a n H | e => k e a n H)) = some L := h
      refine wp_block (wp_mono (ihA lim b a n H _ L h' hln ρ A w hs hg) ?_)
      rintro e A' w' ⟨e', rfl, a', n', H', L', ρ', h1, h2, h3, h4, h5⟩
      cases e' with
      | nrm => exact ⟨.nrm, rfl, a', n', H', L', ρ', h1, h2, h3, h4, h5⟩
      | ret => exact ⟨.ret, rfl, a', n', H', L', ρ', h1, h2, h3, h4, h5⟩
      | exit j =>
        show (if j = id then _ else _)
        simp only at h1
        split at h1
        · rename_i hj
          rw [if_pos (Nat.eq_of_beq_eq_true hj)]
          exact ⟨.nrm, rfl, a', n', H', L', ρ', h1, h2, h3, h4, h5⟩
        · rename_i hj
          rw [if_neg (fun e => hj (by rw [e]; exact Nat.beq_refl id))]
          exact ⟨.exit j, rfl, a', n', H', L', ρ', h1, h2, h3, h4, h5⟩
    | loop b => exact wp_loop_rounds (f + 1) (hB lim b a n H k L h hln ρ A w hs hg _ (fun _ _ _ hh => hh))
    | region id ops draw =>
      cases draw with
      | false =>
        have h' : seqK P (callK P J (exec P J f) lim) lim ops.toList ops.toList a n H (fun a n H => k .nrm a n H) = some L := h
        refine wp_region ?_
        have := seqK_some (callK_ok (J := J) ihA lim) (ops := ops) (Q := GoesE lim k L ρ n H w A) ops.toList 0 rfl h' hln hs hg (fun A' w' hgo => ⟨.nrm, rfl, hgo⟩)
        rwa [← List.range_eq_range', Array.length_toList] at this
      | true =>
        have h' : drawK P (callK P J (exec P J f) lim) lim ops a n H (fun a n H => k .nrm a n H) = some L := h
        refine wp_mono (hD lim _ ops a n H _ L id (callK_ok (J := J) ihA lim) h' hln ρ A w hs hg) ?_
        rintro e A' w' ⟨rfl, hgo⟩
        exact ⟨.nrm, rfl, hgo⟩
    | _ => cases h
/-- one outcome -/
noncomputable def oneK (v : AV) (n : Pos) (H : PT AO) : Res := some [(v, n, H)]
/-- a closed run -/
theorem run_closed (hD : DrawOk P) (fuel : Nat) (f : FuncId) (args : List AV) (L : List Out) (h : callK P J (exec P J fuel) .h f args .h .lf oneK = some L) (sy : Nat → Value) (hone : ∀ j, ∀ cs, sy j ≠ .agg cs ∧ sy j ≠ .tuple cs)
    (us : List Value) (hus : concs ⟨fun _ => none, sy, hone⟩ args = some us) (w : World) : Calls P f us.toArray w fun e w' => ∃ u, e = .returned u ∧ Below w.heap.size w w' ∧ ∃ o ∈ L, ∃ ρ' : Ren, conc ρ' o.1 = some u ∧ ρ'.sy = sy ∧ Good ρ' o.2.1 (hp o.2.2) w' := by
  have hg : Good ⟨fun _ => none, sy, hone⟩ .h (hp .lf) w := ⟨(fun b ao e => by rw [show hp .lf b = none from PT.get_lf b] at e; cases e), (fun b b' ao ao' k d x d' x' e => by rw [show hp .lf b = none from PT.get_lf b] at e; cases e), fun _ _ => rfl⟩
  refine ((callK_ok (J := J) (exec_both hD fuel).1 .h f args .h .lf oneK L h (Nat.le_refl _)).2 _ w us hg hus).mono ?_
  rintro e w' ⟨u, rfl, v, n', H', L', ρ', h1, h2, h3, h4⟩
  injection h1 with h1
  refine ⟨u, rfl, ⟨h4.fr.os, h4.fr.tape, h4.fr.output, h4.fr.size, fun k hk => h4.fr.block k hk fun b ao d x e => ?_⟩, (v, n', H'), h2 _ (by rw [← h1]; simp), ρ', h3, h4.fr.le.sy, h4.good⟩
  rw [show hp .lf b = none from PT.get_lf b] at e
  cases e
end
end Go.Proofs.YtfmbkmognobfpaaGreat.Abs
