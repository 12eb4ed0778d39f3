/- The document's deques: words; load, store, goes, over, place. -/
import Derived.Test.YtmghlhngdopifaaDqU
import Derived.Test.YtmghlhngdopifaaCellR
namespace Go.Proofs.Ytmghlhngdopifaa
open Go.RowKit
set_option linter.unusedVariables false
attribute [local simp] frOf dstsOf frGo predsHold allHold Region.binds slotOf seen Is Act.put
def rarr (a : PAct) (d : Nat) : Array Value :=
  #[.pointer (some ⟨d, 0, none⟩), .int .i64 (a.kind : Int), .int .i64 a.v, .int .i64 (a.at_ : Int), .int .i64 a.b, .int .i64 a.t, .int .i64 a.w, .int .i64 a.n, .int .i64 a.nw, .int .i64 a.i, .int .i64 a.read, .int .u8 (a.told : Int), .int .i64 a.got]
/-- what has become of an act of the document at p, of its deque and memory, from w on -/
structure RStp (w w' : World) (B m d p : Nat) (n : Int) (v v' on : Value) (C : List Int) (a : PAct) : Prop where
  mem : DMem w' B m n v' C
  dq : Blk w' d 84 #[.pointer (some ⟨m, 0, none⟩), .int .i64 0, on]
  act : Blk w' p 62 (rarr a d)
  only : Only (fun x => mine m v x ∨ x = p) w w'
  row : ∀ k, v'.ownBlock = some k → v.ownBlock = some k ∨ w.heap.size ≤ k
section
variable {w w' w'' : World} {B m d p : Nat} {n n' : Int} {v v' v'' on : Value} {C C' : List Int} {a a' : PAct}
theorem RStp.away (h : RStp w w' B m d p n v v' on C a) : ¬ mine m v' p := by
  rintro (e | e)
  · exact Blk.ne_ h.act h.mem.blk (by decide) e
  · exact own_blk_ne h.mem.own h.act (by decide) e
theorem RStp.awayD (h : RStp w w' B m d p n v v' on C a) : ¬ mine m v' d := by
  rintro (e | e)
  · exact Blk.ne_ h.dq h.mem.blk (by decide) e
  · exact own_blk_ne h.mem.own h.dq (by decide) e
theorem RStp.set (h : RStp w w' B m d p n v v' on C a) (i : Nat) (x : Value) (he : (rarr a d).setIfInBounds i x = rarr a' d) : RStp w (w'.setCell ⟨p, i, none⟩ x) B m d p n v v' on C a' := by
  have o : Only (fun x => x = p) w' (w'.setCell ⟨p, i, none⟩ x) := (Only.refl (fun x => x = p) w').setCell (p := ⟨p, i, none⟩) (.inl rfl) _
  refine ⟨h.mem.only o (fun e => h.away (.inl e.symm)) (fun k hk e => h.away (.inr (e ▸ hk))), o.blk h.dq (fun e => Blk.ne_ h.dq h.act (by decide) e), ?_, h.only.setCell (p := ⟨p, i, none⟩) (.inl (.inr rfl)) _, h.row⟩
  rw [← he]
  exact h.act.set_ i x
theorem RStp.memd (h : RStp w w' B m d p n v v' on C a) (hm : DMem w'' B m n' v' C') (ho : Only (mine m v') w' w'') : RStp w w'' B m d p n' v v' on C' a :=
  ⟨hm, ho.blk h.dq h.awayD, ho.blk h.act h.away, h.only.trans' ho (fun i hi => by
    rcases hi with hi | hi
    · exact .inl (.inl (.inl hi))
    · rcases h.row i hi with hi | hi
      · exact .inl (.inl (.inr hi))
      · exact .inr hi), h.row⟩
theorem RStp.more (h : RStp w w' B m d p n v v' on C a) (hm : DMem w'' B m n' v'' C') (hN : Newer w' v' v'') (ho : Only (mine m v') w' w'') : RStp w w'' B m d p n' v v'' on C' a :=
  ⟨hm, ho.blk h.dq h.awayD, ho.blk h.act h.away, h.only.trans' ho (fun i hi => by
    rcases hi with hi | hi
    · exact .inl (.inl (.inl hi))
    · rcases h.row i hi with hi | hi
      · exact .inl (.inl (.inr hi))
      · exact .inr hi), fun k hk => by
    rcases hN k hk with hi | hi
    · exact h.row k hi
    · exact .inr (by have := h.only.size; omega)⟩
theorem RStp.quiet (h : RStp w w' B m d p n v v' on C a) (o : Only (fun _ => False) w' w'') : RStp w w'' B m d p n v v' on C a :=
  ⟨h.mem.only o (fun e => e) (fun _ _ e => e), o.blk h.dq (fun e => e), o.blk h.act (fun e => e), h.only.trans (o.mono fun _ e => e.elim), h.row⟩
theorem RStp.drew (h : RStp w w' B m d p n v v' on C a) : RStp w w'.drew B m d p n v v' on C a := h.quiet ((Only.refl _ w').drew)
/-- three stages of a region that draws -/
def RX (Q0 Q1 Q2 : World → Prop) (b1 b2 : Bool) (y : World) : Prop := (b2 = true → b1 = true) ∧ (if b2 = true then Q2 y else if b1 = true then Q1 y else Q0 y)
variable {Q0 Q1 Q2 : World → Prop} {b1 b2 : Bool} {y : World}
theorem RX.start (h : Q0 y) : RX Q0 Q1 Q2 false false y := ⟨(fun e => e), by simpa using h⟩
theorem RX.was (h : RX Q0 Q1 Q2 b1 b2 y) (hb : b1 = false) : Q0 y ∧ b2 = false := by
  subst hb
  have : b2 = false := by
    cases b2 with
    | false => rfl
    | true => have := h.1 rfl; cases this
  subst this
  exact ⟨by simpa using h.2, rfl⟩
theorem RX.mid (h : RX Q0 Q1 Q2 b1 b2 y) (hb : b1 = true) (hc : b2 = false) : Q1 y := by simpa [hb, hc] using h.2
theorem RX.got (h : RX Q0 Q1 Q2 b1 b2 y) (hb : b2 = true) : Q2 y := by simpa [hb] using h.2
theorem RX.or (h : RX Q0 Q1 Q2 b1 b2 y) : Q0 y ∨ Q1 y ∨ Q2 y := by
  cases b2 with
  | true => exact .inr (.inr (h.got rfl))
  | false => cases b1 with
    | true => exact .inr (.inl (h.mid rfl rfl))
    | false => exact .inl (h.was rfl).1
theorem RX.put1 {y' : World} (h : RX Q0 Q1 Q2 b1 b2 y) (hb : b1 = false) (hq : Q1 y') : RX Q0 Q1 Q2 true b2 y' := by
  have := (h.was hb).2
  subst this
  exact ⟨fun _ => rfl, by simpa using hq⟩
theorem RX.put2 (hq : Q2 y) (h1 : b1 = true) : RX Q0 Q1 Q2 b1 true y := ⟨fun _ => h1, by simpa using hq⟩
end
section
variable (B m d p : Nat) (n : Int) (v0 v on : Value) (C : List Int) (a : PAct) (w0 w : World)
set_option maxRecDepth 100000 in
set_option maxHeartbeats 8000000 in
theorem rload_any (h : RStp w0 w B m d p n v0 v on C a) (k : Int) (hn : n + 1 ≤ 4611686018427387904) (h0 : 0 ≤ k) (h1 : k < C.length) :
    Calls Try.prog 40 #[.pointer (some ⟨p, 0, none⟩), .int .i64 k] w fun e w' => e = .returned (.int .i64 (ld C k)) ∧ RStp w0 w' B m d p (n + 1) v0 v on C a := by
  have H := Lib.hid h
  have c0 : w.cell? ⟨p, 0, none⟩ = some (.pointer (some ⟨d, 0, none⟩)) := h.act.cell 0
  have d0 : w.cell? ⟨d, 0, none⟩ = some (.pointer (some ⟨m, 0, none⟩)) := h.dq.cell 0
  have hN : cellN C k = 1 := cellN_in h0 h1
  clear h
  go_enter Try.func40, Try.ntmps40
  go_wp2_with fail
  refine (dload_any B m n k v C w H.out.mem hn).mono ?_
  rintro e w' ⟨rfl, h1, h2⟩
  rw [hN] at h1
  have H1 := Lib.hid (H.out.memd h1 h2)
  rw [cellV_ld]
  clear h1 h2
  go_wp2_with fail
  go_ret
  exact ⟨rfl, H1.out⟩
set_option maxRecDepth 100000 in
set_option maxHeartbeats 8000000 in
theorem rstore_any (h : RStp w0 w B m d p n v0 v on C a) (k x : Int) (hn : n + 1 ≤ 4611686018427387904) (h0 : 0 ≤ k) (h1 : k < C.length) :
    Calls Try.prog 43 #[.pointer (some ⟨p, 0, none⟩), .int .i64 k, .int .i64 x] w fun e w' => e = .returned (.tuple #[]) ∧ RStp w0 w' B m d p (n + 1) v0 v on (st C k x) a := by
  have H := Lib.hid h
  have c0 : w.cell? ⟨p, 0, none⟩ = some (.pointer (some ⟨d, 0, none⟩)) := h.act.cell 0
  have d0 : w.cell? ⟨d, 0, none⟩ = some (.pointer (some ⟨m, 0, none⟩)) := h.dq.cell 0
  have hN : cellN C k = 1 := cellN_in h0 h1
  clear h
  go_enter Try.func43, Try.ntmps43
  go_wp2_with fail
  refine (dstore_any B m n k x v C w H.out.mem hn).mono ?_
  rintro e w' ⟨rfl, h1, h2⟩
  rw [hN, cellS_st] at h1
  have H1 := Lib.hid (H.out.memd h1 h2)
  clear h1 h2
  go_wp2_with fail
  go_end0
  exact ⟨rfl, H1.out⟩
set_option maxRecDepth 100000 in
set_option maxHeartbeats 8000000 in
theorem rgoes_any (h : RStp w0 w B m d p n v0 v on C a) (k : Nat) :
    Calls Try.prog 41 #[.pointer (some ⟨p, 0, none⟩), .int .i64 (k : Int)] w fun e w' => e = .returned (.tuple #[.int .u8 0, .int .i64 0, .int .i64 0]) ∧ RStp w0 w' B m d p n v0 v on C { a with at_ := k } := by
  have H := Lib.hid h
  have c3 : w.cell? ⟨p, 3, none⟩ = some (.int .i64 (a.at_ : Int)) := h.act.cell 3
  have f3 : w.frozen? ⟨p, 3, none⟩ = false := h.act.frozen 3
  clear h
  go_enter Try.func41, Try.ntmps41
  go_wp2_with fail
  go_ret3
  exact ⟨rfl, H.out.set 3 _ rfl⟩
set_option maxRecDepth 100000 in
set_option maxHeartbeats 8000000 in
theorem rover_any (h : RStp w0 w B m d p n v0 v on C a) (k : Nat) (x : Int) :
    Calls Try.prog 44 #[.pointer (some ⟨p, 0, none⟩), .int .u8 (k : Int), .int .i64 x] w fun e w' => e = .returned (.tuple #[.int .u8 (k : Int), .int .i64 x, .int .i64 0]) ∧ RStp w0 w' B m d p n v0 v on C { a with told := k, got := x } := by
  have H := Lib.hid h
  have c3 : w.cell? ⟨p, 11, none⟩ = some (.int .u8 (a.told : Int)) := h.act.cell 11
  have f3 : w.frozen? ⟨p, 11, none⟩ = false := h.act.frozen 11
  have c4 : w.cell? ⟨p, 12, none⟩ = some (.int .i64 a.got) := h.act.cell 12
  have f4 : w.frozen? ⟨p, 12, none⟩ = false := h.act.frozen 12
  clear h
  go_enter Try.func44, Try.ntmps44
  go_wp2_with fail
  go_ret3
  exact ⟨rfl, (H.out.set 11 _ (a' := { a with told := k }) rfl).set 12 _ rfl⟩
theorem rswap_any (h : RStp w0 w B m d p n v0 v on C a) (t : Int) (hn : n + 1 ≤ 4611686018427387904) (hz : (0 : Int) < C.length) :
    Calls Try.prog 45 #[.pointer (some ⟨m, 0, none⟩), .int .i64 0, .int .i64 t, .int .i64 (t + 1)] w fun e w' => e = .returned (.tuple #[.bool (decide (ld C 0 = t)), .int .i64 0]) ∧ RStp w0 w' B m d p (n + 1) v0 v on (if ld C 0 = t then st C 0 (t + 1) else C) a := by
  refine (dswap_any B m n 0 t (t + 1) v C w h.mem hn).mono ?_
  rintro e w' ⟨rfl, h1, h2⟩
  have e1 : cellIs C 0 t = decide (ld C 0 = t) := cellIs_ld (z := 0) hz
  have e2 : cellW C 0 t (t + 1) = if ld C 0 = t then st C 0 (t + 1) else C := cellW_ld (z := 0) hz
  have e3 : cellN C 0 = 1 := cellN_in (by omega) hz
  have e4 : cellE C 0 = 0 := if_pos ⟨by omega, hz⟩
  rw [e2, e3] at h1
  rw [e1, e4]
  exact ⟨rfl, h.memd h1 h2⟩
end
theorem rplace_any (x y i : Int) (w : World) (h0 : 0 ≤ i) (h1 : 1 ≤ y) (h2 : y ≤ 1000000) (h3 : 0 ≤ x) (h4 : x ≤ 1000000) :
    Calls Try.prog 42 #[.int .i64 x, .int .i64 y, .int .i64 i] w fun e w' => e = .returned (.int .i64 (place x y i)) ∧ w = w' := by
  have hb := place_bd (w := x) (i := i) h1
  have hm0 := Int.emod_nonneg i (show y ≠ 0 by omega)
  have hm1 := Int.emod_lt_of_pos i (show 0 < y by omega)
  have hy : ¬ y = 0 := by omega
  unfold place at *
  go_enter Try.func42, Try.ntmps42
  go_wp2
  go_ret
  exact ⟨rfl, rfl⟩
end Go.Proofs.Ytmghlhngdopifaa
