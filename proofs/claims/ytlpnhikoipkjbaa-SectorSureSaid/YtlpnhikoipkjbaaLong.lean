/- Loads and stores of long arrays and structs, by one equation on the run: for whatever cells. -/
import Derived.Test.YtlpnhikoipkjbaaWords
import Derived.Deep.WholeRow
import Derived.Deep.MidRow
import Derived.WalkSpells
namespace Go.Proofs.Ytlpnhikoipkjbaa
open Go.RowKit
def bs (s : ByteArray) : List Nat := s.data.toList.map UInt8.toNat
theorem bs_lt (s : ByteArray) : ∀ c ∈ bs s, c < 256 := by
  intro c hc
  obtain ⟨u, _, rfl⟩ := List.mem_map.1 hc
  exact UInt8.toNat_lt u
theorem bs_len (s : ByteArray) : (bs s).length = s.size := by simp [bs]

/-- A row of bytes: block g begins with the cells xs, which may be written. -/
structure ByteRow (w : World) (g : Nat) (xs : List Nat) : Prop where
  lt : g < w.heap.size
  cell : ∀ j, j < xs.length → w.cell? ⟨g, j, none⟩ = some (.int .u8 ((xs.getD j 0 : Nat) : Int))
  free : ∀ j, j < xs.length → w.frozen? ⟨g, j, none⟩ = false
theorem ByteRow.only {S : Nat → Prop} {w w' : World} {g : Nat} {xs : List Nat} (h : ByteRow w g xs) (ho : Only S w w') (hg : ¬ S g) : ByteRow w' g xs :=
  ⟨Nat.lt_of_lt_of_le h.lt ho.size, fun j hj => (ho.cell (p := ⟨g, j, none⟩) h.lt hg).trans (h.cell j hj), fun j hj => (World.frozen?_of_block (ho.block g h.lt hg)).trans (h.free j hj)⟩
theorem ByteRow.set {w : World} {g : Nat} {xs : List Nat} (h : ByteRow w g xs) (k v : Nat) (hk : k < xs.length) : ByteRow (w.setCell ⟨g, k, none⟩ (.int .u8 v)) g (xs.set k v) := by
  refine ⟨by simpa using h.lt, fun j hj => ?_, fun j hj => by rw [World.frozen?_setCell]; exact h.free j (by simpa using hj)⟩
  rw [List.length_set] at hj
  by_cases e : k = j
  · subst e
    rw [World.cell?_setCell_same _ _ _ (h.cell k hk)]
    simp [List.getD, hk]
  · rw [World.cell?_setCell_other _ _ _ _ (by intro e2; injection e2 with _ e2; exact e e2), h.cell j hj]
    simp [List.getD, List.getElem?_set_ne e]
section
variable {P : Program}
theorem bytesRow_at (s : ByteArray) (cap j : Nat) (hj : j < s.size) : (bytesRow s cap)[j]? = some (.int .u8 (((bs s).getD j 0 : Nat) : Int)) := by
  have hj' : j < s.data.size := hj
  unfold bytesRow bs
  rw [Array.getElem?_append_left (by simpa using hj')]
  simp [List.getD]
  exact ⟨s.data[j], Array.getElem?_eq_getElem hj', by simp [Array.getElem?_eq_getElem hj']⟩
theorem wp_conv_bytes {o : Oper} {a : Act} {w : World} {K : Act → World → Prop} {Q : Exit → Act → World → Prop} (src dst e : TypeId) (x : Operand) (ho : o.op = .convert src dst x)
    (hs : P.underlying src = some .string) (hd : P.underlying dst = some (.slice e)) (he : P.underlying e = some (.int .u8)) {s : ByteArray} (hx : a.eval x = .string s)
    (h : ∀ c w', ByteRow w' w.heap.size (bs s) → Only (fun _ => False) w w' → w'.heap.size = w.heap.size + 1 → s.size ≤ c → K (a.put o.dst (.slice (some ⟨w.heap.size, 0, none⟩) s.size c)) w') : o.wp P a w K Q := by
  unfold Oper.wp execOp
  simp only [ho, hx, Sem.run_bind, Sem.run_pure, Result.andThen_ok, run_bytes_of_string w src dst e s hs hd he]
  refine h _ _ ⟨by simp, fun j hj => ?_, fun j hj => ?_⟩ (((Only.refl _ w).drew).alloc _) (by simp) (grownCap_ge w s.size 0 e)
  · rw [bs_len] at hj
    have hh := heap_alloc_new w.drew (.cells (bytesRow s (grownCap w s.size 0 e)) e ((bytesRow s (grownCap w s.size 0 e)).size, (bytesRow s (grownCap w s.size 0 e)).size + 1))
    rw [World.size_drew] at hh
    rw [cell_of_row _ _ _ _ _ _ hh]
    exact bytesRow_at s _ j hj
  · rw [bs_len] at hj
    have hh := heap_alloc_new w.drew (.cells (bytesRow s (grownCap w s.size 0 e)) e ((bytesRow s (grownCap w s.size 0 e)).size, (bytesRow s (grownCap w s.size 0 e)).size + 1))
    rw [World.size_drew] at hh
    have hsz : j < (bytesRow s (grownCap w s.size 0 e)).size := by
      have := bytesRow_at s (grownCap w s.size 0 e) j hj
      exact (Array.getElem?_eq_some_iff.1 this).1
    simp only [World.frozen?, hh]
    simp; omega
theorem wpList_conv_bytes {ops : Array Oper} {rest : List Oper} {o : Oper} {a : Act} {w : World} {Q : Exit → Act → World → Prop} (hgd : o.guard = none) (src dst e : TypeId) (x : Operand) (ho : o.op = .convert src dst x)
    (hs : P.underlying src = some .string) (hd : P.underlying dst = some (.slice e)) (he : P.underlying e = some (.int .u8)) {s : ByteArray} (hx : a.eval x = .string s)
    (h : ∀ c w', ByteRow w' w.heap.size (bs s) → Only (fun _ => False) w w' → w'.heap.size = w.heap.size + 1 → s.size ≤ c → wpList P ops Q rest (a.put o.dst (.slice (some ⟨w.heap.size, 0, none⟩) s.size c)) w') : wpList P ops Q (o :: rest) a w :=
  wpList_plain hgd fun _ hK => wp_conv_bytes src dst e x ho hs hd he hx fun c w' h1 h2 h3 h4 => hK _ _ (h c w' h1 h2 h3 h4)
theorem wp_load_by {op : Oper} {a : Act} {w : World} {K : Act → World → Prop} {Q : Exit → Act → World → Prop} (ty : TypeId) (x : Operand) (ho : op.op = .load ty x) {pa v : Value} (hx : a.eval x = pa)
    (hr : (Instr.loadAt ty pa).run P w = .ok v w) (h : K (a.put op.dst v) w) : op.wp P a w K Q := by
  unfold Oper.wp execOp
  simp only [ho, hx, Sem.run_bind, Sem.run_pure, Result.andThen_ok, hr]
  exact h
theorem wpList_load_by {ops : Array Oper} {rest : List Oper} {op : Oper} {a : Act} {w : World} {Q : Exit → Act → World → Prop} (hgd : op.guard = none) (ty : TypeId) (x : Operand) (ho : op.op = .load ty x) {pa v : Value} (hx : a.eval x = pa)
    (hr : (Instr.loadAt ty pa).run P w = .ok v w) (h : wpList P ops Q rest (a.put op.dst v) w) : wpList P ops Q (op :: rest) a w :=
  wpList_plain hgd fun _ hK => wp_load_by ty x ho hx hr (hK _ _ h)
theorem wp_store_by {op : Oper} {a : Act} {w w' : World} {K : Act → World → Prop} {Q : Exit → Act → World → Prop} (ty : TypeId) (x y : Operand) (ho : op.op = .store ty x y) {pa v : Value} (hx : a.eval x = pa) (hy : a.eval y = v)
    (hr : (Instr.storeAt ty pa v).run P w = .ok () w') (h : K (a.put op.dst undef) w') : op.wp P a w K Q := by
  unfold Oper.wp execOp
  simp only [ho, hx, hy, Sem.run_bind, Sem.run_pure, Result.andThen_ok, hr]
  exact h
theorem wpList_store_by {ops : Array Oper} {rest : List Oper} {op : Oper} {a : Act} {w w' : World} {Q : Exit → Act → World → Prop} (hgd : op.guard = none) (ty : TypeId) (x y : Operand) (ho : op.op = .store ty x y) {pa v : Value} (hx : a.eval x = pa) (hy : a.eval y = v)
    (hr : (Instr.storeAt ty pa v).run P w = .ok () w') (h : wpList P ops Q rest (a.put op.dst undef) w') : wpList P ops Q (op :: rest) a w :=
  wpList_plain hgd fun _ hK => wp_store_by ty x y ho hx hy hr (hK _ _ h)
end
end Go.Proofs.Ytlpnhikoipkjbaa
