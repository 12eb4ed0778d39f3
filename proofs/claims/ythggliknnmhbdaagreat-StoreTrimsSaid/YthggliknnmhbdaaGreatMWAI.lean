/- Several texts in one: DkJ. -/
import Derived.Test.YthggliknnmhbdaaGreatMWAC
import Derived.Test.YthggliknnmhbdaaGreatMWAH
import Derived.Test.YthggliknnmhbdaaGreatShelf
/- A disk of sectors: what is there for good, as a text. -/
namespace Go.Proofs.YthggliknnmhbdaaGreat
set_option maxRecDepth 100000
open Go.RowKit Go.WideShapes Go.ChangeShapes
set_option linter.unusedVariables false
theorem sec_range {w : World} {gs : Nat} {g : List (List UInt8)} (hb : Blk w gs 65 (secL g).toArray) (hall : ∀ t ∈ g, t.length = 128) {k : Nat} {t : List UInt8} (ht : g[k]? = some t) : w.rangeAt gs (k * 128) (t.map byteV) := by
  intro j v hv
  have hk : k < g.length := (List.getElem?_eq_some_iff.1 ht).1
  have hj : j < 128 := by have := (List.getElem?_eq_some_iff.1 hv).1; rw [List.length_map, hall t (List.mem_of_getElem? ht)] at this; exact this
  rw [hb.cell]
  unfold secL
  rw [List.getElem?_toArray, List.getElem?_map]
  rw [List.getElem?_map] at hv
  have h1 := flat_mid g k hall hk
  have h2 : g.flatten[k * 128 + j]? = (g.flatten.drop (k * 128))[j]? := by rw [List.getElem?_drop]
  have hgd : g.getD k [] = t := by rw [List.getD_eq_getElem?_getD, ht]; rfl
  rw [h2, h1, hgd, List.getElem?_append_left (by rw [hall t (List.mem_of_getElem? ht)]; exact hj)]
  exact hv
end Go.Proofs.YthggliknnmhbdaaGreat
