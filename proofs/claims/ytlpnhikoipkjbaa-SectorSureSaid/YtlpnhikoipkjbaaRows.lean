/-
  No cell of these rows narrows 'for every input' (looked for: loops, veiled, ifaces, maps, wideKeys, modest, calm, conditions, laid).
  DERIVED. THE GIVEN ROWS OF THIS SEAT. 3 by the template 'for every input the law returns true; each argument reads behind the call as it read before'; 0 by the template 'total and deterministic' (their statements: YtlpnhikoipkjbaaTotals.lean).
  GIVEN WITH THE SEED: the statements are not yours to turn. If you find one false, say at which input.
  Laid BY PROGRAM, IN A SANDBOX (cutbox-rows.mjs): the forced cells as the released guide's own fill.sh prints them over the translation 6b2148db5a541066… (all of the seat's roots in one cut). By AI agents, Wed Nov 11 2026. No macro, syntax, notation, axiom, sorry.
-/
import Derived.Test.YtlpnhikoipkjbaaChecked
import GoSem.Claim
import GoSem.ClaimJoined
import GoSem.ClaimMapViews
import Derived.JoinedTies
import Derived.KernelRfl
namespace Go.Proofs.Ytlpnhikoipkjbaa
/- THE CELL 'sum', in the pinned program and in every row, IS THE sha256 OF THE DUMP (.gsa) THAT YtlpnhikoipkjbaaProg.lean LOADS. Nothing in Lean hashes anything: it is a label: what it is worth is what the hold of that sum in a sandbox is worth. -/
noncomputable def Try.pinned : Pinned := { name := "ytlpnhikoipkjbaa", sum := "6b2148db5a541066cc719776eb3d8a1ceb073847ce688146085db8815ac952fc", checked := Try.checked }
namespace Rows
def none {H : Type} : Left H := { results := [], args := [] }

/-- 'thresherlaw05.SectorSure': WHATEVER THE INPUT: true; the input reads as it did. -/
def sectorSureSpec : ChangeSpec := { name := "sectorSure", fn := fun _ => fun
  | [d1, d2, d3, d4, d5] => { results := [.lit (.bool true)], args := [d1, d2, d3, d4, d5] }
  | _ => none }
def sectorSureRow : OpenClaim := { program := "ytlpnhikoipkjbaa", sum := "6b2148db5a541066cc719776eb3d8a1ceb073847ce688146085db8815ac952fc", func := "thresher/thresherlaw05.SectorSure", spec := "sectorSure", inPlace := ["internal/abi.NoEscape"], unfollowed := true, recurses := true, apart := false }
def SectorSureSaid : Prop := sectorSureRow.holds Try.pinned (OpenSpec.ofChange sectorSureSpec)

/-- ITS FALSE NEIGHBOUR: 'it returns false'. Refute it at one input. -/
def sectorSureWrong : ChangeSpec := { name := "sectorSure", fn := fun _ => fun
  | [d1, d2, d3, d4, d5] => { results := [.lit (.bool false)], args := [d1, d2, d3, d4, d5] }
  | _ => none }
def SectorSureWrongFalsely : Prop := sectorSureRow.holds Try.pinned (OpenSpec.ofChange sectorSureWrong)

/-- 'thresherlaw05.SectorNil': WHATEVER THE INPUT: true; the input reads as it did. -/
def sectorNilSpec : ChangeSpec := { name := "sectorNil", fn := fun _ => fun
  | [d1, d2] => { results := [.lit (.bool true)], args := [d1, d2] }
  | _ => none }
def sectorNilRow : OpenClaim := { program := "ytlpnhikoipkjbaa", sum := "6b2148db5a541066cc719776eb3d8a1ceb073847ce688146085db8815ac952fc", func := "thresher/thresherlaw05.SectorNil", spec := "sectorNil", inPlace := ["internal/abi.NoEscape"], unfollowed := true, recurses := true, apart := false }
def SectorNilSaid : Prop := sectorNilRow.holds Try.pinned (OpenSpec.ofChange sectorNilSpec)

/-- ITS FALSE NEIGHBOUR: 'it returns false'. Refute it at one input. -/
def sectorNilWrong : ChangeSpec := { name := "sectorNil", fn := fun _ => fun
  | [d1, d2] => { results := [.lit (.bool false)], args := [d1, d2] }
  | _ => none }
def SectorNilWrongFalsely : Prop := sectorNilRow.holds Try.pinned (OpenSpec.ofChange sectorNilWrong)

/-- 'thresherlaw05.SectorWhole': WHATEVER THE INPUT: true; the input reads as it did. -/
def sectorWholeSpec : ChangeSpec := { name := "sectorWhole", fn := fun _ => fun
  | [d1, d2, d3, d4] => { results := [.lit (.bool true)], args := [d1, d2, d3, d4] }
  | _ => none }
def sectorWholeRow : OpenClaim := { program := "ytlpnhikoipkjbaa", sum := "6b2148db5a541066cc719776eb3d8a1ceb073847ce688146085db8815ac952fc", func := "thresher/thresherlaw05.SectorWhole", spec := "sectorWhole", inPlace := ["internal/abi.NoEscape"], unfollowed := true, recurses := true, apart := false }
def SectorWholeSaid : Prop := sectorWholeRow.holds Try.pinned (OpenSpec.ofChange sectorWholeSpec)

/-- ITS FALSE NEIGHBOUR: 'it returns false'. Refute it at one input. -/
def sectorWholeWrong : ChangeSpec := { name := "sectorWhole", fn := fun _ => fun
  | [d1, d2, d3, d4] => { results := [.lit (.bool false)], args := [d1, d2, d3, d4] }
  | _ => none }
def SectorWholeWrongFalsely : Prop := sectorWholeRow.holds Try.pinned (OpenSpec.ofChange sectorWholeWrong)

/- THE SECOND FORM. 'bulk': how many values and letters a reading holds, each counted each time it is reached (what is shared counts as often as it is met; a slice's spare places count too). A statement '..UptoSaid' is the law's where the arguments, and the package variables that the reading takes, are together of bulk at most 1048576: NARROWER than '..Said'. Prove '..Said' where nothing that the law and all that it calls make is longer than what came in: it says more and counts as full. Else prove '..UptoSaid'. A law counts once. -/
mutual
def uptoBulk {H : Type} : DataW H → Nat
  | .lit (.string bytes) => bytes.length + 1
  | .lit _ => 1
  | .nil => 1
  | .ptr d => uptoBulk d + 1
  | .slice elems spare => uptoBulkAll elems + uptoBulkAll spare + 1
  | .agg parts => uptoBulkAll parts + 1
  | .iface _ d => uptoBulk d + 1
  | .map entries => uptoBulkEntries entries + 1
  | .held _ => 1
def uptoBulkAll {H : Type} : List (DataW H) → Nat
  | [] => 0
  | d :: r => uptoBulk d + uptoBulkAll r
def uptoBulkEntries {H : Type} : List (Lit × DataW H) → Nat
  | [] => 0
  | x :: r => uptoBulkEntry x + uptoBulkEntries r
def uptoBulkEntry {H : Type} : Lit × DataW H → Nat
  | (.string bytes, d) => bytes.length + uptoBulk d + 1
  | (_, d) => uptoBulk d + 1
 end
def uptoSmall : (H : Type) → List (DataW H) → Bool := fun _ ds => decide (uptoBulkAll ds ≤ 1048576)
def OpenSpec.upto (s : _root_.Go.ChangeSpec) : _root_.Go.OpenSpec := { _root_.Go.OpenSpec.ofChange s with cond := some uptoSmall }

/-- 'thresherlaw05.SectorSure', WHERE WHAT IT READS IS OF BULK AT MOST 1048576: true; the input reads as it did. -/
def sectorSureUptoRow : OpenClaim := { program := "ytlpnhikoipkjbaa", sum := "6b2148db5a541066cc719776eb3d8a1ceb073847ce688146085db8815ac952fc", func := "thresher/thresherlaw05.SectorSure", spec := "sectorSure", inPlace := ["internal/abi.NoEscape"], unfollowed := true, recurses := true, apart := false, narrowed := true }
def SectorSureUptoSaid : Prop := sectorSureUptoRow.holds Try.pinned (OpenSpec.upto sectorSureSpec)

/-- 'thresherlaw05.SectorNil', WHERE WHAT IT READS IS OF BULK AT MOST 1048576: true; the input reads as it did. -/
def sectorNilUptoRow : OpenClaim := { program := "ytlpnhikoipkjbaa", sum := "6b2148db5a541066cc719776eb3d8a1ceb073847ce688146085db8815ac952fc", func := "thresher/thresherlaw05.SectorNil", spec := "sectorNil", inPlace := ["internal/abi.NoEscape"], unfollowed := true, recurses := true, apart := false, narrowed := true }
def SectorNilUptoSaid : Prop := sectorNilUptoRow.holds Try.pinned (OpenSpec.upto sectorNilSpec)

/-- 'thresherlaw05.SectorWhole', WHERE WHAT IT READS IS OF BULK AT MOST 1048576: true; the input reads as it did. -/
def sectorWholeUptoRow : OpenClaim := { program := "ytlpnhikoipkjbaa", sum := "6b2148db5a541066cc719776eb3d8a1ceb073847ce688146085db8815ac952fc", func := "thresher/thresherlaw05.SectorWhole", spec := "sectorWhole", inPlace := ["internal/abi.NoEscape"], unfollowed := true, recurses := true, apart := false, narrowed := true }
def SectorWholeUptoSaid : Prop := sectorWholeUptoRow.holds Try.pinned (OpenSpec.upto sectorWholeSpec)

end Rows
end Go.Proofs.Ytlpnhikoipkjbaa
