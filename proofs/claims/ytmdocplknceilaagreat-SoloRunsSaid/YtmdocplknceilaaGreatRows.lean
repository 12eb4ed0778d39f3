/-
  No cell of these rows narrows 'for every input' (looked for: loops, veiled, ifaces, maps, wideKeys, modest, calm, conditions, laid).
  DERIVED. THE GIVEN ROWS OF THIS SEAT. 7 by the template 'for every input the law returns true; each argument reads behind the call as it read before'; 0 by the template 'total and deterministic' (their statements: YtmdocplknceilaaGreatTotals.lean).
  GIVEN WITH THE SEED: the statements are not yours to turn. If you find one false, say at which input.
  Laid BY PROGRAM, IN A SANDBOX (cutbox-rows.mjs): the forced cells as the released guide's own fill.sh prints them over the translation a7a226ece39fe3c7… (all of the seat's roots in one cut). By AI agents, Wed Nov 11 2026. No macro, syntax, notation, axiom, sorry.
-/
import Derived.Test.YtmdocplknceilaaGreatChecked
import GoSem.Claim
import GoSem.ClaimJoined
import GoSem.ClaimMapViews
import Derived.JoinedTies
import Derived.KernelRfl
namespace Go.Proofs.YtmdocplknceilaaGreat
/- THE CELL 'sum', in the pinned program and in every row, IS THE sha256 OF THE DUMP (.gsa) THAT YtmdocplknceilaaGreatProg.lean LOADS. Nothing in Lean hashes anything: it is a label: what it is worth is what the hold of that sum in a sandbox is worth. -/
noncomputable def Tryz.pinned : Pinned := { name := "ytmdocplknceilaagreat", sum := "a7a226ece39fe3c7d30b5b0db3449a48e06ee3cedcbe2eb793d40bc03b3d4765", checked := Tryz.checked }
namespace Rows
def none {H : Type} : Left H := { results := [], args := [] }

/-- 'thresherlaw18.PoolRuns': WHATEVER THE INPUT: true; the input reads as it did. -/
def poolRunsSpec : ChangeSpec := { name := "poolRuns", fn := fun _ => fun
  | [d1, d2, d3, d4, d5, d6] => { results := [.lit (.bool true)], args := [d1, d2, d3, d4, d5, d6] }
  | _ => none }
def poolRunsRow : OpenClaim := { program := "ytmdocplknceilaagreat", sum := "a7a226ece39fe3c7d30b5b0db3449a48e06ee3cedcbe2eb793d40bc03b3d4765", func := "thresher/thresherlaw18.PoolRuns", spec := "poolRuns", unfollowed := true, recurses := true, plainKeys := false, apart := false }
def PoolRunsSaid : Prop := poolRunsRow.holds Tryz.pinned (OpenSpec.ofChange poolRunsSpec)

/-- ITS FALSE NEIGHBOUR: 'it returns false'. Refute it at one input. -/
def poolRunsWrong : ChangeSpec := { name := "poolRuns", fn := fun _ => fun
  | [d1, d2, d3, d4, d5, d6] => { results := [.lit (.bool false)], args := [d1, d2, d3, d4, d5, d6] }
  | _ => none }
def PoolRunsWrongFalsely : Prop := poolRunsRow.holds Tryz.pinned (OpenSpec.ofChange poolRunsWrong)

/-- 'thresherlaw18.PoolShares': WHATEVER THE INPUT: true; the input reads as it did. -/
def poolSharesSpec : ChangeSpec := { name := "poolShares", fn := fun _ => fun
  | [d1, d2, d3, d4, d5, d6, d7] => { results := [.lit (.bool true)], args := [d1, d2, d3, d4, d5, d6, d7] }
  | _ => none }
def poolSharesRow : OpenClaim := { program := "ytmdocplknceilaagreat", sum := "a7a226ece39fe3c7d30b5b0db3449a48e06ee3cedcbe2eb793d40bc03b3d4765", func := "thresher/thresherlaw18.PoolShares", spec := "poolShares", unfollowed := true, recurses := true, plainKeys := false, apart := false }
def PoolSharesSaid : Prop := poolSharesRow.holds Tryz.pinned (OpenSpec.ofChange poolSharesSpec)

/-- ITS FALSE NEIGHBOUR: 'it returns false'. Refute it at one input. -/
def poolSharesWrong : ChangeSpec := { name := "poolShares", fn := fun _ => fun
  | [d1, d2, d3, d4, d5, d6, d7] => { results := [.lit (.bool false)], args := [d1, d2, d3, d4, d5, d6, d7] }
  | _ => none }
def PoolSharesWrongFalsely : Prop := poolSharesRow.holds Tryz.pinned (OpenSpec.ofChange poolSharesWrong)

/-- 'thresherlaw18.PoolKnows': WHATEVER THE INPUT: true; the input reads as it did. -/
def poolKnowsSpec : ChangeSpec := { name := "poolKnows", fn := fun _ => fun
  | [d1, d2, d3, d4, d5, d6, d7, d8] => { results := [.lit (.bool true)], args := [d1, d2, d3, d4, d5, d6, d7, d8] }
  | _ => none }
def poolKnowsRow : OpenClaim := { program := "ytmdocplknceilaagreat", sum := "a7a226ece39fe3c7d30b5b0db3449a48e06ee3cedcbe2eb793d40bc03b3d4765", func := "thresher/thresherlaw18.PoolKnows", spec := "poolKnows", inPlace := ["maps.clone"], unfollowed := true, recurses := true, plainKeys := false, apart := false }
def PoolKnowsSaid : Prop := poolKnowsRow.holds Tryz.pinned (OpenSpec.ofChange poolKnowsSpec)

/-- ITS FALSE NEIGHBOUR: 'it returns false'. Refute it at one input. -/
def poolKnowsWrong : ChangeSpec := { name := "poolKnows", fn := fun _ => fun
  | [d1, d2, d3, d4, d5, d6, d7, d8] => { results := [.lit (.bool false)], args := [d1, d2, d3, d4, d5, d6, d7, d8] }
  | _ => none }
def PoolKnowsWrongFalsely : Prop := poolKnowsRow.holds Tryz.pinned (OpenSpec.ofChange poolKnowsWrong)

/-- 'thresherlaw19.SoloRuns': WHATEVER THE INPUT: true; the input reads as it did. -/
def soloRunsSpec : ChangeSpec := { name := "soloRuns", fn := fun _ => fun
  | [d1, d2, d3, d4, d5] => { results := [.lit (.bool true)], args := [d1, d2, d3, d4, d5] }
  | _ => none }
def soloRunsRow : OpenClaim := { program := "ytmdocplknceilaagreat", sum := "a7a226ece39fe3c7d30b5b0db3449a48e06ee3cedcbe2eb793d40bc03b3d4765", func := "thresher/thresherlaw19.SoloRuns", spec := "soloRuns", unfollowed := true, recurses := true, plainKeys := false, apart := false }
def SoloRunsSaid : Prop := soloRunsRow.holds Tryz.pinned (OpenSpec.ofChange soloRunsSpec)

/-- ITS FALSE NEIGHBOUR: 'it returns false'. Refute it at one input. -/
def soloRunsWrong : ChangeSpec := { name := "soloRuns", fn := fun _ => fun
  | [d1, d2, d3, d4, d5] => { results := [.lit (.bool false)], args := [d1, d2, d3, d4, d5] }
  | _ => none }
def SoloRunsWrongFalsely : Prop := soloRunsRow.holds Tryz.pinned (OpenSpec.ofChange soloRunsWrong)

/-- 'thresherlaw19.SoloSame': WHATEVER THE INPUT: true; the input reads as it did. -/
def soloSameSpec : ChangeSpec := { name := "soloSame", fn := fun _ => fun
  | [d1, d2, d3, d4, d5, d6, d7] => { results := [.lit (.bool true)], args := [d1, d2, d3, d4, d5, d6, d7] }
  | _ => none }
def soloSameRow : OpenClaim := { program := "ytmdocplknceilaagreat", sum := "a7a226ece39fe3c7d30b5b0db3449a48e06ee3cedcbe2eb793d40bc03b3d4765", func := "thresher/thresherlaw19.SoloSame", spec := "soloSame", unfollowed := true, recurses := true, plainKeys := false, apart := false }
def SoloSameSaid : Prop := soloSameRow.holds Tryz.pinned (OpenSpec.ofChange soloSameSpec)

/-- ITS FALSE NEIGHBOUR: 'it returns false'. Refute it at one input. -/
def soloSameWrong : ChangeSpec := { name := "soloSame", fn := fun _ => fun
  | [d1, d2, d3, d4, d5, d6, d7] => { results := [.lit (.bool false)], args := [d1, d2, d3, d4, d5, d6, d7] }
  | _ => none }
def SoloSameWrongFalsely : Prop := soloSameRow.holds Tryz.pinned (OpenSpec.ofChange soloSameWrong)

/-- 'thresherlaw18.PoolDrops': WHATEVER THE INPUT: true; the input reads as it did. -/
def poolDropsSpec : ChangeSpec := { name := "poolDrops", fn := fun _ => fun
  | [d1, d2, d3, d4, d5, d6, d7] => { results := [.lit (.bool true)], args := [d1, d2, d3, d4, d5, d6, d7] }
  | _ => none }
def poolDropsRow : OpenClaim := { program := "ytmdocplknceilaagreat", sum := "a7a226ece39fe3c7d30b5b0db3449a48e06ee3cedcbe2eb793d40bc03b3d4765", func := "thresher/thresherlaw18.PoolDrops", spec := "poolDrops", unfollowed := true, recurses := true, plainKeys := false, apart := false }
def PoolDropsSaid : Prop := poolDropsRow.holds Tryz.pinned (OpenSpec.ofChange poolDropsSpec)

/-- ITS FALSE NEIGHBOUR: 'it returns false'. Refute it at one input. -/
def poolDropsWrong : ChangeSpec := { name := "poolDrops", fn := fun _ => fun
  | [d1, d2, d3, d4, d5, d6, d7] => { results := [.lit (.bool false)], args := [d1, d2, d3, d4, d5, d6, d7] }
  | _ => none }
def PoolDropsWrongFalsely : Prop := poolDropsRow.holds Tryz.pinned (OpenSpec.ofChange poolDropsWrong)

/-- 'thresherlaw18.PoolAgain': WHATEVER THE INPUT: true; the input reads as it did. -/
def poolAgainSpec : ChangeSpec := { name := "poolAgain", fn := fun _ => fun
  | [d1, d2, d3, d4, d5, d6, d7, d8] => { results := [.lit (.bool true)], args := [d1, d2, d3, d4, d5, d6, d7, d8] }
  | _ => none }
def poolAgainRow : OpenClaim := { program := "ytmdocplknceilaagreat", sum := "a7a226ece39fe3c7d30b5b0db3449a48e06ee3cedcbe2eb793d40bc03b3d4765", func := "thresher/thresherlaw18.PoolAgain", spec := "poolAgain", unfollowed := true, recurses := true, plainKeys := false, apart := false }
def PoolAgainSaid : Prop := poolAgainRow.holds Tryz.pinned (OpenSpec.ofChange poolAgainSpec)

/-- ITS FALSE NEIGHBOUR: 'it returns false'. Refute it at one input. -/
def poolAgainWrong : ChangeSpec := { name := "poolAgain", fn := fun _ => fun
  | [d1, d2, d3, d4, d5, d6, d7, d8] => { results := [.lit (.bool false)], args := [d1, d2, d3, d4, d5, d6, d7, d8] }
  | _ => none }
def PoolAgainWrongFalsely : Prop := poolAgainRow.holds Tryz.pinned (OpenSpec.ofChange poolAgainWrong)

/- THE SECOND FORM. 'bulk': how many values and letters a reading holds, each counted each time it is reached (what is shared counts as often as it is met; a slice's spare places count too). A statement '..UptoSaid' is the law's where the arguments, and the package variables that the reading takes, are together of bulk at most 1048576: NARROWER than '..Said'. Prove '..Said' where nothing that the law and all that it calls make is longer than what came in: it says more and counts as full. Else prove '..UptoSaid'. A law counts once. -/
mutual
def uptoBulk {H : Type} : DataW H → Nat
  | .lit (.string bytes) => bytes.length + 1
  | .lit _ => 1
  | .nil => 1
  | .ptr d => uptoBulk d + 1
  | .slice elems spare => uptoBulkAll elems + uptoBulkAll spare + 1
  | .agg parts => uptoBulkAll parts + 1
  | .iface _ d => uptoBulk d + 1
  | .map entries => uptoBulkEntries entries + 1
  | .held _ => 1
def uptoBulkAll {H : Type} : List (DataW H) → Nat
  | [] => 0
  | d :: r => uptoBulk d + uptoBulkAll r
def uptoBulkEntries {H : Type} : List (Lit × DataW H) → Nat
  | [] => 0
  | x :: r => uptoBulkEntry x + uptoBulkEntries r
def uptoBulkEntry {H : Type} : Lit × DataW H → Nat
  | (.string bytes, d) => bytes.length + uptoBulk d + 1
  | (_, d) => uptoBulk d + 1
 end
def uptoSmall : (H : Type) → List (DataW H) → Bool := fun _ ds => decide (uptoBulkAll ds ≤ 1048576)
def OpenSpec.upto (s : _root_.Go.ChangeSpec) : _root_.Go.OpenSpec := { _root_.Go.OpenSpec.ofChange s with cond := some uptoSmall }

/-- 'thresherlaw18.PoolRuns', WHERE WHAT IT READS IS OF BULK AT MOST 1048576: true; the input reads as it did. -/
def poolRunsUptoRow : OpenClaim := { program := "ytmdocplknceilaagreat", sum := "a7a226ece39fe3c7d30b5b0db3449a48e06ee3cedcbe2eb793d40bc03b3d4765", func := "thresher/thresherlaw18.PoolRuns", spec := "poolRuns", unfollowed := true, recurses := true, plainKeys := false, apart := false, narrowed := true }
def PoolRunsUptoSaid : Prop := poolRunsUptoRow.holds Tryz.pinned (OpenSpec.upto poolRunsSpec)

/-- 'thresherlaw18.PoolShares', WHERE WHAT IT READS IS OF BULK AT MOST 1048576: true; the input reads as it did. -/
def poolSharesUptoRow : OpenClaim := { program := "ytmdocplknceilaagreat", sum := "a7a226ece39fe3c7d30b5b0db3449a48e06ee3cedcbe2eb793d40bc03b3d4765", func := "thresher/thresherlaw18.PoolShares", spec := "poolShares", unfollowed := true, recurses := true, plainKeys := false, apart := false, narrowed := true }
def PoolSharesUptoSaid : Prop := poolSharesUptoRow.holds Tryz.pinned (OpenSpec.upto poolSharesSpec)

/-- 'thresherlaw18.PoolKnows', WHERE WHAT IT READS IS OF BULK AT MOST 1048576: true; the input reads as it did. -/
def poolKnowsUptoRow : OpenClaim := { program := "ytmdocplknceilaagreat", sum := "a7a226ece39fe3c7d30b5b0db3449a48e06ee3cedcbe2eb793d40bc03b3d4765", func := "thresher/thresherlaw18.PoolKnows", spec := "poolKnows", inPlace := ["maps.clone"], unfollowed := true, recurses := true, plainKeys := false, apart := false, narrowed := true }
def PoolKnowsUptoSaid : Prop := poolKnowsUptoRow.holds Tryz.pinned (OpenSpec.upto poolKnowsSpec)

/-- 'thresherlaw19.SoloRuns', WHERE WHAT IT READS IS OF BULK AT MOST 1048576: true; the input reads as it did. -/
def soloRunsUptoRow : OpenClaim := { program := "ytmdocplknceilaagreat", sum := "a7a226ece39fe3c7d30b5b0db3449a48e06ee3cedcbe2eb793d40bc03b3d4765", func := "thresher/thresherlaw19.SoloRuns", spec := "soloRuns", unfollowed := true, recurses := true, plainKeys := false, apart := false, narrowed := true }
def SoloRunsUptoSaid : Prop := soloRunsUptoRow.holds Tryz.pinned (OpenSpec.upto soloRunsSpec)

/-- 'thresherlaw19.SoloSame', WHERE WHAT IT READS IS OF BULK AT MOST 1048576: true; the input reads as it did. -/
def soloSameUptoRow : OpenClaim := { program := "ytmdocplknceilaagreat", sum := "a7a226ece39fe3c7d30b5b0db3449a48e06ee3cedcbe2eb793d40bc03b3d4765", func := "thresher/thresherlaw19.SoloSame", spec := "soloSame", unfollowed := true, recurses := true, plainKeys := false, apart := false, narrowed := true }
def SoloSameUptoSaid : Prop := soloSameUptoRow.holds Tryz.pinned (OpenSpec.upto soloSameSpec)

/-- 'thresherlaw18.PoolDrops', WHERE WHAT IT READS IS OF BULK AT MOST 1048576: true; the input reads as it did. -/
def poolDropsUptoRow : OpenClaim := { program := "ytmdocplknceilaagreat", sum := "a7a226ece39fe3c7d30b5b0db3449a48e06ee3cedcbe2eb793d40bc03b3d4765", func := "thresher/thresherlaw18.PoolDrops", spec := "poolDrops", unfollowed := true, recurses := true, plainKeys := false, apart := false, narrowed := true }
def PoolDropsUptoSaid : Prop := poolDropsUptoRow.holds Tryz.pinned (OpenSpec.upto poolDropsSpec)

/-- 'thresherlaw18.PoolAgain', WHERE WHAT IT READS IS OF BULK AT MOST 1048576: true; the input reads as it did. -/
def poolAgainUptoRow : OpenClaim := { program := "ytmdocplknceilaagreat", sum := "a7a226ece39fe3c7d30b5b0db3449a48e06ee3cedcbe2eb793d40bc03b3d4765", func := "thresher/thresherlaw18.PoolAgain", spec := "poolAgain", unfollowed := true, recurses := true, plainKeys := false, apart := false, narrowed := true }
def PoolAgainUptoSaid : Prop := poolAgainUptoRow.holds Tryz.pinned (OpenSpec.upto poolAgainSpec)

end Rows
end Go.Proofs.YtmdocplknceilaaGreat
