/- Several texts in one: RkB, RkC, RkD, RkE, RkF. -/
import Derived.Test.YthggliknnmhbdaaGreatMWAW
import Derived.Test.YthggliknnmhbdaaGreatMWAV
import Derived.Test.YthggliknnmhbdaaGreatMWAS
import Derived.Test.YthggliknnmhbdaaGreatMWAG
import Derived.Test.YthggliknnmhbdaaGreatMWAP
import Derived.Test.YthggliknnmhbdaaGreatMWAH
/- The document's disk: burn, keep. No conditions beyond what each states. -/
namespace Go.Proofs.YthggliknnmhbdaaGreat
set_option maxRecDepth 100000
open Go.RowKit
set_option linter.unusedVariables false
attribute [local simp] frOf dstsOf frGo predsHold allHold Region.binds slotOf seen Is Act.put
end Go.Proofs.YthggliknnmhbdaaGreat
/- The document's disk: Sync, Crash, Sure. No conditions beyond what each states. -/
namespace Go.Proofs.YthggliknnmhbdaaGreat
set_option maxRecDepth 100000
open Go.RowKit
set_option linter.unusedVariables false
end Go.Proofs.YthggliknnmhbdaaGreat
/- The document's disk: Crash, Sure, Read. No conditions beyond what each states. -/
namespace Go.Proofs.YthggliknnmhbdaaGreat
set_option maxRecDepth 100000
open Go.RowKit
set_option linter.unusedVariables false
end Go.Proofs.YthggliknnmhbdaaGreat
/- The document's disk: Write. No conditions beyond what it states. -/
namespace Go.Proofs.YthggliknnmhbdaaGreat
set_option maxRecDepth 100000
open Go.RowKit
set_option linter.unusedVariables false
attribute [local simp] frOf dstsOf frGo predsHold allHold Region.binds slotOf seen Is Act.put
end Go.Proofs.YthggliknnmhbdaaGreat
/- The document's disk: New. No conditions beyond what it states. -/
namespace Go.Proofs.YthggliknnmhbdaaGreat
set_option maxRecDepth 100000
open Go.RowKit
set_option linter.unusedVariables false
attribute [local simp] frOf dstsOf frGo predsHold allHold Region.binds slotOf seen Is Act.put
end Go.Proofs.YthggliknnmhbdaaGreat
