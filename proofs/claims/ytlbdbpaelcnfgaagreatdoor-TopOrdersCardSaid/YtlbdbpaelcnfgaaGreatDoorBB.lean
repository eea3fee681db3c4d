/- A part of the proof that the statement holds. Conditions: none. -/
import Derived.Test.YtlbdbpaelcnfgaaGreatDoorAC
namespace Go.Sx
open Go.Proofs
set_option maxRecDepth 100000
set_option maxHeartbeats 0
set_option linter.all false
noncomputable def J':b5 4 123:=.k Tryz.func4 Tryz.ntmps4
noncomputable def awB:b5 14 27:=.k Tryz.func14 Tryz.ntmps14
end Go.Sx
