/- A part of the proof that the statement holds. Conditions: none. -/
import Derived.Test.YtlbdbpaelcnfgaaGreatDoorAC
namespace Go.Sx
open Go.Proofs
set_option maxRecDepth 100000
set_option maxHeartbeats 0
set_option linter.all false
noncomputable def aFJ:b4 43 70:=.k Tryz.func43 Tryz.ntmps43 (Fr (Fr (aDw (Fr (dh (wD (Fr (Fr (aDw (dh (by cbv)) (by cbv))))))) (aDw (Fr (dh (wD (Fr (Fr (aDw (dh (Fr (by cbv))) (by cbv))))))) (aDw (Fr (dh (wD (Fr (Fr (aDw (dh (by cbv)) (by cbv))))))) (by cbv))))))
end Go.Sx
