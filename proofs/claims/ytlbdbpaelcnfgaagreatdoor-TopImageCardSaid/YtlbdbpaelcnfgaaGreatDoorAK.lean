/- A part of the proof that the statement holds. Conditions: none. -/
import Derived.Test.YtlbdbpaelcnfgaaGreatDoorAC
namespace Go.Sx
open Go.Proofs
set_option maxRecDepth 100000
set_option maxHeartbeats 0
set_option linter.all false
noncomputable def asK:b4 85 52:=.k Tryz.func85 Tryz.ntmps85 (Fr (aDw (Fr (by cbv)) (aDw (aD6 [3,39,75,111,147,183,219,254,290,326,362,398,434,470,506,542,578,614,650,686,722,758,794,833,866,905]) (by cbv))))
noncomputable def aqY:b4 111 53:=.k Tryz.func111 Tryz.ntmps111 (Fr (Fr (Fr (Fr (aDw (Fr (dh (wD (Fr (Fr (aDw (dh (Fr (Fr (Fr (by cbv))))) (by cbv))))))) (by cbv))))))
noncomputable def aaZ:b4 167 53:=.k Tryz.func167 Tryz.ntmps167 (Fr (dh (wD (Fr (aDw (dh (Fr (dh (wD (aDw (Fr (by cbv)) (aDw (dh (by cbv)) (by cbv))))))) (by cbv))))))
noncomputable def j0:b4 168 220:=.k Tryz.func168 Tryz.ntmps168 (aDw (Fr (aEN (Fr (Fr (aDw (dh (wD (Fr (dh (Fr (Fr (by cbv))))))) (aDw (Fr (dh (wD (Fr (aDw (dh (by cbv)) (by cbv)))))) (by cbv))))) (by cbv))) (aDw (Fr (aEN (Fr (Fr (aDw (dh (wD (Fr (dh (Fr (Fr (by cbv))))))) (aDw (Fr (dh (wD (Fr (aDw (dh (by cbv)) (by cbv)))))) (by cbv))))) (by cbv))) (Fr (Fr (Fr (Fr (Fr (aDw (dh (wD (Fr (dh (Fr (Fr (by cbv))))))) (Fr (Fr (Fr (by cbv))))))))))))
end Go.Sx
