/- A part of the proof that the statement holds. Conditions: none. -/
import Derived.Test.YtlbdbpaelcnfgaaGreatDoorAC
namespace Go.Sx
open Go.Proofs
set_option maxRecDepth 100000
set_option maxHeartbeats 0
set_option linter.all false
noncomputable def Fj:b4 5 93:=.k Tryz.func5 Tryz.ntmps5 (Fr (Fr (Fr (Fr (Fr (Fr (Fr (aDw (Fr (dh (wD (Fr (aDw (dh (Fr (by cbv))) (by cbv)))))) (Fr (aDw (Fr (by cbv)) (aDw (aD6 [2,38,74,110,146,182,218,254,290,326,362,398,506,542,578,437,470,614,650,686,725,758,797]) (by cbv))))))))))))
noncomputable def Rr:b4 26 112:=.k Tryz.func26 Tryz.ntmps26 (Fr (Fr (Fr (Fr (Fr (Fr (Fr (Fr (Fr (aDw (Fr (dh (wD (Fr (Fr (aDw (dh (Fr (by cbv))) (by cbv))))))) (aDw (Fr (dh (wD (Fr (Fr (aDw (dh (Fr (by cbv))) (by cbv))))))) (by cbv))))))))))))
noncomputable def asn:b4 55 95:=.k Tryz.func55 Tryz.ntmps55 (Fr (Fr (aDw (Fr (dh (wD (Fr (Fr (aDw (dh (Fr (Fr (aDw (Fr (dh (wD (Fr (Fr (aDw (dh (Fr (by cbv))) (by cbv))))))) (aDw (Fr (dh (wD (Fr (Fr (aDw (dh (Fr (by cbv))) (by cbv))))))) (by cbv)))))) (by cbv))))))) (by cbv))))
noncomputable def asJ:b4 82 71:=.k Tryz.func82 Tryz.ntmps82 (Fr (dh (Fr (Kn (Fr (Kn (aDw (aD6 [3,38,74,110,146,182,218,254,290,326,362,398,434,470,506,542,578,617,650,686,725]) (aD6 [2,38,74,110,146,182,218,254,290,326,362,398,434,470,506,542,578,614,650,686,725]))))))))
noncomputable def aa4:b4 84 66:=.k Tryz.func84 Tryz.ntmps84 (Fr (Fr (aDw (aDw (aD6 [2,38,74,110,146,182,218,254,290,326,362,398,434,470,506,542,578,614,650,686,722,758,794]) (by cbv)) (Fr (by cbv)))))
end Go.Sx
