/- A part of the proof that the statement holds. Conditions: none. -/
import Derived.Test.YtlbdbpaelcnfgaaGreatDoorAC
namespace Go.Sx
open Go.Proofs
set_option maxRecDepth 100000
set_option maxHeartbeats 0
set_option linter.all false
noncomputable def Ka:b5 5 93:=.k Tryz.func5 Tryz.ntmps5 (bo (bo (bo (bo (bo (bo (bo (d9 (bo (bx (hM (bo (d9 (bx (bo (by cbv))) (by cbv)))))) (bo (d9 (bo (by cbv)) (d9 (sM [2,38,74,110,146,182,218,254,290,326,362,398,506,542,578,437,470,614,650,686,725,758,797]) (by cbv))))))))))))
noncomputable def TY:b5 26 112:=.k Tryz.func26 Tryz.ntmps26 (bo (bo (bo (bo (bo (bo (bo (bo (bo (d9 (bo (bx (hM (bo (bo (d9 (bx (bo (by cbv))) (by cbv))))))) (d9 (bo (bx (hM (bo (bo (d9 (bx (bo (by cbv))) (by cbv))))))) (by cbv))))))))))))
noncomputable def axN:b5 55 95:=.k Tryz.func55 Tryz.ntmps55 (bo (bo (d9 (bo (bx (hM (bo (bo (d9 (bx (bo (bo (d9 (bo (bx (hM (bo (bo (d9 (bx (bo (by cbv))) (by cbv))))))) (d9 (bo (bx (hM (bo (bo (d9 (bx (bo (by cbv))) (by cbv))))))) (by cbv)))))) (by cbv))))))) (by cbv))))
noncomputable def ax9:b5 82 71:=.k Tryz.func82 Tryz.ntmps82 (bo (bx (bo (se (bo (se (d9 (sM [3,38,74,110,146,182,218,254,290,326,362,398,434,470,506,542,578,617,650,686,725]) (sM [2,38,74,110,146,182,218,254,290,326,362,398,434,470,506,542,578,614,650,686,725]))))))))
noncomputable def aep:b5 84 66:=.k Tryz.func84 Tryz.ntmps84 (bo (bo (d9 (d9 (sM [2,38,74,110,146,182,218,254,290,326,362,398,434,470,506,542,578,614,650,686,722,758,794]) (by cbv)) (bo (by cbv)))))
end Go.Sx
