/- A part of the proof that the statement holds. Conditions: none. -/
import Derived.Test.YtlbdbpaelcnfgaaGreatDoorAC
namespace Go.Sx
open Go.Proofs
set_option maxRecDepth 100000
set_option maxHeartbeats 0
set_option linter.all false
noncomputable def LI:b9 5 93:=.k Tryz.func5 Tryz.ntmps5 (bd (bd (bd (bd (bd (bd (bd (dw (bd (a' (gW (bd (dw (a' (bd (by cbv))) (by cbv)))))) (bd (dw (bd (by cbv)) (dw (ns [2,38,74,110,146,182,218,254,290,326,362,398,506,542,578,437,470,614,650,686,725,758,797]) (by cbv))))))))))))
noncomputable def VE:b9 26 112:=.k Tryz.func26 Tryz.ntmps26 (bd (bd (bd (bd (bd (bd (bd (bd (bd (dw (bd (a' (gW (bd (bd (dw (a' (bd (by cbv))) (by cbv))))))) (dw (bd (a' (gW (bd (bd (dw (a' (bd (by cbv))) (by cbv))))))) (by cbv))))))))))))
noncomputable def azE:b9 55 95:=.k Tryz.func55 Tryz.ntmps55 (bd (bd (dw (bd (a' (gW (bd (bd (dw (a' (bd (bd (dw (bd (a' (gW (bd (bd (dw (a' (bd (by cbv))) (by cbv))))))) (dw (bd (a' (gW (bd (bd (dw (a' (bd (by cbv))) (by cbv))))))) (by cbv)))))) (by cbv))))))) (by cbv))))
noncomputable def az0:b9 82 71:=.k Tryz.func82 Tryz.ntmps82 (bd (a' (bd (qc (bd (qc (dw (ns [3,38,74,110,146,182,218,254,290,326,362,398,434,470,506,542,578,617,650,686,725]) (ns [2,38,74,110,146,182,218,254,290,326,362,398,434,470,506,542,578,614,650,686,725]))))))))
noncomputable def afT:b9 84 66:=.k Tryz.func84 Tryz.ntmps84 (bd (bd (dw (dw (ns [2,38,74,110,146,182,218,254,290,326,362,398,434,470,506,542,578,614,650,686,722,758,794]) (by cbv)) (bd (by cbv)))))
end Go.Sx
