/- A part of the proof that the statement holds. Conditions: none. -/
import Derived.Test.YtlbdbpaelcnfgaaGreatDoorAC
namespace Go.Sx
open Go.Proofs
set_option maxRecDepth 100000
set_option maxHeartbeats 0
set_option linter.all false
noncomputable def ayZ:b9 21 88:=.k Tryz.func21 Tryz.ntmps21 (bd (bd (bd (dw (bd (a' (gW (bd (bd (dw (a' (bd (bd (bd (bd (ns [2,38,74,110,146,182,218,254,290,326,362,398,434,470,506,542,578,614,650,686,725,761,794,833])))))) (by cbv))))))) (by cbv)))))
noncomputable def ay3:b9 22 112:=.k Tryz.func22 Tryz.ntmps22 (bd (bd (bd (bd (bd (dw (bd (a' (gW (bd (bd (dw (a' (by cbv)) (by cbv))))))) (bd (dw (bd (a' (gW (bd (bd (dw (a' (bd (bd (bd (tg (bd (bd (by cbv))) (by cbv)))))) (by cbv))))))) (by cbv)))))))))
noncomputable def Ps:b9 27 143:=.k Tryz.func27 Tryz.ntmps27 (bd (bd (bd (bd (dw (ns [2,38,74,110,182,151,290,326,362,223,259,401,434,470,506,545,0,401,257,434,470,506,545,0,401,221,257,434,470,506,545,0,221,151,290,326,362,259,401,434,470,506,545,0,401,257,434,470,506,545,0,257,149,290,326,362,401,434,470,506,545]) (dw (bd (a' (gW (bd (bd (dw (a' (bd (bd (by cbv)))) (by cbv))))))) (dw (bd (a' (gW (bd (bd (dw (a' (bd (bd (bd (bd (bd (bd (ns [3,39,74,110,146,182,218,327,363,399,435,471,259,295,509,545,578,614,653,686,722,761,0,509,293,545,578,614,653,686,722,761,0,509,257,293,545,578,614,653,686,722,761])))))))) (by cbv))))))) (by cbv))))))))
noncomputable def azR:b9 71 65:=.k Tryz.func71 Tryz.ntmps71 (bd (dw (bd (by cbv)) (dw (bd (a' (gW (bd (bd (dw (a' (bd (dw (ns [2,38,74,110,146,182,218,254,290,326,362,398,434,470,506,542,578,614,650,686,722,758,794,830,866,902,938,974,1010,1046,1082,1118]) (by cbv)))) (by cbv))))))) (by cbv))))
noncomputable def ayF:b9 179 38:=.k Tryz.func179 Tryz.ntmps179 (bd (bd (dw (bd (a' (gW (bd (bd (dw (a' (bd (ns [2,38,74,110,146,182,218,254,290,326,362,398,434,470,506,542,578,614,650,686,722,761,797,833]))) (by cbv))))))) (by cbv))))
end Go.Sx
