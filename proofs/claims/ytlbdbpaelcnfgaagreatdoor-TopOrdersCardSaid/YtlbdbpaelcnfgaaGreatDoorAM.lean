/- A part of the proof that the statement holds. Conditions: none. -/
import Derived.Test.YtlbdbpaelcnfgaaGreatDoorAC
namespace Go.Sx
open Go.Proofs
set_option maxRecDepth 100000
set_option maxHeartbeats 0
set_option linter.all false
noncomputable def aw9:b5 21 88:=.k Tryz.func21 Tryz.ntmps21 (bo (bo (bo (d9 (bo (bx (hM (bo (bo (d9 (bx (bo (bo (bo (bo (sM [2,38,74,110,146,182,218,254,290,326,362,398,434,470,506,542,578,614,650,686,725,761,794,833])))))) (by cbv))))))) (by cbv)))))
noncomputable def axc:b5 22 112:=.k Tryz.func22 Tryz.ntmps22 (bo (bo (bo (bo (bo (d9 (bo (bx (hM (bo (bo (d9 (bx (by cbv)) (by cbv))))))) (bo (d9 (bo (bx (hM (bo (bo (d9 (bx (bo (bo (bo (DG (bo (bo (by cbv))) (by cbv)))))) (by cbv))))))) (by cbv)))))))))
noncomputable def NW:b5 27 143:=.k Tryz.func27 Tryz.ntmps27 (bo (bo (bo (bo (d9 (sM [2,38,74,110,182,151,290,326,362,223,259,401,434,470,506,545,0,401,257,434,470,506,545,0,401,221,257,434,470,506,545,0,221,151,290,326,362,259,401,434,470,506,545,0,401,257,434,470,506,545,0,257,149,290,326,362,401,434,470,506,545]) (d9 (bo (bx (hM (bo (bo (d9 (bx (bo (bo (by cbv)))) (by cbv))))))) (d9 (bo (bx (hM (bo (bo (d9 (bx (bo (bo (bo (bo (bo (bo (sM [3,39,74,110,146,182,218,327,363,399,435,471,259,295,509,545,578,614,653,686,722,761,0,509,293,545,578,614,653,686,722,761,0,509,257,293,545,578,614,653,686,722,761])))))))) (by cbv))))))) (by cbv))))))))
noncomputable def ax0:b5 71 65:=.k Tryz.func71 Tryz.ntmps71 (bo (d9 (bo (by cbv)) (d9 (bo (bx (hM (bo (bo (d9 (bx (bo (d9 (sM [2,38,74,110,146,182,218,254,290,326,362,398,434,470,506,542,578,614,650,686,722,758,794,830,866,902,938,974,1010,1046,1082,1118]) (by cbv)))) (by cbv))))))) (by cbv))))
noncomputable def awR:b5 179 38:=.k Tryz.func179 Tryz.ntmps179 (bo (bo (d9 (bo (bx (hM (bo (bo (d9 (bx (bo (sM [2,38,74,110,146,182,218,254,290,326,362,398,434,470,506,542,578,614,650,686,722,761,797,833]))) (by cbv))))))) (by cbv))))
end Go.Sx
