/- A part of the proof that the statement holds. Conditions: none. -/
import Derived.Test.YtlbdbpaelcnfgaaGreatDoorAC
namespace Go.Sx
open Go.Proofs
set_option maxRecDepth 100000
set_option maxHeartbeats 0
set_option linter.all false
noncomputable def ax':b5 85 52:=.k Tryz.func85 Tryz.ntmps85 (bo (d9 (bo (by cbv)) (d9 (sM [3,39,75,111,147,183,219,254,290,326,362,398,434,470,506,542,578,614,650,686,722,758,794,833,866,905]) (by cbv))))
noncomputable def awf:b5 111 53:=.k Tryz.func111 Tryz.ntmps111 (bo (bo (bo (bo (d9 (bo (bx (hM (bo (bo (d9 (bx (bo (bo (bo (by cbv))))) (by cbv))))))) (by cbv))))))
noncomputable def aej:b5 167 53:=.k Tryz.func167 Tryz.ntmps167 (bo (bx (hM (bo (d9 (bx (bo (bx (hM (d9 (bo (by cbv)) (d9 (bx (by cbv)) (by cbv))))))) (by cbv))))))
noncomputable def kw:b5 168 220:=.k Tryz.func168 Tryz.ntmps168 (d9 (bo (DG (bo (bo (d9 (bx (hM (bo (bx (bo (bo (by cbv))))))) (d9 (bo (bx (hM (bo (d9 (bx (by cbv)) (by cbv)))))) (by cbv))))) (by cbv))) (d9 (bo (DG (bo (bo (d9 (bx (hM (bo (bx (bo (bo (by cbv))))))) (d9 (bo (bx (hM (bo (d9 (bx (by cbv)) (by cbv)))))) (by cbv))))) (by cbv))) (bo (bo (bo (bo (bo (d9 (bx (hM (bo (bx (bo (bo (by cbv))))))) (bo (bo (bo (by cbv))))))))))))
end Go.Sx
