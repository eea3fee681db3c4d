/- A part of the proof that the statement holds. Conditions: none. -/
import Derived.Test.YtlbdbpaelcnfgaaGreatDoorAC
namespace Go.Sx
open Go.Proofs
set_option maxRecDepth 100000
set_option maxHeartbeats 0
set_option linter.all false
noncomputable def y1:b5 72 194:=.k Tryz.func72 Tryz.ntmps72 (bo (bo (bo (d9 (bo (bx (hM (bo (bo (d9 (bx (bo (bo (bo (d9 (bo (bx (hM (bo (by cbv))))) (bo (bx (hM (bo (by cbv)))))))))) (by cbv))))))) (bo (d9 (bo (bx (hM (bo (bo (d9 (bx (bo (bo (by cbv)))) (by cbv))))))) (d9 (bo (bx (hM (bo (bo (d9 (bx (bo (by cbv))) (by cbv))))))) (d9 (bo (bx (hM (bo (bo (d9 (bx (bo (by cbv))) (by cbv))))))) (d9 (bo (bx (hM (bo (bo (d9 (bx (bo (bo (by cbv)))) (by cbv))))))) (by cbv))))))))))
noncomputable def aen:b5 73 57:=.k Tryz.func73 Tryz.ntmps73 (bo (bx (hM (bo (bo (d9 (bx (bo (bo (d9 (bo (se (by cbv))) (d9 (bo (se (by cbv))) (by cbv)))))) (by cbv)))))))
noncomputable def av7:b5 102 80:=.k Tryz.func102 Tryz.ntmps102 (bo (bo (d9 (bo (by cbv)) (d9 (bo (by cbv)) (d9 (bo (by cbv)) (d9 (bo (by cbv)) (d9 (bo (by cbv)) (by cbv))))))))
noncomputable def awg:b5 112 30:=.k Tryz.func112 Tryz.ntmps112 (bo (bo (DG (d9 (sM [2,38,110,182,254,290,79,151,223,329,362,401,434,473,0,329,221,362,401,434,473,0,223,151,329,362,401,434,473,0,329,362,151,401,434,473,0,401,149,434,473,0,329,151,221,362,401,434,473,0,221,362,151,401,434,473,0,401,149,434,473,0,151,79,223,329,362,401,434,473,0,329,221,362,401,434,473,0,223,79,329,362,401,434,473,0,329,77,362,401,434,473,0,329,79,221,362,401,434,473,0,221,77,362,401,434,473,0,223,79,151,329,362,401,434,473,0,329,362,151,401,434,473,0,401,149,434,473,0,151,79,329,362,401,434,473,0,329,77,362,401,434,473,0,329,79,362,151,401,434,473,0,401,149,434,473,0,149,77,362,401,434,473,0,329,79,151,221,362,401,434,473,0,221,362,151,401,434,473,0,401,149,434,473,0,151,79,221,362,401,434,473,0,221,77,362,401,434,473,0,221,79,362,151,401,434,473,0,401,149,434,473,0,149,77,362,401,434,473]) (by cbv)) (by cbv))))
end Go.Sx
