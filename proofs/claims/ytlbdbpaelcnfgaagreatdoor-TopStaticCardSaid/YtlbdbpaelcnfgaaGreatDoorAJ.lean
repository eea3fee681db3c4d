/- A part of the proof that the statement holds. Conditions: none. -/
import Derived.Test.YtlbdbpaelcnfgaaGreatDoorAC
namespace Go.Sx
open Go.Proofs
set_option maxRecDepth 100000
set_option maxHeartbeats 0
set_option linter.all false
noncomputable def zY:b9 72 194:=.k Tryz.func72 Tryz.ntmps72 (bd (bd (bd (dw (bd (a' (gW (bd (bd (dw (a' (bd (bd (bd (dw (bd (a' (gW (bd (by cbv))))) (bd (a' (gW (bd (by cbv)))))))))) (by cbv))))))) (bd (dw (bd (a' (gW (bd (bd (dw (a' (bd (bd (by cbv)))) (by cbv))))))) (dw (bd (a' (gW (bd (bd (dw (a' (bd (by cbv))) (by cbv))))))) (dw (bd (a' (gW (bd (bd (dw (a' (bd (by cbv))) (by cbv))))))) (dw (bd (a' (gW (bd (bd (dw (a' (bd (bd (by cbv)))) (by cbv))))))) (by cbv))))))))))
noncomputable def afR:b9 73 57:=.k Tryz.func73 Tryz.ntmps73 (bd (a' (gW (bd (bd (dw (a' (bd (bd (dw (bd (qc (by cbv))) (dw (bd (qc (by cbv))) (by cbv)))))) (by cbv)))))))
noncomputable def axV:b9 102 80:=.k Tryz.func102 Tryz.ntmps102 (bd (bd (dw (bd (by cbv)) (dw (bd (by cbv)) (dw (bd (by cbv)) (dw (bd (by cbv)) (dw (bd (by cbv)) (by cbv))))))))
noncomputable def ax5:b9 112 30:=.k Tryz.func112 Tryz.ntmps112 (bd (bd (tg (dw (ns [2,38,110,182,254,290,79,151,223,329,362,401,434,473,0,329,221,362,401,434,473,0,223,151,329,362,401,434,473,0,329,362,151,401,434,473,0,401,149,434,473,0,329,151,221,362,401,434,473,0,221,362,151,401,434,473,0,401,149,434,473,0,151,79,223,329,362,401,434,473,0,329,221,362,401,434,473,0,223,79,329,362,401,434,473,0,329,77,362,401,434,473,0,329,79,221,362,401,434,473,0,221,77,362,401,434,473,0,223,79,151,329,362,401,434,473,0,329,362,151,401,434,473,0,401,149,434,473,0,151,79,329,362,401,434,473,0,329,77,362,401,434,473,0,329,79,362,151,401,434,473,0,401,149,434,473,0,149,77,362,401,434,473,0,329,79,151,221,362,401,434,473,0,221,362,151,401,434,473,0,401,149,434,473,0,151,79,221,362,401,434,473,0,221,77,362,401,434,473,0,221,79,362,151,401,434,473,0,401,149,434,473,0,149,77,362,401,434,473]) (by cbv)) (by cbv))))
end Go.Sx
