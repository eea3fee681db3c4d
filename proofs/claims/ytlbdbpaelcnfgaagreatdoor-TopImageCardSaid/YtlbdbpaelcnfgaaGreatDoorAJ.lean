/- A part of the proof that the statement holds. Conditions: none. -/
import Derived.Test.YtlbdbpaelcnfgaaGreatDoorAC
namespace Go.Sx
open Go.Proofs
set_option maxRecDepth 100000
set_option maxHeartbeats 0
set_option linter.all false
noncomputable def xE:b4 72 194:=.k Tryz.func72 Tryz.ntmps72 (Fr (Fr (Fr (aDw (Fr (dh (wD (Fr (Fr (aDw (dh (Fr (Fr (Fr (aDw (Fr (dh (wD (Fr (by cbv))))) (Fr (dh (wD (Fr (by cbv)))))))))) (by cbv))))))) (Fr (aDw (Fr (dh (wD (Fr (Fr (aDw (dh (Fr (Fr (by cbv)))) (by cbv))))))) (aDw (Fr (dh (wD (Fr (Fr (aDw (dh (Fr (by cbv))) (by cbv))))))) (aDw (Fr (dh (wD (Fr (Fr (aDw (dh (Fr (by cbv))) (by cbv))))))) (aDw (Fr (dh (wD (Fr (Fr (aDw (dh (Fr (Fr (by cbv)))) (by cbv))))))) (by cbv))))))))))
noncomputable def aa2:b4 73 57:=.k Tryz.func73 Tryz.ntmps73 (Fr (dh (wD (Fr (Fr (aDw (dh (Fr (Fr (aDw (Fr (Kn (by cbv))) (aDw (Fr (Kn (by cbv))) (by cbv)))))) (by cbv)))))))
noncomputable def aqP:b4 102 80:=.k Tryz.func102 Tryz.ntmps102 (Fr (Fr (aDw (Fr (by cbv)) (aDw (Fr (by cbv)) (aDw (Fr (by cbv)) (aDw (Fr (by cbv)) (aDw (Fr (by cbv)) (by cbv))))))))
noncomputable def aqZ:b4 112 30:=.k Tryz.func112 Tryz.ntmps112 (Fr (Fr (aEN (aDw (aD6 [2,38,110,182,254,290,79,151,223,329,362,401,434,473,0,329,221,362,401,434,473,0,223,151,329,362,401,434,473,0,329,362,151,401,434,473,0,401,149,434,473,0,329,151,221,362,401,434,473,0,221,362,151,401,434,473,0,401,149,434,473,0,151,79,223,329,362,401,434,473,0,329,221,362,401,434,473,0,223,79,329,362,401,434,473,0,329,77,362,401,434,473,0,329,79,221,362,401,434,473,0,221,77,362,401,434,473,0,223,79,151,329,362,401,434,473,0,329,362,151,401,434,473,0,401,149,434,473,0,151,79,329,362,401,434,473,0,329,77,362,401,434,473,0,329,79,362,151,401,434,473,0,401,149,434,473,0,149,77,362,401,434,473,0,329,79,151,221,362,401,434,473,0,221,362,151,401,434,473,0,401,149,434,473,0,151,79,221,362,401,434,473,0,221,77,362,401,434,473,0,221,79,362,151,401,434,473,0,401,149,434,473,0,149,77,362,401,434,473]) (by cbv)) (by cbv))))
end Go.Sx
