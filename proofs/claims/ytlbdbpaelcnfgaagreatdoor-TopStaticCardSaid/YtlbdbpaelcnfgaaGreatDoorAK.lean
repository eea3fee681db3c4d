/- A part of the proof that the statement holds. Conditions: none. -/
import Derived.Test.YtlbdbpaelcnfgaaGreatDoorAC
namespace Go.Sx
open Go.Proofs
set_option maxRecDepth 100000
set_option maxHeartbeats 0
set_option linter.all false
noncomputable def az1:b9 85 52:=.k Tryz.func85 Tryz.ntmps85 (bd (dw (bd (by cbv)) (dw (ns [3,39,75,111,147,183,219,254,290,326,362,398,434,470,506,542,578,614,650,686,722,758,794,833,866,905]) (by cbv))))
noncomputable def ax4:b9 111 53:=.k Tryz.func111 Tryz.ntmps111 (bd (bd (bd (bd (dw (bd (a' (gW (bd (bd (dw (a' (bd (bd (bd (by cbv))))) (by cbv))))))) (by cbv))))))
noncomputable def afN:b9 167 53:=.k Tryz.func167 Tryz.ntmps167 (bd (a' (gW (bd (dw (a' (bd (a' (gW (dw (bd (by cbv)) (dw (a' (by cbv)) (by cbv))))))) (by cbv))))))
noncomputable def ln:b9 168 220:=.k Tryz.func168 Tryz.ntmps168 (dw (bd (tg (bd (bd (dw (a' (gW (bd (a' (bd (bd (by cbv))))))) (dw (bd (a' (gW (bd (dw (a' (by cbv)) (by cbv)))))) (by cbv))))) (by cbv))) (dw (bd (tg (bd (bd (dw (a' (gW (bd (a' (bd (bd (by cbv))))))) (dw (bd (a' (gW (bd (dw (a' (by cbv)) (by cbv)))))) (by cbv))))) (by cbv))) (bd (bd (bd (bd (bd (dw (a' (gW (bd (a' (bd (bd (by cbv))))))) (bd (bd (bd (by cbv))))))))))))
end Go.Sx
