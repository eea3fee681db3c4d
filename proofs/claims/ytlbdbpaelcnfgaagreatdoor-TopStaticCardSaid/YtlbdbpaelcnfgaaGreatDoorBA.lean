/- A part of the proof that the statement holds. Conditions: none. -/
import Derived.Test.YtlbdbpaelcnfgaaGreatDoorAC
namespace Go.Sx
open Go.Proofs
set_option maxRecDepth 100000
set_option maxHeartbeats 0
set_option linter.all false
noncomputable def LH:b9 33 208:=.k Tryz.func33 Tryz.ntmps33 (bd (dw (ns [2,38,74,110,146,182,218,254,290,326,362,398,437,470,506,542,578,617,653,689]) (bd (dw (bd (a' (gW (bd (dw (a' (bd (tg (bd (bd (by cbv))) (by cbv)))) (by cbv)))))) (dw (bd (a' (gW (bd (dw (a' (bd (tg (bd (by cbv)) (by cbv)))) (by cbv)))))) (bd (dw (bd (by cbv)) (dw (bd (a' (gW (bd (dw (a' (bd (tg (ns [3,39,74,110,146,182,218,254,290,326,362,398,434,470,506,542,581,614,650,689]) (by cbv)))) (by cbv)))))) (dw (bd (a' (gW (bd (dw (a' (bd (tg (ns [3,39,74,110,146,182,218,254,290,326,362,398,434,470,506,545,578,617]) (by cbv)))) (by cbv)))))) (by cbv))))))))))
noncomputable def yC:b9 87 95:=.k Tryz.func87 Tryz.ntmps87 (bd (dw (bd (by cbv)) (bd (dw (bd (a' (bd (tg (dw (ns [38,74,110,5,149,185,221,257]) (by cbv)) (bd (qc (bd (tg (dw (ns [2,38,74,110,146,182,254,290,326,362,398,434,470,221,509,545,581,617]) (by cbv)) (bd (tg (dw (ns [2,38,74,110,146,182,218,290,326,362,398,434,470,257,509,545,581,617]) (by cbv)) (bd (qc (bd (qc (bd (tg (dw (ns [38,74,110,5,149,185,221,257]) (by cbv)) (bd (qc (bd (by cbv)))))))))))))))))))) (by cbv)))))
noncomputable def BY:b9 3 82:=.k Tryz.func3 Tryz.ntmps3 (bd (bd (bd (bd (bd (bd (bd (bd (bd (bd (bd (dw (bd (a' (gW (bd (dw (a' (dw (ns [2,38,110,146,182,218,77,257,290]) (by cbv))) (by cbv)))))) (by cbv)))))))))))))
noncomputable def LG:b9 11 128:=.k Tryz.func11 Tryz.ntmps11 (bd (bd (dw (bd (a' (gW (bd (by cbv))))) (bd (dw (bd (a' (gW (bd (by cbv))))) (bd (bd (dw (bd (a' (gW (bd (dw (a' (dw (ns [2,38,74,110,146,182,218,254,290,326,362,398,437,470,506,542,581,617]) (by cbv))) (by cbv)))))) (dw (bd (a' (gW (bd (dw (a' (bd (a' (gW (bd (dw (a' (dw (ns [2,38,74,110,146,182,218,254,290,326,362,398,434,470,506,569,581]) (by cbv))) (by cbv))))))) (by cbv)))))) (by cbv))))))))))
noncomputable def az3:b9 88 38:=.k Tryz.func88 Tryz.ntmps88
noncomputable def yB:b9 137 40:=.k Tryz.func137 Tryz.ntmps137
noncomputable def ayo:b9 138 17:=.k Tryz.func138 Tryz.ntmps138
noncomputable def ayG:b9 180 21:=.k Tryz.func180 Tryz.ntmps180
noncomputable def ayH:b9 181 38:=.k Tryz.func181 Tryz.ntmps181
end Go.Sx
