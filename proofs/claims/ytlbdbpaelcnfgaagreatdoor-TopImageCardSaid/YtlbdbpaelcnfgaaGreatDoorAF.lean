/- A part of the proof that the statement holds. Conditions: none. -/
import Derived.Test.YtlbdbpaelcnfgaaGreatDoorAC
namespace Go.Sx
open Go.Proofs
set_option maxRecDepth 100000
set_option maxHeartbeats 0
set_option linter.all false
noncomputable def asM:b4 9 40:=.k Tryz.func9 Tryz.ntmps9
noncomputable def Rt:b4 30 77:=.k Tryz.func30 Tryz.ntmps30
noncomputable def ase:b4 45 189:=.k Tryz.func45 Tryz.ntmps45
noncomputable def asi:b4 49 40:=.k Tryz.func49 Tryz.ntmps49
noncomputable def asl:b4 53 40:=.k Tryz.func53 Tryz.ntmps53
noncomputable def asq:b4 59 17:=.k Tryz.func59 Tryz.ntmps59
noncomputable def asu:b4 65 21:=.k Tryz.func65 Tryz.ntmps65
noncomputable def asz:b4 70 30:=.k Tryz.func70 Tryz.ntmps70
noncomputable def asE:b4 77 33:=.k Tryz.func77 Tryz.ntmps77
noncomputable def aa3:b4 81 56:=.k Tryz.func81 Tryz.ntmps81
noncomputable def asN:b4 90 24:=.k Tryz.func90 Tryz.ntmps90
noncomputable def aqR:b4 104 6:=.k Tryz.func104 Tryz.ntmps104
noncomputable def aqV:b4 108 46:=.k Tryz.func108 Tryz.ntmps108
noncomputable def aq1:b4 115 12:=.k Tryz.func115 Tryz.ntmps115
noncomputable def aq8:b4 123 6:=.k Tryz.func123 Tryz.ntmps123
noncomputable def arb:b4 129 29:=.k Tryz.func129 Tryz.ntmps129
noncomputable def aaQ:b4 133 13:=.k Tryz.func133 Tryz.ntmps133
noncomputable def ari:b4 139 63:=.k Tryz.func139 Tryz.ntmps139
noncomputable def arn:b4 145 55:=.k Tryz.func145 Tryz.ntmps145
noncomputable def arq:b4 149 40:=.k Tryz.func149 Tryz.ntmps149
noncomputable def arv:b4 154 15:=.k Tryz.func154 Tryz.ntmps154
noncomputable def arx:b4 158 11:=.k Tryz.func158 Tryz.ntmps158
noncomputable def aaX:b4 165 62:=.k Tryz.func165 Tryz.ntmps165
noncomputable def arF:b4 184 20:=.k Tryz.func184 Tryz.ntmps184
noncomputable def arJ:b4 188 12:=.k Tryz.func188 Tryz.ntmps188
noncomputable def arN:b4 192 62:=.k Tryz.func192 Tryz.ntmps192
noncomputable def arR:b4 202 9:=.k Tryz.func202 Tryz.ntmps202
noncomputable def arX:b4 216 13:=.k Tryz.func216 Tryz.ntmps216
noncomputable def ar3:b4 249 24:=.k Tryz.func249 Tryz.ntmps249
end Go.Sx
