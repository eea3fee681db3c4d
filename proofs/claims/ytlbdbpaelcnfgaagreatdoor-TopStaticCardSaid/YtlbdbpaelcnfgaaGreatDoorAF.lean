/- A part of the proof that the statement holds. Conditions: none. -/
import Derived.Test.YtlbdbpaelcnfgaaGreatDoorAC
namespace Go.Sx
open Go.Proofs
set_option maxRecDepth 100000
set_option maxHeartbeats 0
set_option linter.all false
noncomputable def az4:b9 9 40:=.k Tryz.func9 Tryz.ntmps9
noncomputable def VF:b9 30 77:=.k Tryz.func30 Tryz.ntmps30
noncomputable def azv:b9 45 189:=.k Tryz.func45 Tryz.ntmps45
noncomputable def azz:b9 49 40:=.k Tryz.func49 Tryz.ntmps49
noncomputable def azC:b9 53 40:=.k Tryz.func53 Tryz.ntmps53
noncomputable def azH:b9 59 17:=.k Tryz.func59 Tryz.ntmps59
noncomputable def azL:b9 65 21:=.k Tryz.func65 Tryz.ntmps65
noncomputable def azQ:b9 70 30:=.k Tryz.func70 Tryz.ntmps70
noncomputable def azV:b9 77 33:=.k Tryz.func77 Tryz.ntmps77
noncomputable def afS:b9 81 56:=.k Tryz.func81 Tryz.ntmps81
noncomputable def az5:b9 90 24:=.k Tryz.func90 Tryz.ntmps90
noncomputable def axX:b9 104 6:=.k Tryz.func104 Tryz.ntmps104
noncomputable def ax1:b9 108 46:=.k Tryz.func108 Tryz.ntmps108
noncomputable def ax7:b9 115 12:=.k Tryz.func115 Tryz.ntmps115
noncomputable def aye:b9 123 6:=.k Tryz.func123 Tryz.ntmps123
noncomputable def ayi:b9 129 29:=.k Tryz.func129 Tryz.ntmps129
noncomputable def afD:b9 133 13:=.k Tryz.func133 Tryz.ntmps133
noncomputable def ayp:b9 139 63:=.k Tryz.func139 Tryz.ntmps139
noncomputable def ayt:b9 145 55:=.k Tryz.func145 Tryz.ntmps145
noncomputable def ayw:b9 149 40:=.k Tryz.func149 Tryz.ntmps149
noncomputable def ayz:b9 154 15:=.k Tryz.func154 Tryz.ntmps154
noncomputable def ayB:b9 158 11:=.k Tryz.func158 Tryz.ntmps158
noncomputable def afL:b9 165 62:=.k Tryz.func165 Tryz.ntmps165
noncomputable def ayK:b9 184 20:=.k Tryz.func184 Tryz.ntmps184
noncomputable def ayO:b9 188 12:=.k Tryz.func188 Tryz.ntmps188
noncomputable def ayR:b9 192 62:=.k Tryz.func192 Tryz.ntmps192
noncomputable def ayV:b9 202 9:=.k Tryz.func202 Tryz.ntmps202
noncomputable def ay1:b9 216 13:=.k Tryz.func216 Tryz.ntmps216
noncomputable def ay':b9 249 24:=.k Tryz.func249 Tryz.ntmps249
end Go.Sx
