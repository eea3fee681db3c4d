/- A part of the proof that the statement holds. Conditions: none. -/
import Derived.Test.YtlbdbpaelcnfgaaGreatDoorAC
namespace Go.Sx
open Go.Proofs
set_option maxRecDepth 100000
set_option maxHeartbeats 0
set_option linter.all false
noncomputable def ayb:b5 9 40:=.k Tryz.func9 Tryz.ntmps9
noncomputable def TZ:b5 30 77:=.k Tryz.func30 Tryz.ntmps30
noncomputable def axE:b5 45 189:=.k Tryz.func45 Tryz.ntmps45
noncomputable def axI:b5 49 40:=.k Tryz.func49 Tryz.ntmps49
noncomputable def axL:b5 53 40:=.k Tryz.func53 Tryz.ntmps53
noncomputable def axQ:b5 59 17:=.k Tryz.func59 Tryz.ntmps59
noncomputable def axU:b5 65 21:=.k Tryz.func65 Tryz.ntmps65
noncomputable def axZ:b5 70 30:=.k Tryz.func70 Tryz.ntmps70
noncomputable def ax4:b5 77 33:=.k Tryz.func77 Tryz.ntmps77
noncomputable def aeo:b5 81 56:=.k Tryz.func81 Tryz.ntmps81
noncomputable def ayc:b5 90 24:=.k Tryz.func90 Tryz.ntmps90
noncomputable def av9:b5 104 6:=.k Tryz.func104 Tryz.ntmps104
noncomputable def awc:b5 108 46:=.k Tryz.func108 Tryz.ntmps108
noncomputable def awi:b5 115 12:=.k Tryz.func115 Tryz.ntmps115
noncomputable def awq:b5 123 6:=.k Tryz.func123 Tryz.ntmps123
noncomputable def awu:b5 129 29:=.k Tryz.func129 Tryz.ntmps129
noncomputable def ad':b5 133 13:=.k Tryz.func133 Tryz.ntmps133
noncomputable def awA:b5 139 63:=.k Tryz.func139 Tryz.ntmps139
noncomputable def awF:b5 145 55:=.k Tryz.func145 Tryz.ntmps145
noncomputable def awI:b5 149 40:=.k Tryz.func149 Tryz.ntmps149
noncomputable def awL:b5 154 15:=.k Tryz.func154 Tryz.ntmps154
noncomputable def awN:b5 158 11:=.k Tryz.func158 Tryz.ntmps158
noncomputable def aeh:b5 165 62:=.k Tryz.func165 Tryz.ntmps165
noncomputable def awU:b5 184 20:=.k Tryz.func184 Tryz.ntmps184
noncomputable def awY:b5 188 12:=.k Tryz.func188 Tryz.ntmps188
noncomputable def aw1:b5 192 62:=.k Tryz.func192 Tryz.ntmps192
noncomputable def aw5:b5 202 9:=.k Tryz.func202 Tryz.ntmps202
noncomputable def axa:b5 216 13:=.k Tryz.func216 Tryz.ntmps216
noncomputable def axj:b5 249 24:=.k Tryz.func249 Tryz.ntmps249
end Go.Sx
