/- A part of the proof that the statement holds. Conditions: none. -/
import Derived.Test.YtlbdbpaelcnfgaaGreatDoorAC
namespace Go.Sx
open Go.Proofs
set_option maxRecDepth 100000
set_option maxHeartbeats 0
set_option linter.all false
noncomputable def afC:b9 10 41:=.k Tryz.func10 Tryz.ntmps10
noncomputable def ayC:b9 16 41:=.k Tryz.func16 Tryz.ntmps16
noncomputable def aza:b9 25 69:=.k Tryz.func25 Tryz.ntmps25
noncomputable def azp:b9 32 27:=.k Tryz.func32 Tryz.ntmps32
noncomputable def azs:b9 37 5:=.k Tryz.func37 Tryz.ntmps37
noncomputable def azw:b9 46 87:=.k Tryz.func46 Tryz.ntmps46
noncomputable def azA:b9 50 129:=.k Tryz.func50 Tryz.ntmps50
noncomputable def azF:b9 56 41:=.k Tryz.func56 Tryz.ntmps56
noncomputable def azI:b9 60 20:=.k Tryz.func60 Tryz.ntmps60
noncomputable def azM:b9 66 5:=.k Tryz.func66 Tryz.ntmps66
noncomputable def azS:b9 74 21:=.k Tryz.func74 Tryz.ntmps74
noncomputable def azW:b9 78 28:=.k Tryz.func78 Tryz.ntmps78
noncomputable def VG:b9 83 97:=.k Tryz.func83 Tryz.ntmps83
noncomputable def az6:b9 91 37:=.k Tryz.func91 Tryz.ntmps91
noncomputable def axY:b9 105 20:=.k Tryz.func105 Tryz.ntmps105
noncomputable def ax2:b9 109 44:=.k Tryz.func109 Tryz.ntmps109
noncomputable def ax8:b9 116 12:=.k Tryz.func116 Tryz.ntmps116
noncomputable def ayc:b9 120 25:=.k Tryz.func120 Tryz.ntmps120
noncomputable def ayf:b9 126 30:=.k Tryz.func126 Tryz.ntmps126
noncomputable def ayk:b9 130 14:=.k Tryz.func130 Tryz.ntmps130
noncomputable def afE:b9 134 57:=.k Tryz.func134 Tryz.ntmps134
noncomputable def ayq:b9 140 12:=.k Tryz.func140 Tryz.ntmps140
noncomputable def afG:b9 146 48:=.k Tryz.func146 Tryz.ntmps146
noncomputable def afH:b9 150 10:=.k Tryz.func150 Tryz.ntmps150
noncomputable def afI:b9 155 7:=.k Tryz.func155 Tryz.ntmps155
noncomputable def ayD:b9 162 62:=.k Tryz.func162 Tryz.ntmps162
noncomputable def afM:b9 166 28:=.k Tryz.func166 Tryz.ntmps166
noncomputable def ayL:b9 185 20:=.k Tryz.func185 Tryz.ntmps185
noncomputable def ayP:b9 189 24:=.k Tryz.func189 Tryz.ntmps189
noncomputable def ayS:b9 193 9:=.k Tryz.func193 Tryz.ntmps193
noncomputable def ayW:b9 203 28:=.k Tryz.func203 Tryz.ntmps203
noncomputable def ay2:b9 217 9:=.k Tryz.func217 Tryz.ntmps217
noncomputable def azb:b9 250 13:=.k Tryz.func250 Tryz.ntmps250
end Go.Sx
