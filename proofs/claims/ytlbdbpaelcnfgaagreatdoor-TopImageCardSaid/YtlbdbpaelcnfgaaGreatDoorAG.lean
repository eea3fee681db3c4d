/- A part of the proof that the statement holds. Conditions: none. -/
import Derived.Test.YtlbdbpaelcnfgaaGreatDoorAC
namespace Go.Sx
open Go.Proofs
set_option maxRecDepth 100000
set_option maxHeartbeats 0
set_option linter.all false
noncomputable def aaO:b4 10 41:=.k Tryz.func10 Tryz.ntmps10
noncomputable def ary:b4 16 41:=.k Tryz.func16 Tryz.ntmps16
noncomputable def ar4:b4 25 69:=.k Tryz.func25 Tryz.ntmps25
noncomputable def ar8:b4 32 27:=.k Tryz.func32 Tryz.ntmps32
noncomputable def asb:b4 37 5:=.k Tryz.func37 Tryz.ntmps37
noncomputable def asf:b4 46 87:=.k Tryz.func46 Tryz.ntmps46
noncomputable def asj:b4 50 129:=.k Tryz.func50 Tryz.ntmps50
noncomputable def aso:b4 56 41:=.k Tryz.func56 Tryz.ntmps56
noncomputable def asr:b4 60 20:=.k Tryz.func60 Tryz.ntmps60
noncomputable def asv:b4 66 5:=.k Tryz.func66 Tryz.ntmps66
noncomputable def asB:b4 74 21:=.k Tryz.func74 Tryz.ntmps74
noncomputable def asF:b4 78 28:=.k Tryz.func78 Tryz.ntmps78
noncomputable def Ru:b4 83 97:=.k Tryz.func83 Tryz.ntmps83
noncomputable def asO:b4 91 37:=.k Tryz.func91 Tryz.ntmps91
noncomputable def aqS:b4 105 20:=.k Tryz.func105 Tryz.ntmps105
noncomputable def aqW:b4 109 44:=.k Tryz.func109 Tryz.ntmps109
noncomputable def aq2:b4 116 12:=.k Tryz.func116 Tryz.ntmps116
noncomputable def aq6:b4 120 25:=.k Tryz.func120 Tryz.ntmps120
noncomputable def aq9:b4 126 30:=.k Tryz.func126 Tryz.ntmps126
noncomputable def ard:b4 130 14:=.k Tryz.func130 Tryz.ntmps130
noncomputable def aaR:b4 134 57:=.k Tryz.func134 Tryz.ntmps134
noncomputable def arj:b4 140 12:=.k Tryz.func140 Tryz.ntmps140
noncomputable def aaT:b4 146 48:=.k Tryz.func146 Tryz.ntmps146
noncomputable def ars:b4 150 10:=.k Tryz.func150 Tryz.ntmps150
noncomputable def aaU:b4 155 7:=.k Tryz.func155 Tryz.ntmps155
noncomputable def arz:b4 162 62:=.k Tryz.func162 Tryz.ntmps162
noncomputable def aaY:b4 166 28:=.k Tryz.func166 Tryz.ntmps166
noncomputable def arG:b4 185 20:=.k Tryz.func185 Tryz.ntmps185
noncomputable def arK:b4 189 24:=.k Tryz.func189 Tryz.ntmps189
noncomputable def arO:b4 193 9:=.k Tryz.func193 Tryz.ntmps193
noncomputable def arS:b4 203 28:=.k Tryz.func203 Tryz.ntmps203
noncomputable def arY:b4 217 9:=.k Tryz.func217 Tryz.ntmps217
noncomputable def ar5:b4 250 13:=.k Tryz.func250 Tryz.ntmps250
end Go.Sx
