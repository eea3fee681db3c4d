/- A part of the proof that the statement holds. Conditions: none. -/
import Derived.Test.YtlbdbpaelcnfgaaGreatDoorAC
namespace Go.Sx
open Go.Proofs
set_option maxRecDepth 100000
set_option maxHeartbeats 0
set_option linter.all false
noncomputable def ad9:b5 10 41:=.k Tryz.func10 Tryz.ntmps10
noncomputable def awO:b5 16 41:=.k Tryz.func16 Tryz.ntmps16
noncomputable def axk:b5 25 69:=.k Tryz.func25 Tryz.ntmps25
noncomputable def axy:b5 32 27:=.k Tryz.func32 Tryz.ntmps32
noncomputable def axB:b5 37 5:=.k Tryz.func37 Tryz.ntmps37
noncomputable def axF:b5 46 87:=.k Tryz.func46 Tryz.ntmps46
noncomputable def axJ:b5 50 129:=.k Tryz.func50 Tryz.ntmps50
noncomputable def axO:b5 56 41:=.k Tryz.func56 Tryz.ntmps56
noncomputable def axR:b5 60 20:=.k Tryz.func60 Tryz.ntmps60
noncomputable def axV:b5 66 5:=.k Tryz.func66 Tryz.ntmps66
noncomputable def ax1:b5 74 21:=.k Tryz.func74 Tryz.ntmps74
noncomputable def ax5:b5 78 28:=.k Tryz.func78 Tryz.ntmps78
noncomputable def T0:b5 83 97:=.k Tryz.func83 Tryz.ntmps83
noncomputable def ayd:b5 91 37:=.k Tryz.func91 Tryz.ntmps91
noncomputable def av':b5 105 20:=.k Tryz.func105 Tryz.ntmps105
noncomputable def awd:b5 109 44:=.k Tryz.func109 Tryz.ntmps109
noncomputable def awj:b5 116 12:=.k Tryz.func116 Tryz.ntmps116
noncomputable def awo:b5 120 25:=.k Tryz.func120 Tryz.ntmps120
noncomputable def awr:b5 126 30:=.k Tryz.func126 Tryz.ntmps126
noncomputable def aww:b5 130 14:=.k Tryz.func130 Tryz.ntmps130
noncomputable def aea:b5 134 57:=.k Tryz.func134 Tryz.ntmps134
noncomputable def awC:b5 140 12:=.k Tryz.func140 Tryz.ntmps140
noncomputable def aec:b5 146 48:=.k Tryz.func146 Tryz.ntmps146
noncomputable def aed:b5 150 10:=.k Tryz.func150 Tryz.ntmps150
noncomputable def aee:b5 155 7:=.k Tryz.func155 Tryz.ntmps155
noncomputable def awP:b5 162 62:=.k Tryz.func162 Tryz.ntmps162
noncomputable def aei:b5 166 28:=.k Tryz.func166 Tryz.ntmps166
noncomputable def awV:b5 185 20:=.k Tryz.func185 Tryz.ntmps185
noncomputable def awZ:b5 189 24:=.k Tryz.func189 Tryz.ntmps189
noncomputable def aw2:b5 193 9:=.k Tryz.func193 Tryz.ntmps193
noncomputable def aw6:b5 203 28:=.k Tryz.func203 Tryz.ntmps203
noncomputable def axb:b5 217 9:=.k Tryz.func217 Tryz.ntmps217
noncomputable def axl:b5 250 13:=.k Tryz.func250 Tryz.ntmps250
end Go.Sx
