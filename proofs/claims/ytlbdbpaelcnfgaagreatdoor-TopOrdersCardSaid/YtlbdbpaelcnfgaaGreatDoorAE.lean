/- A part of the proof that the statement holds. Conditions: none. -/
import Derived.Test.YtlbdbpaelcnfgaaGreatDoorAC
namespace Go.Sx
open Go.Proofs
set_option maxRecDepth 100000
set_option maxHeartbeats 0
set_option linter.all false
noncomputable def ax7:b5 8 50:=.k Tryz.func8 Tryz.ntmps8
noncomputable def awv:b5 13 12:=.k Tryz.func13 Tryz.ntmps13
noncomputable def ael:b5 23 124:=.k Tryz.func23 Tryz.ntmps23
noncomputable def axx:b5 29 2:=.k Tryz.func29 Tryz.ntmps29
noncomputable def axA:b5 35 16:=.k Tryz.func35 Tryz.ntmps35
noncomputable def axD:b5 44 11:=.k Tryz.func44 Tryz.ntmps44
noncomputable def axH:b5 48 79:=.k Tryz.func48 Tryz.ntmps48
noncomputable def Kb:b5 52 42:=.k Tryz.func52 Tryz.ntmps52
noncomputable def aem:b5 58 9:=.k Tryz.func58 Tryz.ntmps58
noncomputable def axT:b5 64 22:=.k Tryz.func64 Tryz.ntmps64
noncomputable def axX:b5 69 22:=.k Tryz.func69 Tryz.ntmps69
noncomputable def ax3:b5 76 13:=.k Tryz.func76 Tryz.ntmps76
noncomputable def ax8:b5 80 31:=.k Tryz.func80 Tryz.ntmps80
noncomputable def aeq:b5 89 59:=.k Tryz.func89 Tryz.ntmps89
noncomputable def av8:b5 103 12:=.k Tryz.func103 Tryz.ntmps103
noncomputable def awb:b5 107 15:=.k Tryz.func107 Tryz.ntmps107
noncomputable def awh:b5 114 20:=.k Tryz.func114 Tryz.ntmps114
noncomputable def awl:b5 118 44:=.k Tryz.func118 Tryz.ntmps118
noncomputable def TX:b5 122 63:=.k Tryz.func122 Tryz.ntmps122
noncomputable def awt:b5 128 35:=.k Tryz.func128 Tryz.ntmps128
noncomputable def awy:b5 132 18:=.k Tryz.func132 Tryz.ntmps132
noncomputable def awz:b5 136 6:=.k Tryz.func136 Tryz.ntmps136
noncomputable def awE:b5 144 66:=.k Tryz.func144 Tryz.ntmps144
noncomputable def awH:b5 148 51:=.k Tryz.func148 Tryz.ntmps148
noncomputable def awK:b5 153 10:=.k Tryz.func153 Tryz.ntmps153
noncomputable def awM:b5 157 16:=.k Tryz.func157 Tryz.ntmps157
noncomputable def awQ:b5 164 26:=.k Tryz.func164 Tryz.ntmps164
noncomputable def awT:b5 183 5:=.k Tryz.func183 Tryz.ntmps183
noncomputable def awX:b5 187 14:=.k Tryz.func187 Tryz.ntmps187
noncomputable def aek:b5 191 32:=.k Tryz.func191 Tryz.ntmps191
noncomputable def aw4:b5 196 58:=.k Tryz.func196 Tryz.ntmps196
noncomputable def aw8:b5 205 13:=.k Tryz.func205 Tryz.ntmps205
noncomputable def axf:b5 244 14:=.k Tryz.func244 Tryz.ntmps244
end Go.Sx
