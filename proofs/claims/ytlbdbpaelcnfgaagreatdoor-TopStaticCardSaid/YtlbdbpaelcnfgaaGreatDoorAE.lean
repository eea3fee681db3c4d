/- A part of the proof that the statement holds. Conditions: none. -/
import Derived.Test.YtlbdbpaelcnfgaaGreatDoorAC
namespace Go.Sx
open Go.Proofs
set_option maxRecDepth 100000
set_option maxHeartbeats 0
set_option linter.all false
noncomputable def azY:b9 8 50:=.k Tryz.func8 Tryz.ntmps8
noncomputable def ayj:b9 13 12:=.k Tryz.func13 Tryz.ntmps13
noncomputable def afP:b9 23 124:=.k Tryz.func23 Tryz.ntmps23
noncomputable def azn:b9 29 2:=.k Tryz.func29 Tryz.ntmps29
noncomputable def azr:b9 35 16:=.k Tryz.func35 Tryz.ntmps35
noncomputable def azu:b9 44 11:=.k Tryz.func44 Tryz.ntmps44
noncomputable def azy:b9 48 79:=.k Tryz.func48 Tryz.ntmps48
noncomputable def LJ:b9 52 42:=.k Tryz.func52 Tryz.ntmps52
noncomputable def afQ:b9 58 9:=.k Tryz.func58 Tryz.ntmps58
noncomputable def azK:b9 64 22:=.k Tryz.func64 Tryz.ntmps64
noncomputable def azO:b9 69 22:=.k Tryz.func69 Tryz.ntmps69
noncomputable def azU:b9 76 13:=.k Tryz.func76 Tryz.ntmps76
noncomputable def azZ:b9 80 31:=.k Tryz.func80 Tryz.ntmps80
noncomputable def afU:b9 89 59:=.k Tryz.func89 Tryz.ntmps89
noncomputable def axW:b9 103 12:=.k Tryz.func103 Tryz.ntmps103
noncomputable def ax0:b9 107 15:=.k Tryz.func107 Tryz.ntmps107
noncomputable def ax6:b9 114 20:=.k Tryz.func114 Tryz.ntmps114
noncomputable def ax':b9 118 44:=.k Tryz.func118 Tryz.ntmps118
noncomputable def VD:b9 122 63:=.k Tryz.func122 Tryz.ntmps122
noncomputable def ayh:b9 128 35:=.k Tryz.func128 Tryz.ntmps128
noncomputable def aym:b9 132 18:=.k Tryz.func132 Tryz.ntmps132
noncomputable def ayn:b9 136 6:=.k Tryz.func136 Tryz.ntmps136
noncomputable def ays:b9 144 66:=.k Tryz.func144 Tryz.ntmps144
noncomputable def ayv:b9 148 51:=.k Tryz.func148 Tryz.ntmps148
noncomputable def ayy:b9 153 10:=.k Tryz.func153 Tryz.ntmps153
noncomputable def ayA:b9 157 16:=.k Tryz.func157 Tryz.ntmps157
noncomputable def ayE:b9 164 26:=.k Tryz.func164 Tryz.ntmps164
noncomputable def ayJ:b9 183 5:=.k Tryz.func183 Tryz.ntmps183
noncomputable def ayN:b9 187 14:=.k Tryz.func187 Tryz.ntmps187
noncomputable def afO:b9 191 32:=.k Tryz.func191 Tryz.ntmps191
noncomputable def ayU:b9 196 58:=.k Tryz.func196 Tryz.ntmps196
noncomputable def ayY:b9 205 13:=.k Tryz.func205 Tryz.ntmps205
noncomputable def ay6:b9 244 14:=.k Tryz.func244 Tryz.ntmps244
end Go.Sx
