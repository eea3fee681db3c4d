/- A part of the proof that the statement holds. Conditions: none. -/
import Derived.Test.YtlbdbpaelcnfgaaGreatDoorAC
namespace Go.Sx
open Go.Proofs
set_option maxRecDepth 100000
set_option maxHeartbeats 0
set_option linter.all false
noncomputable def asH:b4 8 50:=.k Tryz.func8 Tryz.ntmps8
noncomputable def arc:b4 13 12:=.k Tryz.func13 Tryz.ntmps13
noncomputable def aa0:b4 23 124:=.k Tryz.func23 Tryz.ntmps23
noncomputable def ar7:b4 29 2:=.k Tryz.func29 Tryz.ntmps29
noncomputable def ar':b4 35 16:=.k Tryz.func35 Tryz.ntmps35
noncomputable def asd:b4 44 11:=.k Tryz.func44 Tryz.ntmps44
noncomputable def ash:b4 48 79:=.k Tryz.func48 Tryz.ntmps48
noncomputable def Ip:b4 52 42:=.k Tryz.func52 Tryz.ntmps52
noncomputable def aa1:b4 58 9:=.k Tryz.func58 Tryz.ntmps58
noncomputable def ast:b4 64 22:=.k Tryz.func64 Tryz.ntmps64
noncomputable def asx:b4 69 22:=.k Tryz.func69 Tryz.ntmps69
noncomputable def asD:b4 76 13:=.k Tryz.func76 Tryz.ntmps76
noncomputable def asI:b4 80 31:=.k Tryz.func80 Tryz.ntmps80
noncomputable def aa5:b4 89 59:=.k Tryz.func89 Tryz.ntmps89
noncomputable def aqQ:b4 103 12:=.k Tryz.func103 Tryz.ntmps103
noncomputable def aqU:b4 107 15:=.k Tryz.func107 Tryz.ntmps107
noncomputable def aq0:b4 114 20:=.k Tryz.func114 Tryz.ntmps114
noncomputable def aq4:b4 118 44:=.k Tryz.func118 Tryz.ntmps118
noncomputable def Rq:b4 122 63:=.k Tryz.func122 Tryz.ntmps122
noncomputable def ara:b4 128 35:=.k Tryz.func128 Tryz.ntmps128
noncomputable def arf:b4 132 18:=.k Tryz.func132 Tryz.ntmps132
noncomputable def arh:b4 136 6:=.k Tryz.func136 Tryz.ntmps136
noncomputable def arl:b4 144 66:=.k Tryz.func144 Tryz.ntmps144
noncomputable def arp:b4 148 51:=.k Tryz.func148 Tryz.ntmps148
noncomputable def aru:b4 153 10:=.k Tryz.func153 Tryz.ntmps153
noncomputable def arw:b4 157 16:=.k Tryz.func157 Tryz.ntmps157
noncomputable def arA:b4 164 26:=.k Tryz.func164 Tryz.ntmps164
noncomputable def arE:b4 183 5:=.k Tryz.func183 Tryz.ntmps183
noncomputable def arI:b4 187 14:=.k Tryz.func187 Tryz.ntmps187
noncomputable def arM:b4 191 32:=.k Tryz.func191 Tryz.ntmps191
noncomputable def arQ:b4 196 58:=.k Tryz.func196 Tryz.ntmps196
noncomputable def arU:b4 205 13:=.k Tryz.func205 Tryz.ntmps205
noncomputable def ar2:b4 244 14:=.k Tryz.func244 Tryz.ntmps244
end Go.Sx
