/- A part of the proof that the statement holds. Conditions: none. -/
import Derived.Test.YtlbdbpaelcnfgaaGreatDoorAD
namespace Go.Sx
open Go.Proofs
set_option maxRecDepth 100000
set_option maxHeartbeats 0
set_option linter.all false
noncomputable def asH:b4 8 50:=⟨_,Tryz.func8,Tryz.ntmps8,by decide,rfl,_,by cbv⟩
noncomputable def arc:b4 13 12:=⟨_,Tryz.func13,Tryz.ntmps13,by decide,rfl,_,by cbv⟩
noncomputable def aa0:b4 23 124:=⟨_,Tryz.func23,Tryz.ntmps23,by decide,rfl,_,by cbv⟩
noncomputable def ar7:b4 29 2:=⟨_,Tryz.func29,Tryz.ntmps29,by decide,rfl,_,by cbv⟩
noncomputable def ar':b4 35 16:=⟨_,Tryz.func35,Tryz.ntmps35,by decide,rfl,_,by cbv⟩
noncomputable def asd:b4 44 11:=⟨_,Tryz.func44,Tryz.ntmps44,by decide,rfl,_,by cbv⟩
noncomputable def ash:b4 48 79:=⟨_,Tryz.func48,Tryz.ntmps48,by decide,rfl,_,by cbv⟩
noncomputable def Ip:b4 52 42:=⟨_,Tryz.func52,Tryz.ntmps52,by decide,rfl,_,by cbv⟩
noncomputable def aa1:b4 58 9:=⟨_,Tryz.func58,Tryz.ntmps58,by decide,rfl,_,by cbv⟩
noncomputable def ast:b4 64 22:=⟨_,Tryz.func64,Tryz.ntmps64,by decide,rfl,_,by cbv⟩
noncomputable def asx:b4 69 22:=⟨_,Tryz.func69,Tryz.ntmps69,by decide,rfl,_,by cbv⟩
noncomputable def asD:b4 76 13:=⟨_,Tryz.func76,Tryz.ntmps76,by decide,rfl,_,by cbv⟩
noncomputable def asI:b4 80 31:=⟨_,Tryz.func80,Tryz.ntmps80,by decide,rfl,_,by cbv⟩
noncomputable def aa5:b4 89 59:=⟨_,Tryz.func89,Tryz.ntmps89,by decide,rfl,_,by cbv⟩
noncomputable def asQ:b4 93 22:=⟨_,Tryz.func93,Tryz.ntmps93,by decide,rfl,_,by cbv⟩
noncomputable def aqQ:b4 103 12:=⟨_,Tryz.func103,Tryz.ntmps103,by decide,rfl,_,by cbv⟩
noncomputable def aqU:b4 107 15:=⟨_,Tryz.func107,Tryz.ntmps107,by decide,rfl,_,by cbv⟩
noncomputable def aq0:b4 114 20:=⟨_,Tryz.func114,Tryz.ntmps114,by decide,rfl,_,by cbv⟩
noncomputable def aq4:b4 118 44:=⟨_,Tryz.func118,Tryz.ntmps118,by decide,rfl,_,by cbv⟩
noncomputable def Rq:b4 122 63:=⟨_,Tryz.func122,Tryz.ntmps122,by decide,rfl,_,by cbv⟩
noncomputable def ara:b4 128 35:=⟨_,Tryz.func128,Tryz.ntmps128,by decide,rfl,_,by cbv⟩
noncomputable def arf:b4 132 18:=⟨_,Tryz.func132,Tryz.ntmps132,by decide,rfl,_,by cbv⟩
noncomputable def arh:b4 136 6:=⟨_,Tryz.func136,Tryz.ntmps136,by decide,rfl,_,by cbv⟩
noncomputable def arl:b4 144 66:=⟨_,Tryz.func144,Tryz.ntmps144,by decide,rfl,_,by cbv⟩
noncomputable def arp:b4 148 51:=⟨_,Tryz.func148,Tryz.ntmps148,by decide,rfl,_,by cbv⟩
noncomputable def aru:b4 153 10:=⟨_,Tryz.func153,Tryz.ntmps153,by decide,rfl,_,by cbv⟩
noncomputable def arw:b4 157 16:=⟨_,Tryz.func157,Tryz.ntmps157,by decide,rfl,_,by cbv⟩
noncomputable def arA:b4 164 26:=⟨_,Tryz.func164,Tryz.ntmps164,by decide,rfl,_,by cbv⟩
noncomputable def arE:b4 183 5:=⟨_,Tryz.func183,Tryz.ntmps183,by decide,rfl,_,by cbv⟩
noncomputable def arI:b4 187 14:=⟨_,Tryz.func187,Tryz.ntmps187,by decide,rfl,_,by cbv⟩
noncomputable def arM:b4 191 32:=⟨_,Tryz.func191,Tryz.ntmps191,by decide,rfl,_,by cbv⟩
noncomputable def arQ:b4 196 58:=⟨_,Tryz.func196,Tryz.ntmps196,by decide,rfl,_,by cbv⟩
noncomputable def arU:b4 205 13:=⟨_,Tryz.func205,Tryz.ntmps205,by decide,rfl,_,by cbv⟩
noncomputable def ar2:b4 244 14:=⟨_,Tryz.func244,Tryz.ntmps244,by decide,rfl,_,by cbv⟩
end Go.Sx
