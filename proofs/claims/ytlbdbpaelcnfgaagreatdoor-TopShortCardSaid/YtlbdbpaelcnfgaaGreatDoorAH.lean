/- A part of the proof that the statement holds. Conditions: none. -/
import Derived.Test.YtlbdbpaelcnfgaaGreatDoorAD
namespace Go.Sx
open Go.Proofs
set_option maxRecDepth 100000
set_option maxHeartbeats 0
set_option linter.all false
noncomputable def aaO:b4 10 41:=⟨_,Tryz.func10,Tryz.ntmps10,by decide,rfl,_,by cbv⟩
noncomputable def ary:b4 16 41:=⟨_,Tryz.func16,Tryz.ntmps16,by decide,rfl,_,by cbv⟩
noncomputable def ar4:b4 25 69:=⟨_,Tryz.func25,Tryz.ntmps25,by decide,rfl,_,by cbv⟩
noncomputable def ar8:b4 32 27:=⟨_,Tryz.func32,Tryz.ntmps32,by decide,rfl,_,by cbv⟩
noncomputable def asb:b4 37 5:=⟨_,Tryz.func37,Tryz.ntmps37,by decide,rfl,_,by cbv⟩
noncomputable def asf:b4 46 87:=⟨_,Tryz.func46,Tryz.ntmps46,by decide,rfl,_,by cbv⟩
noncomputable def asj:b4 50 129:=⟨_,Tryz.func50,Tryz.ntmps50,by decide,rfl,_,by cbv⟩
noncomputable def aso:b4 56 41:=⟨_,Tryz.func56,Tryz.ntmps56,by decide,rfl,_,by cbv⟩
noncomputable def asr:b4 60 20:=⟨_,Tryz.func60,Tryz.ntmps60,by decide,rfl,_,by cbv⟩
noncomputable def asv:b4 66 5:=⟨_,Tryz.func66,Tryz.ntmps66,by decide,rfl,_,by cbv⟩
noncomputable def asB:b4 74 21:=⟨_,Tryz.func74,Tryz.ntmps74,by decide,rfl,_,by cbv⟩
noncomputable def asF:b4 78 28:=⟨_,Tryz.func78,Tryz.ntmps78,by decide,rfl,_,by cbv⟩
noncomputable def Ru:b4 83 97:=⟨_,Tryz.func83,Tryz.ntmps83,by decide,rfl,_,by cbv⟩
noncomputable def asO:b4 91 37:=⟨_,Tryz.func91,Tryz.ntmps91,by decide,rfl,_,by cbv⟩
noncomputable def asS:b4 95 33:=⟨_,Tryz.func95,Tryz.ntmps95,by decide,rfl,_,by cbv⟩
noncomputable def aqS:b4 105 20:=⟨_,Tryz.func105,Tryz.ntmps105,by decide,rfl,_,by cbv⟩
noncomputable def aqW:b4 109 44:=⟨_,Tryz.func109,Tryz.ntmps109,by decide,rfl,_,by cbv⟩
noncomputable def aq2:b4 116 12:=⟨_,Tryz.func116,Tryz.ntmps116,by decide,rfl,_,by cbv⟩
noncomputable def aq6:b4 120 25:=⟨_,Tryz.func120,Tryz.ntmps120,by decide,rfl,_,by cbv⟩
noncomputable def aq9:b4 126 30:=⟨_,Tryz.func126,Tryz.ntmps126,by decide,rfl,_,by cbv⟩
noncomputable def ard:b4 130 14:=⟨_,Tryz.func130,Tryz.ntmps130,by decide,rfl,_,by cbv⟩
noncomputable def aaR:b4 134 57:=⟨_,Tryz.func134,Tryz.ntmps134,by decide,rfl,_,by cbv⟩
noncomputable def arj:b4 140 12:=⟨_,Tryz.func140,Tryz.ntmps140,by decide,rfl,_,by cbv⟩
noncomputable def aaT:b4 146 48:=⟨_,Tryz.func146,Tryz.ntmps146,by decide,rfl,_,by cbv⟩
noncomputable def ars:b4 150 10:=⟨_,Tryz.func150,Tryz.ntmps150,by decide,rfl,_,by cbv⟩
noncomputable def aaU:b4 155 7:=⟨_,Tryz.func155,Tryz.ntmps155,by decide,rfl,_,by cbv⟩
noncomputable def arz:b4 162 62:=⟨_,Tryz.func162,Tryz.ntmps162,by decide,rfl,_,by cbv⟩
noncomputable def aaY:b4 166 28:=⟨_,Tryz.func166,Tryz.ntmps166,by decide,rfl,_,by cbv⟩
noncomputable def arG:b4 185 20:=⟨_,Tryz.func185,Tryz.ntmps185,by decide,rfl,_,by cbv⟩
noncomputable def arK:b4 189 24:=⟨_,Tryz.func189,Tryz.ntmps189,by decide,rfl,_,by cbv⟩
noncomputable def arO:b4 193 9:=⟨_,Tryz.func193,Tryz.ntmps193,by decide,rfl,_,by cbv⟩
noncomputable def arS:b4 203 28:=⟨_,Tryz.func203,Tryz.ntmps203,by decide,rfl,_,by cbv⟩
noncomputable def arY:b4 217 9:=⟨_,Tryz.func217,Tryz.ntmps217,by decide,rfl,_,by cbv⟩
noncomputable def ar5:b4 250 13:=⟨_,Tryz.func250,Tryz.ntmps250,by decide,rfl,_,by cbv⟩
end Go.Sx
