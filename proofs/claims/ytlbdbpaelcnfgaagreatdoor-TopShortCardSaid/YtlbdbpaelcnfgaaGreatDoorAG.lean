/- A part of the proof that the statement holds. Conditions: none. -/
import Derived.Test.YtlbdbpaelcnfgaaGreatDoorAD
namespace Go.Sx
open Go.Proofs
set_option maxRecDepth 100000
set_option maxHeartbeats 0
set_option linter.all false
noncomputable def asM:b4 9 40:=⟨_,Tryz.func9,Tryz.ntmps9,by decide,rfl,_,by cbv⟩
noncomputable def arr:b4 15 20:=⟨_,Tryz.func15,Tryz.ntmps15,by decide,rfl,_,by cbv⟩
noncomputable def Rt:b4 30 77:=⟨_,Tryz.func30,Tryz.ntmps30,by decide,rfl,_,by cbv⟩
noncomputable def asa:b4 36 10:=⟨_,Tryz.func36,Tryz.ntmps36,by decide,rfl,_,by cbv⟩
noncomputable def ase:b4 45 189:=⟨_,Tryz.func45,Tryz.ntmps45,by decide,rfl,_,by cbv⟩
noncomputable def asi:b4 49 40:=⟨_,Tryz.func49,Tryz.ntmps49,by decide,rfl,_,by cbv⟩
noncomputable def asl:b4 53 40:=⟨_,Tryz.func53,Tryz.ntmps53,by decide,rfl,_,by cbv⟩
noncomputable def asq:b4 59 17:=⟨_,Tryz.func59,Tryz.ntmps59,by decide,rfl,_,by cbv⟩
noncomputable def asu:b4 65 21:=⟨_,Tryz.func65,Tryz.ntmps65,by decide,rfl,_,by cbv⟩
noncomputable def asz:b4 70 30:=⟨_,Tryz.func70,Tryz.ntmps70,by decide,rfl,_,by cbv⟩
noncomputable def asE:b4 77 33:=⟨_,Tryz.func77,Tryz.ntmps77,by decide,rfl,_,by cbv⟩
noncomputable def aa3:b4 81 56:=⟨_,Tryz.func81,Tryz.ntmps81,by decide,rfl,_,by cbv⟩
noncomputable def asN:b4 90 24:=⟨_,Tryz.func90,Tryz.ntmps90,by decide,rfl,_,by cbv⟩
noncomputable def asR:b4 94 6:=⟨_,Tryz.func94,Tryz.ntmps94,by decide,rfl,_,by cbv⟩
noncomputable def aqR:b4 104 6:=⟨_,Tryz.func104,Tryz.ntmps104,by decide,rfl,_,by cbv⟩
noncomputable def aqV:b4 108 46:=⟨_,Tryz.func108,Tryz.ntmps108,by decide,rfl,_,by cbv⟩
noncomputable def aq1:b4 115 12:=⟨_,Tryz.func115,Tryz.ntmps115,by decide,rfl,_,by cbv⟩
noncomputable def aq8:b4 123 6:=⟨_,Tryz.func123,Tryz.ntmps123,by decide,rfl,_,by cbv⟩
noncomputable def arb:b4 129 29:=⟨_,Tryz.func129,Tryz.ntmps129,by decide,rfl,_,by cbv⟩
noncomputable def aaQ:b4 133 13:=⟨_,Tryz.func133,Tryz.ntmps133,by decide,rfl,_,by cbv⟩
noncomputable def ari:b4 139 63:=⟨_,Tryz.func139,Tryz.ntmps139,by decide,rfl,_,by cbv⟩
noncomputable def arn:b4 145 55:=⟨_,Tryz.func145,Tryz.ntmps145,by decide,rfl,_,by cbv⟩
noncomputable def arq:b4 149 40:=⟨_,Tryz.func149,Tryz.ntmps149,by decide,rfl,_,by cbv⟩
noncomputable def arv:b4 154 15:=⟨_,Tryz.func154,Tryz.ntmps154,by decide,rfl,_,by cbv⟩
noncomputable def arx:b4 158 11:=⟨_,Tryz.func158,Tryz.ntmps158,by decide,rfl,_,by cbv⟩
noncomputable def aaX:b4 165 62:=⟨_,Tryz.func165,Tryz.ntmps165,by decide,rfl,_,by cbv⟩
noncomputable def arF:b4 184 20:=⟨_,Tryz.func184,Tryz.ntmps184,by decide,rfl,_,by cbv⟩
noncomputable def arJ:b4 188 12:=⟨_,Tryz.func188,Tryz.ntmps188,by decide,rfl,_,by cbv⟩
noncomputable def arN:b4 192 62:=⟨_,Tryz.func192,Tryz.ntmps192,by decide,rfl,_,by cbv⟩
noncomputable def arR:b4 202 9:=⟨_,Tryz.func202,Tryz.ntmps202,by decide,rfl,_,by cbv⟩
noncomputable def arX:b4 216 13:=⟨_,Tryz.func216,Tryz.ntmps216,by decide,rfl,_,by cbv⟩
noncomputable def ar3:b4 249 24:=⟨_,Tryz.func249,Tryz.ntmps249,by decide,rfl,_,by cbv⟩
end Go.Sx
