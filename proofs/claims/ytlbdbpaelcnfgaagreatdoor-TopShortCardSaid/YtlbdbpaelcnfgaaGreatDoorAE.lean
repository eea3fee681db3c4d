/- A part of the proof that the statement holds. Conditions: none. -/
import Derived.Test.YtlbdbpaelcnfgaaGreatDoorAD
namespace Go.Sx
open Go.Proofs
set_option maxRecDepth 100000
set_option maxHeartbeats 0
set_option linter.all false
noncomputable def asy:b4 7 88:=⟨_,Tryz.func7,Tryz.ntmps7,by decide,rfl,_,by cbv⟩
noncomputable def aaP:b4 12 26:=⟨_,Tryz.func12,Tryz.ntmps12,by decide,rfl,_,by cbv⟩
noncomputable def arB:b4 17 11:=⟨_,Tryz.func17,Tryz.ntmps17,by decide,rfl,_,by cbv⟩
noncomputable def ar6:b4 28 15:=⟨_,Tryz.func28,Tryz.ntmps28,by decide,rfl,_,by cbv⟩
noncomputable def ar9:b4 34 24:=⟨_,Tryz.func34,Tryz.ntmps34,by decide,rfl,_,by cbv⟩
noncomputable def asc:b4 38 11:=⟨_,Tryz.func38,Tryz.ntmps38,by decide,rfl,_,by cbv⟩
noncomputable def asg:b4 47 79:=⟨_,Tryz.func47,Tryz.ntmps47,by decide,rfl,_,by cbv⟩
noncomputable def ask:b4 51 59:=⟨_,Tryz.func51,Tryz.ntmps51,by decide,rfl,_,by cbv⟩
noncomputable def asp:b4 57 40:=⟨_,Tryz.func57,Tryz.ntmps57,by decide,rfl,_,by cbv⟩
noncomputable def ass:b4 61 36:=⟨_,Tryz.func61,Tryz.ntmps61,by decide,rfl,_,by cbv⟩
noncomputable def asw:b4 67 26:=⟨_,Tryz.func67,Tryz.ntmps67,by decide,rfl,_,by cbv⟩
noncomputable def asC:b4 75 5:=⟨_,Tryz.func75,Tryz.ntmps75,by decide,rfl,_,by cbv⟩
noncomputable def asG:b4 79 15:=⟨_,Tryz.func79,Tryz.ntmps79,by decide,rfl,_,by cbv⟩
noncomputable def asL:b4 86 86:=⟨_,Tryz.func86,Tryz.ntmps86,by decide,rfl,_,by cbv⟩
noncomputable def asP:b4 92 2:=⟨_,Tryz.func92,Tryz.ntmps92,by decide,rfl,_,by cbv⟩
noncomputable def Rv:b4 96 108:=⟨_,Tryz.func96,Tryz.ntmps96,by decide,rfl,_,by cbv⟩
noncomputable def aqT:b4 106 66:=⟨_,Tryz.func106,Tryz.ntmps106,by decide,rfl,_,by cbv⟩
noncomputable def aqX:b4 110 20:=⟨_,Tryz.func110,Tryz.ntmps110,by decide,rfl,_,by cbv⟩
noncomputable def aq3:b4 117 11:=⟨_,Tryz.func117,Tryz.ntmps117,by decide,rfl,_,by cbv⟩
noncomputable def aq7:b4 121 11:=⟨_,Tryz.func121,Tryz.ntmps121,by decide,rfl,_,by cbv⟩
noncomputable def aq':b4 127 34:=⟨_,Tryz.func127,Tryz.ntmps127,by decide,rfl,_,by cbv⟩
noncomputable def are:b4 131 36:=⟨_,Tryz.func131,Tryz.ntmps131,by decide,rfl,_,by cbv⟩
noncomputable def aaS:b4 135 46:=⟨_,Tryz.func135,Tryz.ntmps135,by decide,rfl,_,by cbv⟩
noncomputable def ark:b4 143 46:=⟨_,Tryz.func143,Tryz.ntmps143,by decide,rfl,_,by cbv⟩
noncomputable def aro:b4 147 52:=⟨_,Tryz.func147,Tryz.ntmps147,by decide,rfl,_,by cbv⟩
noncomputable def art:b4 152 25:=⟨_,Tryz.func152,Tryz.ntmps152,by decide,rfl,_,by cbv⟩
noncomputable def aaV:b4 156 17:=⟨_,Tryz.func156,Tryz.ntmps156,by decide,rfl,_,by cbv⟩
noncomputable def aaW:b4 163 13:=⟨_,Tryz.func163,Tryz.ntmps163,by decide,rfl,_,by cbv⟩
noncomputable def arD:b4 182 77:=⟨_,Tryz.func182,Tryz.ntmps182,by decide,rfl,_,by cbv⟩
noncomputable def arH:b4 186 42:=⟨_,Tryz.func186,Tryz.ntmps186,by decide,rfl,_,by cbv⟩
noncomputable def arL:b4 190 16:=⟨_,Tryz.func190,Tryz.ntmps190,by decide,rfl,_,by cbv⟩
noncomputable def arP:b4 195 11:=⟨_,Tryz.func195,Tryz.ntmps195,by decide,rfl,_,by cbv⟩
noncomputable def arT:b4 204 42:=⟨_,Tryz.func204,Tryz.ntmps204,by decide,rfl,_,by cbv⟩
noncomputable def ar1:b4 242 9:=⟨_,Tryz.func242,Tryz.ntmps242,by decide,rfl,_,by cbv⟩
end Go.Sx
