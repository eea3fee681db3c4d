/- A part of the proof that the statement holds. Conditions: none. -/
import Derived.Test.YtlbdbpaelcnfgaaGreatDoorAC
namespace Go.Sx
open Go.Proofs
set_option maxRecDepth 100000
set_option maxHeartbeats 0
set_option linter.all false
noncomputable def asy:b4 7 88:=.k Tryz.func7 Tryz.ntmps7
noncomputable def aaP:b4 12 26:=.k Tryz.func12 Tryz.ntmps12
noncomputable def arB:b4 17 11:=.k Tryz.func17 Tryz.ntmps17
noncomputable def ar6:b4 28 15:=.k Tryz.func28 Tryz.ntmps28
noncomputable def ar9:b4 34 24:=.k Tryz.func34 Tryz.ntmps34
noncomputable def asc:b4 38 11:=.k Tryz.func38 Tryz.ntmps38
noncomputable def asg:b4 47 79:=.k Tryz.func47 Tryz.ntmps47
noncomputable def ask:b4 51 59:=.k Tryz.func51 Tryz.ntmps51
noncomputable def asp:b4 57 40:=.k Tryz.func57 Tryz.ntmps57
noncomputable def ass:b4 61 36:=.k Tryz.func61 Tryz.ntmps61
noncomputable def asw:b4 67 26:=.k Tryz.func67 Tryz.ntmps67
noncomputable def asC:b4 75 5:=.k Tryz.func75 Tryz.ntmps75
noncomputable def asG:b4 79 15:=.k Tryz.func79 Tryz.ntmps79
noncomputable def asL:b4 86 86:=.k Tryz.func86 Tryz.ntmps86
noncomputable def Rv:b4 96 108:=.k Tryz.func96 Tryz.ntmps96
noncomputable def aqT:b4 106 66:=.k Tryz.func106 Tryz.ntmps106
noncomputable def aqX:b4 110 20:=.k Tryz.func110 Tryz.ntmps110
noncomputable def aq3:b4 117 11:=.k Tryz.func117 Tryz.ntmps117
noncomputable def aq7:b4 121 11:=.k Tryz.func121 Tryz.ntmps121
noncomputable def aq':b4 127 34:=.k Tryz.func127 Tryz.ntmps127
noncomputable def are:b4 131 36:=.k Tryz.func131 Tryz.ntmps131
noncomputable def aaS:b4 135 46:=.k Tryz.func135 Tryz.ntmps135
noncomputable def ark:b4 143 46:=.k Tryz.func143 Tryz.ntmps143
noncomputable def aro:b4 147 52:=.k Tryz.func147 Tryz.ntmps147
noncomputable def art:b4 152 25:=.k Tryz.func152 Tryz.ntmps152
noncomputable def aaV:b4 156 17:=.k Tryz.func156 Tryz.ntmps156
noncomputable def aaW:b4 163 13:=.k Tryz.func163 Tryz.ntmps163
noncomputable def arD:b4 182 77:=.k Tryz.func182 Tryz.ntmps182
noncomputable def arH:b4 186 42:=.k Tryz.func186 Tryz.ntmps186
noncomputable def arL:b4 190 16:=.k Tryz.func190 Tryz.ntmps190
noncomputable def arP:b4 195 11:=.k Tryz.func195 Tryz.ntmps195
noncomputable def arT:b4 204 42:=.k Tryz.func204 Tryz.ntmps204
noncomputable def ar1:b4 242 9:=.k Tryz.func242 Tryz.ntmps242
end Go.Sx
