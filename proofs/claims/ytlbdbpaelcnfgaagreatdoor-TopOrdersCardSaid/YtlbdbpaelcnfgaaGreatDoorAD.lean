/- A part of the proof that the statement holds. Conditions: none. -/
import Derived.Test.YtlbdbpaelcnfgaaGreatDoorAC
namespace Go.Sx
open Go.Proofs
set_option maxRecDepth 100000
set_option maxHeartbeats 0
set_option linter.all false
noncomputable def axY:b5 7 88:=.k Tryz.func7 Tryz.ntmps7
noncomputable def awn:b5 12 26:=.k Tryz.func12 Tryz.ntmps12
noncomputable def axw:b5 28 15:=.k Tryz.func28 Tryz.ntmps28
noncomputable def axz:b5 34 24:=.k Tryz.func34 Tryz.ntmps34
noncomputable def axC:b5 38 11:=.k Tryz.func38 Tryz.ntmps38
noncomputable def axG:b5 47 79:=.k Tryz.func47 Tryz.ntmps47
noncomputable def axK:b5 51 59:=.k Tryz.func51 Tryz.ntmps51
noncomputable def axP:b5 57 40:=.k Tryz.func57 Tryz.ntmps57
noncomputable def axS:b5 61 36:=.k Tryz.func61 Tryz.ntmps61
noncomputable def axW:b5 67 26:=.k Tryz.func67 Tryz.ntmps67
noncomputable def ax2:b5 75 5:=.k Tryz.func75 Tryz.ntmps75
noncomputable def ax6:b5 79 15:=.k Tryz.func79 Tryz.ntmps79
noncomputable def aya:b5 86 86:=.k Tryz.func86 Tryz.ntmps86
noncomputable def T1:b5 96 108:=.k Tryz.func96 Tryz.ntmps96
noncomputable def awa:b5 106 66:=.k Tryz.func106 Tryz.ntmps106
noncomputable def awe:b5 110 20:=.k Tryz.func110 Tryz.ntmps110
noncomputable def awk:b5 117 11:=.k Tryz.func117 Tryz.ntmps117
noncomputable def awp:b5 121 11:=.k Tryz.func121 Tryz.ntmps121
noncomputable def aws:b5 127 34:=.k Tryz.func127 Tryz.ntmps127
noncomputable def awx:b5 131 36:=.k Tryz.func131 Tryz.ntmps131
noncomputable def aeb:b5 135 46:=.k Tryz.func135 Tryz.ntmps135
noncomputable def awD:b5 143 46:=.k Tryz.func143 Tryz.ntmps143
noncomputable def awG:b5 147 52:=.k Tryz.func147 Tryz.ntmps147
noncomputable def awJ:b5 152 25:=.k Tryz.func152 Tryz.ntmps152
noncomputable def aef:b5 156 17:=.k Tryz.func156 Tryz.ntmps156
noncomputable def aeg:b5 163 13:=.k Tryz.func163 Tryz.ntmps163
noncomputable def awS:b5 182 77:=.k Tryz.func182 Tryz.ntmps182
noncomputable def awW:b5 186 42:=.k Tryz.func186 Tryz.ntmps186
noncomputable def aw0:b5 190 16:=.k Tryz.func190 Tryz.ntmps190
noncomputable def aw3:b5 195 11:=.k Tryz.func195 Tryz.ntmps195
noncomputable def aw7:b5 204 42:=.k Tryz.func204 Tryz.ntmps204
noncomputable def axe:b5 242 9:=.k Tryz.func242 Tryz.ntmps242
end Go.Sx
