/- A part of the proof that the statement holds. Conditions: none. -/
import Derived.Test.YtlbdbpaelcnfgaaGreatDoorAC
namespace Go.Sx
open Go.Proofs
set_option maxRecDepth 100000
set_option maxHeartbeats 0
set_option linter.all false
noncomputable def azP:b9 7 88:=.k Tryz.func7 Tryz.ntmps7
noncomputable def ayb:b9 12 26:=.k Tryz.func12 Tryz.ntmps12
noncomputable def azm:b9 28 15:=.k Tryz.func28 Tryz.ntmps28
noncomputable def azq:b9 34 24:=.k Tryz.func34 Tryz.ntmps34
noncomputable def azt:b9 38 11:=.k Tryz.func38 Tryz.ntmps38
noncomputable def azx:b9 47 79:=.k Tryz.func47 Tryz.ntmps47
noncomputable def azB:b9 51 59:=.k Tryz.func51 Tryz.ntmps51
noncomputable def azG:b9 57 40:=.k Tryz.func57 Tryz.ntmps57
noncomputable def azJ:b9 61 36:=.k Tryz.func61 Tryz.ntmps61
noncomputable def azN:b9 67 26:=.k Tryz.func67 Tryz.ntmps67
noncomputable def azT:b9 75 5:=.k Tryz.func75 Tryz.ntmps75
noncomputable def azX:b9 79 15:=.k Tryz.func79 Tryz.ntmps79
noncomputable def az2:b9 86 86:=.k Tryz.func86 Tryz.ntmps86
noncomputable def VH:b9 96 108:=.k Tryz.func96 Tryz.ntmps96
noncomputable def axZ:b9 106 66:=.k Tryz.func106 Tryz.ntmps106
noncomputable def ax3:b9 110 20:=.k Tryz.func110 Tryz.ntmps110
noncomputable def ax9:b9 117 11:=.k Tryz.func117 Tryz.ntmps117
noncomputable def ayd:b9 121 11:=.k Tryz.func121 Tryz.ntmps121
noncomputable def ayg:b9 127 34:=.k Tryz.func127 Tryz.ntmps127
noncomputable def ayl:b9 131 36:=.k Tryz.func131 Tryz.ntmps131
noncomputable def afF:b9 135 46:=.k Tryz.func135 Tryz.ntmps135
noncomputable def ayr:b9 143 46:=.k Tryz.func143 Tryz.ntmps143
noncomputable def ayu:b9 147 52:=.k Tryz.func147 Tryz.ntmps147
noncomputable def ayx:b9 152 25:=.k Tryz.func152 Tryz.ntmps152
noncomputable def afJ:b9 156 17:=.k Tryz.func156 Tryz.ntmps156
noncomputable def afK:b9 163 13:=.k Tryz.func163 Tryz.ntmps163
noncomputable def ayI:b9 182 77:=.k Tryz.func182 Tryz.ntmps182
noncomputable def ayM:b9 186 42:=.k Tryz.func186 Tryz.ntmps186
noncomputable def ayQ:b9 190 16:=.k Tryz.func190 Tryz.ntmps190
noncomputable def ayT:b9 195 11:=.k Tryz.func195 Tryz.ntmps195
noncomputable def ayX:b9 204 42:=.k Tryz.func204 Tryz.ntmps204
noncomputable def ay5:b9 242 9:=.k Tryz.func242 Tryz.ntmps242
end Go.Sx
