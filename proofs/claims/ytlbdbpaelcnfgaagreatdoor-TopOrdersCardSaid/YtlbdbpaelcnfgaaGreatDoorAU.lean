/- A part of the proof that the statement holds. Conditions: none. -/
import Derived.Test.YtlbdbpaelcnfgaaGreatDoorAC
namespace Go.Sx
open Go.Proofs
set_option maxRecDepth 100000
set_option maxHeartbeats 0
set_option linter.all false
noncomputable def axg:b5 245 44:=.k Tryz.func245 Tryz.ntmps245
noncomputable def axh:b5 246 44:=.k Tryz.func246 Tryz.ntmps246
noncomputable def axi:b5 247 27:=.k Tryz.func247 Tryz.ntmps247
noncomputable def axm:b5 251 46:=.k Tryz.func251 Tryz.ntmps251
noncomputable def axn:b5 252 42:=.k Tryz.func252 Tryz.ntmps252
noncomputable def axo:b5 253 33:=.k Tryz.func253 Tryz.ntmps253
noncomputable def axp:b5 254 24:=.k Tryz.func254 Tryz.ntmps254
noncomputable def axq:b5 255 38:=.k Tryz.func255 Tryz.ntmps255
noncomputable def axr:b5 256 27:=.k Tryz.func256 Tryz.ntmps256
noncomputable def axs:b5 258 32:=.k Tryz.func258 Tryz.ntmps258
noncomputable def axt:b5 259 31:=.k Tryz.func259 Tryz.ntmps259
noncomputable def axu:b5 260 37:=.k Tryz.func260 Tryz.ntmps260
noncomputable def axv:b5 261 6:=.k Tryz.func261 Tryz.ntmps261
end Go.Sx
