/- A part of the proof that the statement holds. Conditions: none. -/
import Derived.Test.YtlbdbpaelcnfgaaGreatDoorAC
namespace Go.Sx
open Go.Proofs
set_option maxRecDepth 100000
set_option maxHeartbeats 0
set_option linter.all false
noncomputable def ay7:b9 245 44:=.k Tryz.func245 Tryz.ntmps245
noncomputable def ay8:b9 246 44:=.k Tryz.func246 Tryz.ntmps246
noncomputable def ay9:b9 247 27:=.k Tryz.func247 Tryz.ntmps247
noncomputable def azc:b9 251 46:=.k Tryz.func251 Tryz.ntmps251
noncomputable def azd:b9 252 42:=.k Tryz.func252 Tryz.ntmps252
noncomputable def aze:b9 253 33:=.k Tryz.func253 Tryz.ntmps253
noncomputable def azf:b9 254 24:=.k Tryz.func254 Tryz.ntmps254
noncomputable def azg:b9 255 38:=.k Tryz.func255 Tryz.ntmps255
noncomputable def azh:b9 256 27:=.k Tryz.func256 Tryz.ntmps256
noncomputable def azi:b9 258 32:=.k Tryz.func258 Tryz.ntmps258
noncomputable def azj:b9 259 31:=.k Tryz.func259 Tryz.ntmps259
noncomputable def azk:b9 260 37:=.k Tryz.func260 Tryz.ntmps260
noncomputable def azl:b9 261 6:=.k Tryz.func261 Tryz.ntmps261
end Go.Sx
