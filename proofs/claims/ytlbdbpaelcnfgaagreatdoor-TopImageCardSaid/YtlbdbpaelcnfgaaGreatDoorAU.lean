/- A part of the proof that the statement holds. Conditions: none. -/
import Derived.Test.YtlbdbpaelcnfgaaGreatDoorAC
namespace Go.Sx
open Go.Proofs
set_option maxRecDepth 100000
set_option maxHeartbeats 0
set_option linter.all false
noncomputable def aHp:b4 6 123:=.k Tryz.func6 Tryz.ntmps6
noncomputable def aJd:b4 18 115:=.k Tryz.func18 Tryz.ntmps18
noncomputable def aJe:b4 19 49:=.k Tryz.func19 Tryz.ntmps19
noncomputable def aJf:b4 20 25:=.k Tryz.func20 Tryz.ntmps20
noncomputable def aJt:b4 39 8:=.k Tryz.func39 Tryz.ntmps39
noncomputable def aJu:b4 40 14:=.k Tryz.func40 Tryz.ntmps40
noncomputable def aJv:b4 41 26:=.k Tryz.func41 Tryz.ntmps41
noncomputable def aJw:b4 97 17:=.k Tryz.func97 Tryz.ntmps97
noncomputable def aJx:b4 98 8:=.k Tryz.func98 Tryz.ntmps98
noncomputable def aJy:b4 99 21:=.k Tryz.func99 Tryz.ntmps99
noncomputable def aJa:b4 100 36:=.k Tryz.func100 Tryz.ntmps100
noncomputable def aJb:b4 101 29:=.k Tryz.func101 Tryz.ntmps101
noncomputable def aJc:b4 142 53:=.k Tryz.func142 Tryz.ntmps142
noncomputable def aJg:b4 245 44:=.k Tryz.func245 Tryz.ntmps245
noncomputable def aJh:b4 246 44:=.k Tryz.func246 Tryz.ntmps246
noncomputable def aJi:b4 247 27:=.k Tryz.func247 Tryz.ntmps247
noncomputable def aJj:b4 251 46:=.k Tryz.func251 Tryz.ntmps251
noncomputable def aJk:b4 252 42:=.k Tryz.func252 Tryz.ntmps252
noncomputable def aJl:b4 253 33:=.k Tryz.func253 Tryz.ntmps253
noncomputable def aJm:b4 254 24:=.k Tryz.func254 Tryz.ntmps254
noncomputable def aJn:b4 255 38:=.k Tryz.func255 Tryz.ntmps255
noncomputable def aJo:b4 256 27:=.k Tryz.func256 Tryz.ntmps256
noncomputable def aJp:b4 258 32:=.k Tryz.func258 Tryz.ntmps258
noncomputable def aJq:b4 259 31:=.k Tryz.func259 Tryz.ntmps259
noncomputable def aJr:b4 260 37:=.k Tryz.func260 Tryz.ntmps260
noncomputable def aJs:b4 261 6:=.k Tryz.func261 Tryz.ntmps261
end Go.Sx
