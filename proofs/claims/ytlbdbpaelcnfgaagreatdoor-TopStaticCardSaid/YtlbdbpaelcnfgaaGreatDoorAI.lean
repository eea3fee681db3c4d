/- A part of the proof that the statement holds. Conditions: none. -/
import Derived.Test.YtlbdbpaelcnfgaaGreatDoorAC
namespace Go.Sx
open Go.Proofs
set_option maxRecDepth 100000
set_option maxHeartbeats 0
set_option linter.all false
def awT:List cY:=[U 2 (.box 33 (.t 0)),U 4 (.alloc 37 [.slice none 0 0,.int .i64 0]),U 5 (.set (i 0))]
def awZ:List cY:=[U 21 (.load true 2 (.t 2)),U 22 (.et (.t 1)),U 23 (.call 57 [.t 21,.t 22]),U 20 (.et (.t 23)),U 24 (.extract (.t 20) 0),U 25 (.extract (.t 20) 1),U 6 (.alloc 188 [.slice none 0 0,.slice none 0 0]),hi (.store 2 (.t 6) (.t 24)),U 7 (.set (.t 25))]
def aw7:List cY:=[U 26 (.et (.t 7)),U 27 (.cmp .neq (.t 26) (i 0))]
def axc:List cY:=[U 28 (.build [.slice none 0 0,.int .i64 0] []),U 29 (.et (.t 7)),hi (.store 2 (.t 4) (.t 28)),U 5 (.set (.t 29))]
def axd:List cY:=[U 30 (.Bu 1 (.t 6)),U 31 (.load false 1 (.t 30)),U 32 (.len 27 (.t 31)),U 33 (.Gf 27 3 1 8 [.int .i64 0] (.t 32) (.t 32)),U 8 (.set (.t 33))]
def axe:List cY:=[U 34 (.et (.t 8)),U 35 (.len 27 (.t 34)),U 36 (.et (i 0))]
def axf:List cY:=[U 37 (.cmp .lss (.t 36) (.t 35))]
def axg:List cY:=[U 38 (.et (.t 36)),U 9 (.set (.t 38))]
def axh:List cY:=[U 39 (.et (.t 8)),U 40 (.et (.t 9)),U 41 (.et (.t 9)),U 42 (.sL 1 (.t 39) (.t 40)),hi (.store 1 (.t 42) (.t 41))]
def awU:List cY:=[U 43 (.arith .add (.t 36) (i 1)),U 36 (.et (.t 43))]
def afo:IR:=.seq (.ck axf) (.seq (.cond (.t 37) .skip (.exit 0)) (.seq (.block 1 (.seq (.ck axg) (.ck axh))) (.ck awU)))
def awV:List cY:=[U 44 (.et (.t 8)),U 45 (.PZ 59 [.t 6]),U 46 (.call 58 [.t 44,.t 45])]
def awW:List cY:=[U 47 (.et (.t 8)),U 48 (.len 27 (.t 47)),U 49 (.Gf 35 142 2 16 [.int .i64 0,.int .i64 0] (.t 48) (.t 48)),U 10 (.set (.t 49))]
def awX:List cY:=[U 50 (.et (.t 8)),U 51 (.len 27 (.t 50)),U 52 (.Gf 193 4 1 1 [.bool false] (.t 51) (.t 51)),U 11 (.set (.t 52))]
def Vx:List cY:=[U 53 (.et (.t 8)),U 54 (.len 27 (.t 53)),U 55 (.et (i 0))]
def afp:List cY:=[U 56 (.cmp .lss (.t 55) (.t 54))]
def afq:List cY:=[U 57 (.sL 1 (.t 53) (.t 55)),U 58 (.load false 1 (.t 57)),U 13 (.set (.t 58))]
def afr:List cY:=[U 14 (.set (.c (.slice none 0 0)))]
def afs:List cY:=[U 59 (.load true 2 (.t 6)),U 60 (.et (.t 13)),U 61 (.call 61 [.t 59,.t 60]),U 62 (.len 27 (.t 61)),U 63 (.et (i 0))]
def awY:List cY:=[U 64 (.cmp .lss (.t 63) (.t 62))]
def aw0:List cY:=[U 65 (.sL 1 (.t 61) (.t 63)),U 66 (.load false 1 (.t 65)),U 16 (.set (.t 66))]
def aw1:List cY:=[U 67 (.et (.t 11)),U 68 (.et (.t 16)),U 69 (.sL 1 (.t 67) (.t 68)),U 70 (.load false 1 (.t 69))]
def aw2:List cY:=[U 71 (.et (.t 14)),U 72 (.et (.t 10)),U 73 (.et (.t 16)),U 74 (.sL 2 (.t 72) (.t 73)),U 75 (.load true 2 (.t 74)),U 76 (.Hy 142 1 2 [.int .i64 0,.int .i64 0] [(0,.t 75)]),U 77 (.append 35 142 2 16 [.int .i64 0,.int .i64 0] (.t 71) (.t 76)),U 14 (.set (.t 77))]
def aw3:List cY:=[U 78 (.arith .add (.t 63) (i 1)),U 63 (.et (.t 78))]
def Pn:IR:=.seq (.ck awY) (.seq (.cond (.t 64) .skip (.exit 4)) (.seq (.block 5 (.seq (.ck aw0) (.seq (.ck aw1) (.cond (.t 70) (.ck aw2) .skip)))) (.ck aw3)))
def aft:List cY:=[U 79 (.et (.t 14)),U 80 (.call 62 [.t 79,.fn 63])]
def afu:List cY:=[U 81 (.Bu 1 (.t 6)),U 82 (.load false 1 (.t 81)),U 83 (.et (.t 13)),U 84 (.sL 1 (.t 82) (.t 83)),U 85 (.load false 1 (.t 84)),U 86 (.build [.int .i64 0,.int .i64 0] [(1,1,.t 85)]),U 17 (.alloc 142 [.int .i64 0,.int .i64 0]),hi (.store 2 (.t 17) (.t 86))]
def LD:List cY:=[U 87 (.et (.t 14)),U 88 (.len 35 (.t 87)),U 89 (.et (i 0))]
def aw4:List cY:=[U 90 (.cmp .lss (.t 89) (.t 88))]
def aw5:List cY:=[U 91 (.sL 2 (.t 87) (.t 89)),U 92 (.load true 2 (.t 91)),U 19 (.alloc 142 [.int .i64 0,.int .i64 0]),hi (.store 2 (.t 19) (.t 92))]
def aw6:List cY:=[U 93 (.load true 2 (.t 17)),U 94 (.load true 2 (.t 19)),U 95 (.call 64 [.t 93,.t 94])]
def aw8:List cY:=[U 96 (.Bu 0 (.t 19)),U 97 (.load false 1 (.t 96)),U 98 (.Bu 1 (.t 19)),U 99 (.load false 1 (.t 98)),U 100 (.arith .add (.t 97) (.t 99)),U 101 (.Bu 0 (.t 17)),hi (.store 1 (.t 101) (.t 100))]
def aw9:List cY:=[U 102 (.arith .add (.t 89) (i 1)),U 89 (.et (.t 102))]
def LC:IR:=.seq (.ck aw4) (.seq (.cond (.t 90) .skip (.exit 6)) (.seq (.block 7 (.seq (.ck aw5) (.seq (.ck aw6) (.cond (.t 95) (.ck aw8) .skip)))) (.ck aw9)))
def afv:List cY:=[U 103 (.et (.t 10)),U 104 (.et (.t 13)),U 105 (.et (.t 11)),U 106 (.et (.t 13)),U 107 (.load true 2 (.t 17)),U 108 (.sL 2 (.t 103) (.t 104)),hi (.store 2 (.t 108) (.t 107)),U 109 (.sL 1 (.t 105) (.t 106)),hi (.store 1 (.t 109) (.c (.bool true)))]
def afw:List cY:=[U 110 (.arith .add (.t 55) (i 1)),U 55 (.et (.t 110))]
def Vw:IR:=.seq (.ck afp) (.seq (.cond (.t 56) .skip (.exit 2)) (.seq (.block 3 (.seq (.ck afq) (.seq (.ck afr) (.seq (.seq (.ck afs) (.block 4 (.loop Pn))) (.seq (.ck aft) (.seq (.ck afu) (.seq (.seq (.ck LD) (.block 6 (.loop LC))) (.ck afv)))))))) (.ck afw)))
def aw':List cY:=[U 111 (.et (.t 10)),U 112 (.call 65 [.t 111]),U 113 (.cmp .gtr (.t 112) (i 1024))]
def axa:List cY:=[U 114 (.build [.slice none 0 0,.int .i64 0] []),hi (.store 2 (.t 4) (.t 114)),U 5 (.set (i 5))]
def axb:List cY:=[U 115 (.et (.t 10)),U 116 (.et (.t 10)),U 117 (.call 65 [.t 116]),U 118 (.build [.slice none 0 0,.int .i64 0] [(0,1,.t 115),(1,1,.t 117)]),hi (.store 2 (.t 4) (.t 118)),U 5 (.set (i 0))]
def awS:IR:=.seq (.ck awT) (.seq (.ck awZ) (.seq (.seq (.ck aw7) (.cond (.t 27) (.seq (.ck axc) .ret) .skip)) (.seq (.ck axd) (.seq (.seq (.ck axe) (.block 0 (.loop afo))) (.seq (.ck awV) (.seq (.ck awW) (.seq (.ck awX) (.seq (.seq (.ck Vx) (.block 2 (.loop Vw))) (.seq (.seq (.ck aw') (.cond (.t 113) (.seq (.ck axa) .ret) .skip)) (.seq (.ck axb) .ret))))))))))
def av3:List cY:=[U 2 (.box 33 (.t 0)),U 4 (.set (.c (.slice none 0 0))),U 5 (.set (i 0))]
def av9:List cY:=[U 16 (.load true 2 (.t 2)),U 17 (.et (.t 1)),U 18 (.call 158 [.t 16,.t 17]),U 15 (.et (.t 18)),U 19 (.extract (.t 15) 0),U 20 (.extract (.t 15) 1),U 6 (.set (.t 19)),U 7 (.set (.t 20))]
def awg:List cY:=[U 21 (.et (.t 7)),U 22 (.cmp .neq (.t 21) (i 0))]
def awh:List cY:=[U 23 (.et (.t 7)),U 4 (.set (.c (.slice none 0 0))),U 5 (.set (.t 23))]
def awi:List cY:=[U 24 .P0,U 8 (.set (.t 24))]
def Vv:List cY:=[U 25 (.et (.t 6)),U 26 (.len 28 (.t 25)),U 27 (.et (i 0))]
def afd:List cY:=[U 28 (.cmp .lss (.t 27) (.t 26))]
def afe:List cY:=[U 29 (.sL 1 (.t 25) (.t 27)),U 30 (.load false 1 (.t 29)),U 10 (.set (.t 30))]
def Pm:List cY:=[U 31 (.et (.t 10)),U 32 (.len 27 (.t 31)),U 33 (.et (i 0))]
def ae':List cY:=[U 34 (.cmp .lss (.t 33) (.t 32))]
def afa:List cY:=[U 35 (.et (.t 33)),U 11 (.set (.t 35))]
def Pl:List cY:=[U 36 (.et (.t 11)),U 37 (.et (i 0))]
def av4:List cY:=[U 38 (.cmp .lss (.t 37) (.t 36))]
def av5:List cY:=[U 39 (.et (.t 37)),U 12 (.set (.t 39))]
def av6:List cY:=[U 40 (.et (.t 10)),U 41 (.et (.t 12)),U 42 (.sL 1 (.t 40) (.t 41)),U 43 (.load false 1 (.t 42)),U 44 (.cmp .gtr (.t 43) (i 0)),U 45 (.et (.t 44)),⟨some 46,some (45,true),.et (.t 10)⟩,⟨some 47,some (45,true),.et (.t 11)⟩,⟨some 48,some (45,true),.sL 1 (.t 46) (.t 47)⟩,⟨some 49,some (45,true),.load false 1 (.t 48)⟩,⟨some 50,some (45,true),.cmp .gtr (.t 49) (i 0)⟩,U 51 (.pick (.t 45) (.t 50) (.c (.bool false)))]
def av7:List cY:=[U 52 (.et (.t 8)),U 53 (.et (.t 12)),U 54 (.et (.t 11)),U 55 (.build [.int .i64 0,.int .i64 0] [(0,1,.t 53),(1,1,.t 54)]),hi (.PU 7 (.t 52) (.t 55) (i 1))]
def av8:List cY:=[U 56 (.arith .add (.t 37) (i 1)),U 37 (.et (.t 56))]
def Pk:IR:=.seq (.ck av4) (.seq (.cond (.t 38) .skip (.exit 4)) (.seq (.block 5 (.seq (.ck av5) (.seq (.ck av6) (.cond (.t 51) (.ck av7) .skip)))) (.ck av8)))
def afb:List cY:=[U 57 (.arith .add (.t 33) (i 1)),U 33 (.et (.t 57))]
def Pj:IR:=.seq (.ck ae') (.seq (.cond (.t 34) .skip (.exit 2)) (.seq (.block 3 (.seq (.ck afa) (.seq (.ck Pl) (.block 4 (.loop Pk))))) (.ck afb)))
def afc:List cY:=[U 58 (.arith .add (.t 27) (i 1)),U 27 (.et (.t 58))]
def Vt:IR:=.seq (.ck afd) (.seq (.cond (.t 28) .skip (.exit 0)) (.seq (.block 1 (.seq (.ck afe) (.seq (.ck Pm) (.block 2 (.loop Pj))))) (.ck afc)))
def av':List cY:=[U 13 (.set (.c (.slice none 0 0)))]
def awa:List cY:=[U 59 (.et (.t 8)),U 60 (.range (.t 59))]
def awb:List cY:=[U 61 (.next (.t 60)),U 62 (.extract (.t 61) 0)]
def awc:List cY:=[U 63 (.entry (.t 60)),U 64 (.extract (.t 63) 0),U 14 (.alloc 278 [.int .i64 0,.int .i64 0]),hi (.store 2 (.t 14) (.t 64))]
def awd:List cY:=[U 65 (.et (.t 13)),U 66 (.load true 2 (.t 14)),U 67 (.Hy 278 1 2 [.int .i64 0,.int .i64 0] [(0,.t 66)]),U 68 (.append 186 278 2 16 [.int .i64 0,.int .i64 0] (.t 65) (.t 67)),U 13 (.set (.t 68))]
def Vu:IR:=.seq (.ck awb) (.seq (.cond (.t 62) .skip (.exit 6)) (.block 7 (.seq (.ck awc) (.ck awd))))
def awe:List cY:=[U 69 (.et (.t 13)),U 70 (.call 159 [.t 69,.fn 160])]
def awf:List cY:=[U 71 (.et (.t 13)),U 4 (.set (.t 71)),U 5 (.set (i 0))]
def av2:IR:=.seq (.ck av3) (.seq (.ck av9) (.seq (.seq (.ck awg) (.cond (.t 22) (.seq (.ck awh) .ret) .skip)) (.seq (.ck awi) (.seq (.seq (.ck Vv) (.block 0 (.loop Vt))) (.seq (.ck av') (.seq (.seq (.ck awa) (.block 6 (.loop Vu))) (.seq (.ck awe) (.seq (.ck awf) .ret))))))))
noncomputable def ay4:b9 24 119:=⟨_,Tryz.func24,Tryz.ntmps24,by decide,rfl,awS,by kernel_rfl⟩
noncomputable def aya:b9 119 72:=⟨_,Tryz.func119,Tryz.ntmps119,by decide,rfl,av2,by kernel_rfl⟩
end Go.Sx
