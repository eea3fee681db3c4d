/- A part of the proof that the statement holds. Conditions: none. -/
import Derived.Test.YtlbdbpaelcnfgaaGreatDoorAC
namespace Go.Sx
open Go.Proofs
set_option maxRecDepth 100000
set_option maxHeartbeats 0
set_option linter.all false
def apJ:List cC:=[J 2 (.box 33 (.t 0)),J 4 (.alloc 37 [.slice none 0 0,.int .i64 0]),J 5 (.set (i 0))]
def apP:List cC:=[J 21 (.load true 2 (.t 2)),J 22 (.b2 (.t 1)),J 23 (.call 57 [.t 21,.t 22]),J 20 (.b2 (.t 23)),J 24 (.extract (.t 20) 0),J 25 (.extract (.t 20) 1),J 6 (.alloc 188 [.slice none 0 0,.slice none 0 0]),bU (.store 2 (.t 6) (.t 24)),J 7 (.set (.t 25))]
def apX:List cC:=[J 26 (.b2 (.t 7)),J 27 (.cmp .neq (.t 26) (i 0))]
def ap3:List cC:=[J 28 (.build [.slice none 0 0,.int .i64 0] []),J 29 (.b2 (.t 7)),bU (.store 2 (.t 4) (.t 28)),J 5 (.set (.t 29))]
def ap4:List cC:=[J 30 (.dq 1 (.t 6)),J 31 (.load false 1 (.t 30)),J 32 (.len 27 (.t 31)),J 33 (.d7 27 3 1 8 [.int .i64 0] (.t 32) (.t 32)),J 8 (.set (.t 33))]
def ap5:List cC:=[J 34 (.b2 (.t 8)),J 35 (.len 27 (.t 34)),J 36 (.b2 (i 0))]
def ap6:List cC:=[J 37 (.cmp .lss (.t 36) (.t 35))]
def ap7:List cC:=[J 38 (.b2 (.t 36)),J 9 (.set (.t 38))]
def ap8:List cC:=[J 39 (.b2 (.t 8)),J 40 (.b2 (.t 9)),J 41 (.b2 (.t 9)),J 42 (.dX 1 (.t 39) (.t 40)),bU (.store 1 (.t 42) (.t 41))]
def apK:List cC:=[J 43 (.arith .add (.t 36) (i 1)),J 36 (.b2 (.t 43))]
def aaB:IR:=.seq (.ch ap6) (.seq (.cond (.t 37) .skip (.exit 0)) (.seq (.block 1 (.seq (.ch ap7) (.ch ap8))) (.ch apK)))
def apL:List cC:=[J 44 (.b2 (.t 8)),J 45 (.Mh 59 [.t 6]),J 46 (.call 58 [.t 44,.t 45])]
def apM:List cC:=[J 47 (.b2 (.t 8)),J 48 (.len 27 (.t 47)),J 49 (.d7 35 142 2 16 [.int .i64 0,.int .i64 0] (.t 48) (.t 48)),J 10 (.set (.t 49))]
def apN:List cC:=[J 50 (.b2 (.t 8)),J 51 (.len 27 (.t 50)),J 52 (.d7 193 4 1 1 [.bool false] (.t 51) (.t 51)),J 11 (.set (.t 52))]
def Rl:List cC:=[J 53 (.b2 (.t 8)),J 54 (.len 27 (.t 53)),J 55 (.b2 (i 0))]
def aaC:List cC:=[J 56 (.cmp .lss (.t 55) (.t 54))]
def aaD:List cC:=[J 57 (.dX 1 (.t 53) (.t 55)),J 58 (.load false 1 (.t 57)),J 13 (.set (.t 58))]
def aaE:List cC:=[J 14 (.set (.c (.slice none 0 0)))]
def aaF:List cC:=[J 59 (.load true 2 (.t 6)),J 60 (.b2 (.t 13)),J 61 (.call 61 [.t 59,.t 60]),J 62 (.len 27 (.t 61)),J 63 (.b2 (i 0))]
def apO:List cC:=[J 64 (.cmp .lss (.t 63) (.t 62))]
def apQ:List cC:=[J 65 (.dX 1 (.t 61) (.t 63)),J 66 (.load false 1 (.t 65)),J 16 (.set (.t 66))]
def apR:List cC:=[J 67 (.b2 (.t 11)),J 68 (.b2 (.t 16)),J 69 (.dX 1 (.t 67) (.t 68)),J 70 (.load false 1 (.t 69))]
def apS:List cC:=[J 71 (.b2 (.t 14)),J 72 (.b2 (.t 10)),J 73 (.b2 (.t 16)),J 74 (.dX 2 (.t 72) (.t 73)),J 75 (.load true 2 (.t 74)),J 76 (.kq 142 1 2 [.int .i64 0,.int .i64 0] [(0,.t 75)]),J 77 (.append 35 142 2 16 [.int .i64 0,.int .i64 0] (.t 71) (.t 76)),J 14 (.set (.t 77))]
def apT:List cC:=[J 78 (.arith .add (.t 63) (i 1)),J 63 (.b2 (.t 78))]
def LT:IR:=.seq (.ch apO) (.seq (.cond (.t 64) .skip (.exit 4)) (.seq (.block 5 (.seq (.ch apQ) (.seq (.ch apR) (.cond (.t 70) (.ch apS) .skip)))) (.ch apT)))
def aaG:List cC:=[J 79 (.b2 (.t 14)),J 80 (.call 62 [.t 79,.fn 63])]
def aaH:List cC:=[J 81 (.dq 1 (.t 6)),J 82 (.load false 1 (.t 81)),J 83 (.b2 (.t 13)),J 84 (.dX 1 (.t 82) (.t 83)),J 85 (.load false 1 (.t 84)),J 86 (.build [.int .i64 0,.int .i64 0] [(1,1,.t 85)]),J 17 (.alloc 142 [.int .i64 0,.int .i64 0]),bU (.store 2 (.t 17) (.t 86))]
def Il:List cC:=[J 87 (.b2 (.t 14)),J 88 (.len 35 (.t 87)),J 89 (.b2 (i 0))]
def apU:List cC:=[J 90 (.cmp .lss (.t 89) (.t 88))]
def apV:List cC:=[J 91 (.dX 2 (.t 87) (.t 89)),J 92 (.load true 2 (.t 91)),J 19 (.alloc 142 [.int .i64 0,.int .i64 0]),bU (.store 2 (.t 19) (.t 92))]
def apW:List cC:=[J 93 (.load true 2 (.t 17)),J 94 (.load true 2 (.t 19)),J 95 (.call 64 [.t 93,.t 94])]
def apY:List cC:=[J 96 (.dq 0 (.t 19)),J 97 (.load false 1 (.t 96)),J 98 (.dq 1 (.t 19)),J 99 (.load false 1 (.t 98)),J 100 (.arith .add (.t 97) (.t 99)),J 101 (.dq 0 (.t 17)),bU (.store 1 (.t 101) (.t 100))]
def apZ:List cC:=[J 102 (.arith .add (.t 89) (i 1)),J 89 (.b2 (.t 102))]
def Ik:IR:=.seq (.ch apU) (.seq (.cond (.t 90) .skip (.exit 6)) (.seq (.block 7 (.seq (.ch apV) (.seq (.ch apW) (.cond (.t 95) (.ch apY) .skip)))) (.ch apZ)))
def aaI:List cC:=[J 103 (.b2 (.t 10)),J 104 (.b2 (.t 13)),J 105 (.b2 (.t 11)),J 106 (.b2 (.t 13)),J 107 (.load true 2 (.t 17)),J 108 (.dX 2 (.t 103) (.t 104)),bU (.store 2 (.t 108) (.t 107)),J 109 (.dX 1 (.t 105) (.t 106)),bU (.store 1 (.t 109) (.c (.bool true)))]
def aaJ:List cC:=[J 110 (.arith .add (.t 55) (i 1)),J 55 (.b2 (.t 110))]
def Rk:IR:=.seq (.ch aaC) (.seq (.cond (.t 56) .skip (.exit 2)) (.seq (.block 3 (.seq (.ch aaD) (.seq (.ch aaE) (.seq (.seq (.ch aaF) (.block 4 (.loop LT))) (.seq (.ch aaG) (.seq (.ch aaH) (.seq (.seq (.ch Il) (.block 6 (.loop Ik))) (.ch aaI)))))))) (.ch aaJ)))
def ap0:List cC:=[J 111 (.b2 (.t 10)),J 112 (.call 65 [.t 111]),J 113 (.cmp .gtr (.t 112) (i 1024))]
def ap1:List cC:=[J 114 (.build [.slice none 0 0,.int .i64 0] []),bU (.store 2 (.t 4) (.t 114)),J 5 (.set (i 5))]
def ap2:List cC:=[J 115 (.b2 (.t 10)),J 116 (.b2 (.t 10)),J 117 (.call 65 [.t 116]),J 118 (.build [.slice none 0 0,.int .i64 0] [(0,1,.t 115),(1,1,.t 117)]),bU (.store 2 (.t 4) (.t 118)),J 5 (.set (i 0))]
def apI:IR:=.seq (.ch apJ) (.seq (.ch apP) (.seq (.seq (.ch apX) (.cond (.t 27) (.seq (.ch ap3) .ret) .skip)) (.seq (.ch ap4) (.seq (.seq (.ch ap5) (.block 0 (.loop aaB))) (.seq (.ch apL) (.seq (.ch apM) (.seq (.ch apN) (.seq (.seq (.ch Rl) (.block 2 (.loop Rk))) (.seq (.seq (.ch ap0) (.cond (.t 113) (.seq (.ch ap1) .ret) .skip)) (.seq (.ch ap2) .ret))))))))))
def aoS:List cC:=[J 2 (.box 33 (.t 0)),J 4 (.set (.c (.slice none 0 0))),J 5 (.set (i 0))]
def aoY:List cC:=[J 16 (.load true 2 (.t 2)),J 17 (.b2 (.t 1)),J 18 (.call 158 [.t 16,.t 17]),J 15 (.b2 (.t 18)),J 19 (.extract (.t 15) 0),J 20 (.extract (.t 15) 1),J 6 (.set (.t 19)),J 7 (.set (.t 20))]
def ao6:List cC:=[J 21 (.b2 (.t 7)),J 22 (.cmp .neq (.t 21) (i 0))]
def ao7:List cC:=[J 23 (.b2 (.t 7)),J 4 (.set (.c (.slice none 0 0))),J 5 (.set (.t 23))]
def ao8:List cC:=[J 24 .Mi,J 8 (.set (.t 24))]
def Rj:List cC:=[J 25 (.b2 (.t 6)),J 26 (.len 28 (.t 25)),J 27 (.b2 (i 0))]
def aar:List cC:=[J 28 (.cmp .lss (.t 27) (.t 26))]
def aas:List cC:=[J 29 (.dX 1 (.t 25) (.t 27)),J 30 (.load false 1 (.t 29)),J 10 (.set (.t 30))]
def LS:List cC:=[J 31 (.b2 (.t 10)),J 32 (.len 27 (.t 31)),J 33 (.b2 (i 0))]
def aan:List cC:=[J 34 (.cmp .lss (.t 33) (.t 32))]
def aao:List cC:=[J 35 (.b2 (.t 33)),J 11 (.set (.t 35))]
def LR:List cC:=[J 36 (.b2 (.t 11)),J 37 (.b2 (i 0))]
def aoT:List cC:=[J 38 (.cmp .lss (.t 37) (.t 36))]
def aoU:List cC:=[J 39 (.b2 (.t 37)),J 12 (.set (.t 39))]
def aoV:List cC:=[J 40 (.b2 (.t 10)),J 41 (.b2 (.t 12)),J 42 (.dX 1 (.t 40) (.t 41)),J 43 (.load false 1 (.t 42)),J 44 (.cmp .gtr (.t 43) (i 0)),J 45 (.b2 (.t 44)),⟨some 46,some (45,true),.b2 (.t 10)⟩,⟨some 47,some (45,true),.b2 (.t 11)⟩,⟨some 48,some (45,true),.dX 1 (.t 46) (.t 47)⟩,⟨some 49,some (45,true),.load false 1 (.t 48)⟩,⟨some 50,some (45,true),.cmp .gtr (.t 49) (i 0)⟩,J 51 (.pick (.t 45) (.t 50) (.c (.bool false)))]
def aoW:List cC:=[J 52 (.b2 (.t 8)),J 53 (.b2 (.t 12)),J 54 (.b2 (.t 11)),J 55 (.build [.int .i64 0,.int .i64 0] [(0,1,.t 53),(1,1,.t 54)]),bU (.Mf 7 (.t 52) (.t 55) (i 1))]
def aoX:List cC:=[J 56 (.arith .add (.t 37) (i 1)),J 37 (.b2 (.t 56))]
def LQ:IR:=.seq (.ch aoT) (.seq (.cond (.t 38) .skip (.exit 4)) (.seq (.block 5 (.seq (.ch aoU) (.seq (.ch aoV) (.cond (.t 51) (.ch aoW) .skip)))) (.ch aoX)))
def aap:List cC:=[J 57 (.arith .add (.t 33) (i 1)),J 33 (.b2 (.t 57))]
def LP:IR:=.seq (.ch aan) (.seq (.cond (.t 34) .skip (.exit 2)) (.seq (.block 3 (.seq (.ch aao) (.seq (.ch LR) (.block 4 (.loop LQ))))) (.ch aap)))
def aaq:List cC:=[J 58 (.arith .add (.t 27) (i 1)),J 27 (.b2 (.t 58))]
def Rh:IR:=.seq (.ch aar) (.seq (.cond (.t 28) .skip (.exit 0)) (.seq (.block 1 (.seq (.ch aas) (.seq (.ch LS) (.block 2 (.loop LP))))) (.ch aaq)))
def aoZ:List cC:=[J 13 (.set (.c (.slice none 0 0)))]
def ao0:List cC:=[J 59 (.b2 (.t 8)),J 60 (.range (.t 59))]
def ao1:List cC:=[J 61 (.next (.t 60)),J 62 (.extract (.t 61) 0)]
def ao2:List cC:=[J 63 (.entry (.t 60)),J 64 (.extract (.t 63) 0),J 14 (.alloc 278 [.int .i64 0,.int .i64 0]),bU (.store 2 (.t 14) (.t 64))]
def ao3:List cC:=[J 65 (.b2 (.t 13)),J 66 (.load true 2 (.t 14)),J 67 (.kq 278 1 2 [.int .i64 0,.int .i64 0] [(0,.t 66)]),J 68 (.append 186 278 2 16 [.int .i64 0,.int .i64 0] (.t 65) (.t 67)),J 13 (.set (.t 68))]
def Ri:IR:=.seq (.ch ao1) (.seq (.cond (.t 62) .skip (.exit 6)) (.block 7 (.seq (.ch ao2) (.ch ao3))))
def ao4:List cC:=[J 69 (.b2 (.t 13)),J 70 (.call 159 [.t 69,.fn 160])]
def ao5:List cC:=[J 71 (.b2 (.t 13)),J 4 (.set (.t 71)),J 5 (.set (i 0))]
def aoR:IR:=.seq (.ch aoS) (.seq (.ch aoY) (.seq (.seq (.ch ao6) (.cond (.t 22) (.seq (.ch ao7) .ret) .skip)) (.seq (.ch ao8) (.seq (.seq (.ch Rj) (.block 0 (.loop Rh))) (.seq (.ch aoZ) (.seq (.seq (.ch ao0) (.block 6 (.loop Ri))) (.seq (.ch ao4) (.seq (.ch ao5) .ret))))))))
noncomputable def ar0:b4 24 119:=⟨_,Tryz.func24,Tryz.ntmps24,by decide,rfl,apI,by kernel_rfl⟩
noncomputable def aq5:b4 119 72:=⟨_,Tryz.func119,Tryz.ntmps119,by decide,rfl,aoR,by kernel_rfl⟩
end Go.Sx
