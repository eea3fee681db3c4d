/- A part of the proof that the statement holds. Conditions: none. -/
import Derived.Test.YtlbdbpaelcnfgaaGreatDoorAC
namespace Go.Sx
open Go.Proofs
set_option maxRecDepth 100000
set_option maxHeartbeats 0
set_option linter.all false
def ava:List cK:=[U 2 (.box 33 (.t 0)),U 4 (.alloc 37 [.slice none 0 0,.int .i64 0]),U 5 (.set (i 0))]
def avg:List cK:=[U 21 (.load true 2 (.t 2)),U 22 (.dY (.t 1)),U 23 (.call 57 [.t 21,.t 22]),U 20 (.dY (.t 23)),U 24 (.extract (.t 20) 0),U 25 (.extract (.t 20) 1),U 6 (.alloc 188 [.slice none 0 0,.slice none 0 0]),mr (.store 2 (.t 6) (.t 24)),U 7 (.set (.t 25))]
def avo:List cK:=[U 26 (.dY (.t 7)),U 27 (.cmp .neq (.t 26) (i 0))]
def avu:List cK:=[U 28 (.build [.slice none 0 0,.int .i64 0] []),U 29 (.dY (.t 7)),mr (.store 2 (.t 4) (.t 28)),U 5 (.set (.t 29))]
def avv:List cK:=[U 30 (.Ai 1 (.t 6)),U 31 (.load false 1 (.t 30)),U 32 (.len 27 (.t 31)),U 33 (.EY 27 3 1 8 [.int .i64 0] (.t 32) (.t 32)),U 8 (.set (.t 33))]
def avw:List cK:=[U 34 (.dY (.t 8)),U 35 (.len 27 (.t 34)),U 36 (.dY (i 0))]
def avx:List cK:=[U 37 (.cmp .lss (.t 36) (.t 35))]
def avy:List cK:=[U 38 (.dY (.t 36)),U 9 (.set (.t 38))]
def avz:List cK:=[U 39 (.dY (.t 8)),U 40 (.dY (.t 9)),U 41 (.dY (.t 9)),U 42 (.rM 1 (.t 39) (.t 40)),mr (.store 1 (.t 42) (.t 41))]
def avb:List cK:=[U 43 (.arith .add (.t 36) (i 1)),U 36 (.dY (.t 43))]
def adW:IR:=.seq (.cd avx) (.seq (.cond (.t 37) .skip (.exit 0)) (.seq (.block 1 (.seq (.cd avy) (.cd avz))) (.cd avb)))
def avc:List cK:=[U 44 (.dY (.t 8)),U 45 (.Oq 59 [.t 6]),U 46 (.call 58 [.t 44,.t 45])]
def avd:List cK:=[U 47 (.dY (.t 8)),U 48 (.len 27 (.t 47)),U 49 (.EY 35 142 2 16 [.int .i64 0,.int .i64 0] (.t 48) (.t 48)),U 10 (.set (.t 49))]
def ave:List cK:=[U 50 (.dY (.t 8)),U 51 (.len 27 (.t 50)),U 52 (.EY 193 4 1 1 [.bool false] (.t 51) (.t 51)),U 11 (.set (.t 52))]
def TS:List cK:=[U 53 (.dY (.t 8)),U 54 (.len 27 (.t 53)),U 55 (.dY (i 0))]
def adX:List cK:=[U 56 (.cmp .lss (.t 55) (.t 54))]
def adY:List cK:=[U 57 (.rM 1 (.t 53) (.t 55)),U 58 (.load false 1 (.t 57)),U 13 (.set (.t 58))]
def adZ:List cK:=[U 14 (.set (.c (.slice none 0 0)))]
def ad0:List cK:=[U 59 (.load true 2 (.t 6)),U 60 (.dY (.t 13)),U 61 (.call 61 [.t 59,.t 60]),U 62 (.len 27 (.t 61)),U 63 (.dY (i 0))]
def avf:List cK:=[U 64 (.cmp .lss (.t 63) (.t 62))]
def avh:List cK:=[U 65 (.rM 1 (.t 61) (.t 63)),U 66 (.load false 1 (.t 65)),U 16 (.set (.t 66))]
def avi:List cK:=[U 67 (.dY (.t 11)),U 68 (.dY (.t 16)),U 69 (.rM 1 (.t 67) (.t 68)),U 70 (.load false 1 (.t 69))]
def avj:List cK:=[U 71 (.dY (.t 14)),U 72 (.dY (.t 10)),U 73 (.dY (.t 16)),U 74 (.rM 2 (.t 72) (.t 73)),U 75 (.load true 2 (.t 74)),U 76 (.Gd 142 1 2 [.int .i64 0,.int .i64 0] [(0,.t 75)]),U 77 (.append 35 142 2 16 [.int .i64 0,.int .i64 0] (.t 71) (.t 76)),U 14 (.set (.t 77))]
def avk:List cK:=[U 78 (.arith .add (.t 63) (i 1)),U 63 (.dY (.t 78))]
def NS:IR:=.seq (.cd avf) (.seq (.cond (.t 64) .skip (.exit 4)) (.seq (.block 5 (.seq (.cd avh) (.seq (.cd avi) (.cond (.t 70) (.cd avj) .skip)))) (.cd avk)))
def ad1:List cK:=[U 79 (.dY (.t 14)),U 80 (.call 62 [.t 79,.fn 63])]
def ad2:List cK:=[U 81 (.Ai 1 (.t 6)),U 82 (.load false 1 (.t 81)),U 83 (.dY (.t 13)),U 84 (.rM 1 (.t 82) (.t 83)),U 85 (.load false 1 (.t 84)),U 86 (.build [.int .i64 0,.int .i64 0] [(1,1,.t 85)]),U 17 (.alloc 142 [.int .i64 0,.int .i64 0]),mr (.store 2 (.t 17) (.t 86))]
def J8:List cK:=[U 87 (.dY (.t 14)),U 88 (.len 35 (.t 87)),U 89 (.dY (i 0))]
def avl:List cK:=[U 90 (.cmp .lss (.t 89) (.t 88))]
def avm:List cK:=[U 91 (.rM 2 (.t 87) (.t 89)),U 92 (.load true 2 (.t 91)),U 19 (.alloc 142 [.int .i64 0,.int .i64 0]),mr (.store 2 (.t 19) (.t 92))]
def avn:List cK:=[U 93 (.load true 2 (.t 17)),U 94 (.load true 2 (.t 19)),U 95 (.call 64 [.t 93,.t 94])]
def avp:List cK:=[U 96 (.Ai 0 (.t 19)),U 97 (.load false 1 (.t 96)),U 98 (.Ai 1 (.t 19)),U 99 (.load false 1 (.t 98)),U 100 (.arith .add (.t 97) (.t 99)),U 101 (.Ai 0 (.t 17)),mr (.store 1 (.t 101) (.t 100))]
def avq:List cK:=[U 102 (.arith .add (.t 89) (i 1)),U 89 (.dY (.t 102))]
def J7:IR:=.seq (.cd avl) (.seq (.cond (.t 90) .skip (.exit 6)) (.seq (.block 7 (.seq (.cd avm) (.seq (.cd avn) (.cond (.t 95) (.cd avp) .skip)))) (.cd avq)))
def ad3:List cK:=[U 103 (.dY (.t 10)),U 104 (.dY (.t 13)),U 105 (.dY (.t 11)),U 106 (.dY (.t 13)),U 107 (.load true 2 (.t 17)),U 108 (.rM 2 (.t 103) (.t 104)),mr (.store 2 (.t 108) (.t 107)),U 109 (.rM 1 (.t 105) (.t 106)),mr (.store 1 (.t 109) (.c (.bool true)))]
def ad4:List cK:=[U 110 (.arith .add (.t 55) (i 1)),U 55 (.dY (.t 110))]
def TR:IR:=.seq (.cd adX) (.seq (.cond (.t 56) .skip (.exit 2)) (.seq (.block 3 (.seq (.cd adY) (.seq (.cd adZ) (.seq (.seq (.cd ad0) (.block 4 (.loop NS))) (.seq (.cd ad1) (.seq (.cd ad2) (.seq (.seq (.cd J8) (.block 6 (.loop J7))) (.cd ad3)))))))) (.cd ad4)))
def avr:List cK:=[U 111 (.dY (.t 10)),U 112 (.call 65 [.t 111]),U 113 (.cmp .gtr (.t 112) (i 1024))]
def avs:List cK:=[U 114 (.build [.slice none 0 0,.int .i64 0] []),mr (.store 2 (.t 4) (.t 114)),U 5 (.set (i 5))]
def avt:List cK:=[U 115 (.dY (.t 10)),U 116 (.dY (.t 10)),U 117 (.call 65 [.t 116]),U 118 (.build [.slice none 0 0,.int .i64 0] [(0,1,.t 115),(1,1,.t 117)]),mr (.store 2 (.t 4) (.t 118)),U 5 (.set (i 0))]
def au':IR:=.seq (.cd ava) (.seq (.cd avg) (.seq (.seq (.cd avo) (.cond (.t 27) (.seq (.cd avu) .ret) .skip)) (.seq (.cd avv) (.seq (.seq (.cd avw) (.block 0 (.loop adW))) (.seq (.cd avc) (.seq (.cd avd) (.seq (.cd ave) (.seq (.seq (.cd TS) (.block 2 (.loop TR))) (.seq (.seq (.cd avr) (.cond (.t 113) (.seq (.cd avs) .ret) .skip)) (.seq (.cd avt) .ret))))))))))
def auo:List cK:=[U 2 (.box 33 (.t 0)),U 4 (.set (.c (.slice none 0 0))),U 5 (.set (i 0))]
def auu:List cK:=[U 16 (.load true 2 (.t 2)),U 17 (.dY (.t 1)),U 18 (.call 158 [.t 16,.t 17]),U 15 (.dY (.t 18)),U 19 (.extract (.t 15) 0),U 20 (.extract (.t 15) 1),U 6 (.set (.t 19)),U 7 (.set (.t 20))]
def auC:List cK:=[U 21 (.dY (.t 7)),U 22 (.cmp .neq (.t 21) (i 0))]
def auD:List cK:=[U 23 (.dY (.t 7)),U 4 (.set (.c (.slice none 0 0))),U 5 (.set (.t 23))]
def auE:List cK:=[U 24 .Ot,U 8 (.set (.t 24))]
def TQ:List cK:=[U 25 (.dY (.t 6)),U 26 (.len 28 (.t 25)),U 27 (.dY (i 0))]
def adM:List cK:=[U 28 (.cmp .lss (.t 27) (.t 26))]
def adN:List cK:=[U 29 (.rM 1 (.t 25) (.t 27)),U 30 (.load false 1 (.t 29)),U 10 (.set (.t 30))]
def NR:List cK:=[U 31 (.dY (.t 10)),U 32 (.len 27 (.t 31)),U 33 (.dY (i 0))]
def adI:List cK:=[U 34 (.cmp .lss (.t 33) (.t 32))]
def adJ:List cK:=[U 35 (.dY (.t 33)),U 11 (.set (.t 35))]
def NQ:List cK:=[U 36 (.dY (.t 11)),U 37 (.dY (i 0))]
def aup:List cK:=[U 38 (.cmp .lss (.t 37) (.t 36))]
def auq:List cK:=[U 39 (.dY (.t 37)),U 12 (.set (.t 39))]
def aur:List cK:=[U 40 (.dY (.t 10)),U 41 (.dY (.t 12)),U 42 (.rM 1 (.t 40) (.t 41)),U 43 (.load false 1 (.t 42)),U 44 (.cmp .gtr (.t 43) (i 0)),U 45 (.dY (.t 44)),⟨some 46,some (45,true),.dY (.t 10)⟩,⟨some 47,some (45,true),.dY (.t 11)⟩,⟨some 48,some (45,true),.rM 1 (.t 46) (.t 47)⟩,⟨some 49,some (45,true),.load false 1 (.t 48)⟩,⟨some 50,some (45,true),.cmp .gtr (.t 49) (i 0)⟩,U 51 (.pick (.t 45) (.t 50) (.c (.bool false)))]
def aus:List cK:=[U 52 (.dY (.t 8)),U 53 (.dY (.t 12)),U 54 (.dY (.t 11)),U 55 (.build [.int .i64 0,.int .i64 0] [(0,1,.t 53),(1,1,.t 54)]),mr (.Oj 7 (.t 52) (.t 55) (i 1))]
def aut:List cK:=[U 56 (.arith .add (.t 37) (i 1)),U 37 (.dY (.t 56))]
def NP:IR:=.seq (.cd aup) (.seq (.cond (.t 38) .skip (.exit 4)) (.seq (.block 5 (.seq (.cd auq) (.seq (.cd aur) (.cond (.t 51) (.cd aus) .skip)))) (.cd aut)))
def adK:List cK:=[U 57 (.arith .add (.t 33) (i 1)),U 33 (.dY (.t 57))]
def NO:IR:=.seq (.cd adI) (.seq (.cond (.t 34) .skip (.exit 2)) (.seq (.block 3 (.seq (.cd adJ) (.seq (.cd NQ) (.block 4 (.loop NP))))) (.cd adK)))
def adL:List cK:=[U 58 (.arith .add (.t 27) (i 1)),U 27 (.dY (.t 58))]
def TO:IR:=.seq (.cd adM) (.seq (.cond (.t 28) .skip (.exit 0)) (.seq (.block 1 (.seq (.cd adN) (.seq (.cd NR) (.block 2 (.loop NO))))) (.cd adL)))
def auv:List cK:=[U 13 (.set (.c (.slice none 0 0)))]
def auw:List cK:=[U 59 (.dY (.t 8)),U 60 (.range (.t 59))]
def aux:List cK:=[U 61 (.next (.t 60)),U 62 (.extract (.t 61) 0)]
def auy:List cK:=[U 63 (.entry (.t 60)),U 64 (.extract (.t 63) 0),U 14 (.alloc 278 [.int .i64 0,.int .i64 0]),mr (.store 2 (.t 14) (.t 64))]
def auz:List cK:=[U 65 (.dY (.t 13)),U 66 (.load true 2 (.t 14)),U 67 (.Gd 278 1 2 [.int .i64 0,.int .i64 0] [(0,.t 66)]),U 68 (.append 186 278 2 16 [.int .i64 0,.int .i64 0] (.t 65) (.t 67)),U 13 (.set (.t 68))]
def TP:IR:=.seq (.cd aux) (.seq (.cond (.t 62) .skip (.exit 6)) (.block 7 (.seq (.cd auy) (.cd auz))))
def auA:List cK:=[U 69 (.dY (.t 13)),U 70 (.call 159 [.t 69,.fn 160])]
def auB:List cK:=[U 71 (.dY (.t 13)),U 4 (.set (.t 71)),U 5 (.set (i 0))]
def aun:IR:=.seq (.cd auo) (.seq (.cd auu) (.seq (.seq (.cd auC) (.cond (.t 22) (.seq (.cd auD) .ret) .skip)) (.seq (.cd auE) (.seq (.seq (.cd TQ) (.block 0 (.loop TO))) (.seq (.cd auv) (.seq (.seq (.cd auw) (.block 6 (.loop TP))) (.seq (.cd auA) (.seq (.cd auB) .ret))))))))
noncomputable def axd:b5 24 119:=⟨_,Tryz.func24,Tryz.ntmps24,by decide,rfl,au',by kernel_rfl⟩
noncomputable def awm:b5 119 72:=⟨_,Tryz.func119,Tryz.ntmps119,by decide,rfl,aun,by kernel_rfl⟩
end Go.Sx
