/- A part of the proof that the statement holds. Conditions: none. -/
import Derived.Shelf.SlSortCmp.WholeK
import Derived.Shelf.SlGeneric
import Derived.Shelf.SlicesG.Cmp
import Derived.Ground.SlsfProg
import Derived.Ground.SlgcProg
import Derived.Test.YtlbdbpaelcnfgaaGreatDoorProg
import Derived.Shelf.Lay
import Derived.LoopN
import Derived.StillTailTactics
import Derived.Shelf.SlSortCmp.NoneTotal
import Derived.Test.YtlbdbpaelcnfgaaGreatDoorAC
import Derived.Test.YtlbdbpaelcnfgaaGreatDoorAD
import Derived.Test.YtlbdbpaelcnfgaaGreatDoorAE
import Derived.Test.YtlbdbpaelcnfgaaGreatDoorAF
import Derived.Test.YtlbdbpaelcnfgaaGreatDoorAG
import Derived.Test.YtlbdbpaelcnfgaaGreatDoorAH
import Derived.Test.YtlbdbpaelcnfgaaGreatDoorAI
import Derived.Test.YtlbdbpaelcnfgaaGreatDoorAJ
import Derived.Test.YtlbdbpaelcnfgaaGreatDoorAK
import Derived.Test.YtlbdbpaelcnfgaaGreatDoorAL
import Derived.Test.YtlbdbpaelcnfgaaGreatDoorAM
import Derived.Test.YtlbdbpaelcnfgaaGreatDoorAN
open And renaming intro->gj
open Array renaming getElem?_eq_getElem->Jz,getElem?_eq_some_iff->AK,getElem?_toList->AL,size_modify->alD
open Bool renaming and_eq_true->iv,eq_false_iff->GY,false_eq_true->ve
open Decidable renaming byContradiction->xH,not_not->alR
open Go renaming Addr->aE,Calls->GZ,FuncId->mT,Value->aA,World->bD,maxLen->eQ
open Go.Code renaming rounds->YV
open Go.IntKind renaming i64->n3
open Go.Lib renaming compareInt->wx
open Go.Obj renaming cells->bb
open Go.Proofs.AnyG renaming cmp_Compare_int->YL
open Go.Proofs.SlLaysC2 renaming n5->aIx
open Go.Proofs.SlLaysF0 renaming n6->al'
open Go.Proofs.Tryz renaming prog->aIy,func160->anB,func63->anD,isAgg0->anE,isAgg247->anF,isAgg248->anG,isAgg261->anH,isAgg3->So,isAgg358->anI,isAgg359->anJ,isAgg365->anK,isAgg387->anL,isAgg391->anM,isAgg4->ZM,isAgg404->anN,isAgg405->anO,isAgg5->anP,isAgg9->anQ,prog->aD,sizeOf0->anU,sizeOf247->anV,sizeOf248->anW,sizeOf261->anX,sizeOf3->Sp,sizeOf358->anY,sizeOf359->anZ,sizeOf365->an0,sizeOf387->an1,sizeOf391->an2,sizeOf4->ZN,sizeOf404->an3,sizeOf405->an4,sizeOf5->an5,sizeOf9->an6,underlying0->an7,underlying247->an',underlying248->aoa,underlying261->aoc,underlying3->wJ,underlying358->aoe,underlying359->aof,underlying365->aog,underlying387->aoh,underlying391->aoi,underlying4->ZP,underlying404->aoj,underlying405->aok,underlying5->aol,underlying9->CT,zeroValue0->aoo,zeroValue247->aop,zeroValue248->aoq,zeroValue261->aor,zeroValue3->Sq,zeroValue358->aos,zeroValue359->aot,zeroValue365->aou,zeroValue387->aov,zeroValue391->aow,zeroValue4->ZQ,zeroValue404->aox,zeroValue405->aoy,zeroValue5->aoz,zeroValue9->aoA
open Go.Shelf renaming Ren->Za
open Go.Sort renaming alloc_eq_grow->NH,flatK->HX,grow_grow->adg,putCells->I'
open Go.Value renaming bool->dh,int->bC,pointer->gR,slice->ab,tuple->eA
open Int renaming add_zero->amh,toNat_natCast->bn
open List renaming drop_eq_getElem_cons->l1,drop_eq_nil_of_le->py,ext_getElem->vj,ext_getElem?->RY,filter_append->RZ,flatten_cons->qN,getD_eq_getElem?_getD->cc,getElem?_eq_getElem->bK,getElem?_eq_none->l2,getElem?_take->G7,getElem_mem->b3,getElem_of_mem->n4,getElem_set->s6,length_cons->iJ,length_filter_le->Zm,map_append->fw,map_cons->er,map_set->kB,mem_append->eI,mem_cons->ez,mem_cons_of_mem->gd,mem_cons_self->hq,mem_filter->amJ,mem_map->cO,mem_map_of_mem->G9,mem_range->vl,mem_singleton->hZ,nodup_append->qP,nodup_range->amO,pairwise_cons->amP,pairwise_iff_getElem->Nm,range->fJ,range_succ->CG,replicate->bp,set_append_right->vm,set_cons_succ->JX,set_cons_zero->amQ,take_of_length_le->mJ,zipWith->sh
open List.Pairwise renaming filter->Zh,imp->amn
open Nat renaming add_sub_cancel_left->CJ,beq->ix,eq_of_beq_eq_true->rx,le_refl->dM,mul_one->e4,sub_self->xQ,zero_add->dZ,zero_le->cU
open Ne renaming symm->eh
open Or renaming inl->bQ,inr->ba
namespace Go.Sx
set_option maxRecDepth 100000
set_option maxHeartbeats 0
set_option linter.all false
theorem b9.low{f n:Nat}(o:b9 f n){b:Code}(h:o.fn.body=some b):lower aIy kY b=o.o.1:=by rw[<-o.o.2,h];rfl
def IR.l:IR->IR|.seq a _=>a|.cond _ a _=>a|.block _ b=>b|.loop b=>b|.scope b=>b|c=>c
def IR.r:IR->IR|.seq _ b=>b|.cond _ _ b=>b|c=>c
def IR.rg:IR->List cY|.ck r=>r|_=>[]
def IR.Mh:IR->kP|.Af r=>r|_=>default
noncomputable def av0:IR:=afC.o.1.r.r.r.r.l.r.l.l
noncomputable def afn:IR:=afP.o.1.r.r.r.r.r.r.r.r.r.r.r.l.r.l.l
noncomputable def axi:IR:=VE.o.1.r.r.r.r.r.r.r.r.r.l.r.l.l
noncomputable def axj:IR:=VE.o.1.r.r.r.r.r.r.r.r.r.r.l.r.l.l
noncomputable def axk:IR:=Ps.o.1.r.r.r.r.r.l.r.l.l
noncomputable def axl:IR:=Ps.o.1.r.r.r.r.r.r.l.r.l.l
noncomputable def axm:IR:=Ps.o.1.r.r.r.r.r.r.l.r.l.l.r.r.l.l.r.r.r.r.r.l.r.l.l
noncomputable def axn:kP:=VF.o.1.r.r.r.r.r.l.Mh
noncomputable def axo:List cY:=VF.o.1.r.r.r.r.r.r.l.r.l.r.l.rg
noncomputable def axu:IR:=LJ.o.1.r.r.r.l.r.l.l
noncomputable def axv:List cY:=LJ.o.1.r.r.r.r.l.rg
noncomputable def Vy:IR:=uH.o.1.r.r.l.r.l.l.r.l.r.l.l.l
noncomputable def axw:IR:=uH.o.1.r.r.l.r.l.l.r.l.r.r.r.r.l.r.l.l
noncomputable def axx:kP:=uH.o.1.r.r.l.r.l.l.r.l.r.r.l.r.l.r.l.Mh
noncomputable def axy:List cY:=uH.o.1.r.r.l.r.l.l.r.l.r.r.l.r.l.r.r.l.rg
noncomputable def axz:List cY:=uH.o.1.r.r.l.r.l.l.r.l.r.r.r.l.rg
noncomputable def axA:List cY:=uH.o.1.r.r.l.r.l.l.r.l.r.r.r.r.l.l.rg
noncomputable def axB:kP:=uH.o.1.r.r.l.r.l.l.r.l.r.r.r.r.r.l.Mh
noncomputable def axC:kP:=uH.o.1.r.r.l.r.l.l.r.l.r.r.r.r.r.r.l.Mh
noncomputable def axD:List cY:=uH.o.1.r.r.l.r.l.l.r.l.r.r.r.r.r.r.r.rg
noncomputable def afx:List cY:=uH.o.1.r.r.l.r.l.l.l.l.rg
noncomputable def Vz:List cY:=uH.o.1.r.r.l.r.l.l.r.l.l.rg
noncomputable def axE:List cY:=uH.o.1.r.r.l.r.l.l.r.l.r.r.l.l.rg
noncomputable def axF:kP:=uH.o.1.r.r.l.r.l.l.r.l.r.r.l.r.l.l.Mh
noncomputable def axG:IR:=zY.o.1.r.r.r.l.r.l.l
noncomputable def VA:IR:=zY.o.1.r.r.r.l.r.l.l.r.r.l.l.r.r.r.l.r.l.l
noncomputable def VB:IR:=zY.o.1.r.r.r.l.r.l.l.r.r.l.l.r.r.r.r.r.l.l
noncomputable def axH:IR:=zY.o.1.r.r.r.r.r.l.r.l.l
noncomputable def axI:IR:=zY.o.1.r.r.r.r.r.r.l.r.l.l
noncomputable def axJ:IR:=zY.o.1.r.r.r.r.r.r.r.l.r.l.l
noncomputable def axK:IR:=zY.o.1.r.r.r.r.r.r.r.r.l.r.l.l
noncomputable def afy:List cY:=zY.o.1.r.r.r.l.r.l.l.r.r.l.l.r.r.r.r.l.rg
noncomputable def afz:List cY:=zY.o.1.r.r.r.l.r.l.l.r.r.l.l.r.r.r.l.l.rg
noncomputable def axL:List cY:=afR.o.1.r.l.l.r.r.r.rg
noncomputable def axM:List cY:=afS.o.1.r.r.l.r.l.l.rg
noncomputable def axN:IR:=VG.o.1.r.r.r.r.r.r.l.r.l.l
noncomputable def axO:IR:=VG.o.1.r.r.r.r.r.r.r.r.r.r.r.l.l
noncomputable def axP:List cY:=afT.o.1.r.r.l.r.l.l.rg
noncomputable def axQ:IR:=afU.o.1.r.r.r.r.l.r.l.l
noncomputable def axR:IR:=VH.o.1.r.r.r.l.r.l.l
noncomputable def axS:IR:=VH.o.1.r.r.r.r.l.r.l.l
noncomputable def ae9:IR:=Pr.o.1.r.r.l.r.l.l
noncomputable def av1:List cY:=Pr.o.1.r.r.r.l.rg
noncomputable def awn:IR:=VD.o.1.r.r.r.r.l.l
noncomputable def awo:IR:=afE.o.1.r.r.r.l.r.l.l
noncomputable def awp:IR:=afF.o.1.r.r.l.r.l.l
noncomputable def awq:IR:=It.o.1.r.r.l.r.l.l
noncomputable def awr:IR:=It.o.1.r.r.l.r.l.l.r.r.l.l.r.r.r.r.l.r.l.l.r.l.l
noncomputable def aws:List cY:=It.o.1.r.r.l.r.l.l.r.r.l.l.r.r.r.r.l.r.r.r.l.r.r.r.r.l.rg
noncomputable def awt:List cY:=It.o.1.r.r.l.r.l.l.r.r.l.l.r.r.r.r.l.r.r.r.l.r.r.r.r.r.l.rg
noncomputable def awu:List cY:=It.o.1.r.r.l.r.l.l.r.r.l.l.r.r.r.r.l.r.r.r.l.r.r.r.r.r.r.rg
noncomputable def afg:List cY:=afI.o.1.r.r.l.rg
noncomputable def awv:IR:=ln.o.1.l.r.l.r.r.l.l.l
noncomputable def aww:IR:=ln.o.1.l.r.l.r.r.r.l.r.l.l
noncomputable def awx:IR:=ln.o.1.r.l.r.l.r.r.l.l.l
noncomputable def awy:IR:=ln.o.1.r.l.r.l.r.r.r.l.r.l.l
noncomputable def awz:IR:=ln.o.1.r.r.r.r.r.r.r.l.l.l
noncomputable def awA:List cY:=ln.o.1.l.l.rg
noncomputable def awB:List cY:=ln.o.1.r.l.l.rg
noncomputable def awC:List cY:=ln.o.1.r.l.r.l.l.rg
noncomputable def awD:List cY:=ln.o.1.r.l.r.l.r.l.rg
noncomputable def awE:List cY:=ln.o.1.l.r.l.l.rg
noncomputable def awF:List cY:=ln.o.1.r.l.r.l.r.r.r.l.l.rg
noncomputable def afh:List cY:=ln.o.1.r.r.l.rg
noncomputable def afi:List cY:=ln.o.1.r.r.r.l.rg
noncomputable def afj:List cY:=ln.o.1.r.r.r.r.l.rg
noncomputable def awG:List cY:=ln.o.1.r.r.r.r.r.l.l.rg
noncomputable def awH:List cY:=ln.o.1.r.r.r.r.r.l.r.l.l.rg
noncomputable def awI:List cY:=ln.o.1.l.r.l.r.l.rg
noncomputable def awJ:List cY:=ln.o.1.r.r.r.r.r.l.r.l.r.rg
noncomputable def awK:List cY:=ln.o.1.r.r.r.r.r.l.r.r.l.rg
noncomputable def awL:List cY:=ln.o.1.r.r.r.r.r.l.r.r.r.rg
noncomputable def awM:List cY:=ln.o.1.r.r.r.r.r.r.l.rg
noncomputable def afk:List cY:=ln.o.1.r.r.r.r.r.r.r.r.l.rg
noncomputable def afl:List cY:=ln.o.1.r.r.r.r.r.r.r.r.r.l.l.rg
noncomputable def afm:List cY:=ln.o.1.r.r.r.r.r.r.r.r.r.l.r.l.rg
noncomputable def awN:List cY:=ln.o.1.r.r.r.r.r.r.r.r.r.r.l.l.rg
noncomputable def awO:List cY:=ln.o.1.r.r.r.r.r.r.r.r.r.r.l.r.l.rg
noncomputable def awP:List cY:=ln.o.1.r.r.r.r.r.r.r.r.r.r.r.l.rg
noncomputable def awQ:List cY:=ln.o.1.r.r.r.r.r.r.r.r.r.r.r.r.l.rg
noncomputable def awR:List cY:=ln.o.1.l.r.l.r.r.r.l.l.rg
end Go.Sx
namespace Go.Proofs
open Go.Shelf
def Tryz.aFz:Za:=⟨λ|6=>159|15=>125|14=>194|28=>177|29=>178|20=>206|21=>207|22=>208|23=>209|24=>210|25=>211|26=>212|27=>213|46=>218|47=>198|48=>199|49=>219|50=>220|57=>221|n=>n,λ|22=>186|24=>278|25=>347|3=>3|39=>248|0=>0|53=>365|55=>247|4=>4|46=>359|45=>358|50=>261|5=>5|9=>9|66=>387|70=>391|76=>404|77=>405|n=>n,λ|n=>n⟩
theorem Tryz.aFy:al' aD Tryz.aFz:={mixed:=by kernel_rfl,f6:=⟨Tryz.f159.name,by decide,Tryz.func159.trans (congrArg some (by kernel_rfl))⟩,f14:=⟨Tryz.f194.name,by decide,Tryz.func194.trans (congrArg some (by kernel_rfl))⟩,f15:=Tryz.func125.trans (congrArg some (by kernel_rfl)),f20:=⟨Tryz.f206.name,by decide,Tryz.func206.trans (congrArg some (by kernel_rfl))⟩,f21:=⟨Tryz.f207.name,by decide,Tryz.func207.trans (congrArg some (by kernel_rfl))⟩,f22:=⟨Tryz.f208.name,by decide,Tryz.func208.trans (congrArg some (by kernel_rfl))⟩,f23:=⟨Tryz.f209.name,by decide,Tryz.func209.trans (congrArg some (by kernel_rfl))⟩,f24:=⟨Tryz.f210.name,by decide,Tryz.func210.trans (congrArg some (by kernel_rfl))⟩,f25:=⟨Tryz.f211.name,by decide,Tryz.func211.trans (congrArg some (by kernel_rfl))⟩,f26:=⟨Tryz.f212.name,by decide,Tryz.func212.trans (congrArg some (by kernel_rfl))⟩,f27:=⟨Tryz.f213.name,by decide,Tryz.func213.trans (congrArg some (by kernel_rfl))⟩,f28:=Tryz.func177.trans (congrArg some (by kernel_rfl)),f29:=Tryz.func178.trans (congrArg some (by kernel_rfl)),f46:=⟨Tryz.f218.name,by decide,Tryz.func218.trans (congrArg some (by kernel_rfl))⟩,f47:=Tryz.func198.trans (congrArg some (by kernel_rfl)),f48:=Tryz.func199.trans (congrArg some (by kernel_rfl)),f49:=⟨Tryz.f219.name,by decide,Tryz.func219.trans (congrArg some (by kernel_rfl))⟩,f50:=⟨Tryz.f220.name,by decide,Tryz.func220.trans (congrArg some (by kernel_rfl))⟩,f57:=⟨Tryz.f221.name,by decide,Tryz.func221.trans (congrArg some (by kernel_rfl))⟩,t0:=an7,a0:=anE,z0:=anU,v0:=aoo,t3:=wJ,a3:=So,z3:=Sp,v3:=Sq,t4:=ZP,a4:=ZM,z4:=ZN,v4:=ZQ,t5:=aol,a5:=anP,z5:=an5,v5:=aoz,t9:=CT,a9:=anQ,z9:=an6,v9:=aoA,t22:=Tryz.underlying186,a22:=Tryz.isAgg186,z22:=Tryz.sizeOf186,v22:=Tryz.zeroValue186,t25:=Tryz.underlying347,a25:=Tryz.isAgg347,z25:=Tryz.sizeOf347,v25:=Tryz.zeroValue347,t39:=aoa,a39:=anG,z39:=anW,v39:=aoq,t45:=aoe,a45:=anI,z45:=anY,v45:=aos,t46:=aof,a46:=anJ,z46:=anZ,v46:=aot,t50:=aoc,a50:=anH,z50:=anX,v50:=aor,t53:=aog,a53:=anK,z53:=an0,v53:=aou,t55:=an',a55:=anF,z55:=anV,v55:=aop,t66:=aoh,a66:=anL,z66:=an1,v66:=aov,t70:=aoi,a70:=anM,z70:=an2,v70:=aow,t76:=aoj,a76:=anN,z76:=an3,v76:=aox,t77:=aok,a77:=anO,z77:=an4,v77:=aoy}
def Tryz.aFB:Za:=⟨λ|6=>62|15=>125|14=>124|28=>177|29=>178|20=>169|21=>170|22=>171|23=>172|24=>173|25=>174|26=>175|27=>176|46=>197|47=>198|48=>199|49=>200|50=>201|57=>215|n=>n,λ|22=>35|24=>142|25=>195|3=>3|39=>248|0=>0|53=>365|55=>247|4=>4|46=>359|45=>358|50=>261|5=>5|9=>9|66=>387|70=>391|76=>404|77=>405|n=>n,λ|n=>n⟩
theorem Tryz.aFA:al' aD Tryz.aFB:={mixed:=by kernel_rfl,f6:=⟨Tryz.f62.name,by decide,Tryz.func62.trans (congrArg some (by kernel_rfl))⟩,f14:=⟨Tryz.f124.name,by decide,Tryz.func124.trans (congrArg some (by kernel_rfl))⟩,f15:=Tryz.func125.trans (congrArg some (by kernel_rfl)),f20:=⟨Tryz.f169.name,by decide,Tryz.func169.trans (congrArg some (by kernel_rfl))⟩,f21:=⟨Tryz.f170.name,by decide,Tryz.func170.trans (congrArg some (by kernel_rfl))⟩,f22:=⟨Tryz.f171.name,by decide,Tryz.func171.trans (congrArg some (by kernel_rfl))⟩,f23:=⟨Tryz.f172.name,by decide,Tryz.func172.trans (congrArg some (by kernel_rfl))⟩,f24:=⟨Tryz.f173.name,by decide,Tryz.func173.trans (congrArg some (by kernel_rfl))⟩,f25:=⟨Tryz.f174.name,by decide,Tryz.func174.trans (congrArg some (by kernel_rfl))⟩,f26:=⟨Tryz.f175.name,by decide,Tryz.func175.trans (congrArg some (by kernel_rfl))⟩,f27:=⟨Tryz.f176.name,by decide,Tryz.func176.trans (congrArg some (by kernel_rfl))⟩,f28:=Tryz.func177.trans (congrArg some (by kernel_rfl)),f29:=Tryz.func178.trans (congrArg some (by kernel_rfl)),f46:=⟨Tryz.f197.name,by decide,Tryz.func197.trans (congrArg some (by kernel_rfl))⟩,f47:=Tryz.func198.trans (congrArg some (by kernel_rfl)),f48:=Tryz.func199.trans (congrArg some (by kernel_rfl)),f49:=⟨Tryz.f200.name,by decide,Tryz.func200.trans (congrArg some (by kernel_rfl))⟩,f50:=⟨Tryz.f201.name,by decide,Tryz.func201.trans (congrArg some (by kernel_rfl))⟩,f57:=⟨Tryz.f215.name,by decide,Tryz.func215.trans (congrArg some (by kernel_rfl))⟩,t0:=an7,a0:=anE,z0:=anU,v0:=aoo,t3:=wJ,a3:=So,z3:=Sp,v3:=Sq,t4:=ZP,a4:=ZM,z4:=ZN,v4:=ZQ,t5:=aol,a5:=anP,z5:=an5,v5:=aoz,t9:=CT,a9:=anQ,z9:=an6,v9:=aoA,t22:=Tryz.underlying35,a22:=Tryz.isAgg35,z22:=Tryz.sizeOf35,v22:=Tryz.zeroValue35,t25:=Tryz.underlying195,a25:=Tryz.isAgg195,z25:=Tryz.sizeOf195,v25:=Tryz.zeroValue195,t39:=aoa,a39:=anG,z39:=anW,v39:=aoq,t45:=aoe,a45:=anI,z45:=anY,v45:=aos,t46:=aof,a46:=anJ,z46:=anZ,v46:=aot,t50:=aoc,a50:=anH,z50:=anX,v50:=aor,t53:=aog,a53:=anK,z53:=an0,v53:=aou,t55:=an',a55:=anF,z55:=anV,v55:=aop,t66:=aoh,a66:=anL,z66:=an1,v66:=aov,t70:=aoi,a70:=anM,z70:=an2,v70:=aow,t76:=aoj,a76:=anN,z76:=an3,v76:=aox,t77:=aok,a77:=anO,z77:=an4,v77:=aoy}
def Tryz.apY:Za:=⟨λ|5=>60|7=>123|n=>n,λ|22=>3|3=>3|4=>4|n=>n,λ|n=>n⟩
theorem Tryz.S1:aIx aD Tryz.apY:={mixed:=by kernel_rfl,f5:=⟨Tryz.f60.name,by decide,Tryz.func60.trans (congrArg some (by kernel_rfl))⟩,f7:=⟨Tryz.f123.name,by decide,Tryz.func123.trans (congrArg some (by kernel_rfl))⟩,t3:=wJ,a3:=So,z3:=Sp,v3:=Sq,t4:=ZP,a4:=ZM,z4:=ZN,v4:=ZQ,t22:=wJ,a22:=So,z22:=Sp,v22:=Sq}
end Go.Proofs
namespace Go.Proofs
open Go.Shelf Go.RowKit Go.Lib Go.Sort
def tl(x:Int×Int):List aA:=[bC .i64 x.1,bC .i64 x.2]
set_option maxHeartbeats 1000000 in
theorem apX(x y:Int×Int)(W:bD):GZ aD 63 #[.agg #[bC .i64 x.1,bC .i64 x.2],.agg #[bC .i64 y.1,bC .i64 y.2]] W λe bz=>e= .returned (bC .i64 (wx x.1 y.1))/\∃q c,bz=grow (W.drewN q) c:=by
 have a:=λb=>YL Tryz.S1 x.1 y.1 b;change ∀b,GZ aD 60 _ _ _ at a;generalize wx x.1 y.1=r at a⊢;go_enter anD,Tryz.ntmps63;go_wp2_with(go_at_call 60;refine(a _).mono ?_;rintro e bz ⟨rfl,rfl⟩);go_ret;exact⟨rfl,0,_,by rw[NH,NH,adg];rfl⟩
set_option maxHeartbeats 1000000 in
theorem aCP(x y:Int)(b:Nat)(W:bD)(am:W.cell? ⟨b,0,none⟩=some (bC .i64 x))(h1:W.cell? ⟨b,1,none⟩=some (bC .i64 y)):GZ aD 161 #[ab (some ⟨b,0,none⟩) 2 2] W λe bz=>e= .returned (bC .i64 (if x=0 then y else x))/\∃q,bz=W.drewN q:=by
 go_enter Tryz.func161,Tryz.ntmps161;go_wp2;refine wp_loop_rounds 3 ?_;unfold YV;go_wp2;exfalso;simp_all;go_ret;exact⟨rfl,0,rfl⟩;rename_i f;have c:x=0:=by simpa using f
 subst c;unfold YV;go_wp2;go_ret;exact⟨rfl,0,rfl⟩;rename_i d;have a:y=0:=by simpa using d
 subst a;unfold YV;go_wp2;go_ret;exact⟨rfl,0,rfl⟩
set_option maxHeartbeats 1000000 in
set_option maxRecDepth 100000 in
theorem apW(x y:Int×Int)(W:bD):GZ aD 160 #[.agg #[bC .i64 x.1,bC .i64 x.2],.agg #[bC .i64 y.1,bC .i64 y.2]] W λe bz=>e= .returned (bC .i64 (if wx x.1 y.1=0 then wx x.2 y.2 else wx x.1 y.1))/\∃q a,bz=grow (W.drewN q) a:=by
 have d:=λc=>YL Tryz.S1 x.1 y.1 c;have f:=λc=>YL Tryz.S1 x.2 y.2 c;change ∀c,GZ aD 60 _ _ _ at d;change ∀c,GZ aD 60 _ _ _ at f;generalize wx x.1 y.1=r at d⊢;generalize wx x.2 y.2=s at f⊢;go_enter anB,Tryz.ntmps160;go_wp2;have h:((W.alloc (bb #[bC n3 x.fst,bC n3 x.snd] 278)).alloc (bb #[bC n3 y.fst,bC n3 y.snd] 278)).cell? ⟨W.heap.size,0,none⟩=some (bC .i64 x.1):=by simp
 have c1:((W.alloc (bb #[bC n3 x.fst,bC n3 x.snd] 278)).alloc (bb #[bC n3 y.fst,bC n3 y.snd] 278)).cell? ⟨W.heap.size,1,none⟩=some (bC .i64 x.2):=by simp
 have c2:((W.alloc (bb #[bC n3 x.fst,bC n3 x.snd] 278)).alloc (bb #[bC n3 y.fst,bC n3 y.snd] 278)).cell? ⟨W.heap.size+1,0,none⟩=some (bC .i64 y.1):=by simp
 have i:((W.alloc (bb #[bC n3 x.fst,bC n3 x.snd] 278)).alloc (bb #[bC n3 y.fst,bC n3 y.snd] 278)).cell? ⟨W.heap.size+1,1,none⟩=some (bC .i64 y.2):=by simp
 have g0:∃a,((W.alloc (bb #[bC n3 x.fst,bC n3 x.snd] 278)).alloc (bb #[bC n3 y.fst,bC n3 y.snd] 278))=grow W a:=⟨_,by rw[NH,NH,adg]⟩;generalize((W.alloc (bb #[bC n3 x.fst,bC n3 x.snd] 278)).alloc (bb #[bC n3 y.fst,bC n3 y.snd] 278))=b at h c1 c2 i g0⊢;refine wp_region_still_tail 10 (by kernel_rfl) (by kernel_rfl) ?_;change wpStill _ _ b.drew _ _ _;have d0:b.drew.cell? ⟨W.heap.size,0,none⟩=some (bC .i64 x.1):=h;have d1:b.drew.cell? ⟨W.heap.size,1,none⟩=some (bC .i64 x.2):=c1;have d2:b.drew.cell? ⟨W.heap.size+1,0,none⟩=some (bC .i64 y.1):=c2;have d3:b.drew.cell? ⟨W.heap.size+1,1,none⟩=some (bC .i64 y.2):=i;generalize b.drew=k at d0 d1 d2 d3⊢;clear h c1 c2 i;simp only[List.take_succ_cons,List.take_zero,List.drop_succ_cons,List.drop_zero];iterate 4 still_step
 still_call(d _);iterate 4 still_step
 still_call(f _);refine wpStill_nil ?_;change wpList _ _ _ _ _ b.drew;have g1:∃a,b.drew=grow (W.drewN 1) a:=by
  obtain⟨a,g0⟩:=g0;exact⟨a,by rw[g0];rfl⟩
 generalize b.drew=g at g1⊢;have j:=aCP r s g.heap.size;go_wp2_with(go_at_call 161;refine(j _ (by simp) (by simp)).mono ?_;rintro e bz ⟨rfl,q,rfl⟩);all_goals
  go_ret
  obtain⟨a,rfl⟩:=g1
  have e:∀U,((grow (W.drewN 1) a).alloc U).drewN q=grow (W.drewN (1+q)) (a++#[U]):=λU=>by rw[NH,adg,<-World.drewN_drewN];rfl
  exact⟨rfl,1+q,_,e _⟩
def HD(x y:Int×Int):Int:=if wx x.1 y.1=0 then wx x.2 y.2 else wx x.1 y.1
def C7(x y:Int×Int):Int:=wx x.1 y.1
theorem PQ x y:ltOf C7 x y=decide (x.1<y.1):=by
 unfold ltOf C7 wx;by_cases h1:x.1<y.1;simp[h1];by_cases ae:y.1<x.1<;>simp[h1,ae]
theorem PR x y:ltOf HD x y=decide (x.1<y.1\/x.1=y.1/\x.2<y.2):=by
 unfold ltOf HD wx;by_cases h1:x.1<y.1;simp[h1];by_cases ae:y.1<x.1;have:¬x.1=y.1:=by omega
 simp[h1,ae,this];have:x.1=y.1:=by omega
 by_cases a:x.2<y.2;simp[a,this];by_cases aT:y.2<x.2<;>simp[a,aT,this]
theorem aF4:SWO (ltOf C7)where
 irrefl x:=by rw[PQ];simp
 trans x y z h1 ae:=by rw[PQ]at*;simp at*;omega
 ntrans x y z h1 ae:=by rw[PQ]at*;simp at*;omega
theorem aF5:SWO (ltOf HD)where
 irrefl x:=by rw[PR];simp
 trans x y z h1 ae:=by rw[PR]at*;simp only[decide_eq_true_eq]at*;omega
 ntrans x y z h1 ae:=by rw[PR]at*;simp only[decide_eq_false_iff_not]at*;omega
end Go.Proofs
namespace Go.Sx
set_option maxRecDepth 100000
set_option maxHeartbeats 0
set_option linter.all false
theorem aay{x y a b:Int}(e:0<=x)(c:x<=a)(d:0<=y)(f:y<=b):0<=x*y/\x*y<=a*b:=⟨Int.mul_nonneg e d,Int.mul_le_mul c f d (Int.le_trans e c)⟩
end Go.Sx
namespace Go.Sx
open Go.Proofs
set_option maxRecDepth 100000
set_option maxHeartbeats 0
set_option linter.all false
variable {rows:List (List Int)}{a az cW f l t:List Int}{xs:List aA}{ad:List b2}{M N T b bF bx cap gt n o size v:Nat}{p q:Nat->Bool}{dn:Nat->List Nat}{cq:Nat->Option aE×Nat}{S:Nat->Prop}{A:Option aE}
def Ai(k:Int):Bool:=decide (1<=k)&&decide (k<=64)
def qy(N v:Int):Bool:=decide (0<=v)&&decide (v<N)
def po(N:Int)(a:b2):Int:=
 if(!(qy N a.src&&qy N a.dst))=true then 100 else if(!(Ai a.gm&&Ai a.take))=true then 101 else if a.start<0\/256<a.start then 88 else 0
def x8(N:Int):List b2->Int
 |[]=>0
 |a::l=>if po N a≠0 then po N a else x8 N l
def fF(N:Int)(l:List b2):Int:=if N<1\/32<N then 100 else if 96<l.length then 81 else x8 N l
theorem IY N v:qy N v=true↔0<=v/\v<N:=by simp[qy]
theorem WN v:Ai v=true↔1<=v/\v<=64:=by simp[Ai]
theorem aCs{N:Int}{a:b2}(hk:¬(qy N a.src=true/\qy N a.dst=true)):po N a=100:=by
 grind [po]
theorem aCt{N:Int}{a:b2}(h1:qy N a.src=true)(ae:qy N a.dst=true)(hk:¬(Ai a.gm=true/\Ai a.take=true)):po N a=101:=by
 grind [po]
theorem aCu{N:Int}{a:b2}(h1:qy N a.src=true)(ae:qy N a.dst=true)(b:Ai a.gm=true)(aT:Ai a.take=true):po N a=if a.start<0\/256<a.start then 88 else 0:=by
 simp[po,h1,ae,b,aT]
theorem NS N A n cap l h(f:bg h 5 A n (l.map b2.cells))(C:n<=9223372036854775806):Fn aD 106 #[nQ N A n cap] h λr aa=>r=R (fF N l)/\aa=h:=by
 have al:l.length=n:=by simpa using f.len
 refine bU axZ rfl ?_;refine aW (λh1=>?_) (λh1=>?_);refine .ag ⟨?_,rfl⟩;simp[fF,h1,kL,R];refine aW (λae=>?_) (λae=>?_);refine .ag ⟨?_,rfl⟩;simp[fF,ae,kL,R];refine aW (λw=>?_) (λw=>?_);refine .ag ⟨?_,rfl⟩
 grind [fF,kL,R]
 refine .mk Nat [1,18,19,20] (λi=>[.p 0 0,.v (ab A n cap),.v (R n),.v (R i)]) (λ_=>[.own [.v (R N),.v (ab A n cap)] 33]) (λi aa=>aa=h/\i<=n/\x8 N (l.drop i)=x8 N l) (λi=>n-i) 0 (λ_=>rfl) ⟨rfl,cU _,rfl⟩ rfl rfl ?_;rintro i e aa ⟨rfl,D,j⟩;have av:fF N l=x8 N (l.drop i):=by rw[j];grind [fF]
 refine aW (λaT=>?_) (λaT=>?_);have y:i<n:=I;have u:l.drop i=l[i]::l.drop (i+1):=l1 I;rw[u]at av j;obtain⟨g,k⟩:=f.b4 I;have b:po N l[i]≠0->fF N l=po N l[i]:=λhk=>by simp_all[av,x8]
 have B:po N l[i]=0->x8 N (l.drop (i+1))=x8 N l:=λhk=>by simp_all[<-j,x8]
 have c:=@aCs N l[i];have d:=@aCt N l[i];have a:=@aCu N l[i];simp only[IY,WN]at c d a;refine .m g k ?_;refine .hp l[i].cells rfl (by rw[bn];exact f.row k (jx I)) ?_;refine aW (λt=>?_) (λt=>?_);refine .ag ⟨?_,rfl⟩;rw[b]<;>rw[c I]<;>first|rfl|decide
 refine aW (λs=>?_) (λs=>?_);refine .ag ⟨?_,rfl⟩;rw[b]<;>rw[c I]<;>first|rfl|decide
 refine aW (λx=>?_) (λx=>?_);refine .ag ⟨?_,rfl⟩;rw[b]<;>rw[d I I I]<;>first|rfl|decide
 refine aW (λz=>?_) (λz=>?_);refine .ag ⟨?_,rfl⟩;rw[b]<;>rw[d I I I]<;>first|rfl|decide
 have a:=a I I I I;refine aW (λo=>?_) (λo=>?_);refine .ag ⟨?_,rfl⟩;rw[aS (bQ o)]at a;rw[b]<;>rw[a]<;>first|rfl|decide
 refine aW (λq=>?_) (λq=>?_);refine .ag ⟨?_,rfl⟩;rw[aS (ba q)]at a;rw[b]<;>rw[a]<;>first|rfl|decide
 rw[aC I]at a;refine .bl ?_;exact⟨i+1,rfl,rfl,⟨rfl,y,B a⟩,I⟩;refine .ag ⟨?_,rfl⟩;rw[av,py I];rfl
theorem aCG{rows:List (List aA)}(hw:∀r∈rows,∀u∈r,u.oneCell'=true):∀u∈rows.flatten,u.oneCell'=true:=by
 intro u hu;obtain⟨r,a,hu⟩:=List.mem_flatten.1 hu
 grind
theorem ia(l:List b2):∀u∈(l.map b2.cells).flatten,u.oneCell'=true:=aCG λr b u hu=>by
 obtain⟨a,_,rfl⟩:=cO.1 b;simp only[b2.cells,ez,List.not_mem_nil,or_false]at hu;rcases hu with rfl|rfl|rfl|rfl|rfl<;>rfl
theorem aaZ{N:Int}:∀{l:List b2},x8 N l=0->∀a∈l,po N a=0
 |[],_,a,h=>by cases h
 |b::l,h,a,c=>by
  simp only[x8]at h;split at h;omega;rename_i h1;rcases ez.1 c with rfl|c;omega;exact aaZ h a c
theorem sT{N:Int}{a:b2}(h:po N a=0):0<=a.src/\a.src<N/\0<=a.dst/\a.dst<N/\1<=a.gm/\a.gm<=64/\1<=a.take/\a.take<=64/\0<=a.start/\a.start<=256:=by
 cases b:qy N a.src<;>cases c:qy N a.dst<;>cases d:Ai a.gm<;>cases e:Ai a.take<;>simp[po,b,c,d,e]at h;have h1:=(IY _ _).1 b;have ae:=(IY _ _).1 c;have f:=(WN _).1 d;have aT:=(WN _).1 e;omega
theorem mM{N:Int}{l:List b2}(h:fF N l=0):1<=N/\N<=32/\l.length<=96/\∀a∈l,po N a=0:=by
 unfold fF at h;split at h;omega;split at h;omega;rename_i h1 ae;exact⟨I,I,I,aaZ h⟩
theorem J.tS(h:J) b U a:(h.put b U).put b a=h.put b a:=by
 grind [J.put]
variable {X aa am bs cE h:J}
theorem lz{α:Type}{l:List α}{i:Nat} a:l.take (i+1)=l.take i++[l[i]]:=by
 simp
theorem bg.lit{ty:Nat}{cs:List aA}{rows:List (List aA)}(f:h b=some (bb cs.toArray ty (0,0)))(j:rows.flatten=cs)(hw:∀r∈rows,r.length=size)(c:rows.length=n):bg h size (some ⟨b,0,none⟩) n rows:=by
 refine⟨c,hw,λ_=>⟨_,rfl⟩,λg a i r d o v e=>?_⟩;injection a with a;subst a;have:=Fc _ hw i o r v d e;rw[add_lit,dZ,J.cell?]
 grind
theorem Qw{U:Obj}:(h.put b U) b=some U:=J.b8 _ _ _
theorem io{α:Type}:∀(l:List α) off v,off<l.length->over l off [v]=some (l.set off v)
 |[],off,v,h=>by simp at h
 |x::l,0,v,_=>by simp[over]
 |x::l,off+1,v,h=>by simp only[over,io l off v aL,JX]
theorem acI{size:Nat}:∀(rows:List (List aA)),(∀r∈rows,r.length=size)->∀i o r v,rows[i]?=some r->o<size->rows.flatten.set (i*size+o) v=(rows.set i (r.set o v)).flatten
 |[],_,i,o,r,v,h,_=>by simp at h
 |q::rows,hw,i,o,r,v,h,a=>by
  have c:=hw q bc;cases i with
  |zero=>
   grind
  |succ i=>
   rw[qN,vm _ _ aL,JX,qN];have:=acI rows (λr b=>hw r (by simp[b])) i o r v aL a
   grind
theorem bw.write{off:Nat}(x:bw h bF size A n cap xs)(j:off<n*size) v:∃g cs d,A=some ⟨g,0,none⟩/\h g=some (bb cs.toArray bF (0,0))/\over cs off [v]=some d/\bw (h.put g (bb d.toArray bF (0,0))) bF size A n cap (xs.set off v):=by
 obtain⟨h1,ae⟩:=x;rcases ae with⟨_,ae,_⟩|⟨g,a,b,i,c,e,l,f⟩
 grind
 have k:n*size<=cap*size:=Nat.mul_le_mul_right size c;refine⟨g,a.toList,a.toList.set off v,b,I,io _ _ _ aL,aL,ba ⟨g,(a.toList.set off v).toArray,b,J.b8 _ _ _,c,e,aL,?_⟩⟩;rw[<-f];simp only[List.take_set]
def ins(ad:List b2)(v:Nat):List Nat:=(fJ ad.length).filter λi=>decide ((ad[i]?).map b2.dst=some (v:Int))
def outs(ad:List b2)(v:Nat):List Nat:=(fJ ad.length).filter λi=>decide ((ad[i]?).map b2.src=some (v:Int))
def pP(l:List Nat):List (List aA):=l.map λ(i:Nat)=>[R (i:Int)]
def yO(N:Nat)(len:Nat->Nat)(a:Nat->Option aE×Nat):List (List aA):=(fJ N).map λv=>[ab (a v).1 (len v) (a v).2]
structure aoC(bs:J)(b gt bx N:Nat)(ad:List b2)(fN h9 h':Option aE)(cw ci co:Nat)(b7 O:Nat->Option aE×Nat):Prop where
 head:bs b=some (bb #[ab fN ad.length cw,ab h9 N ci,ab h' N co,ab (some ⟨gt,0,none⟩) ad.length ad.length,ab (some ⟨bx,0,none⟩) N N] 271 (0,0))
 dK:bg bs 5 fN ad.length (ad.map b2.cells)
 Vr:bg bs 1 h9 N (yO N (λv=>(ins ad v).length) b7)
 out:bg bs 1 h' N (yO N (λv=>(outs ad v).length) O)
 aeV:∀v,v<N->bg bs 1 (b7 v).1 (ins ad v).length (pP (ins ad v))
 aig:∀v,v<N->bg bs 1 (O v).1 (outs ad v).length (pP (outs ad v))
 o9:bs gt=none
 o8:bs bx=none
 ne:gt≠bx
structure tc(bs:J)(b gt bx N:Nat)(ad:List b2):Prop where
 ex:∃fN h9 h' cw ci co b7 O,aoC bs b gt bx N ad fN h9 h' cw ci co b7 O
theorem tc.mono{bs cE:J}{b gt bx N:Nat}{ad:List b2}(w:tc bs b gt bx N ad)(x:bs.le cE)(h1:cE gt=none)(ae:cE bx=none):tc cE b gt bx N ad:=by
 obtain⟨e,g,f,d,ci,co,c,O,w⟩:=w.ex;exact⟨e,g,f,d,ci,co,c,O,⟨x _ _ w.head,w.dK.mono x,w.Vr.mono x,w.out.mono x,λv a=>(w.aeV v a).mono x,λv a=>(w.aig v a).mono x,h1,ae,w.ne⟩⟩
def hP(l:List Int):Obj:=bb (l.map R).toArray 3 (0,0)
def st(bs:J)(gt bx:Nat)(dc cW:List Int):J:=(bs.put gt (hP dc)).put bx (hP cW)
section
variable {bs h:J}{b gt bx N:Nat}{ad:List b2}{dc cW:List Int}
theorem J.kI(h1:bs gt=none)(ae:bs bx=none):bs.le (st bs gt bx dc cW):=λo U e=>by
 unfold st;rw[J.cD _ _ (λq=>aL),J.cD _ _ (λq=>aL)];exact e
theorem GH(a:gt≠bx):st bs gt bx dc cW gt=some (hP dc):=by
 unfold st;rw[J.cD _ _ a,J.b8]
theorem Jm:st bs gt bx dc cW bx=some (hP cW):=by
 unfold st;rw[J.b8]
theorem MJ(c:gt≠bx)(h1:bs gt=none)(ae:bs bx=none)(x:(st bs gt bx dc cW).le aa):∃cE,aa=st cE gt bx dc cW/\bs.le cE/\cE gt=none/\cE bx=none:=by
 refine⟨(aa.del gt).del bx,?_,λo U e=>?_,?_,J.HJ _ _⟩;funext o;unfold st;by_cases b:o=bx;subst b;rw[J.b8];exact x _ _ Jm;rw[J.cD _ _ b];by_cases a:o=gt;subst a;rw[J.b8];exact x _ _ (GH c);rw[J.cD _ _ a,J.nA _ b,J.nA _ a];have b:o≠bx:=λq=>by grind
 have a:o≠gt:=λq=>by grind
 rw[J.nA _ b,J.nA _ a];exact x _ _ (J.kI h1 ae _ _ e);rw[J.nA _ c,J.HJ]
theorem aFI t:(st bs gt bx dc cW).put gt (hP t)=st bs gt bx t cW\/gt=bx:=by
 by_cases e:gt=bx;omega;left;funext o;simp only[st,J.put]
 grind
theorem aFG f:(st bs gt bx dc cW).put bx (hP f)=st bs gt bx dc f:=by
 unfold st;rw[J.tS]
theorem b1{a:J}{cs:List aA}{b ty:Nat}(c:a b=some (bb cs.toArray ty (0,0))){v:aA}(d:cs[o]?=some v):a.cell? ⟨b,o,none⟩=some v:=by
 unfold J.cell?
 grind
end
def iR(b:Nat):aA:=gR (some ⟨b,0,none⟩)
theorem adL(w:tc bs b gt bx N ad)(x:bs.le h) v:Fn aD 157 #[iR b,R v] h λr aa=>r=dh (qy N v)/\aa=h:=by
 obtain⟨d,f,e,c,ci,co,a,O,w⟩:=w.ex;refine bU ayA rfl (aW (λh1=>?_) (λh1=>?_));refine .hp _ (J.l5 x (b1 w.head (o:=1) rfl)) (.ag ⟨?_,rfl⟩)
 grind [kL,qy]
 refine .ag ⟨?_,rfl⟩
 grind [kL,qy]
theorem ahx(w:tc bs b gt bx N ad)(x:bs.le h) v(d:v<N):Fn aD 115 #[iR b,R v] h λr aa=>(∃A c,r=ab A (ins ad v).length c/\bg bs 1 A (ins ad v).length (pP (ins ad v)))/\aa=h:=by
 obtain⟨i,k,j,f,ci,co,e,O,w⟩:=w.ex;refine bU ax7 rfl (.hp _ (J.l5 x (b1 w.head (o:=1) rfl)) ?_);obtain⟨g,a⟩:=w.Vr.b4 I;exact .m g a (.hp (ab (e v).1 (ins ad v).length (e v).2) (by rw[bn];exact(w.Vr.mono x).one a (by simp[yO,d];rfl) rfl) (.ag ⟨⟨_,_,rfl,w.aeV v d⟩,rfl⟩))
theorem aru(w:tc bs b gt bx N ad)(x:bs.le h) v(d:v<N):Fn aD 116 #[iR b,R v] h λr aa=>(∃A c,r=ab A (outs ad v).length c/\bg bs 1 A (outs ad v).length (pP (outs ad v)))/\aa=h:=by
 obtain⟨i,k,j,f,ci,co,e,O,w⟩:=w.ex;refine bU ax8 rfl (.hp _ (J.l5 x (b1 w.head (o:=2) rfl)) ?_);obtain⟨g,a⟩:=w.out.b4 I;exact .m g a (.hp (ab (O v).1 (outs ad v).length (O v).2) (by rw[bn];exact(w.out.mono x).one a (by simp[yO,d];rfl) rfl) (.ag ⟨⟨_,_,rfl,w.aig v d⟩,rfl⟩))
theorem Vp{i:Nat}(h:i∈ins ad v):i<ad.length:=by
 grind [ins]
theorem aCW{i:Nat}(h:i∈outs ad v):i<ad.length:=by
 grind [outs]
theorem Qd{a:J}{g:Nat}(c:a g=some (hP l)){i:Nat} b:a.cell? ((Addr.mk g 0 none).add (i*1))=some (R l[i]):=by
 rw[add_lit,dZ,e4];exact b1 (cs:=l.map R) c (by simp[b])
def IC(ad:List b2)(dc:List Int)(i:Nat):Bool:=decide (dc.getD i 0<((ad[i]?).map b2.take).getD 0)
def Aw(ad:List b2)(dc:List Int):List Nat->Int
 |[]=> -1
 |i::l=>if IC ad dc i=true then i else Aw ad dc l
theorem VR{dc:List Int}{i:Nat} a b:IC ad dc i=decide (dc[i]<ad[i].take):=by
 simp[IC,a,b]
theorem ajL(w:tc bs b gt bx N ad) dc cW(K:dc.length=ad.length)(G:ad.length<=96) v:Fn aD 118 #[iR b,R v] (st bs gt bx dc cW) λr aa=>r=R (if qy N v=true then Aw ad dc (ins ad v.toNat)else-1)/\aa=st bs gt bx dc cW:=by
 obtain⟨D,F,E,C,ci,co,z,O,bh⟩:=w.ex;have x:bs.le (st bs gt bx dc cW):=J.kI bh.o9 bh.o8;have q:st bs gt bx dc cW gt=some (hP dc):=GH bh.ne;generalize B:st bs gt bx dc cW=h at x q;refine bU ax' rfl (.ag (.mk _ (adL w x v) ?_));rintro _ aa ⟨rfl,rfl⟩;cases s:qy N v with
 |false=>
  exact .ag ⟨rfl,rfl⟩
 |true=>
  obtain⟨v0,v1⟩:=(IY _ _).1 s;obtain⟨u,rfl⟩:∃u:Nat,v=u:=⟨v.toNat,I⟩;refine .ag (.mk _ (ahx w x u I) ?_);rintro _ h ⟨⟨A,c,rfl,aK⟩,rfl⟩;have t:((ins ad u).length:Int)<=96:=by
   have:(ins ad u).length<=ad.length:=by
    have:=Zm (λi=>decide ((ad[i]?).map b2.dst=some (u:Int))) (fJ ad.length)
    grind [ins]
   omega
  refine .mk Nat [0,19,20,21] (λo=>[.v (iR b),.v (ab A (ins ad u).length c),.v (R (ins ad u).length),.v (R o)]) (λ_=>[]) (λo aa=>aa=h/\o<=(ins ad u).length/\Aw ad dc ((ins ad u).drop o)=Aw ad dc (ins ad u)) (λo=>(ins ad u).length-o) 0 (λ_=>rfl) ⟨rfl,cU _,rfl⟩ rfl rfl (λo e aa⟨rfl,y,f⟩=>aW (λh1=>?_) (λh1=>?_));have j:o<(ins ad u).length:=I;have a:(ins ad u).drop o=(ins ad u)[o]::(ins ad u).drop (o+1):=l1 j;have d:=Vp (b3 j);generalize(ins ad u)[o]=i at a d;obtain⟨g,k⟩:=aK.b4 I;obtain⟨n,p⟩:=bh.dK.b4 I;refine .m g k (.hp (R i) (by rw[bn];exact(aK.mono x).one k (r:=[R i]) (by have:=eu (λl=>l[0]?) a;simp at this;simp[pP,this]) rfl) (.hp _ (J.l5 x (b1 bh.head (o:=3) rfl)) (.r (.hp (R (dc[i]'I)) (by rw[bn];exact Qd q I) (.hp _ (J.l5 x (b1 bh.head (o:=0) rfl)) (.m n p (.hp (R ad[i].take) (by rw[bn,wS];exact(bh.dK.mono x).cell n p i _ (jx d) 3 _ rfl) ?_)))))));have H:=VR (dc:=dc) d I;refine aW (λae=>?_) (λae=>?_);refine .ag ⟨?_,rfl⟩;rw[aS rfl,bn,<-f,a,Aw,aS aL];rfl;refine .bl (⟨o+1,rfl,rfl,⟨rfl,j,?_⟩,I⟩);simp_all[<-f,a,Aw];refine .ag ⟨?_,rfl⟩;rw[aS rfl,bn,<-f,py I];rfl
theorem ajM{ad:List b2}{dc:List Int}:∀l,Aw ad dc l<0↔∀i∈l,IC ad dc i=false
 |[]=>by simp[Aw]
 |i::l=>by
  simp only[Aw];cases h:IC ad dc i;simp[h,ajM l]
  grind
def yF(N:Nat)(ad:List b2)(dc:List Int)(v:Int):Bool:=qy N v&&decide (Aw ad dc (ins ad v.toNat)<0)
theorem ag0(w:tc bs b gt bx N ad) dc cW(d:dc.length=ad.length)(c:ad.length<=96) v:Fn aD 114 #[iR b,R v] (st bs gt bx dc cW) λr aa=>r=dh (yF N ad dc v)/\aa=st bs gt bx dc cW:=by
 obtain⟨g,i,h,f,ci,co,e,O,bh⟩:=w.ex;have x:bs.le (st bs gt bx dc cW):=J.kI bh.o9 bh.o8;refine bU ax6 rfl (.ag (.mk _ (adL w x v) ?_));rintro _ aa ⟨rfl,rfl⟩;cases a:qy N v with
 |false=>
  refine .ag ⟨?_,rfl⟩;simp[kL,yF,a]
 |true=>
  refine .ag (.mk _ (ajL w dc cW d c v) ?_);rintro _ aa ⟨rfl,rfl⟩;refine .ag ⟨?_,rfl⟩;simp[kL,yF,a]
def oX(cW:List Int)(a:b2):Int:=a.start+a.gm*cW.getD a.src.toNat 0-a.take*cW.getD a.dst.toNat 0
def dP(ad:List b2)(cW:List Int):List Int:=ad.map (oX cW)
def lU(ad:List b2)(cW:List Int)(p q:Nat->Bool):List Int:=ad.zipIdx.map λx=>oX cW x.1- (if p x.2=true then x.1.take else 0)+(if q x.2=true then x.1.gm else 0)
theorem Yh ad cW p q:(lU ad cW p q).length=ad.length:=by simp[lU]
theorem rj ad cW:(dP ad cW).length=ad.length:=by simp[dP]
theorem xA{i:Nat} a:(lU ad cW p q)[i]'(by rw[Yh];exact a)=oX cW ad[i]- (if p i=true then ad[i].take else 0)+(if q i=true then ad[i].gm else 0):=by
 simp[lU]
theorem aGI ad cW{p q:Nat->Bool}(hp:∀i,p i=false)(a:∀i,q i=false):lU ad cW p q=dP ad cW:=by
 apply vj;simp[lU,dP];intro i h1 ae;rw[xA (by simp_all[lU])];simp[dP,hp,a]
theorem aGH{nS:Nat->Bool}{i:Nat} a(am:p i=false)(h1:nS i=true)(ae:∀o,o≠i->nS o=p o):(lU ad cW p q).set i ((lU ad cW p q)[i]'(by rw[Yh];exact a)-ad[i].take)=lU ad cW nS q:=by
 apply vj;simp[lU];intro o c aT;have b:o<ad.length:=by simp_all[lU]
 rw[s6,xA b];split;rename_i e;subst e;rw[xA a,xA a,am,h1]
 grind
 rename_i e;rw[xA b,ae o (eh e)]
theorem aGF{da:Nat->Bool}{i:Nat} a(am:q i=false)(h1:da i=true)(ae:∀o,o≠i->da o=q o):(lU ad cW p q).set i ((lU ad cW p q)[i]'(by rw[Yh];exact a)+ad[i].gm)=lU ad cW p da:=by
 apply vj;simp[lU];intro o c aT;have b:o<ad.length:=by simp_all[lU]
 rw[s6,xA b];split;rename_i e;subst e;rw[xA a,xA a,am,h1];simp;rename_i e;rw[xA b,ae o (eh e)]
theorem akD{nS da:Nat->Bool}(hp:∀i,p i=nS i)(a:∀i,q i=da i):lU ad cW p q=lU ad cW nS da:=by
 rw[funext hp,funext a]
def bump(cW:List Int)(v:Nat):List Int:=cW.set v (cW.getD v 0+1)
theorem aaC cW v u(a:v<cW.length):(bump cW v).getD u 0=cW.getD u 0+if u=v then 1 else 0:=by
 simp only[bump,cc,List.getElem?_set]
 grind
theorem Yi{a:b2}(b:po N a=0)(al:cW.length=N)(d:v<N):oX (bump cW v) a=oX cW a- (if a.dst=v then a.take else 0)+(if a.src=v then a.gm else 0):=by
 have c:=sT b;unfold oX;rw[aaC _ _ _ I,aaC _ _ _ I]
 grind
theorem Wf{i:Nat} a:i∈ins ad v↔ad[i].dst=v:=by
 simp[ins,a]
theorem aBh{i:Nat} a:i∈outs ad v↔ad[i].src=v:=by
 simp[outs,a]
theorem aCb ad v:(ins ad v).Nodup:=Zh _ amO
theorem aCc ad v:(outs ad v).Nodup:=Zh _ amO
theorem aGG(b:fF N ad=0)(al:cW.length=N)(c:v<N):lU ad cW (λi=>decide (i∈ins ad v)) (λi=>decide (i∈outs ad v))=dP ad (bump cW v):=by
 apply vj;simp[lU,dP];intro i h1 ae;have a:i<ad.length:=by grind [dP]
 rw[xA a];simp only[dP,List.getElem_map];rw[Yi ((mM b).2.2.2 _ (b3 a)) al c];simp only[vx,Wf a,aBh a]
def may(N:Nat)(ad:List b2)(cW:List Int)(v:Int):Bool:=yF N ad (dP ad cW) v
theorem L4:may N ad cW v=true↔v<N/\∀a∈ad,a.dst=v->a.take<=oX cW a:=by
 have key:(∀i∈ins ad v,IC ad (dP ad cW) i=false)↔∀a∈ad,a.dst=v->a.take<=oX cW a:=by
  constructor;intro h a d e;obtain⟨i,b,rfl⟩:=n4 d;have:=h i ((Wf b).2 e);rw[VR b (by rw[rj];exact b)]at this
  grind [dP]
  intro h i b;have c:=Vp b;rw[VR c (by rw[rj];exact c)];have:=h ad[i] (b3 c) ((Wf c).1 b)
  grind [dP]
 unfold may yF;rw[iv,vx,ajM,bn,key,IY];simp
theorem ag1{v:Int}(h:may N ad cW v=true):∃u:Nat,v=u/\u<N:=by
 unfold may yF at h;rw[iv,IY]at h
 grind
def oI(N:Nat)(ad:List b2):List Int->List Int->Nat×List Int
 |[],f=>(0,f)
 |v::l,f=>if may N ad f v=true then((oI N ad l (bump f v.toNat)).1+1,(oI N ad l (bump f v.toNat)).2)else(0,f)
structure Good(N:Nat)(ad:List b2)(cW:List Int)(T:Nat):Prop where
 len:cW.length=N
 df:∀x∈cW,0<=x/\x<=T
 tok:∀a∈ad,0<=oX cW a
theorem Good.at(g:Good N ad cW T) u:0<=cW.getD u 0/\cW.getD u 0<=T:=by
 rw[cc];cases h:cW[u]?with
 |none=>simp
 |some x=>exact g.df x (List.mem_of_getElem? h)
theorem Good.bump{N T:Nat}{ad:List b2}{cW:List Int}(g:Good N ad cW T)(e:fF N ad=0){v:Nat}(hm:may N ad cW v=true):Good N ad (bump cW v) (T+1):=by
 obtain⟨f,hm⟩:=L4.1 hm;refine⟨by simp[Sx.bump,g.len],λx b=>?_,λa c=>?_⟩;have:=g.at v;rcases List.mem_or_eq_of_mem_set b with b|rfl;have:=g.df x b;omega;omega;have d:=(mM e).2.2.2 a c;have h:=sT d;rw[Yi d g.len f];have am:=g.tok a c
 grind
theorem Good.akE(g:Good N ad cW T)(d:fF N ad=0){a:b2}(c:a∈ad):oX cW a<=256+64*T:=by
 have f:=sT ((mM d).2.2.2 a c);have h1:=g.at a.src.toNat;have ae:=g.at a.dst.toNat;obtain⟨e,h⟩:=aay (x:=a.gm) (y:=cW.getD a.src.toNat 0) (a:=64) (b:=T) I I h1.1 h1.2;obtain⟨i,j⟩:=aay (x:=a.take) (y:=cW.getD a.dst.toNat 0) (a:=64) (b:=T) I I ae.1 ae.2;unfold oX;omega
theorem I7{i:Nat}(a:i<l.length) x:over (l.map R) (0+i*1) [R x]=some ((l.set i x).map R):=by
 rw[dZ,e4,io _ _ _ aL,kB]
theorem aj5{dc:List Int}(a:gt≠bx):(st bs gt bx dc cW).put gt (bb (t.map R).toArray 3 (0,0))=st bs gt bx t cW:=by
 rcases aFI (bs:=bs) (gt:=gt) (bx:=bx) (dc:=dc) (cW:=cW) t with h|h;exact h;omega
theorem avT ad v:(ins ad v).length<=ad.length:=by
 have:=Zm (λi=>decide ((ad[i]?).map b2.dst=some (v:Int))) (fJ ad.length)
 grind [ins]
theorem aCV ad v:(outs ad v).length<=ad.length:=by
 have:=Zm (λi=>decide ((ad[i]?).map b2.src=some (v:Int))) (fJ ad.length)
 grind [outs]
theorem aeS{l:List Nat} a:(pP l)[o]?=some [R (l[o]:Int)]:=by simp[pP,a]
def mP(l:List Nat)(o:Nat):Nat->Bool:=λi=>decide (i∈l.take o)
theorem ae0 l i:mP l 0 i=false:=dW
theorem aeX{l:List Nat}(a:l.Nodup) b:mP l o l[o]=false:=by
 simp only[mP,decide_eq_false_iff_not];intro h;obtain⟨i,c,e⟩:=n4 h;simp only[List.length_take]at c;rw[List.getElem_take]at e;exact Nm.1 a i o I b I e
theorem aeZ{l:List Nat} a:mP l (o+1) l[o]=true:=by
 simp only[mP,vx];rw[lz a,eI];simp
theorem aeY{l:List Nat} a i(b:i≠l[o]):mP l (o+1) i=mP l o i:=by
 have h:i∈l.take (o+1)↔i∈l.take o:=by
  rw[lz a,eI,hZ]
  grind
 simp[mP,h]
theorem aeW l i:mP l l.length i=decide (i∈l):=by simp[mP]
theorem arH(w:tc bs b gt bx N ad)(D:fF N ad=0) az cW A n cap T(S:bg bs 1 A n (az.map λz=>[R z]))(cE:Good N ad cW T)(hs:T+n<=70368744177664):Fn aD 55 #[iR b,ab A n cap] (st bs gt bx (dP ad cW) cW) λr aa=>r=R (oI N ad az cW).1/\aa=st bs gt bx (dP ad (oI N ad az cW).2) (oI N ad az cW).2:=by
 obtain⟨fN,h9,h',cw,ci,co,b7,O,bh⟩:=w.ex;have d:∀t f,bs.le (st bs gt bx t f):=λt f=>J.kI bh.o9 bh.o8;have P:∀t f,st bs gt bx t f gt=some (hP t):=λt f=>GH bh.ne;have Y:∀t f,st bs gt bx t f bx=some (hP f):=λt f=>Jm;have iC:=(mM D).2.2.1;have Pb:az.length=n:=by simpa using S.len
 refine bU azE rfl ?_;refine .mk (Nat×List Int) [0,1,13,14,15] (λ(k,_)=>[.v (iR b),.v (ab A n cap),.v (ab A n cap),.v (R n),.v (R k)]) (λ_=>[]) (λ(k,f) aa=>aa=st bs gt bx (dP ad f) f/\k<=n/\Good N ad f (T+k)/\oI N ad az cW=(k+(oI N ad (az.drop k) f).1,(oI N ad (az.drop k) f).2)) (λ(k,_)=>n-k) (0,cW) (λ_=>rfl) ⟨rfl,cU _,cE,bc⟩ rfl rfl ?_;rintro⟨k,f⟩ e _ ⟨rfl,hk,x,h⟩;refine aW (λh1=>?_) (λh1=>?_);have bO:k<n:=I;have ar:az.drop k=az[k]::az.drop (k+1):=l1 I;obtain⟨g,vI⟩:=S.b4 I;refine .m g vI (.hp (R az[k]) (by rw[bn];exact(S.mono (d _ _)).one vI (r:=[R az[k]]) aL rfl) (.ag (.mk _ (ag0 w (dP ad f) f (rj _ _) iC az[k]) ?_)));rintro _ _ ⟨rfl,rfl⟩;rw[ar,oI]at h;cases hm:yF N ad (dP ad f) az[k]with
 |false=>
  have M:may N ad f az[k]=false:=hm;rw[M,aC bc]at h;refine .ag ⟨?_,?_⟩;rw[h];rfl
  grind
 |true=>
  have M:may N ad f az[k]=true:=hm;rw[M,aS rfl]at h;obtain⟨u,hu,Q⟩:=ag1 M;have c9:=x.bump D (v:=u) aL;rw[hu]at h⊢;rw[bn]at h;have C:∀(i:Nat)(a:i<ad.length),0<=oX f ad[i]/\oX f ad[i]<=256+64*((T+k:Nat):Int)/\1<=ad[i].take/\ad[i].take<=64/\1<=ad[i].gm/\ad[i].gm<=64:=λi a=>by
   have hm:=b3 a;have aj:=sT ((mM D).2.2.2 _ hm);exact⟨x.tok _ hm,x.akE D hm,I,I,I,I⟩
  refine .ag (.mk _ (ahx w (d _ _) u Q) ?_);rintro _ _ ⟨⟨dT,c2,rfl,tu⟩,rfl⟩;have sE:=avT ad u;have oi:=aCV ad u;rw[<-aGI ad f (p:=mP (ins ad u) 0) (q:=λ_=>false) (ae0 _) (λ_=>rfl)];refine .mk Nat [0,1,6,13,14,15,29,30,31] (λo=>[.v (iR b),.v (ab A n cap),.v (R u),.v (ab A n cap),.v (R n),.v (R k),.v (ab dT (ins ad u).length c2),.v (R (ins ad u).length),.v (R o)]) (λ_=>[]) (λo aa=>aa=st bs gt bx (lU ad f (mP (ins ad u) o) (λ_=>false)) f/\o<=(ins ad u).length) (λo=>(ins ad u).length-o) 0 (λ_=>rfl) ⟨rfl,cU _⟩ rfl rfl ?_;rintro o aR _ ⟨rfl,ah⟩;refine aW (λae=>?_) (λae=>?_);have c:o<(ins ad u).length:=I;have a:=Vp (b3 c);have j:=aeX (aCb ad u) c;have B:=aeZ c;have G:=aeY c;have K:=aeS c;generalize(ins ad u)[o]=i at a j B G K;obtain⟨g2,H⟩:=tu.b4 I;obtain⟨F,L⟩:=bh.dK.b4 I;obtain⟨bN,cB,g7,ml,mL,rz⟩:=C i a;have s:=xA (cW:=f) (p:=mP (ins ad u) o) (q:=λ_=>false) a;rw[j]at s;simp only[ve,nk,Int.sub_zero,amh]at s;have E:i<(lU ad f (mP (ins ad u) o) (λ_=>false)).length:=aL;refine .m g2 H ?_;refine .hp (R i) (by rw[bn];exact(tu.mono (d _ _)).one H K rfl) ?_;refine .hp _ (J.l5 (d _ _) (b1 bh.head (o:=3) rfl)) ?_;refine .r ?_;refine .hp (R (oX f ad[i])) (by rw[bn,<-s];exact Qd (P _ _) E) ?_;refine .hp _ (J.l5 (d _ _) (b1 bh.head (o:=0) rfl)) ?_;refine .m F L ?_;refine .hp (R ad[i].take) (by rw[bn,wS];exact(bh.dK.mono (d _ _)).cell F L i _ (jx a) 3 _ rfl) ?_;refine .bl ?_;refine .r ?_;refine .hp gt (0+i*1) 3 _ _ (by rw[add_lit,bn]) (P _ _) (I7 E _) ?_;rw[aj5 bh.ne];have W:=aGH (cW:=f) (p:=mP (ins ad u) o) (nS:=mP (ins ad u) (o+1)) (q:=λ_=>false) a j B G;rw[s]at W;rw[W];refine .bl ?_;exact⟨o+1,rfl,rfl,⟨rfl,c⟩,I⟩;have OV:o=(ins ad u).length:=I;subst OV;rw[akD (nS:=λi=>decide (i∈ins ad u)) (da:=mP (outs ad u) 0) (aeW _) (λi=>(ae0 _ i).symm)];refine .ag (.mk _ (aru w (d _ _) u Q) ?_);rintro _ _ ⟨⟨mG,fc,rfl,Z⟩,rfl⟩;refine .mk Nat [0,1,6,13,14,15,58,59,60] (λo=>[.v (iR b),.v (ab A n cap),.v (R u),.v (ab A n cap),.v (R n),.v (R k),.v (ab mG (outs ad u).length fc),.v (R (outs ad u).length),.v (R o)]) (λ_=>[]) (λo aa=>aa=st bs gt bx (lU ad f (λi=>decide (i∈ins ad u)) (mP (outs ad u) o)) f/\o<=(outs ad u).length) (λo=>(outs ad u).length-o) 0 (λ_=>rfl) ⟨rfl,cU _⟩ rfl rfl ?_;rintro o aR _ ⟨rfl,ah⟩;refine aW (λae=>?_) (λae=>?_);have c:o<(outs ad u).length:=I;have a:=aCW (b3 c);have j:=aeX (aCc ad u) c;have B:=aeZ c;have G:=aeY c;have K:=aeS c;generalize(outs ad u)[o]=i at a j B G K;obtain⟨g2,H⟩:=Z.b4 I;obtain⟨F,L⟩:=bh.dK.b4 I;obtain⟨bN,cB,g7,ml,mL,rz⟩:=C i a;have s:=xA (cW:=f) (p:=λi=>decide (i∈ins ad u)) (q:=mP (outs ad u) o) a;rw[j]at s;simp only[ve,nk,amh]at s;have E:i<(lU ad f (λi=>decide (i∈ins ad u)) (mP (outs ad u) o)).length:=aL;have U: -64<=(lU ad f (λi=>decide (i∈ins ad u)) (mP (outs ad u) o))[i]/\(lU ad f (λi=>decide (i∈ins ad u)) (mP (outs ad u) o))[i]<=256+64*((T+k:Nat):Int):=by
   omega
  have OB:=aGF (cW:=f) (p:=λi=>decide (i∈ins ad u)) (q:=mP (outs ad u) o) (da:=mP (outs ad u) (o+1)) a j B G;have qh:=Qd (P (lU ad f (λi=>decide (i∈ins ad u)) (mP (outs ad u) o)) f) E;generalize(lU ad f (λi=>decide (i∈ins ad u)) (mP (outs ad u) o))[i]=y at U OB qh;refine .m g2 H ?_;refine .hp (R i) (by rw[bn];exact(Z.mono (d _ _)).one H K rfl) ?_;refine .hp _ (J.l5 (d _ _) (b1 bh.head (o:=3) rfl)) ?_;refine .r ?_;refine .hp (R y) (by rw[bn];exact qh) ?_;refine .hp _ (J.l5 (d _ _) (b1 bh.head (o:=0) rfl)) ?_;refine .m F L ?_;refine .hp (R ad[i].gm) (by rw[bn,wS];exact(bh.dK.mono (d _ _)).cell F L i _ (jx a) 2 _ rfl) ?_;refine .bl ?_;refine .r ?_;refine .hp gt (0+i*1) 3 _ _ (by rw[add_lit,bn]) (P _ _) (I7 E _) ?_;rw[aj5 bh.ne,OB];refine .bl ?_;exact⟨o+1,rfl,rfl,⟨rfl,c⟩,I⟩;have V:o=(outs ad u).length:=I;subst V;rw[akD (da:=λi=>decide (i∈outs ad u)) (λ_=>rfl) (aeW _),aGG D x.len Q];have X:u<f.length:=by grind [x.len]
  have U9:=x.at u;have OQ:f.getD u 0=f[u]:=aL;rw[OQ]at U9;refine .hp _ (J.l5 (d _ _) (b1 bh.head (o:=4) rfl)) (.r (.hp (R f[u]) (by rw[bn];exact Qd (Y _ _) X) (.bl (.r (.hp bx (0+u*1) 3 _ _ (by rw[add_lit,bn]) (Y _ _) (I7 X _) ?_)))));rw[show∀l:List Int,bb (l.map R).toArray 3 (0,0)=hP l fromλ_=>rfl,aFG,show f.set u (f[u]+1)=bump f u by rw[bump,OQ]];refine .bl (⟨(k+1,bump f u),rfl,rfl,⟨rfl,bO,c9,?_⟩,aL⟩)
  grind
 rw[py I]at h;refine .ag ⟨?_,?_⟩;rw[h]
 grind [kL,oI,R]
 simp[h,oI]
structure qK(am h:J)(S:Nat->Prop)(cq:Nat->Option aE×Nat)(dn:Nat->List Nat):Prop where
 le:am.le h
 row:∀v,S v->bw h 3 1 (cq v).1 (dn v).length (cq v).2 ((pP (dn v)).flatten)
 new:∀v,S v->∀g,(cq v).1=some g->am g.block=none
 N1:∀v,S v->∀u,S u->v≠u->∀g bq,(cq v).1=some g->(cq u).1=some bq->g.block≠bq.block
def lV{α:Type}(cq:Nat->α)(v:Nat)(x:α):Nat->α:=λu=>if u=v then x else cq u
theorem bw.mem(x:bw h bF size A n cap xs){g:aE}(a:A=some g):h g.block≠none:=by
 rcases x.2 with⟨h1,_⟩|⟨b,c,h1,ae,_⟩
 grind
 grind
theorem bw.mono(x:bw h bF size A n cap xs)(e:h.le aa):bw aa bF size A n cap xs:=by
 obtain⟨h1,ae⟩:=x;refine⟨h1,?_⟩;rcases ae with ae|⟨b,d,a,c,f⟩
 grind
 exact ba ⟨b,d,a,e _ _ c,f⟩
theorem bw.del{B:Option aE}(x:bw h bF size A n cap xs)(e:∀g a,A=some g->B=some a->g.block≠a.block):bw (en h B) bF size A n cap xs:=by
 obtain⟨h1,ae⟩:=x;refine⟨h1,?_⟩;rcases ae with ae|⟨b,f,c,d,i⟩
 grind
 refine ba ⟨b,f,c,?_,i⟩;cases B with
 |none=>exact d
 |some a=>rw[en,J.nA _ (e _ a c rfl)];exact d
theorem Bp{B:Option aE}(a:am.le h)(b:∀g,B=some g->am g.block=none):am.le (en h B):=by
 cases B with
 |none=>exact a
 |some g=>
  intro o U e;rw[en,J.nA _ (λq=>aL)];exact a o U e
theorem qK.del{am h:J}{S:Nat->Prop}{cq:Nat->Option aE×Nat}{dn:Nat->List Nat}(f:qK am h S cq dn){v:Nat}(a:S v):qK am (en h (cq v).1) (λu=>S u/\u≠v) cq dn:=⟨Bp f.le (f.new v a),λu hu=>(f.row u hu.1).del λg b h1 ae=>f.N1 u hu.1 v a hu.2 g b h1 ae,λu hu=>f.new u hu.1,λu hu w hw=>f.N1 u hu.1 w hw.1⟩
theorem qK.add(f:qK am h S cq dn){l:List Nat}(j:¬S v)(i:h.le aa)(k:bw aa 3 1 A l.length cap (pP l).flatten)(n:∀g,A=some g->h g.block=none):qK am aa (λu=>S u\/u=v) (lV cq v (A,cap)) (lV dn v l):=by
 have m:∀u,S u->u≠v:=λu hu e=>j (e▸hu);have o:∀u,S u->∀g a,(cq u).1=some g->A=some a->g.block≠a.block:=λu hu g a h1 ae e=>by
  have:=(f.row u hu).mem h1
  grind
 refine⟨J.le_trans f.le i,λu hu=>?_,λu hu g b=>?_,λu hu w hw c g a h1 ae=>?_⟩;by_cases e:u=v
 grind [lV]
 simp only[lV,aC e];exact(f.row u (hu.resolve_right e)).mono i;by_cases e:u=v;subst e;simp only[lV,mO]at b;cases q:am g.block with
 |none=>rfl
 |some U=>have:=f.le _ _ q;grind
 simp only[lV,aC e]at b;exact f.new u (hu.resolve_right e) g b;by_cases e:u=v
 grind [lV]
 simp only[lV,aC e]at h1;by_cases d:w=v
 grind [lV]
 simp only[lV,aC d]at ae;exact f.N1 u (hu.resolve_right e) w (hw.resolve_right d) c g a h1 ae
theorem qK.zero(h:J)(S:Nat->Prop):qK h h S (λ_=>(none,0)) (λ_=>[]):=⟨J.le_refl h,λ_ _=>⟨rfl,bQ ⟨rfl,rfl,rfl⟩⟩,(λ_ _ g e=>by cases e),(λ_ _ _ _ _ g a e=>by cases e)⟩
theorem qK.same{b:Nat->Prop}(f:qK am h S cq dn)(dy:∀v,b v->S v):qK am h b cq dn:=⟨f.le,λv a=>f.row v (dy v a),λv a=>f.new v (dy v a),λv a u hu=>f.N1 v (dy v a) u (dy u hu)⟩
def part(ad:List b2)(N k v:Nat):List Nat:=if v<N then(fJ k).filter (λi=>decide ((ad[i]?).map b2.dst=some (v:Int)))else(fJ k).filter (λi=>decide ((ad[i]?).map b2.src=some ((v-N:Nat):Int)))
theorem air(a:v<N):part ad N ad.length v=ins ad v:=by rw[part,aS a];rfl
theorem ais:part ad N ad.length (N+v)=outs ad v:=by
 rw[part,aC I,CJ];rfl
theorem ait ad N v:part ad N 0 v=[]:=by simp[part]
theorem aC8{k d s:Nat} hk(c:ad[k].dst=d)(b:ad[k].src=s)(a:d<N) v:part ad N (k+1) v=lV (lV (part ad N k) d (part ad N k d++[k])) (N+s) (part ad N k (N+s)++[k]) v:=by
 have e:ad[k]?=some ad[k]:=bK hk;simp only[lV];by_cases h1:v=N+s;subst h1;rw[aS rfl];simp only[part,aC (show¬N+s<N by omega),CJ,CG,RZ]
 grind
 rw[aC h1];by_cases ae:v=d;subst ae;rw[aS rfl];simp only[part,aS a,CG,RZ]
 grind
 rw[aC ae];unfold part;split;rw[CG,RZ]
 grind
 rw[CG,RZ]
 grind
theorem vD:∀(l:List Int),(l.map λz=>[R z]).flatten=l.map R
 |[]=>rfl
 |x::l=>by rw[er,qN,vD l];rfl
theorem Gh(l:List Int):∀u∈l.map R,u.oneCell'=true:=by
 intro u hu;obtain⟨z,_,rfl⟩:=cO.1 hu;rfl
theorem X8{g:Nat}(a:h g=some (hP l)):bg h 1 (some ⟨g,0,none⟩) l.length (l.map λz=>[R z]):=bg.lit a (vD l) (Vs l) bc
def o7(N:Nat)(cq:Nat->Option aE×Nat)(dn:Nat->List Nat)(off:Nat):List aA:=(fJ N).map λv=>ab (cq (off+v)).1 (dn (off+v)).length (cq (off+v)).2
def Er(N n a:Nat)(ad:List b2)(b:Option aE)(c go:aE)(k:Nat)(cq:Nat->Option aE×Nat):List LE:=
 [.own [.v (ab none 0 0),.v (ab none 0 0),.v (ab none 0 0)] 268,.own [.v (ab b n a),.v (ab (some c) N N),.v (ab (some go) N N)] 268,.row 157 5 b n a (ad.map b2.cells).flatten,
  .row 27 1 (some c) N N (o7 N cq (part ad N k) 0),.row 27 1 (some go) N N (o7 N cq (part ad N k) N)]
theorem ack{a:Nat->Option aE×Nat}{b:Nat->List Nat}{off d:Nat}(h:∀v,v<N->v≠d->a (off+v)=cq (off+v)/\b (off+v)=dn (off+v)):o7 N a b off=(o7 N cq dn off).set d (ab (a (off+d)).1 (b (off+d)).length (a (off+d)).2):=by
 apply vj;simp[o7];intro v h1 ae;have g:v<N:=by grind [o7]
 rw[s6];split
 grind [o7]
 rename_i e;obtain⟨f,c⟩:=h v g (eh e);simp[o7,f,c]
def Yv(N n a:Nat)(ad:List b2)(b:Option aE)(c go:aE):List LE:=
 [.own [.v (ab none 0 0),.v (ab none 0 0),.v (ab none 0 0)] 268,.own [.v (ab b n a),.v (ab (some c) N N),.v (ab (some go) N N)] 268,.row 157 5 b n a (ad.map b2.cells).flatten,
  .row 27 1 (some c) N N (bp N (ab none 0 0)),.row 27 1 (some go) N N (bp N (ab none 0 0))]
theorem acl(N:Nat)(ad:List b2)(off:Nat):o7 N (λ_=>(none,0)) (part ad N 0) off=bp N (ab none 0 0):=by
 apply vj;simp[o7];intro v h1 ae;simp[o7,ait]
theorem aHN(N n a:Nat)(ad:List b2)(b:Option aE)(c go:aE):Er N n a ad b c go 0 (λ_=>(none,0))=Yv N n a ad b c go:=by
 rw[Er,acl,acl];rfl
theorem aHM Q(e:cg) L h perm(N n i:Nat) ad o c go(G:fF N ad=0)(aF:ad.length=n)(aK:n≠0->∃g,o=some g)(he:[2,3,18,19,20].map e=([.p 0 0,.p 1 0,.v (ab o n i),.v (R n),.v (R (0:Nat))]:List aN).map (sW perm))(w:vy perm=true)(F:rf L perm=some ((Yv N n i ad o c go).map (oS perm)))(V:∀e cq aa,qK h aa (λv=>v<2*N) cq (part ad N n)->e 2= .p 0 0->e 3= .p 1 0->Q (.exit 0) e (Er N n i ad o c go n cq) aa):ww (λQ e L h=>dq aD 55 ae9 Q e L h) Q e L h:=by
 rw[<-aHN]at F;refine .mb perm (Nat×(Nat->Option aE×Nat)) [2,3,18,19,20] (λ(k,_)=>[.p 0 0,.p 1 0,.v (ab o n i),.v (R n),.v (R k)]) (λ(k,cq)=>Er N n i ad o c go k cq) (λ(k,cq) aa=>qK h aa (λv=>v<2*N) cq (part ad N k)/\k<=n) (λ(k,_)=>n-k) (0,λ_=>(none,0)) (λ(_,_)=>rfl) ⟨?_,cU _⟩ he w F ?_;have:=qK.zero h (λv=>v<2*N);rw[show(λ_=>([]:List Nat))=part ad N 0 from funext λv=>(ait ad N v).symm]at this;omega;rintro⟨k,cq⟩ e aa ⟨z,hk⟩;by_cases J:k<n;have u:k<ad.length:=I;have aj:=sT ((mM G).2.2.2 _ (b3 u));obtain⟨d,w⟩:∃d:Nat,ad[k].dst=d:=⟨ad[k].dst.toNat,I⟩;obtain⟨s,M⟩:∃s:Nat,ad[k].src=s:=⟨ad[k].src.toNat,I⟩;have E:d<N:=I;have y:s<N:=I;have t:=z.del (v:=d) I;have K:=t.del (v:=N+s) ⟨I,I⟩;refine .abs 3 1 (cq d).1 (part ad N k d).length (cq d).2 _ (z.row d I) (.abs 3 1 (cq (N+s)).1 (part ad N k (N+s)).length (cq (N+s)).2 _ (t.row (N+s) ⟨I,I⟩) (.ag ?_));obtain⟨g,rfl⟩:=aK I;refine aW (λh1=>?_) (λh1=>I);refine .m g rfl ?_;refine .row 2 157 5 g n i _ (k*5) ad[k].cells rfl dW rfl (λq v j=>Fc _ (aae _) k q _ v (jx u) j) ?_;refine .m c rfl ?_;have D:∀(off v:Nat),v<N->(o7 N cq (part ad N k) off)[v]?=some (ab (cq (off+v)).1 (part ad N k (off+v)).length (cq (off+v)).2):=λoff v j=>by simp[o7,j]
 refine .row 3 27 1 c N N _ (d*1) _ rfl aL (by rw[e4,D 0 d E]) ?_;rw[dZ];have yp:=(mM G).2.2.1;have H:∀v,(part ad N k v).length<=k:=λv=>by
  unfold part
  grind
 have O:=H d;have P:=H (N+s);refine .c0 5 _ _ rfl rfl (Gh [(k:Int)]) (by grind [eQ]) I λa c2 _=>?_;refine .m c rfl ?_;have sD:∀off,(o7 N cq (part ad N k) off).length=N:=λoff=>by simp[o7]
 refine .row 3 27 1 c N N _ _ d rfl aL (io _ _ _ aL) ?_;refine .m go rfl ?_;refine .row 4 27 1 go N N _ (s*1) _ rfl aL (by rw[e4,D N s y]) ?_;refine .c0 6 _ _ rfl rfl (Gh [(k:Int)]) (by grind [eQ]) I λf b _=>?_;refine .m go rfl ?_;refine .row 4 27 1 go N N _ _ s rfl aL (io _ _ _ aL) ?_;refine .bl ?_;have x:∀v,((pP (part ad N k v)).flatten++[R (k:Int)])=(pP (part ad N k v++[k])).flatten:=λv=>by simp[pP]
 refine .b5 5 3 1 a ((part ad N k d).length+1) c2 _ rfl λX W B Z=>.b5 6 3 1 f ((part ad N k (N+s)).length+1) b _ rfl λY ym C tE=>.ag ?_;have B:bw X 3 1 a ((part ad N k d).length+1) c2 ((pP (part ad N k d)).flatten++[R (k:Int)]):=B;have C:bw Y 3 1 f ((part ad N k (N+s)).length+1) b ((pP (part ad N k (N+s))).flatten++[R (k:Int)]):=C;rw[x]at B C;have r:part ad N (k+1)=lV (lV (part ad N k) d (part ad N k d++[k])) (N+s) (part ad N k (N+s)++[k]):=funext (aC8 u w M E);have g1:=K.add (v:=d) (cap:=c2) (A:=a) (l:=part ad N k d++[k]) I W aL Z;have g2:=g1.add (v:=N+s) (cap:=b) (A:=f) (l:=part ad N k (N+s)++[k]) I ym aL tE;rw[<-r]at g2;refine⟨(k+1,lV (lV cq d (a,c2)) (N+s) (f,b)),rfl,?_,⟨g2.same λv j=>I,J⟩,aL⟩;have S:o7 N (lV (lV cq d (a,c2)) (N+s) (f,b)) (part ad N (k+1)) 0=(o7 N cq (part ad N k) 0).set d (ab a ((part ad N k d).length+1) c2):=by
  rw[ack (cq:=cq) (dn:=part ad N k) (d:=d) (λv j U=>⟨by grind [lV],by rw[r];grind [lV]⟩)];rw[r]
  grind [lV]
 have T:o7 N (lV (lV cq d (a,c2)) (N+s) (f,b)) (part ad N (k+1)) N=(o7 N cq (part ad N k) N).set s (ab f ((part ad N k (N+s)).length+1) b):=by
  rw[ack (cq:=cq) (dn:=part ad N k) (d:=s) (λv j U=>⟨by grind [lV],by rw[r];grind [lV]⟩)];simp[r,lV]
 show _=Er N n i ad (some g) c go (k+1) (lV (lV cq d (a,c2)) (N+s) (f,b));rw[Er,S,T];rfl;have:k=n:=I;subst this;refine .ag (aW (λh1=>?_) (λh1=>?_));omega;exact V _ cq aa z rfl rfl
def ZS(aa:J)(N:Nat)(ad:List b2)(r:aA):Prop:=
 ∃b d c e ci co a O,r= .agg #[ab b ad.length e,ab d N ci,ab c N co]/\bg aa 5 b ad.length (ad.map b2.cells)/\bg aa 1 d N (yO N (λv=>(ins ad v).length) a)/\
  bg aa 1 c N (yO N (λv=>(outs ad v).length) O)/\(∀v,v<N->bg aa 1 (a v).1 (ins ad v).length (pP (ins ad v)))/\∀v,v<N->bg aa 1 (O v).1 (outs ad v).length (pP (outs ad v))
theorem arn N ad cq:o7 N cq (part ad N ad.length) 0=(yO N (λv=>(ins ad v).length) cq).flatten:=by
 have:∀l:List Nat,(∀v∈l,v<N)->l.map (λv=>ab (cq (0+v)).1 (part ad N ad.length (0+v)).length (cq (0+v)).2)=(l.map λv=>[ab (cq v).1 (ins ad v).length (cq v).2]).flatten:=by
  intro l;induction l with
  |nil=>simp
  |cons x l b=>
   intro al;rw[er,er,qN,b λv a=>al v (gd _ a),dZ,air (al x (hq ..))];rfl
 exact this _ λv a=>vl.1 a
theorem aro N ad cq:o7 N cq (part ad N ad.length) N=(yO N (λv=>(outs ad v).length) λv=>cq (N+v)).flatten:=by
 have:∀l:List Nat,l.map (λv=>ab (cq (N+v)).1 (part ad N ad.length (N+v)).length (cq (N+v)).2)=(l.map λv=>[ab (cq (N+v)).1 (outs ad v).length (cq (N+v)).2]).flatten:=by
  intro l;induction l with
  |nil=>rfl
  |cons x l a=>rw[er,er,qN,a,ais];rfl
 exact this _
theorem ajT N len b:∀r∈yO N len b,r.length=1:=by
 intro r a;obtain⟨v,_,rfl⟩:=cO.1 a;rfl
theorem avL l:∀r∈pP l,r.length=1:=by
 intro r a;obtain⟨v,_,rfl⟩:=cO.1 a;rfl
theorem qK.dK{am h aa:J}{S:Nat->Prop}{cq:Nat->Option aE×Nat}{dn:Nat->List Nat}(f:qK am h S cq dn)(x:h.le aa){v:Nat}(a:S v):bg aa 1 (cq v).1 (dn v).length (pP (dn v)):=((f.row v a).mono x).dK (avL _) aH
theorem gP{e:cg}{d:Nat}{f:Option aE}{g go:aE}(u:ad.length=n)(c:qK h aa (λv=>v<2*N) cq (part ad N n))(ae:e 2= .p 0 0)(m:e 3= .p 1 0):dq aD 55 ((IR.ck av1).seq IR.ret) (wi aD Pr.fn.results.toList λr aa=>h.le aa/\ZS aa N ad r) e (Er N n d ad f g go n cq) aa:=by
 subst u;have he:e=jR (jR e 3 (.p 1 0)) 2 (.p 0 0):=by
  funext t;unfold jR;by_cases q:t=2;simp_all;by_cases j:t=3;subst j;exact m;rw[show ix t 2=false from GY.2 λk=>q (rx k),show ix t 3=false from GY.2 λk=>j (rx k)];rfl
 rw[he];refine .b5 2 157 5 f ad.length d _ rfl λh1 x w _=>.b5 3 27 1 (some g) N N _ rfl λae y o _=>.b5 4 27 1 (some go) N N _ rfl λm i s _=>.ag ?_;rw[arn]at o;rw[aro]at s;have a:=J.le_trans y i;have b:=J.le_trans x a;refine⟨J.le_trans c.le b,f,some g,some go,d,N,N,cq,λv=>cq (N+v),rfl,(w.mono a).dK (aae _) aH,(o.mono i).dK (ajT _ _ _) aH,s.dK (ajT _ _ _) aH,λv l=>?_,λv l=>?_⟩;have:=c.dK b (v:=v) I;rwa[air l]at this;have:=c.dK b (v:=N+v) I;rwa[ais]at this
theorem XX(h:A=none↔some (⟨b,0,none⟩:aE)=none/\n=0):∃g,A=some g:=by
 cases A with
 |none=>grind
 |some g=>simp
theorem gQ{Q:mi}{e:cg}{L:List LE}(perm:List Nat){a m:Nat}(A:Option aE)(c go:aE)(g:fF N ad=0)(d:ad.length=n)(aK:A=none↔some (⟨b,0,none⟩:aE)=none/\m=0)(j:∀e cq aa,qK h aa (λv=>v<2*N) cq (part ad N n)->e 2= .p 0 0->e 3= .p 1 0->Q (.exit 0) e (Er N n a ad A c go n cq) aa)(he:[2,3,18,19,20].map e=([.p 0 0,.p 1 0,.v (ab A n a),.v (R n),.v (R (0:Nat))]:List aN).map (sW perm):=by rfl)(i:vy perm=true:=by rfl)(f:rf L perm=some ((Yv N n a ad A c go).map (oS perm)):=by rfl):ww (λQ e L h=>dq aD 55 ae9 Q e L h) Q e L h:=aHM _ _ _ _ perm N n a ad A c go g d (λ_=>XX aK) he i f j
set_option maxHeartbeats 4000000 in
theorem MR(N n i:Nat)(ad:List b2)(A:Option aE)(h:J)(d:fF N ad=0)(e:bg h 5 A n (ad.map b2.cells))(j:n*40<=140737488355328):Fn aD 113 #[nQ N A n i] h λr aa=>h.le aa/\ZS aa N ad r:=by
 have l:=(mM d).2.1;have m:ad.length=n:=by simpa using e.len
 have al:ad.length=0+n:=I;have hm:0+n<=eQ:=by grind [eQ]
 have f:(0+n)*40<=140737488355328:=I;have M {K} (k:∀g,K N N g (bp N (ab none 0 0))):pw 1 24 [ab none 0 0] N N K:=.one N _ rfl rfl rfl rfl I I k;refine bU Pr rfl (gj ?_ ?_);refine gj ?_ ?_;refine⟨λ_ _=>.c0 3 _ _ rfl (e.src _) (ia ad) hm f λA c aK=>gj ?_ ?_⟩;refine M λb=>gj ?_ ?_;exact M λa=>gQ [1,6,3,4,5] A b a d al aK.1 λ_ _ _=>gP al;exact M λa=>gQ [1,5,3,4,6] A b a d al aK.1 λ_ _ _=>gP al;refine gj ?_ ?_;refine M λa=>gj ?_ ?_;exact M λb=>gQ [1,6,3,5,4] A b a d al aK.1 λ_ _ _=>gP al;exact M λb=>gQ [1,5,3,6,4] A b a d al aK.1 λ_ _ _=>gP al;refine gj ?_ ?_;exact M λb=>M λa=>gQ [1,4,3,5,6] A b a d al aK.1 λ_ _ _=>gP al;exact M λa=>M λb=>gQ [1,4,3,6,5] A b a d al aK.1 λ_ _ _=>gP al;refine gj ?_ ?_;refine M λb=>gj ?_ ?_;refine⟨λ_ _=>.c0 4 _ _ rfl (e.src _) (ia ad) hm f λA c aK=>gj ?_ ?_⟩;exact M λa=>gQ [1,6,4,3,5] A b a d al aK.1 λ_ _ _=>gP al;exact M λa=>gQ [1,5,4,3,6] A b a d al aK.1 λ_ _ _=>gP al;refine gj ?_ ?_;refine M λa=>gj ?_ ?_;exact⟨λ_ _=>.c0 5 _ _ rfl (e.src _) (ia ad) hm f λA c aK=>gQ [1,6,5,3,4] A b a d al aK.1 λ_ _ _=>gP al⟩;exact⟨λ_ _=>.c0 6 _ _ rfl (e.src _) (ia ad) hm f λA c aK=>gQ [1,5,6,3,4] A b a d al aK.1 λ_ _ _=>gP al⟩;refine gj ?_ ?_;exact⟨λ_ _=>.c0 5 _ _ rfl (e.src _) (ia ad) hm f λA c aK=>M λa=>gQ [1,4,5,3,6] A b a d al aK.1 λ_ _ _=>gP al⟩;exact M λa=>⟨λ_ _=>.c0 6 _ _ rfl (e.src _) (ia ad) hm f λA c aK=>gQ [1,4,6,3,5] A b a d al aK.1 λ_ _ _=>gP al⟩;refine gj ?_ ?_;refine M λa=>gj ?_ ?_;refine⟨λ_ _=>.c0 4 _ _ rfl (e.src _) (ia ad) hm f λA c aK=>gj ?_ ?_⟩;exact M λb=>gQ [1,6,4,5,3] A b a d al aK.1 λ_ _ _=>gP al;exact M λb=>gQ [1,5,4,6,3] A b a d al aK.1 λ_ _ _=>gP al;refine gj ?_ ?_;refine M λb=>gj ?_ ?_;exact⟨λ_ _=>.c0 5 _ _ rfl (e.src _) (ia ad) hm f λA c aK=>gQ [1,6,5,4,3] A b a d al aK.1 λ_ _ _=>gP al⟩;exact⟨λ_ _=>.c0 6 _ _ rfl (e.src _) (ia ad) hm f λA c aK=>gQ [1,5,6,4,3] A b a d al aK.1 λ_ _ _=>gP al⟩;refine gj ?_ ?_;exact⟨λ_ _=>.c0 5 _ _ rfl (e.src _) (ia ad) hm f λA c aK=>M λb=>gQ [1,4,5,6,3] A b a d al aK.1 λ_ _ _=>gP al⟩;exact M λb=>⟨λ_ _=>.c0 6 _ _ rfl (e.src _) (ia ad) hm f λA c aK=>gQ [1,4,6,5,3] A b a d al aK.1 λ_ _ _=>gP al⟩;refine gj ?_ ?_;refine⟨λ_ _=>.c0 4 _ _ rfl (e.src _) (ia ad) hm f λA c aK=>gj ?_ ?_⟩;exact M λb=>M λa=>gQ [1,3,4,5,6] A b a d al aK.1 λ_ _ _=>gP al;exact M λa=>M λb=>gQ [1,3,4,6,5] A b a d al aK.1 λ_ _ _=>gP al;refine gj ?_ ?_;refine M λb=>gj ?_ ?_;exact⟨λ_ _=>.c0 5 _ _ rfl (e.src _) (ia ad) hm f λA c aK=>M λa=>gQ [1,3,5,4,6] A b a d al aK.1 λ_ _ _=>gP al⟩;exact M λa=>⟨λ_ _=>.c0 6 _ _ rfl (e.src _) (ia ad) hm f λA c aK=>gQ [1,3,6,4,5] A b a d al aK.1 λ_ _ _=>gP al⟩;refine M λa=>gj ?_ ?_;exact⟨λ_ _=>.c0 5 _ _ rfl (e.src _) (ia ad) hm f λA c aK=>M λb=>gQ [1,3,5,6,4] A b a d al aK.1 λ_ _ _=>gP al⟩;exact M λb=>⟨λ_ _=>.c0 6 _ _ rfl (e.src _) (ia ad) hm f λA c aK=>gQ [1,3,6,5,4] A b a d al aK.1 λ_ _ _=>gP al⟩;refine gj ?_ ?_;refine M λb=>gj ?_ ?_;refine gj ?_ ?_;refine⟨λ_ _=>.c0 4 _ _ rfl (e.src _) (ia ad) hm f λA c aK=>gj ?_ ?_⟩;exact M λa=>gQ [1,6,4,2,5] A b a d al aK.1 λ_ _ _=>gP al;exact M λa=>gQ [1,5,4,2,6] A b a d al aK.1 λ_ _ _=>gP al;refine gj ?_ ?_;refine M λa=>gj ?_ ?_;exact⟨λ_ _=>.c0 5 _ _ rfl (e.src _) (ia ad) hm f λA c aK=>gQ [1,6,5,2,4] A b a d al aK.1 λ_ _ _=>gP al⟩;exact⟨λ_ _=>.c0 6 _ _ rfl (e.src _) (ia ad) hm f λA c aK=>gQ [1,5,6,2,4] A b a d al aK.1 λ_ _ _=>gP al⟩;refine gj ?_ ?_;exact⟨λ_ _=>.c0 5 _ _ rfl (e.src _) (ia ad) hm f λA c aK=>M λa=>gQ [1,4,5,2,6] A b a d al aK.1 λ_ _ _=>gP al⟩;exact M λa=>⟨λ_ _=>.c0 6 _ _ rfl (e.src _) (ia ad) hm f λA c aK=>gQ [1,4,6,2,5] A b a d al aK.1 λ_ _ _=>gP al⟩;refine gj ?_ ?_;refine M λa=>gj ?_ ?_;refine gj ?_ ?_;exact⟨λ_ _=>.c0 5 _ _ rfl (e.src _) (ia ad) hm f λA c aK=>gQ [1,6,5,2,3] A b a d al aK.1 λ_ _ _=>gP al⟩;exact⟨λ_ _=>.c0 6 _ _ rfl (e.src _) (ia ad) hm f λA c aK=>gQ [1,5,6,2,3] A b a d al aK.1 λ_ _ _=>gP al⟩;exact⟨λ_ _=>.c0 6 _ _ rfl (e.src _) (ia ad) hm f λA c aK=>gQ [1,4,6,2,3] A b a d al aK.1 λ_ _ _=>gP al⟩;refine gj ?_ ?_;refine gj ?_ ?_;exact⟨λ_ _=>.c0 5 _ _ rfl (e.src _) (ia ad) hm f λA c aK=>M λa=>gQ [1,3,5,2,6] A b a d al aK.1 λ_ _ _=>gP al⟩;exact M λa=>⟨λ_ _=>.c0 6 _ _ rfl (e.src _) (ia ad) hm f λA c aK=>gQ [1,3,6,2,5] A b a d al aK.1 λ_ _ _=>gP al⟩;exact M λa=>⟨λ_ _=>.c0 6 _ _ rfl (e.src _) (ia ad) hm f λA c aK=>gQ [1,3,6,2,4] A b a d al aK.1 λ_ _ _=>gP al⟩;refine gj ?_ ?_;refine M λa=>gj ?_ ?_;refine gj ?_ ?_;refine⟨λ_ _=>.c0 4 _ _ rfl (e.src _) (ia ad) hm f λA c aK=>gj ?_ ?_⟩;exact M λb=>gQ [1,6,4,5,2] A b a d al aK.1 λ_ _ _=>gP al;exact M λb=>gQ [1,5,4,6,2] A b a d al aK.1 λ_ _ _=>gP al;refine gj ?_ ?_;refine M λb=>gj ?_ ?_;exact⟨λ_ _=>.c0 5 _ _ rfl (e.src _) (ia ad) hm f λA c aK=>gQ [1,6,5,4,2] A b a d al aK.1 λ_ _ _=>gP al⟩;exact⟨λ_ _=>.c0 6 _ _ rfl (e.src _) (ia ad) hm f λA c aK=>gQ [1,5,6,4,2] A b a d al aK.1 λ_ _ _=>gP al⟩;refine gj ?_ ?_;exact⟨λ_ _=>.c0 5 _ _ rfl (e.src _) (ia ad) hm f λA c aK=>M λb=>gQ [1,4,5,6,2] A b a d al aK.1 λ_ _ _=>gP al⟩;exact M λb=>⟨λ_ _=>.c0 6 _ _ rfl (e.src _) (ia ad) hm f λA c aK=>gQ [1,4,6,5,2] A b a d al aK.1 λ_ _ _=>gP al⟩;refine gj ?_ ?_;refine M λb=>gj ?_ ?_;refine gj ?_ ?_;exact⟨λ_ _=>.c0 5 _ _ rfl (e.src _) (ia ad) hm f λA c aK=>gQ [1,6,5,3,2] A b a d al aK.1 λ_ _ _=>gP al⟩;exact⟨λ_ _=>.c0 6 _ _ rfl (e.src _) (ia ad) hm f λA c aK=>gQ [1,5,6,3,2] A b a d al aK.1 λ_ _ _=>gP al⟩;exact⟨λ_ _=>.c0 6 _ _ rfl (e.src _) (ia ad) hm f λA c aK=>gQ [1,4,6,3,2] A b a d al aK.1 λ_ _ _=>gP al⟩;refine gj ?_ ?_;refine gj ?_ ?_;exact⟨λ_ _=>.c0 5 _ _ rfl (e.src _) (ia ad) hm f λA c aK=>M λb=>gQ [1,3,5,6,2] A b a d al aK.1 λ_ _ _=>gP al⟩;exact M λb=>⟨λ_ _=>.c0 6 _ _ rfl (e.src _) (ia ad) hm f λA c aK=>gQ [1,3,6,5,2] A b a d al aK.1 λ_ _ _=>gP al⟩;exact M λb=>⟨λ_ _=>.c0 6 _ _ rfl (e.src _) (ia ad) hm f λA c aK=>gQ [1,3,6,4,2] A b a d al aK.1 λ_ _ _=>gP al⟩;refine gj ?_ ?_;refine gj ?_ ?_;refine⟨λ_ _=>.c0 4 _ _ rfl (e.src _) (ia ad) hm f λA c aK=>gj ?_ ?_⟩;exact M λb=>M λa=>gQ [1,2,4,5,6] A b a d al aK.1 λ_ _ _=>gP al;exact M λa=>M λb=>gQ [1,2,4,6,5] A b a d al aK.1 λ_ _ _=>gP al;refine gj ?_ ?_;refine M λb=>gj ?_ ?_;exact⟨λ_ _=>.c0 5 _ _ rfl (e.src _) (ia ad) hm f λA c aK=>M λa=>gQ [1,2,5,4,6] A b a d al aK.1 λ_ _ _=>gP al⟩;exact M λa=>⟨λ_ _=>.c0 6 _ _ rfl (e.src _) (ia ad) hm f λA c aK=>gQ [1,2,6,4,5] A b a d al aK.1 λ_ _ _=>gP al⟩;refine M λa=>gj ?_ ?_;exact⟨λ_ _=>.c0 5 _ _ rfl (e.src _) (ia ad) hm f λA c aK=>M λb=>gQ [1,2,5,6,4] A b a d al aK.1 λ_ _ _=>gP al⟩;exact M λb=>⟨λ_ _=>.c0 6 _ _ rfl (e.src _) (ia ad) hm f λA c aK=>gQ [1,2,6,5,4] A b a d al aK.1 λ_ _ _=>gP al⟩;refine gj ?_ ?_;refine M λb=>gj ?_ ?_;refine gj ?_ ?_;exact⟨λ_ _=>.c0 5 _ _ rfl (e.src _) (ia ad) hm f λA c aK=>M λa=>gQ [1,2,5,3,6] A b a d al aK.1 λ_ _ _=>gP al⟩;exact M λa=>⟨λ_ _=>.c0 6 _ _ rfl (e.src _) (ia ad) hm f λA c aK=>gQ [1,2,6,3,5] A b a d al aK.1 λ_ _ _=>gP al⟩;exact M λa=>⟨λ_ _=>.c0 6 _ _ rfl (e.src _) (ia ad) hm f λA c aK=>gQ [1,2,6,3,4] A b a d al aK.1 λ_ _ _=>gP al⟩;refine M λa=>gj ?_ ?_;refine gj ?_ ?_;exact⟨λ_ _=>.c0 5 _ _ rfl (e.src _) (ia ad) hm f λA c aK=>M λb=>gQ [1,2,5,6,3] A b a d al aK.1 λ_ _ _=>gP al⟩;exact M λb=>⟨λ_ _=>.c0 6 _ _ rfl (e.src _) (ia ad) hm f λA c aK=>gQ [1,2,6,5,3] A b a d al aK.1 λ_ _ _=>gP al⟩;exact M λb=>⟨λ_ _=>.c0 6 _ _ rfl (e.src _) (ia ad) hm f λA c aK=>gQ [1,2,6,4,3] A b a d al aK.1 λ_ _ _=>gP al⟩
def L8(w:List aA)(n N:Nat)(a b:aE)(ep:List Int):List LE:=[.own (w.map .v++[.v (ab (some a) n n),.v (ab (some b) N N)]) 271,.row 3 1 (some a) n n (ep.map R),.row 3 1 (some b) N N (bp N (R 0))]
def vV(ad:List b2)(k:Nat):List Int:=(ad.take k).map b2.start++bp (ad.length-k) 0
theorem aB6 ad:(vV ad 0).map R=bp ad.length (R 0):=by simp[vV]
theorem aB4 ad k(hk:k<=ad.length):(vV ad k).length=ad.length:=by grind [vV]
theorem aB5{k:Nat} hk:(vV ad k).set k ad[k].start=vV ad (k+1):=by
 unfold vV;have h1:((ad.take k).map b2.start).length=k:=aL;rw[vm _ _ I,h1,xQ,show ad.length-k=(ad.length- (k+1))+1 by omega,List.replicate_succ,amQ,lz hk,fw,List.map_singleton,List.append_assoc];rfl
theorem aB3 ad N:vV ad ad.length=dP ad (bp N 0):=by
 have:∀i:Nat,(bp N (0:Int)).getD i 0=0:=λi=>by
  grind
 simp only[vV,List.take_length,xQ,List.replicate_zero,List.append_nil,dP];exact List.map_congr_left λa _=>by unfold oX;grind
theorem aFH(h1:h gt=some (hP t))(ae:h bx=some (hP f)):h=st ((h.del gt).del bx) gt bx t f:=by
 funext o;unfold st;by_cases b:o=bx;subst b;rw[J.b8];exact ae;rw[J.cD _ _ b];by_cases a:o=gt;subst a;rw[J.b8];exact h1;rw[J.cD _ _ a,J.nA _ b,J.nA _ a]
theorem bw.full{g:aE}(x:bw h 3 1 (some g) n n (l.map R)):∃b,g=⟨b,0,none⟩/\h b=some (hP l):=by
 rcases x.2 with⟨q,_⟩|⟨b,d,a,c,_,_,f,e⟩
 grind
 injection a with a;refine⟨b,a,?_⟩;have:d.toList=l.map R:=by
  rw[<-e,mJ aL]
 rw[c,hP,<-this]
def Zx(h:J)(N:Nat)(ad:List b2)(r:aA)(aa:J):Prop:=∃bs b gt bx,r=eA #[iR b,R 0]/\h.le bs/\tc bs b gt bx N ad/\aa=st bs gt bx (dP ad (bp N 0)) (bp N 0)
theorem IP e h h1 N n ad m u s w ci co z A(G:ad.length=n)(P:h.le h1)(cr:e 5= .p 0 0)(hw:∃d O,bg h1 5 m ad.length (ad.map b2.cells)/\bg h1 1 u N (yO N (λv=>(ins ad v).length) d)/\bg h1 1 s N (yO N (λv=>(outs ad v).length) O)/\(∀v,v<N->bg h1 1 (d v).1 (ins ad v).length (pP (ins ad v)))/\∀v,v<N->bg h1 1 (O v).1 (outs ad v).length (pP (outs ad v))):dq aD 42 ((IR.ck axv).seq IR.ret) (wi aD LJ.fn.results.toList λr aa=>Zx h N ad r aa) e (L8 [ab m ad.length w,ab u N ci,ab s N co] n N z A (vV ad n)) h1:=by
 subst G;obtain⟨d,O,S,T,X,Z,Y⟩:=hw;have he:e=jR e 5 (.p 0 0):=by
  funext t;unfold jR;by_cases q:t=5
  grind
  rw[show ix t 5=false from GY.2 λk=>q (rx k)];rfl
 rw[he];refine .mk λb x=>.b5 1 3 1 (some z) ad.length ad.length _ rfl λae C V D=>.b5 2 3 1 (some A) N N _ rfl λy f B E=>.ag ?_;have F:bp N (R 0)=(bp N (0:Int)).map R:=bc;rw[F]at B;obtain⟨gt,rfl,H⟩:=V.full;obtain⟨bx,rfl,L⟩:=B.full;have l:=D _ rfl;have kj:=E _ rfl;have M:ae b=_:=C _ _ Qw;have Q:=f _ _ M;have t3:=f _ _ H;have i:b≠gt:=λq=>by subst q;rw[show(⟨b,0,none⟩:aE).block=b from rfl,Qw]at l;cases l
 have g:b≠bx:=λq=>by grind
 have c:gt≠bx:=λq=>by grind
 have a:h1.le ((y.del gt).del bx):=λo U q=>by
  have I:o≠gt:=λk=>by subst k;cases(J.d' x _ _ q).symm.trans l
  have W:=C _ _ (J.d' x _ _ q);have K:o≠bx:=λk=>by grind
  rw[J.nA _ K,J.nA _ I];exact f _ _ W
 refine⟨(y.del gt).del bx,b,gt,bx,rfl,J.le_trans P a,⟨m,u,s,w,ci,co,d,O,?_,S.mono a,T.mono a,X.mono a,λv j=>(Z v j).mono a,λv j=>(Y v j).mono a,?_,J.HJ _ _,c⟩,?_⟩;rw[J.nA _ g,J.nA _ i,Q];rw[J.nA _ c,J.HJ];rw[<-aB3];exact aFH t3 L
theorem IQ Q(e:cg) L h perm(N n q:Nat) ad A c d f a b(s:fF N ad=0)(r:ad.length=n)(o:bg h 5 A n (ad.map b2.cells))(he:[5,25,26,27].map e=([.p 0 0,.v (ab A n q),.v (R n),.v (R (0:Nat))]:List aN).map (sW perm))(t:vy perm=true)(j:rf L perm=some (([.own ([c,d,f].map .v++[.v (ab (some a) n n),.v (ab (some b) N N)]) 271,.row 3 1 (some a) n n (bp n (R 0)),.row 3 1 (some b) N N (bp N (R 0))]:List LE).map (oS perm)))(u:∀e,e 5= .p 0 0->Q (.exit 0) e (L8 [c,d,f] n N a b (vV ad n)) h):ww (λQ e L h=>dq aD 42 axu Q e L h) Q e L h:=by
 subst r;have w:=(mM s).2.2.1;rw[<-aB6]at j;refine .yG perm Nat [5,25,26,27] (λk=>[.p 0 0,.v (ab A ad.length q),.v (R ad.length),.v (R k)]) (λk=>L8 [c,d,f] ad.length N a b (vV ad k)) (λk aa=>aa=h/\k<=ad.length) (λk=>ad.length-k) 0 (λ_=>rfl) ⟨rfl,cU _⟩ he t j ?_;refineλk e aa⟨rfl,hk⟩=>aW (λh1=>?_) (λh1=>?_);have i:k<ad.length:=I;obtain⟨g,l⟩:=o.b4 I;refine .m g l (.hp ad[k].cells rfl (by rw[bn];exact o.row l (jx i)) (.m a rfl (.row 1 3 1 a ad.length ad.length _ _ k rfl bc (io _ _ _ (by simp only[List.length_map,aB4 ad k hk];exact i)) (.bl (⟨k+1,rfl,?_,⟨rfl,i⟩,I⟩)))));rw[<-aB5 i];show _=L8 [c,d,f] ad.length N a b ((vV ad k).set k ad[k].start);rw[L8,kB];rfl;have:k=ad.length:=I;subst this;exact u _ rfl
theorem P9 N n a ad A h(b:bg h 5 A n (ad.map b2.cells))(c:n*40<=140737488355328)(d:fF N ad≠0):Fn aD 52 #[nQ N A n a] h λr aa=>r=eA #[gR none,R (fF N ad)]/\aa=h:=by
 refine bU LJ rfl (.ag (.mk _ (NS N A n a ad h b I) ?_));rintro _ aa ⟨rfl,rfl⟩;refine aW (λh1=>?_) (λh1=>absurd h1 I);exact .ag ⟨rfl,rfl⟩
theorem P8(N n k:Nat) ad A h(j:bg h 5 A n (ad.map b2.cells))(w:n*40<=140737488355328)(i:fF N ad=0):Fn aD 52 #[nQ N A n k] h λr aa=>Zx h N ad r aa:=by
 have l:ad.length=n:=by simpa using j.len
 have x:=(mM i).2.1;refine bU LJ rfl (.ag (.mk _ (NS N A n k ad h j I) ?_));rintro _ h ⟨rfl,rfl⟩;refine aW (λh1=>absurd i I) (λh1=>?_);refine gj ?_ ?_;refine .mk _ (MR N n k ad A _ i j w) (λ_ _ q=>q.1) ?_;rintro _ h1 ⟨a,c,f,d,c1,ci,co,o,O,rfl,p,s,t,v,u⟩;refine gj ?_ ?_;refine pw.one n (R 0) rfl rfl rfl rfl I I λb=>?_;refine pw.one N (R 0) rfl rfl rfl rfl I I λg=>?_;exact IQ _ _ _ h1 [3,1,2] N n k ad A (ab c ad.length c1) (ab f N ci) (ab d N co) b g i l (j.mono a) rfl rfl rfl λe m=>IP e h h1 N n ad c f d c1 ci co b g l a m ⟨o,O,p,s,t,v,u⟩;exact pw.one N (R 0) rfl rfl rfl rfl I I λg=>pw.one n (R 0) rfl rfl rfl rfl I I λb=>IQ _ _ _ h1 [3,2,1] N n k ad A (ab c ad.length c1) (ab f N ci) (ab d N co) b g i l (j.mono a) rfl rfl rfl λe m=>IP e h h1 N n ad c f d c1 ci co b g l a m ⟨o,O,p,s,t,v,u⟩;refine gj ?_ ?_;refine pw.one n (R 0) rfl rfl rfl rfl I I λb=>gj ?_ ?_;refine .mk _ (MR N n k ad A _ i j w) (λ_ _ q=>q.1) ?_;rintro _ h1 ⟨a,c,f,d,c1,ci,co,o,O,rfl,p,s,t,v,u⟩;exact pw.one N (R 0) rfl rfl rfl rfl I I λg=>IQ _ _ _ h1 [3,1,2] N n k ad A (ab c ad.length c1) (ab f N ci) (ab d N co) b g i l (j.mono a) rfl rfl rfl λe m=>IP e h h1 N n ad c f d c1 ci co b g l a m ⟨o,O,p,s,t,v,u⟩;refine pw.one N (R 0) rfl rfl rfl rfl I I λg=>.mk _ (MR N n k ad A _ i j w) (λ_ _ q=>q.1) ?_;rintro _ h1 ⟨a,c,f,d,c1,ci,co,o,O,rfl,p,s,t,v,u⟩;exact IQ _ _ _ h1 [3,1,2] N n k ad A (ab c ad.length c1) (ab f N ci) (ab d N co) b g i l (j.mono a) rfl rfl rfl λe m=>IP e h h1 N n ad c f d c1 ci co b g l a m ⟨o,O,p,s,t,v,u⟩;refine pw.one N (R 0) rfl rfl rfl rfl I I λg=>gj ?_ ?_;refine .mk _ (MR N n k ad A _ i j w) (λ_ _ q=>q.1) ?_;rintro _ h1 ⟨a,c,f,d,c1,ci,co,o,O,rfl,p,s,t,v,u⟩;exact pw.one n (R 0) rfl rfl rfl rfl I I λb=>IQ _ _ _ h1 [3,2,1] N n k ad A (ab c ad.length c1) (ab f N ci) (ab d N co) b g i l (j.mono a) rfl rfl rfl λe m=>IP e h h1 N n ad c f d c1 ci co b g l a m ⟨o,O,p,s,t,v,u⟩;refine pw.one n (R 0) rfl rfl rfl rfl I I λb=>.mk _ (MR N n k ad A _ i j w) (λ_ _ q=>q.1) ?_;rintro _ h1 ⟨a,c,f,d,c1,ci,co,o,O,rfl,p,s,t,v,u⟩;exact IQ _ _ _ h1 [3,2,1] N n k ad A (ab c ad.length c1) (ab f N ci) (ab d N co) b g i l (j.mono a) rfl rfl rfl λe m=>IP e h h1 N n ad c f d c1 ci co b g l a m ⟨o,O,p,s,t,v,u⟩
theorem ajm{N:Nat}{ad:List b2}(a:fF N ad=0):∀az f T,Good N ad f T->Good N ad (oI N ad az f).2 (T+az.length)
 |[],f,T,g=>g
 |v::az,f,T,g=>by
  unfold oI;split;rename_i hm;obtain⟨u,rfl,_⟩:=ag1 hm;have:=ajm a az (bump f u) (T+1) (g.bump a hm)
  grind
  exact⟨g.len,λx b=>by have:=g.df x b;omega,g.tok⟩
theorem Fk(c:fF N ad=0):Good N ad (bp N 0) 0:=by
 refine⟨bc,λx d=>aL,λa b=>?_⟩;have e:=sT ((mM c).2.2.2 a b);have:∀i:Nat,(bp N (0:Int)).getD i 0=0:=λi=>by
  grind
 unfold oX;grind
theorem GI(h1:o≠gt)(ae:o≠bx):st bs gt bx t f o=bs o:=by
 unfold st;rw[J.cD _ _ ae,J.cD _ _ h1]
structure At(am cE:J)(b gt bx N:Nat)(ad:List b2)(f:List Int)(T:Nat):Prop where
 le:am.le cE
 kN:tc cE b gt bx N ad
 tr:Good N ad f T
theorem At.grow(a:At am cE b gt bx N ad f T)(x:(st cE gt bx t f).le aa):∃hH,aa=st hH gt bx t f/\At am hH b gt bx N ad f T:=by
 obtain⟨h,j,i,g,ci,co,d,O,bh⟩:=a.kN.ex;obtain⟨hH,e,c,h1,ae⟩:=MJ bh.ne bh.o9 bh.o8 x;exact⟨hH,e,J.le_trans a.le c,a.kN.mono c h1 ae,a.tr⟩
theorem At.all(a:At am cE b gt bx N ad f T):am.le (st cE gt bx t f):=by
 obtain⟨e,h,g,d,ci,co,c,O,bh⟩:=a.kN.ex;exact J.le_trans a.le (J.kI bh.o9 bh.o8)
theorem HU{a':Nat}(g:fF N ad=0)(a:At am cE b gt bx N ad f T)(j:T+1<=70368744177664) z(d:st cE gt bx (dP ad f) f a'=none):Fn aD 55 #[iR b,ab (some ⟨a',0,none⟩) 1 1] ((st cE gt bx (dP ad f) f).put a' (bb #[R z] 3 (0,0))) λr aa=>r=R (oI N ad [z] f).1/\∃hH,aa=st hH gt bx (dP ad (oI N ad [z] f).2) (oI N ad [z] f).2/\At am hH b gt bx N ad (oI N ad [z] f).2 (T+1):=by
 obtain⟨hH,e,c⟩:=a.grow (J.d' (U:=bb #[R z] 3 (0,0)) d);obtain⟨n,p,o,m,ci,co,l,O,bh⟩:=c.kN.ex;have k:hH a'=some (hP [z]):=by
  have h:a'≠gt:=λq=>by subst q;rw[GH bh.ne]at d;cases d
  have i:a'≠bx:=λq=>by subst q;rw[Jm]at d;cases d
  have:st hH gt bx (dP ad f) f a'=some (hP [z]):=by rw[<-e];exact Qw
  rwa[GI h i]at this
 rw[e];have x:=arH c.kN g [z] f _ 1 1 T (X8 k) c.tr j;refine x.mono ?_;rintro r aa ⟨rfl,rfl⟩;exact⟨rfl,hH,rfl,c.le,c.kN,ajm g [z] f T c.tr⟩
theorem Bn(j:fF N ad=0)(a:At am cE b gt bx N ad f T):Fn aD 195 #[iR b] (st cE gt bx (dP ad f) f) λr aa=>∃g c,r=ab (some g) ad.length c/\(st cE gt bx (dP ad f) f).le aa/\bw aa 3 1 (some g) ad.length c ((dP ad f).map R)/\st cE gt bx (dP ad f) f g.block=none:=by
 obtain⟨u,w,v,s,ci,co,n,O,bh⟩:=a.kN.ex;have y:=(mM j).2.2.1;have x:cE.le (st cE gt bx (dP ad f) f):=J.kI bh.o9 bh.o8;have i:st cE gt bx (dP ad f) f gt=some (hP (dP ad f)):=GH bh.ne;have d:=X8 i;rw[rj]at d;generalize p:st cE gt bx (dP ad f) f=h at x i d;refine bU ayT rfl ?_;refine .hp _ (J.l5 x (b1 bh.head (o:=3) rfl)) ?_;refine .mk λq t=>?_;refine .ag (.c0 1 _ _ rfl (d.src _) (by rw[vD];exact Gh _) (by grind [eQ]) I λbo bj aK=>?_);refine .b5 1 3 1 bo (0+ad.length) bj _ rfl λaa m k l=>?_;have e:bw aa 3 1 bo (0+ad.length) bj ((dP ad f).map λz=>[R z]).flatten:=k;rw[dZ,vD]at e;obtain⟨g,rfl⟩:=XX aK.1;exact .ag ⟨g,bj,by rw[dZ];rfl,m,e,l g rfl⟩
def fU(N:Nat)(ad:List b2):List Int->List Int->Int×List (List Int)
 |[],_=>(0,[])
 |v::l,f=>if v<0\/(N:Int)<=v then(100,[])else if may N ad f v=true then((fU N ad l (bump f v.toNat)).1,dP ad (bump f v.toNat)::(fU N ad l (bump f v.toNat)).2)else(180,[])
def eJ(N:Int)(ad:List b2)(az:List Int):Int×List (List Int):=
 if fF N ad=0 then(if 2048<az.length then(2,[])else((fU N.toNat ad az (bp N.toNat 0)).1,dP ad (bp N.toNat 0)::(fU N.toNat ad az (bp N.toNat 0)).2))else(fF N ad,[])
theorem HW{v:Int}(h:may N ad f v=true):oI N ad [v] f=(1,bump f v.toNat):=by simp[oI,h]
theorem KL{v:Int}(h:may N ad f v=false):oI N ad [v] f=(0,f):=by simp[oI,h]
def nw(K X:J):Prop:=∀o,X o≠none->K o=none
def J.empty:J:=λ_=>none
theorem nw.empty K:nw K J.empty:=λ_ h=>absurd rfl h
theorem J.le_empty h:J.empty.le h:=λ_ _ e=>by cases e
def Nt(f:mT)(au:List (List Int)->aA->J->Prop)(M n:Nat):Prop:=
 ∀rows v X h g c dc,rows.length<=M->au rows v X->X.le h->X g.block=none->bw h 3 1 (some g) n c (dc.map R)->dc.length=n->
  Fn aD f #[v,ab (some g) n c] h λr aa=>∃a,au (rows++[dc]) r a/\a.le aa/\∀K,K.le h->nw K X->K g.block=none->K.le aa/\nw K a
theorem aj4(x:bs.le cE):(st bs gt bx t f).le (st cE gt bx t f):=λo U e=>by
 unfold st at e⊢;by_cases b:o=bx;subst b;rw[J.b8]at e⊢;exact e;rw[J.cD _ _ b]at e⊢;by_cases a:o=gt;subst a;rw[J.b8]at e⊢;exact e;rw[J.cD _ _ a]at e⊢;exact x o U e
theorem xk{a b:J}(x:a.le b)(h:b o=none):a o=none:=by
 cases e:a o with
 |none=>rfl
 |some U=>rw[x o U e]at h;cases h
theorem nw.mono{a b:J}(x:a.le b)(d:nw b X):nw a X:=λo h=>xk x (d o h)
structure qR(am bs cE X:J)(b gt bx N:Nat)(ad:List b2)(f:List Int)(k:Nat):Prop where
 at_:At am bs b gt bx N ad f k
 le:bs.le cE
 sub:X.le cE
 x9:nw bs X
 kE:cE gt=none
 mN:cE bx=none
theorem qR.jD{k:Nat}(U:qR am bs cE X b gt bx N ad f k):At am cE b gt bx N ad f k:=⟨J.le_trans U.at_.le U.le,U.at_.kN.mono U.le U.kE U.mN,U.at_.tr⟩
theorem qR.free{k:Nat}(U:qR am bs cE X b gt bx N ad f k):bs gt=none/\bs bx=none/\gt≠bx:=by
 obtain⟨d,g,e,c,ci,co,a,O,bh⟩:=U.at_.kN.ex;exact⟨bh.o9,bh.o8,bh.ne⟩
theorem qR.step{am bs cE X h1 ae n:J}{b gt bx N k g:Nat}{ad:List b2}{f t:List Int}(U:qR am bs cE X b gt bx N ad f k)(av:(st cE gt bx t f).le h1)(w:st cE gt bx t f g=none)(z:n.le ae)(hk:∀K,K.le h1->nw K X->K g=none->K.le ae/\nw K n):∃c,ae=st c gt bx t f/\qR am bs c n b gt bx N ad f k:=by
 obtain⟨f1,f2,r⟩:=U.free;have h:X gt=none:=xk U.sub U.kE;have d:X bx=none:=xk U.sub U.mN;have dk:nw (st bs gt bx t f) X:=λo a=>by
  have i:o≠gt:=λq=>a (q▸h);have j:o≠bx:=λq=>a (q▸d);rw[GI i j];exact U.x9 o a
 obtain⟨x,s⟩:=hk (st bs gt bx t f) (J.le_trans (aj4 U.le) av) dk (xk (aj4 U.le) w);obtain⟨c,e,l,v,u⟩:=MJ r f1 f2 x;refine⟨c,e,U.at_,l,λo y m=>?_,nw.mono (J.kI f1 f2) s,v,u⟩;have p:=z o y m;have a:st bs gt bx t f o=none:=s o aL;have i:o≠gt:=λq=>by subst q;rw[GH r]at a;cases a
 have j:o≠bx:=λq=>by subst q;rw[Jm]at a;cases a
 rw[e,GI i j]at p;exact p
theorem qR.uv{hH:J}{k:Nat}{f2:List Int}(U:qR am bs cE X b gt bx N ad f k)(a:At cE hH b gt bx N ad f2 (k+1)):qR am bs hH X b gt bx N ad f2 (k+1):=by
 obtain⟨e,h,g,d,ci,co,c,O,bh⟩:=a.kN.ex;exact⟨⟨U.at_.le,U.at_.kN,a.tr⟩,J.le_trans U.le a.le,J.le_trans U.sub a.le,U.x9,bh.o9,bh.o8⟩
def wG(h:J)(N:Int)(ad:List b2)(az:List Int)(z:aA)(au:List (List Int)->aA->J->Prop)(r:aA)(aa:J):Prop:=h.le aa/\((eJ N ad az).1≠0->r=eA #[z,R (eJ N ad az).1])/\((eJ N ad az).1=0->∃v X,r=eA #[v,R 0]/\au (eJ N ad az).2 v X/\X.le aa/\nw h X)
theorem zl{N:Int}(h:fF N ad≠0):eJ N ad az=(fF N ad,[]):=by grind [eJ]
theorem EU{N:Int}(h:fF N ad=0)(ae:2048<az.length):eJ N ad az=(2,[]):=by grind [eJ]
theorem NI(h:fF N ad=0)(ae:¬2048<az.length):eJ N ad az=((fU N ad az (bp N 0)).1,dP ad (bp N 0)::(fU N ad az (bp N 0)).2):=by grind [eJ]
theorem aCX fn au N n cap ad A D r G az h(C:bg h 5 A n (ad.map b2.cells))(y:n*40<=140737488355328)(j:bg h 1 D r (az.map λz=>[R z]))(T:au [] (ab none 0 0) J.empty)(F:Nt fn au 2048 ad.length):Fn aD 192 #[nQ N A n cap,ab D r G,ab none 0 0,.func (.func fn) #[] #[]] h λv aa=>wG h N ad az (ab none 0 0) au v aa:=by
 have Pb:az.length=r:=by simpa using j.len
 refine bU ayR rfl ?_;by_cases d:fF N ad=0;have Ud:=mM d;obtain⟨N,rfl⟩:∃q:Nat,N=q:=⟨N.toNat,I⟩;refine .ag (.mk _ (P8 N n cap ad A h C y d) ?_);rintro _ _ ⟨bs,b,gt,bx,rfl,x,K,rfl⟩;obtain⟨fN,h9,h',cw,ci,co,b7,O,bh⟩:=K.ex;have H:=bh.o9;have L:=bh.o8;clear bh;refine aW (λae=>?_) (λae=>?_);refine .ag ⟨J.le_trans x (J.kI H L),λ_=>?_,λq=>?_⟩;rw[EU d I];rfl;rw[EU d I]at q;cases q;have Y:=NI (az:=az) d I;have M:qR h bs bs J.empty b gt bx N ad (bp N 0) 0:=⟨⟨x,K,Fk d⟩,J.le_refl _,J.le_empty _,nw.empty _,H,L⟩;refine .ag (.mk _ (Bn d M.jD) ?_);rintro _ h1 ⟨g,c,rfl,t,a,o⟩;refine .ag (.mk _ (F [] _ _ h1 g c _ (cU _) T (J.le_empty _) rfl a (rj _ _)) ?_);rintro v ae ⟨X,u,w,hk⟩;obtain⟨cE,rfl,V⟩:=M.step t o w hk;refine .mk (Nat×J×J×aA×List Int×List (List Int)) [3,4,10,11,13,34,35,36] (λ(k,_,_,v,_,_)=>[.v (.func (.func fn) #[] #[]),.p 0 0,.v (ab none 0 0),.v (iR b),.v v,.v (ab D r G),.v (R r),.v (R k)]) (λ_=>[.own [.v (R N),.v (ab A n cap)] 33])
  (λ(k,cE,X,v,f,rows) aa=>aa=st cE gt bx (dP ad f) f/\qR h bs cE X b gt bx N ad f k/\au rows v X/\rows.length=k+1/\k<=r/\(fU N ad az (bp N 0)).1=(fU N ad (az.drop k) f).1/\
   dP ad (bp N 0)::(fU N ad az (bp N 0)).2=rows++(fU N ad (az.drop k) f).2) (λ(k,_,_,_,_,_)=>r-k) (0,cE,X,v,bp N 0,[dP ad (bp N 0)]) (λ(_,_,_,_,_,_)=>rfl)
  ⟨rfl,V,u,rfl,cU _,rfl,rfl⟩ rfl rfl ?_
 rintro⟨k,cE,X,v,f,rows⟩ e aa ⟨rfl,U,u,j0,hk,a,l⟩;refine aW (λQ=>?_) (λQ=>?_);have S:k<r:=I;have qj:az.drop k=az[k]::az.drop (k+1):=l1 I;obtain⟨g,B⟩:=j.b4 I;rw[qj,fU]at a l;have bad:∀z:Int,z≠0->(fU N ad az (bp N 0)).1=z->wG h N ad az (ab none 0 0) au (eA #[ab none 0 0,R z]) (st cE gt bx (dP ad f) f):=λz j e=>by
  refine⟨U.jD.all,λ_=>?_,λq=>?_⟩
  grind
  grind
 refine .m g B (.hp (R az[k]) (by rw[bn];exact(j.mono U.jD.all).one B (r:=[R az[k]]) aL rfl) (aW (λaT=>?_) (λaT=>?_)));rw[aS (bQ aT)]at a;exact .ag (bad 100 aH a);refine aW (λE=>?_) (λE=>?_);rw[aS (ba E)]at a;exact .ag (bad 100 aH a);rw[aC I]at a l;refine .mk λa' oe=>?_;have P:At cE cE b gt bx N ad f k:=⟨J.le_refl _,U.jD.kN,U.jD.tr⟩;refine .ag (.mk _ (HU d P I az[k] oe) ?_);rintro _ _ ⟨rfl,hH,rfl,s⟩;cases hm:may N ad f az[k]with
 |false=>
  rw[hm,aC bc]at a;rw[KL hm]at s⊢;refine .ag ⟨(U.uv s).jD.all,λ_=>?_,λq=>?_⟩;rw[Y];show _=eA #[_,R (fU N ad az (bp N 0)).1];rw[a];rfl
  grind
 |true=>
  rw[hm,aS rfl]at a l;rw[HW hm]at s⊢;have i:=U.uv s;refine .ag (.mk _ (Bn d i.jD) ?_);rintro _ h1 ⟨g,c,rfl,t,nj,o⟩;refine .ag (.mk _ (F rows _ X h1 g c _ I u (J.le_trans i.sub (J.le_trans (J.kI i.kE i.mN) t)) (xk (J.le_trans i.sub (J.kI i.kE i.mN)) o) nj (rj _ _)) ?_);rintro v ae ⟨o3,sy,w,W⟩;obtain⟨sx,rfl,Z⟩:=i.step t o w W;refine .bl (⟨(k+1,sx,o3,v,bump f az[k].toNat,rows++[dP ad (bump f az[k].toNat)]),rfl,rfl,⟨rfl,Z,sy,aL,S,a,?_⟩,aL⟩)
  grind
 rw[py I,fU]at a l;refine .ag ⟨U.jD.all,λq=>?_,λ_=>⟨v,X,rfl,?_,J.le_trans U.sub (J.kI U.kE U.mN),nw.mono U.at_.le U.x9⟩⟩
 grind
 grind
 refine .ag (.mk _ (P9 N n cap ad A h C y d) ?_);rintro _ ae ⟨rfl,rfl⟩;refine aW (λh1=>?_) (λh1=>absurd h1 I);refine .ag ⟨J.le_refl _,λ_=>?_,λq=>?_⟩;rw[zl d];rfl;rw[zl d]at q;omega
theorem aCY fn au N n cap ad A D r G az h(C:bg h 5 A n (ad.map b2.cells))(y:n*40<=140737488355328)(j:bg h 1 D r (az.map λz=>[R z]))(T:au [] (ab none 0 0) J.empty)(F:Nt fn au 2048 ad.length):Fn aD 165 #[nQ N A n cap,ab D r G,ab none 0 0,.func (.func fn) #[] #[]] h λv aa=>wG h N ad az (ab none 0 0) au v aa:=by
 have Pb:az.length=r:=by simpa using j.len
 refine bU afL rfl ?_;by_cases d:fF N ad=0;have Ud:=mM d;obtain⟨N,rfl⟩:∃q:Nat,N=q:=⟨N.toNat,I⟩;refine .ag (.mk _ (P8 N n cap ad A h C y d) ?_);rintro _ _ ⟨bs,b,gt,bx,rfl,x,K,rfl⟩;obtain⟨fN,h9,h',cw,ci,co,b7,O,bh⟩:=K.ex;have H:=bh.o9;have L:=bh.o8;clear bh;refine aW (λae=>?_) (λae=>?_);refine .ag ⟨J.le_trans x (J.kI H L),λ_=>?_,λq=>?_⟩;rw[EU d I];rfl;rw[EU d I]at q;cases q;have Y:=NI (az:=az) d I;have M:qR h bs bs J.empty b gt bx N ad (bp N 0) 0:=⟨⟨x,K,Fk d⟩,J.le_refl _,J.le_empty _,nw.empty _,H,L⟩;refine .ag (.mk _ (Bn d M.jD) ?_);rintro _ h1 ⟨g,c,rfl,t,a,o⟩;refine .ag (.mk _ (F [] _ _ h1 g c _ (cU _) T (J.le_empty _) rfl a (rj _ _)) ?_);rintro v ae ⟨X,u,w,hk⟩;obtain⟨cE,rfl,V⟩:=M.step t o w hk;refine .mk (Nat×J×J×aA×List Int×List (List Int)) [3,4,10,11,13,34,35,36] (λ(k,_,_,v,_,_)=>[.v (.func (.func fn) #[] #[]),.p 0 0,.v (ab none 0 0),.v (iR b),.v v,.v (ab D r G),.v (R r),.v (R k)]) (λ_=>[.own [.v (R N),.v (ab A n cap)] 33])
  (λ(k,cE,X,v,f,rows) aa=>aa=st cE gt bx (dP ad f) f/\qR h bs cE X b gt bx N ad f k/\au rows v X/\rows.length=k+1/\k<=r/\(fU N ad az (bp N 0)).1=(fU N ad (az.drop k) f).1/\
   dP ad (bp N 0)::(fU N ad az (bp N 0)).2=rows++(fU N ad (az.drop k) f).2) (λ(k,_,_,_,_,_)=>r-k) (0,cE,X,v,bp N 0,[dP ad (bp N 0)]) (λ(_,_,_,_,_,_)=>rfl)
  ⟨rfl,V,u,rfl,cU _,rfl,rfl⟩ rfl rfl ?_
 rintro⟨k,cE,X,v,f,rows⟩ e aa ⟨rfl,U,u,j0,hk,a,l⟩;refine aW (λQ=>?_) (λQ=>?_);have S:k<r:=I;have qj:az.drop k=az[k]::az.drop (k+1):=l1 I;obtain⟨g,B⟩:=j.b4 I;rw[qj,fU]at a l;have bad:∀z:Int,z≠0->(fU N ad az (bp N 0)).1=z->wG h N ad az (ab none 0 0) au (eA #[ab none 0 0,R z]) (st cE gt bx (dP ad f) f):=λz j e=>by
  refine⟨U.jD.all,λ_=>?_,λq=>?_⟩
  grind
  grind
 refine .m g B (.hp (R az[k]) (by rw[bn];exact(j.mono U.jD.all).one B (r:=[R az[k]]) aL rfl) (aW (λaT=>?_) (λaT=>?_)));rw[aS (bQ aT)]at a;exact .ag (bad 100 aH a);refine aW (λE=>?_) (λE=>?_);rw[aS (ba E)]at a;exact .ag (bad 100 aH a);rw[aC I]at a l;refine .mk λa' oe=>?_;have P:At cE cE b gt bx N ad f k:=⟨J.le_refl _,U.jD.kN,U.jD.tr⟩;refine .ag (.mk _ (HU d P I az[k] oe) ?_);rintro _ _ ⟨rfl,hH,rfl,s⟩;cases hm:may N ad f az[k]with
 |false=>
  rw[hm,aC bc]at a;rw[KL hm]at s⊢;refine .ag ⟨(U.uv s).jD.all,λ_=>?_,λq=>?_⟩;rw[Y];show _=eA #[_,R (fU N ad az (bp N 0)).1];rw[a];rfl
  grind
 |true=>
  rw[hm,aS rfl]at a l;rw[HW hm]at s⊢;have i:=U.uv s;refine .ag (.mk _ (Bn d i.jD) ?_);rintro _ h1 ⟨g,c,rfl,t,nj,o⟩;refine .ag (.mk _ (F rows _ X h1 g c _ I u (J.le_trans i.sub (J.le_trans (J.kI i.kE i.mN) t)) (xk (J.le_trans i.sub (J.kI i.kE i.mN)) o) nj (rj _ _)) ?_);rintro v ae ⟨o3,sy,w,W⟩;obtain⟨sx,rfl,Z⟩:=i.step t o w W;refine .bl (⟨(k+1,sx,o3,v,bump f az[k].toNat,rows++[dP ad (bump f az[k].toNat)]),rfl,rfl,⟨rfl,Z,sy,aL,S,a,?_⟩,aL⟩)
  grind
 rw[py I,fU]at a l;refine .ag ⟨U.jD.all,λq=>?_,λ_=>⟨v,X,rfl,?_,J.le_trans U.sub (J.kI U.kE U.mN),nw.mono U.at_.le U.x9⟩⟩
 grind
 grind
 refine .ag (.mk _ (P9 N n cap ad A h C y d) ?_);rintro _ ae ⟨rfl,rfl⟩;refine aW (λh1=>?_) (λh1=>absurd h1 I);refine .ag ⟨J.le_refl _,λ_=>?_,λq=>?_⟩;rw[zl d];rfl;rw[zl d]at q;omega
theorem aC0 fn au N n cap ad A D r d az h(c:bg h 5 A n (ad.map b2.cells))(b:n*40<=140737488355328)(a:fF N ad≠0):Fn aD 165 #[nQ N A n cap,ab D r d,ab none 0 0,.func (.func fn) #[] #[]] h λv aa=>wG h N ad az (ab none 0 0) au v aa:=by
 refine bU afL rfl (.ag (.mk _ (P9 N n cap ad A h c b a) ?_));rintro _ ae ⟨rfl,rfl⟩;refine aW (λh1=>?_) (λh1=>absurd h1 I);refine .ag ⟨J.le_refl _,λ_=>?_,λq=>?_⟩;rw[zl a];rfl;rw[zl a]at q;omega
def Zy(f:mT)(au:List (List Int)->aA->J->Prop)(M n:Nat):Prop:=
 ∀rows v X h g c dc,rows.length<=M->au rows v X->X.le h->X g.block=none->bw h 3 1 (some g) n c (dc.map R)->dc.length=n->
  Fn aD f #[v,ab (some g) n c] h λr aa=>h.le aa/\∃a,au (rows++[dc]) r a/\a.le aa/\∀K,K.le h->nw K X->K g.block=none->K.le aa/\nw K a
set_option maxHeartbeats 1000000 in
theorem aC1(fn:mT)(au:List (List Int)->aA->J->Prop)(N:Int)(n cap:Nat)(ad:List b2)(A D:Option aE)(r jV:Nat)(az:List Int)(h:J)(aw:bg h 5 A n (ad.map b2.cells))(aF:n*40<=140737488355328)(w:bg h 1 D r (az.map λz=>[R z]))(dt:au [] (.agg #[ab none 0 0,ab none 0 0]) J.empty)(F:∀rows v X,au rows v X->∃x y:Option aE×Nat×Nat,v= .agg #[ab x.1 x.2.1 x.2.2,ab y.1 y.2.1 y.2.2])(G:Zy fn au 2048 ad.length):Fn aD 162 #[nQ N A n cap,ab D r jV,.agg #[ab none 0 0,ab none 0 0],.func (.func fn) #[] #[]] h λv aa=>wG h N ad az (.agg #[ab none 0 0,ab none 0 0]) au v aa:=by
 have Pb:az.length=r:=by simpa using w.len
 refine bU ayD rfl ?_;by_cases i:fF N ad=0;have Ud:=mM i;obtain⟨N,rfl⟩:∃q:Nat,N=q:=⟨N.toNat,I⟩;refine .ag (.mk _ (P8 N n cap ad A h aw aF i) ?_);rintro _ _ ⟨bs,b,gt,bx,rfl,Dw,kN,rfl⟩;obtain⟨fN,h9,h',cw,ci,co,b7,O,bh⟩:=kN.ex;have kE:=bh.o9;have mN:=bh.o8;clear bh;refine aW (λae=>?_) (λae=>?_);refine .ag ⟨J.le_trans Dw (J.kI kE mN),λ_=>?_,λq=>?_⟩;rw[EU i I];rfl;rw[EU i I]at q;cases q;have jZ:=NI (az:=az) i I;have Z:qR h bs bs J.empty b gt bx N ad (bp N 0) 0:=⟨⟨Dw,kN,Fk i⟩,J.le_refl _,J.le_empty _,nw.empty _,kE,mN⟩;refine gj ?_ ?_;refine .mk _ (Bn i Z.jD) (λ_ _ q=>aL) ?_;rintro _ h1 ⟨g,c,rfl,t,a,s⟩;refine gj ?_ ?_;refine .mk _ (G [] _ _ h1 g c _ (cU _) dt (J.le_empty _) rfl a (rj _ _)) (λ_ _ q=>q.1) ?_;rintro v ae ⟨_,X,j,u,hk⟩;obtain⟨x,y,rfl⟩:=F _ _ _ j;obtain⟨cE,rfl,Q⟩:=Z.step t s u hk;refine .mk (Nat×J×J×((Option aE×Nat×Nat)×(Option aE×Nat×Nat))×List Int×List (List Int)) [3,4,8,10,11,13,34,35,36] (λ(k,_,_,_,_,_)=>[.v (.func (.func fn) #[] #[]),.p 0 0,.p 2 0,.p 3 0,.v (iR b),.p 4 0,.v (ab D r jV),.v (R r),.v (R k)]) (λ(_,_,_,(x,y),_,_)=>[.own [.v (R N),.v (ab A n cap)] 33,.own [.v (ab none 0 0),.v (ab none 0 0)] 349,.own [.v (ab none 0 0),.v (ab none 0 0)] 349,.own [.v (ab none 0 0),.v (ab none 0 0)] 349,.own [.v (ab x.1 x.2.1 x.2.2),.v (ab y.1 y.2.1 y.2.2)] 349])
  (λ(k,cE,X,(x,y),f,rows) aa=>aa=st cE gt bx (dP ad f) f/\qR h bs cE X b gt bx N ad f k/\au rows (.agg #[ab x.1 x.2.1 x.2.2,ab y.1 y.2.1 y.2.2]) X/\rows.length=k+1/\k<=r/\(fU N ad az (bp N 0)).1=(fU N ad (az.drop k) f).1/\
   dP ad (bp N 0)::(fU N ad az (bp N 0)).2=rows++(fU N ad (az.drop k) f).2) (λ(k,_,_,_,_,_)=>r-k) (0,cE,X,(x,y),bp N 0,[dP ad (bp N 0)]) (λ(_,_,_,_,_,_)=>rfl)
  ⟨rfl,Q,j,rfl,cU _,rfl,rfl⟩ rfl rfl ?_
 rintro⟨k,cE,X,⟨x,y⟩,f,rows⟩ e aa ⟨rfl,U,j,j0,hk,a,l⟩;refine aW (λK=>?_) (λK=>?_);have L:k<r:=I;have qj:az.drop k=az[k]::az.drop (k+1):=l1 I;obtain⟨g,B⟩:=w.b4 I;rw[qj,fU]at a l;have bad:∀z:Int,z≠0->(fU N ad az (bp N 0)).1=z->wG h N ad az (.agg #[ab none 0 0,ab none 0 0]) au (eA #[.agg #[ab none 0 0,ab none 0 0],R z]) (st cE gt bx (dP ad f) f):=λz w e=>by
  refine⟨U.jD.all,λ_=>?_,λq=>?_⟩
  grind
  grind
 refine .m g B (.hp (R az[k]) (by rw[bn];exact(w.mono U.jD.all).one B (r:=[R az[k]]) aL rfl) (aW (λaT=>?_) (λaT=>?_)));rw[aS (bQ aT)]at a;exact .ag (bad 100 aH a);refine aW (λC=>?_) (λC=>?_);rw[aS (ba C)]at a;exact .ag (bad 100 aH a);rw[aC I]at a l;refine .mk λa' Y=>?_;have H:At cE cE b gt bx N ad f k:=⟨J.le_refl _,U.jD.kN,U.jD.tr⟩;refine .ag (.mk _ (HU i H I az[k] Y) ?_);rintro _ _ ⟨rfl,hH,rfl,o⟩;cases hm:may N ad f az[k]with
 |false=>
  rw[hm,aC bc]at a;rw[KL hm]at o⊢;refine .ag ⟨(U.uv o).jD.all,λ_=>?_,λq=>?_⟩;rw[jZ];show _=eA #[_,R (fU N ad az (bp N 0)).1];rw[a];rfl
  grind
 |true=>
  rw[hm,aS rfl]at a l;rw[HW hm]at o⊢;have d:=U.uv o;refine .mk _ (Bn i d.jD) (λ_ _ q=>aL) ?_;rintro _ h1 ⟨g,c,rfl,t,V,s⟩;refine .mk _ (G rows _ X h1 g c _ I j (J.le_trans d.sub (J.le_trans (J.kI d.kE d.mN) t)) (xk (J.le_trans d.sub (J.kI d.kE d.mN)) s) V (rj _ _)) (λ_ _ q=>q.1) ?_;rintro v ae ⟨_,W,E,u,S⟩;obtain⟨M,P,rfl⟩:=F _ _ _ E;obtain⟨sx,rfl,T⟩:=d.step t s u S;refine .bl (⟨(k+1,sx,W,(M,P),bump f az[k].toNat,rows++[dP ad (bump f az[k].toNat)]),rfl,rfl,⟨rfl,T,E,aL,L,a,?_⟩,aL⟩)
  grind
 rw[py I,fU]at a l;refine .ag ⟨U.jD.all,λq=>?_,λ_=>⟨_,X,rfl,?_,J.le_trans U.sub (J.kI U.kE U.mN),nw.mono U.at_.le U.x9⟩⟩
 grind
 grind
 refine .mk _ (G [] _ _ h1 g c _ (cU _) dt (J.le_empty _) rfl a (rj _ _)) (λ_ _ q=>q.1) (λv ae⟨_,X,j,u,hk⟩=>?_);obtain⟨x,y,rfl⟩:=F _ _ _ j;obtain⟨cE,rfl,Q⟩:=Z.step t s u hk;refine .mk (Nat×J×J×((Option aE×Nat×Nat)×(Option aE×Nat×Nat))×List Int×List (List Int)) [3,4,8,10,11,13,34,35,36] (λ(k,_,_,_,_,_)=>[.v (.func (.func fn) #[] #[]),.p 0 0,.p 2 0,.p 3 0,.v (iR b),.p 4 0,.v (ab D r jV),.v (R r),.v (R k)]) (λ(_,_,_,(x,y),_,_)=>[.own [.v (R N),.v (ab A n cap)] 33,.own [.v (ab none 0 0),.v (ab none 0 0)] 349,.own [.v (ab none 0 0),.v (ab none 0 0)] 349,.own [.v (ab none 0 0),.v (ab none 0 0)] 349,.own [.v (ab x.1 x.2.1 x.2.2),.v (ab y.1 y.2.1 y.2.2)] 349])
  (λ(k,cE,X,(x,y),f,rows) aa=>aa=st cE gt bx (dP ad f) f/\qR h bs cE X b gt bx N ad f k/\au rows (.agg #[ab x.1 x.2.1 x.2.2,ab y.1 y.2.1 y.2.2]) X/\rows.length=k+1/\k<=r/\(fU N ad az (bp N 0)).1=(fU N ad (az.drop k) f).1/\
   dP ad (bp N 0)::(fU N ad az (bp N 0)).2=rows++(fU N ad (az.drop k) f).2) (λ(k,_,_,_,_,_)=>r-k) (0,cE,X,(x,y),bp N 0,[dP ad (bp N 0)]) (λ(_,_,_,_,_,_)=>rfl)
  ⟨rfl,Q,j,rfl,cU _,rfl,rfl⟩ rfl rfl ?_
 rintro⟨k,cE,X,⟨x,y⟩,f,rows⟩ e aa ⟨rfl,U,j,j0,hk,a,l⟩;refine aW (λK=>?_) (λK=>?_);have L:k<r:=I;have qj:az.drop k=az[k]::az.drop (k+1):=l1 I;obtain⟨g,B⟩:=w.b4 I;rw[qj,fU]at a l;have bad:∀z:Int,z≠0->(fU N ad az (bp N 0)).1=z->wG h N ad az (.agg #[ab none 0 0,ab none 0 0]) au (eA #[.agg #[ab none 0 0,ab none 0 0],R z]) (st cE gt bx (dP ad f) f):=λz w e=>by
  refine⟨U.jD.all,λ_=>?_,λq=>?_⟩
  grind
  grind
 refine .m g B (.hp (R az[k]) (by rw[bn];exact(w.mono U.jD.all).one B (r:=[R az[k]]) aL rfl) (aW (λaT=>?_) (λaT=>?_)));rw[aS (bQ aT)]at a;exact .ag (bad 100 aH a);refine aW (λC=>?_) (λC=>?_);rw[aS (ba C)]at a;exact .ag (bad 100 aH a);rw[aC I]at a l;refine .mk λa' Y=>?_;have H:At cE cE b gt bx N ad f k:=⟨J.le_refl _,U.jD.kN,U.jD.tr⟩;refine .ag (.mk _ (HU i H I az[k] Y) ?_);rintro _ _ ⟨rfl,hH,rfl,o⟩;cases hm:may N ad f az[k]with
 |false=>
  rw[hm,aC bc]at a;rw[KL hm]at o⊢;refine .ag ⟨(U.uv o).jD.all,λ_=>?_,λq=>?_⟩;rw[jZ];show _=eA #[_,R (fU N ad az (bp N 0)).1];rw[a];rfl
  grind
 |true=>
  rw[hm,aS rfl]at a l;rw[HW hm]at o⊢;have d:=U.uv o;refine .mk _ (Bn i d.jD) (λ_ _ q=>aL) ?_;rintro _ h1 ⟨g,c,rfl,t,V,s⟩;refine .mk _ (G rows _ X h1 g c _ I j (J.le_trans d.sub (J.le_trans (J.kI d.kE d.mN) t)) (xk (J.le_trans d.sub (J.kI d.kE d.mN)) s) V (rj _ _)) (λ_ _ q=>q.1) ?_;rintro v ae ⟨_,W,E,u,S⟩;obtain⟨M,P,rfl⟩:=F _ _ _ E;obtain⟨sx,rfl,T⟩:=d.step t s u S;refine .bl (⟨(k+1,sx,W,(M,P),bump f az[k].toNat,rows++[dP ad (bump f az[k].toNat)]),rfl,rfl,⟨rfl,T,E,aL,L,a,?_⟩,aL⟩)
  grind
 rw[py I,fU]at a l;refine .ag ⟨U.jD.all,λq=>?_,λ_=>⟨_,X,rfl,?_,J.le_trans U.sub (J.kI U.kE U.mN),nw.mono U.at_.le U.x9⟩⟩
 grind
 grind
 refine .mk _ (Bn i Z.jD) (λ_ _ q=>aL) ?_;rintro _ h1 ⟨g,c,rfl,t,a,s⟩;refine .mk _ (G [] _ _ h1 g c _ (cU _) dt (J.le_empty _) rfl a (rj _ _)) (λ_ _ q=>q.1) ?_;rintro v ae ⟨_,X,j,u,hk⟩;obtain⟨x,y,rfl⟩:=F _ _ _ j;obtain⟨cE,rfl,Q⟩:=Z.step t s u hk;refine .mk (Nat×J×J×((Option aE×Nat×Nat)×(Option aE×Nat×Nat))×List Int×List (List Int)) [3,4,8,10,11,13,34,35,36] (λ(k,_,_,_,_,_)=>[.v (.func (.func fn) #[] #[]),.p 0 0,.p 2 0,.p 3 0,.v (iR b),.p 4 0,.v (ab D r jV),.v (R r),.v (R k)]) (λ(_,_,_,(x,y),_,_)=>[.own [.v (R N),.v (ab A n cap)] 33,.own [.v (ab none 0 0),.v (ab none 0 0)] 349,.own [.v (ab none 0 0),.v (ab none 0 0)] 349,.own [.v (ab none 0 0),.v (ab none 0 0)] 349,.own [.v (ab x.1 x.2.1 x.2.2),.v (ab y.1 y.2.1 y.2.2)] 349])
  (λ(k,cE,X,(x,y),f,rows) aa=>aa=st cE gt bx (dP ad f) f/\qR h bs cE X b gt bx N ad f k/\au rows (.agg #[ab x.1 x.2.1 x.2.2,ab y.1 y.2.1 y.2.2]) X/\rows.length=k+1/\k<=r/\(fU N ad az (bp N 0)).1=(fU N ad (az.drop k) f).1/\
   dP ad (bp N 0)::(fU N ad az (bp N 0)).2=rows++(fU N ad (az.drop k) f).2) (λ(k,_,_,_,_,_)=>r-k) (0,cE,X,(x,y),bp N 0,[dP ad (bp N 0)]) (λ(_,_,_,_,_,_)=>rfl)
  ⟨rfl,Q,j,rfl,cU _,rfl,rfl⟩ rfl rfl ?_
 rintro⟨k,cE,X,⟨x,y⟩,f,rows⟩ e aa ⟨rfl,U,j,j0,hk,a,l⟩;refine aW (λK=>?_) (λK=>?_);have L:k<r:=I;have qj:az.drop k=az[k]::az.drop (k+1):=l1 I;obtain⟨g,B⟩:=w.b4 I;rw[qj,fU]at a l;have bad:∀z:Int,z≠0->(fU N ad az (bp N 0)).1=z->wG h N ad az (.agg #[ab none 0 0,ab none 0 0]) au (eA #[.agg #[ab none 0 0,ab none 0 0],R z]) (st cE gt bx (dP ad f) f):=λz w e=>by
  refine⟨U.jD.all,λ_=>?_,λq=>?_⟩
  grind
  grind
 refine .m g B (.hp (R az[k]) (by rw[bn];exact(w.mono U.jD.all).one B (r:=[R az[k]]) aL rfl) (aW (λaT=>?_) (λaT=>?_)));rw[aS (bQ aT)]at a;exact .ag (bad 100 aH a);refine aW (λC=>?_) (λC=>?_);rw[aS (ba C)]at a;exact .ag (bad 100 aH a);rw[aC I]at a l;refine .mk λa' Y=>?_;have H:At cE cE b gt bx N ad f k:=⟨J.le_refl _,U.jD.kN,U.jD.tr⟩;refine .ag (.mk _ (HU i H I az[k] Y) ?_);rintro _ _ ⟨rfl,hH,rfl,o⟩;cases hm:may N ad f az[k]with
 |false=>
  rw[hm,aC bc]at a;rw[KL hm]at o⊢;refine .ag ⟨(U.uv o).jD.all,λ_=>?_,λq=>?_⟩;rw[jZ];show _=eA #[_,R (fU N ad az (bp N 0)).1];rw[a];rfl
  grind
 |true=>
  rw[hm,aS rfl]at a l;rw[HW hm]at o⊢;have d:=U.uv o;refine .mk _ (Bn i d.jD) (λ_ _ q=>aL) ?_;rintro _ h1 ⟨g,c,rfl,t,V,s⟩;refine .mk _ (G rows _ X h1 g c _ I j (J.le_trans d.sub (J.le_trans (J.kI d.kE d.mN) t)) (xk (J.le_trans d.sub (J.kI d.kE d.mN)) s) V (rj _ _)) (λ_ _ q=>q.1) ?_;rintro v ae ⟨_,W,E,u,S⟩;obtain⟨M,P,rfl⟩:=F _ _ _ E;obtain⟨sx,rfl,T⟩:=d.step t s u S;refine .bl (⟨(k+1,sx,W,(M,P),bump f az[k].toNat,rows++[dP ad (bump f az[k].toNat)]),rfl,rfl,⟨rfl,T,E,aL,L,a,?_⟩,aL⟩)
  grind
 rw[py I,fU]at a l;refine .ag ⟨U.jD.all,λq=>?_,λ_=>⟨_,X,rfl,?_,J.le_trans U.sub (J.kI U.kE U.mN),nw.mono U.at_.le U.x9⟩⟩
 grind
 grind
 refine .ag (.mk _ (P9 N n cap ad A h aw aF i) ?_);rintro _ ae ⟨rfl,rfl⟩;refine aW (λh1=>?_) (λh1=>absurd h1 I);refine .ag ⟨J.le_refl _,λ_=>?_,λq=>?_⟩;rw[zl i];rfl;rw[zl i]at q;omega
open Classical in
noncomputable def J.on(h:J)(S:Nat->Prop):J:=λo=>if S o then h o else none
theorem J.xr(h:J) S:(h.on S).le h:=λo U e=>by
 unfold J.on at e;grind
theorem J.mQ(a:S o):h.on S o=h o:=by unfold J.on;grind
theorem J.vY(a:h.on S o≠none):S o:=by
 unfold J.on at a;grind
theorem bw.on{h:J}{bF size n cap:Nat}{A:Option aE}{xs:List aA}{S:Nat->Prop}(x:bw h bF size A n cap xs)(dy:∀g,A=some g->S g.block):bw (h.on S) bF size A n cap xs:=by
 obtain⟨h1,ae⟩:=x;refine⟨h1,?_⟩;rcases ae with ae|⟨b,d,a,c,e⟩
 grind
 exact ba ⟨b,d,a,by rw[J.mQ (dy _ a)];exact c,e⟩
theorem bw.one(x:bw h 3 1 A n cap (l.map R)):bg h 1 A n (l.map λz=>[R z]):=by
 rw[<-vD]at x;exact x.dK (Vs _) aH
def Je(n:Nat)(cq:Nat->aE×Nat)(k:Nat):List aA:=(fJ k).map λi=>ab (some (cq i).1) n (cq i).2
structure J'(X:J)(n:Nat)(rows:List (List Int))(A:Option aE)(c:Nat)(cq:Nat->aE×Nat):Prop where
 outer:bw X 27 1 A rows.length c (Je n cq rows.length)
 inner:∀i(ai:i<rows.length),bw X 3 1 (some (cq i).1) n (cq i).2 (rows[i].map R)
 apart:∀i o,i<rows.length->o<rows.length->i≠o->(cq i).1.block≠(cq o).1.block
 own:∀i,i<rows.length->∀g,A=some g->g.block≠(cq i).1.block
def Nx(n:Nat)(rows:List (List Int))(v:aA)(X:J):Prop:=∃A c cq,v=ab A rows.length c/\J' X n rows A c cq
theorem aDJ n:Nx n [] (ab none 0 0) J.empty:=⟨none,0,λ_=>(⟨0,0,none⟩,0),rfl,⟨rfl,bQ ⟨rfl,rfl,rfl⟩⟩,(λi a=>aL),(λi o a=>bc),λi a=>bc⟩
theorem aB7(Z:M<=4096):Nt 193 (Nx n) M n:=by
 rintro rows v X h g c dc W ⟨A,P,cq,rfl,d⟩ l H D sJ;refine bU ayS rfl ?_;refine .abs 27 1 A rows.length P _ (d.outer.mono l) (.ag (.c0 1 _ [ab (some g) n c] rfl rfl (by simp;rfl) (by grind [eQ]) I λy c2 tu=>?_));refine .b5 1 27 1 y (rows.length+1) c2 _ rfl λaa s r t=>.ag ?_;obtain⟨g2,rfl⟩:∃g2,y=some g2:=by
  cases y with
  |none=>grind
  |some g2=>simp
 have T:∀o U,X o=some U->(∀g,A=some g->g.block≠o)->aa o=some U:=λo U e O=>by
  refine s o U ?_;cases A with
  |none=>exact l o U e
  |some e6=>rw[en,J.nA _ (λq=>O e6 rfl q.symm)];exact l o U e
 have vI:∀e6,A=some e6->e6.block≠g.block:=λe6 e q=>d.outer.mem e aL;have x:bw aa 3 1 (some g) n c (dc.map R):=(D.del λg1 g2 b f=>aL).mono s;have C:∀K:J,K.le h->nw K X->K.le (en h A):=λK hk k o U e=>by
  cases A with
  |none=>exact hk o U e
  |some e6=>rw[en,J.nA _ (λq=>by subst q;rw[k _ (d.outer.mem rfl)]at e;cases e)];exact hk o U e
 have Y:∀i(a:i<rows.length),g2.block≠(cq i).1.block:=λi a q=>by
  have h1:=t g2 rfl;have ae:=(((d.inner i a).mono l).del (B:=A) λg1 g3 b f=>by injection b with b;subst b;exact(d.own i a g3 f).symm).mem rfl
  grind
 have G:g2.block≠g.block:=λq=>by
  have h1:=t g2 rfl;have ae:=(D.del (B:=A) λg1 g3 b f=>aL).mem rfl
  grind
 have F:∀i(a:i<rows.length),(cq i).1.block≠g.block:=λi a q=>(d.inner i a).mem rfl aL;let m:Nat->aE×Nat:=λi=>if i=rows.length then(g,c)else cq i;have j:m rows.length=(g,c):=by simp[m]
 have u:∀i,i<rows.length->m i=cq i:=λi a=>by grind
 let S:Nat->Prop:=λo=>o=g2.block\/o=g.block\/∃i,i<rows.length/\o=(cq i).1.block;have w:Je n cq rows.length++[ab (some g) n c]=Je n m (rows.length+1):=by
  simp only[Je,CG,fw,er,List.map_nil,j];simp_all
 refine⟨aa.on S,⟨some g2,c2,m,by simp[kL],?_,λi a=>?_,λi o a z Q=>?_,λi a L e=>?_⟩,J.xr _ _,λK hk k V=>⟨J.le_trans (C K hk k) s,λo z=>?_⟩⟩;have r:bw aa 27 1 (some g2) (rows.length+1) c2 (Je n cq rows.length++[ab (some g) n c]):=r;rw[w]at r;simpa using r.on (S:=S) λq e=>by grind
 by_cases e:i=rows.length;subst e;rw[j];simpa using x.on (S:=S) λq e=>by grind
 have p:i<rows.length:=aL;rw[u i p,List.getElem_append_left p];have N:=((((d.inner i p).mono l).del (B:=A) λg1 g3 b f=>by injection b with b;subst b;exact(d.own i p g3 f).symm)).mono s;exact N.on λq e=>by grind
 have h1:i<rows.length+1:=aL;have ae:o<rows.length+1:=aL;by_cases b:i=rows.length
 grind
 have E:i<rows.length:=I;by_cases f:o=rows.length
 grind
 rw[u i E,u o I];exact d.apart i o E I Q
 grind
 rcases J.vY z with rfl|rfl|⟨i,a,rfl⟩;exact xk (C K hk k) (t g2 rfl);omega;exact k _ ((d.inner i a).mem rfl)
def ma:List (List Int)->List Int
 |[]=>[]
 |r::rs=>rs.foldl (λa b=>sh max a b) r
theorem aBd(h:rows≠[]) t:ma (rows++[t])=sh max (ma rows) t:=by
 cases rows with
 |nil=>grind
 |cons r rs=>simp[ma]
def Hm(n:Nat)(rows:List (List Int))(v:aA)(X:J):Prop:=(rows=[]->v=ab none 0 0)/\(rows≠[]->∃g c,v=ab (some g) n c/\bw X 3 1 (some g) n c ((ma rows).map R))
theorem aDN n:Hm n [] (ab none 0 0) J.empty:=⟨λ_=>rfl,λh=>absurd rfl h⟩
def B5(a b:List Int)(k:Nat):List Int:=(sh max a b).take k++a.drop k
theorem aBl a b:B5 a b 0=a:=dW
theorem aBi{b:List Int}(c:a.length=n)(d:b.length=n):B5 a b n=sh max a b:=by
 unfold B5
 grind
theorem aBj{b:List Int}{k:Nat}(c:a.length=n)(d:b.length=n)(hk:k<n):(B5 a b k)[k]?=some a[k]:=by
 unfold B5
 grind
theorem aBk{b:List Int}{k:Nat}(c:a.length=n)(d:b.length=n)(hk:k<n):(B5 a b k).set k (max a[k] b[k])=B5 a b (k+1):=by
 unfold B5;have al:((sh max a b).take k).length=k:=aL;rw[vm _ _ I,al,xQ,l1 I,amQ,lz aL,List.getElem_zipWith];simp
theorem aB8(Q:n<=4096):Nt 166 (Hm n) M n:=by
 rintro rows v X h g c dc T ⟨E,P⟩ G F D y;by_cases p:rows=[];subst p;obtain rfl:=E rfl;refine bU afM rfl (.ag ⟨h.on λo=>o=g.block,⟨λe=>by simp at e,λ_=>⟨g,c,rfl,?_⟩⟩,J.xr _ _,λK hk i z=>⟨hk,λo l=>?_⟩⟩);exact D.on λq e=>by grind
 rw[J.vY l];exact z;obtain⟨C,u,rfl,aK⟩:=P p;have x:(ma rows).length=n:=by have:=aK.1;grind
 have S:C.block≠g.block:=λq=>aK.mem rfl aL;obtain⟨a,rfl⟩:∃a,C=⟨a,0,none⟩:=by
  rcases aK.2 with⟨q,_⟩|⟨b,_,q,_⟩
  grind
  grind
 have f:=(D.del (B:=some ⟨a,0,none⟩) λg1 g2 d A=>aL).one;have V:=f.b4;refine bU afM rfl ?_;refine .mk Nat [0,10,11,12] (λk=>[.v (ab (some ⟨a,0,none⟩) n u),.v (ab (some g) n c),.v (R n),.v (R k)]) (λ_=>[]) (λk aa=>k<=n/\(h.del a).le aa/\bw aa 3 1 (some ⟨a,0,none⟩) n u ((B5 (ma rows) dc k).map R)) (λk=>n-k) 0 (λ_=>rfl) ⟨cU _,J.abj _ _,by rw[aBl];exact aK.mono G⟩ rfl rfl ?_;refineλk e aa⟨hk,i,j⟩=>aW (λh1=>?_) (λh1=>?_);have t:k<n:=I;refine .m g rfl (.hp (R dc[k]) (by rw[bn];exact(f.mono i).one rfl (r:=[R dc[k]]) aL rfl) (.mk ⟨a,0,none⟩ rfl I I (.hp (R ((ma rows)[k]'I)) (by rw[bn];exact j.one.one rfl (r:=[R ((ma rows)[k]'I)]) (by simp[aBj x y t]) rfl) (.mk ⟨a,0,none⟩ rfl I I ?_))));obtain⟨g3,cs,N,d,A,H,L⟩:=j.write (off:=k) I (R (max ((ma rows)[k]'I) (dc[k]'I)));injection d with d;injection d with d;subst d;refine .hp a k 3 cs N (by rw[bn,add_lit,e4,dZ]) A H (.bl (⟨k+1,rfl,rfl,⟨t,λo U q=>?_,?_⟩,I⟩));rw[J.cD _ _ (λw=>by subst w;rw[J.HJ]at q;cases q)];exact i o U q;rw[<-aBk x y t,kB];exact L;have:k=n:=I;subst this;rw[aBi x y,<-aBd p]at j;refine .ag ⟨aa.on λo=>o=a,⟨λe=>by simp at e,λ_=>⟨⟨a,0,none⟩,u,rfl,?_⟩⟩,J.xr _ _,λK hk s z=>?_⟩;exact j.on λq e=>by grind
 have O:K a=none:=s a (aK.mem rfl);refine⟨λo U q=>i o U ?_,λo l=>by rw[J.vY l];exact O⟩;rw[J.nA _ (λw=>aL)];exact hk o U q
def Ny(n:Nat)(rows:List (List Int))(v:aA)(X:J):Prop:=(rows=[]->v= .agg #[ab none 0 0,ab none 0 0])/\(rows≠[]->∃d a b c,v= .agg #[ab (some d) n a,ab (some b) n c]/\bw X 3 1 (some d) n a ((rows.headD []).map R)/\bw X 3 1 (some b) n c ((rows.getLastD []).map R))
theorem aDL n:Ny n [] (.agg #[ab none 0 0,ab none 0 0]) J.empty:=⟨λ_=>rfl,λh=>absurd rfl h⟩
theorem aDM n rows v X(h:Ny n rows v X):∃x y:Option aE×Nat×Nat,v= .agg #[ab x.1 x.2.1 x.2.2,ab y.1 y.2.1 y.2.2]:=by
 by_cases a:rows=[];exact⟨(none,0,0),(none,0,0),h.1 a⟩;obtain⟨f,b,c,d,e,_⟩:=h.2 a;simp_all
set_option maxRecDepth 100000 in
theorem aB9:Zy 163 (Ny n) M n:=by
 rintro rows v X h g c dc z ⟨p,u⟩ s r k A;have m:(rows++[dc]).getLastD []=dc:=bc;by_cases f:rows=[];subst f;obtain rfl:=p rfl;refine bU afK rfl ?_;have l:bw (h.on λo=>o=g.block) 3 1 (some g) n c (dc.map R):=k.on λq e=>by grind
 refine .ag ⟨J.le_refl _,h.on λo=>o=g.block,⟨λe=>by simp at e,λ_=>⟨g,c,g,c,rfl,l,l⟩⟩,J.xr _ _,λK hk i d=>⟨hk,λo a=>?_⟩⟩;rw[J.vY a];exact d;obtain⟨j,t,x,y,rfl,aK,w⟩:=u f;have b:(rows++[dc]).headD []=rows.headD []:=by cases rows with
  |nil=>grind
  |cons=>rfl
 refine bU afK rfl (.ag ⟨J.le_refl _,h.on λo=>o=g.block\/o=j.block,⟨λe=>by simp at e,λ_=>⟨j,t,g,c,rfl,?_,?_⟩⟩,J.xr _ _,λK hk i d=>⟨hk,λo a=>?_⟩⟩);rw[b];exact(aK.mono s).on λq e=>by grind
 rw[m];exact k.on λq e=>by grind
 rcases J.vY a with rfl|rfl;omega;exact i _ (aK.mem rfl)
theorem akr{b:List Int}{k:Nat}(h:a.take k=b.take k) c(d:k<b.length):(a.take (k+1)=b.take (k+1))↔a[k]=b[k]:=by
 rw[lz c,lz d,h];exact⟨λe=>by have:=List.append_cancel_left e;grind,λe=>by rw[e]⟩
theorem aqQ A B n m j l(a b:List Int) h(aK:bg h 1 A n (a.map λz=>[R z]))(d:bg h 1 B m (b.map λz=>[R z]))(t:n<=9223372036854775806):Fn aD 164 #[ab A n j,ab B m l] h λr aa=>r=dh (decide (a=b))/\aa=h:=by
 have u:a.length=n:=by simpa using aK.len
 have w:b.length=m:=by simpa using d.len
 refine bU ayE rfl (aW (λh1=>?_) (λh1=>?_));refine .ag ⟨?_,rfl⟩;rw[jn (λe=>aL)];rfl;have p:n=m:=I;subst p;refine .mk Nat [0,1,12,13] (λk=>[.v (ab A n j),.v (ab B n l),.v (R n),.v (R k)]) (λ_=>[]) (λk aa=>aa=h/\k<=n/\a.take k=b.take k) (λk=>n-k) 0 (λ_=>rfl) ⟨rfl,cU _,bc⟩ rfl rfl (λk e aa⟨rfl,hk,f⟩=>aW (λae=>?_) (λae=>?_));have q:k<n:=I;obtain⟨g,i⟩:=aK.b4 I;obtain⟨g2,o⟩:=d.b4 I;have s:=akr f I I;refine .m g i (.hp (R (a[k]'I)) (by rw[bn];exact aK.one i (r:=[R (a[k]'I)]) aL rfl) (.m g2 o (.hp (R (b[k]'I)) (by rw[bn];exact d.one o (r:=[R (b[k]'I)]) aL rfl) (aW (λc=>?_) (λc=>?_)))));refine .ag ⟨?_,rfl⟩;rw[jn (λe=>c aL)];rfl;exact .bl (⟨k+1,rfl,rfl,⟨rfl,q,s.2 (alR.1 c)⟩,I⟩);have:k=n:=I;subst this;refine .ag ⟨?_,rfl⟩;rw[mJ I,mJ I]at f;rw[hr f];rfl
structure JY(h:J)(A:Option aE)(rows:List (List Int))(cq:Nat->Option aE×Nat):Prop where
 outer:bg h 1 A rows.length ((fJ rows.length).map λi=>[ab (cq i).1 (rows.getD i []).length (cq i).2])
 inner:∀i,i<rows.length->bg h 1 (cq i).1 (rows.getD i []).length ((rows.getD i []).map λz=>[R z])
theorem JY.mono{h aa:J}{A:Option aE}{rows:List (List Int)}{cq:Nat->Option aE×Nat}(x:JY h A rows cq)(l:h.le aa):JY aa A rows cq:=⟨x.outer.mono l,λi a=>(x.inner i a).mono l⟩
theorem aEv n cq(rows:List (List Int))(al:∀i,i<rows.length->(rows.getD i []).length=n):Je n cq rows.length=((fJ rows.length).map λi=>[ab (some (cq i).1) (rows.getD i []).length (cq i).2]).flatten:=by
 have:∀l:List Nat,(∀i∈l,i<rows.length)->l.map (λi=>ab (some (cq i).1) n (cq i).2)=(l.map λi=>[ab (some (cq i).1) (rows.getD i []).length (cq i).2]).flatten:=by
  intro l;induction l with
  |nil=>simp
  |cons x l b=>
   grind
 exact this _ λi a=>vl.1 a
theorem J'.lens{c:Nat}{cq:Nat->aE×Nat}(x:J' X n rows A c cq) i(a:i<rows.length):(rows.getD i []).length=n:=by
 have:=(x.inner i a).1
 grind
theorem J'.lists{c:Nat}{cq:Nat->aE×Nat}(x:J' X n rows A c cq):JY X A rows λi=>(some (cq i).1,(cq i).2):=by
 refine⟨?_,λi a=>?_⟩;have:=x.outer;rw[aEv n cq rows x.lens]at this;exact this.dK (λr b=>aL) aH;have:=(x.inner i a).one;rw[x.lens i a,cc,bK a]
 grind
theorem aBb{α:Type}{f:Nat->α}{k:Nat}(hk:k<n):((fJ n).map f)[k]?=some (f k):=by
 grind
theorem ao1 N n cap ad A D r b az h(g:bg h 5 A n (ad.map b2.cells))(d:n*40<=140737488355328)(c:bg h 1 D r (az.map λz=>[R z])):Fn aD 158 #[nQ N A n cap,ab D r b] h λv aa=>wG h N ad az (ab none 0 0) (Nx ad.length) v aa:=by
 refine bU ayB rfl ?_;refine .ag (.mk _ (aCX 193 (Nx ad.length) N n cap ad A D r b az h g d c (aDJ _) (aB7 aH)) ?_);rintro v aa ⟨a,e,f⟩;by_cases he:(eJ N ad az).1=0;obtain⟨v,X,rfl,h1,ae,i⟩:=f he;exact .ag ⟨a,λq=>absurd he q,λ_=>⟨v,X,rfl,h1,ae,i⟩⟩;obtain rfl:=e he;exact .ag ⟨a,λ_=>rfl,λq=>absurd q he⟩
theorem aCZ N n cap ad A D r a az h(d:bg h 5 A n (ad.map b2.cells))(b:n*40<=140737488355328)(e:bg h 1 D r (az.map λz=>[R z])):Fn aD 165 #[nQ N A n cap,ab D r a,ab none 0 0,.func (.func 166) #[] #[]] h λv aa=>wG h N ad az (ab none 0 0) (Hm ad.length) v aa:=by
 by_cases c:fF N ad=0;exact aCY 166 (Hm ad.length) N n cap ad A D r a az h d b e (aDN _) (aB8 (by have:=(mM c).2.2.1;omega));exact aC0 166 (Hm ad.length) N n cap ad A D r a az h d b c
theorem aBs N n cap ad A D r b az h(g:bg h 5 A n (ad.map b2.cells))(d:n*40<=140737488355328)(c:bg h 1 D r (az.map λz=>[R z])):Fn aD 121 #[nQ N A n cap,ab D r b] h λv aa=>wG h N ad az (ab none 0 0) (Hm ad.length) v aa:=by
 refine bU ayd rfl ?_;refine .ag (.mk _ (aCZ N n cap ad A D r b az h g d c) ?_);rintro v aa ⟨a,e,f⟩;by_cases he:(eJ N ad az).1=0;obtain⟨v,X,rfl,h1,ae,i⟩:=f he;exact .ag ⟨a,λq=>absurd he q,λ_=>⟨v,X,rfl,h1,ae,i⟩⟩;obtain rfl:=e he;exact .ag ⟨a,λ_=>rfl,λq=>absurd q he⟩
def BP(N:Int)(ad:List b2)(az:List Int):Bool:=decide ((eJ N ad az).1=0)&&decide ((eJ N ad az).2.headD []=(eJ N ad az).2.getLastD [])
theorem Sy{N:Int}(h:(eJ N ad az).1=0):(eJ N ad az).2≠[]:=by
 grind [eJ]
theorem Z8{N:Nat}{ad:List b2}:∀az f,(fU N ad az f).2.length<=az.length
 |[],f=>dM _
 |v::az,f=>by
  unfold fU;split;simp;split;have:=Z8 (N:=N) (ad:=ad) az (bump f v.toNat)
  grind
  simp
theorem ao3 N ad az:(eJ N ad az).2.length<=2049:=by
 unfold eJ;split;split;simp;have:=Z8 (N:=N.toNat) (ad:=ad) az (bp N.toNat 0)
 grind
 simp
theorem auN N n cap ad A D r c az h(a:bg h 5 A n (ad.map b2.cells))(e:n*40<=140737488355328)(d:bg h 1 D r (az.map λz=>[R z])):Fn aD 120 #[nQ N A n cap,ab D r c] h λv aa=>v=eA #[dh (BP N ad az),R (eJ N ad az).1]/\h.le aa:=by
 have s:ad.length=n:=by simpa using a.len
 refine bU ayc rfl ?_;refine .ag (.mk _ (aC1 163 (Ny ad.length) N n cap ad A D r c az h a e d (aDL _) (aDM _) aB9) ?_);rintro v aa ⟨b,i,j⟩;by_cases he:(eJ N ad az).1=0;obtain⟨v,X,rfl,h1,ae,k⟩:=j he;obtain⟨t,m,o,p,rfl,g,f⟩:=h1.2 (Sy he);refine .ag (.mk _ (aqQ _ _ _ _ _ _ _ _ _ (g.mono ae).one (f.mono ae).one I) ?_);rintro _ k ⟨rfl,rfl⟩;have l:BP N ad az=decide ((eJ N ad az).2.headD []=(eJ N ad az).2.getLastD []):=by grind [BP]
 refine .ag ⟨?_,b⟩;rw[l,he];rfl;obtain rfl:=i he;refine aW (λq=>absurd q he) (λ_=>?_);refine .ag ⟨?_,b⟩;rw[BP,jn he];rfl
def Mt(A:Option aE)(n cap:Nat)(t:Int):aA:=.agg #[ab A n cap,R t]
end Go.Sx
namespace Go.Sx
open Go.Proofs Go.Shelf Go.Sort
set_option maxRecDepth 100000
set_option maxHeartbeats 0
set_option linter.all false
def c7(x:Int×Int):List aA:=[R x.1,R x.2]
theorem Mm:∀xs:List (Int×Int),(xs.map c7).flatten.length=xs.length*2
 |[]=>rfl
 |x::xs=>by simp only[er,qN,List.length_append,Mm xs,iJ];show 2+_=_;omega
theorem Qs:∀(xs:List (Int×Int)) o,o<xs.length*2->(xs.map c7).flatten[o]?=some ((tl xs.toArray[o/2]!)[o%2]!)
 |[],o,h=>by simp at h
 |x::xs,0,_=>rfl
 |x::xs,1,_=>rfl
 |x::xs,o+2,h=>by
  have c:=Qs xs o (by simp only[iJ]at h;omega);have a:(o+2)/2=o/2+1:=I;have b:(o+2)%2=o%2:=I;have d:(x::xs).toArray[o/2+1]! =xs.toArray[o/2]! :=by simp[getElem!_def]
  have e:((x::xs).map c7).flatten[o+2]?=(xs.map c7).flatten[o]? :=rfl;rw[a,b,d,e,c]
theorem ar3 d:(HX tl 2 d).toList=(d.toList.map c7).flatten:=by
 apply RY;intro o;by_cases h:o<d.size*2;rw[Qs _ _ (by simpa using h)];have a:o<(HX tl 2 d).size:=by simpa using h
 have h1:=get_flatK tl 2 d o h;rw[getElem!_pos _ o a]at h1;rw[AL,Jz a,h1];rw[l2 (by simpa using h),l2 (by rw[Mm];simpa using h)]
theorem aDA F a(bs:F.size<=a.size):(I' id 0 F a).size=a.size/\(I' id 0 F a).toList.take F.size=F.toList:=by
 refine⟨by simp[I'],?_⟩;apply RY;intro o;rw[G7];by_cases h:o<F.size;rw[aS h,AL,AL];simp only[I',Array.getElem?_mapIdx,cU,true_and,dZ,h,mO,Nat.sub_zero];rw[Jz I,Jz h,getElem!_pos F o h];rfl;rw[aC h,l2 (by simpa using h)]
structure Sm(lt:Int×Int->Int×Int->Bool)(xs aV:List (Int×Int)):Prop where
 perm:aV.Perm xs
 ord:aV.Pairwise λa b=>lt b a=false
structure Sl(h:J)(bF:Nat)(A:Option aE)(n cap:Nat)(lt:Int×Int->Int×Int->Bool)(xs:List (Int×Int))(v:aA)(aa:J)(aV:List (Int×Int)):Prop where
 ret:v=eA #[]
 GG:Sm lt xs aV
 row:bw aa bF 2 A n cap (aV.map c7).flatten
 same:∀o,(∀g,A=some g->o≠g.block)->aa o=h o
theorem arj{h:J}{w:bD}(hw:n2 h w):Ext h w h w:=⟨hw,rfl,rfl,rfl,dM _,λ_ _ _=>rfl,λ_ a=>bQ a⟩
theorem ajZ{j:Ren}(L:SlLaysF0.n6 aD j)(bF g:Nat)(V:j.t 24=bF)(r:∀w,(isAgg bF).run aD w= .ok true w)(m:∀w,(Go.sizeOf bF).run aD w= .ok 2 w)(S:∃fn,Tryz.prog.funcs[j.f 6]?=some fn/\fn.body.isSome=true/\(fn.name== "runtime.NumGoroutine")=false) k(hO:SWO (ltOf k))(mn:∀args w,(callFunc g args).run aD w= .ok (.enter g args) w)(av:∀x y W,GZ aD g #[.agg #[bC .i64 x.1,bC .i64 x.2],.agg #[bC .i64 y.1,bC .i64 y.2]] W λe bz=>e= .returned (bC .i64 (k x y))/\∃q Y,bz=grow (W.drewN q) Y) A n cap xs h(s:bw h bF 2 A n cap (xs.map c7).flatten)(M:n<4611686018427387904):Fn aD (j.f 6) #[ab A n cap,.func (.func g) #[] #[]] h λv aa=>∃aV,Sl h bF A n cap (ltOf k) xs v aa aV:=by
 subst V;have d:xs.length=n:=by have:=s.1;rw[Mm]at this;omega
 refine⟨S,λw hw=>?_⟩;rcases s.2 with⟨rfl,rfl,rfl⟩|⟨b,u,rfl,B,N,K,F,O⟩;obtain rfl:xs=[]:=List.eq_nil_of_length_eq_zero d;refine(AnyF.slices_SortFunc_none L none 0 _ w).mono ?_;rintro e bz ⟨rfl,rfl⟩;exact⟨_,h,rfl,⟨[],rfl,⟨.refl _,.nil⟩,s,λ_ _=>rfl⟩,arj hw⟩;have l:=hw _ _ B;have E:b<w.heap.size:=(AK.1 l).1;have hH:HoldsK tl 2 w b 0 xs.toArray:=by
  intro o a;have a:o<xs.length*2:=by simpa using a
  have h1:=Qs xs o a;rw[<-O,G7,aS I]at h1;have ae:=get_flatK tl 2 xs.toArray o (by simpa using a);rw[ae];refine⟨?_,?_⟩;unfold World.cell?;simp only[l];simp only[Option.isSome_none,ve,nk,dZ];rw[<-AL,h1];rfl;unfold World.frozen?;simp only[l];simp
 have P:CmpLays aD g #[] tl 2 k b 0 xs.toArray.size w:=λ_ _ _ _ x y=>av x y _;have Z:xs.toArray.size<4611686018427387904:=by simpa[d]using M
 have C:=AnyQ.slices_SortFunc L 2 r m tl (λ_=>rfl) (λx v D=>by simp[tl]at D;rcases D with rfl|rfl<;>rfl) k hO g #[] b 0 cap xs.toArray w mn P hH E Z;have es:xs.toArray.size=n:=by simpa using d
 rw[es]at C;refine C.mono ?_;rintro e bz ⟨rfl,c,X,os,hp,T,rfl⟩;have z:c.size=n:=by rw[hp.1];exact es
 have bs:(HX tl 2 c).size=n*2:=by simp[z]
 obtain⟨iQ,G⟩:=aDA (HX tl 2 c) u (by rw[bs,F];omega);rw[bs,ar3]at G;have H:∀o,(sortWorldK tl 2 w b 0 X c os).heap[o]?=if o<w.heap.size then(if o=b then some (bb (I' id 0 (HX tl 2 c) u) (j.t 24) (0,0))else w.heap[o]?)else os[o-w.heap.size]? :=by
  intro o;show((w.heap.modify b (onCells (I' id 0 (HX tl 2 c))))++os)[o]?=_;rw[Array.getElem?_append,alD];split;rw[Array.getElem?_modify];by_cases a:b=o;subst a;rw[aS rfl,aS rfl,l];rfl;rw[aC a,aC (eh a)];rfl
 refine⟨_,h.put b (bb (I' id 0 (HX tl 2 c) u) (j.t 24) (0,0)),rfl,⟨c.toList,rfl,⟨?_,?_⟩,?_,λo a=>?_⟩,?_⟩;have:=hp.2.2;have Q:c.extract 0 n=c:=by rw[<-z];simp
 have R:xs.toArray.extract 0 n=xs.toArray:=by rw[<-es];simp
 rw[Q,R]at this;simpa using this;rw[Nm];intro i o p a uy;have p:i<c.size:=by simpa using p
 have a:o<c.size:=by simpa using a
 have:=T i o (cU _) uy I;rw[getElem!_pos c i p,getElem!_pos c o a]at this;simpa using this;refine⟨by rw[Mm];simp[z],ba ⟨b,_,rfl,J.b8 _ _ _,N,K,by rw[iQ,F],G⟩⟩;exact J.cD _ _ (a _ rfl);refine⟨λo U a=>?_,rfl,rfl,rfl,?_,λo a d=>?_,λo a=>?_⟩;rw[H];by_cases e:o=b;subst e;rw[J.b8]at a;injection a with a;subst a;rw[aS E,aS rfl];rw[J.cD _ _ e]at a;have h1:=hw _ _ a;rw[aS (AK.1 h1).1,aC e];exact h1;show _<=((w.heap.modify b _)++os).size;rw[Array.size_append,alD];omega;rw[H,aS a,aC (λe=>by subst e;rw[B]at d;cases d)];by_cases e:o=b;subst e;exact bQ (by rw[B];simp);rw[J.cD _ _ e]at a;exact bQ a
theorem aFw A n cap xs h(b:bw h 278 2 A n cap (xs.map c7).flatten)(a:n<4611686018427387904):Fn aD 159 #[ab A n cap,.func (.func 160) #[] #[]] h λv aa=>∃aV,Sl h 278 A n cap (ltOf HD) xs v aa aV:=ajZ Tryz.aFy 278 160 rfl Tryz.isAgg278 Tryz.sizeOf278 ⟨Tryz.f159,Tryz.func159,fl,fl⟩ HD aF5 (enters_of anB fl rfl) apW A n cap xs h b a
theorem aFx A n cap xs h(b:bw h 142 2 A n cap (xs.map c7).flatten)(a:n<4611686018427387904):Fn aD 62 #[ab A n cap,.func (.func 63) #[] #[]] h λv aa=>∃aV,Sl h 142 A n cap (ltOf C7) xs v aa aV:=ajZ Tryz.aFA 142 63 rfl Tryz.isAgg142 Tryz.sizeOf142 ⟨Tryz.f62,Tryz.func62,fl,fl⟩ C7 aF4 (enters_of anD fl rfl) apX A n cap xs h b a
end Go.Sx
namespace Go.Sx
open Go.Proofs Go.Sort
set_option maxRecDepth 100000
set_option maxHeartbeats 0
set_option linter.all false
variable {h:J}{row:List Int}{l:List ja}{b cx m:Nat}{S:Nat->Nat->Prop}
def pq(r:List Int)(i:Nat):Bool:=decide (0<r.getD i 0)
def xm(rows:List (List Int))(i o:Nat):Bool:=rows.any λr=>pq r i&&pq r o
abbrev dv:=Int×Int
def lo(rows:List (List Int))(m:Nat):List dv:=(fJ m).flatMap λi=>((List.range' (i+1) (m- (i+1))).filter (xm rows i)).map λo:Nat=>((i:Int),(o:Int))
def zd(a b:dv):Prop:=a.1<b.1\/a.1=b.1/\a.2<b.2
theorem Qt a:¬zd a a:=by unfold zd;omega
theorem aDk{a b c:dv}:zd a b->zd b c->zd a c:=by unfold zd;omega
theorem aka:∀xs aV:List dv,xs.Pairwise zd->aV.Pairwise zd->(∀a,a∈xs↔a∈aV)->xs=aV
 |[],[],_,_,_=>rfl
 |[],y::aV,_,_,h=>by have:=(h y).2 (hq ..);grind
 |x::xs,[],_,_,h=>by have:=(h x).1 (hq ..);grind
 |x::xs,y::aV,g,f,h=>by
  obtain⟨h1,ae⟩:=amP.1 g;obtain⟨d,aT⟩:=amP.1 f;have e:x=y:=by
   rcases ez.1 ((h x).1 (hq ..))with e|e;omega;rcases ez.1 ((h y).2 (hq ..))with c|c
   grind
   exact absurd (aDk (h1 _ c) (d _ e)) (Qt _)
  subst e;rw[aka xs aV ae aT λa=>?_];constructor;intro b;rcases ez.1 ((h a).1 (gd _ b))with e|e;subst e;exact absurd (h1 _ b) (Qt _);omega;intro b;rcases ez.1 ((h a).2 (gd _ b))with e|e;subst e;exact absurd (d _ b) (Qt _);omega
theorem I8{rows:List (List Int)}{p:dv}:p∈lo rows m↔∃i o:Nat,p=((i:Int),(o:Int))/\i<o/\o<m/\xm rows i o=true:=by
 unfold lo
 grind
theorem aiq rows m:(lo rows m).Pairwise zd:=by
 unfold lo;rw[List.pairwise_flatMap];refine⟨λi _=>?_,?_⟩;rw[List.pairwise_map];refine Zh _ ?_;refine amn (λ{a b}(h:a<b)=>?_) (List.pairwise_lt_range' (s:=i+1) (n:=m- (i+1)));exact ba ⟨rfl,I⟩;refine amn (λ{a b}(h:a<b) x d y c=>?_) List.pairwise_lt_range;obtain⟨p,_,rfl⟩:=cO.1 d;obtain⟨q,_,rfl⟩:=cO.1 c;exact bQ I
theorem aFC{xs aV:List dv}{rows:List (List Int)}(s:Sm (ltOf HD) xs aV)(c:xs.Nodup)(hm:∀p,p∈xs↔p∈lo rows m):aV=lo rows m:=by
 refine aka _ _ ?_ (aiq rows m) λa=>(s.perm.mem_iff).trans (hm a);have d:aV.Nodup:=(s.perm.nodup_iff).2 c;have:=s.ord.and d;refine this.imp λ{a b} h=>?_;obtain⟨h1,ae⟩:=h;rw[PR]at h1;have h1:=Ag h1;unfold zd
 grind
theorem Wz{α β:Type}{f:α->β}:∀{l:List α},(l.map f).Nodup->∀{x y},x∈l->y∈l->f x=f y->x=y
 |[],_,_,_,h,_,_=>by cases h
 |a::l,b,x,y,i,g,e=>by
  rw[er,List.nodup_cons]at b;rcases ez.1 i with d|d
  grind
  rcases ez.1 g with c|c
  grind
  exact Wz b.2 d c e
theorem aai{k:List Int}:∀l:List ja,(ke l k).isSome=true↔k∈l.map (·.k)
 |[]=>by simp[ke]
 |x::l=>by
  simp only[ke,er,ez];by_cases h:k=x.k
  grind
  rw[aC h,aai l];simp[h]
theorem ak5(k:List Int)(v:aA)(c:Nat):∀l:List ja,(upsert l k v c).map (·.k)=(if(ke l k).isSome then l.map (·.k)else l.map (·.k)++[k])/\(upsert l k v c).map (·.born)=(if(ke l k).isSome then l.map (·.born)else l.map (·.born)++[c])
 |[]=>by simp[upsert,ke]
 |x::l=>by
  obtain⟨h1,ae⟩:=ak5 k v c l;simp only[upsert,ke]
  grind
structure mK(h:J)(b:Nat)(S:Nat->Nat->Prop)(l:List ja)(cx:Nat):Prop where
 at_:h b=some (kZ 7 l cx)
 sub:∀k∈l.map (·.k),∃i o:Nat,k=[(i:Int),(o:Int)]/\S i o
 all:∀i o:Nat,S i o->[(i:Int),(o:Int)]∈l.map (·.k)
 dE:(l.map (·.k)).Nodup
 x4:∀x∈l.map (·.born),x<cx
 gp:(l.map (·.born)).Nodup
theorem mK.aBa(m:mK h b S l cx):y' h b 7 l cx:=⟨m.at_,λx a=>by obtain⟨i,o,e,_⟩:=m.sub _ (G9 (f:=(·.k)) a);rw[e];rfl⟩
theorem mK.start(a:h b=some (.map #[] 0)):mK h b (λ_ _=>False) [] 0:=⟨a,(λ_ h=>by cases h),(λ_ _ h=>h.elim),.nil,(λ_ h=>by cases h),.nil⟩
theorem mK.eqv{T:Nat->Nat->Prop}(m:mK h b S l cx)(e:∀i o,S i o↔T i o):mK h b T l cx:=⟨m.at_,λk hk=>by obtain⟨i,o,a,c⟩:=m.sub k hk;grind,λi o d=>m.all i o ((e i o).2 d),m.dE,m.x4,m.gp⟩
theorem mK.ins{ae:J}(m:mK h b S l cx)(i o:Nat) v:mK (ae.put b (kZ 7 (upsert l [i,o] v cx) (if(ke l [i,o]).isSome then cx else cx+1))) b (λp q=>S p q\/(p=i/\q=o)) (upsert l [i,o] v cx) (if(ke l [i,o]).isSome then cx else cx+1):=by
 obtain⟨h1,ae⟩:=ak5 [(i:Int),(o:Int)] v cx l;have hk:=aai (k:=[(i:Int),(o:Int)]) l;refine⟨J.b8 _ _ _,?_,?_,?_,?_,?_⟩;intro k f;rw[h1]at f;split at f;obtain⟨p,q,a,c⟩:=m.sub k f
 grind
 rcases eI.1 f with f|f;obtain⟨p,q,a,c⟩:=m.sub k f
 grind
 grind
 intro p q j;rw[h1];rcases j with j|⟨rfl,rfl⟩;have:=m.all p q j
 grind
 grind
 rw[h1];split;exact m.dE;rename_i g;rw[qP];refine⟨m.dE,bc,λa n c av e=>?_⟩
 grind
 intro x d;rw[ae]at d;split at d;rename_i g;rw[aS g];exact m.x4 x d;rename_i g;rw[aC g];rcases eI.1 d with d|d;have:=m.x4 x d;omega
 grind
 rw[ae];split;exact m.gp;rw[qP];refine⟨m.gp,bc,λa n c av e=>?_⟩;rw[hZ.1 av]at e;subst e;have:=m.x4 _ n;omega
def mw(l:List ja)(seen:Array Nat):List ja:=l.filter λx=>!seen.contains x.born
theorem agv l seen:(leftOf (l.map (k5 7)).toArray seen).toList=(mw l seen).map (k5 7):=by
 unfold leftOf mw;simp only[Array.toList_filter,List.filter_map];rfl
theorem aAH{seen:Array Nat}{x:ja}(a:x∈mw l seen):(mw l (seen.push x.born)).length<(mw l seen).length:=by
 have e:mw l (seen.push x.born)=(mw l seen).filter λy=>!(y.born==x.born):=by
  unfold mw;rw[List.filter_filter]
  grind
 rw[e,List.length_filter_lt_length_iff_exists]
 grind
structure AV(l:List ja)(seen:Array Nat)(outs:List dv):Prop where
 dE:outs.Nodup
 sub:∀p∈outs,∃x∈l,x.k=[p.1,p.2]/\seen.contains x.born=true
 all:∀x∈l,seen.contains x.born=true->∃p∈outs,x.k=[p.1,p.2]
theorem AV.start l:AV l #[] []:=⟨.nil,(λ_ h=>by cases h),λx _ h=>by simp at h⟩
theorem AV.step{l:List ja}{seen:Array Nat}{outs:List dv}(g:AV l seen outs)(hk:(l.map (·.k)).Nodup)(n:(l.map (·.born)).Nodup){x:ja}(m:x∈mw l seen){p:dv}(hp:x.k=[p.1,p.2]):AV l (seen.push x.born) (outs++[p]):=by
 obtain⟨h,s⟩:=amJ.1 m;have s:seen.contains x.born=false:=aL;refine⟨?_,λq b=>?_,λy d o=>?_⟩;rw[qP];refine⟨g.dE,bc,λa j c av e=>?_⟩;rw[hZ.1 av]at e;subst e;obtain⟨y,d,f,r⟩:=g.sub _ j;have:=Wz hk h d (hp.trans f.symm)
 grind
 rcases eI.1 b with b|b;obtain⟨y,d,f,r⟩:=g.sub q b
 grind
 grind
 rw[Array.contains_push]at o;by_cases e:y.born=x.born;have:=Wz n d h e
 grind
 have i:seen.contains y.born=true:=by
  grind
 obtain⟨q,b,f⟩:=g.all y d i
 grind
theorem AV.done{seen:Array Nat}{outs:List dv}(g:AV l seen outs)(m:mK h b S l cx)(am:mw l seen=[]) p:p∈outs↔∃i o:Nat,p=((i:Int),(o:Int))/\S i o:=by
 constructor;intro hp;obtain⟨x,a,e,_⟩:=g.sub p hp;obtain⟨i,o,j,c⟩:=m.sub _ (G9 (f:=(·.k)) a)
 grind
 rintro⟨i,o,rfl,c⟩;obtain⟨x,a,e⟩:=cO.1 (m.all i o c);have d:seen.contains x.born=true:=by
  refine xH λn=>?_;have:x∈mw l seen:=amJ.2 ⟨a,aL⟩
  grind
 obtain⟨p,hp,j⟩:=g.all x a d
 grind
theorem fi:∀a e,mE e a (a.map e)=e
 |[],e=>rfl
 |d::b,e=>by
  have h1:jR e d (e d)=e:=by
   funext t;unfold jR;cases c:ix t d with
   |true=>simp_all
   |false=>rfl
  rw[er,mE,h1];exact fi b e
abbrev AZ(N:Int)(A:Option aE)(n cap:Nat):List LE:=[.own [.v (R N),.v (ab A n cap)] 33]
theorem aiC{i:Nat} h:pq row i=decide (0<row[i]):=by
 unfold pq;grind
theorem apU{a:J}{o:Nat}{au:Option aE}{rC:Nat}(F:a b=none)(k:bg a 1 au m (row.map λz=>[R z]))(hm:m<=1000000)(D:o<m) N A n cap{S:Nat->Nat->Prop}{l:List ja}{cx:Nat}(x:mK (a.put b (kZ 7 l cx)) b S l cx) c d f Q(e:cg)(he:[8,10,11,25,26,27,32,33].map e=[.v (.map (some b)),.v (ab au m rC),.v (R o),.v c,.v d,.v f,.v (R m),.v (R o)])(H:∀s cC jK,mK (a.put b (kZ 7 cC jK)) b (λp q=>S p q\/(q=o/\p<o/\pq row p=true/\pq row o=true)) cC jK->[8,10,25,26,27,32,33].map s=[.v (.map (some b)),.v (ab au m rC),.v c,.v d,.v f,.v (R m),.v (R o)]->Q .normal s (AZ N A n cap) (a.put b (kZ 7 cC jK))):dq aD 72 (.seq (.ck Pl) (.block 4 (.loop Pk))) Q e (AZ N A n cap) (a.put b (kZ 7 l cx)):=by
 have t:=fi [8,10,11,25,26,27,32,33] e;rw[he]at t;rw[<-t];have O:row.length=m:=by simpa using k.len
 have M:∀U,a.le (a.put b U):=λU=>J.d' F;refine .mk (Nat×List ja×Nat) [8,10,11,25,26,27,32,33,36,37] (λ(i,_,_)=>[.v (.map (some b)),.v (ab au m rC),.v (R o),.v c,.v d,.v f,.v (R m),.v (R o),.v (R o),.v (R i)]) (λ_=>AZ N A n cap) (λ(i,l,cx) aa=>aa=a.put b (kZ 7 l cx)/\i<=o/\mK aa b (λp q=>S p q\/(q=o/\p<i/\pq row p=true/\pq row o=true)) l cx) (λ(i,_,_)=>o-i) (0,l,cx) (λ(_,_,_)=>rfl) ⟨rfl,cU _,x.eqv λp q=>⟨bQ,λh=>h.elim id λh=>I⟩⟩ rfl rfl ?_;rintro⟨i,l,cx⟩ e aa ⟨rfl,P,x⟩;refine aW (λu=>?_) (λu=>?_);have E:i<m:=I;obtain⟨g,j⟩:=k.b4 I;have L:=aiC (row:=row) (i:=i) I;have K:=aiC (row:=row) (i:=o) I;have load:∀q(C:q<m)(U:Obj),(a.put b U).cell? (g.add ((q:Int).toNat*1))=some (R (row[q]'I)):=λq C U=>by
  rw[bn];exact(k.mono (M U)).one j (r:=[R (row[q]'I)]) aL rfl
 have skip:¬(pq row i=true/\pq row o=true)->mK (a.put b (kZ 7 l cx)) b (λp q=>S p q\/(q=o/\p<i+1/\pq row p=true/\pq row o=true)) l cx:=λT=>x.eqv λp q=>⟨λh=>h.imp id λh=>⟨h.1,I,h.2.2⟩,λh=>h.imp id λ⟨h1,ae,G⟩=>⟨h1,by
  grind,G⟩⟩
 refine .m g j (.hp (R (row[i]'I)) (load i E _) (aW (λB=>?_) (λB=>?_)));refine .m g j (.hp (R (row[o]'I)) (load o D _) (aW (λw=>?_) (λw=>?_)));refine .aBm l cx x.aBa ?_;rw[J.tS];have y:=x.ins (ae:=a) i o (R 1);refine .bl (⟨(i+1,upsert l [(i:Int),(o:Int)] (R 1) cx,if(ke l [(i:Int),(o:Int)]).isSome then cx else cx+1),rfl,rfl,⟨rfl,I,y.eqv λp q=>?_⟩,aL⟩)
 grind
 exact .bl (⟨(i+1,l,cx),rfl,rfl,⟨rfl,I,skip λh=>w (uX (K▸h.2))⟩,aL⟩);exact .bl (⟨(i+1,l,cx),rfl,rfl,⟨rfl,I,skip λh=>B (uX (L▸h.1))⟩,aL⟩);have:i=o:=I;subst this;exact H _ l cx x rfl
theorem apT{a:J}{au:Option aE}{rC:Nat}(k:a b=none)(r:bg a 1 au m (row.map λz=>[R z]))(hm:m<=1000000) N A n cap{S:Nat->Nat->Prop}{l:List ja}{cx:Nat}(x:mK (a.put b (kZ 7 l cx)) b S l cx) d f g Q(e:cg)(he:[8,10,25,26,27].map e=[.v (.map (some b)),.v (ab au m rC),.v d,.v f,.v g])(s:∀i cC jK,mK (a.put b (kZ 7 cC jK)) b (λp q=>S p q\/(p<q/\q<m/\pq row p=true/\pq row q=true)) cC jK->[8,25,26,27].map i=[.v (.map (some b)),.v d,.v f,.v g]->Q .normal i (AZ N A n cap) (a.put b (kZ 7 cC jK))):dq aD 72 (.seq (.ck Pm) (.block 2 (.loop Pj))) Q e (AZ N A n cap) (a.put b (kZ 7 l cx)):=by
 have c:=fi [8,10,25,26,27] e;rw[he]at c;rw[<-c];refine .mk (Nat×List ja×Nat) [8,10,25,26,27,32,33] (λ(o,_,_)=>[.v (.map (some b)),.v (ab au m rC),.v d,.v f,.v g,.v (R m),.v (R o)]) (λ_=>AZ N A n cap) (λ(o,l,cx) aa=>aa=a.put b (kZ 7 l cx)/\o<=m/\mK aa b (λp q=>S p q\/(p<q/\q<o/\pq row p=true/\pq row q=true)) l cx) (λ(o,_,_)=>m-o) (0,l,cx) (λ(_,_,_)=>rfl) ⟨rfl,cU _,x.eqv λp q=>⟨bQ,λh=>h.elim id λh=>I⟩⟩ rfl rfl ?_;rintro⟨o,l,cx⟩ e aa ⟨rfl,C,x⟩;show dq aD 72 (.seq (.ck ae') (.seq (.cond (.t 34) .skip (.exit 2)) (.seq (.block 3 (.seq (.ck afa) (.seq (.ck Pl) (.block 4 (.loop Pk))))) (.ck afb)))) _ _ _ _;generalize w:IR.seq (.ck Pl) (.block 4 (.loop Pk))=D;refine aW (λu=>?_) (λu=>?_);have j:o<m:=I;conv=>whnf
 subst w;refine apU k r hm j N A n cap x d f g _ _ rfl λi cC jK y B=>?_;have c:=fi [8,10,25,26,27,32,33] i;rw[B]at c;rw[<-c];refine .bl (⟨(o+1,cC,jK),rfl,rfl,⟨rfl,I,y.eqv λp q=>?_⟩,aL⟩)
 grind
 have:o=m:=I;subst this;exact s _ l cx x rfl
end Go.Sx
