/- A part of the proof that the statement holds. Conditions: none. -/
import Derived.Shelf.SlSortCmp.WholeK
import Derived.Shelf.SlGeneric
import Derived.Shelf.SlicesG.Cmp
import Derived.Ground.SlsfProg
import Derived.Ground.SlgcProg
import Derived.Test.YtlbdbpaelcnfgaaGreatDoorProg
import Derived.Shelf.Lay
import Derived.LoopN
import Derived.StillTailTactics
import Derived.Shelf.SlSortCmp.NoneTotal
import Derived.Test.YtlbdbpaelcnfgaaGreatDoorAC
import Derived.Test.YtlbdbpaelcnfgaaGreatDoorAD
import Derived.Test.YtlbdbpaelcnfgaaGreatDoorAE
import Derived.Test.YtlbdbpaelcnfgaaGreatDoorAF
import Derived.Test.YtlbdbpaelcnfgaaGreatDoorAG
import Derived.Test.YtlbdbpaelcnfgaaGreatDoorAH
import Derived.Test.YtlbdbpaelcnfgaaGreatDoorAI
import Derived.Test.YtlbdbpaelcnfgaaGreatDoorAJ
import Derived.Test.YtlbdbpaelcnfgaaGreatDoorAK
import Derived.Test.YtlbdbpaelcnfgaaGreatDoorAL
import Derived.Test.YtlbdbpaelcnfgaaGreatDoorAM
import Derived.Test.YtlbdbpaelcnfgaaGreatDoorAN
open And renaming intro->fE
open Array renaming getElem?_eq_getElem->H1,getElem?_eq_some_iff->zw,getElem?_toList->zx,size_modify->ajX
open Bool renaming and_eq_true->h0,eq_false_iff->FG,false_eq_true->ug
open Decidable renaming byContradiction->wJ,not_not->akb
open Go renaming Addr->aI,Calls->FH,FuncId->l4,Value->ax,World->bw,maxLen->eD
open Go.Code renaming rounds->Xr
open Go.IntKind renaming i64->nh
open Go.Lib renaming compareInt->vq
open Go.Obj renaming cells->bb
open Go.Proofs.AnyG renaming cmp_Compare_int->Xf
open Go.Proofs.SlLaysC2 renaming n5->aGC
open Go.Proofs.SlLaysF0 renaming n6->akt
open Go.Proofs.Tryz renaming prog->aGD,func160->alY,func63->al0,isAgg0->al1,isAgg247->al2,isAgg248->al3,isAgg261->al4,isAgg3->QL,isAgg358->al5,isAgg359->al6,isAgg365->al7,isAgg387->al8,isAgg391->al9,isAgg4->Ym,isAgg404->al',isAgg405->ama,isAgg5->amb,isAgg9->amc,prog->aB,sizeOf0->amg,sizeOf247->amh,sizeOf248->ami,sizeOf261->amj,sizeOf3->QM,sizeOf358->amk,sizeOf359->aml,sizeOf365->amm,sizeOf387->amn,sizeOf391->amo,sizeOf4->Yn,sizeOf404->amp,sizeOf405->amq,sizeOf5->amr,sizeOf9->ams,underlying0->amt,underlying247->amw,underlying248->amx,underlying261->amz,underlying3->vy,underlying358->amB,underlying359->amC,underlying365->amD,underlying387->amE,underlying391->amF,underlying4->Yp,underlying404->amG,underlying405->amH,underlying5->amI,underlying9->BO,zeroValue0->amL,zeroValue247->amM,zeroValue248->amN,zeroValue261->amO,zeroValue3->QN,zeroValue358->amP,zeroValue359->amQ,zeroValue365->amR,zeroValue387->amS,zeroValue391->amT,zeroValue4->Yq,zeroValue404->amU,zeroValue405->amV,zeroValue5->amW,zeroValue9->amX
open Go.Shelf renaming Ren->XH
open Go.Sort renaming alloc_eq_grow->Mh,flatK->Gx,grow_grow->abG,putCells->HD
open Go.Value renaming bool->c5,int->bA,pointer->gv,slice->ab,tuple->ey
open Int renaming add_zero->akB,toNat_natCast->bz
open List renaming drop_eq_getElem_cons->mE,drop_eq_nil_of_le->rm,ext_getElem->um,ext_getElem?->akQ,filter_append->Qm,flatten_cons->oR,getD_eq_getElem?_getD->cx,getElem?_eq_getElem->bZ,getElem?_eq_none->l6,getElem?_take->FP,getElem_mem->cG,getElem_of_mem->oe,getElem_set->wQ,length_cons->iv,length_filter_le->XW,map_append->fF,map_cons->ec,map_set->lM,mem_append->ej,mem_cons->ek,mem_cons_of_mem->gX,mem_cons_self->hU,mem_filter->ak8,mem_map->cU,mem_map_of_mem->FR,mem_range->uo,mem_singleton->hV,nodup_append->oS,nodup_range->alb,pairwise_cons->alc,pairwise_iff_getElem->LW,range->fL,range_succ->Bz,replicate->bh,set_append_right->uq,set_cons_succ->LZ,set_cons_zero->ale,take_of_length_le->lN,zipWith->rn
open List.Pairwise renaming filter->XO,imp->akI
open Nat renaming add_sub_cancel_left->Dq,beq->hW,eq_of_beq_eq_true->qA,le_refl->dz,mul_one->eV,sub_self->wU,zero_add->dM,zero_le->cW
open Ne renaming symm->d'
open Or renaming inl->bW,inr->bl
namespace Go.Sx
set_option maxRecDepth 100000
set_option maxHeartbeats 0
set_option linter.all false
theorem b5.low{f n:Nat}(o:b5 f n){b:Code}(h:o.fn.body=some b):lower aGD ka b=o.o.1:=by rw[<-o.o.2,h];rfl
def IR.l:IR->IR|.seq a _=>a|.cond _ a _=>a|.block _ b=>b|.loop b=>b|.scope b=>b|c=>c
def IR.r:IR->IR|.seq _ b=>b|.cond _ _ b=>b|c=>c
def IR.rg:IR->List cK|.cd r=>r|_=>[]
def IR.KM:IR->j4|.y9 r=>r|_=>default
noncomputable def aul:IR:=ad9.o.1.r.r.r.r.l.r.l.l
noncomputable def adV:IR:=ael.o.1.r.r.r.r.r.r.r.r.r.r.r.l.r.l.l
noncomputable def avA:IR:=TY.o.1.r.r.r.r.r.r.r.r.r.l.r.l.l
noncomputable def avB:IR:=TY.o.1.r.r.r.r.r.r.r.r.r.r.l.r.l.l
noncomputable def avC:IR:=NW.o.1.r.r.r.r.r.l.r.l.l
noncomputable def avD:IR:=NW.o.1.r.r.r.r.r.r.l.r.l.l
noncomputable def avE:IR:=NW.o.1.r.r.r.r.r.r.l.r.l.l.r.r.l.l.r.r.r.r.r.l.r.l.l
noncomputable def avF:j4:=TZ.o.1.r.r.r.r.r.l.KM
noncomputable def avG:List cK:=TZ.o.1.r.r.r.r.r.r.l.r.l.r.l.rg
noncomputable def avI:IR:=Kb.o.1.r.r.r.l.r.l.l
noncomputable def avJ:List cK:=Kb.o.1.r.r.r.r.l.rg
noncomputable def TT:IR:=tE.o.1.r.r.l.r.l.l.r.l.r.l.l.l
noncomputable def avK:IR:=tE.o.1.r.r.l.r.l.l.r.l.r.r.r.r.l.r.l.l
noncomputable def avL:j4:=tE.o.1.r.r.l.r.l.l.r.l.r.r.l.r.l.r.l.KM
noncomputable def avM:List cK:=tE.o.1.r.r.l.r.l.l.r.l.r.r.l.r.l.r.r.l.rg
noncomputable def avN:List cK:=tE.o.1.r.r.l.r.l.l.r.l.r.r.r.l.rg
noncomputable def avO:List cK:=tE.o.1.r.r.l.r.l.l.r.l.r.r.r.r.l.l.rg
noncomputable def avP:j4:=tE.o.1.r.r.l.r.l.l.r.l.r.r.r.r.r.l.KM
noncomputable def avQ:j4:=tE.o.1.r.r.l.r.l.l.r.l.r.r.r.r.r.r.l.KM
noncomputable def avR:List cK:=tE.o.1.r.r.l.r.l.l.r.l.r.r.r.r.r.r.r.rg
noncomputable def ad5:List cK:=tE.o.1.r.r.l.r.l.l.l.l.rg
noncomputable def TU:List cK:=tE.o.1.r.r.l.r.l.l.r.l.l.rg
noncomputable def avS:List cK:=tE.o.1.r.r.l.r.l.l.r.l.r.r.l.l.rg
noncomputable def avT:j4:=tE.o.1.r.r.l.r.l.l.r.l.r.r.l.r.l.l.KM
noncomputable def avU:IR:=y1.o.1.r.r.r.l.r.l.l
noncomputable def TV:IR:=y1.o.1.r.r.r.l.r.l.l.r.r.l.l.r.r.r.l.r.l.l
noncomputable def TW:IR:=y1.o.1.r.r.r.l.r.l.l.r.r.l.l.r.r.r.r.r.l.l
noncomputable def avV:IR:=y1.o.1.r.r.r.r.r.l.r.l.l
noncomputable def avW:IR:=y1.o.1.r.r.r.r.r.r.l.r.l.l
noncomputable def avX:IR:=y1.o.1.r.r.r.r.r.r.r.l.r.l.l
noncomputable def avY:IR:=y1.o.1.r.r.r.r.r.r.r.r.l.r.l.l
noncomputable def ad6:List cK:=y1.o.1.r.r.r.l.r.l.l.r.r.l.l.r.r.r.r.l.rg
noncomputable def ad7:List cK:=y1.o.1.r.r.r.l.r.l.l.r.r.l.l.r.r.r.l.l.rg
noncomputable def avZ:List cK:=aen.o.1.r.l.l.r.r.r.rg
noncomputable def av0:List cK:=aeo.o.1.r.r.l.r.l.l.rg
noncomputable def av1:IR:=T0.o.1.r.r.r.r.r.r.l.r.l.l
noncomputable def av2:IR:=T0.o.1.r.r.r.r.r.r.r.r.r.r.r.l.l
noncomputable def av3:List cK:=aep.o.1.r.r.l.r.l.l.rg
noncomputable def av4:IR:=aeq.o.1.r.r.r.r.l.r.l.l
noncomputable def av5:IR:=T1.o.1.r.r.r.l.r.l.l
noncomputable def av6:IR:=T1.o.1.r.r.r.r.l.r.l.l
noncomputable def adH:IR:=NV.o.1.r.r.l.r.l.l
noncomputable def aum:List cK:=NV.o.1.r.r.r.l.rg
noncomputable def auF:IR:=TX.o.1.r.r.r.r.l.l
noncomputable def auG:IR:=aea.o.1.r.r.r.l.r.l.l
noncomputable def auH:IR:=aeb.o.1.r.r.l.r.l.l
noncomputable def auI:IR:=G4.o.1.r.r.l.r.l.l
noncomputable def auJ:IR:=G4.o.1.r.r.l.r.l.l.r.r.l.l.r.r.r.r.l.r.l.l.r.l.l
noncomputable def auK:List cK:=G4.o.1.r.r.l.r.l.l.r.r.l.l.r.r.r.r.l.r.r.r.l.r.r.r.r.l.rg
noncomputable def auL:List cK:=G4.o.1.r.r.l.r.l.l.r.r.l.l.r.r.r.r.l.r.r.r.l.r.r.r.r.r.l.rg
noncomputable def auM:List cK:=G4.o.1.r.r.l.r.l.l.r.r.l.l.r.r.r.r.l.r.r.r.l.r.r.r.r.r.r.rg
noncomputable def adO:List cK:=aee.o.1.r.r.l.rg
noncomputable def auN:IR:=kw.o.1.l.r.l.r.r.l.l.l
noncomputable def auO:IR:=kw.o.1.l.r.l.r.r.r.l.r.l.l
noncomputable def auP:IR:=kw.o.1.r.l.r.l.r.r.l.l.l
noncomputable def auQ:IR:=kw.o.1.r.l.r.l.r.r.r.l.r.l.l
noncomputable def auR:IR:=kw.o.1.r.r.r.r.r.r.r.l.l.l
noncomputable def auS:List cK:=kw.o.1.l.l.rg
noncomputable def auT:List cK:=kw.o.1.r.l.l.rg
noncomputable def auU:List cK:=kw.o.1.r.l.r.l.l.rg
noncomputable def auV:List cK:=kw.o.1.r.l.r.l.r.l.rg
noncomputable def auW:List cK:=kw.o.1.l.r.l.l.rg
noncomputable def auX:List cK:=kw.o.1.r.l.r.l.r.r.r.l.l.rg
noncomputable def adP:List cK:=kw.o.1.r.r.l.rg
noncomputable def adQ:List cK:=kw.o.1.r.r.r.l.rg
noncomputable def adR:List cK:=kw.o.1.r.r.r.r.l.rg
noncomputable def auY:List cK:=kw.o.1.r.r.r.r.r.l.l.rg
noncomputable def auZ:List cK:=kw.o.1.r.r.r.r.r.l.r.l.l.rg
noncomputable def au0:List cK:=kw.o.1.l.r.l.r.l.rg
noncomputable def au1:List cK:=kw.o.1.r.r.r.r.r.l.r.l.r.rg
noncomputable def au2:List cK:=kw.o.1.r.r.r.r.r.l.r.r.l.rg
noncomputable def au3:List cK:=kw.o.1.r.r.r.r.r.l.r.r.r.rg
noncomputable def au4:List cK:=kw.o.1.r.r.r.r.r.r.l.rg
noncomputable def adS:List cK:=kw.o.1.r.r.r.r.r.r.r.r.l.rg
noncomputable def adT:List cK:=kw.o.1.r.r.r.r.r.r.r.r.r.l.l.rg
noncomputable def adU:List cK:=kw.o.1.r.r.r.r.r.r.r.r.r.l.r.l.rg
noncomputable def au5:List cK:=kw.o.1.r.r.r.r.r.r.r.r.r.r.l.l.rg
noncomputable def au6:List cK:=kw.o.1.r.r.r.r.r.r.r.r.r.r.l.r.l.rg
noncomputable def au7:List cK:=kw.o.1.r.r.r.r.r.r.r.r.r.r.r.l.rg
noncomputable def au8:List cK:=kw.o.1.r.r.r.r.r.r.r.r.r.r.r.r.l.rg
noncomputable def au9:List cK:=kw.o.1.l.r.l.r.r.r.l.l.rg
end Go.Sx
namespace Go.Proofs
open Go.Shelf
def Tryz.aDx:XH:=⟨λ|6=>159|15=>125|14=>194|28=>177|29=>178|20=>206|21=>207|22=>208|23=>209|24=>210|25=>211|26=>212|27=>213|46=>218|47=>198|48=>199|49=>219|50=>220|57=>221|n=>n,λ|22=>186|24=>278|25=>347|3=>3|39=>248|0=>0|53=>365|55=>247|4=>4|46=>359|45=>358|50=>261|5=>5|9=>9|66=>387|70=>391|76=>404|77=>405|n=>n,λ|n=>n⟩
theorem Tryz.aDw:akt aB Tryz.aDx:={mixed:=by kernel_rfl,f6:=⟨Tryz.f159.name,by decide,Tryz.func159.trans (congrArg some (by kernel_rfl))⟩,f14:=⟨Tryz.f194.name,by decide,Tryz.func194.trans (congrArg some (by kernel_rfl))⟩,f15:=Tryz.func125.trans (congrArg some (by kernel_rfl)),f20:=⟨Tryz.f206.name,by decide,Tryz.func206.trans (congrArg some (by kernel_rfl))⟩,f21:=⟨Tryz.f207.name,by decide,Tryz.func207.trans (congrArg some (by kernel_rfl))⟩,f22:=⟨Tryz.f208.name,by decide,Tryz.func208.trans (congrArg some (by kernel_rfl))⟩,f23:=⟨Tryz.f209.name,by decide,Tryz.func209.trans (congrArg some (by kernel_rfl))⟩,f24:=⟨Tryz.f210.name,by decide,Tryz.func210.trans (congrArg some (by kernel_rfl))⟩,f25:=⟨Tryz.f211.name,by decide,Tryz.func211.trans (congrArg some (by kernel_rfl))⟩,f26:=⟨Tryz.f212.name,by decide,Tryz.func212.trans (congrArg some (by kernel_rfl))⟩,f27:=⟨Tryz.f213.name,by decide,Tryz.func213.trans (congrArg some (by kernel_rfl))⟩,f28:=Tryz.func177.trans (congrArg some (by kernel_rfl)),f29:=Tryz.func178.trans (congrArg some (by kernel_rfl)),f46:=⟨Tryz.f218.name,by decide,Tryz.func218.trans (congrArg some (by kernel_rfl))⟩,f47:=Tryz.func198.trans (congrArg some (by kernel_rfl)),f48:=Tryz.func199.trans (congrArg some (by kernel_rfl)),f49:=⟨Tryz.f219.name,by decide,Tryz.func219.trans (congrArg some (by kernel_rfl))⟩,f50:=⟨Tryz.f220.name,by decide,Tryz.func220.trans (congrArg some (by kernel_rfl))⟩,f57:=⟨Tryz.f221.name,by decide,Tryz.func221.trans (congrArg some (by kernel_rfl))⟩,t0:=amt,a0:=al1,z0:=amg,v0:=amL,t3:=vy,a3:=QL,z3:=QM,v3:=QN,t4:=Yp,a4:=Ym,z4:=Yn,v4:=Yq,t5:=amI,a5:=amb,z5:=amr,v5:=amW,t9:=BO,a9:=amc,z9:=ams,v9:=amX,t22:=Tryz.underlying186,a22:=Tryz.isAgg186,z22:=Tryz.sizeOf186,v22:=Tryz.zeroValue186,t25:=Tryz.underlying347,a25:=Tryz.isAgg347,z25:=Tryz.sizeOf347,v25:=Tryz.zeroValue347,t39:=amx,a39:=al3,z39:=ami,v39:=amN,t45:=amB,a45:=al5,z45:=amk,v45:=amP,t46:=amC,a46:=al6,z46:=aml,v46:=amQ,t50:=amz,a50:=al4,z50:=amj,v50:=amO,t53:=amD,a53:=al7,z53:=amm,v53:=amR,t55:=amw,a55:=al2,z55:=amh,v55:=amM,t66:=amE,a66:=al8,z66:=amn,v66:=amS,t70:=amF,a70:=al9,z70:=amo,v70:=amT,t76:=amG,a76:=al',z76:=amp,v76:=amU,t77:=amH,a77:=ama,z77:=amq,v77:=amV}
def Tryz.aDz:XH:=⟨λ|6=>62|15=>125|14=>124|28=>177|29=>178|20=>169|21=>170|22=>171|23=>172|24=>173|25=>174|26=>175|27=>176|46=>197|47=>198|48=>199|49=>200|50=>201|57=>215|n=>n,λ|22=>35|24=>142|25=>195|3=>3|39=>248|0=>0|53=>365|55=>247|4=>4|46=>359|45=>358|50=>261|5=>5|9=>9|66=>387|70=>391|76=>404|77=>405|n=>n,λ|n=>n⟩
theorem Tryz.aDy:akt aB Tryz.aDz:={mixed:=by kernel_rfl,f6:=⟨Tryz.f62.name,by decide,Tryz.func62.trans (congrArg some (by kernel_rfl))⟩,f14:=⟨Tryz.f124.name,by decide,Tryz.func124.trans (congrArg some (by kernel_rfl))⟩,f15:=Tryz.func125.trans (congrArg some (by kernel_rfl)),f20:=⟨Tryz.f169.name,by decide,Tryz.func169.trans (congrArg some (by kernel_rfl))⟩,f21:=⟨Tryz.f170.name,by decide,Tryz.func170.trans (congrArg some (by kernel_rfl))⟩,f22:=⟨Tryz.f171.name,by decide,Tryz.func171.trans (congrArg some (by kernel_rfl))⟩,f23:=⟨Tryz.f172.name,by decide,Tryz.func172.trans (congrArg some (by kernel_rfl))⟩,f24:=⟨Tryz.f173.name,by decide,Tryz.func173.trans (congrArg some (by kernel_rfl))⟩,f25:=⟨Tryz.f174.name,by decide,Tryz.func174.trans (congrArg some (by kernel_rfl))⟩,f26:=⟨Tryz.f175.name,by decide,Tryz.func175.trans (congrArg some (by kernel_rfl))⟩,f27:=⟨Tryz.f176.name,by decide,Tryz.func176.trans (congrArg some (by kernel_rfl))⟩,f28:=Tryz.func177.trans (congrArg some (by kernel_rfl)),f29:=Tryz.func178.trans (congrArg some (by kernel_rfl)),f46:=⟨Tryz.f197.name,by decide,Tryz.func197.trans (congrArg some (by kernel_rfl))⟩,f47:=Tryz.func198.trans (congrArg some (by kernel_rfl)),f48:=Tryz.func199.trans (congrArg some (by kernel_rfl)),f49:=⟨Tryz.f200.name,by decide,Tryz.func200.trans (congrArg some (by kernel_rfl))⟩,f50:=⟨Tryz.f201.name,by decide,Tryz.func201.trans (congrArg some (by kernel_rfl))⟩,f57:=⟨Tryz.f215.name,by decide,Tryz.func215.trans (congrArg some (by kernel_rfl))⟩,t0:=amt,a0:=al1,z0:=amg,v0:=amL,t3:=vy,a3:=QL,z3:=QM,v3:=QN,t4:=Yp,a4:=Ym,z4:=Yn,v4:=Yq,t5:=amI,a5:=amb,z5:=amr,v5:=amW,t9:=BO,a9:=amc,z9:=ams,v9:=amX,t22:=Tryz.underlying35,a22:=Tryz.isAgg35,z22:=Tryz.sizeOf35,v22:=Tryz.zeroValue35,t25:=Tryz.underlying195,a25:=Tryz.isAgg195,z25:=Tryz.sizeOf195,v25:=Tryz.zeroValue195,t39:=amx,a39:=al3,z39:=ami,v39:=amN,t45:=amB,a45:=al5,z45:=amk,v45:=amP,t46:=amC,a46:=al6,z46:=aml,v46:=amQ,t50:=amz,a50:=al4,z50:=amj,v50:=amO,t53:=amD,a53:=al7,z53:=amm,v53:=amR,t55:=amw,a55:=al2,z55:=amh,v55:=amM,t66:=amE,a66:=al8,z66:=amn,v66:=amS,t70:=amF,a70:=al9,z70:=amo,v70:=amT,t76:=amG,a76:=al',z76:=amp,v76:=amU,t77:=amH,a77:=ama,z77:=amq,v77:=amV}
def Tryz.aoh:XH:=⟨λ|5=>60|7=>123|n=>n,λ|22=>3|3=>3|4=>4|n=>n,λ|n=>n⟩
theorem Tryz.Rj:aGC aB Tryz.aoh:={mixed:=by kernel_rfl,f5:=⟨Tryz.f60.name,by decide,Tryz.func60.trans (congrArg some (by kernel_rfl))⟩,f7:=⟨Tryz.f123.name,by decide,Tryz.func123.trans (congrArg some (by kernel_rfl))⟩,t3:=vy,a3:=QL,z3:=QM,v3:=QN,t4:=Yp,a4:=Ym,z4:=Yn,v4:=Yq,t22:=vy,a22:=QL,z22:=QM,v22:=QN}
end Go.Proofs
namespace Go.Proofs
open Go.Shelf Go.RowKit Go.Lib Go.Sort
def sj(x:Int×Int):List ax:=[bA .i64 x.1,bA .i64 x.2]
set_option maxHeartbeats 1000000 in
theorem aog(x y:Int×Int)(W:bw):FH aB 63 #[.agg #[bA .i64 x.1,bA .i64 x.2],.agg #[bA .i64 y.1,bA .i64 y.2]] W λe bk=>e= .returned (bA .i64 (vq x.1 y.1))/\∃q c,bk=grow (W.drewN q) c:=by
 have a:=λb=>Xf Tryz.Rj x.1 y.1 b;change ∀b,FH aB 60 _ _ _ at a;generalize vq x.1 y.1=r at a⊢;go_enter al0,Tryz.ntmps63;go_wp2_with(go_at_call 60;refine(a _).mono ?_;rintro e bk ⟨rfl,rfl⟩);go_ret;exact⟨rfl,0,_,by rw[Mh,Mh,abG];rfl⟩
set_option maxHeartbeats 1000000 in
theorem aAR(x y:Int)(b:Nat)(W:bw)(al:W.cell? ⟨b,0,none⟩=some (bA .i64 x))(h1:W.cell? ⟨b,1,none⟩=some (bA .i64 y)):FH aB 161 #[ab (some ⟨b,0,none⟩) 2 2] W λe bk=>e= .returned (bA .i64 (if x=0 then y else x))/\∃q,bk=W.drewN q:=by
 go_enter Tryz.func161,Tryz.ntmps161;go_wp2;refine wp_loop_rounds 3 ?_;unfold Xr;go_wp2;exfalso;simp_all;go_ret;exact⟨rfl,0,rfl⟩;rename_i f;have a:x=0:=by simpa using f
 subst a;unfold Xr;go_wp2;go_ret;exact⟨rfl,0,rfl⟩;rename_i d;have c:y=0:=by simpa using d
 subst c;unfold Xr;go_wp2;go_ret;exact⟨rfl,0,rfl⟩
set_option maxHeartbeats 1000000 in
set_option maxRecDepth 100000 in
theorem aof(x y:Int×Int)(W:bw):FH aB 160 #[.agg #[bA .i64 x.1,bA .i64 x.2],.agg #[bA .i64 y.1,bA .i64 y.2]] W λe bk=>e= .returned (bA .i64 (if vq x.1 y.1=0 then vq x.2 y.2 else vq x.1 y.1))/\∃q a,bk=grow (W.drewN q) a:=by
 have d:=λc=>Xf Tryz.Rj x.1 y.1 c;have f:=λc=>Xf Tryz.Rj x.2 y.2 c;change ∀c,FH aB 60 _ _ _ at d;change ∀c,FH aB 60 _ _ _ at f;generalize vq x.1 y.1=r at d⊢;generalize vq x.2 y.2=s at f⊢;go_enter alY,Tryz.ntmps160;go_wp2;have i:((W.alloc (bb #[bA nh x.fst,bA nh x.snd] 278)).alloc (bb #[bA nh y.fst,bA nh y.snd] 278)).cell? ⟨W.heap.size,0,none⟩=some (bA .i64 x.1):=by simp
 have c1:((W.alloc (bb #[bA nh x.fst,bA nh x.snd] 278)).alloc (bb #[bA nh y.fst,bA nh y.snd] 278)).cell? ⟨W.heap.size,1,none⟩=some (bA .i64 x.2):=by simp
 have c2:((W.alloc (bb #[bA nh x.fst,bA nh x.snd] 278)).alloc (bb #[bA nh y.fst,bA nh y.snd] 278)).cell? ⟨W.heap.size+1,0,none⟩=some (bA .i64 y.1):=by simp
 have h:((W.alloc (bb #[bA nh x.fst,bA nh x.snd] 278)).alloc (bb #[bA nh y.fst,bA nh y.snd] 278)).cell? ⟨W.heap.size+1,1,none⟩=some (bA .i64 y.2):=by simp
 have g0:∃a,((W.alloc (bb #[bA nh x.fst,bA nh x.snd] 278)).alloc (bb #[bA nh y.fst,bA nh y.snd] 278))=grow W a:=⟨_,by rw[Mh,Mh,abG]⟩;generalize((W.alloc (bb #[bA nh x.fst,bA nh x.snd] 278)).alloc (bb #[bA nh y.fst,bA nh y.snd] 278))=b at i c1 c2 h g0⊢;refine wp_region_still_tail 10 (by kernel_rfl) (by kernel_rfl) ?_;change wpStill _ _ b.drew _ _ _;have d0:b.drew.cell? ⟨W.heap.size,0,none⟩=some (bA .i64 x.1):=i;have d1:b.drew.cell? ⟨W.heap.size,1,none⟩=some (bA .i64 x.2):=c1;have d2:b.drew.cell? ⟨W.heap.size+1,0,none⟩=some (bA .i64 y.1):=c2;have d3:b.drew.cell? ⟨W.heap.size+1,1,none⟩=some (bA .i64 y.2):=h;generalize b.drew=k at d0 d1 d2 d3⊢;clear i c1 c2 h;simp only[List.take_succ_cons,List.take_zero,List.drop_succ_cons,List.drop_zero];iterate 4 still_step
 still_call(d _);iterate 4 still_step
 still_call(f _);refine wpStill_nil ?_;change wpList _ _ _ _ _ b.drew;have g1:∃a,b.drew=grow (W.drewN 1) a:=by
  obtain⟨a,g0⟩:=g0;exact⟨a,by rw[g0];rfl⟩
 generalize b.drew=g at g1⊢;have j:=aAR r s g.heap.size;go_wp2_with(go_at_call 161;refine(j _ (by simp) (by simp)).mono ?_;rintro e bk ⟨rfl,q,rfl⟩);all_goals
  go_ret
  obtain⟨a,rfl⟩:=g1
  have e:∀U,((grow (W.drewN 1) a).alloc U).drewN q=grow (W.drewN (1+q)) (a++#[U]):=λU=>by rw[Mh,abG,<-World.drewN_drewN];rfl
  exact⟨rfl,1+q,_,e _⟩
def Gh(x y:Int×Int):Int:=if vq x.1 y.1=0 then vq x.2 y.2 else vq x.1 y.1
def B0(x y:Int×Int):Int:=vq x.1 y.1
theorem Oh x y:ltOf B0 x y=decide (x.1<y.1):=by
 unfold ltOf B0 vq;by_cases h1:x.1<y.1;simp[h1];by_cases ae:y.1<x.1<;>simp[h1,ae]
theorem Oi x y:ltOf Gh x y=decide (x.1<y.1\/x.1=y.1/\x.2<y.2):=by
 unfold ltOf Gh vq;by_cases h1:x.1<y.1;simp[h1];by_cases ae:y.1<x.1;have:¬x.1=y.1:=by omega
 simp[h1,ae,this];have:x.1=y.1:=by omega
 by_cases a:x.2<y.2;simp[a,this];by_cases b:y.2<x.2<;>simp[a,b,this]
theorem aD4:SWO (ltOf B0)where
 irrefl x:=by rw[Oh];simp
 trans x y z h1 ae:=by rw[Oh]at*;simp at*;omega
 ntrans x y z h1 ae:=by rw[Oh]at*;simp at*;omega
theorem aD5:SWO (ltOf Gh)where
 irrefl x:=by rw[Oi];simp
 trans x y z h1 ae:=by rw[Oi]at*;simp only[decide_eq_true_eq]at*;omega
 ntrans x y z h1 ae:=by rw[Oi]at*;simp only[decide_eq_false_iff_not]at*;omega
end Go.Proofs
namespace Go.Sx
set_option maxRecDepth 100000
set_option maxHeartbeats 0
set_option linter.all false
theorem Y7{x y a b:Int}(e:0<=x)(c:x<=a)(d:0<=y)(f:y<=b):0<=x*y/\x*y<=a*b:=⟨Int.mul_nonneg e d,Int.mul_le_mul c f d (Int.le_trans e c)⟩
end Go.Sx
namespace Go.Sx
open Go.Proofs
set_option maxRecDepth 100000
set_option maxHeartbeats 0
set_option linter.all false
variable {rows:List (List Int)}{a aE cI f l t:List Int}{xs:List ax}{ad:List bT}{M N T b bK bq cap gt n o size v:Nat}{p q:Nat->Bool}{cZ:Nat->List Nat}{cT:Nat->Option aI×Nat}{S:Nat->Prop}{A:Option aI}
def zb(k:Int):Bool:=decide (1<=k)&&decide (k<=64)
def pP(N v:Int):Bool:=decide (0<=v)&&decide (v<N)
def oH(N:Int)(a:bT):Int:=
 if(!(pP N a.src&&pP N a.dst))=true then 100 else if(!(zb a.fH&&zb a.take))=true then 101 else if a.start<0\/256<a.start then 88 else 0
def xb(N:Int):List bT->Int
 |[]=>0
 |a::l=>if oH N a≠0 then oH N a else xb N l
def e'(N:Int)(l:List bT):Int:=if N<1\/32<N then 100 else if 96<l.length then 81 else xb N l
theorem Ht N v:pP N v=true↔0<=v/\v<N:=by simp[pP]
theorem Vd v:zb v=true↔1<=v/\v<=64:=by simp[zb]
theorem aAv{N:Int}{a:bT}(hk:¬(pP N a.src=true/\pP N a.dst=true)):oH N a=100:=by
 grind [oH]
theorem aAw{N:Int}{a:bT}(h1:pP N a.src=true)(ae:pP N a.dst=true)(hk:¬(zb a.fH=true/\zb a.take=true)):oH N a=101:=by
 grind [oH]
theorem aAx{N:Int}{a:bT}(h1:pP N a.src=true)(ae:pP N a.dst=true)(c:zb a.fH=true)(b:zb a.take=true):oH N a=if a.start<0\/256<a.start then 88 else 0:=by
 simp[oH,h1,ae,c,b]
theorem Mr N A n cap l h(j:bf h 5 A n (l.map bT.cells))(D:n<=9223372036854775806):Fn aB 106 #[mW N A n cap] h λr aa=>r=R (e' N l)/\aa=h:=by
 have ak:l.length=n:=by simpa using j.len
 refine b6 awa rfl ?_;refine aY (λh1=>?_) (λh1=>?_);refine .ah ⟨?_,rfl⟩;simp[e',h1,kH,R];refine aY (λae=>?_) (λae=>?_);refine .ah ⟨?_,rfl⟩;simp[e',ae,kH,R];refine aY (λx=>?_) (λx=>?_);refine .ah ⟨?_,rfl⟩
 grind [e',kH,R]
 refine .mk Nat [1,18,19,20] (λi=>[.p 0 0,.v (ab A n cap),.v (R n),.v (R i)]) (λ_=>[.own [.v (R N),.v (ab A n cap)] 33]) (λi aa=>aa=h/\i<=n/\xb N (l.drop i)=xb N l) (λi=>n-i) 0 (λ_=>rfl) ⟨rfl,cW _,rfl⟩ rfl rfl ?_;rintro i e aa ⟨rfl,E,f⟩;have ay:e' N l=xb N (l.drop i):=by rw[f];grind [e']
 refine aY (λw=>?_) (λw=>?_);have B:i<n:=I;have s:l.drop i=l[i]::l.drop (i+1):=mE I;rw[s]at ay f;obtain⟨g,k⟩:=j.cg I;have b:oH N l[i]≠0->e' N l=oH N l[i]:=λhk=>by simp_all[ay,xb]
 have C:oH N l[i]=0->xb N (l.drop (i+1))=xb N l:=λhk=>by simp_all[<-f,xb]
 have c:=@aAv N l[i];have d:=@aAw N l[i];have a:=@aAx N l[i];simp only[Ht,Vd]at c d a;refine .m g k ?_;refine .hp l[i].cells rfl (by rw[bz];exact j.row k (iP I)) ?_;refine aY (λu=>?_) (λu=>?_);refine .ah ⟨?_,rfl⟩;rw[b]<;>rw[c I]<;>first|rfl|decide
 refine aY (λt=>?_) (λt=>?_);refine .ah ⟨?_,rfl⟩;rw[b]<;>rw[c I]<;>first|rfl|decide
 refine aY (λy=>?_) (λy=>?_);refine .ah ⟨?_,rfl⟩;rw[b]<;>rw[d I I I]<;>first|rfl|decide
 refine aY (λz=>?_) (λz=>?_);refine .ah ⟨?_,rfl⟩;rw[b]<;>rw[d I I I]<;>first|rfl|decide
 have a:=a I I I I;refine aY (λo=>?_) (λo=>?_);refine .ah ⟨?_,rfl⟩;rw[aP (bW o)]at a;rw[b]<;>rw[a]<;>first|rfl|decide
 refine aY (λq=>?_) (λq=>?_);refine .ah ⟨?_,rfl⟩;rw[aP (bl q)]at a;rw[b]<;>rw[a]<;>first|rfl|decide
 rw[aD I]at a;refine .bg ?_;exact⟨i+1,rfl,rfl,⟨rfl,B,C a⟩,I⟩;refine .ah ⟨?_,rfl⟩;rw[ay,rm I];rfl
theorem aAJ{rows:List (List ax)}(hw:∀r∈rows,∀u∈r,u.oneCell'=true):∀u∈rows.flatten,u.oneCell'=true:=by
 intro u hu;obtain⟨r,a,hu⟩:=List.mem_flatten.1 hu
 grind
theorem hB(l:List bT):∀u∈(l.map bT.cells).flatten,u.oneCell'=true:=aAJ λr b u hu=>by
 obtain⟨a,_,rfl⟩:=cU.1 b;simp only[bT.cells,ek,List.not_mem_nil,or_false]at hu;rcases hu with rfl|rfl|rfl|rfl|rfl<;>rfl
theorem Zy{N:Int}:∀{l:List bT},xb N l=0->∀a∈l,oH N a=0
 |[],_,a,h=>by cases h
 |b::l,h,a,c=>by
  simp only[xb]at h;split at h;omega;rename_i h1;rcases ek.1 c with rfl|c;omega;exact Zy h a c
theorem rT{N:Int}{a:bT}(h:oH N a=0):0<=a.src/\a.src<N/\0<=a.dst/\a.dst<N/\1<=a.fH/\a.fH<=64/\1<=a.take/\a.take<=64/\0<=a.start/\a.start<=256:=by
 cases c:pP N a.src<;>cases b:pP N a.dst<;>cases d:zb a.fH<;>cases e:zb a.take<;>simp[oH,c,b,d,e]at h;have h1:=(Ht _ _).1 c;have ae:=(Ht _ _).1 b;have g:=(Vd _).1 d;have f:=(Vd _).1 e;omega
theorem lT{N:Int}{l:List bT}(h:e' N l=0):1<=N/\N<=32/\l.length<=96/\∀a∈l,oH N a=0:=by
 unfold e' at h;split at h;omega;split at h;omega;rename_i h1 ae;exact⟨I,I,I,Zy h⟩
theorem J.sS(h:J) b U a:(h.put b U).put b a=h.put b a:=by
 grind [J.put]
variable {X aa al bn cC h:J}
theorem kJ{α:Type}{l:List α}{i:Nat} a:l.take (i+1)=l.take i++[l[i]]:=by
 simp
theorem bf.lit{ty:Nat}{cs:List ax}{rows:List (List ax)}(f:h b=some (bb cs.toArray ty (0,0)))(j:rows.flatten=cs)(hw:∀r∈rows,r.length=size)(c:rows.length=n):bf h size (some ⟨b,0,none⟩) n rows:=by
 refine⟨c,hw,λ_=>⟨_,rfl⟩,λg a i r d o v e=>?_⟩;injection a with a;subst a;have:=DS _ hw i o r v d e;rw[add_lit,dM,J.cell?]
 grind
theorem OZ{U:Obj}:(h.put b U) b=some U:=J.b1 _ _ _
theorem ih{α:Type}:∀(l:List α) off v,off<l.length->over l off [v]=some (l.set off v)
 |[],off,v,h=>by simp at h
 |x::l,0,v,_=>by simp[over]
 |x::l,off+1,v,h=>by simp only[over,ih l off v aJ,LZ]
theorem abc{size:Nat}:∀(rows:List (List ax)),(∀r∈rows,r.length=size)->∀i o r v,rows[i]?=some r->o<size->rows.flatten.set (i*size+o) v=(rows.set i (r.set o v)).flatten
 |[],_,i,o,r,v,h,_=>by simp at h
 |q::rows,hw,i,o,r,v,h,a=>by
  have c:=hw q bd;cases i with
  |zero=>
   grind
  |succ i=>
   rw[oR,uq _ _ aJ,LZ,oR];have:=abc rows (λr b=>hw r (by simp[b])) i o r v aJ a
   grind
theorem bJ.write{off:Nat}(x:bJ h bK size A n cap xs)(j:off<n*size) v:∃g cs d,A=some ⟨g,0,none⟩/\h g=some (bb cs.toArray bK (0,0))/\over cs off [v]=some d/\bJ (h.put g (bb d.toArray bK (0,0))) bK size A n cap (xs.set off v):=by
 obtain⟨h1,ae⟩:=x;rcases ae with⟨_,ae,_⟩|⟨g,a,b,i,c,e,l,f⟩
 grind
 have k:n*size<=cap*size:=Nat.mul_le_mul_right size c;refine⟨g,a.toList,a.toList.set off v,b,I,ih _ _ _ aJ,aJ,bl ⟨g,(a.toList.set off v).toArray,b,J.b1 _ _ _,c,e,aJ,?_⟩⟩;rw[<-f];simp only[List.take_set]
def ins(ad:List bT)(v:Nat):List Nat:=(fL ad.length).filter λi=>decide ((ad[i]?).map bT.dst=some (v:Int))
def outs(ad:List bT)(v:Nat):List Nat:=(fL ad.length).filter λi=>decide ((ad[i]?).map bT.src=some (v:Int))
def o6(l:List Nat):List (List ax):=l.map λ(i:Nat)=>[R (i:Int)]
def xQ(N:Nat)(len:Nat->Nat)(a:Nat->Option aI×Nat):List (List ax):=(fL N).map λv=>[ab (a v).1 (len v) (a v).2]
structure amZ(bn:J)(b gt bq N:Nat)(ad:List bT)(fl hy hz:Option aI)(ck ci co:Nat)(bX O:Nat->Option aI×Nat):Prop where
 head:bn b=some (bb #[ab fl ad.length ck,ab hy N ci,ab hz N co,ab (some ⟨gt,0,none⟩) ad.length ad.length,ab (some ⟨bq,0,none⟩) N N] 271 (0,0))
 dV:bf bn 5 fl ad.length (ad.map bT.cells)
 TM:bf bn 1 hy N (xQ N (λv=>(ins ad v).length) bX)
 out:bf bn 1 hz N (xQ N (λv=>(outs ad v).length) O)
 adr:∀v,v<N->bf bn 1 (bX v).1 (ins ad v).length (o6 (ins ad v))
 agF:∀v,v<N->bf bn 1 (O v).1 (outs ad v).length (o6 (outs ad v))
 ov:bn gt=none
 ou:bn bq=none
 ne:gt≠bq
structure sb(bn:J)(b gt bq N:Nat)(ad:List bT):Prop where
 ex:∃fl hy hz ck ci co bX O,amZ bn b gt bq N ad fl hy hz ck ci co bX O
theorem sb.mono{bn cC:J}{b gt bq N:Nat}{ad:List bT}(w:sb bn b gt bq N ad)(x:bn.le cC)(h1:cC gt=none)(ae:cC bq=none):sb cC b gt bq N ad:=by
 obtain⟨e,f,g,d,ci,co,c,O,w⟩:=w.ex;exact⟨e,f,g,d,ci,co,c,O,⟨x _ _ w.head,w.dV.mono x,w.TM.mono x,w.out.mono x,λv a=>(w.adr v a).mono x,λv a=>(w.agF v a).mono x,h1,ae,w.ne⟩⟩
def hh(l:List Int):Obj:=bb (l.map R).toArray 3 (0,0)
def st(bn:J)(gt bq:Nat)(cR cI:List Int):J:=(bn.put gt (hh cR)).put bq (hh cI)
section
variable {bn h:J}{b gt bq N:Nat}{ad:List bT}{cR cI:List Int}
theorem J.jZ(h1:bn gt=none)(ae:bn bq=none):bn.le (st bn gt bq cR cI):=λo U e=>by
 unfold st;rw[J.cB _ _ (λq=>aJ),J.cB _ _ (λq=>aJ)];exact e
theorem Fo(a:gt≠bq):st bn gt bq cR cI gt=some (hh cR):=by
 unfold st;rw[J.cB _ _ a,J.b1]
theorem HR:st bn gt bq cR cI bq=some (hh cI):=by
 unfold st;rw[J.b1]
theorem Li(c:gt≠bq)(h1:bn gt=none)(ae:bn bq=none)(x:(st bn gt bq cR cI).le aa):∃cC,aa=st cC gt bq cR cI/\bn.le cC/\cC gt=none/\cC bq=none:=by
 refine⟨(aa.del gt).del bq,?_,λo U e=>?_,?_,J.Gn _ _⟩;funext o;unfold st;by_cases a:o=bq;subst a;rw[J.b1];exact x _ _ HR;rw[J.cB _ _ a];by_cases b:o=gt;subst b;rw[J.b1];exact x _ _ (Fo c);rw[J.cB _ _ b,J.mJ _ a,J.mJ _ b];have a:o≠bq:=λq=>by grind
 have b:o≠gt:=λq=>by grind
 rw[J.mJ _ a,J.mJ _ b];exact x _ _ (J.jZ h1 ae _ _ e);rw[J.mJ _ c,J.Gn]
theorem aDI t:(st bn gt bq cR cI).put gt (hh t)=st bn gt bq t cI\/gt=bq:=by
 by_cases e:gt=bq;omega;left;funext o;simp only[st,J.put]
 grind
theorem aDG f:(st bn gt bq cR cI).put bq (hh f)=st bn gt bq cR f:=by
 unfold st;rw[J.sS]
theorem bV{a:J}{cs:List ax}{b ty:Nat}(c:a b=some (bb cs.toArray ty (0,0))){v:ax}(d:cs[o]?=some v):a.cell? ⟨b,o,none⟩=some v:=by
 unfold J.cell?
 grind
end
def h9(b:Nat):ax:=gv (some ⟨b,0,none⟩)
theorem acc(w:sb bn b gt bq N ad)(x:bn.le h) v:Fn aB 157 #[h9 b,R v] h λr aa=>r=c5 (pP N v)/\aa=h:=by
 obtain⟨d,e,f,c,ci,co,a,O,w⟩:=w.ex;refine b6 awM rfl (aY (λh1=>?_) (λh1=>?_));refine .hp _ (J.la x (bV w.head (o:=1) rfl)) (.ah ⟨?_,rfl⟩)
 grind [kH,pP]
 refine .ah ⟨?_,rfl⟩
 grind [kH,pP]
theorem afZ(w:sb bn b gt bq N ad)(x:bn.le h) v(d:v<N):Fn aB 115 #[h9 b,R v] h λr aa=>(∃A c,r=ab A (ins ad v).length c/\bf bn 1 A (ins ad v).length (o6 (ins ad v)))/\aa=h:=by
 obtain⟨i,j,k,f,ci,co,e,O,w⟩:=w.ex;refine b6 awi rfl (.hp _ (J.la x (bV w.head (o:=1) rfl)) ?_);obtain⟨g,a⟩:=w.TM.cg I;exact .m g a (.hp (ab (e v).1 (ins ad v).length (e v).2) (by rw[bz];exact(w.TM.mono x).one a (by simp[xQ,d];rfl) rfl) (.ah ⟨⟨_,_,rfl,w.adr v d⟩,rfl⟩))
theorem apN(w:sb bn b gt bq N ad)(x:bn.le h) v(d:v<N):Fn aB 116 #[h9 b,R v] h λr aa=>(∃A c,r=ab A (outs ad v).length c/\bf bn 1 A (outs ad v).length (o6 (outs ad v)))/\aa=h:=by
 obtain⟨i,j,k,f,ci,co,e,O,w⟩:=w.ex;refine b6 awj rfl (.hp _ (J.la x (bV w.head (o:=2) rfl)) ?_);obtain⟨g,a⟩:=w.out.cg I;exact .m g a (.hp (ab (O v).1 (outs ad v).length (O v).2) (by rw[bz];exact(w.out.mono x).one a (by simp[xQ,d];rfl) rfl) (.ah ⟨⟨_,_,rfl,w.agF v d⟩,rfl⟩))
theorem TK{i:Nat}(h:i∈ins ad v):i<ad.length:=by
 grind [ins]
theorem aAZ{i:Nat}(h:i∈outs ad v):i<ad.length:=by
 grind [outs]
theorem OG{a:J}{g:Nat}(c:a g=some (hh l)){i:Nat} b:a.cell? ((Addr.mk g 0 none).add (i*1))=some (R l[i]):=by
 rw[add_lit,dM,eV];exact bV (cs:=l.map R) c (by simp[b])
def Ha(ad:List bT)(cR:List Int)(i:Nat):Bool:=decide (cR.getD i 0<((ad[i]?).map bT.take).getD 0)
def zm(ad:List bT)(cR:List Int):List Nat->Int
 |[]=> -1
 |i::l=>if Ha ad cR i=true then i else zm ad cR l
theorem Ud{cR:List Int}{i:Nat} a b:Ha ad cR i=decide (cR[i]<ad[i].take):=by
 simp[Ha,a,b]
theorem ah5(w:sb bn b gt bq N ad) cR cI(K:cR.length=ad.length)(G:ad.length<=96) v:Fn aB 118 #[h9 b,R v] (st bn gt bq cR cI) λr aa=>r=R (if pP N v=true then zm ad cR (ins ad v.toNat)else-1)/\aa=st bn gt bq cR cI:=by
 obtain⟨D,E,F,C,ci,co,B,O,a'⟩:=w.ex;have x:bn.le (st bn gt bq cR cI):=J.jZ a'.ov a'.ou;have q:st bn gt bq cR cI gt=some (hh cR):=Fo a'.ne;generalize z:st bn gt bq cR cI=h at x q;refine b6 awl rfl (.ah (.mk _ (acc w x v) ?_));rintro _ aa ⟨rfl,rfl⟩;cases s:pP N v with
 |false=>
  exact .ah ⟨rfl,rfl⟩
 |true=>
  obtain⟨v0,v1⟩:=(Ht _ _).1 s;obtain⟨u,rfl⟩:∃u:Nat,v=u:=⟨v.toNat,I⟩;refine .ah (.mk _ (afZ w x u I) ?_);rintro _ h ⟨⟨A,c,rfl,aT⟩,rfl⟩;have t:((ins ad u).length:Int)<=96:=by
   have:(ins ad u).length<=ad.length:=by
    have:=XW (λi=>decide ((ad[i]?).map bT.dst=some (u:Int))) (fL ad.length)
    grind [ins]
   omega
  refine .mk Nat [0,19,20,21] (λo=>[.v (h9 b),.v (ab A (ins ad u).length c),.v (R (ins ad u).length),.v (R o)]) (λ_=>[]) (λo aa=>aa=h/\o<=(ins ad u).length/\zm ad cR ((ins ad u).drop o)=zm ad cR (ins ad u)) (λo=>(ins ad u).length-o) 0 (λ_=>rfl) ⟨rfl,cW _,rfl⟩ rfl rfl (λo e aa⟨rfl,y,d⟩=>aY (λh1=>?_) (λh1=>?_));have j:o<(ins ad u).length:=I;have a:(ins ad u).drop o=(ins ad u)[o]::(ins ad u).drop (o+1):=mE j;have f:=TK (cG j);generalize(ins ad u)[o]=i at a f;obtain⟨g,k⟩:=aT.cg I;obtain⟨n,p⟩:=a'.dV.cg I;refine .m g k (.hp (R i) (by rw[bz];exact(aT.mono x).one k (r:=[R i]) (by have:=ee (λl=>l[0]?) a;simp at this;simp[o6,this]) rfl) (.hp _ (J.la x (bV a'.head (o:=3) rfl)) (.r (.hp (R (cR[i]'I)) (by rw[bz];exact OG q I) (.hp _ (J.la x (bV a'.head (o:=0) rfl)) (.m n p (.hp (R ad[i].take) (by rw[bz,vH];exact(a'.dV.mono x).cell n p i _ (iP f) 3 _ rfl) ?_)))))));have H:=Ud (cR:=cR) f I;refine aY (λae=>?_) (λae=>?_);refine .ah ⟨?_,rfl⟩;rw[aP rfl,bz,<-d,a,zm,aP aJ];rfl;refine .bg (⟨o+1,rfl,rfl,⟨rfl,j,?_⟩,I⟩);simp_all[<-d,a,zm];refine .ah ⟨?_,rfl⟩;rw[aP rfl,bz,<-d,rm I];rfl
theorem ah6{ad:List bT}{cR:List Int}:∀l,zm ad cR l<0↔∀i∈l,Ha ad cR i=false
 |[]=>by simp[zm]
 |i::l=>by
  simp only[zm];cases h:Ha ad cR i;simp[h,ah6 l]
  grind
def xJ(N:Nat)(ad:List bT)(cR:List Int)(v:Int):Bool:=pP N v&&decide (zm ad cR (ins ad v.toNat)<0)
theorem afs(w:sb bn b gt bq N ad) cR cI(d:cR.length=ad.length)(c:ad.length<=96) v:Fn aB 114 #[h9 b,R v] (st bn gt bq cR cI) λr aa=>r=c5 (xJ N ad cR v)/\aa=st bn gt bq cR cI:=by
 obtain⟨g,h,i,f,ci,co,e,O,a'⟩:=w.ex;have x:bn.le (st bn gt bq cR cI):=J.jZ a'.ov a'.ou;refine b6 awh rfl (.ah (.mk _ (acc w x v) ?_));rintro _ aa ⟨rfl,rfl⟩;cases a:pP N v with
 |false=>
  refine .ah ⟨?_,rfl⟩;simp[kH,xJ,a]
 |true=>
  refine .ah (.mk _ (ah5 w cR cI d c v) ?_);rintro _ aa ⟨rfl,rfl⟩;refine .ah ⟨?_,rfl⟩;simp[kH,xJ,a]
def ob(cI:List Int)(a:bT):Int:=a.start+a.fH*cI.getD a.src.toNat 0-a.take*cI.getD a.dst.toNat 0
def dx(ad:List bT)(cI:List Int):List Int:=ad.map (ob cI)
def k0(ad:List bT)(cI:List Int)(p q:Nat->Bool):List Int:=ad.zipIdx.map λx=>ob cI x.1- (if p x.2=true then x.1.take else 0)+(if q x.2=true then x.1.fH else 0)
theorem WP ad cI p q:(k0 ad cI p q).length=ad.length:=by simp[k0]
theorem qq ad cI:(dx ad cI).length=ad.length:=by simp[dx]
theorem wC{i:Nat} a:(k0 ad cI p q)[i]'(by rw[WP];exact a)=ob cI ad[i]- (if p i=true then ad[i].take else 0)+(if q i=true then ad[i].fH else 0):=by
 simp[k0]
theorem aEM ad cI{p q:Nat->Bool}(hp:∀i,p i=false)(a:∀i,q i=false):k0 ad cI p q=dx ad cI:=by
 apply um;simp[k0,dx];intro i h1 ae;rw[wC (by simp_all[k0])];simp[dx,hp,a]
theorem aEL{l0:Nat->Bool}{i:Nat} a(al:p i=false)(h1:l0 i=true)(ae:∀o,o≠i->l0 o=p o):(k0 ad cI p q).set i ((k0 ad cI p q)[i]'(by rw[WP];exact a)-ad[i].take)=k0 ad cI l0 q:=by
 apply um;simp[k0];intro o d c;have b:o<ad.length:=by simp_all[k0]
 rw[wQ,wC b];split;rename_i e;subst e;rw[wC a,wC a,al,h1]
 grind
 rename_i e;rw[wC b,ae o (d' e)]
theorem aEJ{fg:Nat->Bool}{i:Nat} a(al:q i=false)(h1:fg i=true)(ae:∀o,o≠i->fg o=q o):(k0 ad cI p q).set i ((k0 ad cI p q)[i]'(by rw[WP];exact a)+ad[i].fH)=k0 ad cI p fg:=by
 apply um;simp[k0];intro o d c;have b:o<ad.length:=by simp_all[k0]
 rw[wQ,wC b];split;rename_i e;subst e;rw[wC a,wC a,al,h1];simp;rename_i e;rw[wC b,ae o (d' e)]
theorem aiX{l0 fg:Nat->Bool}(hp:∀i,p i=l0 i)(a:∀i,q i=fg i):k0 ad cI p q=k0 ad cI l0 fg:=by
 rw[funext hp,funext a]
def bump(cI:List Int)(v:Nat):List Int:=cI.set v (cI.getD v 0+1)
theorem Za cI v u(a:v<cI.length):(bump cI v).getD u 0=cI.getD u 0+if u=v then 1 else 0:=by
 simp only[bump,cx,List.getElem?_set]
 grind
theorem WQ{a:bT}(b:oH N a=0)(ak:cI.length=N)(d:v<N):ob (bump cI v) a=ob cI a- (if a.dst=v then a.take else 0)+(if a.src=v then a.fH else 0):=by
 have c:=rT b;unfold ob;rw[Za _ _ _ I,Za _ _ _ I]
 grind
theorem UJ{i:Nat} a:i∈ins ad v↔ad[i].dst=v:=by
 simp[ins,a]
theorem azl{i:Nat} a:i∈outs ad v↔ad[i].src=v:=by
 simp[outs,a]
theorem aAe ad v:(ins ad v).Nodup:=XO _ alb
theorem aAf ad v:(outs ad v).Nodup:=XO _ alb
theorem aEK(c:e' N ad=0)(ak:cI.length=N)(b:v<N):k0 ad cI (λi=>decide (i∈ins ad v)) (λi=>decide (i∈outs ad v))=dx ad (bump cI v):=by
 apply um;simp[k0,dx];intro i h1 ae;have a:i<ad.length:=by grind [dx]
 rw[wC a];simp only[dx,List.getElem_map];rw[WQ ((lT c).2.2.2 _ (cG a)) ak b];simp only[uB,UJ a,azl a]
def may(N:Nat)(ad:List bT)(cI:List Int)(v:Int):Bool:=xJ N ad (dx ad cI) v
theorem Om:may N ad cI v=true↔v<N/\∀a∈ad,a.dst=v->a.take<=ob cI a:=by
 have key:(∀i∈ins ad v,Ha ad (dx ad cI) i=false)↔∀a∈ad,a.dst=v->a.take<=ob cI a:=by
  constructor;intro h a e d;obtain⟨i,b,rfl⟩:=oe e;have:=h i ((UJ b).2 d);rw[Ud b (by rw[qq];exact b)]at this
  grind [dx]
  intro h i b;have c:=TK b;rw[Ud c (by rw[qq];exact c)];have:=h ad[i] (cG c) ((UJ c).1 b)
  grind [dx]
 unfold may xJ;rw[h0,uB,ah6,bz,key,Ht];simp
theorem aft{v:Int}(h:may N ad cI v=true):∃u:Nat,v=u/\u<N:=by
 unfold may xJ at h;rw[h0,Ht]at h
 grind
def nR(N:Nat)(ad:List bT):List Int->List Int->Nat×List Int
 |[],f=>(0,f)
 |v::l,f=>if may N ad f v=true then((nR N ad l (bump f v.toNat)).1+1,(nR N ad l (bump f v.toNat)).2)else(0,f)
structure Good(N:Nat)(ad:List bT)(cI:List Int)(T:Nat):Prop where
 len:cI.length=N
 cQ:∀x∈cI,0<=x/\x<=T
 tok:∀a∈ad,0<=ob cI a
theorem Good.at(g:Good N ad cI T) u:0<=cI.getD u 0/\cI.getD u 0<=T:=by
 rw[cx];cases h:cI[u]?with
 |none=>simp
 |some x=>exact g.cQ x (List.mem_of_getElem? h)
theorem Good.bump{N T:Nat}{ad:List bT}{cI:List Int}(g:Good N ad cI T)(f:e' N ad=0){v:Nat}(hm:may N ad cI v=true):Good N ad (bump cI v) (T+1):=by
 obtain⟨e,hm⟩:=Om.1 hm;refine⟨by simp[Sx.bump,g.len],λx b=>?_,λa c=>?_⟩;have:=g.at v;rcases List.mem_or_eq_of_mem_set b with b|rfl;have:=g.cQ x b;omega;omega;have d:=(lT f).2.2.2 a c;have h:=rT d;rw[WQ d g.len e];have al:=g.tok a c
 grind
theorem Good.aiY(g:Good N ad cI T)(d:e' N ad=0){a:bT}(c:a∈ad):ob cI a<=256+64*T:=by
 have f:=rT ((lT d).2.2.2 a c);have h1:=g.at a.src.toNat;have ae:=g.at a.dst.toNat;obtain⟨e,h⟩:=Y7 (x:=a.fH) (y:=cI.getD a.src.toNat 0) (a:=64) (b:=T) I I h1.1 h1.2;obtain⟨i,j⟩:=Y7 (x:=a.take) (y:=cI.getD a.dst.toNat 0) (a:=64) (b:=T) I I ae.1 ae.2;unfold ob;omega
theorem HA{i:Nat}(a:i<l.length) x:over (l.map R) (0+i*1) [R x]=some ((l.set i x).map R):=by
 rw[dM,eV,ih _ _ _ aJ,lM]
theorem aiq{cR:List Int}(a:gt≠bq):(st bn gt bq cR cI).put gt (bb (t.map R).toArray 3 (0,0))=st bn gt bq t cI:=by
 rcases aDI (bn:=bn) (gt:=gt) (bq:=bq) (cR:=cR) (cI:=cI) t with h|h;exact h;omega
theorem auf ad v:(ins ad v).length<=ad.length:=by
 have:=XW (λi=>decide ((ad[i]?).map bT.dst=some (v:Int))) (fL ad.length)
 grind [ins]
theorem aAY ad v:(outs ad v).length<=ad.length:=by
 have:=XW (λi=>decide ((ad[i]?).map bT.src=some (v:Int))) (fL ad.length)
 grind [outs]
theorem ado{l:List Nat} a:(o6 l)[o]?=some [R (l[o]:Int)]:=by simp[o6,a]
def lZ(l:List Nat)(o:Nat):Nat->Bool:=λi=>decide (i∈l.take o)
theorem adw l i:lZ l 0 i=false:=dC
theorem adt{l:List Nat}(a:l.Nodup) b:lZ l o l[o]=false:=by
 simp only[lZ,decide_eq_false_iff_not];intro h;obtain⟨i,c,e⟩:=oe h;simp only[List.length_take]at c;rw[List.getElem_take]at e;exact LW.1 a i o I b I e
theorem adv{l:List Nat} a:lZ l (o+1) l[o]=true:=by
 simp only[lZ,uB];rw[kJ a,ej];simp
theorem adu{l:List Nat} a i(b:i≠l[o]):lZ l (o+1) i=lZ l o i:=by
 have h:i∈l.take (o+1)↔i∈l.take o:=by
  rw[kJ a,ej,hV]
  grind
 simp[lZ,h]
theorem ads l i:lZ l l.length i=decide (i∈l):=by simp[lZ]
theorem ap0(w:sb bn b gt bq N ad)(D:e' N ad=0) aE cI A n cap T(S:bf bn 1 A n (aE.map λz=>[R z]))(cC:Good N ad cI T)(hI:T+n<=70368744177664):Fn aB 55 #[h9 b,ab A n cap] (st bn gt bq (dx ad cI) cI) λr aa=>r=R (nR N ad aE cI).1/\aa=st bn gt bq (dx ad (nR N ad aE cI).2) (nR N ad aE cI).2:=by
 obtain⟨fl,hy,hz,ck,ci,co,bX,O,a'⟩:=w.ex;have d:∀t f,bn.le (st bn gt bq t f):=λt f=>J.jZ a'.ov a'.ou;have P:∀t f,st bn gt bq t f gt=some (hh t):=λt f=>Fo a'.ne;have Y:∀t f,st bn gt bq t f bq=some (hh f):=λt f=>HR;have hL:=(lT D).2.2.1;have NG:aE.length=n:=by simpa using S.len
 refine b6 axN rfl ?_;refine .mk (Nat×List Int) [0,1,13,14,15] (λ(k,_)=>[.v (h9 b),.v (ab A n cap),.v (ab A n cap),.v (R n),.v (R k)]) (λ_=>[]) (λ(k,f) aa=>aa=st bn gt bq (dx ad f) f/\k<=n/\Good N ad f (T+k)/\nR N ad aE cI=(k+(nR N ad (aE.drop k) f).1,(nR N ad (aE.drop k) f).2)) (λ(k,_)=>n-k) (0,cI) (λ_=>rfl) ⟨rfl,cW _,cC,bd⟩ rfl rfl ?_;rintro⟨k,f⟩ e _ ⟨rfl,hk,x,h⟩;refine aY (λh1=>?_) (λh1=>?_);have bP:k<n:=I;have aC:aE.drop k=aE[k]::aE.drop (k+1):=mE I;obtain⟨g,uL⟩:=S.cg I;refine .m g uL (.hp (R aE[k]) (by rw[bz];exact(S.mono (d _ _)).one uL (r:=[R aE[k]]) aJ rfl) (.ah (.mk _ (afs w (dx ad f) f (qq _ _) hL aE[k]) ?_)));rintro _ _ ⟨rfl,rfl⟩;rw[aC,nR]at h;cases hm:xJ N ad (dx ad f) aE[k]with
 |false=>
  have M:may N ad f aE[k]=false:=hm;rw[M,aD bd]at h;refine .ah ⟨?_,?_⟩;rw[h];rfl
  grind
 |true=>
  have M:may N ad f aE[k]=true:=hm;rw[M,aP rfl]at h;obtain⟨u,hu,Q⟩:=aft M;have dP:=x.bump D (v:=u) aJ;rw[hu]at h⊢;rw[bz]at h;have C:∀(i:Nat)(a:i<ad.length),0<=ob f ad[i]/\ob f ad[i]<=256+64*((T+k:Nat):Int)/\1<=ad[i].take/\ad[i].take<=64/\1<=ad[i].fH/\ad[i].fH<=64:=λi a=>by
   have hm:=cG a;have aj:=rT ((lT D).2.2.2 _ hm);exact⟨x.tok _ hm,x.aiY D hm,I,I,I,I⟩
  refine .ah (.mk _ (afZ w (d _ _) u Q) ?_);rintro _ _ ⟨⟨dL,c2,rfl,sr⟩,rfl⟩;have sz:=auf ad u;have rH:=aAY ad u;rw[<-aEM ad f (p:=lZ (ins ad u) 0) (q:=λ_=>false) (adw _) (λ_=>rfl)];refine .mk Nat [0,1,6,13,14,15,29,30,31] (λo=>[.v (h9 b),.v (ab A n cap),.v (R u),.v (ab A n cap),.v (R n),.v (R k),.v (ab dL (ins ad u).length c2),.v (R (ins ad u).length),.v (R o)]) (λ_=>[]) (λo aa=>aa=st bn gt bq (k0 ad f (lZ (ins ad u) o) (λ_=>false)) f/\o<=(ins ad u).length) (λo=>(ins ad u).length-o) 0 (λ_=>rfl) ⟨rfl,cW _⟩ rfl rfl ?_;rintro o aQ _ ⟨rfl,ag⟩;refine aY (λae=>?_) (λae=>?_);have c:o<(ins ad u).length:=I;have a:=TK (cG c);have j:=adt (aAe ad u) c;have B:=adv c;have F:=adu c;have K:=ado c;generalize(ins ad u)[o]=i at a j B F K;obtain⟨g2,G⟩:=sr.cg I;obtain⟨H,L⟩:=a'.dV.cg I;obtain⟨bI,cu,hd,lr,lQ,qC⟩:=C i a;have s:=wC (cI:=f) (p:=lZ (ins ad u) o) (q:=λ_=>false) a;rw[j]at s;simp only[ug,mm,Int.sub_zero,akB]at s;have E:i<(k0 ad f (lZ (ins ad u) o) (λ_=>false)).length:=aJ;refine .m g2 G ?_;refine .hp (R i) (by rw[bz];exact(sr.mono (d _ _)).one G K rfl) ?_;refine .hp _ (J.la (d _ _) (bV a'.head (o:=3) rfl)) ?_;refine .r ?_;refine .hp (R (ob f ad[i])) (by rw[bz,<-s];exact OG (P _ _) E) ?_;refine .hp _ (J.la (d _ _) (bV a'.head (o:=0) rfl)) ?_;refine .m H L ?_;refine .hp (R ad[i].take) (by rw[bz,vH];exact(a'.dV.mono (d _ _)).cell H L i _ (iP a) 3 _ rfl) ?_;refine .bg ?_;refine .r ?_;refine .hp gt (0+i*1) 3 _ _ (by rw[add_lit,bz]) (P _ _) (HA E _) ?_;rw[aiq a'.ne];have W:=aEL (cI:=f) (p:=lZ (ins ad u) o) (l0:=lZ (ins ad u) (o+1)) (q:=λ_=>false) a j B F;rw[s]at W;rw[W];refine .bg ?_;exact⟨o+1,rfl,rfl,⟨rfl,c⟩,I⟩;have Np:o=(ins ad u).length:=I;subst Np;rw[aiX (l0:=λi=>decide (i∈ins ad u)) (fg:=lZ (outs ad u) 0) (ads _) (λi=>(adw _ i).symm)];refine .ah (.mk _ (apN w (d _ _) u Q) ?_);rintro _ _ ⟨⟨lJ,eW,rfl,Z⟩,rfl⟩;refine .mk Nat [0,1,6,13,14,15,58,59,60] (λo=>[.v (h9 b),.v (ab A n cap),.v (R u),.v (ab A n cap),.v (R n),.v (R k),.v (ab lJ (outs ad u).length eW),.v (R (outs ad u).length),.v (R o)]) (λ_=>[]) (λo aa=>aa=st bn gt bq (k0 ad f (λi=>decide (i∈ins ad u)) (lZ (outs ad u) o)) f/\o<=(outs ad u).length) (λo=>(outs ad u).length-o) 0 (λ_=>rfl) ⟨rfl,cW _⟩ rfl rfl ?_;rintro o aQ _ ⟨rfl,ag⟩;refine aY (λae=>?_) (λae=>?_);have c:o<(outs ad u).length:=I;have a:=aAZ (cG c);have j:=adt (aAf ad u) c;have B:=adv c;have F:=adu c;have K:=ado c;generalize(outs ad u)[o]=i at a j B F K;obtain⟨g2,G⟩:=Z.cg I;obtain⟨H,L⟩:=a'.dV.cg I;obtain⟨bI,cu,hd,lr,lQ,qC⟩:=C i a;have s:=wC (cI:=f) (p:=λi=>decide (i∈ins ad u)) (q:=lZ (outs ad u) o) a;rw[j]at s;simp only[ug,mm,akB]at s;have E:i<(k0 ad f (λi=>decide (i∈ins ad u)) (lZ (outs ad u) o)).length:=aJ;have U: -64<=(k0 ad f (λi=>decide (i∈ins ad u)) (lZ (outs ad u) o))[i]/\(k0 ad f (λi=>decide (i∈ins ad u)) (lZ (outs ad u) o))[i]<=256+64*((T+k:Nat):Int):=by
   omega
  have M5:=aEJ (cI:=f) (p:=λi=>decide (i∈ins ad u)) (q:=lZ (outs ad u) o) (fg:=lZ (outs ad u) (o+1)) a j B F;have pC:=OG (P (k0 ad f (λi=>decide (i∈ins ad u)) (lZ (outs ad u) o)) f) E;generalize(k0 ad f (λi=>decide (i∈ins ad u)) (lZ (outs ad u) o))[i]=y at U M5 pC;refine .m g2 G ?_;refine .hp (R i) (by rw[bz];exact(Z.mono (d _ _)).one G K rfl) ?_;refine .hp _ (J.la (d _ _) (bV a'.head (o:=3) rfl)) ?_;refine .r ?_;refine .hp (R y) (by rw[bz];exact pC) ?_;refine .hp _ (J.la (d _ _) (bV a'.head (o:=0) rfl)) ?_;refine .m H L ?_;refine .hp (R ad[i].fH) (by rw[bz,vH];exact(a'.dV.mono (d _ _)).cell H L i _ (iP a) 2 _ rfl) ?_;refine .bg ?_;refine .r ?_;refine .hp gt (0+i*1) 3 _ _ (by rw[add_lit,bz]) (P _ _) (HA E _) ?_;rw[aiq a'.ne,M5];refine .bg ?_;exact⟨o+1,rfl,rfl,⟨rfl,c⟩,I⟩;have V:o=(outs ad u).length:=I;subst V;rw[aiX (fg:=λi=>decide (i∈outs ad u)) (λ_=>rfl) (ads _),aEK D x.len Q];have X:u<f.length:=by grind [x.len]
  have Tw:=x.at u;have Nk:f.getD u 0=f[u]:=aJ;rw[Nk]at Tw;refine .hp _ (J.la (d _ _) (bV a'.head (o:=4) rfl)) (.r (.hp (R f[u]) (by rw[bz];exact OG (Y _ _) X) (.bg (.r (.hp bq (0+u*1) 3 _ _ (by rw[add_lit,bz]) (Y _ _) (HA X _) ?_)))));rw[show∀l:List Int,bb (l.map R).toArray 3 (0,0)=hh l fromλ_=>rfl,aDG,show f.set u (f[u]+1)=bump f u by rw[bump,Nk]];refine .bg (⟨(k+1,bump f u),rfl,rfl,⟨rfl,bP,dP,?_⟩,aJ⟩)
  grind
 rw[rm I]at h;refine .ah ⟨?_,?_⟩;rw[h]
 grind [kH,nR,R]
 simp[h,nR]
structure pW(al h:J)(S:Nat->Prop)(cT:Nat->Option aI×Nat)(cZ:Nat->List Nat):Prop where
 le:al.le h
 row:∀v,S v->bJ h 3 1 (cT v).1 (cZ v).length (cT v).2 ((o6 (cZ v)).flatten)
 new:∀v,S v->∀g,(cT v).1=some g->al g.block=none
 MB:∀v,S v->∀u,S u->v≠u->∀g cf,(cT v).1=some g->(cT u).1=some cf->g.block≠cf.block
def k1{α:Type}(cT:Nat->α)(v:Nat)(x:α):Nat->α:=λu=>if u=v then x else cT u
theorem bJ.mem(x:bJ h bK size A n cap xs){g:aI}(a:A=some g):h g.block≠none:=by
 rcases x.2 with⟨h1,_⟩|⟨b,c,h1,ae,_⟩
 grind
 grind
theorem bJ.mono(x:bJ h bK size A n cap xs)(e:h.le aa):bJ aa bK size A n cap xs:=by
 obtain⟨h1,ae⟩:=x;refine⟨h1,?_⟩;rcases ae with ae|⟨b,d,c,a,f⟩
 grind
 exact bl ⟨b,d,c,e _ _ a,f⟩
theorem bJ.del{B:Option aI}(x:bJ h bK size A n cap xs)(e:∀g a,A=some g->B=some a->g.block≠a.block):bJ (eP h B) bK size A n cap xs:=by
 obtain⟨h1,ae⟩:=x;refine⟨h1,?_⟩;rcases ae with ae|⟨b,f,d,c,i⟩
 grind
 refine bl ⟨b,f,d,?_,i⟩;cases B with
 |none=>exact c
 |some a=>rw[eP,J.mJ _ (e _ a d rfl)];exact c
theorem Af{B:Option aI}(a:al.le h)(b:∀g,B=some g->al g.block=none):al.le (eP h B):=by
 cases B with
 |none=>exact a
 |some g=>
  intro o U e;rw[eP,J.mJ _ (λq=>aJ)];exact a o U e
theorem pW.del{al h:J}{S:Nat->Prop}{cT:Nat->Option aI×Nat}{cZ:Nat->List Nat}(f:pW al h S cT cZ){v:Nat}(a:S v):pW al (eP h (cT v).1) (λu=>S u/\u≠v) cT cZ:=⟨Af f.le (f.new v a),λu hu=>(f.row u hu.1).del λg b h1 ae=>f.MB u hu.1 v a hu.2 g b h1 ae,λu hu=>f.new u hu.1,λu hu w hw=>f.MB u hu.1 w hw.1⟩
theorem pW.add(f:pW al h S cT cZ){l:List Nat}(j:¬S v)(i:h.le aa)(m:bJ aa 3 1 A l.length cap (o6 l).flatten)(k:∀g,A=some g->h g.block=none):pW al aa (λu=>S u\/u=v) (k1 cT v (A,cap)) (k1 cZ v l):=by
 have n:∀u,S u->u≠v:=λu hu e=>j (e▸hu);have o:∀u,S u->∀g a,(cT u).1=some g->A=some a->g.block≠a.block:=λu hu g a h1 ae e=>by
  have:=(f.row u hu).mem h1
  grind
 refine⟨J.le_trans f.le i,λu hu=>?_,λu hu g b=>?_,λu hu w hw c g a h1 ae=>?_⟩;by_cases e:u=v
 grind [k1]
 simp only[k1,aD e];exact(f.row u (hu.resolve_right e)).mono i;by_cases e:u=v;subst e;simp only[k1,lY]at b;cases q:al g.block with
 |none=>rfl
 |some U=>have:=f.le _ _ q;grind
 simp only[k1,aD e]at b;exact f.new u (hu.resolve_right e) g b;by_cases e:u=v
 grind [k1]
 simp only[k1,aD e]at h1;by_cases d:w=v
 grind [k1]
 simp only[k1,aD d]at ae;exact f.MB u (hu.resolve_right e) w (hw.resolve_right d) c g a h1 ae
theorem pW.zero(h:J)(S:Nat->Prop):pW h h S (λ_=>(none,0)) (λ_=>[]):=⟨J.le_refl h,λ_ _=>⟨rfl,bW ⟨rfl,rfl,rfl⟩⟩,(λ_ _ g e=>by cases e),(λ_ _ _ _ _ g a e=>by cases e)⟩
theorem pW.same{b:Nat->Prop}(f:pW al h S cT cZ)(dr:∀v,b v->S v):pW al h b cT cZ:=⟨f.le,λv a=>f.row v (dr v a),λv a=>f.new v (dr v a),λv a u hu=>f.MB v (dr v a) u (dr u hu)⟩
def part(ad:List bT)(N k v:Nat):List Nat:=if v<N then(fL k).filter (λi=>decide ((ad[i]?).map bT.dst=some (v:Int)))else(fL k).filter (λi=>decide ((ad[i]?).map bT.src=some ((v-N:Nat):Int)))
theorem agR(a:v<N):part ad N ad.length v=ins ad v:=by rw[part,aP a];rfl
theorem agS:part ad N ad.length (N+v)=outs ad v:=by
 rw[part,aD I,Dq];rfl
theorem agT ad N v:part ad N 0 v=[]:=by simp[part]
theorem aBb{k d s:Nat} hk(b:ad[k].dst=d)(c:ad[k].src=s)(a:d<N) v:part ad N (k+1) v=k1 (k1 (part ad N k) d (part ad N k d++[k])) (N+s) (part ad N k (N+s)++[k]) v:=by
 have e:ad[k]?=some ad[k]:=bZ hk;simp only[k1];by_cases h1:v=N+s;subst h1;rw[aP rfl];simp only[part,aD (show¬N+s<N by omega),Dq,Bz,Qm]
 grind
 rw[aD h1];by_cases ae:v=d;subst ae;rw[aP rfl];simp only[part,aP a,Bz,Qm]
 grind
 rw[aD ae];unfold part;split;rw[Bz,Qm]
 grind
 rw[Bz,Qm]
 grind
theorem xj:∀(l:List Int),(l.map λz=>[R z]).flatten=l.map R
 |[]=>rfl
 |x::l=>by rw[ec,oR,xj l];rfl
theorem KE(l:List Int):∀u∈l.map R,u.oneCell'=true:=by
 intro u hu;obtain⟨z,_,rfl⟩:=cU.1 hu;rfl
theorem WF{g:Nat}(a:h g=some (hh l)):bf h 1 (some ⟨g,0,none⟩) l.length (l.map λz=>[R z]):=bf.lit a (xj l) (TN l) bd
def ot(N:Nat)(cT:Nat->Option aI×Nat)(cZ:Nat->List Nat)(off:Nat):List ax:=(fL N).map λv=>ab (cT (off+v)).1 (cZ (off+v)).length (cT (off+v)).2
def C8(N n a:Nat)(ad:List bT)(b:Option aI)(c go:aI)(k:Nat)(cT:Nat->Option aI×Nat):List LE:=
 [.own [.v (ab none 0 0),.v (ab none 0 0),.v (ab none 0 0)] 268,.own [.v (ab b n a),.v (ab (some c) N N),.v (ab (some go) N N)] 268,.row 157 5 b n a (ad.map bT.cells).flatten,
  .row 27 1 (some c) N N (ot N cT (part ad N k) 0),.row 27 1 (some go) N N (ot N cT (part ad N k) N)]
theorem aaS{a:Nat->Option aI×Nat}{b:Nat->List Nat}{off d:Nat}(h:∀v,v<N->v≠d->a (off+v)=cT (off+v)/\b (off+v)=cZ (off+v)):ot N a b off=(ot N cT cZ off).set d (ab (a (off+d)).1 (b (off+d)).length (a (off+d)).2):=by
 apply um;simp[ot];intro v h1 ae;have g:v<N:=by grind [ot]
 rw[wQ];split
 grind [ot]
 rename_i e;obtain⟨f,c⟩:=h v g (d' e);simp[ot,f,c]
def W1(N n a:Nat)(ad:List bT)(b:Option aI)(c go:aI):List LE:=
 [.own [.v (ab none 0 0),.v (ab none 0 0),.v (ab none 0 0)] 268,.own [.v (ab b n a),.v (ab (some c) N N),.v (ab (some go) N N)] 268,.row 157 5 b n a (ad.map bT.cells).flatten,
  .row 27 1 (some c) N N (bh N (ab none 0 0)),.row 27 1 (some go) N N (bh N (ab none 0 0))]
theorem aaT(N:Nat)(ad:List bT)(off:Nat):ot N (λ_=>(none,0)) (part ad N 0) off=bh N (ab none 0 0):=by
 apply um;simp[ot];intro v h1 ae;simp[ot,agT]
theorem aFR(N n a:Nat)(ad:List bT)(b:Option aI)(c go:aI):C8 N n a ad b c go 0 (λ_=>(none,0))=W1 N n a ad b c go:=by
 rw[C8,aaT,aaT];rfl
theorem aFQ Q(e:cy) L h perm(N n i:Nat) ad o c go(G:e' N ad=0)(aA:ad.length=n)(aT:n≠0->∃g,o=some g)(he:[2,3,18,19,20].map e=([.p 0 0,.p 1 0,.v (ab o n i),.v (R n),.v (R (0:Nat))]:List aK).map (tY perm))(w:uC perm=true)(F:sR L perm=some ((W1 N n i ad o c go).map (pR perm)))(W:∀e cT aa,pW h aa (λv=>v<2*N) cT (part ad N n)->e 2= .p 0 0->e 3= .p 1 0->Q (.exit 0) e (C8 N n i ad o c go n cT) aa):vo (λQ e L h=>di aB 55 adH Q e L h) Q e L h:=by
 rw[<-aFR]at F;refine .mq perm (Nat×(Nat->Option aI×Nat)) [2,3,18,19,20] (λ(k,_)=>[.p 0 0,.p 1 0,.v (ab o n i),.v (R n),.v (R k)]) (λ(k,cT)=>C8 N n i ad o c go k cT) (λ(k,cT) aa=>pW h aa (λv=>v<2*N) cT (part ad N k)/\k<=n) (λ(k,_)=>n-k) (0,λ_=>(none,0)) (λ(_,_)=>rfl) ⟨?_,cW _⟩ he w F ?_;have:=pW.zero h (λv=>v<2*N);rw[show(λ_=>([]:List Nat))=part ad N 0 from funext λv=>(agT ad N v).symm]at this;omega;rintro⟨k,cT⟩ e aa ⟨u,hk⟩;by_cases K:k<n;have x:k<ad.length:=I;have aj:=rT ((lT G).2.2.2 _ (cG x));obtain⟨d,w⟩:∃d:Nat,ad[k].dst=d:=⟨ad[k].dst.toNat,I⟩;obtain⟨s,O⟩:∃s:Nat,ad[k].src=s:=⟨ad[k].src.toNat,I⟩;have E:d<N:=I;have z:s<N:=I;have t:=u.del (v:=d) I;have J:=t.del (v:=N+s) ⟨I,I⟩;refine .abs 3 1 (cT d).1 (part ad N k d).length (cT d).2 _ (u.row d I) (.abs 3 1 (cT (N+s)).1 (part ad N k (N+s)).length (cT (N+s)).2 _ (t.row (N+s) ⟨I,I⟩) (.ah ?_));obtain⟨g,rfl⟩:=aT I;refine aY (λh1=>?_) (λh1=>I);refine .m g rfl ?_;refine .row 2 157 5 g n i _ (k*5) ad[k].cells rfl dC rfl (λq v j=>DS _ (YO _) k q _ v (iP x) j) ?_;refine .m c rfl ?_;have D:∀(off v:Nat),v<N->(ot N cT (part ad N k) off)[v]?=some (ab (cT (off+v)).1 (part ad N k (off+v)).length (cT (off+v)).2):=λoff v j=>by simp[ot,j]
 refine .row 3 27 1 c N N _ (d*1) _ rfl aJ (by rw[eV,D 0 d E]) ?_;rw[dM];have xu:=(lT G).2.2.1;have H:∀v,(part ad N k v).length<=k:=λv=>by
  unfold part
  grind
 have P:=H d;have S:=H (N+s);refine .c3 5 _ _ rfl rfl (KE [(k:Int)]) (by grind [eD]) I λa c2 _=>?_;refine .m c rfl ?_;have tt:∀off,(ot N cT (part ad N k) off).length=N:=λoff=>by simp[ot]
 refine .row 3 27 1 c N N _ _ d rfl aJ (ih _ _ _ aJ) ?_;refine .m go rfl ?_;refine .row 4 27 1 go N N _ (s*1) _ rfl aJ (by rw[eV,D N s z]) ?_;refine .c3 6 _ _ rfl rfl (KE [(k:Int)]) (by grind [eD]) I λf b _=>?_;refine .m go rfl ?_;refine .row 4 27 1 go N N _ _ s rfl aJ (ih _ _ _ aJ) ?_;refine .bg ?_;have y:∀v,((o6 (part ad N k v)).flatten++[R (k:Int)])=(o6 (part ad N k v++[k])).flatten:=λv=>by simp[o6]
 refine .b4 5 3 1 a ((part ad N k d).length+1) c2 _ rfl λvW X B Y=>.b4 6 3 1 f ((part ad N k (N+s)).length+1) b _ rfl λM xr C Z=>.ah ?_;have B:bJ vW 3 1 a ((part ad N k d).length+1) c2 ((o6 (part ad N k d)).flatten++[R (k:Int)]):=B;have C:bJ M 3 1 f ((part ad N k (N+s)).length+1) b ((o6 (part ad N k (N+s))).flatten++[R (k:Int)]):=C;rw[y]at B C;have r:part ad N (k+1)=k1 (k1 (part ad N k) d (part ad N k d++[k])) (N+s) (part ad N k (N+s)++[k]):=funext (aBb x w O E);have g1:=J.add (v:=d) (cap:=c2) (A:=a) (l:=part ad N k d++[k]) I X aJ Y;have g2:=g1.add (v:=N+s) (cap:=b) (A:=f) (l:=part ad N k (N+s)++[k]) I xr aJ Z;rw[<-r]at g2;refine⟨(k+1,k1 (k1 cT d (a,c2)) (N+s) (f,b)),rfl,?_,⟨g2.same λv j=>I,K⟩,aJ⟩;have U:ot N (k1 (k1 cT d (a,c2)) (N+s) (f,b)) (part ad N (k+1)) 0=(ot N cT (part ad N k) 0).set d (ab a ((part ad N k d).length+1) c2):=by
  rw[aaS (cT:=cT) (cZ:=part ad N k) (d:=d) (λv j V=>⟨by grind [k1],by rw[r];grind [k1]⟩)];rw[r]
  grind [k1]
 have T:ot N (k1 (k1 cT d (a,c2)) (N+s) (f,b)) (part ad N (k+1)) N=(ot N cT (part ad N k) N).set s (ab f ((part ad N k (N+s)).length+1) b):=by
  rw[aaS (cT:=cT) (cZ:=part ad N k) (d:=s) (λv j V=>⟨by grind [k1],by rw[r];grind [k1]⟩)];simp[r,k1]
 show _=C8 N n i ad (some g) c go (k+1) (k1 (k1 cT d (a,c2)) (N+s) (f,b));rw[C8,U,T];rfl;have:k=n:=I;subst this;refine .ah (aY (λh1=>?_) (λh1=>?_));omega;exact W _ cT aa u rfl rfl
def Ys(aa:J)(N:Nat)(ad:List bT)(r:ax):Prop:=
 ∃b c d e ci co a O,r= .agg #[ab b ad.length e,ab c N ci,ab d N co]/\bf aa 5 b ad.length (ad.map bT.cells)/\bf aa 1 c N (xQ N (λv=>(ins ad v).length) a)/\
  bf aa 1 d N (xQ N (λv=>(outs ad v).length) O)/\(∀v,v<N->bf aa 1 (a v).1 (ins ad v).length (o6 (ins ad v)))/\∀v,v<N->bf aa 1 (O v).1 (outs ad v).length (o6 (outs ad v))
theorem apG N ad cT:ot N cT (part ad N ad.length) 0=(xQ N (λv=>(ins ad v).length) cT).flatten:=by
 have:∀l:List Nat,(∀v∈l,v<N)->l.map (λv=>ab (cT (0+v)).1 (part ad N ad.length (0+v)).length (cT (0+v)).2)=(l.map λv=>[ab (cT v).1 (ins ad v).length (cT v).2]).flatten:=by
  intro l;induction l with
  |nil=>simp
  |cons x l b=>
   intro ak;rw[ec,ec,oR,b λv a=>ak v (gX _ a),dM,agR (ak x (hU ..))];rfl
 exact this _ λv a=>uo.1 a
theorem apH N ad cT:ot N cT (part ad N ad.length) N=(xQ N (λv=>(outs ad v).length) λv=>cT (N+v)).flatten:=by
 have:∀l:List Nat,l.map (λv=>ab (cT (N+v)).1 (part ad N ad.length (N+v)).length (cT (N+v)).2)=(l.map λv=>[ab (cT (N+v)).1 (outs ad v).length (cT (N+v)).2]).flatten:=by
  intro l;induction l with
  |nil=>rfl
  |cons x l a=>rw[ec,ec,oR,a,agS];rfl
 exact this _
theorem aie N len b:∀r∈xQ N len b,r.length=1:=by
 intro r a;obtain⟨v,_,rfl⟩:=cU.1 a;rfl
theorem aud l:∀r∈o6 l,r.length=1:=by
 intro r a;obtain⟨v,_,rfl⟩:=cU.1 a;rfl
theorem pW.dV{al h aa:J}{S:Nat->Prop}{cT:Nat->Option aI×Nat}{cZ:Nat->List Nat}(f:pW al h S cT cZ)(x:h.le aa){v:Nat}(a:S v):bf aa 1 (cT v).1 (cZ v).length (o6 (cZ v)):=((f.row v a).mono x).dV (aud _) aM
theorem gr{e:cy}{d:Nat}{f:Option aI}{g go:aI}(u:ad.length=n)(c:pW h aa (λv=>v<2*N) cT (part ad N n))(ae:e 2= .p 0 0)(m:e 3= .p 1 0):di aB 55 ((IR.cd aum).seq IR.ret) (vf aB NV.fn.results.toList λr aa=>h.le aa/\Ys aa N ad r) e (C8 N n d ad f g go n cT) aa:=by
 subst u;have he:e=ji (ji e 3 (.p 1 0)) 2 (.p 0 0):=by
  funext t;unfold ji;by_cases q:t=2;simp_all;by_cases j:t=3;subst j;exact m;rw[show hW t 2=false from FG.2 λk=>q (qA k),show hW t 3=false from FG.2 λk=>j (qA k)];rfl
 rw[he];refine .b4 2 157 5 f ad.length d _ rfl λh1 x w _=>.b4 3 27 1 (some g) N N _ rfl λae y o _=>.b4 4 27 1 (some go) N N _ rfl λm i s _=>.ah ?_;rw[apG]at o;rw[apH]at s;have a:=J.le_trans y i;have b:=J.le_trans x a;refine⟨J.le_trans c.le b,f,some g,some go,d,N,N,cT,λv=>cT (N+v),rfl,(w.mono a).dV (YO _) aM,(o.mono i).dV (aie _ _ _) aM,s.dV (aie _ _ _) aM,λv l=>?_,λv l=>?_⟩;have:=c.dV b (v:=v) I;rwa[agR l]at this;have:=c.dV b (v:=N+v) I;rwa[agS]at this
theorem Wq(h:A=none↔some (⟨b,0,none⟩:aI)=none/\n=0):∃g,A=some g:=by
 cases A with
 |none=>grind
 |some g=>simp
theorem gu{Q:k7}{e:cy}{L:List LE}(perm:List Nat){a m:Nat}(A:Option aI)(c go:aI)(i:e' N ad=0)(d:ad.length=n)(aT:A=none↔some (⟨b,0,none⟩:aI)=none/\m=0)(j:∀e cT aa,pW h aa (λv=>v<2*N) cT (part ad N n)->e 2= .p 0 0->e 3= .p 1 0->Q (.exit 0) e (C8 N n a ad A c go n cT) aa)(he:[2,3,18,19,20].map e=([.p 0 0,.p 1 0,.v (ab A n a),.v (R n),.v (R (0:Nat))]:List aK).map (tY perm):=by rfl)(f:uC perm=true:=by rfl)(g:sR L perm=some ((W1 N n a ad A c go).map (pR perm)):=by rfl):vo (λQ e L h=>di aB 55 adH Q e L h) Q e L h:=aFQ _ _ _ _ perm N n a ad A c go i d (λ_=>Wq aT) he f g j
set_option maxHeartbeats 4000000 in
theorem Lo(N n i:Nat)(ad:List bT)(A:Option aI)(h:J)(d:e' N ad=0)(e:bf h 5 A n (ad.map bT.cells))(j:n*40<=140737488355328):Fn aB 113 #[mW N A n i] h λr aa=>h.le aa/\Ys aa N ad r:=by
 have l:=(lT d).2.1;have m:ad.length=n:=by simpa using e.len
 have ak:ad.length=0+n:=I;have hm:0+n<=eD:=by grind [eD]
 have f:(0+n)*40<=140737488355328:=I;have M {K} (k:∀g,K N N g (bh N (ab none 0 0))):oP 1 24 [ab none 0 0] N N K:=.one N _ rfl rfl rfl rfl I I k;refine b6 NV rfl (fE ?_ ?_);refine fE ?_ ?_;refine⟨λ_ _=>.c3 3 _ _ rfl (e.src _) (hB ad) hm f λA c aT=>fE ?_ ?_⟩;refine M λa=>fE ?_ ?_;exact M λb=>gu [1,6,3,4,5] A a b d ak aT.1 λ_ _ _=>gr ak;exact M λb=>gu [1,5,3,4,6] A a b d ak aT.1 λ_ _ _=>gr ak;refine fE ?_ ?_;refine M λb=>fE ?_ ?_;exact M λa=>gu [1,6,3,5,4] A a b d ak aT.1 λ_ _ _=>gr ak;exact M λa=>gu [1,5,3,6,4] A a b d ak aT.1 λ_ _ _=>gr ak;refine fE ?_ ?_;exact M λa=>M λb=>gu [1,4,3,5,6] A a b d ak aT.1 λ_ _ _=>gr ak;exact M λb=>M λa=>gu [1,4,3,6,5] A a b d ak aT.1 λ_ _ _=>gr ak;refine fE ?_ ?_;refine M λa=>fE ?_ ?_;refine⟨λ_ _=>.c3 4 _ _ rfl (e.src _) (hB ad) hm f λA c aT=>fE ?_ ?_⟩;exact M λb=>gu [1,6,4,3,5] A a b d ak aT.1 λ_ _ _=>gr ak;exact M λb=>gu [1,5,4,3,6] A a b d ak aT.1 λ_ _ _=>gr ak;refine fE ?_ ?_;refine M λb=>fE ?_ ?_;exact⟨λ_ _=>.c3 5 _ _ rfl (e.src _) (hB ad) hm f λA c aT=>gu [1,6,5,3,4] A a b d ak aT.1 λ_ _ _=>gr ak⟩;exact⟨λ_ _=>.c3 6 _ _ rfl (e.src _) (hB ad) hm f λA c aT=>gu [1,5,6,3,4] A a b d ak aT.1 λ_ _ _=>gr ak⟩;refine fE ?_ ?_;exact⟨λ_ _=>.c3 5 _ _ rfl (e.src _) (hB ad) hm f λA c aT=>M λb=>gu [1,4,5,3,6] A a b d ak aT.1 λ_ _ _=>gr ak⟩;exact M λb=>⟨λ_ _=>.c3 6 _ _ rfl (e.src _) (hB ad) hm f λA c aT=>gu [1,4,6,3,5] A a b d ak aT.1 λ_ _ _=>gr ak⟩;refine fE ?_ ?_;refine M λb=>fE ?_ ?_;refine⟨λ_ _=>.c3 4 _ _ rfl (e.src _) (hB ad) hm f λA c aT=>fE ?_ ?_⟩;exact M λa=>gu [1,6,4,5,3] A a b d ak aT.1 λ_ _ _=>gr ak;exact M λa=>gu [1,5,4,6,3] A a b d ak aT.1 λ_ _ _=>gr ak;refine fE ?_ ?_;refine M λa=>fE ?_ ?_;exact⟨λ_ _=>.c3 5 _ _ rfl (e.src _) (hB ad) hm f λA c aT=>gu [1,6,5,4,3] A a b d ak aT.1 λ_ _ _=>gr ak⟩;exact⟨λ_ _=>.c3 6 _ _ rfl (e.src _) (hB ad) hm f λA c aT=>gu [1,5,6,4,3] A a b d ak aT.1 λ_ _ _=>gr ak⟩;refine fE ?_ ?_;exact⟨λ_ _=>.c3 5 _ _ rfl (e.src _) (hB ad) hm f λA c aT=>M λa=>gu [1,4,5,6,3] A a b d ak aT.1 λ_ _ _=>gr ak⟩;exact M λa=>⟨λ_ _=>.c3 6 _ _ rfl (e.src _) (hB ad) hm f λA c aT=>gu [1,4,6,5,3] A a b d ak aT.1 λ_ _ _=>gr ak⟩;refine fE ?_ ?_;refine⟨λ_ _=>.c3 4 _ _ rfl (e.src _) (hB ad) hm f λA c aT=>fE ?_ ?_⟩;exact M λa=>M λb=>gu [1,3,4,5,6] A a b d ak aT.1 λ_ _ _=>gr ak;exact M λb=>M λa=>gu [1,3,4,6,5] A a b d ak aT.1 λ_ _ _=>gr ak;refine fE ?_ ?_;refine M λa=>fE ?_ ?_;exact⟨λ_ _=>.c3 5 _ _ rfl (e.src _) (hB ad) hm f λA c aT=>M λb=>gu [1,3,5,4,6] A a b d ak aT.1 λ_ _ _=>gr ak⟩;exact M λb=>⟨λ_ _=>.c3 6 _ _ rfl (e.src _) (hB ad) hm f λA c aT=>gu [1,3,6,4,5] A a b d ak aT.1 λ_ _ _=>gr ak⟩;refine M λb=>fE ?_ ?_;exact⟨λ_ _=>.c3 5 _ _ rfl (e.src _) (hB ad) hm f λA c aT=>M λa=>gu [1,3,5,6,4] A a b d ak aT.1 λ_ _ _=>gr ak⟩;exact M λa=>⟨λ_ _=>.c3 6 _ _ rfl (e.src _) (hB ad) hm f λA c aT=>gu [1,3,6,5,4] A a b d ak aT.1 λ_ _ _=>gr ak⟩;refine fE ?_ ?_;refine M λa=>fE ?_ ?_;refine fE ?_ ?_;refine⟨λ_ _=>.c3 4 _ _ rfl (e.src _) (hB ad) hm f λA c aT=>fE ?_ ?_⟩;exact M λb=>gu [1,6,4,2,5] A a b d ak aT.1 λ_ _ _=>gr ak;exact M λb=>gu [1,5,4,2,6] A a b d ak aT.1 λ_ _ _=>gr ak;refine fE ?_ ?_;refine M λb=>fE ?_ ?_;exact⟨λ_ _=>.c3 5 _ _ rfl (e.src _) (hB ad) hm f λA c aT=>gu [1,6,5,2,4] A a b d ak aT.1 λ_ _ _=>gr ak⟩;exact⟨λ_ _=>.c3 6 _ _ rfl (e.src _) (hB ad) hm f λA c aT=>gu [1,5,6,2,4] A a b d ak aT.1 λ_ _ _=>gr ak⟩;refine fE ?_ ?_;exact⟨λ_ _=>.c3 5 _ _ rfl (e.src _) (hB ad) hm f λA c aT=>M λb=>gu [1,4,5,2,6] A a b d ak aT.1 λ_ _ _=>gr ak⟩;exact M λb=>⟨λ_ _=>.c3 6 _ _ rfl (e.src _) (hB ad) hm f λA c aT=>gu [1,4,6,2,5] A a b d ak aT.1 λ_ _ _=>gr ak⟩;refine fE ?_ ?_;refine M λb=>fE ?_ ?_;refine fE ?_ ?_;exact⟨λ_ _=>.c3 5 _ _ rfl (e.src _) (hB ad) hm f λA c aT=>gu [1,6,5,2,3] A a b d ak aT.1 λ_ _ _=>gr ak⟩;exact⟨λ_ _=>.c3 6 _ _ rfl (e.src _) (hB ad) hm f λA c aT=>gu [1,5,6,2,3] A a b d ak aT.1 λ_ _ _=>gr ak⟩;exact⟨λ_ _=>.c3 6 _ _ rfl (e.src _) (hB ad) hm f λA c aT=>gu [1,4,6,2,3] A a b d ak aT.1 λ_ _ _=>gr ak⟩;refine fE ?_ ?_;refine fE ?_ ?_;exact⟨λ_ _=>.c3 5 _ _ rfl (e.src _) (hB ad) hm f λA c aT=>M λb=>gu [1,3,5,2,6] A a b d ak aT.1 λ_ _ _=>gr ak⟩;exact M λb=>⟨λ_ _=>.c3 6 _ _ rfl (e.src _) (hB ad) hm f λA c aT=>gu [1,3,6,2,5] A a b d ak aT.1 λ_ _ _=>gr ak⟩;exact M λb=>⟨λ_ _=>.c3 6 _ _ rfl (e.src _) (hB ad) hm f λA c aT=>gu [1,3,6,2,4] A a b d ak aT.1 λ_ _ _=>gr ak⟩;refine fE ?_ ?_;refine M λb=>fE ?_ ?_;refine fE ?_ ?_;refine⟨λ_ _=>.c3 4 _ _ rfl (e.src _) (hB ad) hm f λA c aT=>fE ?_ ?_⟩;exact M λa=>gu [1,6,4,5,2] A a b d ak aT.1 λ_ _ _=>gr ak;exact M λa=>gu [1,5,4,6,2] A a b d ak aT.1 λ_ _ _=>gr ak;refine fE ?_ ?_;refine M λa=>fE ?_ ?_;exact⟨λ_ _=>.c3 5 _ _ rfl (e.src _) (hB ad) hm f λA c aT=>gu [1,6,5,4,2] A a b d ak aT.1 λ_ _ _=>gr ak⟩;exact⟨λ_ _=>.c3 6 _ _ rfl (e.src _) (hB ad) hm f λA c aT=>gu [1,5,6,4,2] A a b d ak aT.1 λ_ _ _=>gr ak⟩;refine fE ?_ ?_;exact⟨λ_ _=>.c3 5 _ _ rfl (e.src _) (hB ad) hm f λA c aT=>M λa=>gu [1,4,5,6,2] A a b d ak aT.1 λ_ _ _=>gr ak⟩;exact M λa=>⟨λ_ _=>.c3 6 _ _ rfl (e.src _) (hB ad) hm f λA c aT=>gu [1,4,6,5,2] A a b d ak aT.1 λ_ _ _=>gr ak⟩;refine fE ?_ ?_;refine M λa=>fE ?_ ?_;refine fE ?_ ?_;exact⟨λ_ _=>.c3 5 _ _ rfl (e.src _) (hB ad) hm f λA c aT=>gu [1,6,5,3,2] A a b d ak aT.1 λ_ _ _=>gr ak⟩;exact⟨λ_ _=>.c3 6 _ _ rfl (e.src _) (hB ad) hm f λA c aT=>gu [1,5,6,3,2] A a b d ak aT.1 λ_ _ _=>gr ak⟩;exact⟨λ_ _=>.c3 6 _ _ rfl (e.src _) (hB ad) hm f λA c aT=>gu [1,4,6,3,2] A a b d ak aT.1 λ_ _ _=>gr ak⟩;refine fE ?_ ?_;refine fE ?_ ?_;exact⟨λ_ _=>.c3 5 _ _ rfl (e.src _) (hB ad) hm f λA c aT=>M λa=>gu [1,3,5,6,2] A a b d ak aT.1 λ_ _ _=>gr ak⟩;exact M λa=>⟨λ_ _=>.c3 6 _ _ rfl (e.src _) (hB ad) hm f λA c aT=>gu [1,3,6,5,2] A a b d ak aT.1 λ_ _ _=>gr ak⟩;exact M λa=>⟨λ_ _=>.c3 6 _ _ rfl (e.src _) (hB ad) hm f λA c aT=>gu [1,3,6,4,2] A a b d ak aT.1 λ_ _ _=>gr ak⟩;refine fE ?_ ?_;refine fE ?_ ?_;refine⟨λ_ _=>.c3 4 _ _ rfl (e.src _) (hB ad) hm f λA c aT=>fE ?_ ?_⟩;exact M λa=>M λb=>gu [1,2,4,5,6] A a b d ak aT.1 λ_ _ _=>gr ak;exact M λb=>M λa=>gu [1,2,4,6,5] A a b d ak aT.1 λ_ _ _=>gr ak;refine fE ?_ ?_;refine M λa=>fE ?_ ?_;exact⟨λ_ _=>.c3 5 _ _ rfl (e.src _) (hB ad) hm f λA c aT=>M λb=>gu [1,2,5,4,6] A a b d ak aT.1 λ_ _ _=>gr ak⟩;exact M λb=>⟨λ_ _=>.c3 6 _ _ rfl (e.src _) (hB ad) hm f λA c aT=>gu [1,2,6,4,5] A a b d ak aT.1 λ_ _ _=>gr ak⟩;refine M λb=>fE ?_ ?_;exact⟨λ_ _=>.c3 5 _ _ rfl (e.src _) (hB ad) hm f λA c aT=>M λa=>gu [1,2,5,6,4] A a b d ak aT.1 λ_ _ _=>gr ak⟩;exact M λa=>⟨λ_ _=>.c3 6 _ _ rfl (e.src _) (hB ad) hm f λA c aT=>gu [1,2,6,5,4] A a b d ak aT.1 λ_ _ _=>gr ak⟩;refine fE ?_ ?_;refine M λa=>fE ?_ ?_;refine fE ?_ ?_;exact⟨λ_ _=>.c3 5 _ _ rfl (e.src _) (hB ad) hm f λA c aT=>M λb=>gu [1,2,5,3,6] A a b d ak aT.1 λ_ _ _=>gr ak⟩;exact M λb=>⟨λ_ _=>.c3 6 _ _ rfl (e.src _) (hB ad) hm f λA c aT=>gu [1,2,6,3,5] A a b d ak aT.1 λ_ _ _=>gr ak⟩;exact M λb=>⟨λ_ _=>.c3 6 _ _ rfl (e.src _) (hB ad) hm f λA c aT=>gu [1,2,6,3,4] A a b d ak aT.1 λ_ _ _=>gr ak⟩;refine M λb=>fE ?_ ?_;refine fE ?_ ?_;exact⟨λ_ _=>.c3 5 _ _ rfl (e.src _) (hB ad) hm f λA c aT=>M λa=>gu [1,2,5,6,3] A a b d ak aT.1 λ_ _ _=>gr ak⟩;exact M λa=>⟨λ_ _=>.c3 6 _ _ rfl (e.src _) (hB ad) hm f λA c aT=>gu [1,2,6,5,3] A a b d ak aT.1 λ_ _ _=>gr ak⟩;exact M λa=>⟨λ_ _=>.c3 6 _ _ rfl (e.src _) (hB ad) hm f λA c aT=>gu [1,2,6,4,3] A a b d ak aT.1 λ_ _ _=>gr ak⟩
def KB(w:List ax)(n N:Nat)(a b:aI)(dX:List Int):List LE:=[.own (w.map .v++[.v (ab (some a) n n),.v (ab (some b) N N)]) 271,.row 3 1 (some a) n n (dX.map R),.row 3 1 (some b) N N (bh N (R 0))]
def uZ(ad:List bT)(k:Nat):List Int:=(ad.take k).map bT.start++bh (ad.length-k) 0
theorem az9 ad:(uZ ad 0).map R=bh ad.length (R 0):=by simp[uZ]
theorem az7 ad k(hk:k<=ad.length):(uZ ad k).length=ad.length:=by grind [uZ]
theorem az8{k:Nat} hk:(uZ ad k).set k ad[k].start=uZ ad (k+1):=by
 unfold uZ;have h1:((ad.take k).map bT.start).length=k:=aJ;rw[uq _ _ I,h1,wU,show ad.length-k=(ad.length- (k+1))+1 by omega,List.replicate_succ,ale,kJ hk,fF,List.map_singleton,List.append_assoc];rfl
theorem az6 ad N:uZ ad ad.length=dx ad (bh N 0):=by
 have:∀i:Nat,(bh N (0:Int)).getD i 0=0:=λi=>by
  grind
 simp only[uZ,List.take_length,wU,List.replicate_zero,List.append_nil,dx];exact List.map_congr_left λa _=>by unfold ob;grind
theorem aDH(h1:h gt=some (hh t))(ae:h bq=some (hh f)):h=st ((h.del gt).del bq) gt bq t f:=by
 funext o;unfold st;by_cases a:o=bq;subst a;rw[J.b1];exact ae;rw[J.cB _ _ a];by_cases b:o=gt;subst b;rw[J.b1];exact h1;rw[J.cB _ _ b,J.mJ _ a,J.mJ _ b]
theorem bJ.full{g:aI}(x:bJ h 3 1 (some g) n n (l.map R)):∃b,g=⟨b,0,none⟩/\h b=some (hh l):=by
 rcases x.2 with⟨q,_⟩|⟨b,d,a,c,_,_,f,e⟩
 grind
 injection a with a;refine⟨b,a,?_⟩;have:d.toList=l.map R:=by
  rw[<-e,lN aJ]
 rw[c,hh,<-this]
def X6(h:J)(N:Nat)(ad:List bT)(r:ax)(aa:J):Prop:=∃bn b gt bq,r=ey #[h9 b,R 0]/\h.le bn/\sb bn b gt bq N ad/\aa=st bn gt bq (dx ad (bh N 0)) (bh N 0)
theorem Hj e h h1 N n ad m s u w ci co z A(G:ad.length=n)(M:h.le h1)(cE:e 5= .p 0 0)(hw:∃d O,bf h1 5 m ad.length (ad.map bT.cells)/\bf h1 1 s N (xQ N (λv=>(ins ad v).length) d)/\bf h1 1 u N (xQ N (λv=>(outs ad v).length) O)/\(∀v,v<N->bf h1 1 (d v).1 (ins ad v).length (o6 (ins ad v)))/\∀v,v<N->bf h1 1 (O v).1 (outs ad v).length (o6 (outs ad v))):di aB 42 ((IR.cd avJ).seq IR.ret) (vf aB Kb.fn.results.toList λr aa=>X6 h N ad r aa) e (KB [ab m ad.length w,ab s N ci,ab u N co] n N z A (uZ ad n)) h1:=by
 subst G;obtain⟨d,O,Q,S,X,Z,Y⟩:=hw;have he:e=ji e 5 (.p 0 0):=by
  funext t;unfold ji;by_cases q:t=5
  grind
  rw[show hW t 5=false from FG.2 λk=>q (qA k)];rfl
 rw[he];refine .mk λb x=>.b4 1 3 1 (some z) ad.length ad.length _ rfl λae C T D=>.b4 2 3 1 (some A) N N _ rfl λy f B E=>.ah ?_;have F:bh N (R 0)=(bh N (0:Int)).map R:=bd;rw[F]at B;obtain⟨gt,rfl,H⟩:=T.full;obtain⟨bq,rfl,L⟩:=B.full;have l:=D _ rfl;have jF:=E _ rfl;have P:ae b=_:=C _ _ OZ;have V:=f _ _ P;have t3:=f _ _ H;have j:b≠gt:=λq=>by subst q;rw[show(⟨b,0,none⟩:aI).block=b from rfl,OZ]at l;cases l
 have i:b≠bq:=λq=>by grind
 have c:gt≠bq:=λq=>by grind
 have a:h1.le ((y.del gt).del bq):=λo U q=>by
  have K:o≠gt:=λk=>by subst k;cases(J.dI x _ _ q).symm.trans l
  have W:=C _ _ (J.dI x _ _ q);have I:o≠bq:=λk=>by grind
  rw[J.mJ _ I,J.mJ _ K];exact f _ _ W
 refine⟨(y.del gt).del bq,b,gt,bq,rfl,J.le_trans M a,⟨m,s,u,w,ci,co,d,O,?_,Q.mono a,S.mono a,X.mono a,λv g=>(Z v g).mono a,λv g=>(Y v g).mono a,?_,J.Gn _ _,c⟩,?_⟩;rw[J.mJ _ i,J.mJ _ j,V];rw[J.mJ _ c,J.Gn];rw[<-az6];exact aDH t3 L
theorem Hk Q(e:cy) L h perm(N n q:Nat) ad A c d f a b(t:e' N ad=0)(r:ad.length=n)(o:bf h 5 A n (ad.map bT.cells))(he:[5,25,26,27].map e=([.p 0 0,.v (ab A n q),.v (R n),.v (R (0:Nat))]:List aK).map (tY perm))(s:uC perm=true)(j:sR L perm=some (([.own ([c,d,f].map .v++[.v (ab (some a) n n),.v (ab (some b) N N)]) 271,.row 3 1 (some a) n n (bh n (R 0)),.row 3 1 (some b) N N (bh N (R 0))]:List LE).map (pR perm)))(u:∀e,e 5= .p 0 0->Q (.exit 0) e (KB [c,d,f] n N a b (uZ ad n)) h):vo (λQ e L h=>di aB 42 avI Q e L h) Q e L h:=by
 subst r;have w:=(lT t).2.2.1;rw[<-az9]at j;refine .AV perm Nat [5,25,26,27] (λk=>[.p 0 0,.v (ab A ad.length q),.v (R ad.length),.v (R k)]) (λk=>KB [c,d,f] ad.length N a b (uZ ad k)) (λk aa=>aa=h/\k<=ad.length) (λk=>ad.length-k) 0 (λ_=>rfl) ⟨rfl,cW _⟩ he s j ?_;refineλk e aa⟨rfl,hk⟩=>aY (λh1=>?_) (λh1=>?_);have i:k<ad.length:=I;obtain⟨g,l⟩:=o.cg I;refine .m g l (.hp ad[k].cells rfl (by rw[bz];exact o.row l (iP i)) (.m a rfl (.row 1 3 1 a ad.length ad.length _ _ k rfl bd (ih _ _ _ (by simp only[List.length_map,az7 ad k hk];exact i)) (.bg (⟨k+1,rfl,?_,⟨rfl,i⟩,I⟩)))));rw[<-az8 i];show _=KB [c,d,f] ad.length N a b ((uZ ad k).set k ad[k].start);rw[KB,lM];rfl;have:k=ad.length:=I;subst this;exact u _ rfl
theorem OB N n a ad A h(b:bf h 5 A n (ad.map bT.cells))(c:n*40<=140737488355328)(d:e' N ad≠0):Fn aB 52 #[mW N A n a] h λr aa=>r=ey #[gv none,R (e' N ad)]/\aa=h:=by
 refine b6 Kb rfl (.ah (.mk _ (Mr N A n a ad h b I) ?_));rintro _ aa ⟨rfl,rfl⟩;refine aY (λh1=>?_) (λh1=>absurd h1 I);exact .ah ⟨rfl,rfl⟩
theorem OA(N n k:Nat) ad A h(j:bf h 5 A n (ad.map bT.cells))(w:n*40<=140737488355328)(i:e' N ad=0):Fn aB 52 #[mW N A n k] h λr aa=>X6 h N ad r aa:=by
 have l:ad.length=n:=by simpa using j.len
 have x:=(lT i).2.1;refine b6 Kb rfl (.ah (.mk _ (Mr N A n k ad h j I) ?_));rintro _ h ⟨rfl,rfl⟩;refine aY (λh1=>absurd i I) (λh1=>?_);refine fE ?_ ?_;refine .mk _ (Lo N n k ad A _ i j w) (λ_ _ q=>q.1) ?_;rintro _ h1 ⟨a,b,d,f,c1,ci,co,o,O,rfl,p,s,t,v,u⟩;refine fE ?_ ?_;refine oP.one n (R 0) rfl rfl rfl rfl I I λc=>?_;refine oP.one N (R 0) rfl rfl rfl rfl I I λg=>?_;exact Hk _ _ _ h1 [3,1,2] N n k ad A (ab b ad.length c1) (ab d N ci) (ab f N co) c g i l (j.mono a) rfl rfl rfl λe m=>Hj e h h1 N n ad b d f c1 ci co c g l a m ⟨o,O,p,s,t,v,u⟩;exact oP.one N (R 0) rfl rfl rfl rfl I I λg=>oP.one n (R 0) rfl rfl rfl rfl I I λc=>Hk _ _ _ h1 [3,2,1] N n k ad A (ab b ad.length c1) (ab d N ci) (ab f N co) c g i l (j.mono a) rfl rfl rfl λe m=>Hj e h h1 N n ad b d f c1 ci co c g l a m ⟨o,O,p,s,t,v,u⟩;refine fE ?_ ?_;refine oP.one n (R 0) rfl rfl rfl rfl I I λc=>fE ?_ ?_;refine .mk _ (Lo N n k ad A _ i j w) (λ_ _ q=>q.1) ?_;rintro _ h1 ⟨a,b,d,f,c1,ci,co,o,O,rfl,p,s,t,v,u⟩;exact oP.one N (R 0) rfl rfl rfl rfl I I λg=>Hk _ _ _ h1 [3,1,2] N n k ad A (ab b ad.length c1) (ab d N ci) (ab f N co) c g i l (j.mono a) rfl rfl rfl λe m=>Hj e h h1 N n ad b d f c1 ci co c g l a m ⟨o,O,p,s,t,v,u⟩;refine oP.one N (R 0) rfl rfl rfl rfl I I λg=>.mk _ (Lo N n k ad A _ i j w) (λ_ _ q=>q.1) ?_;rintro _ h1 ⟨a,b,d,f,c1,ci,co,o,O,rfl,p,s,t,v,u⟩;exact Hk _ _ _ h1 [3,1,2] N n k ad A (ab b ad.length c1) (ab d N ci) (ab f N co) c g i l (j.mono a) rfl rfl rfl λe m=>Hj e h h1 N n ad b d f c1 ci co c g l a m ⟨o,O,p,s,t,v,u⟩;refine oP.one N (R 0) rfl rfl rfl rfl I I λg=>fE ?_ ?_;refine .mk _ (Lo N n k ad A _ i j w) (λ_ _ q=>q.1) ?_;rintro _ h1 ⟨a,b,d,f,c1,ci,co,o,O,rfl,p,s,t,v,u⟩;exact oP.one n (R 0) rfl rfl rfl rfl I I λc=>Hk _ _ _ h1 [3,2,1] N n k ad A (ab b ad.length c1) (ab d N ci) (ab f N co) c g i l (j.mono a) rfl rfl rfl λe m=>Hj e h h1 N n ad b d f c1 ci co c g l a m ⟨o,O,p,s,t,v,u⟩;refine oP.one n (R 0) rfl rfl rfl rfl I I λc=>.mk _ (Lo N n k ad A _ i j w) (λ_ _ q=>q.1) ?_;rintro _ h1 ⟨a,b,d,f,c1,ci,co,o,O,rfl,p,s,t,v,u⟩;exact Hk _ _ _ h1 [3,2,1] N n k ad A (ab b ad.length c1) (ab d N ci) (ab f N co) c g i l (j.mono a) rfl rfl rfl λe m=>Hj e h h1 N n ad b d f c1 ci co c g l a m ⟨o,O,p,s,t,v,u⟩
theorem ahJ{N:Nat}{ad:List bT}(a:e' N ad=0):∀aE f T,Good N ad f T->Good N ad (nR N ad aE f).2 (T+aE.length)
 |[],f,T,g=>g
 |v::aE,f,T,g=>by
  unfold nR;split;rename_i hm;obtain⟨u,rfl,_⟩:=aft hm;have:=ahJ a aE (bump f u) (T+1) (g.bump a hm)
  grind
  exact⟨g.len,λx b=>by have:=g.cQ x b;omega,g.tok⟩
theorem D1(c:e' N ad=0):Good N ad (bh N 0) 0:=by
 refine⟨bd,λx d=>aJ,λa b=>?_⟩;have e:=rT ((lT c).2.2.2 a b);have:∀i:Nat,(bh N (0:Int)).getD i 0=0:=λi=>by
  grind
 unfold ob;grind
theorem Fp(h1:o≠gt)(ae:o≠bq):st bn gt bq t f o=bn o:=by
 unfold st;rw[J.cB _ _ ae,J.cB _ _ h1]
structure At(al cC:J)(b gt bq N:Nat)(ad:List bT)(f:List Int)(T:Nat):Prop where
 le:al.le cC
 j3:sb cC b gt bq N ad
 sn:Good N ad f T
theorem At.grow(a:At al cC b gt bq N ad f T)(x:(st cC gt bq t f).le aa):∃hH,aa=st hH gt bq t f/\At al hH b gt bq N ad f T:=by
 obtain⟨h,i,j,g,ci,co,d,O,a'⟩:=a.j3.ex;obtain⟨hH,e,c,h1,ae⟩:=Li a'.ne a'.ov a'.ou x;exact⟨hH,e,J.le_trans a.le c,a.j3.mono c h1 ae,a.sn⟩
theorem At.all(a:At al cC b gt bq N ad f T):al.le (st cC gt bq t f):=by
 obtain⟨e,g,h,d,ci,co,c,O,a'⟩:=a.j3.ex;exact J.le_trans a.le (J.jZ a'.ov a'.ou)
theorem Gv{bx:Nat}(g:e' N ad=0)(a:At al cC b gt bq N ad f T)(j:T+1<=70368744177664) z(d:st cC gt bq (dx ad f) f bx=none):Fn aB 55 #[h9 b,ab (some ⟨bx,0,none⟩) 1 1] ((st cC gt bq (dx ad f) f).put bx (bb #[R z] 3 (0,0))) λr aa=>r=R (nR N ad [z] f).1/\∃hH,aa=st hH gt bq (dx ad (nR N ad [z] f).2) (nR N ad [z] f).2/\At al hH b gt bq N ad (nR N ad [z] f).2 (T+1):=by
 obtain⟨hH,e,c⟩:=a.grow (J.dI (U:=bb #[R z] 3 (0,0)) d);obtain⟨n,o,p,m,ci,co,l,O,a'⟩:=c.j3.ex;have k:hH bx=some (hh [z]):=by
  have i:bx≠gt:=λq=>by subst q;rw[Fo a'.ne]at d;cases d
  have h:bx≠bq:=λq=>by subst q;rw[HR]at d;cases d
  have:st hH gt bq (dx ad f) f bx=some (hh [z]):=by rw[<-e];exact OZ
  rwa[Fp i h]at this
 rw[e];have x:=ap0 c.j3 g [z] f _ 1 1 T (WF k) c.sn j;refine x.mono ?_;rintro r aa ⟨rfl,rfl⟩;exact⟨rfl,hH,rfl,c.le,c.j3,ahJ g [z] f T c.sn⟩
theorem Ad(m:e' N ad=0)(a:At al cC b gt bq N ad f T):Fn aB 195 #[h9 b] (st cC gt bq (dx ad f) f) λr aa=>∃g c,r=ab (some g) ad.length c/\(st cC gt bq (dx ad f) f).le aa/\bJ aa 3 1 (some g) ad.length c ((dx ad f).map R)/\st cC gt bq (dx ad f) f g.block=none:=by
 obtain⟨w,A,B,t,ci,co,s,O,a'⟩:=a.j3.ex;have y:=(lT m).2.2.1;have x:cC.le (st cC gt bq (dx ad f) f):=J.jZ a'.ov a'.ou;have k:st cC gt bq (dx ad f) f gt=some (hh (dx ad f)):=Fo a'.ne;have d:=WF k;rw[qq]at d;generalize q:st cC gt bq (dx ad f) f=h at x k d;refine b6 aw3 rfl ?_;refine .hp _ (J.la x (bV a'.head (o:=3) rfl)) ?_;refine .mk λu v=>?_;refine .ah (.c3 1 _ _ rfl (d.src _) (by rw[xj];exact KE _) (by grind [eD]) I λi e aT=>?_);refine .b4 1 3 1 i (0+ad.length) e _ rfl λaa p n l=>?_;have j:bJ aa 3 1 i (0+ad.length) e ((dx ad f).map λz=>[R z]).flatten:=n;rw[dM,xj]at j;obtain⟨g,rfl⟩:=Wq aT.1;exact .ah ⟨g,e,by rw[dM];rfl,p,j,l g rfl⟩
def fS(N:Nat)(ad:List bT):List Int->List Int->Int×List (List Int)
 |[],_=>(0,[])
 |v::l,f=>if v<0\/(N:Int)<=v then(100,[])else if may N ad f v=true then((fS N ad l (bump f v.toNat)).1,dx ad (bump f v.toNat)::(fS N ad l (bump f v.toNat)).2)else(180,[])
def eo(N:Int)(ad:List bT)(aE:List Int):Int×List (List Int):=
 if e' N ad=0 then(if 2048<aE.length then(2,[])else((fS N.toNat ad aE (bh N.toNat 0)).1,dx ad (bh N.toNat 0)::(fS N.toNat ad aE (bh N.toNat 0)).2))else(e' N ad,[])
theorem Gw{v:Int}(h:may N ad f v=true):nR N ad [v] f=(1,bump f v.toNat):=by simp[nR,h]
theorem Je{v:Int}(h:may N ad f v=false):nR N ad [v] f=(0,f):=by simp[nR,h]
def mC(K X:J):Prop:=∀o,X o≠none->K o=none
def J.empty:J:=λ_=>none
theorem mC.empty K:mC K J.empty:=λ_ h=>absurd rfl h
theorem J.le_empty h:J.empty.le h:=λ_ _ e=>by cases e
def L5(f:l4)(ar:List (List Int)->ax->J->Prop)(M n:Nat):Prop:=
 ∀rows v X h g c cR,rows.length<=M->ar rows v X->X.le h->X g.block=none->bJ h 3 1 (some g) n c (cR.map R)->cR.length=n->
  Fn aB f #[v,ab (some g) n c] h λr aa=>∃a,ar (rows++[cR]) r a/\a.le aa/\∀K,K.le h->mC K X->K g.block=none->K.le aa/\mC K a
theorem aip(x:bn.le cC):(st bn gt bq t f).le (st cC gt bq t f):=λo U e=>by
 unfold st at e⊢;by_cases a:o=bq;subst a;rw[J.b1]at e⊢;exact e;rw[J.cB _ _ a]at e⊢;by_cases b:o=gt;subst b;rw[J.b1]at e⊢;exact e;rw[J.cB _ _ b]at e⊢;exact x o U e
theorem wk{a b:J}(x:a.le b)(h:b o=none):a o=none:=by
 cases e:a o with
 |none=>rfl
 |some U=>rw[x o U e]at h;cases h
theorem mC.mono{a b:J}(x:a.le b)(d:mC b X):mC a X:=λo h=>wk x (d o h)
structure p1(al bn cC X:J)(b gt bq N:Nat)(ad:List bT)(f:List Int)(k:Nat):Prop where
 at_:At al bn b gt bq N ad f k
 le:bn.le cC
 sub:X.le cC
 xc:mC bn X
 jX:cC gt=none
 lV:cC bq=none
theorem p1.iW{k:Nat}(U:p1 al bn cC X b gt bq N ad f k):At al cC b gt bq N ad f k:=⟨J.le_trans U.at_.le U.le,U.at_.j3.mono U.le U.jX U.lV,U.at_.sn⟩
theorem p1.free{k:Nat}(U:p1 al bn cC X b gt bq N ad f k):bn gt=none/\bn bq=none/\gt≠bq:=by
 obtain⟨d,e,g,c,ci,co,a,O,a'⟩:=U.at_.j3.ex;exact⟨a'.ov,a'.ou,a'.ne⟩
theorem p1.step{al bn cC X h1 ae n:J}{b gt bq N k g:Nat}{ad:List bT}{f t:List Int}(U:p1 al bn cC X b gt bq N ad f k)(ay:(st cC gt bq t f).le h1)(w:st cC gt bq t f g=none)(y:n.le ae)(hk:∀K,K.le h1->mC K X->K g=none->K.le ae/\mC K n):∃c,ae=st c gt bq t f/\p1 al bn c n b gt bq N ad f k:=by
 obtain⟨f1,f2,r⟩:=U.free;have h:X gt=none:=wk U.sub U.jX;have d:X bq=none:=wk U.sub U.lV;have da:mC (st bn gt bq t f) X:=λo a=>by
  have j:o≠gt:=λq=>a (q▸h);have i:o≠bq:=λq=>a (q▸d);rw[Fp j i];exact U.xc o a
 obtain⟨x,s⟩:=hk (st bn gt bq t f) (J.le_trans (aip U.le) ay) da (wk (aip U.le) w);obtain⟨c,e,l,v,u⟩:=Li r f1 f2 x;refine⟨c,e,U.at_,l,λo z m=>?_,mC.mono (J.jZ f1 f2) s,v,u⟩;have p:=y o z m;have a:st bn gt bq t f o=none:=s o aJ;have j:o≠gt:=λq=>by subst q;rw[Fo r]at a;cases a
 have i:o≠bq:=λq=>by subst q;rw[HR]at a;cases a
 rw[e,Fp j i]at p;exact p
theorem p1.vU{hH:J}{k:Nat}{f2:List Int}(U:p1 al bn cC X b gt bq N ad f k)(a:At cC hH b gt bq N ad f2 (k+1)):p1 al bn hH X b gt bq N ad f2 (k+1):=by
 obtain⟨e,g,h,d,ci,co,c,O,a'⟩:=a.j3.ex;exact⟨⟨U.at_.le,U.at_.j3,a.sn⟩,J.le_trans U.le a.le,J.le_trans U.sub a.le,U.xc,a'.ov,a'.ou⟩
def vv(h:J)(N:Int)(ad:List bT)(aE:List Int)(z:ax)(ar:List (List Int)->ax->J->Prop)(r:ax)(aa:J):Prop:=h.le aa/\((eo N ad aE).1≠0->r=ey #[z,R (eo N ad aE).1])/\((eo N ad aE).1=0->∃v X,r=ey #[v,R 0]/\ar (eo N ad aE).2 v X/\X.le aa/\mC h X)
theorem yn{N:Int}(h:e' N ad≠0):eo N ad aE=(e' N ad,[]):=by grind [eo]
theorem DA{N:Int}(h:e' N ad=0)(ae:2048<aE.length):eo N ad aE=(2,[]):=by grind [eo]
theorem Mi(h:e' N ad=0)(ae:¬2048<aE.length):eo N ad aE=((fS N ad aE (bh N 0)).1,dx ad (bh N 0)::(fS N ad aE (bh N 0)).2):=by grind [eo]
theorem aA0 fn ar N n cap ad A D r L aE h(E:bf h 5 A n (ad.map bT.cells))(y:n*40<=140737488355328)(j:bf h 1 D r (aE.map λz=>[R z]))(V:ar [] (ab none 0 0) J.empty)(G:L5 fn ar 2048 ad.length):Fn aB 192 #[mW N A n cap,ab D r L,ab none 0 0,.func (.func fn) #[] #[]] h λv aa=>vv h N ad aE (ab none 0 0) ar v aa:=by
 have NG:aE.length=r:=by simpa using j.len
 refine b6 aw1 rfl ?_;by_cases d:e' N ad=0;have SA:=lT d;obtain⟨N,rfl⟩:∃q:Nat,N=q:=⟨N.toNat,I⟩;refine .ah (.mk _ (OA N n cap ad A h E y d) ?_);rintro _ _ ⟨bn,b,gt,bq,rfl,x,H,rfl⟩;obtain⟨fl,hy,hz,ck,ci,co,bX,O,a'⟩:=H.ex;have K:=a'.ov;have M:=a'.ou;clear a';refine aY (λae=>?_) (λae=>?_);refine .ah ⟨J.le_trans x (J.jZ K M),λ_=>?_,λq=>?_⟩;rw[DA d I];rfl;rw[DA d I]at q;cases q;have Z:=Mi (aE:=aE) d I;have P:p1 h bn bn J.empty b gt bq N ad (bh N 0) 0:=⟨⟨x,H,D1 d⟩,J.le_refl _,J.le_empty _,mC.empty _,K,M⟩;refine .ah (.mk _ (Ad d P.iW) ?_);rintro _ h1 ⟨g,c,rfl,t,a,o⟩;refine .ah (.mk _ (G [] _ _ h1 g c _ (cW _) V (J.le_empty _) rfl a (qq _ _)) ?_);rintro v ae ⟨X,u,w,hk⟩;obtain⟨cC,rfl,W⟩:=P.step t o w hk;refine .mk (Nat×J×J×ax×List Int×List (List Int)) [3,4,10,11,13,34,35,36] (λ(k,_,_,v,_,_)=>[.v (.func (.func fn) #[] #[]),.p 0 0,.v (ab none 0 0),.v (h9 b),.v v,.v (ab D r L),.v (R r),.v (R k)]) (λ_=>[.own [.v (R N),.v (ab A n cap)] 33])
  (λ(k,cC,X,v,f,rows) aa=>aa=st cC gt bq (dx ad f) f/\p1 h bn cC X b gt bq N ad f k/\ar rows v X/\rows.length=k+1/\k<=r/\(fS N ad aE (bh N 0)).1=(fS N ad (aE.drop k) f).1/\
   dx ad (bh N 0)::(fS N ad aE (bh N 0)).2=rows++(fS N ad (aE.drop k) f).2) (λ(k,_,_,_,_,_)=>r-k) (0,cC,X,v,bh N 0,[dx ad (bh N 0)]) (λ(_,_,_,_,_,_)=>rfl)
  ⟨rfl,W,u,rfl,cW _,rfl,rfl⟩ rfl rfl ?_
 rintro⟨k,cC,X,v,f,rows⟩ e aa ⟨rfl,U,u,lj,hk,a,l⟩;refine aY (λS=>?_) (λS=>?_);have T:k<r:=I;have Q:aE.drop k=aE[k]::aE.drop (k+1):=mE I;obtain⟨g,C⟩:=j.cg I;rw[Q,fS]at a l;have bad:∀z:Int,z≠0->(fS N ad aE (bh N 0)).1=z->vv h N ad aE (ab none 0 0) ar (ey #[ab none 0 0,R z]) (st cC gt bq (dx ad f) f):=λz j e=>by
  refine⟨U.iW.all,λ_=>?_,λq=>?_⟩
  grind
  grind
 refine .m g C (.hp (R aE[k]) (by rw[bz];exact(j.mono U.iW.all).one C (r:=[R aE[k]]) aJ rfl) (aY (λB=>?_) (λB=>?_)));rw[aP (bW B)]at a;exact .ah (bad 100 aM a);refine aY (λF=>?_) (λF=>?_);rw[aP (bl F)]at a;exact .ah (bad 100 aM a);rw[aD I]at a l;refine .mk λbx nt=>?_;have z1:At cC cC b gt bq N ad f k:=⟨J.le_refl _,U.iW.j3,U.iW.sn⟩;refine .ah (.mk _ (Gv d z1 I aE[k] nt) ?_);rintro _ _ ⟨rfl,hH,rfl,s⟩;cases hm:may N ad f aE[k]with
 |false=>
  rw[hm,aD bd]at a;rw[Je hm]at s⊢;refine .ah ⟨(U.vU s).iW.all,λ_=>?_,λq=>?_⟩;rw[Z];show _=ey #[_,R (fS N ad aE (bh N 0)).1];rw[a];rfl
  grind
 |true=>
  rw[hm,aP rfl]at a l;rw[Gw hm]at s⊢;have i:=U.vU s;refine .ah (.mk _ (Ad d i.iW) ?_);rintro _ h1 ⟨g,c,rfl,t,mj,o⟩;refine .ah (.mk _ (G rows _ X h1 g c _ I u (J.le_trans i.sub (J.le_trans (J.jZ i.jX i.lV) t)) (wk (J.le_trans i.sub (J.jZ i.jX i.lV)) o) mj (qq _ _)) ?_);rintro v ae ⟨oi,rD,w,Y⟩;obtain⟨rC,rfl,ln⟩:=i.step t o w Y;refine .bg (⟨(k+1,rC,oi,v,bump f aE[k].toNat,rows++[dx ad (bump f aE[k].toNat)]),rfl,rfl,⟨rfl,ln,rD,aJ,T,a,?_⟩,aJ⟩)
  grind
 rw[rm I,fS]at a l;refine .ah ⟨U.iW.all,λq=>?_,λ_=>⟨v,X,rfl,?_,J.le_trans U.sub (J.jZ U.jX U.lV),mC.mono U.at_.le U.xc⟩⟩
 grind
 grind
 refine .ah (.mk _ (OB N n cap ad A h E y d) ?_);rintro _ ae ⟨rfl,rfl⟩;refine aY (λh1=>?_) (λh1=>absurd h1 I);refine .ah ⟨J.le_refl _,λ_=>?_,λq=>?_⟩;rw[yn d];rfl;rw[yn d]at q;omega
theorem aA1 fn ar N n cap ad A D r L aE h(E:bf h 5 A n (ad.map bT.cells))(y:n*40<=140737488355328)(j:bf h 1 D r (aE.map λz=>[R z]))(V:ar [] (ab none 0 0) J.empty)(G:L5 fn ar 2048 ad.length):Fn aB 165 #[mW N A n cap,ab D r L,ab none 0 0,.func (.func fn) #[] #[]] h λv aa=>vv h N ad aE (ab none 0 0) ar v aa:=by
 have NG:aE.length=r:=by simpa using j.len
 refine b6 aeh rfl ?_;by_cases d:e' N ad=0;have SA:=lT d;obtain⟨N,rfl⟩:∃q:Nat,N=q:=⟨N.toNat,I⟩;refine .ah (.mk _ (OA N n cap ad A h E y d) ?_);rintro _ _ ⟨bn,b,gt,bq,rfl,x,H,rfl⟩;obtain⟨fl,hy,hz,ck,ci,co,bX,O,a'⟩:=H.ex;have K:=a'.ov;have M:=a'.ou;clear a';refine aY (λae=>?_) (λae=>?_);refine .ah ⟨J.le_trans x (J.jZ K M),λ_=>?_,λq=>?_⟩;rw[DA d I];rfl;rw[DA d I]at q;cases q;have Z:=Mi (aE:=aE) d I;have P:p1 h bn bn J.empty b gt bq N ad (bh N 0) 0:=⟨⟨x,H,D1 d⟩,J.le_refl _,J.le_empty _,mC.empty _,K,M⟩;refine .ah (.mk _ (Ad d P.iW) ?_);rintro _ h1 ⟨g,c,rfl,t,a,o⟩;refine .ah (.mk _ (G [] _ _ h1 g c _ (cW _) V (J.le_empty _) rfl a (qq _ _)) ?_);rintro v ae ⟨X,u,w,hk⟩;obtain⟨cC,rfl,W⟩:=P.step t o w hk;refine .mk (Nat×J×J×ax×List Int×List (List Int)) [3,4,10,11,13,34,35,36] (λ(k,_,_,v,_,_)=>[.v (.func (.func fn) #[] #[]),.p 0 0,.v (ab none 0 0),.v (h9 b),.v v,.v (ab D r L),.v (R r),.v (R k)]) (λ_=>[.own [.v (R N),.v (ab A n cap)] 33])
  (λ(k,cC,X,v,f,rows) aa=>aa=st cC gt bq (dx ad f) f/\p1 h bn cC X b gt bq N ad f k/\ar rows v X/\rows.length=k+1/\k<=r/\(fS N ad aE (bh N 0)).1=(fS N ad (aE.drop k) f).1/\
   dx ad (bh N 0)::(fS N ad aE (bh N 0)).2=rows++(fS N ad (aE.drop k) f).2) (λ(k,_,_,_,_,_)=>r-k) (0,cC,X,v,bh N 0,[dx ad (bh N 0)]) (λ(_,_,_,_,_,_)=>rfl)
  ⟨rfl,W,u,rfl,cW _,rfl,rfl⟩ rfl rfl ?_
 rintro⟨k,cC,X,v,f,rows⟩ e aa ⟨rfl,U,u,lj,hk,a,l⟩;refine aY (λS=>?_) (λS=>?_);have T:k<r:=I;have Q:aE.drop k=aE[k]::aE.drop (k+1):=mE I;obtain⟨g,C⟩:=j.cg I;rw[Q,fS]at a l;have bad:∀z:Int,z≠0->(fS N ad aE (bh N 0)).1=z->vv h N ad aE (ab none 0 0) ar (ey #[ab none 0 0,R z]) (st cC gt bq (dx ad f) f):=λz j e=>by
  refine⟨U.iW.all,λ_=>?_,λq=>?_⟩
  grind
  grind
 refine .m g C (.hp (R aE[k]) (by rw[bz];exact(j.mono U.iW.all).one C (r:=[R aE[k]]) aJ rfl) (aY (λB=>?_) (λB=>?_)));rw[aP (bW B)]at a;exact .ah (bad 100 aM a);refine aY (λF=>?_) (λF=>?_);rw[aP (bl F)]at a;exact .ah (bad 100 aM a);rw[aD I]at a l;refine .mk λbx nt=>?_;have z1:At cC cC b gt bq N ad f k:=⟨J.le_refl _,U.iW.j3,U.iW.sn⟩;refine .ah (.mk _ (Gv d z1 I aE[k] nt) ?_);rintro _ _ ⟨rfl,hH,rfl,s⟩;cases hm:may N ad f aE[k]with
 |false=>
  rw[hm,aD bd]at a;rw[Je hm]at s⊢;refine .ah ⟨(U.vU s).iW.all,λ_=>?_,λq=>?_⟩;rw[Z];show _=ey #[_,R (fS N ad aE (bh N 0)).1];rw[a];rfl
  grind
 |true=>
  rw[hm,aP rfl]at a l;rw[Gw hm]at s⊢;have i:=U.vU s;refine .ah (.mk _ (Ad d i.iW) ?_);rintro _ h1 ⟨g,c,rfl,t,mj,o⟩;refine .ah (.mk _ (G rows _ X h1 g c _ I u (J.le_trans i.sub (J.le_trans (J.jZ i.jX i.lV) t)) (wk (J.le_trans i.sub (J.jZ i.jX i.lV)) o) mj (qq _ _)) ?_);rintro v ae ⟨oi,rD,w,Y⟩;obtain⟨rC,rfl,ln⟩:=i.step t o w Y;refine .bg (⟨(k+1,rC,oi,v,bump f aE[k].toNat,rows++[dx ad (bump f aE[k].toNat)]),rfl,rfl,⟨rfl,ln,rD,aJ,T,a,?_⟩,aJ⟩)
  grind
 rw[rm I,fS]at a l;refine .ah ⟨U.iW.all,λq=>?_,λ_=>⟨v,X,rfl,?_,J.le_trans U.sub (J.jZ U.jX U.lV),mC.mono U.at_.le U.xc⟩⟩
 grind
 grind
 refine .ah (.mk _ (OB N n cap ad A h E y d) ?_);rintro _ ae ⟨rfl,rfl⟩;refine aY (λh1=>?_) (λh1=>absurd h1 I);refine .ah ⟨J.le_refl _,λ_=>?_,λq=>?_⟩;rw[yn d];rfl;rw[yn d]at q;omega
theorem aA3 fn ar N n cap ad A D r d aE h(c:bf h 5 A n (ad.map bT.cells))(b:n*40<=140737488355328)(a:e' N ad≠0):Fn aB 165 #[mW N A n cap,ab D r d,ab none 0 0,.func (.func fn) #[] #[]] h λv aa=>vv h N ad aE (ab none 0 0) ar v aa:=by
 refine b6 aeh rfl (.ah (.mk _ (OB N n cap ad A h c b a) ?_));rintro _ ae ⟨rfl,rfl⟩;refine aY (λh1=>?_) (λh1=>absurd h1 I);refine .ah ⟨J.le_refl _,λ_=>?_,λq=>?_⟩;rw[yn a];rfl;rw[yn a]at q;omega
def X7(f:l4)(ar:List (List Int)->ax->J->Prop)(M n:Nat):Prop:=
 ∀rows v X h g c cR,rows.length<=M->ar rows v X->X.le h->X g.block=none->bJ h 3 1 (some g) n c (cR.map R)->cR.length=n->
  Fn aB f #[v,ab (some g) n c] h λr aa=>h.le aa/\∃a,ar (rows++[cR]) r a/\a.le aa/\∀K,K.le h->mC K X->K g.block=none->K.le aa/\mC K a
set_option maxHeartbeats 1000000 in
theorem aA4(fn:l4)(ar:List (List Int)->ax->J->Prop)(N:Int)(n cap:Nat)(ad:List bT)(A D:Option aI)(r jn:Nat)(aE:List Int)(h:J)(av:bf h 5 A n (ad.map bT.cells))(aA:n*40<=140737488355328)(w:bf h 1 D r (aE.map λz=>[R z]))(c':ar [] (.agg #[ab none 0 0,ab none 0 0]) J.empty)(G:∀rows v X,ar rows v X->∃x y:Option aI×Nat×Nat,v= .agg #[ab x.1 x.2.1 x.2.2,ab y.1 y.2.1 y.2.2])(H:X7 fn ar 2048 ad.length):Fn aB 162 #[mW N A n cap,ab D r jn,.agg #[ab none 0 0,ab none 0 0],.func (.func fn) #[] #[]] h λv aa=>vv h N ad aE (.agg #[ab none 0 0,ab none 0 0]) ar v aa:=by
 have NG:aE.length=r:=by simpa using w.len
 refine b6 awP rfl ?_;by_cases i:e' N ad=0;have SA:=lT i;obtain⟨N,rfl⟩:∃q:Nat,N=q:=⟨N.toNat,I⟩;refine .ah (.mk _ (OA N n cap ad A h av aA i) ?_);rintro _ _ ⟨bn,b,gt,bq,rfl,Cs,j3,rfl⟩;obtain⟨fl,hy,hz,ck,ci,co,bX,O,a'⟩:=j3.ex;have jX:=a'.ov;have lV:=a'.ou;clear a';refine aY (λae=>?_) (λae=>?_);refine .ah ⟨J.le_trans Cs (J.jZ jX lV),λ_=>?_,λq=>?_⟩;rw[DA i I];rfl;rw[DA i I]at q;cases q;have jt:=Mi (aE:=aE) i I;have Z:p1 h bn bn J.empty b gt bq N ad (bh N 0) 0:=⟨⟨Cs,j3,D1 i⟩,J.le_refl _,J.le_empty _,mC.empty _,jX,lV⟩;refine fE ?_ ?_;refine .mk _ (Ad i Z.iW) (λ_ _ q=>aJ) ?_;rintro _ h1 ⟨g,c,rfl,t,a,s⟩;refine fE ?_ ?_;refine .mk _ (H [] _ _ h1 g c _ (cW _) c' (J.le_empty _) rfl a (qq _ _)) (λ_ _ q=>q.1) ?_;rintro v ae ⟨_,X,j,u,hk⟩;obtain⟨x,y,rfl⟩:=G _ _ _ j;obtain⟨cC,rfl,S⟩:=Z.step t s u hk;refine .mk (Nat×J×J×((Option aI×Nat×Nat)×(Option aI×Nat×Nat))×List Int×List (List Int)) [3,4,8,10,11,13,34,35,36] (λ(k,_,_,_,_,_)=>[.v (.func (.func fn) #[] #[]),.p 0 0,.p 2 0,.p 3 0,.v (h9 b),.p 4 0,.v (ab D r jn),.v (R r),.v (R k)]) (λ(_,_,_,(x,y),_,_)=>[.own [.v (R N),.v (ab A n cap)] 33,.own [.v (ab none 0 0),.v (ab none 0 0)] 349,.own [.v (ab none 0 0),.v (ab none 0 0)] 349,.own [.v (ab none 0 0),.v (ab none 0 0)] 349,.own [.v (ab x.1 x.2.1 x.2.2),.v (ab y.1 y.2.1 y.2.2)] 349])
  (λ(k,cC,X,(x,y),f,rows) aa=>aa=st cC gt bq (dx ad f) f/\p1 h bn cC X b gt bq N ad f k/\ar rows (.agg #[ab x.1 x.2.1 x.2.2,ab y.1 y.2.1 y.2.2]) X/\rows.length=k+1/\k<=r/\(fS N ad aE (bh N 0)).1=(fS N ad (aE.drop k) f).1/\
   dx ad (bh N 0)::(fS N ad aE (bh N 0)).2=rows++(fS N ad (aE.drop k) f).2) (λ(k,_,_,_,_,_)=>r-k) (0,cC,X,(x,y),bh N 0,[dx ad (bh N 0)]) (λ(_,_,_,_,_,_)=>rfl)
  ⟨rfl,S,j,rfl,cW _,rfl,rfl⟩ rfl rfl ?_
 rintro⟨k,cC,X,⟨x,y⟩,f,rows⟩ e aa ⟨rfl,U,j,lj,hk,a,l⟩;refine aY (λL=>?_) (λL=>?_);have M:k<r:=I;have K:aE.drop k=aE[k]::aE.drop (k+1):=mE I;obtain⟨g,C⟩:=w.cg I;rw[K,fS]at a l;have bad:∀z:Int,z≠0->(fS N ad aE (bh N 0)).1=z->vv h N ad aE (.agg #[ab none 0 0,ab none 0 0]) ar (ey #[.agg #[ab none 0 0,ab none 0 0],R z]) (st cC gt bq (dx ad f) f):=λz w e=>by
  refine⟨U.iW.all,λ_=>?_,λq=>?_⟩
  grind
  grind
 refine .m g C (.hp (R aE[k]) (by rw[bz];exact(w.mono U.iW.all).one C (r:=[R aE[k]]) aJ rfl) (aY (λB=>?_) (λB=>?_)));rw[aP (bW B)]at a;exact .ah (bad 100 aM a);refine aY (λE=>?_) (λE=>?_);rw[aP (bl E)]at a;exact .ah (bad 100 aM a);rw[aD I]at a l;refine .mk λbx Y=>?_;have z1:At cC cC b gt bq N ad f k:=⟨J.le_refl _,U.iW.j3,U.iW.sn⟩;refine .ah (.mk _ (Gv i z1 I aE[k] Y) ?_);rintro _ _ ⟨rfl,hH,rfl,o⟩;cases hm:may N ad f aE[k]with
 |false=>
  rw[hm,aD bd]at a;rw[Je hm]at o⊢;refine .ah ⟨(U.vU o).iW.all,λ_=>?_,λq=>?_⟩;rw[jt];show _=ey #[_,R (fS N ad aE (bh N 0)).1];rw[a];rfl
  grind
 |true=>
  rw[hm,aP rfl]at a l;rw[Gw hm]at o⊢;have d:=U.vU o;refine .mk _ (Ad i d.iW) (λ_ _ q=>aJ) ?_;rintro _ h1 ⟨g,c,rfl,t,W,s⟩;refine .mk _ (H rows _ X h1 g c _ I j (J.le_trans d.sub (J.le_trans (J.jZ d.jX d.lV) t)) (wk (J.le_trans d.sub (J.jZ d.jX d.lV)) s) W (qq _ _)) (λ_ _ q=>q.1) ?_;rintro v ae ⟨_,oi,F,u,T⟩;obtain⟨P,Q,rfl⟩:=G _ _ _ F;obtain⟨rC,rfl,V⟩:=d.step t s u T;refine .bg (⟨(k+1,rC,oi,(P,Q),bump f aE[k].toNat,rows++[dx ad (bump f aE[k].toNat)]),rfl,rfl,⟨rfl,V,F,aJ,M,a,?_⟩,aJ⟩)
  grind
 rw[rm I,fS]at a l;refine .ah ⟨U.iW.all,λq=>?_,λ_=>⟨_,X,rfl,?_,J.le_trans U.sub (J.jZ U.jX U.lV),mC.mono U.at_.le U.xc⟩⟩
 grind
 grind
 refine .mk _ (H [] _ _ h1 g c _ (cW _) c' (J.le_empty _) rfl a (qq _ _)) (λ_ _ q=>q.1) (λv ae⟨_,X,j,u,hk⟩=>?_);obtain⟨x,y,rfl⟩:=G _ _ _ j;obtain⟨cC,rfl,S⟩:=Z.step t s u hk;refine .mk (Nat×J×J×((Option aI×Nat×Nat)×(Option aI×Nat×Nat))×List Int×List (List Int)) [3,4,8,10,11,13,34,35,36] (λ(k,_,_,_,_,_)=>[.v (.func (.func fn) #[] #[]),.p 0 0,.p 2 0,.p 3 0,.v (h9 b),.p 4 0,.v (ab D r jn),.v (R r),.v (R k)]) (λ(_,_,_,(x,y),_,_)=>[.own [.v (R N),.v (ab A n cap)] 33,.own [.v (ab none 0 0),.v (ab none 0 0)] 349,.own [.v (ab none 0 0),.v (ab none 0 0)] 349,.own [.v (ab none 0 0),.v (ab none 0 0)] 349,.own [.v (ab x.1 x.2.1 x.2.2),.v (ab y.1 y.2.1 y.2.2)] 349])
  (λ(k,cC,X,(x,y),f,rows) aa=>aa=st cC gt bq (dx ad f) f/\p1 h bn cC X b gt bq N ad f k/\ar rows (.agg #[ab x.1 x.2.1 x.2.2,ab y.1 y.2.1 y.2.2]) X/\rows.length=k+1/\k<=r/\(fS N ad aE (bh N 0)).1=(fS N ad (aE.drop k) f).1/\
   dx ad (bh N 0)::(fS N ad aE (bh N 0)).2=rows++(fS N ad (aE.drop k) f).2) (λ(k,_,_,_,_,_)=>r-k) (0,cC,X,(x,y),bh N 0,[dx ad (bh N 0)]) (λ(_,_,_,_,_,_)=>rfl)
  ⟨rfl,S,j,rfl,cW _,rfl,rfl⟩ rfl rfl ?_
 rintro⟨k,cC,X,⟨x,y⟩,f,rows⟩ e aa ⟨rfl,U,j,lj,hk,a,l⟩;refine aY (λL=>?_) (λL=>?_);have M:k<r:=I;have K:aE.drop k=aE[k]::aE.drop (k+1):=mE I;obtain⟨g,C⟩:=w.cg I;rw[K,fS]at a l;have bad:∀z:Int,z≠0->(fS N ad aE (bh N 0)).1=z->vv h N ad aE (.agg #[ab none 0 0,ab none 0 0]) ar (ey #[.agg #[ab none 0 0,ab none 0 0],R z]) (st cC gt bq (dx ad f) f):=λz w e=>by
  refine⟨U.iW.all,λ_=>?_,λq=>?_⟩
  grind
  grind
 refine .m g C (.hp (R aE[k]) (by rw[bz];exact(w.mono U.iW.all).one C (r:=[R aE[k]]) aJ rfl) (aY (λB=>?_) (λB=>?_)));rw[aP (bW B)]at a;exact .ah (bad 100 aM a);refine aY (λE=>?_) (λE=>?_);rw[aP (bl E)]at a;exact .ah (bad 100 aM a);rw[aD I]at a l;refine .mk λbx Y=>?_;have z1:At cC cC b gt bq N ad f k:=⟨J.le_refl _,U.iW.j3,U.iW.sn⟩;refine .ah (.mk _ (Gv i z1 I aE[k] Y) ?_);rintro _ _ ⟨rfl,hH,rfl,o⟩;cases hm:may N ad f aE[k]with
 |false=>
  rw[hm,aD bd]at a;rw[Je hm]at o⊢;refine .ah ⟨(U.vU o).iW.all,λ_=>?_,λq=>?_⟩;rw[jt];show _=ey #[_,R (fS N ad aE (bh N 0)).1];rw[a];rfl
  grind
 |true=>
  rw[hm,aP rfl]at a l;rw[Gw hm]at o⊢;have d:=U.vU o;refine .mk _ (Ad i d.iW) (λ_ _ q=>aJ) ?_;rintro _ h1 ⟨g,c,rfl,t,W,s⟩;refine .mk _ (H rows _ X h1 g c _ I j (J.le_trans d.sub (J.le_trans (J.jZ d.jX d.lV) t)) (wk (J.le_trans d.sub (J.jZ d.jX d.lV)) s) W (qq _ _)) (λ_ _ q=>q.1) ?_;rintro v ae ⟨_,oi,F,u,T⟩;obtain⟨P,Q,rfl⟩:=G _ _ _ F;obtain⟨rC,rfl,V⟩:=d.step t s u T;refine .bg (⟨(k+1,rC,oi,(P,Q),bump f aE[k].toNat,rows++[dx ad (bump f aE[k].toNat)]),rfl,rfl,⟨rfl,V,F,aJ,M,a,?_⟩,aJ⟩)
  grind
 rw[rm I,fS]at a l;refine .ah ⟨U.iW.all,λq=>?_,λ_=>⟨_,X,rfl,?_,J.le_trans U.sub (J.jZ U.jX U.lV),mC.mono U.at_.le U.xc⟩⟩
 grind
 grind
 refine .mk _ (Ad i Z.iW) (λ_ _ q=>aJ) ?_;rintro _ h1 ⟨g,c,rfl,t,a,s⟩;refine .mk _ (H [] _ _ h1 g c _ (cW _) c' (J.le_empty _) rfl a (qq _ _)) (λ_ _ q=>q.1) ?_;rintro v ae ⟨_,X,j,u,hk⟩;obtain⟨x,y,rfl⟩:=G _ _ _ j;obtain⟨cC,rfl,S⟩:=Z.step t s u hk;refine .mk (Nat×J×J×((Option aI×Nat×Nat)×(Option aI×Nat×Nat))×List Int×List (List Int)) [3,4,8,10,11,13,34,35,36] (λ(k,_,_,_,_,_)=>[.v (.func (.func fn) #[] #[]),.p 0 0,.p 2 0,.p 3 0,.v (h9 b),.p 4 0,.v (ab D r jn),.v (R r),.v (R k)]) (λ(_,_,_,(x,y),_,_)=>[.own [.v (R N),.v (ab A n cap)] 33,.own [.v (ab none 0 0),.v (ab none 0 0)] 349,.own [.v (ab none 0 0),.v (ab none 0 0)] 349,.own [.v (ab none 0 0),.v (ab none 0 0)] 349,.own [.v (ab x.1 x.2.1 x.2.2),.v (ab y.1 y.2.1 y.2.2)] 349])
  (λ(k,cC,X,(x,y),f,rows) aa=>aa=st cC gt bq (dx ad f) f/\p1 h bn cC X b gt bq N ad f k/\ar rows (.agg #[ab x.1 x.2.1 x.2.2,ab y.1 y.2.1 y.2.2]) X/\rows.length=k+1/\k<=r/\(fS N ad aE (bh N 0)).1=(fS N ad (aE.drop k) f).1/\
   dx ad (bh N 0)::(fS N ad aE (bh N 0)).2=rows++(fS N ad (aE.drop k) f).2) (λ(k,_,_,_,_,_)=>r-k) (0,cC,X,(x,y),bh N 0,[dx ad (bh N 0)]) (λ(_,_,_,_,_,_)=>rfl)
  ⟨rfl,S,j,rfl,cW _,rfl,rfl⟩ rfl rfl ?_
 rintro⟨k,cC,X,⟨x,y⟩,f,rows⟩ e aa ⟨rfl,U,j,lj,hk,a,l⟩;refine aY (λL=>?_) (λL=>?_);have M:k<r:=I;have K:aE.drop k=aE[k]::aE.drop (k+1):=mE I;obtain⟨g,C⟩:=w.cg I;rw[K,fS]at a l;have bad:∀z:Int,z≠0->(fS N ad aE (bh N 0)).1=z->vv h N ad aE (.agg #[ab none 0 0,ab none 0 0]) ar (ey #[.agg #[ab none 0 0,ab none 0 0],R z]) (st cC gt bq (dx ad f) f):=λz w e=>by
  refine⟨U.iW.all,λ_=>?_,λq=>?_⟩
  grind
  grind
 refine .m g C (.hp (R aE[k]) (by rw[bz];exact(w.mono U.iW.all).one C (r:=[R aE[k]]) aJ rfl) (aY (λB=>?_) (λB=>?_)));rw[aP (bW B)]at a;exact .ah (bad 100 aM a);refine aY (λE=>?_) (λE=>?_);rw[aP (bl E)]at a;exact .ah (bad 100 aM a);rw[aD I]at a l;refine .mk λbx Y=>?_;have z1:At cC cC b gt bq N ad f k:=⟨J.le_refl _,U.iW.j3,U.iW.sn⟩;refine .ah (.mk _ (Gv i z1 I aE[k] Y) ?_);rintro _ _ ⟨rfl,hH,rfl,o⟩;cases hm:may N ad f aE[k]with
 |false=>
  rw[hm,aD bd]at a;rw[Je hm]at o⊢;refine .ah ⟨(U.vU o).iW.all,λ_=>?_,λq=>?_⟩;rw[jt];show _=ey #[_,R (fS N ad aE (bh N 0)).1];rw[a];rfl
  grind
 |true=>
  rw[hm,aP rfl]at a l;rw[Gw hm]at o⊢;have d:=U.vU o;refine .mk _ (Ad i d.iW) (λ_ _ q=>aJ) ?_;rintro _ h1 ⟨g,c,rfl,t,W,s⟩;refine .mk _ (H rows _ X h1 g c _ I j (J.le_trans d.sub (J.le_trans (J.jZ d.jX d.lV) t)) (wk (J.le_trans d.sub (J.jZ d.jX d.lV)) s) W (qq _ _)) (λ_ _ q=>q.1) ?_;rintro v ae ⟨_,oi,F,u,T⟩;obtain⟨P,Q,rfl⟩:=G _ _ _ F;obtain⟨rC,rfl,V⟩:=d.step t s u T;refine .bg (⟨(k+1,rC,oi,(P,Q),bump f aE[k].toNat,rows++[dx ad (bump f aE[k].toNat)]),rfl,rfl,⟨rfl,V,F,aJ,M,a,?_⟩,aJ⟩)
  grind
 rw[rm I,fS]at a l;refine .ah ⟨U.iW.all,λq=>?_,λ_=>⟨_,X,rfl,?_,J.le_trans U.sub (J.jZ U.jX U.lV),mC.mono U.at_.le U.xc⟩⟩
 grind
 grind
 refine .ah (.mk _ (OB N n cap ad A h av aA i) ?_);rintro _ ae ⟨rfl,rfl⟩;refine aY (λh1=>?_) (λh1=>absurd h1 I);refine .ah ⟨J.le_refl _,λ_=>?_,λq=>?_⟩;rw[yn i];rfl;rw[yn i]at q;omega
open Classical in
noncomputable def J.on(h:J)(S:Nat->Prop):J:=λo=>if S o then h o else none
theorem J.AW(h:J) S:(h.on S).le h:=λo U e=>by
 unfold J.on at e;grind
theorem J.mw(a:S o):h.on S o=h o:=by unfold J.on;grind
theorem J.u2(a:h.on S o≠none):S o:=by
 unfold J.on at a;grind
theorem bJ.on{h:J}{bK size n cap:Nat}{A:Option aI}{xs:List ax}{S:Nat->Prop}(x:bJ h bK size A n cap xs)(dr:∀g,A=some g->S g.block):bJ (h.on S) bK size A n cap xs:=by
 obtain⟨h1,ae⟩:=x;refine⟨h1,?_⟩;rcases ae with ae|⟨b,d,a,c,e⟩
 grind
 exact bl ⟨b,d,a,by rw[J.mw (dr _ a)];exact c,e⟩
theorem bJ.one(x:bJ h 3 1 A n cap (l.map R)):bf h 1 A n (l.map λz=>[R z]):=by
 rw[<-xj]at x;exact x.dV (TN _) aM
def HJ(n:Nat)(cT:Nat->aI×Nat)(k:Nat):List ax:=(fL k).map λi=>ab (some (cT i).1) n (cT i).2
structure Iz(X:J)(n:Nat)(rows:List (List Int))(A:Option aI)(c:Nat)(cT:Nat->aI×Nat):Prop where
 outer:bJ X 27 1 A rows.length c (HJ n cT rows.length)
 inner:∀i(ai:i<rows.length),bJ X 3 1 (some (cT i).1) n (cT i).2 (rows[i].map R)
 apart:∀i o,i<rows.length->o<rows.length->i≠o->(cT i).1.block≠(cT o).1.block
 own:∀i,i<rows.length->∀g,A=some g->g.block≠(cT i).1.block
def L'(n:Nat)(rows:List (List Int))(v:ax)(X:J):Prop:=∃A c cT,v=ab A rows.length c/\Iz X n rows A c cT
theorem aBK n:L' n [] (ab none 0 0) J.empty:=⟨none,0,λ_=>(⟨0,0,none⟩,0),rfl,⟨rfl,bW ⟨rfl,rfl,rfl⟩⟩,(λi a=>aJ),(λi o a=>bd),λi a=>bd⟩
theorem aAa(Z:M<=4096):L5 193 (L' n) M n:=by
 rintro rows v X h g c cR W ⟨A,P,cT,rfl,d⟩ l H D rK;refine b6 aw2 rfl ?_;refine .abs 27 1 A rows.length P _ (d.outer.mono l) (.ah (.c3 1 _ [ab (some g) n c] rfl rfl (by simp;rfl) (by grind [eD]) I λy c2 sr=>?_));refine .b4 1 27 1 y (rows.length+1) c2 _ rfl λaa s r t=>.ah ?_;obtain⟨g2,rfl⟩:∃g2,y=some g2:=by
  cases y with
  |none=>grind
  |some g2=>simp
 have T:∀o U,X o=some U->(∀g,A=some g->g.block≠o)->aa o=some U:=λo U e O=>by
  refine s o U ?_;cases A with
  |none=>exact l o U e
  |some eX=>rw[eP,J.mJ _ (λq=>O eX rfl q.symm)];exact l o U e
 have uL:∀eX,A=some eX->eX.block≠g.block:=λeX e q=>d.outer.mem e aJ;have x:bJ aa 3 1 (some g) n c (cR.map R):=(D.del λg1 g2 b f=>aJ).mono s;have C:∀K:J,K.le h->mC K X->K.le (eP h A):=λK hk j o U e=>by
  cases A with
  |none=>exact hk o U e
  |some eX=>rw[eP,J.mJ _ (λq=>by subst q;rw[j _ (d.outer.mem rfl)]at e;cases e)];exact hk o U e
 have Y:∀i(a:i<rows.length),g2.block≠(cT i).1.block:=λi a q=>by
  have h1:=t g2 rfl;have ae:=(((d.inner i a).mono l).del (B:=A) λg1 g3 b f=>by injection b with b;subst b;exact(d.own i a g3 f).symm).mem rfl
  grind
 have G:g2.block≠g.block:=λq=>by
  have h1:=t g2 rfl;have ae:=(D.del (B:=A) λg1 g3 b f=>aJ).mem rfl
  grind
 have F:∀i(a:i<rows.length),(cT i).1.block≠g.block:=λi a q=>(d.inner i a).mem rfl aJ;let m:Nat->aI×Nat:=λi=>if i=rows.length then(g,c)else cT i;have k:m rows.length=(g,c):=by simp[m]
 have u:∀i,i<rows.length->m i=cT i:=λi a=>by grind
 let S:Nat->Prop:=λo=>o=g2.block\/o=g.block\/∃i,i<rows.length/\o=(cT i).1.block;have w:HJ n cT rows.length++[ab (some g) n c]=HJ n m (rows.length+1):=by
  simp only[HJ,Bz,fF,ec,List.map_nil,k];simp_all
 refine⟨aa.on S,⟨some g2,c2,m,by simp[kH],?_,λi a=>?_,λi o a z Q=>?_,λi a L e=>?_⟩,J.AW _ _,λK hk j V=>⟨J.le_trans (C K hk j) s,λo z=>?_⟩⟩;have r:bJ aa 27 1 (some g2) (rows.length+1) c2 (HJ n cT rows.length++[ab (some g) n c]):=r;rw[w]at r;simpa using r.on (S:=S) λq e=>by grind
 by_cases e:i=rows.length;subst e;rw[k];simpa using x.on (S:=S) λq e=>by grind
 have p:i<rows.length:=aJ;rw[u i p,List.getElem_append_left p];have N:=((((d.inner i p).mono l).del (B:=A) λg1 g3 b f=>by injection b with b;subst b;exact(d.own i p g3 f).symm)).mono s;exact N.on λq e=>by grind
 have h1:i<rows.length+1:=aJ;have ae:o<rows.length+1:=aJ;by_cases b:i=rows.length
 grind
 have E:i<rows.length:=I;by_cases f:o=rows.length
 grind
 rw[u i E,u o I];exact d.apart i o E I Q
 grind
 rcases J.u2 z with rfl|rfl|⟨i,a,rfl⟩;exact wk (C K hk j) (t g2 rfl);omega;exact j _ ((d.inner i a).mem rfl)
def lm:List (List Int)->List Int
 |[]=>[]
 |r::rs=>rs.foldl (λa b=>rn max a b) r
theorem azh(h:rows≠[]) t:lm (rows++[t])=rn max (lm rows) t:=by
 cases rows with
 |nil=>grind
 |cons r rs=>simp[lm]
def F3(n:Nat)(rows:List (List Int))(v:ax)(X:J):Prop:=(rows=[]->v=ab none 0 0)/\(rows≠[]->∃g c,v=ab (some g) n c/\bJ X 3 1 (some g) n c ((lm rows).map R))
theorem aBO n:F3 n [] (ab none 0 0) J.empty:=⟨λ_=>rfl,λh=>absurd rfl h⟩
def AU(a b:List Int)(k:Nat):List Int:=(rn max a b).take k++a.drop k
theorem azp a b:AU a b 0=a:=dC
theorem azm{b:List Int}(c:a.length=n)(d:b.length=n):AU a b n=rn max a b:=by
 unfold AU
 grind
theorem azn{b:List Int}{k:Nat}(c:a.length=n)(d:b.length=n)(hk:k<n):(AU a b k)[k]?=some a[k]:=by
 unfold AU
 grind
theorem azo{b:List Int}{k:Nat}(c:a.length=n)(d:b.length=n)(hk:k<n):(AU a b k).set k (max a[k] b[k])=AU a b (k+1):=by
 unfold AU;have ak:((rn max a b).take k).length=k:=aJ;rw[uq _ _ I,ak,wU,mE I,ale,kJ aJ,List.getElem_zipWith];simp
theorem aAb(Q:n<=4096):L5 166 (F3 n) M n:=by
 rintro rows v X h g c cR T ⟨E,O⟩ G F D y;by_cases p:rows=[];subst p;obtain rfl:=E rfl;refine b6 aei rfl (.ah ⟨h.on λo=>o=g.block,⟨λe=>by simp at e,λ_=>⟨g,c,rfl,?_⟩⟩,J.AW _ _,λK hk i z=>⟨hk,λo l=>?_⟩⟩);exact D.on λq e=>by grind
 rw[J.u2 l];exact z;obtain⟨C,u,rfl,aT⟩:=O p;have x:(lm rows).length=n:=by have:=aT.1;grind
 have S:C.block≠g.block:=λq=>aT.mem rfl aJ;obtain⟨a,rfl⟩:∃a,C=⟨a,0,none⟩:=by
  rcases aT.2 with⟨q,_⟩|⟨b,_,q,_⟩
  grind
  grind
 have f:=(D.del (B:=some ⟨a,0,none⟩) λg1 g2 d A=>aJ).one;have V:=f.cg;refine b6 aei rfl ?_;refine .mk Nat [0,10,11,12] (λk=>[.v (ab (some ⟨a,0,none⟩) n u),.v (ab (some g) n c),.v (R n),.v (R k)]) (λ_=>[]) (λk aa=>k<=n/\(h.del a).le aa/\bJ aa 3 1 (some ⟨a,0,none⟩) n u ((AU (lm rows) cR k).map R)) (λk=>n-k) 0 (λ_=>rfl) ⟨cW _,J.ZR _ _,by rw[azp];exact aT.mono G⟩ rfl rfl ?_;refineλk e aa⟨hk,i,j⟩=>aY (λh1=>?_) (λh1=>?_);have t:k<n:=I;refine .m g rfl (.hp (R cR[k]) (by rw[bz];exact(f.mono i).one rfl (r:=[R cR[k]]) aJ rfl) (.mk ⟨a,0,none⟩ rfl I I (.hp (R ((lm rows)[k]'I)) (by rw[bz];exact j.one.one rfl (r:=[R ((lm rows)[k]'I)]) (by simp[azn x y t]) rfl) (.mk ⟨a,0,none⟩ rfl I I ?_))));obtain⟨g3,cs,N,d,A,H,L⟩:=j.write (off:=k) I (R (max ((lm rows)[k]'I) (cR[k]'I)));injection d with d;injection d with d;subst d;refine .hp a k 3 cs N (by rw[bz,add_lit,eV,dM]) A H (.bg (⟨k+1,rfl,rfl,⟨t,λo U q=>?_,?_⟩,I⟩));rw[J.cB _ _ (λw=>by subst w;rw[J.Gn]at q;cases q)];exact i o U q;rw[<-azo x y t,lM];exact L;have:k=n:=I;subst this;rw[azm x y,<-azh p]at j;refine .ah ⟨aa.on λo=>o=a,⟨λe=>by simp at e,λ_=>⟨⟨a,0,none⟩,u,rfl,?_⟩⟩,J.AW _ _,λK hk s z=>?_⟩;exact j.on λq e=>by grind
 have P:K a=none:=s a (aT.mem rfl);refine⟨λo U q=>i o U ?_,λo l=>by rw[J.u2 l];exact P⟩;rw[J.mJ _ (λw=>aJ)];exact hk o U q
def Ma(n:Nat)(rows:List (List Int))(v:ax)(X:J):Prop:=(rows=[]->v= .agg #[ab none 0 0,ab none 0 0])/\(rows≠[]->∃d a c b,v= .agg #[ab (some d) n a,ab (some c) n b]/\bJ X 3 1 (some d) n a ((rows.headD []).map R)/\bJ X 3 1 (some c) n b ((rows.getLastD []).map R))
theorem aBM n:Ma n [] (.agg #[ab none 0 0,ab none 0 0]) J.empty:=⟨λ_=>rfl,λh=>absurd rfl h⟩
theorem aBN n rows v X(h:Ma n rows v X):∃x y:Option aI×Nat×Nat,v= .agg #[ab x.1 x.2.1 x.2.2,ab y.1 y.2.1 y.2.2]:=by
 by_cases a:rows=[];exact⟨(none,0,0),(none,0,0),h.1 a⟩;obtain⟨f,b,d,c,e,_⟩:=h.2 a;simp_all
set_option maxRecDepth 100000 in
theorem aAc:X7 163 (Ma n) M n:=by
 rintro rows v X h g c cR y ⟨p,u⟩ s r k A;have m:(rows++[cR]).getLastD []=cR:=bd;by_cases i:rows=[];subst i;obtain rfl:=p rfl;refine b6 aeg rfl ?_;have l:bJ (h.on λo=>o=g.block) 3 1 (some g) n c (cR.map R):=k.on λq e=>by grind
 refine .ah ⟨J.le_refl _,h.on λo=>o=g.block,⟨λe=>by simp at e,λ_=>⟨g,c,g,c,rfl,l,l⟩⟩,J.AW _ _,λK hk f d=>⟨hk,λo a=>?_⟩⟩;rw[J.u2 a];exact d;obtain⟨j,t,z,x,rfl,aT,w⟩:=u i;have b:(rows++[cR]).headD []=rows.headD []:=by cases rows with
  |nil=>grind
  |cons=>rfl
 refine b6 aeg rfl (.ah ⟨J.le_refl _,h.on λo=>o=g.block\/o=j.block,⟨λe=>by simp at e,λ_=>⟨j,t,g,c,rfl,?_,?_⟩⟩,J.AW _ _,λK hk f d=>⟨hk,λo a=>?_⟩⟩);rw[b];exact(aT.mono s).on λq e=>by grind
 rw[m];exact k.on λq e=>by grind
 rcases J.u2 a with rfl|rfl;omega;exact f _ (aT.mem rfl)
theorem aiL{b:List Int}{k:Nat}(h:a.take k=b.take k) c(d:k<b.length):(a.take (k+1)=b.take (k+1))↔a[k]=b[k]:=by
 rw[kJ c,kJ d,h];exact⟨λe=>by have:=List.append_cancel_left e;grind,λe=>by rw[e]⟩
theorem ao9 A B n m j l(a b:List Int) h(aT:bf h 1 A n (a.map λz=>[R z]))(d:bf h 1 B m (b.map λz=>[R z]))(t:n<=9223372036854775806):Fn aB 164 #[ab A n j,ab B m l] h λr aa=>r=c5 (decide (a=b))/\aa=h:=by
 have u:a.length=n:=by simpa using aT.len
 have w:b.length=m:=by simpa using d.len
 refine b6 awQ rfl (aY (λh1=>?_) (λh1=>?_));refine .ah ⟨?_,rfl⟩;rw[io (λe=>aJ)];rfl;have p:n=m:=I;subst p;refine .mk Nat [0,1,12,13] (λk=>[.v (ab A n j),.v (ab B n l),.v (R n),.v (R k)]) (λ_=>[]) (λk aa=>aa=h/\k<=n/\a.take k=b.take k) (λk=>n-k) 0 (λ_=>rfl) ⟨rfl,cW _,bd⟩ rfl rfl (λk e aa⟨rfl,hk,f⟩=>aY (λae=>?_) (λae=>?_));have q:k<n:=I;obtain⟨g,i⟩:=aT.cg I;obtain⟨g2,o⟩:=d.cg I;have s:=aiL f I I;refine .m g i (.hp (R (a[k]'I)) (by rw[bz];exact aT.one i (r:=[R (a[k]'I)]) aJ rfl) (.m g2 o (.hp (R (b[k]'I)) (by rw[bz];exact d.one o (r:=[R (b[k]'I)]) aJ rfl) (aY (λc=>?_) (λc=>?_)))));refine .ah ⟨?_,rfl⟩;rw[io (λe=>c aJ)];rfl;exact .bg (⟨k+1,rfl,rfl,⟨rfl,q,s.2 (akb.1 c)⟩,I⟩);have:k=n:=I;subst this;refine .ah ⟨?_,rfl⟩;rw[lN I,lN I]at f;rw[gG f];rfl
structure Ip(h:J)(A:Option aI)(rows:List (List Int))(cT:Nat->Option aI×Nat):Prop where
 outer:bf h 1 A rows.length ((fL rows.length).map λi=>[ab (cT i).1 (rows.getD i []).length (cT i).2])
 inner:∀i,i<rows.length->bf h 1 (cT i).1 (rows.getD i []).length ((rows.getD i []).map λz=>[R z])
theorem Ip.mono{h aa:J}{A:Option aI}{rows:List (List Int)}{cT:Nat->Option aI×Nat}(x:Ip h A rows cT)(l:h.le aa):Ip aa A rows cT:=⟨x.outer.mono l,λi a=>(x.inner i a).mono l⟩
theorem aCu n cT(rows:List (List Int))(ak:∀i,i<rows.length->(rows.getD i []).length=n):HJ n cT rows.length=((fL rows.length).map λi=>[ab (some (cT i).1) (rows.getD i []).length (cT i).2]).flatten:=by
 have:∀l:List Nat,(∀i∈l,i<rows.length)->l.map (λi=>ab (some (cT i).1) n (cT i).2)=(l.map λi=>[ab (some (cT i).1) (rows.getD i []).length (cT i).2]).flatten:=by
  intro l;induction l with
  |nil=>simp
  |cons x l b=>
   grind
 exact this _ λi a=>uo.1 a
theorem Iz.lens{c:Nat}{cT:Nat->aI×Nat}(x:Iz X n rows A c cT) i(a:i<rows.length):(rows.getD i []).length=n:=by
 have:=(x.inner i a).1
 grind
theorem Iz.lists{c:Nat}{cT:Nat->aI×Nat}(x:Iz X n rows A c cT):Ip X A rows λi=>(some (cT i).1,(cT i).2):=by
 refine⟨?_,λi a=>?_⟩;have:=x.outer;rw[aCu n cT rows x.lens]at this;exact this.dV (λr b=>aJ) aM;have:=(x.inner i a).one;rw[x.lens i a,cx,bZ a]
 grind
theorem azf{α:Type}{f:Nat->α}{k:Nat}(hk:k<n):((fL n).map f)[k]?=some (f k):=by
 grind
theorem anp N n cap ad A D r b aE h(i:bf h 5 A n (ad.map bT.cells))(d:n*40<=140737488355328)(c:bf h 1 D r (aE.map λz=>[R z])):Fn aB 158 #[mW N A n cap,ab D r b] h λv aa=>vv h N ad aE (ab none 0 0) (L' ad.length) v aa:=by
 refine b6 awN rfl ?_;refine .ah (.mk _ (aA0 193 (L' ad.length) N n cap ad A D r b aE h i d c (aBK _) (aAa aM)) ?_);rintro v aa ⟨a,e,f⟩;by_cases he:(eo N ad aE).1=0;obtain⟨v,X,rfl,h1,ae,g⟩:=f he;exact .ah ⟨a,λq=>absurd he q,λ_=>⟨v,X,rfl,h1,ae,g⟩⟩;obtain rfl:=e he;exact .ah ⟨a,λ_=>rfl,λq=>absurd q he⟩
theorem aA2 N n cap ad A D r a aE h(d:bf h 5 A n (ad.map bT.cells))(b:n*40<=140737488355328)(e:bf h 1 D r (aE.map λz=>[R z])):Fn aB 165 #[mW N A n cap,ab D r a,ab none 0 0,.func (.func 166) #[] #[]] h λv aa=>vv h N ad aE (ab none 0 0) (F3 ad.length) v aa:=by
 by_cases c:e' N ad=0;exact aA1 166 (F3 ad.length) N n cap ad A D r a aE h d b e (aBO _) (aAb (by have:=(lT c).2.2.1;omega));exact aA3 166 (F3 ad.length) N n cap ad A D r a aE h d b c
theorem azw N n cap ad A D r b aE h(i:bf h 5 A n (ad.map bT.cells))(d:n*40<=140737488355328)(c:bf h 1 D r (aE.map λz=>[R z])):Fn aB 121 #[mW N A n cap,ab D r b] h λv aa=>vv h N ad aE (ab none 0 0) (F3 ad.length) v aa:=by
 refine b6 awp rfl ?_;refine .ah (.mk _ (aA2 N n cap ad A D r b aE h i d c) ?_);rintro v aa ⟨a,e,f⟩;by_cases he:(eo N ad aE).1=0;obtain⟨v,X,rfl,h1,ae,g⟩:=f he;exact .ah ⟨a,λq=>absurd he q,λ_=>⟨v,X,rfl,h1,ae,g⟩⟩;obtain rfl:=e he;exact .ah ⟨a,λ_=>rfl,λq=>absurd q he⟩
def AE(N:Int)(ad:List bT)(aE:List Int):Bool:=decide ((eo N ad aE).1=0)&&decide ((eo N ad aE).2.headD []=(eo N ad aE).2.getLastD [])
theorem QT{N:Int}(h:(eo N ad aE).1=0):(eo N ad aE).2≠[]:=by
 grind [eo]
theorem YI{N:Nat}{ad:List bT}:∀aE f,(fS N ad aE f).2.length<=aE.length
 |[],f=>dz _
 |v::aE,f=>by
  unfold fS;split;simp;split;have:=YI (N:=N) (ad:=ad) aE (bump f v.toNat)
  grind
  simp
theorem anr N ad aE:(eo N ad aE).2.length<=2049:=by
 unfold eo;split;split;simp;have:=YI (N:=N.toNat) (ad:=ad) aE (bh N.toNat 0)
 grind
 simp
theorem atf N n cap ad A D r c aE h(a:bf h 5 A n (ad.map bT.cells))(e:n*40<=140737488355328)(d:bf h 1 D r (aE.map λz=>[R z])):Fn aB 120 #[mW N A n cap,ab D r c] h λv aa=>v=ey #[c5 (AE N ad aE),R (eo N ad aE).1]/\h.le aa:=by
 have p:ad.length=n:=by simpa using a.len
 refine b6 awo rfl ?_;refine .ah (.mk _ (aA4 163 (Ma ad.length) N n cap ad A D r c aE h a e d (aBM _) (aBN _) aAc) ?_);rintro v aa ⟨b,i,j⟩;by_cases he:(eo N ad aE).1=0;obtain⟨v,X,rfl,h1,ae,k⟩:=j he;obtain⟨t,m,s,o,rfl,g,f⟩:=h1.2 (QT he);refine .ah (.mk _ (ao9 _ _ _ _ _ _ _ _ _ (g.mono ae).one (f.mono ae).one I) ?_);rintro _ k ⟨rfl,rfl⟩;have l:AE N ad aE=decide ((eo N ad aE).2.headD []=(eo N ad aE).2.getLastD []):=by grind [AE]
 refine .ah ⟨?_,b⟩;rw[l,he];rfl;obtain rfl:=i he;refine aY (λq=>absurd q he) (λ_=>?_);refine .ah ⟨?_,b⟩;rw[AE,io he];rfl
def K0(A:Option aI)(n cap:Nat)(t:Int):ax:=.agg #[ab A n cap,R t]
end Go.Sx
namespace Go.Sx
open Go.Proofs Go.Shelf Go.Sort
set_option maxRecDepth 100000
set_option maxHeartbeats 0
set_option linter.all false
def cN(x:Int×Int):List ax:=[R x.1,R x.2]
theorem KS:∀xs:List (Int×Int),(xs.map cN).flatten.length=xs.length*2
 |[]=>rfl
 |x::xs=>by simp only[ec,oR,List.length_append,KS xs,iv];show 2+_=_;omega
theorem OV:∀(xs:List (Int×Int)) o,o<xs.length*2->(xs.map cN).flatten[o]?=some ((sj xs.toArray[o/2]!)[o%2]!)
 |[],o,h=>by simp at h
 |x::xs,0,_=>rfl
 |x::xs,1,_=>rfl
 |x::xs,o+2,h=>by
  have c:=OV xs o (by simp only[iv]at h;omega);have b:(o+2)/2=o/2+1:=I;have a:(o+2)%2=o%2:=I;have d:(x::xs).toArray[o/2+1]! =xs.toArray[o/2]! :=by simp[getElem!_def]
  have e:((x::xs).map cN).flatten[o+2]?=(xs.map cN).flatten[o]? :=rfl;rw[b,a,d,e,c]
theorem aqn d:(Gx sj 2 d).toList=(d.toList.map cN).flatten:=by
 apply akQ;intro o;by_cases h:o<d.size*2;rw[OV _ _ (by simpa using h)];have a:o<(Gx sj 2 d).size:=by simpa using h
 have h1:=get_flatK sj 2 d o h;rw[getElem!_pos _ o a]at h1;rw[zx,H1 a,h1];rw[l6 (by simpa using h),l6 (by rw[KS];simpa using h)]
theorem aBD F a(bn:F.size<=a.size):(HD id 0 F a).size=a.size/\(HD id 0 F a).toList.take F.size=F.toList:=by
 refine⟨by simp[HD],?_⟩;apply akQ;intro o;rw[FP];by_cases h:o<F.size;rw[aP h,zx,zx];simp only[HD,Array.getElem?_mapIdx,cW,true_and,dM,h,lY,Nat.sub_zero];rw[H1 I,H1 h,getElem!_pos F o h];rfl;rw[aD h,l6 (by simpa using h)]
structure QJ(lt:Int×Int->Int×Int->Bool)(xs aO:List (Int×Int)):Prop where
 perm:aO.Perm xs
 ord:aO.Pairwise λa b=>lt b a=false
structure QI(h:J)(bK:Nat)(A:Option aI)(n cap:Nat)(lt:Int×Int->Int×Int->Bool)(xs:List (Int×Int))(v:ax)(aa:J)(aO:List (Int×Int)):Prop where
 ret:v=ey #[]
 Fm:QJ lt xs aO
 row:bJ aa bK 2 A n cap (aO.map cN).flatten
 same:∀o,(∀g,A=some g->o≠g.block)->aa o=h o
theorem apD{h:J}{w:bw}(hw:ng h w):Ext h w h w:=⟨hw,rfl,rfl,rfl,dz _,λ_ _ _=>rfl,λ_ a=>bW a⟩
theorem ail{j:Ren}(L:SlLaysF0.n6 aB j)(bK g:Nat)(V:j.t 24=bK)(s:∀w,(isAgg bK).run aB w= .ok true w)(p:∀w,(Go.sizeOf bK).run aB w= .ok 2 w)(S:∃fn,Tryz.prog.funcs[j.f 6]?=some fn/\fn.body.isSome=true/\(fn.name== "runtime.NumGoroutine")=false) k(hO:SWO (ltOf k))(lu:∀args w,(callFunc g args).run aB w= .ok (.enter g args) w)(ay:∀x y W,FH aB g #[.agg #[bA .i64 x.1,bA .i64 x.2],.agg #[bA .i64 y.1,bA .i64 y.2]] W λe bk=>e= .returned (bA .i64 (k x y))/\∃q pc,bk=grow (W.drewN q) pc) A n cap xs h(u:bJ h bK 2 A n cap (xs.map cN).flatten)(M:n<4611686018427387904):Fn aB (j.f 6) #[ab A n cap,.func (.func g) #[] #[]] h λv aa=>∃aO,QI h bK A n cap (ltOf k) xs v aa aO:=by
 subst V;have d:xs.length=n:=by have:=u.1;rw[KS]at this;omega
 refine⟨S,λw hw=>?_⟩;rcases u.2 with⟨rfl,rfl,rfl⟩|⟨b,z,rfl,B,O,K,F,N⟩;obtain rfl:xs=[]:=List.eq_nil_of_length_eq_zero d;refine(AnyF.slices_SortFunc_none L none 0 _ w).mono ?_;rintro e bk ⟨rfl,rfl⟩;exact⟨_,h,rfl,⟨[],rfl,⟨.refl _,.nil⟩,u,λ_ _=>rfl⟩,apD hw⟩;have l:=hw _ _ B;have E:b<w.heap.size:=(zw.1 l).1;have hH:HoldsK sj 2 w b 0 xs.toArray:=by
  intro o a;have a:o<xs.length*2:=by simpa using a
  have h1:=OV xs o a;rw[<-N,FP,aP I]at h1;have ae:=get_flatK sj 2 xs.toArray o (by simpa using a);rw[ae];refine⟨?_,?_⟩;unfold World.cell?;simp only[l];simp only[Option.isSome_none,ug,mm,dM];rw[<-zx,h1];rfl;unfold World.frozen?;simp only[l];simp
 have P:CmpLays aB g #[] sj 2 k b 0 xs.toArray.size w:=λ_ _ _ _ x y=>ay x y _;have Z:xs.toArray.size<4611686018427387904:=by simpa[d]using M
 have C:=AnyQ.slices_SortFunc L 2 s p sj (λ_=>rfl) (λx v D=>by simp[sj]at D;rcases D with rfl|rfl<;>rfl) k hO g #[] b 0 cap xs.toArray w lu P hH E Z;have es:xs.toArray.size=n:=by simpa using d
 rw[es]at C;refine C.mono ?_;rintro e bk ⟨rfl,c,X,os,hp,T,rfl⟩;have m:c.size=n:=by rw[hp.1];exact es
 have bn:(Gx sj 2 c).size=n*2:=by simp[m]
 obtain⟨Y,G⟩:=aBD (Gx sj 2 c) z (by rw[bn,F];omega);rw[bn,aqn]at G;have H:∀o,(sortWorldK sj 2 w b 0 X c os).heap[o]?=if o<w.heap.size then(if o=b then some (bb (HD id 0 (Gx sj 2 c) z) (j.t 24) (0,0))else w.heap[o]?)else os[o-w.heap.size]? :=by
  intro o;show((w.heap.modify b (onCells (HD id 0 (Gx sj 2 c))))++os)[o]?=_;rw[Array.getElem?_append,ajX];split;rw[Array.getElem?_modify];by_cases a:b=o;subst a;rw[aP rfl,aP rfl,l];rfl;rw[aD a,aD (d' a)];rfl
 refine⟨_,h.put b (bb (HD id 0 (Gx sj 2 c) z) (j.t 24) (0,0)),rfl,⟨c.toList,rfl,⟨?_,?_⟩,?_,λo a=>?_⟩,?_⟩;have:=hp.2.2;have R:c.extract 0 n=c:=by rw[<-m];simp
 have Q:xs.toArray.extract 0 n=xs.toArray:=by rw[<-es];simp
 rw[R,Q]at this;simpa using this;rw[LW];intro i o r a tu;have r:i<c.size:=by simpa using r
 have a:o<c.size:=by simpa using a
 have:=T i o (cW _) tu I;rw[getElem!_pos c i r,getElem!_pos c o a]at this;simpa using this;refine⟨by rw[KS];simp[m],bl ⟨b,_,rfl,J.b1 _ _ _,O,K,by rw[Y,F],G⟩⟩;exact J.cB _ _ (a _ rfl);refine⟨λo U a=>?_,rfl,rfl,rfl,?_,λo a d=>?_,λo a=>?_⟩;rw[H];by_cases e:o=b;subst e;rw[J.b1]at a;injection a with a;subst a;rw[aP E,aP rfl];rw[J.cB _ _ e]at a;have h1:=hw _ _ a;rw[aP (zw.1 h1).1,aD e];exact h1;show _<=((w.heap.modify b _)++os).size;rw[Array.size_append,ajX];omega;rw[H,aP a,aD (λe=>by subst e;rw[B]at d;cases d)];by_cases e:o=b;subst e;exact bW (by rw[B];simp);rw[J.cB _ _ e]at a;exact bW a
theorem aDu A n cap xs h(b:bJ h 278 2 A n cap (xs.map cN).flatten)(a:n<4611686018427387904):Fn aB 159 #[ab A n cap,.func (.func 160) #[] #[]] h λv aa=>∃aO,QI h 278 A n cap (ltOf Gh) xs v aa aO:=ail Tryz.aDw 278 160 rfl Tryz.isAgg278 Tryz.sizeOf278 ⟨Tryz.f159,Tryz.func159,e2,e2⟩ Gh aD5 (enters_of alY e2 rfl) aof A n cap xs h b a
theorem aDv A n cap xs h(b:bJ h 142 2 A n cap (xs.map cN).flatten)(a:n<4611686018427387904):Fn aB 62 #[ab A n cap,.func (.func 63) #[] #[]] h λv aa=>∃aO,QI h 142 A n cap (ltOf B0) xs v aa aO:=ail Tryz.aDy 142 63 rfl Tryz.isAgg142 Tryz.sizeOf142 ⟨Tryz.f62,Tryz.func62,e2,e2⟩ B0 aD4 (enters_of al0 e2 rfl) aog A n cap xs h b a
end Go.Sx
namespace Go.Sx
open Go.Proofs Go.Sort
set_option maxRecDepth 100000
set_option maxHeartbeats 0
set_option linter.all false
variable {h:J}{row:List Int}{l:List il}{b cq m:Nat}{S:Nat->Nat->Prop}
def oJ(r:List Int)(i:Nat):Bool:=decide (0<r.getD i 0)
def wo(rows:List (List Int))(i o:Nat):Bool:=rows.any λr=>oJ r i&&oJ r o
abbrev c9:=Int×Int
def kz(rows:List (List Int))(m:Nat):List c9:=(fL m).flatMap λi=>((List.range' (i+1) (m- (i+1))).filter (wo rows i)).map λo:Nat=>((i:Int),(o:Int))
def yf(a b:c9):Prop:=a.1<b.1\/a.1=b.1/\a.2<b.2
theorem OW a:¬yf a a:=by unfold yf;omega
theorem aBn{a b c:c9}:yf a b->yf b c->yf a c:=by unfold yf;omega
theorem aiw:∀xs aO:List c9,xs.Pairwise yf->aO.Pairwise yf->(∀a,a∈xs↔a∈aO)->xs=aO
 |[],[],_,_,_=>rfl
 |[],y::aO,_,_,h=>by have:=(h y).2 (hU ..);grind
 |x::xs,[],_,_,h=>by have:=(h x).1 (hU ..);grind
 |x::xs,y::aO,i,f,h=>by
  obtain⟨h1,ae⟩:=alc.1 i;obtain⟨d,g⟩:=alc.1 f;have e:x=y:=by
   rcases ek.1 ((h x).1 (hU ..))with e|e;omega;rcases ek.1 ((h y).2 (hU ..))with c|c
   grind
   exact absurd (aBn (h1 _ c) (d _ e)) (OW _)
  subst e;rw[aiw xs aO ae g λa=>?_];constructor;intro b;rcases ek.1 ((h a).1 (gX _ b))with e|e;subst e;exact absurd (h1 _ b) (OW _);omega;intro b;rcases ek.1 ((h a).2 (gX _ b))with e|e;subst e;exact absurd (d _ b) (OW _);omega
theorem HB{rows:List (List Int)}{p:c9}:p∈kz rows m↔∃i o:Nat,p=((i:Int),(o:Int))/\i<o/\o<m/\wo rows i o=true:=by
 unfold kz
 grind
theorem agQ rows m:(kz rows m).Pairwise yf:=by
 unfold kz;rw[List.pairwise_flatMap];refine⟨λi _=>?_,?_⟩;rw[List.pairwise_map];refine XO _ ?_;refine akI (λ{a b}(h:a<b)=>?_) (List.pairwise_lt_range' (s:=i+1) (n:=m- (i+1)));exact bl ⟨rfl,I⟩;refine akI (λ{a b}(h:a<b) x d y c=>?_) List.pairwise_lt_range;obtain⟨p,_,rfl⟩:=cU.1 d;obtain⟨q,_,rfl⟩:=cU.1 c;exact bW I
theorem aDA{xs aO:List c9}{rows:List (List Int)}(s:QJ (ltOf Gh) xs aO)(c:xs.Nodup)(hm:∀p,p∈xs↔p∈kz rows m):aO=kz rows m:=by
 refine aiw _ _ ?_ (agQ rows m) λa=>(s.perm.mem_iff).trans (hm a);have d:aO.Nodup:=(s.perm.nodup_iff).2 c;have:=s.ord.and d;refine this.imp λ{a b} h=>?_;obtain⟨h1,ae⟩:=h;rw[Oi]at h1;have h1:=y' h1;unfold yf
 grind
theorem U2{α β:Type}{f:α->β}:∀{l:List α},(l.map f).Nodup->∀{x y},x∈l->y∈l->f x=f y->x=y
 |[],_,_,_,h,_,_=>by cases h
 |a::l,b,x,y,i,g,e=>by
  rw[ec,List.nodup_cons]at b;rcases ek.1 i with d|d
  grind
  rcases ek.1 g with c|c
  grind
  exact U2 b.2 d c e
theorem YS{k:List Int}:∀l:List il,(jC l k).isSome=true↔k∈l.map (·.k)
 |[]=>by simp[jC]
 |x::l=>by
  simp only[jC,ec,ek];by_cases h:k=x.k
  grind
  rw[aD h,YS l];simp[h]
theorem ajm(k:List Int)(v:ax)(c:Nat):∀l:List il,(upsert l k v c).map (·.k)=(if(jC l k).isSome then l.map (·.k)else l.map (·.k)++[k])/\(upsert l k v c).map (·.born)=(if(jC l k).isSome then l.map (·.born)else l.map (·.born)++[c])
 |[]=>by simp[upsert,jC]
 |x::l=>by
  obtain⟨h1,ae⟩:=ajm k v c l;simp only[upsert,jC]
  grind
structure lO(h:J)(b:Nat)(S:Nat->Nat->Prop)(l:List il)(cq:Nat):Prop where
 at_:h b=some (kb 7 l cq)
 sub:∀k∈l.map (·.k),∃i o:Nat,k=[(i:Int),(o:Int)]/\S i o
 all:∀i o:Nat,S i o->[(i:Int),(o:Int)]∈l.map (·.k)
 dS:(l.map (·.k)).Nodup
 nN:∀x∈l.map (·.born),x<cq
 jD:(l.map (·.born)).Nodup
theorem lO.aze(m:lO h b S l cq):yb h b 7 l cq:=⟨m.at_,λx a=>by obtain⟨i,o,e,_⟩:=m.sub _ (FR (f:=(·.k)) a);rw[e];rfl⟩
theorem lO.start(a:h b=some (.map #[] 0)):lO h b (λ_ _=>False) [] 0:=⟨a,(λ_ h=>by cases h),(λ_ _ h=>h.elim),.nil,(λ_ h=>by cases h),.nil⟩
theorem lO.eqv{T:Nat->Nat->Prop}(m:lO h b S l cq)(e:∀i o,S i o↔T i o):lO h b T l cq:=⟨m.at_,λk hk=>by obtain⟨i,o,a,c⟩:=m.sub k hk;grind,λi o d=>m.all i o ((e i o).2 d),m.dS,m.nN,m.jD⟩
theorem lO.ins{ae:J}(m:lO h b S l cq)(i o:Nat) v:lO (ae.put b (kb 7 (upsert l [i,o] v cq) (if(jC l [i,o]).isSome then cq else cq+1))) b (λp q=>S p q\/(p=i/\q=o)) (upsert l [i,o] v cq) (if(jC l [i,o]).isSome then cq else cq+1):=by
 obtain⟨h1,ae⟩:=ajm [(i:Int),(o:Int)] v cq l;have hk:=YS (k:=[(i:Int),(o:Int)]) l;refine⟨J.b1 _ _ _,?_,?_,?_,?_,?_⟩;intro k f;rw[h1]at f;split at f;obtain⟨p,q,a,c⟩:=m.sub k f
 grind
 rcases ej.1 f with f|f;obtain⟨p,q,a,c⟩:=m.sub k f
 grind
 grind
 intro p q j;rw[h1];rcases j with j|⟨rfl,rfl⟩;have:=m.all p q j
 grind
 grind
 rw[h1];split;exact m.dS;rename_i g;rw[oS];refine⟨m.dS,bd,λa n c ay e=>?_⟩
 grind
 intro x d;rw[ae]at d;split at d;rename_i g;rw[aP g];exact m.nN x d;rename_i g;rw[aD g];rcases ej.1 d with d|d;have:=m.nN x d;omega
 grind
 rw[ae];split;exact m.jD;rw[oS];refine⟨m.jD,bd,λa n c ay e=>?_⟩;rw[hV.1 ay]at e;subst e;have:=m.nN _ n;omega
def lB(l:List il)(seen:Array Nat):List il:=l.filter λx=>!seen.contains x.born
theorem ae3 l seen:(leftOf (l.map (kh 7)).toArray seen).toList=(lB l seen).map (kh 7):=by
 unfold leftOf lB;simp only[Array.toList_filter,List.filter_map];rfl
theorem ayN{seen:Array Nat}{x:il}(a:x∈lB l seen):(lB l (seen.push x.born)).length<(lB l seen).length:=by
 have e:lB l (seen.push x.born)=(lB l seen).filter λy=>!(y.born==x.born):=by
  unfold lB;rw[List.filter_filter]
  grind
 rw[e,List.length_filter_lt_length_iff_exists]
 grind
structure zH(l:List il)(seen:Array Nat)(outs:List c9):Prop where
 dS:outs.Nodup
 sub:∀p∈outs,∃x∈l,x.k=[p.1,p.2]/\seen.contains x.born=true
 all:∀x∈l,seen.contains x.born=true->∃p∈outs,x.k=[p.1,p.2]
theorem zH.start l:zH l #[] []:=⟨.nil,(λ_ h=>by cases h),λx _ h=>by simp at h⟩
theorem zH.step{l:List il}{seen:Array Nat}{outs:List c9}(g:zH l seen outs)(hk:(l.map (·.k)).Nodup)(n:(l.map (·.born)).Nodup){x:il}(m:x∈lB l seen){p:c9}(hp:x.k=[p.1,p.2]):zH l (seen.push x.born) (outs++[p]):=by
 obtain⟨h,s⟩:=ak8.1 m;have s:seen.contains x.born=false:=aJ;refine⟨?_,λq d=>?_,λy b o=>?_⟩;rw[oS];refine⟨g.dS,bd,λa j c ay e=>?_⟩;rw[hV.1 ay]at e;subst e;obtain⟨y,b,f,r⟩:=g.sub _ j;have:=U2 hk h b (hp.trans f.symm)
 grind
 rcases ej.1 d with d|d;obtain⟨y,b,f,r⟩:=g.sub q d
 grind
 grind
 rw[Array.contains_push]at o;by_cases e:y.born=x.born;have:=U2 n b h e
 grind
 have i:seen.contains y.born=true:=by
  grind
 obtain⟨q,d,f⟩:=g.all y b i
 grind
theorem zH.done{seen:Array Nat}{outs:List c9}(g:zH l seen outs)(m:lO h b S l cq)(al:lB l seen=[]) p:p∈outs↔∃i o:Nat,p=((i:Int),(o:Int))/\S i o:=by
 constructor;intro hp;obtain⟨x,a,e,_⟩:=g.sub p hp;obtain⟨i,o,j,c⟩:=m.sub _ (FR (f:=(·.k)) a)
 grind
 rintro⟨i,o,rfl,c⟩;obtain⟨x,a,e⟩:=cU.1 (m.all i o c);have d:seen.contains x.born=true:=by
  refine wJ λn=>?_;have:x∈lB l seen:=ak8.2 ⟨a,aJ⟩
  grind
 obtain⟨p,hp,j⟩:=g.all x a d
 grind
theorem fK:∀a e,lH e a (a.map e)=e
 |[],e=>rfl
 |d::b,e=>by
  have h1:ji e d (e d)=e:=by
   funext t;unfold ji;cases c:hW t d with
   |true=>simp_all
   |false=>rfl
  rw[ec,lH,h1];exact fK b e
abbrev zL(N:Int)(A:Option aI)(n cap:Nat):List LE:=[.own [.v (R N),.v (ab A n cap)] 33]
theorem ag3{i:Nat} h:oJ row i=decide (0<row[i]):=by
 unfold oJ;grind
theorem aod{a:J}{o:Nat}{ar:Option aI}{qG:Nat}(E:a b=none)(k:bf a 1 ar m (row.map λz=>[R z]))(hm:m<=1000000)(C:o<m) N A n cap{S:Nat->Nat->Prop}{l:List il}{cq:Nat}(x:lO (a.put b (kb 7 l cq)) b S l cq) c d f Q(e:cy)(he:[8,10,11,25,26,27,32,33].map e=[.v (.map (some b)),.v (ab ar m qG),.v (R o),.v c,.v d,.v f,.v (R m),.v (R o)])(H:∀s cw i9,lO (a.put b (kb 7 cw i9)) b (λp q=>S p q\/(q=o/\p<o/\oJ row p=true/\oJ row o=true)) cw i9->[8,10,25,26,27,32,33].map s=[.v (.map (some b)),.v (ab ar m qG),.v c,.v d,.v f,.v (R m),.v (R o)]->Q .normal s (zL N A n cap) (a.put b (kb 7 cw i9))):di aB 72 (.seq (.cd NQ) (.block 4 (.loop NP))) Q e (zL N A n cap) (a.put b (kb 7 l cq)):=by
 have t:=fK [8,10,11,25,26,27,32,33] e;rw[he]at t;rw[<-t];have O:row.length=m:=by simpa using k.len
 have M:∀U,a.le (a.put b U):=λU=>J.dI E;refine .mk (Nat×List il×Nat) [8,10,11,25,26,27,32,33,36,37] (λ(i,_,_)=>[.v (.map (some b)),.v (ab ar m qG),.v (R o),.v c,.v d,.v f,.v (R m),.v (R o),.v (R o),.v (R i)]) (λ_=>zL N A n cap) (λ(i,l,cq) aa=>aa=a.put b (kb 7 l cq)/\i<=o/\lO aa b (λp q=>S p q\/(q=o/\p<i/\oJ row p=true/\oJ row o=true)) l cq) (λ(i,_,_)=>o-i) (0,l,cq) (λ(_,_,_)=>rfl) ⟨rfl,cW _,x.eqv λp q=>⟨bW,λh=>h.elim id λh=>I⟩⟩ rfl rfl ?_;rintro⟨i,l,cq⟩ e aa ⟨rfl,P,x⟩;refine aY (λu=>?_) (λu=>?_);have D:i<m:=I;obtain⟨g,j⟩:=k.cg I;have L:=ag3 (row:=row) (i:=i) I;have K:=ag3 (row:=row) (i:=o) I;have load:∀q(G:q<m)(U:Obj),(a.put b U).cell? (g.add ((q:Int).toNat*1))=some (R (row[q]'I)):=λq G U=>by
  rw[bz];exact(k.mono (M U)).one j (r:=[R (row[q]'I)]) aJ rfl
 have skip:¬(oJ row i=true/\oJ row o=true)->lO (a.put b (kb 7 l cq)) b (λp q=>S p q\/(q=o/\p<i+1/\oJ row p=true/\oJ row o=true)) l cq:=λT=>x.eqv λp q=>⟨λh=>h.imp id λh=>⟨h.1,I,h.2.2⟩,λh=>h.imp id λ⟨h1,ae,F⟩=>⟨h1,by
  grind,F⟩⟩
 refine .m g j (.hp (R (row[i]'I)) (load i D _) (aY (λB=>?_) (λB=>?_)));refine .m g j (.hp (R (row[o]'I)) (load o C _) (aY (λw=>?_) (λw=>?_)));refine .azq l cq x.aze ?_;rw[J.sS];have y:=x.ins (ae:=a) i o (R 1);refine .bg (⟨(i+1,upsert l [(i:Int),(o:Int)] (R 1) cq,if(jC l [(i:Int),(o:Int)]).isSome then cq else cq+1),rfl,rfl,⟨rfl,I,y.eqv λp q=>?_⟩,aJ⟩)
 grind
 exact .bg (⟨(i+1,l,cq),rfl,rfl,⟨rfl,I,skip λh=>w (q2 (K▸h.2))⟩,aJ⟩);exact .bg (⟨(i+1,l,cq),rfl,rfl,⟨rfl,I,skip λh=>B (q2 (L▸h.1))⟩,aJ⟩);have:i=o:=I;subst this;exact H _ l cq x rfl
theorem aoc{a:J}{ar:Option aI}{qG:Nat}(k:a b=none)(r:bf a 1 ar m (row.map λz=>[R z]))(hm:m<=1000000) N A n cap{S:Nat->Nat->Prop}{l:List il}{cq:Nat}(x:lO (a.put b (kb 7 l cq)) b S l cq) d f g Q(e:cy)(he:[8,10,25,26,27].map e=[.v (.map (some b)),.v (ab ar m qG),.v d,.v f,.v g])(s:∀i cw i9,lO (a.put b (kb 7 cw i9)) b (λp q=>S p q\/(p<q/\q<m/\oJ row p=true/\oJ row q=true)) cw i9->[8,25,26,27].map i=[.v (.map (some b)),.v d,.v f,.v g]->Q .normal i (zL N A n cap) (a.put b (kb 7 cw i9))):di aB 72 (.seq (.cd NR) (.block 2 (.loop NO))) Q e (zL N A n cap) (a.put b (kb 7 l cq)):=by
 have c:=fK [8,10,25,26,27] e;rw[he]at c;rw[<-c];refine .mk (Nat×List il×Nat) [8,10,25,26,27,32,33] (λ(o,_,_)=>[.v (.map (some b)),.v (ab ar m qG),.v d,.v f,.v g,.v (R m),.v (R o)]) (λ_=>zL N A n cap) (λ(o,l,cq) aa=>aa=a.put b (kb 7 l cq)/\o<=m/\lO aa b (λp q=>S p q\/(p<q/\q<o/\oJ row p=true/\oJ row q=true)) l cq) (λ(o,_,_)=>m-o) (0,l,cq) (λ(_,_,_)=>rfl) ⟨rfl,cW _,x.eqv λp q=>⟨bW,λh=>h.elim id λh=>I⟩⟩ rfl rfl ?_;rintro⟨o,l,cq⟩ e aa ⟨rfl,C,x⟩;show di aB 72 (.seq (.cd adI) (.seq (.cond (.t 34) .skip (.exit 2)) (.seq (.block 3 (.seq (.cd adJ) (.seq (.cd NQ) (.block 4 (.loop NP))))) (.cd adK)))) _ _ _ _;generalize w:IR.seq (.cd NQ) (.block 4 (.loop NP))=D;refine aY (λu=>?_) (λu=>?_);have j:o<m:=I;conv=>whnf
 subst w;refine aod k r hm j N A n cap x d f g _ _ rfl λi cw i9 y B=>?_;have c:=fK [8,10,25,26,27,32,33] i;rw[B]at c;rw[<-c];refine .bg (⟨(o+1,cw,i9),rfl,rfl,⟨rfl,I,y.eqv λp q=>?_⟩,aJ⟩)
 grind
 have:o=m:=I;subst this;exact s _ l cq x rfl
end Go.Sx
