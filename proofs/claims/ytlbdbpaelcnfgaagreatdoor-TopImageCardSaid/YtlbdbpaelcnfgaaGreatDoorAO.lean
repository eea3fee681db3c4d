/- A part of the proof that the statement holds. Conditions: none. -/
import Derived.Shelf.SlSortCmp.WholeK
import Derived.Shelf.SlGeneric
import Derived.Shelf.SlicesG.Cmp
import Derived.Ground.SlsfProg
import Derived.Ground.SlgcProg
import Derived.Test.YtlbdbpaelcnfgaaGreatDoorProg
import Derived.Shelf.Lay
import Derived.LoopN
import Derived.StillTailTactics
import Derived.Shelf.SlSortCmp.NoneTotal
import Derived.Test.YtlbdbpaelcnfgaaGreatDoorAC
import Derived.Test.YtlbdbpaelcnfgaaGreatDoorAD
import Derived.Test.YtlbdbpaelcnfgaaGreatDoorAE
import Derived.Test.YtlbdbpaelcnfgaaGreatDoorAF
import Derived.Test.YtlbdbpaelcnfgaaGreatDoorAG
import Derived.Test.YtlbdbpaelcnfgaaGreatDoorAH
import Derived.Test.YtlbdbpaelcnfgaaGreatDoorAI
import Derived.Test.YtlbdbpaelcnfgaaGreatDoorAJ
import Derived.Test.YtlbdbpaelcnfgaaGreatDoorAK
import Derived.Test.YtlbdbpaelcnfgaaGreatDoorAL
import Derived.Test.YtlbdbpaelcnfgaaGreatDoorAM
import Derived.Test.YtlbdbpaelcnfgaaGreatDoorAN
open And renaming intro->fl
open Array renaming getElem?_eq_getElem->JM,getElem?_eq_some_iff->tb,getElem?_toList->zG,size_modify->agk
open Bool renaming and_eq_true->fY,eq_false_iff->JN,false_eq_true->uh
open Decidable renaming byContradiction->zM,not_not->Gu
open Go renaming Addr->ar,Calls->Gr,FuncId->jh,Value->ao,World->bb,maxLen->c'
open Go.Code renaming rounds->Uq
open Go.IntKind renaming i64->mH
open Go.Lib renaming compareInt->um
open Go.Obj renaming cells->uq
open Go.Proofs.AnyG renaming cmp_Compare_int->Uh
open Go.Proofs.SlLaysC2 renaming n5->aDt
open Go.Proofs.SlLaysF0 renaming n6->aCB
open Go.Proofs.Tryz renaming prog->aAp,func160->aCn,func63->aCo,isAgg0->aCC,isAgg247->aCD,isAgg248->aCE,isAgg261->aCF,isAgg3->aCt,isAgg358->aCG,isAgg359->aCH,isAgg365->aCI,isAgg387->aCJ,isAgg391->aCK,isAgg4->aCx,isAgg404->aCL,isAgg405->aCM,isAgg5->aCN,isAgg9->aCO,prog->aH,sizeOf0->aCP,sizeOf247->aCQ,sizeOf248->aCR,sizeOf261->aCS,sizeOf3->aCu,sizeOf358->aCT,sizeOf359->aCU,sizeOf365->aCV,sizeOf387->aCW,sizeOf391->aCX,sizeOf4->aCy,sizeOf404->aCY,sizeOf405->aCZ,sizeOf5->aC0,sizeOf9->aC1,underlying0->aC2,underlying247->aC3,underlying248->aC4,underlying261->aC5,underlying3->BX,underlying358->aC6,underlying359->aC7,underlying365->aC8,underlying387->aC9,underlying391->aC',underlying4->aCz,underlying404->aDa,underlying405->aDb,underlying5->aDc,underlying9->Ef,zeroValue0->aDd,zeroValue247->aDe,zeroValue248->aDf,zeroValue261->aDg,zeroValue3->aCv,zeroValue358->aDh,zeroValue359->aDi,zeroValue365->aDj,zeroValue387->aDk,zeroValue391->aDl,zeroValue4->aCA,zeroValue404->aDm,zeroValue405->aDn,zeroValue5->aDo,zeroValue9->aDp
open Go.Shelf renaming Ren->aCw
open Go.Sort renaming alloc_eq_grow->Kf,flatK->EI,grow_grow->Yr,putCells->FV
open Go.Value renaming int->h',slice->oE,tuple->vU
open Int renaming add_zero->ag0,toNat_natCast->bq
open List renaming drop_eq_getElem_cons->o6,drop_eq_nil_of_le->tg,ext_getElem->vH,ext_getElem?->ahb,filter_append->N6,flatten_cons->qr,getD_eq_getElem?_getD->cN,getElem?_eq_getElem->bZ,getElem?_eq_none->qs,getElem?_take->GH,getElem_mem->cS,getElem_of_mem->rb,getElem_set->vI,length_cons->gI,length_filter_le->J1,map_append->fm,map_cons->eO,map_set->nb,mem_append->ev,mem_cons->dC,mem_cons_of_mem->iv,mem_cons_self->iU,mem_filter->BH,mem_map->dn,mem_map_of_mem->pL,mem_range->re,mem_singleton->fx,nodup_append->nS,nodup_range->ahq,pairwise_cons->Og,pairwise_iff_getElem->aCj,range->aDB,range_succ->GN,replicate->bG,set_append_right->wU,set_cons_succ->Oi,set_cons_zero->aB8,take_of_length_le->k4,zipWith->rf
open List.Pairwise renaming filter->UR,imp->ag4
open Nat renaming add_sub_cancel_left->ahA,beq->gN,eq_of_beq_eq_true->mJ,le_refl->dd,mul_one->ew,sub_self->yq,zero_add->dJ,zero_le->cO
open Ne renaming symm->d9
namespace Go.Sx
set_option maxRecDepth 100000
set_option maxHeartbeats 0
set_option linter.all false
theorem b4.low{f n:Nat}(o:b4 f n){b:Code}(h:o.fn.body=some b):lower aAp qW b=o.o.1:=by rw[<-o.o.2,h];rfl
def IR.l:IR->IR|.seq a _=>a|.cond _ a _=>a|.block _ b=>b|.loop b=>b|.scope b=>b|c=>c
def IR.r:IR->IR|.seq _ b=>b|.cond _ _ b=>b|c=>c
def IR.rg:IR->List cC|.ch r=>r|_=>[]
def IR.I2:IR->hn|.xP r=>r|_=>default
noncomputable def aoM:IR:=aaO.o.1.r.r.r.r.l.r.l.l
noncomputable def aaA:IR:=aa0.o.1.r.r.r.r.r.r.r.r.r.r.r.l.r.l.l
noncomputable def ap9:IR:=Rr.o.1.r.r.r.r.r.r.r.r.r.l.r.l.l
noncomputable def ap':IR:=Rr.o.1.r.r.r.r.r.r.r.r.r.r.l.r.l.l
noncomputable def aqa:IR:=LW.o.1.r.r.r.r.r.l.r.l.l
noncomputable def aqb:IR:=LW.o.1.r.r.r.r.r.r.l.r.l.l
noncomputable def aqc:IR:=LW.o.1.r.r.r.r.r.r.l.r.l.l.r.r.l.l.r.r.r.r.r.l.r.l.l
noncomputable def aqf:hn:=Rt.o.1.r.r.r.r.r.l.I2
noncomputable def aqg:List cC:=Rt.o.1.r.r.r.r.r.r.l.r.l.r.l.rg
noncomputable def aqh:IR:=Ip.o.1.r.r.r.l.r.l.l
noncomputable def aqi:List cC:=Ip.o.1.r.r.r.r.l.rg
noncomputable def Rm:IR:=sJ.o.1.r.r.l.r.l.l.r.l.r.l.l.l
noncomputable def aql:IR:=sJ.o.1.r.r.l.r.l.l.r.l.r.r.r.r.l.r.l.l
noncomputable def aqm:hn:=sJ.o.1.r.r.l.r.l.l.r.l.r.r.l.r.l.r.l.I2
noncomputable def aqn:List cC:=sJ.o.1.r.r.l.r.l.l.r.l.r.r.l.r.l.r.r.l.rg
noncomputable def aqo:List cC:=sJ.o.1.r.r.l.r.l.l.r.l.r.r.r.l.rg
noncomputable def aqp:List cC:=sJ.o.1.r.r.l.r.l.l.r.l.r.r.r.r.l.l.rg
noncomputable def aqq:hn:=sJ.o.1.r.r.l.r.l.l.r.l.r.r.r.r.r.l.I2
noncomputable def aqr:hn:=sJ.o.1.r.r.l.r.l.l.r.l.r.r.r.r.r.r.l.I2
noncomputable def aqs:List cC:=sJ.o.1.r.r.l.r.l.l.r.l.r.r.r.r.r.r.r.rg
noncomputable def aaK:List cC:=sJ.o.1.r.r.l.r.l.l.l.l.rg
noncomputable def Rn:List cC:=sJ.o.1.r.r.l.r.l.l.r.l.l.rg
noncomputable def aqt:List cC:=sJ.o.1.r.r.l.r.l.l.r.l.r.r.l.l.rg
noncomputable def aqu:hn:=sJ.o.1.r.r.l.r.l.l.r.l.r.r.l.r.l.l.I2
noncomputable def aqw:IR:=xE.o.1.r.r.r.l.r.l.l
noncomputable def Ro:IR:=xE.o.1.r.r.r.l.r.l.l.r.r.l.l.r.r.r.l.r.l.l
noncomputable def Rp:IR:=xE.o.1.r.r.r.l.r.l.l.r.r.l.l.r.r.r.r.r.l.l
noncomputable def aqx:IR:=xE.o.1.r.r.r.r.r.l.r.l.l
noncomputable def aqy:IR:=xE.o.1.r.r.r.r.r.r.l.r.l.l
noncomputable def aqz:IR:=xE.o.1.r.r.r.r.r.r.r.l.r.l.l
noncomputable def aqA:IR:=xE.o.1.r.r.r.r.r.r.r.r.l.r.l.l
noncomputable def aaL:List cC:=xE.o.1.r.r.r.l.r.l.l.r.r.l.l.r.r.r.r.l.rg
noncomputable def aaM:List cC:=xE.o.1.r.r.r.l.r.l.l.r.r.l.l.r.r.r.l.l.rg
noncomputable def aqB:List cC:=aa2.o.1.r.l.l.r.r.r.rg
noncomputable def aqC:List cC:=aa3.o.1.r.r.l.r.l.l.rg
noncomputable def aqF:IR:=Ru.o.1.r.r.r.r.r.r.l.r.l.l
noncomputable def aqG:IR:=Ru.o.1.r.r.r.r.r.r.r.r.r.r.r.l.l
noncomputable def aqI:List cC:=aa4.o.1.r.r.l.r.l.l.rg
noncomputable def aqK:IR:=aa5.o.1.r.r.r.r.l.r.l.l
noncomputable def aqL:IR:=Rv.o.1.r.r.r.l.r.l.l
noncomputable def aqM:IR:=Rv.o.1.r.r.r.r.l.r.l.l
noncomputable def aoO:IR:=LV.o.1.r.r.l.r.l.l
noncomputable def aoQ:List cC:=LV.o.1.r.r.r.l.rg
noncomputable def ao9:IR:=Rq.o.1.r.r.r.r.l.l
noncomputable def ao':IR:=aaR.o.1.r.r.r.l.r.l.l
noncomputable def apa:IR:=aaS.o.1.r.r.l.r.l.l
noncomputable def apb:IR:=Fi.o.1.r.r.l.r.l.l
noncomputable def apc:IR:=Fi.o.1.r.r.l.r.l.l.r.r.l.l.r.r.r.r.l.r.l.l.r.l.l
noncomputable def ape:List cC:=Fi.o.1.r.r.l.r.l.l.r.r.l.l.r.r.r.r.l.r.r.r.l.r.r.r.r.l.rg
noncomputable def apf:List cC:=Fi.o.1.r.r.l.r.l.l.r.r.l.l.r.r.r.r.l.r.r.r.l.r.r.r.r.r.l.rg
noncomputable def apg:List cC:=Fi.o.1.r.r.l.r.l.l.r.r.l.l.r.r.r.r.l.r.r.r.l.r.r.r.r.r.r.rg
noncomputable def aat:List cC:=aaU.o.1.r.r.l.rg
noncomputable def aph:IR:=j0.o.1.l.r.l.r.r.l.l.l
noncomputable def api:IR:=j0.o.1.l.r.l.r.r.r.l.r.l.l
noncomputable def apj:IR:=j0.o.1.r.l.r.l.r.r.l.l.l
noncomputable def apk:IR:=j0.o.1.r.l.r.l.r.r.r.l.r.l.l
noncomputable def apl:IR:=j0.o.1.r.r.r.r.r.r.r.l.l.l
noncomputable def apm:List cC:=j0.o.1.l.l.rg
noncomputable def apn:List cC:=j0.o.1.r.l.l.rg
noncomputable def apo:List cC:=j0.o.1.r.l.r.l.l.rg
noncomputable def apq:List cC:=j0.o.1.r.l.r.l.r.l.rg
noncomputable def apr:List cC:=j0.o.1.l.r.l.l.rg
noncomputable def aps:List cC:=j0.o.1.r.l.r.l.r.r.r.l.l.rg
noncomputable def aau:List cC:=j0.o.1.r.r.l.rg
noncomputable def aav:List cC:=j0.o.1.r.r.r.l.rg
noncomputable def aaw:List cC:=j0.o.1.r.r.r.r.l.rg
noncomputable def apt:List cC:=j0.o.1.r.r.r.r.r.l.l.rg
noncomputable def apu:List cC:=j0.o.1.r.r.r.r.r.l.r.l.l.rg
noncomputable def apv:List cC:=j0.o.1.l.r.l.r.l.rg
noncomputable def apw:List cC:=j0.o.1.r.r.r.r.r.l.r.l.r.rg
noncomputable def apx:List cC:=j0.o.1.r.r.r.r.r.l.r.r.l.rg
noncomputable def apy:List cC:=j0.o.1.r.r.r.r.r.l.r.r.r.rg
noncomputable def apz:List cC:=j0.o.1.r.r.r.r.r.r.l.rg
noncomputable def aax:List cC:=j0.o.1.r.r.r.r.r.r.r.r.l.rg
noncomputable def aay:List cC:=j0.o.1.r.r.r.r.r.r.r.r.r.l.l.rg
noncomputable def aaz:List cC:=j0.o.1.r.r.r.r.r.r.r.r.r.l.r.l.rg
noncomputable def apA:List cC:=j0.o.1.r.r.r.r.r.r.r.r.r.r.l.l.rg
noncomputable def apB:List cC:=j0.o.1.r.r.r.r.r.r.r.r.r.r.l.r.l.rg
noncomputable def apC:List cC:=j0.o.1.r.r.r.r.r.r.r.r.r.r.r.l.rg
noncomputable def apD:List cC:=j0.o.1.r.r.r.r.r.r.r.r.r.r.r.r.l.rg
noncomputable def apE:List cC:=j0.o.1.l.r.l.r.r.r.l.l.rg
end Go.Sx
namespace Go.Proofs
open Go.Shelf
def Tryz.aDr:aCw:=⟨λ|6=>159|15=>125|14=>194|28=>177|29=>178|20=>206|21=>207|22=>208|23=>209|24=>210|25=>211|26=>212|27=>213|46=>218|47=>198|48=>199|49=>219|50=>220|57=>221|n=>n,λ|22=>186|24=>278|25=>347|3=>3|39=>248|0=>0|53=>365|55=>247|4=>4|46=>359|45=>358|50=>261|5=>5|9=>9|66=>387|70=>391|76=>404|77=>405|n=>n,λ|n=>n⟩
theorem Tryz.aeT:aCB aH Tryz.aDr:={mixed:=by kernel_rfl,f6:=⟨Tryz.f159.name,by decide,Tryz.func159.trans (congrArg some (by kernel_rfl))⟩,f14:=⟨Tryz.f194.name,by decide,Tryz.func194.trans (congrArg some (by kernel_rfl))⟩,f15:=Tryz.func125.trans (congrArg some (by kernel_rfl)),f20:=⟨Tryz.f206.name,by decide,Tryz.func206.trans (congrArg some (by kernel_rfl))⟩,f21:=⟨Tryz.f207.name,by decide,Tryz.func207.trans (congrArg some (by kernel_rfl))⟩,f22:=⟨Tryz.f208.name,by decide,Tryz.func208.trans (congrArg some (by kernel_rfl))⟩,f23:=⟨Tryz.f209.name,by decide,Tryz.func209.trans (congrArg some (by kernel_rfl))⟩,f24:=⟨Tryz.f210.name,by decide,Tryz.func210.trans (congrArg some (by kernel_rfl))⟩,f25:=⟨Tryz.f211.name,by decide,Tryz.func211.trans (congrArg some (by kernel_rfl))⟩,f26:=⟨Tryz.f212.name,by decide,Tryz.func212.trans (congrArg some (by kernel_rfl))⟩,f27:=⟨Tryz.f213.name,by decide,Tryz.func213.trans (congrArg some (by kernel_rfl))⟩,f28:=Tryz.func177.trans (congrArg some (by kernel_rfl)),f29:=Tryz.func178.trans (congrArg some (by kernel_rfl)),f46:=⟨Tryz.f218.name,by decide,Tryz.func218.trans (congrArg some (by kernel_rfl))⟩,f47:=Tryz.func198.trans (congrArg some (by kernel_rfl)),f48:=Tryz.func199.trans (congrArg some (by kernel_rfl)),f49:=⟨Tryz.f219.name,by decide,Tryz.func219.trans (congrArg some (by kernel_rfl))⟩,f50:=⟨Tryz.f220.name,by decide,Tryz.func220.trans (congrArg some (by kernel_rfl))⟩,f57:=⟨Tryz.f221.name,by decide,Tryz.func221.trans (congrArg some (by kernel_rfl))⟩,t0:=aC2,a0:=aCC,z0:=aCP,v0:=aDd,t3:=BX,a3:=aCt,z3:=aCu,v3:=aCv,t4:=aCz,a4:=aCx,z4:=aCy,v4:=aCA,t5:=aDc,a5:=aCN,z5:=aC0,v5:=aDo,t9:=Ef,a9:=aCO,z9:=aC1,v9:=aDp,t22:=Tryz.underlying186,a22:=Tryz.isAgg186,z22:=Tryz.sizeOf186,v22:=Tryz.zeroValue186,t25:=Tryz.underlying347,a25:=Tryz.isAgg347,z25:=Tryz.sizeOf347,v25:=Tryz.zeroValue347,t39:=aC4,a39:=aCE,z39:=aCR,v39:=aDf,t45:=aC6,a45:=aCG,z45:=aCT,v45:=aDh,t46:=aC7,a46:=aCH,z46:=aCU,v46:=aDi,t50:=aC5,a50:=aCF,z50:=aCS,v50:=aDg,t53:=aC8,a53:=aCI,z53:=aCV,v53:=aDj,t55:=aC3,a55:=aCD,z55:=aCQ,v55:=aDe,t66:=aC9,a66:=aCJ,z66:=aCW,v66:=aDk,t70:=aC',a70:=aCK,z70:=aCX,v70:=aDl,t76:=aDa,a76:=aCL,z76:=aCY,v76:=aDm,t77:=aDb,a77:=aCM,z77:=aCZ,v77:=aDn}
def Tryz.aDs:aCw:=⟨λ|6=>62|15=>125|14=>124|28=>177|29=>178|20=>169|21=>170|22=>171|23=>172|24=>173|25=>174|26=>175|27=>176|46=>197|47=>198|48=>199|49=>200|50=>201|57=>215|n=>n,λ|22=>35|24=>142|25=>195|3=>3|39=>248|0=>0|53=>365|55=>247|4=>4|46=>359|45=>358|50=>261|5=>5|9=>9|66=>387|70=>391|76=>404|77=>405|n=>n,λ|n=>n⟩
theorem Tryz.aeU:aCB aH Tryz.aDs:={mixed:=by kernel_rfl,f6:=⟨Tryz.f62.name,by decide,Tryz.func62.trans (congrArg some (by kernel_rfl))⟩,f14:=⟨Tryz.f124.name,by decide,Tryz.func124.trans (congrArg some (by kernel_rfl))⟩,f15:=Tryz.func125.trans (congrArg some (by kernel_rfl)),f20:=⟨Tryz.f169.name,by decide,Tryz.func169.trans (congrArg some (by kernel_rfl))⟩,f21:=⟨Tryz.f170.name,by decide,Tryz.func170.trans (congrArg some (by kernel_rfl))⟩,f22:=⟨Tryz.f171.name,by decide,Tryz.func171.trans (congrArg some (by kernel_rfl))⟩,f23:=⟨Tryz.f172.name,by decide,Tryz.func172.trans (congrArg some (by kernel_rfl))⟩,f24:=⟨Tryz.f173.name,by decide,Tryz.func173.trans (congrArg some (by kernel_rfl))⟩,f25:=⟨Tryz.f174.name,by decide,Tryz.func174.trans (congrArg some (by kernel_rfl))⟩,f26:=⟨Tryz.f175.name,by decide,Tryz.func175.trans (congrArg some (by kernel_rfl))⟩,f27:=⟨Tryz.f176.name,by decide,Tryz.func176.trans (congrArg some (by kernel_rfl))⟩,f28:=Tryz.func177.trans (congrArg some (by kernel_rfl)),f29:=Tryz.func178.trans (congrArg some (by kernel_rfl)),f46:=⟨Tryz.f197.name,by decide,Tryz.func197.trans (congrArg some (by kernel_rfl))⟩,f47:=Tryz.func198.trans (congrArg some (by kernel_rfl)),f48:=Tryz.func199.trans (congrArg some (by kernel_rfl)),f49:=⟨Tryz.f200.name,by decide,Tryz.func200.trans (congrArg some (by kernel_rfl))⟩,f50:=⟨Tryz.f201.name,by decide,Tryz.func201.trans (congrArg some (by kernel_rfl))⟩,f57:=⟨Tryz.f215.name,by decide,Tryz.func215.trans (congrArg some (by kernel_rfl))⟩,t0:=aC2,a0:=aCC,z0:=aCP,v0:=aDd,t3:=BX,a3:=aCt,z3:=aCu,v3:=aCv,t4:=aCz,a4:=aCx,z4:=aCy,v4:=aCA,t5:=aDc,a5:=aCN,z5:=aC0,v5:=aDo,t9:=Ef,a9:=aCO,z9:=aC1,v9:=aDp,t22:=Tryz.underlying35,a22:=Tryz.isAgg35,z22:=Tryz.sizeOf35,v22:=Tryz.zeroValue35,t25:=Tryz.underlying195,a25:=Tryz.isAgg195,z25:=Tryz.sizeOf195,v25:=Tryz.zeroValue195,t39:=aC4,a39:=aCE,z39:=aCR,v39:=aDf,t45:=aC6,a45:=aCG,z45:=aCT,v45:=aDh,t46:=aC7,a46:=aCH,z46:=aCU,v46:=aDi,t50:=aC5,a50:=aCF,z50:=aCS,v50:=aDg,t53:=aC8,a53:=aCI,z53:=aCV,v53:=aDj,t55:=aC3,a55:=aCD,z55:=aCQ,v55:=aDe,t66:=aC9,a66:=aCJ,z66:=aCW,v66:=aDk,t70:=aC',a70:=aCK,z70:=aCX,v70:=aDl,t76:=aDa,a76:=aCL,z76:=aCY,v76:=aDm,t77:=aDb,a77:=aCM,z77:=aCZ,v77:=aDn}
def Tryz.aDq:aCw:=⟨λ|5=>60|7=>123|n=>n,λ|22=>3|3=>3|4=>4|n=>n,λ|n=>n⟩
theorem Tryz.Pc:aDt aH Tryz.aDq:={mixed:=by kernel_rfl,f5:=⟨Tryz.f60.name,by decide,Tryz.func60.trans (congrArg some (by kernel_rfl))⟩,f7:=⟨Tryz.f123.name,by decide,Tryz.func123.trans (congrArg some (by kernel_rfl))⟩,t3:=BX,a3:=aCt,z3:=aCu,v3:=aCv,t4:=aCz,a4:=aCx,z4:=aCy,v4:=aCA,t22:=BX,a22:=aCt,z22:=aCu,v22:=aCv}
end Go.Proofs
namespace Go.Proofs
open Go.Shelf Go.RowKit Go.Lib Go.Sort
def ru(x:Int×Int):List ao:=[.int .i64 x.1,.int .i64 x.2]
set_option maxHeartbeats 1000000 in
theorem ajt(x y:Int×Int)(W:bb):Gr aH 63 #[.agg #[.int .i64 x.1,.int .i64 x.2],.agg #[.int .i64 y.1,.int .i64 y.2]] W λe aZ=>e= .returned (.int .i64 (um x.1 y.1))/\∃q oh,aZ=grow (W.drewN q) oh:=by
 have EV:=λmc=>Uh Tryz.Pc x.1 y.1 mc;change ∀mc,Gr aH 60 _ _ _ at EV;generalize um x.1 y.1=r at EV⊢;go_enter aCo,Tryz.ntmps63;go_wp2_with(go_at_call 60;refine(EV _).mono ?_;rintro e aZ ⟨rfl,rfl⟩);go_ret;exact⟨rfl,0,_,by rw[Kf,Kf,Yr];rfl⟩
set_option maxHeartbeats 1000000 in
theorem ave(x y:Int)(b:Nat)(W:bb)(ai:W.cell? ⟨b,0,none⟩=some (.int .i64 x))(h1:W.cell? ⟨b,1,none⟩=some (.int .i64 y)):Gr aH 161 #[.slice (some ⟨b,0,none⟩) 2 2] W λe aZ=>e= .returned (.int .i64 (if x=0 then y else x))/\∃q,aZ=W.drewN q:=by
 go_enter Tryz.func161,Tryz.ntmps161;go_wp2;refine wp_loop_rounds 3 ?_;unfold Uq;go_wp2;exfalso;simp_all;go_ret;exact⟨rfl,0,rfl⟩;rename_i ad;have aon:x=0:=by simpa using ad
 subst aon;unfold Uq;go_wp2;go_ret;exact⟨rfl,0,rfl⟩;rename_i aQ;have C4:y=0:=by simpa using aQ
 subst C4;unfold Uq;go_wp2;go_ret;exact⟨rfl,0,rfl⟩
set_option maxHeartbeats 1000000 in
set_option maxRecDepth 100000 in
theorem ajs(x y:Int×Int)(W:bb):Gr aH 160 #[.agg #[.int .i64 x.1,.int .i64 x.2],.agg #[.int .i64 y.1,.int .i64 y.2]] W λe aZ=>e= .returned (.int .i64 (if um x.1 y.1=0 then um x.2 y.2 else um x.1 y.1))/\∃q oh,aZ=grow (W.drewN q) oh:=by
 have Qw:=λmc=>Uh Tryz.Pc x.1 y.1 mc;have Qx:=λmc=>Uh Tryz.Pc x.2 y.2 mc;change ∀mc,Gr aH 60 _ _ _ at Qw;change ∀mc,Gr aH 60 _ _ _ at Qx;generalize um x.1 y.1=r at Qw⊢;generalize um x.2 y.2=s at Qx⊢;go_enter aCn,Tryz.ntmps160;go_wp2;have gT:((W.alloc (uq #[h' mH x.fst,h' mH x.snd] 278)).alloc (uq #[h' mH y.fst,h' mH y.snd] 278)).cell? ⟨W.heap.size,0,none⟩=some (.int .i64 x.1):=by simp
 have c1:((W.alloc (uq #[h' mH x.fst,h' mH x.snd] 278)).alloc (uq #[h' mH y.fst,h' mH y.snd] 278)).cell? ⟨W.heap.size,1,none⟩=some (.int .i64 x.2):=by simp
 have c2:((W.alloc (uq #[h' mH x.fst,h' mH x.snd] 278)).alloc (uq #[h' mH y.fst,h' mH y.snd] 278)).cell? ⟨W.heap.size+1,0,none⟩=some (.int .i64 y.1):=by simp
 have eI:((W.alloc (uq #[h' mH x.fst,h' mH x.snd] 278)).alloc (uq #[h' mH y.fst,h' mH y.snd] 278)).cell? ⟨W.heap.size+1,1,none⟩=some (.int .i64 y.2):=by simp
 have g0:∃oh,((W.alloc (uq #[h' mH x.fst,h' mH x.snd] 278)).alloc (uq #[h' mH y.fst,h' mH y.snd] 278))=grow W oh:=⟨_,by rw[Kf,Kf,Yr]⟩;generalize((W.alloc (uq #[h' mH x.fst,h' mH x.snd] 278)).alloc (uq #[h' mH y.fst,h' mH y.snd] 278))=yv at gT c1 c2 eI g0⊢;refine wp_region_still_tail 10 (by kernel_rfl) (by kernel_rfl) ?_;change wpStill _ _ yv.drew _ _ _;have d0:yv.drew.cell? ⟨W.heap.size,0,none⟩=some (.int .i64 x.1):=gT;have d1:yv.drew.cell? ⟨W.heap.size,1,none⟩=some (.int .i64 x.2):=c1;have d2:yv.drew.cell? ⟨W.heap.size+1,0,none⟩=some (.int .i64 y.1):=c2;have d3:yv.drew.cell? ⟨W.heap.size+1,1,none⟩=some (.int .i64 y.2):=eI;generalize yv.drew=rj at d0 d1 d2 d3⊢;clear gT c1 c2 eI;simp only[List.take_succ_cons,List.take_zero,List.drop_succ_cons,List.drop_zero];iterate 4 still_step
 still_call(Qw _);iterate 4 still_step
 still_call(Qx _);refine wpStill_nil ?_;change wpList _ _ _ _ _ yv.drew;have g1:∃oh,yv.drew=grow (W.drewN 1) oh:=by
  obtain⟨oh,g0⟩:=g0;exact⟨oh,by rw[g0];rfl⟩
 generalize yv.drew=ail at g1⊢;have H6:=ave r s ail.heap.size;go_wp2_with(go_at_call 161;refine(H6 _ (by simp) (by simp)).mono ?_;rintro e aZ ⟨rfl,q,rfl⟩);all_goals
  go_ret
  obtain⟨oh,rfl⟩:=g1
  have e:∀J,((grow (W.drewN 1) oh).alloc J).drewN q=grow (W.drewN (1+q)) (oh++#[J]):=λJ=>by rw[Kf,Yr,<-World.drewN_drewN];rfl
  exact⟨rfl,1+q,_,e _⟩
def Ep(x y:Int×Int):Int:=if um x.1 y.1=0 then um x.2 y.2 else um x.1 y.1
def Ai(x y:Int×Int):Int:=um x.1 y.1
theorem Md(x y:Int×Int):ltOf Ai x y=decide (x.1<y.1):=by
 unfold ltOf Ai um;by_cases h1:x.1<y.1;simp[h1];by_cases ab:y.1<x.1<;>simp[h1,ab]
theorem Me(x y:Int×Int):ltOf Ep x y=decide (x.1<y.1\/x.1=y.1/\x.2<y.2):=by
 unfold ltOf Ep um;by_cases h1:x.1<y.1;simp[h1];by_cases ab:y.1<x.1;have:¬x.1=y.1:=by omega
 simp[h1,ab,this];have:x.1=y.1:=by omega
 by_cases an:x.2<y.2;simp[an,this];by_cases aR:y.2<x.2<;>simp[an,aR,this]
theorem ax9:SWO (ltOf Ai)where
 irrefl x:=by rw[Md];simp
 trans x y z h1 ab:=by rw[Md]at*;simp at*;omega
 ntrans x y z h1 ab:=by rw[Md]at*;simp at*;omega
theorem ax':SWO (ltOf Ep)where
 irrefl x:=by rw[Me];simp
 trans x y z h1 ab:=by rw[Me]at*;simp only[decide_eq_true_eq]at*;omega
 ntrans x y z h1 ab:=by rw[Me]at*;simp only[decide_eq_false_iff_not]at*;omega
end Go.Proofs
namespace Go.Sx
set_option maxRecDepth 100000
set_option maxHeartbeats 0
set_option linter.all false
theorem VY{x y a b:Int}(ad:0<=x)(Z5:x<=a)(aQ:0<=y)(Q9:y<=b):0<=x*y/\x*y<=a*b:=⟨Int.mul_nonneg ad aQ,Int.mul_le_mul Z5 Q9 aQ (Int.le_trans ad Z5)⟩
end Go.Sx
namespace Go.Sx
open Go.Proofs
set_option maxRecDepth 100000
set_option maxHeartbeats 0
set_option linter.all false
variable {rows:List (List Int)}{a aG cA f l t:List Int}{xs:List ao}{aa:List bo}{M N T b bk bs cap gt i k n o size v:Nat}{p q:Nat->Bool}{cZ:Nat->List Nat}{ba:Nat->Option ar×Nat}{S:Nat->Prop}{A:Option ar}
def vm(k:Int):Bool:=decide (1<=k)&&decide (k<=64)
def nL(N v:Int):Bool:=decide (0<=v)&&decide (v<N)
def og(N:Int)(a:bo):Int:=
 if(!(nL N a.src&&nL N a.dst))=true then 100 else if(!(vm a.fR&&vm a.take))=true then 101 else if a.start<0\/256<a.start then 88 else 0
def v8(N:Int):List bo->Int
 |[]=>0
 |a::l=>if og N a≠0 then og N a else v8 N l
def e'(N:Int)(l:List bo):Int:=if N<1\/32<N then 100 else if 96<l.length then 81 else v8 N l
theorem FM(N v:Int):nL N v=true↔0<=v/\v<N:=by simp[nL]
theorem Sv(v:Int):vm v=true↔1<=v/\v<=64:=by simp[vm]
theorem auW{N:Int}{a:bo}(hk:¬(nL N a.src=true/\nL N a.dst=true)):og N a=100:=by
 grind [og]
theorem auX{N:Int}{a:bo}(h1:nL N a.src=true)(ab:nL N a.dst=true)(hk:¬(vm a.fR=true/\vm a.take=true)):og N a=101:=by
 grind [og]
theorem auY{N:Int}{a:bo}(h1:nL N a.src=true)(ab:nL N a.dst=true)(an:vm a.fR=true)(aR:vm a.take=true):og N a=if a.start<0\/256<a.start then 88 else 0:=by
 simp[og,h1,ab,an,aR]
theorem Kq(N:Int)(A:Option ar)(n cap:Nat)(l:List bo)(h:I)(av:bg h 5 A n (l.map bo.cells))(aC:n<=9223372036854775806):Fn aH 106 #[my N A n cap] h λr U=>r=R (e' N l)/\U=h:=by
 have al:l.length=n:=by simpa using av.len
 refine b5 aqT rfl ?_;refine aW (λh1=>?_) (λh1=>?_);refine .done ⟨?_,rfl⟩;simp[e',h1,jt,R];refine aW (λab=>?_) (λab=>?_);refine .done ⟨?_,rfl⟩;simp[e',ab,jt,R];refine aW (λan=>?_) (λan=>?_);refine .done ⟨?_,rfl⟩
 grind [e',jt,R]
 refine .mk Nat [1,18,19,20] (λi=>[.p 0 0,.v (.slice A n cap),.v (R n),.v (R i)]) (λ_=>[.own [.v (R N),.v (.slice A n cap)] 33]) (λi U=>U=h/\i<=n/\v8 N (l.drop i)=v8 N l) (λi=>n-i) 0 (λ_=>rfl) ⟨rfl,cO _,rfl⟩ rfl rfl ?_;rintro i e U ⟨rfl,ag,az⟩;have aw:e' N l=v8 N (l.drop i):=by rw[az];grind [e']
 refine aW (λaR=>?_) (λaR=>?_);have ea:i<n:=by omega
 have aB:l.drop i=l[i]::l.drop (i+1):=o6 (by omega);rw[aB]at aw az;obtain⟨g,ak⟩:=av.cc (by omega);have Fl:og N l[i]≠0->e' N l=og N l[i]:=λhk=>by simp_all[aw,v8]
 have ve:og N l[i]=0->v8 N (l.drop (i+1))=v8 N l:=λhk=>by simp_all[<-az,v8]
 have ON:=@auW N l[i];have OO:=@auX N l[i];have yw:=@auY N l[i];simp only[FM,Sv]at ON OO yw;refine .m g ak ?_;refine .hp l[i].cells rfl (by rw[bq];exact av.row ak (iM (by omega))) ?_;refine aW (λaM=>?_) (λaM=>?_);refine .done ⟨?_,rfl⟩;rw[Fl]<;>rw[ON (by omega)]<;>first|rfl|decide
 refine aW (λaD=>?_) (λaD=>?_);refine .done ⟨?_,rfl⟩;rw[Fl]<;>rw[ON (by omega)]<;>first|rfl|decide
 refine aW (λbj=>?_) (λbj=>?_);refine .done ⟨?_,rfl⟩;rw[Fl]<;>rw[OO (by omega) (by omega) (by omega)]<;>first|rfl|decide
 refine aW (λbT=>?_) (λbT=>?_);refine .done ⟨?_,rfl⟩;rw[Fl]<;>rw[OO (by omega) (by omega) (by omega)]<;>first|rfl|decide
 have yw:=yw (by omega) (by omega) (by omega) (by omega);refine aW (λdz=>?_) (λdz=>?_);refine .done ⟨?_,rfl⟩;rw[aX (.inl dz)]at yw;rw[Fl]<;>rw[yw]<;>first|rfl|decide
 refine aW (λj6=>?_) (λj6=>?_);refine .done ⟨?_,rfl⟩;rw[aX (.inr j6)]at yw;rw[Fl]<;>rw[yw]<;>first|rfl|decide
 rw[aE (by omega)]at yw;refine .aLS ?_;exact⟨i+1,rfl,rfl,⟨rfl,ea,ve yw⟩,by omega⟩;refine .done ⟨?_,rfl⟩;rw[aw,tg (by omega)];rfl
theorem ac2{rows:List (List ao)}(hw:∀r∈rows,∀u∈r,u.oneCell'=true):∀u∈rows.flatten,u.oneCell'=true:=by
 intro u hu;obtain⟨r,am,hu⟩:=List.mem_flatten.1 hu
 grind
theorem gP(l:List bo):∀u∈(l.map bo.cells).flatten,u.oneCell'=true:=ac2 λr am u hu=>by
 obtain⟨a,_,rfl⟩:=dn.1 am;simp only[bo.cells,dC,List.not_mem_nil,or_false]at hu;rcases hu with rfl|rfl|rfl|rfl|rfl<;>rfl
theorem Wq{N:Int}:∀{l:List bo},v8 N l=0->∀a∈l,og N a=0
 |[],_,a,h=>by cases h
 |b::l,h,a,a6=>by
  simp only[v8]at h;split at h;omega;rename_i h1;rcases dC.1 a6 with rfl|a6;omega;exact Wq h a a6
theorem vl{N:Int}{a:bo}(h:og N a=0):0<=a.src/\a.src<N/\0<=a.dst/\a.dst<N/\1<=a.fR/\a.fR<=64/\1<=a.take/\a.take<=64/\0<=a.start/\a.start<=256:=by
 cases aJ:nL N a.src<;>cases aI:nL N a.dst<;>cases ck:vm a.fR<;>cases eE:vm a.take<;>simp[og,aJ,aI,ck,eE]at h;have h1:=(FM _ _).1 aJ;have ab:=(FM _ _).1 aI;have an:=(Sv _).1 ck;have aR:=(Sv _).1 eE;omega
theorem lO{N:Int}{l:List bo}(h:e' N l=0):1<=N/\N<=32/\l.length<=96/\∀a∈l,og N a=0:=by
 unfold e' at h;split at h;omega;split at h;omega;rename_i h1 ab;exact⟨by omega,by omega,by omega,Wq h⟩
theorem I.sZ(h:I)(b:Nat)(J gh:Obj):(h.put b J).put b gh=h.put b gh:=by
 grind [I.put]
variable {U X ai bm cq h:I}
theorem kh{α:Type}{l:List α}(ag:i<l.length):l.take (i+1)=l.take i++[l[i]]:=by
 simp
theorem bg.lit{ty:Nat}{cs:List ao}{rows:List (List ao)}(af:h b=some (.cells cs.toArray ty (0,0)))(am:rows.flatten=cs)(hw:∀r∈rows,r.length=size)(aC:rows.length=n):bg h size (some ⟨b,0,none⟩) n rows:=by
 refine⟨aC,hw,λ_=>⟨_,rfl⟩,λg ak i r ag o v ah=>?_⟩;injection ak with ak;subst ak;have:=Ci _ hw i o r v ag ah;rw[add_lit,dJ,I.cell?]
 grind
theorem MK{J:Obj}:(h.put b J) b=some J:=I.bP _ _ _
theorem ib{α:Type}:∀(l:List α)(off:Nat)(v:α),off<l.length->over l off [v]=some (l.set off v)
 |[],off,v,h=>by simp at h
 |x::l,0,v,_=>by simp[over]
 |x::l,off+1,v,h=>by simp only[over,ib l off v (by grind),Oi]
theorem X3{size:Nat}:∀(rows:List (List ao)),(∀r∈rows,r.length=size)->∀(i o:Nat)(r:List ao)(v:ao),rows[i]?=some r->o<size->rows.flatten.set (i*size+o) v=(rows.set i (r.set o v)).flatten
 |[],_,i,o,r,v,h,_=>by simp at h
 |q::rows,hw,i,o,r,v,h,ae=>by
  have aq:=hw q (by simp);cases i with
  |zero=>
   grind
  |succ i=>
   rw[qr,wU _ _ (by grind),Oi,qr];have:=X3 rows (λr am=>hw r (by simp[am])) i o r v (by grind) ae
   grind
theorem bz.write{off:Nat}(x:bz h bs size A n cap xs)(aL:off<n*size)(v:ao):∃g cs gQ,A=some ⟨g,0,none⟩/\h g=some (.cells cs.toArray bs (0,0))/\over cs off [v]=some gQ/\bz (h.put g (.cells gQ.toArray bs (0,0))) bs size A n cap (xs.set off v):=by
 obtain⟨h1,ab⟩:=x;rcases ab with⟨_,ab,_⟩|⟨g,a8,aM,aD,bj,bT,dz,j6⟩
 grind
 have cu:n*size<=cap*size:=Nat.mul_le_mul_right size bj;refine⟨g,a8.toList,a8.toList.set off v,aM,by omega,ib _ _ _ (by grind),by grind,.inr ⟨g,(a8.toList.set off v).toArray,aM,I.bP _ _ _,bj,bT,by grind,?_⟩⟩;rw[<-j6];simp only[List.take_set]
def ins(aa:List bo)(v:Nat):List Nat:=(aDB aa.length).filter λi=>decide ((aa[i]?).map bo.dst=some (v:Int))
def outs(aa:List bo)(v:Nat):List Nat:=(aDB aa.length).filter λi=>decide ((aa[i]?).map bo.src=some (v:Int))
def n'(l:List Nat):List (List ao):=l.map λ(i:Nat)=>[R (i:Int)]
def wI(N:Nat)(len:Nat->Nat)(cm:Nat->Option ar×Nat):List (List ao):=(aDB N).map λv=>[.slice (cm v).1 (len v) (cm v).2]
structure aim(bm:I)(b gt bk N:Nat)(aa:List bo)(e0 gL gM:Option ar)(cx ci co:Nat)(cm O:Nat->Option ar×Nat):Prop where
 head:bm b=some (.cells #[.slice e0 aa.length cx,.slice gL N ci,.slice gM N co,.slice (some ⟨gt,0,none⟩) aa.length aa.length,.slice (some ⟨bk,0,none⟩) N N] 271 (0,0))
 dG:bg bm 5 e0 aa.length (aa.map bo.cells)
 Rf:bg bm 1 gL N (wI N (λv=>(ins aa v).length) cm)
 out:bg bm 1 gM N (wI N (λv=>(outs aa v).length) O)
 aab:∀v,v<N->bg bm 1 (cm v).1 (ins aa v).length (n' (ins aa v))
 adf:∀v,v<N->bg bm 1 (O v).1 (outs aa v).length (n' (outs aa v))
 nB:bm gt=none
 nA:bm bk=none
 ne:gt≠bk
structure rk(bm:I)(b gt bk N:Nat)(aa:List bo):Prop where
 ex:∃e0 gL gM cx ci co cm O,aim bm b gt bk N aa e0 gL gM cx ci co cm O
theorem rk.mono{bm cq:I}{b gt bk N:Nat}{aa:List bo}(w:rk bm b gt bk N aa)(x:bm.le cq)(h1:cq gt=none)(ab:cq bk=none):rk cq b gt bk N aa:=by
 obtain⟨e0,gL,gM,cx,ci,co,cm,O,w⟩:=w.ex;exact⟨e0,gL,gM,cx,ci,co,cm,O,⟨x _ _ w.head,w.dG.mono x,w.Rf.mono x,w.out.mono x,λv ah=>(w.aab v ah).mono x,λv ah=>(w.adf v ah).mono x,h1,ab,w.ne⟩⟩
def gB(l:List Int):Obj:=.cells (l.map R).toArray 3 (0,0)
def st(bm:I)(gt bk:Nat)(cI cA:List Int):I:=(bm.put gt (gB cI)).put bk (gB cA)
section
variable {bm h:I}{b gt bk N:Nat}{aa:List bo}{cI cA:List Int}
theorem I.jp(h1:bm gt=none)(ab:bm bk=none):bm.le (st bm gt bk cI cA):=λo J e=>by
 unfold st;rw[I.cf _ _ (λq=>by grind),I.cf _ _ (λq=>by grind)];exact e
theorem DD(bH:gt≠bk):st bm gt bk cI cA gt=some (gB cI):=by
 unfold st;rw[I.cf _ _ bH,I.bP]
theorem Ga:st bm gt bk cI cA bk=some (gB cA):=by
 unfold st;rw[I.bP]
theorem Jr(bH:gt≠bk)(h1:bm gt=none)(ab:bm bk=none)(x:(st bm gt bk cI cA).le U):∃cq,U=st cq gt bk cI cA/\bm.le cq/\cq gt=none/\cq bk=none:=by
 refine⟨(U.del gt).del bk,?_,λo J e=>?_,?_,I.Ev _ _⟩;funext o;unfold st;by_cases aI:o=bk;subst aI;rw[I.bP];exact x _ _ Ga;rw[I.cf _ _ aI];by_cases aJ:o=gt;subst aJ;rw[I.bP];exact x _ _ (DD bH);rw[I.cf _ _ aJ,I.lP _ aI,I.lP _ aJ];have aI:o≠bk:=λq=>by grind
 have aJ:o≠gt:=λq=>by grind
 rw[I.lP _ aI,I.lP _ aJ];exact x _ _ (I.jp h1 ab _ _ e);rw[I.lP _ bH,I.Ev]
theorem axT(t:List Int):(st bm gt bk cI cA).put gt (gB t)=st bm gt bk t cA\/gt=bk:=by
 by_cases e:gt=bk;omega;left;funext o;simp only[st,I.put]
 grind
theorem axR(f:List Int):(st bm gt bk cI cA).put bk (gB f)=st bm gt bk cI f:=by
 unfold st;rw[I.sZ]
theorem bN{aj:I}{cs:List ao}{b ty:Nat}(af:aj b=some (.cells cs.toArray ty (0,0))){v:ao}(ah:cs[o]?=some v):aj.cell? ⟨b,o,none⟩=some v:=by
 unfold I.cell?
 grind
end
def hx(b:Nat):ao:=.pointer (some ⟨b,0,none⟩)
theorem YU(w:rk bm b gt bk N aa)(x:bm.le h)(v:Int):Fn aH 157 #[hx b,R v] h λr U=>r= .bool (nL N v)/\U=h:=by
 obtain⟨e0,gL,gM,cx,ci,co,cm,O,w⟩:=w.ex;refine b5 arw rfl ?_;refine aW (λh1=>?_) (λh1=>?_);refine .hp _ (I.kL x (bN w.head (o:=1) rfl)) ?_;refine .done ⟨?_,rfl⟩
 grind [jt,nL]
 refine .done ⟨?_,rfl⟩
 grind [jt,nL]
theorem acz(w:rk bm b gt bk N aa)(x:bm.le h)(v:Nat)(ah:v<N):Fn aH 115 #[hx b,R v] h λr U=>(∃A c,r= .slice A (ins aa v).length c/\bg bm 1 A (ins aa v).length (n' (ins aa v)))/\U=h:=by
 obtain⟨e0,gL,gM,cx,ci,co,cm,O,w⟩:=w.ex;refine b5 aq1 rfl ?_;refine .hp _ (I.kL x (bN w.head (o:=1) rfl)) ?_;obtain⟨g,ak⟩:=w.Rf.cc (by omega);refine .m g ak ?_;refine .hp (.slice (cm v).1 (ins aa v).length (cm v).2) (by rw[bq];exact(w.Rf.mono x).one ak (by simp[wI,ah];rfl) rfl) ?_;exact .done ⟨⟨_,_,rfl,w.aab v ah⟩,rfl⟩
theorem akN(w:rk bm b gt bk N aa)(x:bm.le h)(v:Nat)(ah:v<N):Fn aH 116 #[hx b,R v] h λr U=>(∃A c,r= .slice A (outs aa v).length c/\bg bm 1 A (outs aa v).length (n' (outs aa v)))/\U=h:=by
 obtain⟨e0,gL,gM,cx,ci,co,cm,O,w⟩:=w.ex;refine b5 aq2 rfl ?_;refine .hp _ (I.kL x (bN w.head (o:=2) rfl)) ?_;obtain⟨g,ak⟩:=w.out.cc (by omega);refine .m g ak ?_;refine .hp (.slice (O v).1 (outs aa v).length (O v).2) (by rw[bq];exact(w.out.mono x).one ak (by simp[wI,ah];rfl) rfl) ?_;exact .done ⟨⟨_,_,rfl,w.adf v ah⟩,rfl⟩
theorem Rc(h:i∈ins aa v):i<aa.length:=by
 grind [ins]
theorem avk(h:i∈outs aa v):i<aa.length:=by
 grind [outs]
theorem Ms{aj:I}{g:Nat}(af:aj g=some (gB l))(ag:i<l.length):aj.cell? ((Addr.mk g 0 none).add (i*1))=some (R l[i]):=by
 rw[add_lit,dJ,ew];exact bN (cs:=l.map R) af (by simp[ag])
def Fs(aa:List bo)(cI:List Int)(i:Nat):Bool:=decide (cI.getD i 0<((aa[i]?).map bo.take).getD 0)
def xZ(aa:List bo)(cI:List Int):List Nat->Int
 |[]=> -1
 |i::l=>if Fs aa cI i=true then i else xZ aa cI l
theorem RI{cI:List Int}(ag:i<aa.length)(av:i<cI.length):Fs aa cI i=decide (cI[i]<aa[i].take):=by
 simp[Fs,ag,av]
theorem aeH(w:rk bm b gt bk N aa)(cI cA:List Int)(pq:cI.length=aa.length)(fB:aa.length<=96)(v:Int):Fn aH 118 #[hx b,R v] (st bm gt bk cI cA) λr U=>r=R (if nL N v=true then xZ aa cI (ins aa v.toNat)else-1)/\U=st bm gt bk cI cA:=by
 obtain⟨e0,gL,gM,cx,ci,co,cm,O,aV⟩:=w.ex;have x:bm.le (st bm gt bk cI cA):=I.jp aV.nB aV.nA;have tF:st bm gt bk cI cA gt=some (gB cI):=DD aV.ne;generalize aP:st bm gt bk cI cA=h at x tF;refine b5 aq4 rfl ?_;refine .done (.mk _ (YU w x v) ?_);rintro _ U ⟨rfl,rfl⟩;cases ah:nL N v with
 |false=>
  exact .done ⟨rfl,rfl⟩
 |true=>
  obtain⟨v0,v1⟩:=(FM _ _).1 ah;obtain⟨u,rfl⟩:∃u:Nat,v=u:=⟨v.toNat,by omega⟩;refine .done (.mk _ (acz w x u (by omega)) ?_);rintro _ h ⟨⟨A,c,rfl,aO⟩,rfl⟩;have aF:((ins aa u).length:Int)<=96:=by
   have:(ins aa u).length<=aa.length:=by
    have:=J1 (λi=>decide ((aa[i]?).map bo.dst=some (u:Int))) (aDB aa.length)
    grind [ins]
   omega
  refine .mk Nat [0,19,20,21] (λo=>[.v (hx b),.v (.slice A (ins aa u).length c),.v (R (ins aa u).length),.v (R o)]) (λ_=>[]) (λo U=>U=h/\o<=(ins aa u).length/\xZ aa cI ((ins aa u).drop o)=xZ aa cI (ins aa u)) (λo=>(ins aa u).length-o) 0 (λ_=>rfl) ⟨rfl,cO _,rfl⟩ rfl rfl ?_;rintro o e U ⟨rfl,ae,az⟩;refine aW (λh1=>?_) (λh1=>?_);have en:o<(ins aa u).length:=by omega
  have aB:(ins aa u).drop o=(ins aa u)[o]::(ins aa u).drop (o+1):=o6 en;have ag:=Rc (cS en);generalize(ins aa u)[o]=i at aB ag;obtain⟨g,ak⟩:=aO.cc (by omega);obtain⟨jW,lW⟩:=aV.dG.cc (by omega);refine .m g ak ?_;refine .hp (R i) (by rw[bq];exact(aO.mono x).one ak (r:=[R i]) (by have:=ho (λl=>l[0]?) aB;simp at this;simp[n',this]) rfl) ?_;refine .hp _ (I.kL x (bN aV.head (o:=3) rfl)) ?_;refine .r ?_;refine .hp (R (cI[i]'(by omega))) (by rw[bq];exact Ms tF (by omega)) ?_;refine .hp _ (I.kL x (bN aV.head (o:=0) rfl)) ?_;refine .m jW lW ?_;refine .hp (R aa[i].take) (by rw[bq,uE];exact(aV.dG.mono x).cell jW lW i _ (iM ag) 3 _ rfl) ?_;have l0:=RI (cI:=cI) ag (by omega);refine aW (λab=>?_) (λab=>?_);refine .done ⟨?_,rfl⟩;rw[aX rfl,bq,<-az,aB,xZ,aX (by grind)];rfl;refine .aLS ?_;refine⟨o+1,rfl,rfl,⟨rfl,en,?_⟩,by omega⟩;simp_all[<-az,aB,xZ];refine .done ⟨?_,rfl⟩;rw[aX rfl,bq,<-az,tg (by omega)];rfl
theorem aeI{aa:List bo}{cI:List Int}:∀(l:List Nat),xZ aa cI l<0↔∀i∈l,Fs aa cI i=false
 |[]=>by simp[xZ]
 |i::l=>by
  simp only[xZ];cases h:Fs aa cI i;simp[h,aeI l]
  grind
def wE(N:Nat)(aa:List bo)(cI:List Int)(v:Int):Bool:=nL N v&&decide (xZ aa cI (ins aa v.toNat)<0)
theorem ab5(w:rk bm b gt bk N aa)(cI cA:List Int)(pq:cI.length=aa.length)(fB:aa.length<=96)(v:Int):Fn aH 114 #[hx b,R v] (st bm gt bk cI cA) λr U=>r= .bool (wE N aa cI v)/\U=st bm gt bk cI cA:=by
 obtain⟨e0,gL,gM,cx,ci,co,cm,O,aV⟩:=w.ex;have x:bm.le (st bm gt bk cI cA):=I.jp aV.nB aV.nA;refine b5 aq0 rfl ?_;refine .done (.mk _ (YU w x v) ?_);rintro _ U ⟨rfl,rfl⟩;cases ah:nL N v with
 |false=>
  refine .done ⟨?_,rfl⟩;simp[jt,wE,ah]
 |true=>
  refine .done (.mk _ (aeH w cI cA pq fB v) ?_);rintro _ U ⟨rfl,rfl⟩;refine .done ⟨?_,rfl⟩;simp[jt,wE,ah]
def qj(cA:List Int)(a:bo):Int:=a.start+a.fR*cA.getD a.src.toNat 0-a.take*cA.getD a.dst.toNat 0
def ee(aa:List bo)(cA:List Int):List Int:=aa.map (qj cA)
def kE(aa:List bo)(cA:List Int)(p q:Nat->Bool):List Int:=aa.zipIdx.map λx=>qj cA x.1- (if p x.2=true then x.1.take else 0)+(if q x.2=true then x.1.fR else 0)
theorem Ju(aa:List bo)(cA:List Int)(p q:Nat->Bool):(kE aa cA p q).length=aa.length:=by simp[kE]
theorem pE(aa:List bo)(cA:List Int):(ee aa cA).length=aa.length:=by simp[ee]
theorem vx(ag:i<aa.length):(kE aa cA p q)[i]'(by rw[Ju];exact ag)=qj cA aa[i]- (if p i=true then aa[i].take else 0)+(if q i=true then aa[i].fR else 0):=by
 simp[kE]
theorem ayH(aa:List bo)(cA:List Int)(hp:∀i,p i=false)(aq:∀i,q i=false):kE aa cA p q=ee aa cA:=by
 apply vH;simp[kE,ee];intro i h1 ab;rw[vx (by simp_all[kE])];simp[ee,hp,aq]
theorem ayG{zo:Nat->Bool}(ag:i<aa.length)(ai:p i=false)(h1:zo i=true)(ab:∀o,o≠i->zo o=p o):(kE aa cA p q).set i ((kE aa cA p q)[i]'(by rw[Ju];exact ag)-aa[i].take)=kE aa cA zo q:=by
 apply vH;simp[kE];intro o an aR;have ae:o<aa.length:=by simp_all[kE]
 rw[vI,vx ae];split;rename_i e;subst e;rw[vx ag,vx ag,ai,h1]
 grind
 rename_i e;rw[vx ae,ab o (d9 e)]
theorem ayE{l5:Nat->Bool}(ag:i<aa.length)(ai:q i=false)(h1:l5 i=true)(ab:∀o,o≠i->l5 o=q o):(kE aa cA p q).set i ((kE aa cA p q)[i]'(by rw[Ju];exact ag)+aa[i].fR)=kE aa cA p l5:=by
 apply vH;simp[kE];intro o an aR;have ae:o<aa.length:=by simp_all[kE]
 rw[vI,vx ae];split;rename_i e;subst e;rw[vx ag,vx ag,ai,h1];simp;rename_i e;rw[vx ae,ab o (d9 e)]
theorem afl{zo l5:Nat->Bool}(hp:∀i,p i=zo i)(aq:∀i,q i=l5 i):kE aa cA p q=kE aa cA zo l5:=by
 rw[funext hp,funext aq]
def bump(cA:List Int)(v:Nat):List Int:=cA.set v (cA.getD v 0+1)
theorem V1(cA:List Int)(v u:Nat)(ah:v<cA.length):(bump cA v).getD u 0=cA.getD u 0+if u=v then 1 else 0:=by
 simp only[bump,cN,List.getElem?_set]
 grind
theorem afm{a:bo}(a6:og N a=0)(al:cA.length=N)(ah:v<N):qj (bump cA v) a=qj cA a- (if a.dst=v then a.take else 0)+(if a.src=v then a.fR else 0):=by
 have af:=vl a6;unfold qj;rw[V1 _ _ _ (by omega),V1 _ _ _ (by omega)]
 grind
theorem R5(ag:i<aa.length):i∈ins aa v↔aa[i].dst=v:=by
 simp[ins,ag]
theorem atT(ag:i<aa.length):i∈outs aa v↔aa[i].src=v:=by
 simp[outs,ag]
theorem auI(aa:List bo)(v:Nat):(ins aa v).Nodup:=UR _ ahq
theorem auJ(aa:List bo)(v:Nat):(outs aa v).Nodup:=UR _ ahq
theorem ayF(aj:e' N aa=0)(al:cA.length=N)(ah:v<N):kE aa cA (λi=>decide (i∈ins aa v)) (λi=>decide (i∈outs aa v))=ee aa (bump cA v):=by
 apply vH;simp[kE,ee];intro i h1 ab;have ag:i<aa.length:=by grind [ee]
 rw[vx ag];simp only[ee,List.getElem_map];rw[afm ((lO aj).2.2.2 _ (cS ag)) al ah];simp only[sh,R5 ag,atT ag]
def may(N:Nat)(aa:List bo)(cA:List Int)(v:Int):Bool:=wE N aa (ee aa cA) v
theorem atP:may N aa cA v=true↔v<N/\∀a∈aa,a.dst=v->a.take<=qj cA a:=by
 have key:(∀i∈ins aa v,Fs aa (ee aa cA) i=false)↔∀a∈aa,a.dst=v->a.take<=qj cA a:=by
  constructor;intro h a a6 aB;obtain⟨i,ag,rfl⟩:=rb a6;have:=h i ((R5 ag).2 aB);rw[RI ag (by rw[pE];exact ag)]at this
  grind [ee]
  intro h i ag;have AG:=Rc ag;rw[RI AG (by rw[pE];exact AG)];have:=h aa[i] (cS AG) ((R5 AG).1 ag)
  grind [ee]
 unfold may wE;rw[fY,sh,aeI,bq,key,FM];simp
theorem ab6{v:Int}(h:may N aa cA v=true):∃u:Nat,v=u/\u<N:=by
 unfold may wE at h;rw[fY,FM]at h
 grind
def ni(N:Nat)(aa:List bo):List Int->List Int->Nat×List Int
 |[],f=>(0,f)
 |v::l,f=>if may N aa f v=true then((ni N aa l (bump f v.toNat)).1+1,(ni N aa l (bump f v.toNat)).2)else(0,f)
structure Good(N:Nat)(aa:List bo)(cA:List Int)(T:Nat):Prop where
 len:cA.length=N
 bX:∀x∈cA,0<=x/\x<=T
 tok:∀a∈aa,0<=qj cA a
theorem Good.at(g:Good N aa cA T)(u:Nat):0<=cA.getD u 0/\cA.getD u 0<=T:=by
 rw[cN];cases h:cA[u]?with
 |none=>simp
 |some x=>exact g.bX x (List.mem_of_getElem? h)
theorem Good.bump{N T:Nat}{aa:List bo}{cA:List Int}(g:Good N aa cA T)(aj:e' N aa=0){v:Nat}(hm:may N aa cA v=true):Good N aa (bump cA v) (T+1):=by
 obtain⟨ah,hm⟩:=atP.1 hm;refine⟨by simp[Sx.bump,g.len],λx ad=>?_,λa a6=>?_⟩;have:=g.at v;rcases List.mem_or_eq_of_mem_set ad with ad|rfl;have:=g.bX x ad;omega;omega;have dk:=(lO aj).2.2.2 a a6;have af:=vl dk;rw[afm dk g.len ah];have ai:=g.tok a a6
 grind
theorem Good.afn(g:Good N aa cA T)(aj:e' N aa=0){a:bo}(a6:a∈aa):qj cA a<=256+64*T:=by
 have af:=vl ((lO aj).2.2.2 a a6);have h1:=g.at a.src.toNat;have ab:=g.at a.dst.toNat;obtain⟨I5,ie⟩:=VY (x:=a.fR) (y:=cA.getD a.src.toNat 0) (a:=64) (b:=T) (by omega) (by omega) h1.1 h1.2;obtain⟨hR,kW⟩:=VY (x:=a.take) (y:=cA.getD a.dst.toNat 0) (a:=64) (b:=T) (by omega) (by omega) ab.1 ab.2;unfold qj;omega
theorem FT(ag:i<l.length)(x:Int):over (l.map R) (0+i*1) [R x]=some ((l.set i x).map R):=by
 rw[dJ,ew,ib _ _ _ (by grind),nb]
theorem aeZ{cI:List Int}(bH:gt≠bk):(st bm gt bk cI cA).put gt (.cells (t.map R).toArray 3 (0,0))=st bm gt bk t cA:=by
 rcases axT (bm:=bm) (gt:=gt) (bk:=bk) (cI:=cI) (cA:=cA) t with h|h;exact h;omega
theorem aoG(aa:List bo)(v:Nat):(ins aa v).length<=aa.length:=by
 have:=J1 (λi=>decide ((aa[i]?).map bo.dst=some (v:Int))) (aDB aa.length)
 grind [ins]
theorem avj(aa:List bo)(v:Nat):(outs aa v).length<=aa.length:=by
 have:=J1 (λi=>decide ((aa[i]?).map bo.src=some (v:Int))) (aDB aa.length)
 grind [outs]
theorem Z'{l:List Nat}(ae:o<l.length):(n' l)[o]?=some [R (l[o]:Int)]:=by simp[n',ae]
def lb(l:List Nat)(o:Nat):Nat->Bool:=λi=>decide (i∈l.take o)
theorem aag(l:List Nat)(i:Nat):lb l 0 i=false:=by rfl
theorem aad{l:List Nat}(aC:l.Nodup)(ae:o<l.length):lb l o l[o]=false:=by
 simp only[lb,decide_eq_false_iff_not];intro h;obtain⟨i,ag,e⟩:=rb h;simp only[List.length_take]at ag;rw[List.getElem_take]at e;exact aCj.1 aC i o (by omega) ae (by omega) e
theorem aaf{l:List Nat}(ae:o<l.length):lb l (o+1) l[o]=true:=by
 simp only[lb,sh];rw[kh ae,ev];simp
theorem aae{l:List Nat}(ae:o<l.length)(i:Nat)(ag:i≠l[o]):lb l (o+1) i=lb l o i:=by
 have h:i∈l.take (o+1)↔i∈l.take o:=by
  rw[kh ae,ev,fx]
  grind
 simp[lb,h]
theorem aac(l:List Nat)(i:Nat):lb l l.length i=decide (i∈l):=by simp[lb]
theorem akY(w:rk bm b gt bk N aa)(aj:e' N aa=0)(aG cA:List Int)(A:Option ar)(n cap T:Nat)(aY:bg bm 1 A n (aG.map λz=>[R z]))(cq:Good N aa cA T)(gA:T+n<=70368744177664):Fn aH 55 #[hx b,.slice A n cap] (st bm gt bk (ee aa cA) cA) λr U=>r=R (ni N aa aG cA).1/\U=st bm gt bk (ee aa (ni N aa aG cA).2) (ni N aa aG cA).2:=by
 obtain⟨e0,gL,gM,cx,ci,co,cm,O,aV⟩:=w.ex;have ad:∀t f,bm.le (st bm gt bk t f):=λt f=>I.jp aV.nB aV.nA;have tF:∀t f,st bm gt bk t f gt=some (gB t):=λt f=>DD aV.ne;have HU:∀t f,st bm gt bk t f bk=some (gB f):=λt f=>Ga;have ht:=(lO aj).2.2.1;have xD:aG.length=n:=by simpa using aY.len
 refine b5 asn rfl ?_;refine .mk (Nat×List Int) [0,1,13,14,15] (λ(k,_)=>[.v (hx b),.v (.slice A n cap),.v (.slice A n cap),.v (R n),.v (R k)]) (λ_=>[]) (λ(k,f) U=>U=st bm gt bk (ee aa f) f/\k<=n/\Good N aa f (T+k)/\ni N aa aG cA=(k+(ni N aa (aG.drop k) f).1,(ni N aa (aG.drop k) f).2)) (λ(k,_)=>n-k) (0,cA) (λ_=>rfl) ⟨rfl,cO _,cq,by simp⟩ rfl rfl ?_;rintro⟨k,f⟩ e _ ⟨rfl,hk,ak,dp⟩;refine aW (λh1=>?_) (λh1=>?_);have br:k<n:=by omega
 have aB:aG.drop k=aG[k]::aG.drop (k+1):=o6 (by omega);obtain⟨g,rD⟩:=aY.cc (by omega);refine .m g rD ?_;refine .hp (R aG[k]) (by rw[bq];exact(aY.mono (ad _ _)).one rD (r:=[R aG[k]]) (by grind) rfl) ?_;refine .done (.mk _ (ab5 w (ee aa f) f (pE _ _) ht aG[k]) ?_);rintro _ _ ⟨rfl,rfl⟩;rw[aB,ni]at dp;cases hm:wE N aa (ee aa f) aG[k]with
 |false=>
  have rF:may N aa f aG[k]=false:=hm;rw[rF,aE (by simp)]at dp;refine .done ⟨?_,?_⟩;rw[dp];rfl
  grind
 |true=>
  have rF:may N aa f aG[k]=true:=hm;rw[rF,aX rfl]at dp;obtain⟨u,hu,LK⟩:=ab6 rF;have dT:=ak.bump aj (v:=u) (by grind);rw[hu]at dp⊢;rw[bq]at dp;have YY:∀(i:Nat)(ag:i<aa.length),0<=qj f aa[i]/\qj f aa[i]<=256+64*((T+k:Nat):Int)/\1<=aa[i].take/\aa[i].take<=64/\1<=aa[i].fR/\aa[i].fR<=64:=λi ag=>by
   have hm:=cS ag;have af:=vl ((lO aj).2.2.2 _ hm);exact⟨ak.tok _ hm,ak.afn aj hm,by omega,by omega,by omega,by omega⟩
  refine .done (.mk _ (acz w (ad _ _) u LK) ?_);rintro _ _ ⟨⟨dE,c2,rfl,qJ⟩,rfl⟩;have AG:=aoG aa u;have nF:=avj aa u;rw[<-ayH aa f (p:=lb (ins aa u) 0) (q:=λ_=>false) (aag _) (λ_=>rfl)];refine .mk Nat [0,1,6,13,14,15,29,30,31] (λo=>[.v (hx b),.v (.slice A n cap),.v (R u),.v (.slice A n cap),.v (R n),.v (R k),.v (.slice dE (ins aa u).length c2),.v (R (ins aa u).length),.v (R o)]) (λ_=>[]) (λo U=>U=st bm gt bk (kE aa f (lb (ins aa u) o) (λ_=>false)) f/\o<=(ins aa u).length) (λo=>(ins aa u).length-o) 0 (λ_=>rfl) ⟨rfl,cO _⟩ rfl rfl ?_;rintro o aI _ ⟨rfl,ae⟩;refine aW (λab=>?_) (λab=>?_);have en:o<(ins aa u).length:=by omega
  have ag:=Rc (cS en);have sx:=aad (auI aa u) en;have CP:=aaf en;have fS:=aae en;have jM:=Z' en;generalize(ins aa u)[o]=i at ag sx CP fS jM;obtain⟨g2,gV⟩:=qJ.cc (by omega);obtain⟨jW,lW⟩:=aV.dG.cc (by omega);obtain⟨bL,cy,gE,iW,jy,pO⟩:=YY i ag;have vb:=vx (cA:=f) (p:=lb (ins aa u) o) (q:=λ_=>false) ag;rw[sx]at vb;simp only[uh,k',Int.sub_zero,ag0]at vb;have eb:i<(kE aa f (lb (ins aa u) o) (λ_=>false)).length:=by grind
  refine .m g2 gV ?_;refine .hp (R i) (by rw[bq];exact(qJ.mono (ad _ _)).one gV jM rfl) ?_;refine .hp _ (I.kL (ad _ _) (bN aV.head (o:=3) rfl)) ?_;refine .r ?_;refine .hp (R (qj f aa[i])) (by rw[bq,<-vb];exact Ms (tF _ _) eb) ?_;refine .hp _ (I.kL (ad _ _) (bN aV.head (o:=0) rfl)) ?_;refine .m jW lW ?_;refine .hp (R aa[i].take) (by rw[bq,uE];exact(aV.dG.mono (ad _ _)).cell jW lW i _ (iM ag) 3 _ rfl) ?_;refine .aLS ?_;refine .r ?_;refine .hp gt (0+i*1) 3 _ _ (by rw[add_lit,bq]) (tF _ _) (FT eb _) ?_;rw[aeZ aV.ne];have AR:=ayG (cA:=f) (p:=lb (ins aa u) o) (zo:=lb (ins aa u) (o+1)) (q:=λ_=>false) ag sx CP fS;rw[vb]at AR;rw[AR];refine .aLS ?_;exact⟨o+1,rfl,rfl,⟨rfl,en⟩,by omega⟩;have p1:o=(ins aa u).length:=by omega
  subst p1;rw[afl (zo:=λi=>decide (i∈ins aa u)) (l5:=lb (outs aa u) 0) (aac _) (λi=>(aag _ i).symm)];refine .done (.mk _ (akN w (ad _ _) u LK) ?_);rintro _ _ ⟨⟨lm,eI,rfl,Hz⟩,rfl⟩;refine .mk Nat [0,1,6,13,14,15,58,59,60] (λo=>[.v (hx b),.v (.slice A n cap),.v (R u),.v (.slice A n cap),.v (R n),.v (R k),.v (.slice lm (outs aa u).length eI),.v (R (outs aa u).length),.v (R o)]) (λ_=>[]) (λo U=>U=st bm gt bk (kE aa f (λi=>decide (i∈ins aa u)) (lb (outs aa u) o)) f/\o<=(outs aa u).length) (λo=>(outs aa u).length-o) 0 (λ_=>rfl) ⟨rfl,cO _⟩ rfl rfl ?_;rintro o aI _ ⟨rfl,ae⟩;refine aW (λab=>?_) (λab=>?_);have en:o<(outs aa u).length:=by omega
  have ag:=avk (cS en);have sx:=aad (auJ aa u) en;have CP:=aaf en;have fS:=aae en;have jM:=Z' en;generalize(outs aa u)[o]=i at ag sx CP fS jM;obtain⟨g2,gV⟩:=Hz.cc (by omega);obtain⟨jW,lW⟩:=aV.dG.cc (by omega);obtain⟨bL,cy,gE,iW,jy,pO⟩:=YY i ag;have vb:=vx (cA:=f) (p:=λi=>decide (i∈ins aa u)) (q:=lb (outs aa u) o) ag;rw[sx]at vb;simp only[uh,k',ag0]at vb;have eb:i<(kE aa f (λi=>decide (i∈ins aa u)) (lb (outs aa u) o)).length:=by grind
  have amB: -64<=(kE aa f (λi=>decide (i∈ins aa u)) (lb (outs aa u) o))[i]/\(kE aa f (λi=>decide (i∈ins aa u)) (lb (outs aa u) o))[i]<=256+64*((T+k:Nat):Int):=by
   omega
  have ER:=ayE (cA:=f) (p:=λi=>decide (i∈ins aa u)) (q:=lb (outs aa u) o) (l5:=lb (outs aa u) (o+1)) ag sx CP fS;have lV:=Ms (tF (kE aa f (λi=>decide (i∈ins aa u)) (lb (outs aa u) o)) f) eb;generalize(kE aa f (λi=>decide (i∈ins aa u)) (lb (outs aa u) o))[i]=y at amB ER lV;refine .m g2 gV ?_;refine .hp (R i) (by rw[bq];exact(Hz.mono (ad _ _)).one gV jM rfl) ?_;refine .hp _ (I.kL (ad _ _) (bN aV.head (o:=3) rfl)) ?_;refine .r ?_;refine .hp (R y) (by rw[bq];exact lV) ?_;refine .hp _ (I.kL (ad _ _) (bN aV.head (o:=0) rfl)) ?_;refine .m jW lW ?_;refine .hp (R aa[i].fR) (by rw[bq,uE];exact(aV.dG.mono (ad _ _)).cell jW lW i _ (iM ag) 2 _ rfl) ?_;refine .aLS ?_;refine .r ?_;refine .hp gt (0+i*1) 3 _ _ (by rw[add_lit,bq]) (tF _ _) (FT eb _) ?_;rw[aeZ aV.ne,ER];refine .aLS ?_;exact⟨o+1,rfl,rfl,⟨rfl,en⟩,by omega⟩;have anp:o=(outs aa u).length:=by omega
  subst anp;rw[afl (l5:=λi=>decide (i∈outs aa u)) (λ_=>rfl) (aac _),ayF aj ak.len LK];have AT:u<f.length:=by grind [ak.len]
  have Q0:=ak.at u;have E3:f.getD u 0=f[u]:=by grind
  rw[E3]at Q0;refine .hp _ (I.kL (ad _ _) (bN aV.head (o:=4) rfl)) ?_;refine .r ?_;refine .hp (R f[u]) (by rw[bq];exact Ms (HU _ _) AT) ?_;refine .aLS ?_;refine .r ?_;refine .hp bk (0+u*1) 3 _ _ (by rw[add_lit,bq]) (HU _ _) (FT AT _) ?_;rw[show∀l:List Int,uq (l.map R).toArray 3 (0,0)=gB l fromλ_=>rfl,axR,show f.set u (f[u]+1)=bump f u by rw[bump,E3]];refine .aLS ?_;refine⟨(k+1,bump f u),rfl,rfl,⟨rfl,br,dT,?_⟩,by grind⟩
  grind
 rw[tg (by omega)]at dp;refine .done ⟨?_,?_⟩;rw[dp]
 grind [jt,ni,R]
 simp[dp,ni]
structure pJ(ai h:I)(S:Nat->Prop)(ba:Nat->Option ar×Nat)(cZ:Nat->List Nat):Prop where
 le:ai.le h
 row:∀v,S v->bz h 3 1 (ba v).1 (cZ v).length (ba v).2 ((n' (cZ v)).flatten)
 new:∀v,S v->∀g,(ba v).1=some g->ai g.block=none
 Kz:∀v,S v->∀u,S u->v≠u->∀g b7,(ba v).1=some g->(ba u).1=some b7->g.block≠b7.block
def ki{α:Type}(ba:Nat->α)(v:Nat)(x:α):Nat->α:=λu=>if u=v then x else ba u
theorem bz.mem(x:bz h bs size A n cap xs){g:ar}(ak:A=some g):h g.block≠none:=by
 rcases x.2 with⟨h1,_⟩|⟨b,a8,h1,ab,_⟩
 grind
 grind
theorem bz.mono(x:bz h bs size A n cap xs)(cu:h.le U):bz U bs size A n cap xs:=by
 obtain⟨h1,ab⟩:=x;refine⟨h1,?_⟩;rcases ab with ab|⟨b,a8,aJ,aI,ck⟩
 grind
 exact .inr ⟨b,a8,aJ,cu _ _ aI,ck⟩
theorem bz.del{B:Option ar}(x:bz h bs size A n cap xs)(aB:∀g b7,A=some g->B=some b7->g.block≠b7.block):bz (ei h B) bs size A n cap xs:=by
 obtain⟨h1,ab⟩:=x;refine⟨h1,?_⟩;rcases ab with ab|⟨b,a8,aJ,aI,ck⟩
 grind
 refine .inr ⟨b,a8,aJ,?_,ck⟩;cases B with
 |none=>exact aI
 |some b7=>rw[ei,I.lP _ (aB _ b7 aJ rfl)];exact aI
theorem xh{B:Option ar}(cu:ai.le h)(aC:∀g,B=some g->ai g.block=none):ai.le (ei h B):=by
 cases B with
 |none=>exact cu
 |some g=>
  intro o J e;rw[ei,I.lP _ (λq=>by grind)];exact cu o J e
theorem pJ.del{ai h:I}{S:Nat->Prop}{ba:Nat->Option ar×Nat}{cZ:Nat->List Nat}(f:pJ ai h S ba cZ){v:Nat}(ah:S v):pJ ai (ei h (ba v).1) (λu=>S u/\u≠v) ba cZ:=⟨xh f.le (f.new v ah),λu hu=>(f.row u hu.1).del λg b7 h1 ab=>f.Kz u hu.1 v ah hu.2 g b7 h1 ab,λu hu=>f.new u hu.1,λu hu w hw=>f.Kz u hu.1 w hw.1⟩
theorem pJ.add(f:pJ ai h S ba cZ){l:List Nat}(ah:¬S v)(cu:h.le U)(am:bz U 3 1 A l.length cap (n' l).flatten)(az:∀g,A=some g->h g.block=none):pJ ai U (λu=>S u\/u=v) (ki ba v (A,cap)) (ki cZ v l):=by
 have bH:∀u,S u->u≠v:=λu hu e=>ah (e▸hu);have n0:∀u,S u->∀g b7,(ba u).1=some g->A=some b7->g.block≠b7.block:=λu hu g b7 h1 ab e=>by
  have:=(f.row u hu).mem h1
  grind
 refine⟨I.le_trans f.le cu,λu hu=>?_,λu hu g ak=>?_,λu hu w hw Z0 g b7 h1 ab=>?_⟩;by_cases e:u=v
 grind [ki]
 simp only[ki,aE e];exact(f.row u (hu.resolve_right e)).mono cu;by_cases e:u=v;subst e;simp only[ki,la]at ak;cases q:ai g.block with
 |none=>rfl
 |some J=>have:=f.le _ _ q;grind
 simp only[ki,aE e]at ak;exact f.new u (hu.resolve_right e) g ak;by_cases e:u=v
 grind [ki]
 simp only[ki,aE e]at h1;by_cases bl:w=v
 grind [ki]
 simp only[ki,aE bl]at ab;exact f.Kz u (hu.resolve_right e) w (hw.resolve_right bl) Z0 g b7 h1 ab
theorem pJ.zero(h:I)(S:Nat->Prop):pJ h h S (λ_=>(none,0)) (λ_=>[]):=⟨I.le_refl h,λ_ _=>⟨rfl,.inl ⟨rfl,rfl,rfl⟩⟩,(λ_ _ g e=>by cases e),(λ_ _ _ _ _ g b7 e=>by cases e)⟩
theorem pJ.same{Ea:Nat->Prop}(f:pJ ai h S ba cZ)(c5:∀v,Ea v->S v):pJ ai h Ea ba cZ:=⟨f.le,λv ah=>f.row v (c5 v ah),λv ah=>f.new v (c5 v ah),λv ah u hu=>f.Kz v (c5 v ah) u (c5 u hu)⟩
def part(aa:List bo)(N k v:Nat):List Nat:=if v<N then(aDB k).filter (λi=>decide ((aa[i]?).map bo.dst=some (v:Int)))else(aDB k).filter (λi=>decide ((aa[i]?).map bo.src=some ((v-N:Nat):Int)))
theorem adq(ah:v<N):part aa N aa.length v=ins aa v:=by rw[part,aX ah];rfl
theorem adr:part aa N aa.length (N+v)=outs aa v:=by
 rw[part,aE (by omega),ahA];rfl
theorem ads(aa:List bo)(N v:Nat):part aa N 0 v=[]:=by simp[part]
theorem avr{d s:Nat}(hk:k<aa.length)(aB:aa[k].dst=d)(aj:aa[k].src=s)(HO:d<N)(v:Nat):part aa N (k+1) v=ki (ki (part aa N k) d (part aa N k d++[k])) (N+s) (part aa N k (N+s)++[k]) v:=by
 have oM:aa[k]?=some aa[k]:=bZ hk;simp only[ki];by_cases h1:v=N+s;subst h1;rw[aX rfl];simp only[part,aE (show¬N+s<N by omega),ahA,GN,N6]
 grind
 rw[aE h1];by_cases ab:v=d;subst ab;rw[aX rfl];simp only[part,aX HO,GN,N6]
 grind
 rw[aE ab];unfold part;split;rw[GN,N6]
 grind
 rw[GN,N6]
 grind
theorem wd:∀(l:List Int),(l.map λz=>[R z]).flatten=l.map R
 |[]=>rfl
 |x::l=>by rw[eO,qr,wd l];rfl
theorem IV(l:List Int):∀u∈l.map R,u.oneCell'=true:=by
 intro u hu;obtain⟨z,_,rfl⟩:=dn.1 hu;rfl
theorem TK{g:Nat}(af:h g=some (gB l)):bg h 1 (some ⟨g,0,none⟩) l.length (l.map λz=>[R z]):=bg.lit af (wd l) (Rg l) (by simp)
def nz(N:Nat)(ba:Nat->Option ar×Nat)(cZ:Nat->List Nat)(off:Nat):List ao:=(aDB N).map λv=>.slice (ba (off+v)).1 (cZ (off+v)).length (ba (off+v)).2
def DL(N n cx:Nat)(aa:List bo)(e0:Option ar)(kf go:ar)(k:Nat)(ba:Nat->Option ar×Nat):List LE:=
 [.own [.v (.slice none 0 0),.v (.slice none 0 0),.v (.slice none 0 0)] 268,.own [.v (.slice e0 n cx),.v (.slice (some kf) N N),.v (.slice (some go) N N)] 268,.row 157 5 e0 n cx (aa.map bo.cells).flatten,
  .row 27 1 (some kf) N N (nz N ba (part aa N k) 0),.row 27 1 (some go) N N (nz N ba (part aa N k) N)]
theorem XH{vG:Nat->Option ar×Nat}{nw:Nat->List Nat}{off d:Nat}(h:∀v,v<N->v≠d->vG (off+v)=ba (off+v)/\nw (off+v)=cZ (off+v)):nz N vG nw off=(nz N ba cZ off).set d (.slice (vG (off+d)).1 (nw (off+d)).length (vG (off+d)).2):=by
 apply vH;simp[nz];intro v h1 ab;have ah:v<N:=by grind [nz]
 rw[vI];split
 grind [nz]
 rename_i e;obtain⟨aM,aD⟩:=h v ah (d9 e);simp[nz,aM,aD]
def afQ(N n cx:Nat)(aa:List bo)(e0:Option ar)(kf go:ar):List LE:=
 [.own [.v (.slice none 0 0),.v (.slice none 0 0),.v (.slice none 0 0)] 268,.own [.v (.slice e0 n cx),.v (.slice (some kf) N N),.v (.slice (some go) N N)] 268,.row 157 5 e0 n cx (aa.map bo.cells).flatten,
  .row 27 1 (some kf) N N (bG N (.slice none 0 0)),.row 27 1 (some go) N N (bG N (.slice none 0 0))]
theorem XI(N:Nat)(aa:List bo)(off:Nat):nz N (λ_=>(none,0)) (part aa N 0) off=bG N (.slice none 0 0):=by
 apply vH;simp[nz];intro v h1 ab;simp[nz,ads]
theorem azH(N n cx:Nat)(aa:List bo)(e0:Option ar)(kf go:ar):DL N n cx aa e0 kf go 0 (λ_=>(none,0))=afQ N n cx aa e0 kf go:=by
 rw[DL,XI,XI];rfl
theorem fP(Q:dL)(e:bY)(L:List LE)(h:I)(perm:List Nat)(N n cx:Nat)(aa:List bo)(e0:Option ar)(kf go:ar)(aj:e' N aa=0)(aC:aa.length=n)(aO:n≠0->∃g,e0=some g)(he:[2,3,18,19,20].map e=([.p 0 0,.p 1 0,.v (.slice e0 n cx),.v (R n),.v (R (0:Nat))]:List aA).map (aCq perm))(aB:tv perm=true)(aF:sY L perm=some ((afQ N n cx aa e0 kf go).map (pA perm)))(cD:∀e ba U,pJ h U (λv=>v<2*N) ba (part aa N n)->e 2= .p 0 0->e 3= .p 1 0->Q (.exit 0) e (DL N n cx aa e0 kf go n ba) U):te (λQ e L h=>c7 aH 55 aoO Q e L h) Q e L h:=by
 rw[<-azH]at aF;refine .kU perm (Nat×(Nat->Option ar×Nat)) [2,3,18,19,20] (λ(k,_)=>[.p 0 0,.p 1 0,.v (.slice e0 n cx),.v (R n),.v (R k)]) (λ(k,ba)=>DL N n cx aa e0 kf go k ba) (λ(k,ba) U=>pJ h U (λv=>v<2*N) ba (part aa N k)/\k<=n) (λ(k,_)=>n-k) (0,λ_=>(none,0)) (λ(_,_)=>rfl) ⟨?_,cO _⟩ he aB aF ?_;have:=pJ.zero h (λv=>v<2*N);rw[show(λ_=>([]:List Nat))=part aa N 0 from funext λv=>(ads aa N v).symm]at this;omega;rintro⟨k,ba⟩ e U ⟨az,hk⟩;by_cases E8:k<n;have ag:k<aa.length:=by omega
 have af:=vl ((lO aj).2.2.2 _ (cS ag));obtain⟨d,aB⟩:∃d:Nat,aa[k].dst=d:=⟨aa[k].dst.toNat,by omega⟩;obtain⟨s,CT⟩:∃s:Nat,aa[k].src=s:=⟨aa[k].src.toNat,by omega⟩;have HO:d<N:=by omega
 have ZU:s<N:=by omega
 have E1:=az.del (v:=d) (by omega);have wj:=E1.del (v:=N+s) ⟨by omega,by omega⟩;refine .abs 3 1 (ba d).1 (part aa N k d).length (ba d).2 _ (az.row d (by omega)) (.abs 3 1 (ba (N+s)).1 (part aa N k (N+s)).length (ba (N+s)).2 _ (E1.row (N+s) ⟨by omega,by omega⟩) (.done ?_));obtain⟨g,rfl⟩:=aO (by omega);refine aW (λh1=>?_) (λh1=>by omega);refine .m g rfl ?_;refine .row 2 157 5 g n cx _ (k*5) aa[k].cells rfl (by rfl) rfl (λq v ah=>Ci _ (VH _) k q _ v (iM ag) ah) ?_;refine .m kf rfl ?_;have AA:∀(off v:Nat),v<N->(nz N ba (part aa N k) off)[v]?=some (.slice (ba (off+v)).1 (part aa N k (off+v)).length (ba (off+v)).2):=λoff v ah=>by simp[nz,ah]
 refine .row 3 27 1 kf N N _ (d*1) _ rfl (by grind) (by rw[ew,AA 0 d HO]) ?_;rw[dJ];have wo:=(lO aj).2.2.1;have tM:∀v,(part aa N k v).length<=k:=λv=>by
  unfold part
  grind
 have aBo:=tM d;have aBp:=tM (N+s);refine .cR 5 _ _ rfl rfl (IV [(k:Int)]) (by grind [c']) (by omega) λdE c2 _=>?_;refine .m kf rfl ?_;have ml:∀off,(nz N ba (part aa N k) off).length=N:=λoff=>by simp[nz]
 refine .row 3 27 1 kf N N _ _ d rfl (by grind) (ib _ _ _ (by grind)) ?_;refine .m go rfl ?_;refine .row 4 27 1 go N N _ (s*1) _ rfl (by grind) (by rw[ew,AA N s ZU]) ?_;refine .cR 6 _ _ rfl rfl (IV [(k:Int)]) (by grind [c']) (by omega) λlm eI _=>?_;refine .m go rfl ?_;refine .row 4 27 1 go N N _ _ s rfl (by grind) (ib _ _ _ (by grind)) ?_;refine .aLS ?_;have am5:∀v,((n' (part aa N k v)).flatten++[R (k:Int)])=(n' (part aa N k v++[k])).flatten:=λv=>by simp[n']
 refine .bV 5 3 1 dE ((part aa N k d).length+1) c2 _ rfl λHx k9 dH AL=>.bV 6 3 1 lm ((part aa N k (N+s)).length+1) eI _ rfl λHy aEq fJ rG=>.done ?_;have dH:bz Hx 3 1 dE ((part aa N k d).length+1) c2 ((n' (part aa N k d)).flatten++[R (k:Int)]):=dH;have fJ:bz Hy 3 1 lm ((part aa N k (N+s)).length+1) eI ((n' (part aa N k (N+s))).flatten++[R (k:Int)]):=fJ;rw[am5]at dH fJ;have Ib:part aa N (k+1)=ki (ki (part aa N k) d (part aa N k d++[k])) (N+s) (part aa N k (N+s)++[k]):=funext (avr ag aB CT HO);have g1:=wj.add (v:=d) (cap:=c2) (A:=dE) (l:=part aa N k d++[k]) (by omega) k9 (by grind) AL;have g2:=g1.add (v:=N+s) (cap:=eI) (A:=lm) (l:=part aa N k (N+s)++[k]) (by omega) aEq (by grind) rG;rw[<-Ib]at g2;refine⟨(k+1,ki (ki ba d (dE,c2)) (N+s) (lm,eI)),rfl,?_,⟨g2.same λv ah=>by omega,E8⟩,by grind⟩;have aJ:nz N (ki (ki ba d (dE,c2)) (N+s) (lm,eI)) (part aa N (k+1)) 0=(nz N ba (part aa N k) 0).set d (.slice dE ((part aa N k d).length+1) c2):=by
  rw[XH (ba:=ba) (cZ:=part aa N k) (d:=d) (λv ah bH=>⟨by grind [ki],by rw[Ib];grind [ki]⟩)];rw[Ib]
  grind [ki]
 have aI:nz N (ki (ki ba d (dE,c2)) (N+s) (lm,eI)) (part aa N (k+1)) N=(nz N ba (part aa N k) N).set s (.slice lm ((part aa N k (N+s)).length+1) eI):=by
  rw[XH (ba:=ba) (cZ:=part aa N k) (d:=s) (λv ah bH=>⟨by grind [ki],by rw[Ib];grind [ki]⟩)];simp[Ib,ki]
 show _=DL N n cx aa (some g) kf go (k+1) (ki (ki ba d (dE,c2)) (N+s) (lm,eI));rw[DL,aJ,aI];rfl;have:k=n:=by omega
 subst this;refine .done ?_;refine aW (λh1=>?_) (λh1=>?_);omega;exact cD _ ba U az rfl rfl
def Vl(U:I)(N:Nat)(aa:List bo)(r:ao):Prop:=
 ∃e0 gL gM cx ci co cm O,r= .agg #[.slice e0 aa.length cx,.slice gL N ci,.slice gM N co]/\bg U 5 e0 aa.length (aa.map bo.cells)/\bg U 1 gL N (wI N (λv=>(ins aa v).length) cm)/\
  bg U 1 gM N (wI N (λv=>(outs aa v).length) O)/\(∀v,v<N->bg U 1 (cm v).1 (ins aa v).length (n' (ins aa v)))/\∀v,v<N->bg U 1 (O v).1 (outs aa v).length (n' (outs aa v))
theorem akH(N:Nat)(aa:List bo)(ba:Nat->Option ar×Nat):nz N ba (part aa N aa.length) 0=(wI N (λv=>(ins aa v).length) ba).flatten:=by
 have:∀l:List Nat,(∀v∈l,v<N)->l.map (λv=>oE (ba (0+v)).1 (part aa N aa.length (0+v)).length (ba (0+v)).2)=(l.map λv=>[oE (ba v).1 (ins aa v).length (ba v).2]).flatten:=by
  intro l;induction l with
  |nil=>simp
  |cons x l bE=>
   intro al;rw[eO,eO,qr,bE λv ah=>al v (iv _ ah),dJ,adq (al x (iU ..))];rfl
 exact this _ λv ah=>re.1 ah
theorem akI(N:Nat)(aa:List bo)(ba:Nat->Option ar×Nat):nz N ba (part aa N aa.length) N=(wI N (λv=>(outs aa v).length) λv=>ba (N+v)).flatten:=by
 have:∀l:List Nat,l.map (λv=>oE (ba (N+v)).1 (part aa N aa.length (N+v)).length (ba (N+v)).2)=(l.map λv=>[oE (ba (N+v)).1 (outs aa v).length (ba (N+v)).2]).flatten:=by
  intro l;induction l with
  |nil=>rfl
  |cons x l bE=>rw[eO,eO,qr,bE,adr];rfl
 exact this _
theorem aeN(N:Nat)(len:Nat->Nat)(cm:Nat->Option ar×Nat):∀r∈wI N len cm,r.length=1:=by
 intro r am;obtain⟨v,_,rfl⟩:=dn.1 am;rfl
theorem aoB(l:List Nat):∀r∈n' l,r.length=1:=by
 intro r am;obtain⟨v,_,rfl⟩:=dn.1 am;rfl
theorem pJ.dG{ai h U:I}{S:Nat->Prop}{ba:Nat->Option ar×Nat}{cZ:Nat->List Nat}(f:pJ ai h S ba cZ)(x:h.le U){v:Nat}(ah:S v):bg U 1 (ba v).1 (cZ v).length (n' (cZ v)):=((f.row v ah).mono x).dG (aoB _) (by decide)
theorem aDy{e:bY}{cx:Nat}{e0:Option ar}{kf go:ar}(aC:aa.length=n)(az:pJ h U (λv=>v<2*N) ba (part aa N n))(ab:e 2= .p 0 0)(an:e 3= .p 1 0):c7 aH 55 ((IR.ch aoQ).seq IR.ret) (s9 aH LV.fn.results.toList λr U=>h.le U/\Vl U N aa r) e (DL N n cx aa e0 kf go n ba) U:=by
 subst aC;have he:e=h7 (h7 e 3 (.p 1 0)) 2 (.p 0 0):=by
  funext t;unfold h7;by_cases q:t=2;simp_all;by_cases aD:t=3;subst aD;exact an;rw[show gN t 2=false from JN.2 λk=>q (mJ k),show gN t 3=false from JN.2 λk=>aD (mJ k)];rfl
 rw[he];refine .bV 2 157 5 e0 aa.length cx _ rfl λh1 k9 dH _=>.bV 3 27 1 (some kf) N N _ rfl λab aEq fJ _=>.bV 4 27 1 (some go) N N _ rfl λan E9 lB _=>.done ?_;rw[akH]at fJ;rw[akI]at lB;have abj:=I.le_trans aEq E9;have RE:=I.le_trans k9 abj;refine⟨I.le_trans az.le RE,e0,some kf,some go,cx,N,N,ba,λv=>ba (N+v),rfl,(dH.mono abj).dG (VH _) (by decide),(fJ.mono E9).dG (aeN _ _ _) (by decide),lB.dG (aeN _ _ _) (by decide),λv ah=>?_,λv ah=>?_⟩;have:=az.dG RE (v:=v) (by omega);rwa[adq ah]at this;have:=az.dG RE (v:=N+v) (by omega);rwa[adr]at this
theorem fF(h:A=none↔some (⟨b,0,none⟩:ar)=none/\n=0):∃g,A=some g:=by
 cases A with
 |none=>grind
 |some g=>simp
theorem aDz{Q:dL}{e:bY}{L:List LE}(perm:List Nat){cx m:Nat}(A:Option ar)(kf go:ar)(aj:e' N aa=0)(aC:aa.length=n)(aO:A=none↔some (⟨b,0,none⟩:ar)=none/\m=0)(cD:∀e ba U,pJ h U (λv=>v<2*N) ba (part aa N n)->e 2= .p 0 0->e 3= .p 1 0->Q (.exit 0) e (DL N n cx aa A kf go n ba) U)(he:[2,3,18,19,20].map e=([.p 0 0,.p 1 0,.v (.slice A n cx),.v (R n),.v (R (0:Nat))]:List aA).map (aCq perm):=by rfl)(aB:tv perm=true:=by rfl)(aF:sY L perm=some ((afQ N n cx aa A kf go).map (pA perm)):=by rfl):te (λQ e L h=>c7 aH 55 aoO Q e L h) Q e L h:=fP _ _ _ _ perm N n cx aa A kf go aj aC (λ_=>fF aO) he aB aF cD
set_option maxHeartbeats 4000000 in
theorem Jx(N n cx:Nat)(aa:List bo)(A:Option ar)(h:I)(aj:e' N aa=0)(av:bg h 5 A n (aa.map bo.cells))(aC:n*40<=140737488355328):Fn aH 113 #[my N A n cx] h λr U=>h.le U/\Vl U N aa r:=by
 have db:=(lO aj).2.1;have eb:aa.length=n:=by simpa using av.len
 have al:aa.length=0+n:=by omega
 have hm:0+n<=c':=by grind [c']
 have af:(0+n)*40<=140737488355328:=by omega
 have M {K} (k:∀g,K N N g (bG N (.slice none 0 0))):dN 1 24 [.slice none 0 0] N N K:=.one N _ rfl rfl rfl rfl (by omega) (by omega) k;refine b5 LV rfl ?_;refine fl ?_ ?_;refine fl ?_ ?_;refine⟨λ_ _=>.cR 3 _ _ rfl (av.src _) (gP aa) hm af λA c aO=>?_⟩;refine fl ?_ ?_;refine M λa1=>?_;refine fl ?_ ?_;refine M λbh=>?_;exact aDz [1,6,3,4,5] A a1 bh aj al aO.1 λ_ _ _=>aDy al;refine M λbh=>?_;exact aDz [1,5,3,4,6] A a1 bh aj al aO.1 λ_ _ _=>aDy al;refine fl ?_ ?_;refine M λbh=>?_;refine fl ?_ ?_;refine M λa1=>?_;exact aDz [1,6,3,5,4] A a1 bh aj al aO.1 λ_ _ _=>aDy al;refine M λa1=>?_;exact aDz [1,5,3,6,4] A a1 bh aj al aO.1 λ_ _ _=>aDy al;refine fl ?_ ?_;refine M λa1=>?_;refine M λbh=>?_;exact aDz [1,4,3,5,6] A a1 bh aj al aO.1 λ_ _ _=>aDy al;refine M λbh=>?_;refine M λa1=>?_;exact aDz [1,4,3,6,5] A a1 bh aj al aO.1 λ_ _ _=>aDy al;refine fl ?_ ?_;refine M λa1=>?_;refine fl ?_ ?_;refine⟨λ_ _=>.cR 4 _ _ rfl (av.src _) (gP aa) hm af λA c aO=>?_⟩;refine fl ?_ ?_;refine M λbh=>?_;exact aDz [1,6,4,3,5] A a1 bh aj al aO.1 λ_ _ _=>aDy al;refine M λbh=>?_;exact aDz [1,5,4,3,6] A a1 bh aj al aO.1 λ_ _ _=>aDy al;refine fl ?_ ?_;refine M λbh=>?_;refine fl ?_ ?_;refine⟨λ_ _=>.cR 5 _ _ rfl (av.src _) (gP aa) hm af λA c aO=>?_⟩;exact aDz [1,6,5,3,4] A a1 bh aj al aO.1 λ_ _ _=>aDy al;refine⟨λ_ _=>.cR 6 _ _ rfl (av.src _) (gP aa) hm af λA c aO=>?_⟩;exact aDz [1,5,6,3,4] A a1 bh aj al aO.1 λ_ _ _=>aDy al;refine fl ?_ ?_;refine⟨λ_ _=>.cR 5 _ _ rfl (av.src _) (gP aa) hm af λA c aO=>?_⟩;refine M λbh=>?_;exact aDz [1,4,5,3,6] A a1 bh aj al aO.1 λ_ _ _=>aDy al;refine M λbh=>?_;refine⟨λ_ _=>.cR 6 _ _ rfl (av.src _) (gP aa) hm af λA c aO=>?_⟩;exact aDz [1,4,6,3,5] A a1 bh aj al aO.1 λ_ _ _=>aDy al;refine fl ?_ ?_;refine M λbh=>?_;refine fl ?_ ?_;refine⟨λ_ _=>.cR 4 _ _ rfl (av.src _) (gP aa) hm af λA c aO=>?_⟩;refine fl ?_ ?_;refine M λa1=>?_;exact aDz [1,6,4,5,3] A a1 bh aj al aO.1 λ_ _ _=>aDy al;refine M λa1=>?_;exact aDz [1,5,4,6,3] A a1 bh aj al aO.1 λ_ _ _=>aDy al;refine fl ?_ ?_;refine M λa1=>?_;refine fl ?_ ?_;refine⟨λ_ _=>.cR 5 _ _ rfl (av.src _) (gP aa) hm af λA c aO=>?_⟩;exact aDz [1,6,5,4,3] A a1 bh aj al aO.1 λ_ _ _=>aDy al;refine⟨λ_ _=>.cR 6 _ _ rfl (av.src _) (gP aa) hm af λA c aO=>?_⟩;exact aDz [1,5,6,4,3] A a1 bh aj al aO.1 λ_ _ _=>aDy al;refine fl ?_ ?_;refine⟨λ_ _=>.cR 5 _ _ rfl (av.src _) (gP aa) hm af λA c aO=>?_⟩;refine M λa1=>?_;exact aDz [1,4,5,6,3] A a1 bh aj al aO.1 λ_ _ _=>aDy al;refine M λa1=>?_;refine⟨λ_ _=>.cR 6 _ _ rfl (av.src _) (gP aa) hm af λA c aO=>?_⟩;exact aDz [1,4,6,5,3] A a1 bh aj al aO.1 λ_ _ _=>aDy al;refine fl ?_ ?_;refine⟨λ_ _=>.cR 4 _ _ rfl (av.src _) (gP aa) hm af λA c aO=>?_⟩;refine fl ?_ ?_;refine M λa1=>?_;refine M λbh=>?_;exact aDz [1,3,4,5,6] A a1 bh aj al aO.1 λ_ _ _=>aDy al;refine M λbh=>?_;refine M λa1=>?_;exact aDz [1,3,4,6,5] A a1 bh aj al aO.1 λ_ _ _=>aDy al;refine fl ?_ ?_;refine M λa1=>?_;refine fl ?_ ?_;refine⟨λ_ _=>.cR 5 _ _ rfl (av.src _) (gP aa) hm af λA c aO=>?_⟩;refine M λbh=>?_;exact aDz [1,3,5,4,6] A a1 bh aj al aO.1 λ_ _ _=>aDy al;refine M λbh=>?_;refine⟨λ_ _=>.cR 6 _ _ rfl (av.src _) (gP aa) hm af λA c aO=>?_⟩;exact aDz [1,3,6,4,5] A a1 bh aj al aO.1 λ_ _ _=>aDy al;refine M λbh=>?_;refine fl ?_ ?_;refine⟨λ_ _=>.cR 5 _ _ rfl (av.src _) (gP aa) hm af λA c aO=>?_⟩;refine M λa1=>?_;exact aDz [1,3,5,6,4] A a1 bh aj al aO.1 λ_ _ _=>aDy al;refine M λa1=>?_;refine⟨λ_ _=>.cR 6 _ _ rfl (av.src _) (gP aa) hm af λA c aO=>?_⟩;exact aDz [1,3,6,5,4] A a1 bh aj al aO.1 λ_ _ _=>aDy al;refine fl ?_ ?_;refine M λa1=>?_;refine fl ?_ ?_;refine fl ?_ ?_;refine⟨λ_ _=>.cR 4 _ _ rfl (av.src _) (gP aa) hm af λA c aO=>?_⟩;refine fl ?_ ?_;refine M λbh=>?_;exact aDz [1,6,4,2,5] A a1 bh aj al aO.1 λ_ _ _=>aDy al;refine M λbh=>?_;exact aDz [1,5,4,2,6] A a1 bh aj al aO.1 λ_ _ _=>aDy al;refine fl ?_ ?_;refine M λbh=>?_;refine fl ?_ ?_;refine⟨λ_ _=>.cR 5 _ _ rfl (av.src _) (gP aa) hm af λA c aO=>?_⟩;exact aDz [1,6,5,2,4] A a1 bh aj al aO.1 λ_ _ _=>aDy al;refine⟨λ_ _=>.cR 6 _ _ rfl (av.src _) (gP aa) hm af λA c aO=>?_⟩;exact aDz [1,5,6,2,4] A a1 bh aj al aO.1 λ_ _ _=>aDy al;refine fl ?_ ?_;refine⟨λ_ _=>.cR 5 _ _ rfl (av.src _) (gP aa) hm af λA c aO=>?_⟩;refine M λbh=>?_;exact aDz [1,4,5,2,6] A a1 bh aj al aO.1 λ_ _ _=>aDy al;refine M λbh=>?_;refine⟨λ_ _=>.cR 6 _ _ rfl (av.src _) (gP aa) hm af λA c aO=>?_⟩;exact aDz [1,4,6,2,5] A a1 bh aj al aO.1 λ_ _ _=>aDy al;refine fl ?_ ?_;refine M λbh=>?_;refine fl ?_ ?_;refine fl ?_ ?_;refine⟨λ_ _=>.cR 5 _ _ rfl (av.src _) (gP aa) hm af λA c aO=>?_⟩;exact aDz [1,6,5,2,3] A a1 bh aj al aO.1 λ_ _ _=>aDy al;refine⟨λ_ _=>.cR 6 _ _ rfl (av.src _) (gP aa) hm af λA c aO=>?_⟩;exact aDz [1,5,6,2,3] A a1 bh aj al aO.1 λ_ _ _=>aDy al;refine⟨λ_ _=>.cR 6 _ _ rfl (av.src _) (gP aa) hm af λA c aO=>?_⟩;exact aDz [1,4,6,2,3] A a1 bh aj al aO.1 λ_ _ _=>aDy al;refine fl ?_ ?_;refine fl ?_ ?_;refine⟨λ_ _=>.cR 5 _ _ rfl (av.src _) (gP aa) hm af λA c aO=>?_⟩;refine M λbh=>?_;exact aDz [1,3,5,2,6] A a1 bh aj al aO.1 λ_ _ _=>aDy al;refine M λbh=>?_;refine⟨λ_ _=>.cR 6 _ _ rfl (av.src _) (gP aa) hm af λA c aO=>?_⟩;exact aDz [1,3,6,2,5] A a1 bh aj al aO.1 λ_ _ _=>aDy al;refine M λbh=>?_;refine⟨λ_ _=>.cR 6 _ _ rfl (av.src _) (gP aa) hm af λA c aO=>?_⟩;exact aDz [1,3,6,2,4] A a1 bh aj al aO.1 λ_ _ _=>aDy al;refine fl ?_ ?_;refine M λbh=>?_;refine fl ?_ ?_;refine fl ?_ ?_;refine⟨λ_ _=>.cR 4 _ _ rfl (av.src _) (gP aa) hm af λA c aO=>?_⟩;refine fl ?_ ?_;refine M λa1=>?_;exact aDz [1,6,4,5,2] A a1 bh aj al aO.1 λ_ _ _=>aDy al;refine M λa1=>?_;exact aDz [1,5,4,6,2] A a1 bh aj al aO.1 λ_ _ _=>aDy al;refine fl ?_ ?_;refine M λa1=>?_;refine fl ?_ ?_;refine⟨λ_ _=>.cR 5 _ _ rfl (av.src _) (gP aa) hm af λA c aO=>?_⟩;exact aDz [1,6,5,4,2] A a1 bh aj al aO.1 λ_ _ _=>aDy al;refine⟨λ_ _=>.cR 6 _ _ rfl (av.src _) (gP aa) hm af λA c aO=>?_⟩;exact aDz [1,5,6,4,2] A a1 bh aj al aO.1 λ_ _ _=>aDy al;refine fl ?_ ?_;refine⟨λ_ _=>.cR 5 _ _ rfl (av.src _) (gP aa) hm af λA c aO=>?_⟩;refine M λa1=>?_;exact aDz [1,4,5,6,2] A a1 bh aj al aO.1 λ_ _ _=>aDy al;refine M λa1=>?_;refine⟨λ_ _=>.cR 6 _ _ rfl (av.src _) (gP aa) hm af λA c aO=>?_⟩;exact aDz [1,4,6,5,2] A a1 bh aj al aO.1 λ_ _ _=>aDy al;refine fl ?_ ?_;refine M λa1=>?_;refine fl ?_ ?_;refine fl ?_ ?_;refine⟨λ_ _=>.cR 5 _ _ rfl (av.src _) (gP aa) hm af λA c aO=>?_⟩;exact aDz [1,6,5,3,2] A a1 bh aj al aO.1 λ_ _ _=>aDy al;refine⟨λ_ _=>.cR 6 _ _ rfl (av.src _) (gP aa) hm af λA c aO=>?_⟩;exact aDz [1,5,6,3,2] A a1 bh aj al aO.1 λ_ _ _=>aDy al;refine⟨λ_ _=>.cR 6 _ _ rfl (av.src _) (gP aa) hm af λA c aO=>?_⟩;exact aDz [1,4,6,3,2] A a1 bh aj al aO.1 λ_ _ _=>aDy al;refine fl ?_ ?_;refine fl ?_ ?_;refine⟨λ_ _=>.cR 5 _ _ rfl (av.src _) (gP aa) hm af λA c aO=>?_⟩;refine M λa1=>?_;exact aDz [1,3,5,6,2] A a1 bh aj al aO.1 λ_ _ _=>aDy al;refine M λa1=>?_;refine⟨λ_ _=>.cR 6 _ _ rfl (av.src _) (gP aa) hm af λA c aO=>?_⟩;exact aDz [1,3,6,5,2] A a1 bh aj al aO.1 λ_ _ _=>aDy al;refine M λa1=>?_;refine⟨λ_ _=>.cR 6 _ _ rfl (av.src _) (gP aa) hm af λA c aO=>?_⟩;exact aDz [1,3,6,4,2] A a1 bh aj al aO.1 λ_ _ _=>aDy al;refine fl ?_ ?_;refine fl ?_ ?_;refine⟨λ_ _=>.cR 4 _ _ rfl (av.src _) (gP aa) hm af λA c aO=>?_⟩;refine fl ?_ ?_;refine M λa1=>?_;refine M λbh=>?_;exact aDz [1,2,4,5,6] A a1 bh aj al aO.1 λ_ _ _=>aDy al;refine M λbh=>?_;refine M λa1=>?_;exact aDz [1,2,4,6,5] A a1 bh aj al aO.1 λ_ _ _=>aDy al;refine fl ?_ ?_;refine M λa1=>?_;refine fl ?_ ?_;refine⟨λ_ _=>.cR 5 _ _ rfl (av.src _) (gP aa) hm af λA c aO=>?_⟩;refine M λbh=>?_;exact aDz [1,2,5,4,6] A a1 bh aj al aO.1 λ_ _ _=>aDy al;refine M λbh=>?_;refine⟨λ_ _=>.cR 6 _ _ rfl (av.src _) (gP aa) hm af λA c aO=>?_⟩;exact aDz [1,2,6,4,5] A a1 bh aj al aO.1 λ_ _ _=>aDy al;refine M λbh=>?_;refine fl ?_ ?_;refine⟨λ_ _=>.cR 5 _ _ rfl (av.src _) (gP aa) hm af λA c aO=>?_⟩;refine M λa1=>?_;exact aDz [1,2,5,6,4] A a1 bh aj al aO.1 λ_ _ _=>aDy al;refine M λa1=>?_;refine⟨λ_ _=>.cR 6 _ _ rfl (av.src _) (gP aa) hm af λA c aO=>?_⟩;exact aDz [1,2,6,5,4] A a1 bh aj al aO.1 λ_ _ _=>aDy al;refine fl ?_ ?_;refine M λa1=>?_;refine fl ?_ ?_;refine fl ?_ ?_;refine⟨λ_ _=>.cR 5 _ _ rfl (av.src _) (gP aa) hm af λA c aO=>?_⟩;refine M λbh=>?_;exact aDz [1,2,5,3,6] A a1 bh aj al aO.1 λ_ _ _=>aDy al;refine M λbh=>?_;refine⟨λ_ _=>.cR 6 _ _ rfl (av.src _) (gP aa) hm af λA c aO=>?_⟩;exact aDz [1,2,6,3,5] A a1 bh aj al aO.1 λ_ _ _=>aDy al;refine M λbh=>?_;refine⟨λ_ _=>.cR 6 _ _ rfl (av.src _) (gP aa) hm af λA c aO=>?_⟩;exact aDz [1,2,6,3,4] A a1 bh aj al aO.1 λ_ _ _=>aDy al;refine M λbh=>?_;refine fl ?_ ?_;refine fl ?_ ?_;refine⟨λ_ _=>.cR 5 _ _ rfl (av.src _) (gP aa) hm af λA c aO=>?_⟩;refine M λa1=>?_;exact aDz [1,2,5,6,3] A a1 bh aj al aO.1 λ_ _ _=>aDy al;refine M λa1=>?_;refine⟨λ_ _=>.cR 6 _ _ rfl (av.src _) (gP aa) hm af λA c aO=>?_⟩;exact aDz [1,2,6,5,3] A a1 bh aj al aO.1 λ_ _ _=>aDy al;refine M λa1=>?_;refine⟨λ_ _=>.cR 6 _ _ rfl (av.src _) (gP aa) hm af λA c aO=>?_⟩;exact aDz [1,2,6,4,3] A a1 bh aj al aO.1 λ_ _ _=>aDy al
def IQ(w:List ao)(n N:Nat)(e4 ij:ar)(eg:List Int):List LE:=[.own (w.map .v++[.v (.slice (some e4) n n),.v (.slice (some ij) N N)]) 271,.row 3 1 (some e4) n n (eg.map R),.row 3 1 (some ij) N N (bG N (R 0))]
def tV(aa:List bo)(k:Nat):List Int:=(aa.take k).map bo.start++bG (aa.length-k) 0
theorem auB(aa:List bo):(tV aa 0).map R=bG aa.length (R 0):=by simp[tV]
theorem auz(aa:List bo)(k:Nat)(hk:k<=aa.length):(tV aa k).length=aa.length:=by grind [tV]
theorem auA(hk:k<aa.length):(tV aa k).set k aa[k].start=tV aa (k+1):=by
 unfold tV;have h1:((aa.take k).map bo.start).length=k:=by grind
 rw[wU _ _ (by omega),h1,yq,show aa.length-k=(aa.length- (k+1))+1 by omega,List.replicate_succ,aB8,kh hk,fm,List.map_singleton,List.append_assoc];rfl
theorem auy(aa:List bo)(N:Nat):tV aa aa.length=ee aa (bG N 0):=by
 have:∀i:Nat,(bG N (0:Int)).getD i 0=0:=λi=>by
  grind
 simp only[tV,List.take_length,yq,List.replicate_zero,List.append_nil,ee];exact List.map_congr_left λa _=>by unfold qj;grind
theorem axS(h1:h gt=some (gB t))(ab:h bk=some (gB f)):h=st ((h.del gt).del bk) gt bk t f:=by
 funext o;unfold st;by_cases aI:o=bk;subst aI;rw[I.bP];exact ab;rw[I.cf _ _ aI];by_cases aJ:o=gt;subst aJ;rw[I.bP];exact h1;rw[I.cf _ _ aJ,I.lP _ aI,I.lP _ aJ]
theorem bz.full{g:ar}(x:bz h 3 1 (some g) n n (l.map R)):∃b,g=⟨b,0,none⟩/\h b=some (gB l):=by
 rcases x.2 with⟨q,_⟩|⟨b,a8,aM,aD,_,_,dz,j6⟩
 grind
 injection aM with aM;refine⟨b,aM,?_⟩;have:a8.toList=l.map R:=by
  rw[<-j6,k4 (by grind)]
 rw[aD,gB,<-this]
def U2(h:I)(N:Nat)(aa:List bo)(r:ao)(U:I):Prop:=∃bm b gt bk,r= .tuple #[hx b,R 0]/\h.le bm/\rk bm b gt bk N aa/\U=st bm gt bk (ee aa (bG N 0)) (bG N 0)
theorem FD(e:bY)(h h1:I)(N n:Nat)(aa:List bo)(e0 gL gM:Option ar)(O5 ci co:Nat)(e4 ij:ar)(aC:aa.length=n)(cu:h.le h1)(cg:e 5= .p 0 0)(hw:∃cm O,bg h1 5 e0 aa.length (aa.map bo.cells)/\bg h1 1 gL N (wI N (λv=>(ins aa v).length) cm)/\bg h1 1 gM N (wI N (λv=>(outs aa v).length) O)/\(∀v,v<N->bg h1 1 (cm v).1 (ins aa v).length (n' (ins aa v)))/\∀v,v<N->bg h1 1 (O v).1 (outs aa v).length (n' (outs aa v))):c7 aH 42 ((IR.ch aqi).seq IR.ret) (s9 aH Ip.fn.results.toList λr U=>U2 h N aa r U) e (IQ [.slice e0 aa.length O5,.slice gL N ci,.slice gM N co] n N e4 ij (tV aa n)) h1:=by
 subst aC;obtain⟨cm,O,cF,dw,iI,jf,lF⟩:=hw;have he:e=h7 e 5 (.p 0 0):=by
  funext t;unfold h7;by_cases q:t=5
  grind
  rw[show gN t 5=false from JN.2 λk=>q (mJ k)];rfl
 rw[he];refine .mk λb af=>?_;refine .bV 1 3 1 (some e4) aa.length aa.length _ rfl λab aEq fJ wj=>.bV 2 3 1 (some ij) N N _ rfl λan E9 lB HR=>.done ?_;have aY:bG N (R 0)=(bG N (0:Int)).map R:=by simp
 rw[aY]at lB;obtain⟨gt,rfl,aD⟩:=fJ.full;obtain⟨bk,rfl,bj⟩:=lB.full;have dR:=wj _ rfl;have hZ:=HR _ rfl;have cy:ab b=_:=aEq _ _ MK;have gE:=E9 _ _ cy;have t3:=E9 _ _ aD;have auj:b≠gt:=λq=>by subst q;rw[show(⟨b,0,none⟩:ar).block=b from rfl,MK]at dR;cases dR
 have aui:b≠bk:=λq=>by grind
 have acE:gt≠bk:=λq=>by grind
 have xI:h1.le ((an.del gt).del bk):=λo J q=>by
  have aJ:o≠gt:=λk=>by subst k;cases(I.du af _ _ q).symm.trans dR
  have hR:=aEq _ _ (I.du af _ _ q);have aI:o≠bk:=λk=>by grind
  rw[I.lP _ aI,I.lP _ aJ];exact E9 _ _ hR
 refine⟨(an.del gt).del bk,b,gt,bk,rfl,I.le_trans cu xI,⟨e0,gL,gM,O5,ci,co,cm,O,?_,cF.mono xI,dw.mono xI,iI.mono xI,λv ah=>(jf v ah).mono xI,λv ah=>(lF v ah).mono xI,?_,I.Ev _ _,acE⟩,?_⟩;rw[I.lP _ aui,I.lP _ auj,gE];rw[I.lP _ acE,I.Ev];rw[<-auy];exact axS t3 bj
theorem FE(Q:dL)(e:bY)(L:List LE)(h:I)(perm:List Nat)(N n cx:Nat)(aa:List bo)(A:Option ar)(Nn No Np:ao)(e4 ij:ar)(aj:e' N aa=0)(aC:aa.length=n)(av:bg h 5 A n (aa.map bo.cells))(he:[5,25,26,27].map e=([.p 0 0,.v (.slice A n cx),.v (R n),.v (R (0:Nat))]:List aA).map (aCq perm))(aB:tv perm=true)(aF:sY L perm=some (([.own ([Nn,No,Np].map .v++[.v (.slice (some e4) n n),.v (.slice (some ij) N N)]) 271,.row 3 1 (some e4) n n (bG n (R 0)),.row 3 1 (some ij) N N (bG N (R 0))]:List LE).map (pA perm)))(cD:∀e,e 5= .p 0 0->Q (.exit 0) e (IQ [Nn,No,Np] n N e4 ij (tV aa n)) h):te (λQ e L h=>c7 aH 42 aqh Q e L h) Q e L h:=by
 subst aC;have ht:=(lO aj).2.2.1;rw[<-auB]at aF;refine .zl perm Nat [5,25,26,27] (λk=>[.p 0 0,.v (.slice A aa.length cx),.v (R aa.length),.v (R k)]) (λk=>IQ [Nn,No,Np] aa.length N e4 ij (tV aa k)) (λk U=>U=h/\k<=aa.length) (λk=>aa.length-k) 0 (λ_=>rfl) ⟨rfl,cO _⟩ he aB aF ?_;rintro k e U ⟨rfl,hk⟩;refine aW (λh1=>?_) (λh1=>?_);have ag:k<aa.length:=by omega
 obtain⟨g,ak⟩:=av.cc (by omega);refine .m g ak ?_;refine .hp aa[k].cells rfl (by rw[bq];exact av.row ak (iM ag)) ?_;refine .m e4 rfl ?_;refine .row 1 3 1 e4 aa.length aa.length _ _ k rfl (by simp) (ib _ _ _ (by simp only[List.length_map,auz aa k hk];exact ag)) ?_;refine .aLS ?_;refine⟨k+1,rfl,?_,⟨rfl,ag⟩,by omega⟩;rw[<-auA ag];show _=IQ [Nn,No,Np] aa.length N e4 ij ((tV aa k).set k aa[k].start);rw[IQ,nb];rfl;have:k=aa.length:=by omega
 subst this;exact cD _ rfl
theorem Mo(N:Int)(n cx:Nat)(aa:List bo)(A:Option ar)(h:I)(av:bg h 5 A n (aa.map bo.cells))(aC:n*40<=140737488355328)(aj:e' N aa≠0):Fn aH 52 #[my N A n cx] h λr U=>r= .tuple #[.pointer none,R (e' N aa)]/\U=h:=by
 refine b5 Ip rfl ?_;refine .done (.mk _ (Kq N A n cx aa h av (by omega)) ?_);rintro _ U ⟨rfl,rfl⟩;refine aW (λh1=>?_) (λh1=>absurd h1 (by omega));exact .done ⟨rfl,rfl⟩
theorem Mn(N n cx:Nat)(aa:List bo)(A:Option ar)(h:I)(av:bg h 5 A n (aa.map bo.cells))(aC:n*40<=140737488355328)(aj:e' N aa=0):Fn aH 52 #[my N A n cx] h λr U=>U2 h N aa r U:=by
 have eb:aa.length=n:=by simpa using av.len
 have af:=(lO aj).2.1;refine b5 Ip rfl ?_;refine .done (.mk _ (Kq N A n cx aa h av (by omega)) ?_);rintro _ h ⟨rfl,rfl⟩;refine aW (λh1=>absurd aj (by omega)) (λh1=>?_);refine fl ?_ ?_;refine .mk _ (Jx N n cx aa A _ aj av aC) (λ_ _ q=>q.1) ?_;rintro _ h1 ⟨cu,e0,gL,gM,c1,ci,co,cm,O,rfl,cF,dw,iI,jf,lF⟩;refine fl ?_ ?_;refine dN.one n (R 0) rfl rfl rfl rfl (by omega) (by omega) λe4=>?_;refine dN.one N (R 0) rfl rfl rfl rfl (by omega) (by omega) λij=>?_;exact FE _ _ _ h1 [3,1,2] N n cx aa A (.slice e0 aa.length c1) (.slice gL N ci) (.slice gM N co) e4 ij aj eb (av.mono cu) rfl rfl rfl λe cg=>FD e h h1 N n aa e0 gL gM c1 ci co e4 ij eb cu cg ⟨cm,O,cF,dw,iI,jf,lF⟩;refine dN.one N (R 0) rfl rfl rfl rfl (by omega) (by omega) λij=>?_;refine dN.one n (R 0) rfl rfl rfl rfl (by omega) (by omega) λe4=>?_;exact FE _ _ _ h1 [3,2,1] N n cx aa A (.slice e0 aa.length c1) (.slice gL N ci) (.slice gM N co) e4 ij aj eb (av.mono cu) rfl rfl rfl λe cg=>FD e h h1 N n aa e0 gL gM c1 ci co e4 ij eb cu cg ⟨cm,O,cF,dw,iI,jf,lF⟩;refine fl ?_ ?_;refine dN.one n (R 0) rfl rfl rfl rfl (by omega) (by omega) λe4=>?_;refine fl ?_ ?_;refine .mk _ (Jx N n cx aa A _ aj av aC) (λ_ _ q=>q.1) ?_;rintro _ h1 ⟨cu,e0,gL,gM,c1,ci,co,cm,O,rfl,cF,dw,iI,jf,lF⟩;refine dN.one N (R 0) rfl rfl rfl rfl (by omega) (by omega) λij=>?_;exact FE _ _ _ h1 [3,1,2] N n cx aa A (.slice e0 aa.length c1) (.slice gL N ci) (.slice gM N co) e4 ij aj eb (av.mono cu) rfl rfl rfl λe cg=>FD e h h1 N n aa e0 gL gM c1 ci co e4 ij eb cu cg ⟨cm,O,cF,dw,iI,jf,lF⟩;refine dN.one N (R 0) rfl rfl rfl rfl (by omega) (by omega) λij=>?_;refine .mk _ (Jx N n cx aa A _ aj av aC) (λ_ _ q=>q.1) ?_;rintro _ h1 ⟨cu,e0,gL,gM,c1,ci,co,cm,O,rfl,cF,dw,iI,jf,lF⟩;exact FE _ _ _ h1 [3,1,2] N n cx aa A (.slice e0 aa.length c1) (.slice gL N ci) (.slice gM N co) e4 ij aj eb (av.mono cu) rfl rfl rfl λe cg=>FD e h h1 N n aa e0 gL gM c1 ci co e4 ij eb cu cg ⟨cm,O,cF,dw,iI,jf,lF⟩;refine dN.one N (R 0) rfl rfl rfl rfl (by omega) (by omega) λij=>?_;refine fl ?_ ?_;refine .mk _ (Jx N n cx aa A _ aj av aC) (λ_ _ q=>q.1) ?_;rintro _ h1 ⟨cu,e0,gL,gM,c1,ci,co,cm,O,rfl,cF,dw,iI,jf,lF⟩;refine dN.one n (R 0) rfl rfl rfl rfl (by omega) (by omega) λe4=>?_;exact FE _ _ _ h1 [3,2,1] N n cx aa A (.slice e0 aa.length c1) (.slice gL N ci) (.slice gM N co) e4 ij aj eb (av.mono cu) rfl rfl rfl λe cg=>FD e h h1 N n aa e0 gL gM c1 ci co e4 ij eb cu cg ⟨cm,O,cF,dw,iI,jf,lF⟩;refine dN.one n (R 0) rfl rfl rfl rfl (by omega) (by omega) λe4=>?_;refine .mk _ (Jx N n cx aa A _ aj av aC) (λ_ _ q=>q.1) ?_;rintro _ h1 ⟨cu,e0,gL,gM,c1,ci,co,cm,O,rfl,cF,dw,iI,jf,lF⟩;exact FE _ _ _ h1 [3,2,1] N n cx aa A (.slice e0 aa.length c1) (.slice gL N ci) (.slice gM N co) e4 ij aj eb (av.mono cu) rfl rfl rfl λe cg=>FD e h h1 N n aa e0 gL gM c1 ci co e4 ij eb cu cg ⟨cm,O,cF,dw,iI,jf,lF⟩
theorem aeg{N:Nat}{aa:List bo}(aj:e' N aa=0):∀(aG:List Int)(f:List Int)(T:Nat),Good N aa f T->Good N aa (ni N aa aG f).2 (T+aG.length)
 |[],f,T,g=>g
 |v::aG,f,T,g=>by
  unfold ni;split;rename_i hm;obtain⟨u,rfl,_⟩:=ab6 hm;have:=aeg aj aG (bump f u) (T+1) (g.bump aj hm)
  grind
  exact⟨g.len,λx ad=>by have:=g.bX x ad;omega,g.tok⟩
theorem Cr(aj:e' N aa=0):Good N aa (bG N 0) 0:=by
 refine⟨by simp,λx ad=>by grind,λa a6=>?_⟩;have dk:=vl ((lO aj).2.2.2 a a6);have:∀i:Nat,(bG N (0:Int)).getD i 0=0:=λi=>by
  grind
 unfold qj;grind
theorem DE(h1:o≠gt)(ab:o≠bk):st bm gt bk t f o=bm o:=by
 unfold st;rw[I.cf _ _ ab,I.cf _ _ h1]
structure At(ai cq:I)(b gt bk N:Nat)(aa:List bo)(f:List Int)(T:Nat):Prop where
 le:ai.le cq
 jv:rk cq b gt bk N aa
 ry:Good N aa f T
theorem At.grow(a:At ai cq b gt bk N aa f T)(x:(st cq gt bk t f).le U):∃hH,U=st hH gt bk t f/\At ai hH b gt bk N aa f T:=by
 obtain⟨e0,gL,gM,cx,ci,co,cm,O,aV⟩:=a.jv.ex;obtain⟨hH,e,cu,h1,ab⟩:=Jr aV.ne aV.nB aV.nA x;exact⟨hH,e,I.le_trans a.le cu,a.jv.mono cu h1 ab,a.ry⟩
theorem At.all(a:At ai cq b gt bk N aa f T):ai.le (st cq gt bk t f):=by
 obtain⟨e0,gL,gM,cx,ci,co,cm,O,aV⟩:=a.jv.ex;exact I.le_trans a.le (I.jp aV.nB aV.nA)
theorem EG{dh:Nat}(aj:e' N aa=0)(a:At ai cq b gt bk N aa f T)(gA:T+1<=70368744177664)(z:Int)(af:st cq gt bk (ee aa f) f dh=none):Fn aH 55 #[hx b,.slice (some ⟨dh,0,none⟩) 1 1] ((st cq gt bk (ee aa f) f).put dh (.cells #[R z] 3 (0,0))) λr U=>r=R (ni N aa [z] f).1/\∃hH,U=st hH gt bk (ee aa (ni N aa [z] f).2) (ni N aa [z] f).2/\At ai hH b gt bk N aa (ni N aa [z] f).2 (T+1):=by
 obtain⟨hH,e,jS⟩:=a.grow (I.du (J:=.cells #[R z] 3 (0,0)) af);obtain⟨e0,gL,gM,cx,ci,co,cm,O,aV⟩:=jS.jv.ex;have mj:hH dh=some (gB [z]):=by
  have aJ:dh≠gt:=λq=>by subst q;rw[DD aV.ne]at af;cases af
  have aI:dh≠bk:=λq=>by subst q;rw[Ga]at af;cases af
  have:st hH gt bk (ee aa f) f dh=some (gB [z]):=by rw[<-e];exact MK
  rwa[DE aJ aI]at this
 rw[e];have x:=akY jS.jv aj [z] f _ 1 1 T (TK mj) jS.ry gA;refine x.mono ?_;rintro r U ⟨rfl,rfl⟩;exact⟨rfl,hH,rfl,jS.le,jS.jv,aeg aj [z] f T jS.ry⟩
theorem yG(aj:e' N aa=0)(a:At ai cq b gt bk N aa f T):Fn aH 195 #[hx b] (st cq gt bk (ee aa f) f) λr U=>∃g c,r= .slice (some g) aa.length c/\(st cq gt bk (ee aa f) f).le U/\bz U 3 1 (some g) aa.length c ((ee aa f).map R)/\st cq gt bk (ee aa f) f g.block=none:=by
 obtain⟨e0,gL,gM,cx,ci,co,cm,O,aV⟩:=a.jv.ex;have ht:=(lO aj).2.2.1;have x:cq.le (st cq gt bk (ee aa f) f):=I.jp aV.nB aV.nA;have tF:st cq gt bk (ee aa f) f gt=some (gB (ee aa f)):=DD aV.ne;have av:=TK tF;rw[pE]at av;generalize aP:st cq gt bk (ee aa f) f=h at x tF av;refine b5 arP rfl ?_;refine .hp _ (I.kL x (bN aV.head (o:=3) rfl)) ?_;refine .mk λcy fC=>?_;refine .done (.cR 1 _ _ rfl (av.src _) (by rw[wd];exact IV _) (by grind [c']) (by omega) λbA bu aO=>?_);refine .bV 1 3 1 bA (0+aa.length) bu _ rfl λU cu am az=>?_;have sB:bz U 3 1 bA (0+aa.length) bu ((ee aa f).map λz=>[R z]).flatten:=am;rw[dJ,wd]at sB;obtain⟨g,rfl⟩:=fF aO.1;exact .done ⟨g,bu,by rw[dJ];rfl,cu,sB,az g rfl⟩
def fA(N:Nat)(aa:List bo):List Int->List Int->Int×List (List Int)
 |[],_=>(0,[])
 |v::l,f=>if v<0\/(N:Int)<=v then(100,[])else if may N aa f v=true then((fA N aa l (bump f v.toNat)).1,ee aa (bump f v.toNat)::(fA N aa l (bump f v.toNat)).2)else(180,[])
def eh(N:Int)(aa:List bo)(aG:List Int):Int×List (List Int):=
 if e' N aa=0 then(if 2048<aG.length then(2,[])else((fA N.toNat aa aG (bG N.toNat 0)).1,ee aa (bG N.toNat 0)::(fA N.toNat aa aG (bG N.toNat 0)).2))else(e' N aa,[])
theorem EH{v:Int}(h:may N aa f v=true):ni N aa [v] f=(1,bump f v.toNat):=by simp[ni,h]
theorem Ho{v:Int}(h:may N aa f v=false):ni N aa [v] f=(0,f):=by simp[ni,h]
def l'(K X:I):Prop:=∀o,X o≠none->K o=none
def I.empty:I:=λ_=>none
theorem l'.empty(K:I):l' K I.empty:=λ_ h=>absurd rfl h
theorem I.le_empty(h:I):I.empty.le h:=λ_ _ e=>by cases e
def J7(f:jh)(ax:List (List Int)->ao->I->Prop)(M n:Nat):Prop:=
 ∀rows v X h g c cI,rows.length<=M->ax rows v X->X.le h->X g.block=none->bz h 3 1 (some g) n c (cI.map R)->cI.length=n->
  Fn aH f #[v,.slice (some g) n c] h λr U=>∃vW,ax (rows++[cI]) r vW/\vW.le U/\∀K,K.le h->l' K X->K g.block=none->K.le U/\l' K vW
theorem aeY(x:bm.le cq):(st bm gt bk t f).le (st cq gt bk t f):=λo J e=>by
 unfold st at e⊢;by_cases aI:o=bk;subst aI;rw[I.bP]at e⊢;exact e;rw[I.cf _ _ aI]at e⊢;by_cases aJ:o=gt;subst aJ;rw[I.bP]at e⊢;exact e;rw[I.cf _ _ aJ]at e⊢;exact x o J e
theorem vi{a b:I}(x:a.le b)(h:b o=none):a o=none:=by
 cases e:a o with
 |none=>rfl
 |some J=>rw[x o J e]at h;cases h
theorem l'.mono{a b:I}(x:a.le b)(d:l' b X):l' a X:=λo h=>vi x (d o h)
structure o7(ai bm cq X:I)(b gt bk N:Nat)(aa:List bo)(f:List Int)(k:Nat):Prop where
 at_:At ai bm b gt bk N aa f k
 le:bm.le cq
 sub:X.le cq
 yI:l' bm X
 iZ:cq gt=none
 lz:cq bk=none
theorem o7.ia(J:o7 ai bm cq X b gt bk N aa f k):At ai cq b gt bk N aa f k:=⟨I.le_trans J.at_.le J.le,J.at_.jv.mono J.le J.iZ J.lz,J.at_.ry⟩
theorem o7.free(J:o7 ai bm cq X b gt bk N aa f k):bm gt=none/\bm bk=none/\gt≠bk:=by
 obtain⟨e0,gL,gM,cx,ci,co,cm,O,aV⟩:=J.at_.jv.ex;exact⟨aV.nB,aV.nA,aV.ne⟩
theorem o7.step{ai bm cq X h1 ab vW:I}{b gt bk N k g:Nat}{aa:List bo}{f t:List Int}(J:o7 ai bm cq X b gt bk N aa f k)(aw:(st cq gt bk t f).le h1)(ak:st cq gt bk t f g=none)(eC:vW.le ab)(hk:∀K,K.le h1->l' K X->K g=none->K.le ab/\l' K vW):∃qK,ab=st qK gt bk t f/\o7 ai bm qK vW b gt bk N aa f k:=by
 obtain⟨f1,f2,bH⟩:=J.free;have az6:X gt=none:=vi J.sub J.iZ;have az3:X bk=none:=vi J.sub J.lz;have d':l' (st bm gt bk t f) X:=λo ae=>by
  have aJ:o≠gt:=λq=>ae (q▸az6);have aI:o≠bk:=λq=>ae (q▸az3);rw[DE aJ aI];exact J.yI o ae
 obtain⟨bJ,bB⟩:=hk (st bm gt bk t f) (I.le_trans (aeY J.le) aw) d' (vi (aeY J.le) ak);obtain⟨qK,e,l,aM,aD⟩:=Jr bH f1 f2 bJ;refine⟨qK,e,J.at_,l,λo px W7=>?_,l'.mono (I.jp f1 f2) bB,aM,aD⟩;have an:=eC o px W7;have ae:st bm gt bk t f o=none:=bB o (by grind);have aJ:o≠gt:=λq=>by subst q;rw[DD bH]at ae;cases ae
 have aI:o≠bk:=λq=>by subst q;rw[Ga]at ae;cases ae
 rw[e,DE aJ aI]at an;exact an
theorem o7.uT{hH:I}{f2:List Int}(J:o7 ai bm cq X b gt bk N aa f k)(a:At cq hH b gt bk N aa f2 (k+1)):o7 ai bm hH X b gt bk N aa f2 (k+1):=by
 obtain⟨e0,gL,gM,cx,ci,co,cm,O,aV⟩:=a.jv.ex;exact⟨⟨J.at_.le,J.at_.jv,a.ry⟩,I.le_trans J.le a.le,I.le_trans J.sub a.le,J.yI,aV.nB,aV.nA⟩
def ur(h:I)(N:Int)(aa:List bo)(aG:List Int)(z:ao)(ax:List (List Int)->ao->I->Prop)(r:ao)(U:I):Prop:=h.le U/\((eh N aa aG).1≠0->r= .tuple #[z,R (eh N aa aG).1])/\((eh N aa aG).1=0->∃v X,r= .tuple #[v,R 0]/\ax (eh N aa aG).2 v X/\X.le U/\l' h X)
theorem vY{N:Int}(h:e' N aa≠0):eh N aa aG=(e' N aa,[]):=by grind [eh]
theorem Ae{N:Int}(h:e' N aa=0)(ab:2048<aG.length):eh N aa aG=(2,[]):=by grind [eh]
theorem Kg(h:e' N aa=0)(ab:¬2048<aG.length):eh N aa aG=((fA N aa aG (bG N 0)).1,ee aa (bG N 0)::(fA N aa aG (bG N 0)).2):=by grind [eh]
theorem avl(fn:jh)(ax:List (List Int)->ao->I->Prop)(N:Int)(n cap:Nat)(aa:List bo)(A D:Option ar)(r iy:Nat)(aG:List Int)(h:I)(av:bg h 5 A n (aa.map bo.cells))(aC:n*40<=140737488355328)(aY:bg h 1 D r (aG.map λz=>[R z]))(cG:ax [] (.slice none 0 0) I.empty)(db:J7 fn ax 2048 aa.length):Fn aH 192 #[my N A n cap,.slice D r iy,.slice none 0 0,.func (.func fn) #[] #[]] h λv U=>ur h N aa aG (.slice none 0 0) ax v U:=by
 have xD:aG.length=r:=by simpa using aY.len
 refine b5 arN rfl ?_;by_cases aj:e' N aa=0;have Qd:=lO aj;obtain⟨N,rfl⟩:∃q:Nat,N=q:=⟨N.toNat,by omega⟩;refine .done (.mk _ (Mn N n cap aa A h av aC aj) ?_);rintro _ _ ⟨bm,b,gt,bk,rfl,AJ,jv,rfl⟩;obtain⟨e0,gL,gM,cx,ci,co,cm,O,aV⟩:=jv.ex;have iZ:=aV.nB;have lz:=aV.nA;clear aV;refine aW (λab=>?_) (λab=>?_);refine .done ⟨I.le_trans AJ (I.jp iZ lz),λ_=>?_,λq=>?_⟩;rw[Ae aj (by omega)];rfl;rw[Ae aj (by omega)]at q;cases q;have fB:=Kg (aG:=aG) aj (by omega);have mV:o7 h bm bm I.empty b gt bk N aa (bG N 0) 0:=⟨⟨AJ,jv,Cr aj⟩,I.le_refl _,I.le_empty _,l'.empty _,iZ,lz⟩;refine .done (.mk _ (yG aj mV.ia) ?_);rintro _ h1 ⟨g,c,rfl,k9,dH,kt⟩;refine .done (.mk _ (db [] _ _ h1 g c _ (cO _) cG (I.le_empty _) rfl dH (pE _ _)) ?_);rintro v ab ⟨X,eC,nC,hk⟩;obtain⟨cq,rfl,nK⟩:=mV.step k9 kt nC hk;refine .mk (Nat×I×I×ao×List Int×List (List Int)) [3,4,10,11,13,34,35,36] (λ(k,_,_,v,_,_)=>[.v (.func (.func fn) #[] #[]),.p 0 0,.v (.slice none 0 0),.v (hx b),.v v,.v (.slice D r iy),.v (R r),.v (R k)]) (λ_=>[.own [.v (R N),.v (.slice A n cap)] 33])
  (λ(k,cq,X,v,f,rows) U=>U=st cq gt bk (ee aa f) f/\o7 h bm cq X b gt bk N aa f k/\ax rows v X/\rows.length=k+1/\k<=r/\(fA N aa aG (bG N 0)).1=(fA N aa (aG.drop k) f).1/\
   ee aa (bG N 0)::(fA N aa aG (bG N 0)).2=rows++(fA N aa (aG.drop k) f).2) (λ(k,_,_,_,_,_)=>r-k) (0,cq,X,v,bG N 0,[ee aa (bG N 0)]) (λ(_,_,_,_,_,_)=>rfl)
  ⟨rfl,nK,eC,rfl,cO _,rfl,rfl⟩ rfl rfl ?_
 rintro⟨k,cq,X,v,f,rows⟩ e U ⟨rfl,J,eC,ik,hk,dH,fJ⟩;refine aW (λan=>?_) (λan=>?_);have br:k<r:=by omega
 have yS:aG.drop k=aG[k]::aG.drop (k+1):=o6 (by omega);obtain⟨g,ak⟩:=aY.cc (by omega);rw[yS,fA]at dH fJ;have bad:∀z:Int,z≠0->(fA N aa aG (bG N 0)).1=z->ur h N aa aG (.slice none 0 0) ax (.tuple #[.slice none 0 0,R z]) (st cq gt bk (ee aa f) f):=λz aY e=>by
  refine⟨J.ia.all,λ_=>?_,λq=>?_⟩
  grind
  grind
 refine .m g ak ?_;refine .hp (R aG[k]) (by rw[bq];exact(aY.mono J.ia.all).one ak (r:=[R aG[k]]) (by grind) rfl) ?_;refine aW (λaR=>?_) (λaR=>?_);rw[aX (.inl aR)]at dH;exact .done (bad 100 (by decide) dH);refine aW (λcg=>?_) (λcg=>?_);rw[aX (.inr cg)]at dH;exact .done (bad 100 (by decide) dH);rw[aE (by omega)]at dH fJ;refine .mk λdh mj=>?_;have yx:At cq cq b gt bk N aa f k:=⟨I.le_refl _,J.ia.jv,J.ia.ry⟩;refine .done (.mk _ (EG aj yx (by omega) aG[k] mj) ?_);rintro _ _ ⟨rfl,hH,rfl,jS⟩;cases hm:may N aa f aG[k]with
 |false=>
  rw[hm,aE (by simp)]at dH;rw[Ho hm]at jS⊢;refine .done ⟨(J.uT jS).ia.all,λ_=>?_,λq=>?_⟩;rw[fB];show _=vU #[_,R (fA N aa aG (bG N 0)).1];rw[dH];rfl
  grind
 |true=>
  rw[hm,aX rfl]at dH fJ;rw[EH hm]at jS⊢;have eW:=J.uT jS;refine .done (.mk _ (yG aj eW.ia) ?_);rintro _ h1 ⟨g,c,rfl,k9,lB,kt⟩;refine .done (.mk _ (db rows _ X h1 g c _ (by omega) eC (I.le_trans eW.sub (I.le_trans (I.jp eW.iZ eW.lz) k9)) (vi (I.le_trans eW.sub (I.jp eW.iZ eW.lz)) kt) lB (pE _ _)) ?_);rintro v ab ⟨nu,qL,nC,i9⟩;obtain⟨qK,rfl,l4⟩:=eW.step k9 kt nC i9;refine .aLS ?_;refine⟨(k+1,qK,nu,v,bump f aG[k].toNat,rows++[ee aa (bump f aG[k].toNat)]),rfl,rfl,⟨rfl,l4,qL,by grind,br,dH,?_⟩,by grind⟩
  grind
 rw[tg (by omega),fA]at dH fJ;refine .done ⟨J.ia.all,λq=>?_,λ_=>⟨v,X,rfl,?_,I.le_trans J.sub (I.jp J.iZ J.lz),l'.mono J.at_.le J.yI⟩⟩
 grind
 grind
 refine .done (.mk _ (Mo N n cap aa A h av aC aj) ?_);rintro _ ab ⟨rfl,rfl⟩;refine aW (λh1=>?_) (λh1=>absurd h1 (by omega));refine .done ⟨I.le_refl _,λ_=>?_,λq=>?_⟩;rw[vY aj];rfl;rw[vY aj]at q;omega
theorem avm(fn:jh)(ax:List (List Int)->ao->I->Prop)(N:Int)(n cap:Nat)(aa:List bo)(A D:Option ar)(r iy:Nat)(aG:List Int)(h:I)(av:bg h 5 A n (aa.map bo.cells))(aC:n*40<=140737488355328)(aY:bg h 1 D r (aG.map λz=>[R z]))(cG:ax [] (.slice none 0 0) I.empty)(db:J7 fn ax 2048 aa.length):Fn aH 165 #[my N A n cap,.slice D r iy,.slice none 0 0,.func (.func fn) #[] #[]] h λv U=>ur h N aa aG (.slice none 0 0) ax v U:=by
 have xD:aG.length=r:=by simpa using aY.len
 refine b5 aaX rfl ?_;by_cases aj:e' N aa=0;have Qd:=lO aj;obtain⟨N,rfl⟩:∃q:Nat,N=q:=⟨N.toNat,by omega⟩;refine .done (.mk _ (Mn N n cap aa A h av aC aj) ?_);rintro _ _ ⟨bm,b,gt,bk,rfl,AJ,jv,rfl⟩;obtain⟨e0,gL,gM,cx,ci,co,cm,O,aV⟩:=jv.ex;have iZ:=aV.nB;have lz:=aV.nA;clear aV;refine aW (λab=>?_) (λab=>?_);refine .done ⟨I.le_trans AJ (I.jp iZ lz),λ_=>?_,λq=>?_⟩;rw[Ae aj (by omega)];rfl;rw[Ae aj (by omega)]at q;cases q;have fB:=Kg (aG:=aG) aj (by omega);have mV:o7 h bm bm I.empty b gt bk N aa (bG N 0) 0:=⟨⟨AJ,jv,Cr aj⟩,I.le_refl _,I.le_empty _,l'.empty _,iZ,lz⟩;refine .done (.mk _ (yG aj mV.ia) ?_);rintro _ h1 ⟨g,c,rfl,k9,dH,kt⟩;refine .done (.mk _ (db [] _ _ h1 g c _ (cO _) cG (I.le_empty _) rfl dH (pE _ _)) ?_);rintro v ab ⟨X,eC,nC,hk⟩;obtain⟨cq,rfl,nK⟩:=mV.step k9 kt nC hk;refine .mk (Nat×I×I×ao×List Int×List (List Int)) [3,4,10,11,13,34,35,36] (λ(k,_,_,v,_,_)=>[.v (.func (.func fn) #[] #[]),.p 0 0,.v (.slice none 0 0),.v (hx b),.v v,.v (.slice D r iy),.v (R r),.v (R k)]) (λ_=>[.own [.v (R N),.v (.slice A n cap)] 33])
  (λ(k,cq,X,v,f,rows) U=>U=st cq gt bk (ee aa f) f/\o7 h bm cq X b gt bk N aa f k/\ax rows v X/\rows.length=k+1/\k<=r/\(fA N aa aG (bG N 0)).1=(fA N aa (aG.drop k) f).1/\
   ee aa (bG N 0)::(fA N aa aG (bG N 0)).2=rows++(fA N aa (aG.drop k) f).2) (λ(k,_,_,_,_,_)=>r-k) (0,cq,X,v,bG N 0,[ee aa (bG N 0)]) (λ(_,_,_,_,_,_)=>rfl)
  ⟨rfl,nK,eC,rfl,cO _,rfl,rfl⟩ rfl rfl ?_
 rintro⟨k,cq,X,v,f,rows⟩ e U ⟨rfl,J,eC,ik,hk,dH,fJ⟩;refine aW (λan=>?_) (λan=>?_);have br:k<r:=by omega
 have yS:aG.drop k=aG[k]::aG.drop (k+1):=o6 (by omega);obtain⟨g,ak⟩:=aY.cc (by omega);rw[yS,fA]at dH fJ;have bad:∀z:Int,z≠0->(fA N aa aG (bG N 0)).1=z->ur h N aa aG (.slice none 0 0) ax (.tuple #[.slice none 0 0,R z]) (st cq gt bk (ee aa f) f):=λz aY e=>by
  refine⟨J.ia.all,λ_=>?_,λq=>?_⟩
  grind
  grind
 refine .m g ak ?_;refine .hp (R aG[k]) (by rw[bq];exact(aY.mono J.ia.all).one ak (r:=[R aG[k]]) (by grind) rfl) ?_;refine aW (λaR=>?_) (λaR=>?_);rw[aX (.inl aR)]at dH;exact .done (bad 100 (by decide) dH);refine aW (λcg=>?_) (λcg=>?_);rw[aX (.inr cg)]at dH;exact .done (bad 100 (by decide) dH);rw[aE (by omega)]at dH fJ;refine .mk λdh mj=>?_;have yx:At cq cq b gt bk N aa f k:=⟨I.le_refl _,J.ia.jv,J.ia.ry⟩;refine .done (.mk _ (EG aj yx (by omega) aG[k] mj) ?_);rintro _ _ ⟨rfl,hH,rfl,jS⟩;cases hm:may N aa f aG[k]with
 |false=>
  rw[hm,aE (by simp)]at dH;rw[Ho hm]at jS⊢;refine .done ⟨(J.uT jS).ia.all,λ_=>?_,λq=>?_⟩;rw[fB];show _=vU #[_,R (fA N aa aG (bG N 0)).1];rw[dH];rfl
  grind
 |true=>
  rw[hm,aX rfl]at dH fJ;rw[EH hm]at jS⊢;have eW:=J.uT jS;refine .done (.mk _ (yG aj eW.ia) ?_);rintro _ h1 ⟨g,c,rfl,k9,lB,kt⟩;refine .done (.mk _ (db rows _ X h1 g c _ (by omega) eC (I.le_trans eW.sub (I.le_trans (I.jp eW.iZ eW.lz) k9)) (vi (I.le_trans eW.sub (I.jp eW.iZ eW.lz)) kt) lB (pE _ _)) ?_);rintro v ab ⟨nu,qL,nC,i9⟩;obtain⟨qK,rfl,l4⟩:=eW.step k9 kt nC i9;refine .aLS ?_;refine⟨(k+1,qK,nu,v,bump f aG[k].toNat,rows++[ee aa (bump f aG[k].toNat)]),rfl,rfl,⟨rfl,l4,qL,by grind,br,dH,?_⟩,by grind⟩
  grind
 rw[tg (by omega),fA]at dH fJ;refine .done ⟨J.ia.all,λq=>?_,λ_=>⟨v,X,rfl,?_,I.le_trans J.sub (I.jp J.iZ J.lz),l'.mono J.at_.le J.yI⟩⟩
 grind
 grind
 refine .done (.mk _ (Mo N n cap aa A h av aC aj) ?_);rintro _ ab ⟨rfl,rfl⟩;refine aW (λh1=>?_) (λh1=>absurd h1 (by omega));refine .done ⟨I.le_refl _,λ_=>?_,λq=>?_⟩;rw[vY aj];rfl;rw[vY aj]at q;omega
theorem avo(fn:jh)(ax:List (List Int)->ao->I->Prop)(N:Int)(n cap:Nat)(aa:List bo)(A D:Option ar)(r iy:Nat)(aG:List Int)(h:I)(av:bg h 5 A n (aa.map bo.cells))(aC:n*40<=140737488355328)(aj:e' N aa≠0):Fn aH 165 #[my N A n cap,.slice D r iy,.slice none 0 0,.func (.func fn) #[] #[]] h λv U=>ur h N aa aG (.slice none 0 0) ax v U:=by
 refine b5 aaX rfl ?_;refine .done (.mk _ (Mo N n cap aa A h av aC aj) ?_);rintro _ ab ⟨rfl,rfl⟩;refine aW (λh1=>?_) (λh1=>absurd h1 (by omega));refine .done ⟨I.le_refl _,λ_=>?_,λq=>?_⟩;rw[vY aj];rfl;rw[vY aj]at q;omega
def U3(f:jh)(ax:List (List Int)->ao->I->Prop)(M n:Nat):Prop:=
 ∀rows v X h g c cI,rows.length<=M->ax rows v X->X.le h->X g.block=none->bz h 3 1 (some g) n c (cI.map R)->cI.length=n->
  Fn aH f #[v,.slice (some g) n c] h λr U=>h.le U/\∃vW,ax (rows++[cI]) r vW/\vW.le U/\∀K,K.le h->l' K X->K g.block=none->K.le U/\l' K vW
set_option maxHeartbeats 1000000 in
theorem avp(fn:jh)(ax:List (List Int)->ao->I->Prop)(N:Int)(n cap:Nat)(aa:List bo)(A D:Option ar)(r iy:Nat)(aG:List Int)(h:I)(av:bg h 5 A n (aa.map bo.cells))(aC:n*40<=140737488355328)(aY:bg h 1 D r (aG.map λz=>[R z]))(cG:ax [] (.agg #[.slice none 0 0,.slice none 0 0]) I.empty)(EP:∀rows v X,ax rows v X->∃x y:Option ar×Nat×Nat,v= .agg #[.slice x.1 x.2.1 x.2.2,.slice y.1 y.2.1 y.2.2])(db:U3 fn ax 2048 aa.length):Fn aH 162 #[my N A n cap,.slice D r iy,.agg #[.slice none 0 0,.slice none 0 0],.func (.func fn) #[] #[]] h λv U=>ur h N aa aG (.agg #[.slice none 0 0,.slice none 0 0]) ax v U:=by
 have xD:aG.length=r:=by simpa using aY.len
 refine b5 arz rfl ?_;by_cases aj:e' N aa=0;have Qd:=lO aj;obtain⟨N,rfl⟩:∃q:Nat,N=q:=⟨N.toNat,by omega⟩;refine .done (.mk _ (Mn N n cap aa A h av aC aj) ?_);rintro _ _ ⟨bm,b,gt,bk,rfl,AJ,jv,rfl⟩;obtain⟨e0,gL,gM,cx,ci,co,cm,O,aV⟩:=jv.ex;have iZ:=aV.nB;have lz:=aV.nA;clear aV;refine aW (λab=>?_) (λab=>?_);refine .done ⟨I.le_trans AJ (I.jp iZ lz),λ_=>?_,λq=>?_⟩;rw[Ae aj (by omega)];rfl;rw[Ae aj (by omega)]at q;cases q;have fB:=Kg (aG:=aG) aj (by omega);have mV:o7 h bm bm I.empty b gt bk N aa (bG N 0) 0:=⟨⟨AJ,jv,Cr aj⟩,I.le_refl _,I.le_empty _,l'.empty _,iZ,lz⟩;refine fl ?_ ?_;refine .mk _ (yG aj mV.ia) (λ_ _ q=>by grind) ?_;rintro _ h1 ⟨g,c,rfl,k9,dH,kt⟩;refine fl ?_ ?_;refine .mk _ (db [] _ _ h1 g c _ (cO _) cG (I.le_empty _) rfl dH (pE _ _)) (λ_ _ q=>q.1) ?_;rintro v ab ⟨_,X,eC,nC,hk⟩;obtain⟨x,y,rfl⟩:=EP _ _ _ eC;obtain⟨cq,rfl,nK⟩:=mV.step k9 kt nC hk;refine .mk (Nat×I×I×((Option ar×Nat×Nat)×(Option ar×Nat×Nat))×List Int×List (List Int)) [3,4,8,10,11,13,34,35,36] (λ(k,_,_,_,_,_)=>[.v (.func (.func fn) #[] #[]),.p 0 0,.p 2 0,.p 3 0,.v (hx b),.p 4 0,.v (.slice D r iy),.v (R r),.v (R k)]) (λ(_,_,_,(x,y),_,_)=>[.own [.v (R N),.v (.slice A n cap)] 33,.own [.v (.slice none 0 0),.v (.slice none 0 0)] 349,.own [.v (.slice none 0 0),.v (.slice none 0 0)] 349,.own [.v (.slice none 0 0),.v (.slice none 0 0)] 349,.own [.v (.slice x.1 x.2.1 x.2.2),.v (.slice y.1 y.2.1 y.2.2)] 349])
  (λ(k,cq,X,(x,y),f,rows) U=>U=st cq gt bk (ee aa f) f/\o7 h bm cq X b gt bk N aa f k/\ax rows (.agg #[.slice x.1 x.2.1 x.2.2,.slice y.1 y.2.1 y.2.2]) X/\rows.length=k+1/\k<=r/\(fA N aa aG (bG N 0)).1=(fA N aa (aG.drop k) f).1/\
   ee aa (bG N 0)::(fA N aa aG (bG N 0)).2=rows++(fA N aa (aG.drop k) f).2) (λ(k,_,_,_,_,_)=>r-k) (0,cq,X,(x,y),bG N 0,[ee aa (bG N 0)]) (λ(_,_,_,_,_,_)=>rfl)
  ⟨rfl,nK,eC,rfl,cO _,rfl,rfl⟩ rfl rfl ?_
 rintro⟨k,cq,X,⟨x,y⟩,f,rows⟩ e U ⟨rfl,J,eC,ik,hk,dH,fJ⟩;refine aW (λan=>?_) (λan=>?_);have br:k<r:=by omega
 have yS:aG.drop k=aG[k]::aG.drop (k+1):=o6 (by omega);obtain⟨g,ak⟩:=aY.cc (by omega);rw[yS,fA]at dH fJ;have bad:∀z:Int,z≠0->(fA N aa aG (bG N 0)).1=z->ur h N aa aG (.agg #[.slice none 0 0,.slice none 0 0]) ax (.tuple #[.agg #[.slice none 0 0,.slice none 0 0],R z]) (st cq gt bk (ee aa f) f):=λz aY e=>by
  refine⟨J.ia.all,λ_=>?_,λq=>?_⟩
  grind
  grind
 refine .m g ak ?_;refine .hp (R aG[k]) (by rw[bq];exact(aY.mono J.ia.all).one ak (r:=[R aG[k]]) (by grind) rfl) ?_;refine aW (λaR=>?_) (λaR=>?_);rw[aX (.inl aR)]at dH;exact .done (bad 100 (by decide) dH);refine aW (λcg=>?_) (λcg=>?_);rw[aX (.inr cg)]at dH;exact .done (bad 100 (by decide) dH);rw[aE (by omega)]at dH fJ;refine .mk λdh mj=>?_;have yx:At cq cq b gt bk N aa f k:=⟨I.le_refl _,J.ia.jv,J.ia.ry⟩;refine .done (.mk _ (EG aj yx (by omega) aG[k] mj) ?_);rintro _ _ ⟨rfl,hH,rfl,jS⟩;cases hm:may N aa f aG[k]with
 |false=>
  rw[hm,aE (by simp)]at dH;rw[Ho hm]at jS⊢;refine .done ⟨(J.uT jS).ia.all,λ_=>?_,λq=>?_⟩;rw[fB];show _=vU #[_,R (fA N aa aG (bG N 0)).1];rw[dH];rfl
  grind
 |true=>
  rw[hm,aX rfl]at dH fJ;rw[EH hm]at jS⊢;have eW:=J.uT jS;refine .mk _ (yG aj eW.ia) (λ_ _ q=>by grind) ?_;rintro _ h1 ⟨g,c,rfl,k9,lB,kt⟩;refine .mk _ (db rows _ X h1 g c _ (by omega) eC (I.le_trans eW.sub (I.le_trans (I.jp eW.iZ eW.lz) k9)) (vi (I.le_trans eW.sub (I.jp eW.iZ eW.lz)) kt) lB (pE _ _)) (λ_ _ q=>q.1) ?_;rintro v ab ⟨_,nu,qL,nC,i9⟩;obtain⟨fk,aDA,rfl⟩:=EP _ _ _ qL;obtain⟨qK,rfl,l4⟩:=eW.step k9 kt nC i9;refine .aLS ?_;refine⟨(k+1,qK,nu,(fk,aDA),bump f aG[k].toNat,rows++[ee aa (bump f aG[k].toNat)]),rfl,rfl,⟨rfl,l4,qL,by grind,br,dH,?_⟩,by grind⟩
  grind
 rw[tg (by omega),fA]at dH fJ;refine .done ⟨J.ia.all,λq=>?_,λ_=>⟨_,X,rfl,?_,I.le_trans J.sub (I.jp J.iZ J.lz),l'.mono J.at_.le J.yI⟩⟩
 grind
 grind
 refine .mk _ (db [] _ _ h1 g c _ (cO _) cG (I.le_empty _) rfl dH (pE _ _)) (λ_ _ q=>q.1) ?_;rintro v ab ⟨_,X,eC,nC,hk⟩;obtain⟨x,y,rfl⟩:=EP _ _ _ eC;obtain⟨cq,rfl,nK⟩:=mV.step k9 kt nC hk;refine .mk (Nat×I×I×((Option ar×Nat×Nat)×(Option ar×Nat×Nat))×List Int×List (List Int)) [3,4,8,10,11,13,34,35,36] (λ(k,_,_,_,_,_)=>[.v (.func (.func fn) #[] #[]),.p 0 0,.p 2 0,.p 3 0,.v (hx b),.p 4 0,.v (.slice D r iy),.v (R r),.v (R k)]) (λ(_,_,_,(x,y),_,_)=>[.own [.v (R N),.v (.slice A n cap)] 33,.own [.v (.slice none 0 0),.v (.slice none 0 0)] 349,.own [.v (.slice none 0 0),.v (.slice none 0 0)] 349,.own [.v (.slice none 0 0),.v (.slice none 0 0)] 349,.own [.v (.slice x.1 x.2.1 x.2.2),.v (.slice y.1 y.2.1 y.2.2)] 349])
  (λ(k,cq,X,(x,y),f,rows) U=>U=st cq gt bk (ee aa f) f/\o7 h bm cq X b gt bk N aa f k/\ax rows (.agg #[.slice x.1 x.2.1 x.2.2,.slice y.1 y.2.1 y.2.2]) X/\rows.length=k+1/\k<=r/\(fA N aa aG (bG N 0)).1=(fA N aa (aG.drop k) f).1/\
   ee aa (bG N 0)::(fA N aa aG (bG N 0)).2=rows++(fA N aa (aG.drop k) f).2) (λ(k,_,_,_,_,_)=>r-k) (0,cq,X,(x,y),bG N 0,[ee aa (bG N 0)]) (λ(_,_,_,_,_,_)=>rfl)
  ⟨rfl,nK,eC,rfl,cO _,rfl,rfl⟩ rfl rfl ?_
 rintro⟨k,cq,X,⟨x,y⟩,f,rows⟩ e U ⟨rfl,J,eC,ik,hk,dH,fJ⟩;refine aW (λan=>?_) (λan=>?_);have br:k<r:=by omega
 have yS:aG.drop k=aG[k]::aG.drop (k+1):=o6 (by omega);obtain⟨g,ak⟩:=aY.cc (by omega);rw[yS,fA]at dH fJ;have bad:∀z:Int,z≠0->(fA N aa aG (bG N 0)).1=z->ur h N aa aG (.agg #[.slice none 0 0,.slice none 0 0]) ax (.tuple #[.agg #[.slice none 0 0,.slice none 0 0],R z]) (st cq gt bk (ee aa f) f):=λz aY e=>by
  refine⟨J.ia.all,λ_=>?_,λq=>?_⟩
  grind
  grind
 refine .m g ak ?_;refine .hp (R aG[k]) (by rw[bq];exact(aY.mono J.ia.all).one ak (r:=[R aG[k]]) (by grind) rfl) ?_;refine aW (λaR=>?_) (λaR=>?_);rw[aX (.inl aR)]at dH;exact .done (bad 100 (by decide) dH);refine aW (λcg=>?_) (λcg=>?_);rw[aX (.inr cg)]at dH;exact .done (bad 100 (by decide) dH);rw[aE (by omega)]at dH fJ;refine .mk λdh mj=>?_;have yx:At cq cq b gt bk N aa f k:=⟨I.le_refl _,J.ia.jv,J.ia.ry⟩;refine .done (.mk _ (EG aj yx (by omega) aG[k] mj) ?_);rintro _ _ ⟨rfl,hH,rfl,jS⟩;cases hm:may N aa f aG[k]with
 |false=>
  rw[hm,aE (by simp)]at dH;rw[Ho hm]at jS⊢;refine .done ⟨(J.uT jS).ia.all,λ_=>?_,λq=>?_⟩;rw[fB];show _=vU #[_,R (fA N aa aG (bG N 0)).1];rw[dH];rfl
  grind
 |true=>
  rw[hm,aX rfl]at dH fJ;rw[EH hm]at jS⊢;have eW:=J.uT jS;refine .mk _ (yG aj eW.ia) (λ_ _ q=>by grind) ?_;rintro _ h1 ⟨g,c,rfl,k9,lB,kt⟩;refine .mk _ (db rows _ X h1 g c _ (by omega) eC (I.le_trans eW.sub (I.le_trans (I.jp eW.iZ eW.lz) k9)) (vi (I.le_trans eW.sub (I.jp eW.iZ eW.lz)) kt) lB (pE _ _)) (λ_ _ q=>q.1) ?_;rintro v ab ⟨_,nu,qL,nC,i9⟩;obtain⟨fk,aDA,rfl⟩:=EP _ _ _ qL;obtain⟨qK,rfl,l4⟩:=eW.step k9 kt nC i9;refine .aLS ?_;refine⟨(k+1,qK,nu,(fk,aDA),bump f aG[k].toNat,rows++[ee aa (bump f aG[k].toNat)]),rfl,rfl,⟨rfl,l4,qL,by grind,br,dH,?_⟩,by grind⟩
  grind
 rw[tg (by omega),fA]at dH fJ;refine .done ⟨J.ia.all,λq=>?_,λ_=>⟨_,X,rfl,?_,I.le_trans J.sub (I.jp J.iZ J.lz),l'.mono J.at_.le J.yI⟩⟩
 grind
 grind
 refine .mk _ (yG aj mV.ia) (λ_ _ q=>by grind) ?_;rintro _ h1 ⟨g,c,rfl,k9,dH,kt⟩;refine .mk _ (db [] _ _ h1 g c _ (cO _) cG (I.le_empty _) rfl dH (pE _ _)) (λ_ _ q=>q.1) ?_;rintro v ab ⟨_,X,eC,nC,hk⟩;obtain⟨x,y,rfl⟩:=EP _ _ _ eC;obtain⟨cq,rfl,nK⟩:=mV.step k9 kt nC hk;refine .mk (Nat×I×I×((Option ar×Nat×Nat)×(Option ar×Nat×Nat))×List Int×List (List Int)) [3,4,8,10,11,13,34,35,36] (λ(k,_,_,_,_,_)=>[.v (.func (.func fn) #[] #[]),.p 0 0,.p 2 0,.p 3 0,.v (hx b),.p 4 0,.v (.slice D r iy),.v (R r),.v (R k)]) (λ(_,_,_,(x,y),_,_)=>[.own [.v (R N),.v (.slice A n cap)] 33,.own [.v (.slice none 0 0),.v (.slice none 0 0)] 349,.own [.v (.slice none 0 0),.v (.slice none 0 0)] 349,.own [.v (.slice none 0 0),.v (.slice none 0 0)] 349,.own [.v (.slice x.1 x.2.1 x.2.2),.v (.slice y.1 y.2.1 y.2.2)] 349])
  (λ(k,cq,X,(x,y),f,rows) U=>U=st cq gt bk (ee aa f) f/\o7 h bm cq X b gt bk N aa f k/\ax rows (.agg #[.slice x.1 x.2.1 x.2.2,.slice y.1 y.2.1 y.2.2]) X/\rows.length=k+1/\k<=r/\(fA N aa aG (bG N 0)).1=(fA N aa (aG.drop k) f).1/\
   ee aa (bG N 0)::(fA N aa aG (bG N 0)).2=rows++(fA N aa (aG.drop k) f).2) (λ(k,_,_,_,_,_)=>r-k) (0,cq,X,(x,y),bG N 0,[ee aa (bG N 0)]) (λ(_,_,_,_,_,_)=>rfl)
  ⟨rfl,nK,eC,rfl,cO _,rfl,rfl⟩ rfl rfl ?_
 rintro⟨k,cq,X,⟨x,y⟩,f,rows⟩ e U ⟨rfl,J,eC,ik,hk,dH,fJ⟩;refine aW (λan=>?_) (λan=>?_);have br:k<r:=by omega
 have yS:aG.drop k=aG[k]::aG.drop (k+1):=o6 (by omega);obtain⟨g,ak⟩:=aY.cc (by omega);rw[yS,fA]at dH fJ;have bad:∀z:Int,z≠0->(fA N aa aG (bG N 0)).1=z->ur h N aa aG (.agg #[.slice none 0 0,.slice none 0 0]) ax (.tuple #[.agg #[.slice none 0 0,.slice none 0 0],R z]) (st cq gt bk (ee aa f) f):=λz aY e=>by
  refine⟨J.ia.all,λ_=>?_,λq=>?_⟩
  grind
  grind
 refine .m g ak ?_;refine .hp (R aG[k]) (by rw[bq];exact(aY.mono J.ia.all).one ak (r:=[R aG[k]]) (by grind) rfl) ?_;refine aW (λaR=>?_) (λaR=>?_);rw[aX (.inl aR)]at dH;exact .done (bad 100 (by decide) dH);refine aW (λcg=>?_) (λcg=>?_);rw[aX (.inr cg)]at dH;exact .done (bad 100 (by decide) dH);rw[aE (by omega)]at dH fJ;refine .mk λdh mj=>?_;have yx:At cq cq b gt bk N aa f k:=⟨I.le_refl _,J.ia.jv,J.ia.ry⟩;refine .done (.mk _ (EG aj yx (by omega) aG[k] mj) ?_);rintro _ _ ⟨rfl,hH,rfl,jS⟩;cases hm:may N aa f aG[k]with
 |false=>
  rw[hm,aE (by simp)]at dH;rw[Ho hm]at jS⊢;refine .done ⟨(J.uT jS).ia.all,λ_=>?_,λq=>?_⟩;rw[fB];show _=vU #[_,R (fA N aa aG (bG N 0)).1];rw[dH];rfl
  grind
 |true=>
  rw[hm,aX rfl]at dH fJ;rw[EH hm]at jS⊢;have eW:=J.uT jS;refine .mk _ (yG aj eW.ia) (λ_ _ q=>by grind) ?_;rintro _ h1 ⟨g,c,rfl,k9,lB,kt⟩;refine .mk _ (db rows _ X h1 g c _ (by omega) eC (I.le_trans eW.sub (I.le_trans (I.jp eW.iZ eW.lz) k9)) (vi (I.le_trans eW.sub (I.jp eW.iZ eW.lz)) kt) lB (pE _ _)) (λ_ _ q=>q.1) ?_;rintro v ab ⟨_,nu,qL,nC,i9⟩;obtain⟨fk,aDA,rfl⟩:=EP _ _ _ qL;obtain⟨qK,rfl,l4⟩:=eW.step k9 kt nC i9;refine .aLS ?_;refine⟨(k+1,qK,nu,(fk,aDA),bump f aG[k].toNat,rows++[ee aa (bump f aG[k].toNat)]),rfl,rfl,⟨rfl,l4,qL,by grind,br,dH,?_⟩,by grind⟩
  grind
 rw[tg (by omega),fA]at dH fJ;refine .done ⟨J.ia.all,λq=>?_,λ_=>⟨_,X,rfl,?_,I.le_trans J.sub (I.jp J.iZ J.lz),l'.mono J.at_.le J.yI⟩⟩
 grind
 grind
 refine .done (.mk _ (Mo N n cap aa A h av aC aj) ?_);rintro _ ab ⟨rfl,rfl⟩;refine aW (λh1=>?_) (λh1=>absurd h1 (by omega));refine .done ⟨I.le_refl _,λ_=>?_,λq=>?_⟩;rw[vY aj];rfl;rw[vY aj]at q;omega
open Classical in
noncomputable def I.on(h:I)(S:Nat->Prop):I:=λo=>if S o then h o else none
theorem I.zn(h:I)(S:Nat->Prop):(h.on S).le h:=λo J e=>by
 unfold I.on at e;grind
theorem I.mX(ae:S o):h.on S o=h o:=by unfold I.on;grind
theorem I.vp(ae:h.on S o≠none):S o:=by
 unfold I.on at ae;grind
theorem bz.on{h:I}{bs size n cap:Nat}{A:Option ar}{xs:List ao}{S:Nat->Prop}(x:bz h bs size A n cap xs)(c5:∀g,A=some g->S g.block):bz (h.on S) bs size A n cap xs:=by
 obtain⟨h1,ab⟩:=x;refine⟨h1,?_⟩;rcases ab with ab|⟨b,a8,aJ,aI,ck⟩
 grind
 exact .inr ⟨b,a8,aJ,by rw[I.mX (c5 _ aJ)];exact aI,ck⟩
theorem bz.one(x:bz h 3 1 A n cap (l.map R)):bg h 1 A n (l.map λz=>[R z]):=by
 rw[<-wd]at x;exact x.dG (Rg _) (by decide)
def F3(n:Nat)(ba:Nat->ar×Nat)(k:Nat):List ao:=(aDB k).map λi=>.slice (some (ba i).1) n (ba i).2
structure GY(X:I)(n:Nat)(rows:List (List Int))(A:Option ar)(c:Nat)(ba:Nat->ar×Nat):Prop where
 outer:bz X 27 1 A rows.length c (F3 n ba rows.length)
 inner:∀i(ag:i<rows.length),bz X 3 1 (some (ba i).1) n (ba i).2 (rows[i].map R)
 apart:∀i o,i<rows.length->o<rows.length->i≠o->(ba i).1.block≠(ba o).1.block
 own:∀i,i<rows.length->∀g,A=some g->g.block≠(ba i).1.block
def J'(n:Nat)(rows:List (List Int))(v:ao)(X:I):Prop:=∃A c ba,v= .slice A rows.length c/\GY X n rows A c ba
theorem av1(n:Nat):J' n [] (.slice none 0 0) I.empty:=⟨none,0,λ_=>(⟨0,0,none⟩,0),rfl,⟨rfl,.inl ⟨rfl,rfl,rfl⟩⟩,(λi ag=>by grind),(λi o ag=>by simp),λi ag=>by simp⟩
theorem auE(kP:M<=4096):J7 193 (J' n) M n:=by
 rintro rows v X h g c cI eb ⟨A,mL,ba,rfl,eC⟩ cu HH jM pq;refine b5 arO rfl ?_;refine .abs 27 1 A rows.length mL _ (eC.outer.mono cu) (.done (.cR 1 _ [.slice (some g) n c] rfl rfl (by simp;rfl) (by grind [c']) (by omega) λdE c2 qJ=>?_));refine .bV 1 27 1 dE (rows.length+1) c2 _ rfl λU aEq fJ wj=>.done ?_;obtain⟨g2,rfl⟩:∃g2,dE=some g2:=by
  cases dE with
  |none=>grind
  |some g2=>simp
 have EZ:∀o J,X o=some J->(∀g,A=some g->g.block≠o)->U o=some J:=λo J e bH=>by
  refine aEq o J ?_;cases A with
  |none=>exact cu o J e
  |some ez=>rw[ei,I.lP _ (λq=>bH ez rfl q.symm)];exact cu o J e
 have rD:∀ez,A=some ez->ez.block≠g.block:=λez e q=>eC.outer.mem e (by grind);have an4:bz U 3 1 (some g) n c (cI.map R):=(jM.del λg1 g2 aJ aI=>by grind).mono aEq;have eR:∀K:I,K.le h->l' K X->K.le (ei h A):=λK hk aB o J e=>by
  cases A with
  |none=>exact hk o J e
  |some ez=>rw[ei,I.lP _ (λq=>by subst q;rw[aB _ (eC.outer.mem rfl)]at e;cases e)];exact hk o J e
 have gV:∀i(ag:i<rows.length),g2.block≠(ba i).1.block:=λi ag q=>by
  have h1:=wj g2 rfl;have ab:=(((eC.inner i ag).mono cu).del (B:=A) λg1 g3 aJ aI=>by injection aJ with aJ;subst aJ;exact(eC.own i ag g3 aI).symm).mem rfl
  grind
 have am8:g2.block≠g.block:=λq=>by
  have h1:=wj g2 rfl;have ab:=(jM.del (B:=A) λg1 g3 aJ aI=>by grind).mem rfl
  grind
 have YN:∀i(ag:i<rows.length),(ba i).1.block≠g.block:=λi ag q=>(eC.inner i ag).mem rfl (by grind);let vG:Nat->ar×Nat:=λi=>if i=rows.length then(g,c)else ba i;have HD:vG rows.length=(g,c):=by simp[vG]
 have Cx:∀i,i<rows.length->vG i=ba i:=λi ag=>by grind
 let S:Nat->Prop:=λo=>o=g2.block\/o=g.block\/∃i,i<rows.length/\o=(ba i).1.block;have amK:F3 n ba rows.length++[.slice (some g) n c]=F3 n vG (rows.length+1):=by
  simp only[F3,GN,fm,eO,List.map_nil,HD];simp_all
 refine⟨U.on S,⟨some g2,c2,vG,by simp[jt],?_,λi ag=>?_,λi o ag ae u0=>?_,λi ag PY e=>?_⟩,I.zn _ _,λK hk aB AH=>⟨I.le_trans (eR K hk aB) aEq,λo ae=>?_⟩⟩;have fJ:bz U 27 1 (some g2) (rows.length+1) c2 (F3 n ba rows.length++[.slice (some g) n c]):=fJ;rw[amK]at fJ;simpa using fJ.on (S:=S) λq e=>by grind
 by_cases e:i=rows.length;subst e;rw[HD];simpa using an4.on (S:=S) λq e=>by grind
 have ea:i<rows.length:=by grind
 rw[Cx i ea,List.getElem_append_left ea];have af:=((((eC.inner i ea).mono cu).del (B:=A) λg1 g3 aJ aI=>by injection aJ with aJ;subst aJ;exact(eC.own i ea g3 aI).symm)).mono aEq;exact af.on λq e=>by grind
 have h1:i<rows.length+1:=by grind
 have ab:o<rows.length+1:=by grind
 by_cases aJ:i=rows.length
 grind
 have pa:i<rows.length:=by omega
 by_cases aI:o=rows.length
 grind
 rw[Cx i pa,Cx o (by omega)];exact eC.apart i o pa (by omega) u0
 grind
 rcases I.vp ae with rfl|rfl|⟨i,ag,rfl⟩;exact vi (eR K hk aB) (wj g2 rfl);omega;exact aB _ ((eC.inner i ag).mem rfl)
def lg:List (List Int)->List Int
 |[]=>[]
 |r::rs=>rs.foldl (λa b=>rf max a b) r
theorem atN(h:rows≠[])(t:List Int):lg (rows++[t])=rf max (lg rows) t:=by
 cases rows with
 |nil=>grind
 |cons r rs=>simp[lg]
def D9(n:Nat)(rows:List (List Int))(v:ao)(X:I):Prop:=(rows=[]->v= .slice none 0 0)/\(rows≠[]->∃g c,v= .slice (some g) n c/\bz X 3 1 (some g) n c ((lg rows).map R))
theorem av5(n:Nat):D9 n [] (.slice none 0 0) I.empty:=⟨λ_=>rfl,λh=>absurd rfl h⟩
def xM(a b:List Int)(k:Nat):List Int:=(rf max a b).take k++a.drop k
theorem atY(a b:List Int):xM a b 0=a:=by rfl
theorem atV{b:List Int}(a6:a.length=n)(af:b.length=n):xM a b n=rf max a b:=by
 unfold xM
 grind
theorem atW{b:List Int}(a6:a.length=n)(af:b.length=n)(hk:k<n):(xM a b k)[k]?=some a[k]:=by
 unfold xM
 grind
theorem atX{b:List Int}(a6:a.length=n)(af:b.length=n)(hk:k<n):(xM a b k).set k (max a[k] b[k])=xM a b (k+1):=by
 unfold xM;have al:((rf max a b).take k).length=k:=by grind
 rw[wU _ _ (by omega),al,yq,o6 (by omega),aB8,kh (by grind),List.getElem_zipWith];simp
theorem auF(aC:n<=4096):J7 166 (D9 n) M n:=by
 rintro rows v X h g c cI eb ⟨Qj,qL⟩ cu HH jM pq;by_cases am:rows=[];subst am;obtain rfl:=Qj rfl;refine b5 aaY rfl ?_;refine .done ⟨h.on λo=>o=g.block,⟨λe=>by simp at e,λ_=>⟨g,c,rfl,?_⟩⟩,I.zn _ _,λK hk aB AH=>⟨hk,λo ae=>?_⟩⟩;exact jM.on λq e=>by grind
 rw[I.vp ae];exact AH;obtain⟨jW,cx,rfl,aO⟩:=qL am;have fB:(lg rows).length=n:=by have:=aO.1;grind
 have bH:jW.block≠g.block:=λq=>aO.mem rfl (by grind);obtain⟨dQ,rfl⟩:∃dQ,jW=⟨dQ,0,none⟩:=by
  rcases aO.2 with⟨q,_⟩|⟨b,_,q,_⟩
  grind
  grind
 have ZX:=(jM.del (B:=some ⟨dQ,0,none⟩) λg1 g2 aJ aI=>by grind).one;have tF:=ZX.cc;refine b5 aaY rfl ?_;refine .mk Nat [0,10,11,12] (λk=>[.v (.slice (some ⟨dQ,0,none⟩) n cx),.v (.slice (some g) n c),.v (R n),.v (R k)]) (λ_=>[]) (λk U=>k<=n/\(h.del dQ).le U/\bz U 3 1 (some ⟨dQ,0,none⟩) n cx ((xM (lg rows) cI k).map R)) (λk=>n-k) 0 (λ_=>rfl) ⟨cO _,I.WG _ _,by rw[atY];exact aO.mono cu⟩ rfl rfl ?_;rintro k e U ⟨hk,aB,hg⟩;refine aW (λh1=>?_) (λh1=>?_);have br:k<n:=by omega
 refine .m g rfl ?_;refine .hp (R cI[k]) (by rw[bq];exact(ZX.mono aB).one rfl (r:=[R cI[k]]) (by grind) rfl) ?_;refine .mk ⟨dQ,0,none⟩ rfl (by omega) (by omega) ?_;refine .hp (R ((lg rows)[k]'(by omega))) (by rw[bq];exact hg.one.one rfl (r:=[R ((lg rows)[k]'(by omega))]) (by simp[atW fB pq br]) rfl) ?_;refine .mk ⟨dQ,0,none⟩ rfl (by omega) (by omega) ?_;obtain⟨g3,cs,gQ,aJ,aI,ck,eE⟩:=hg.write (off:=k) (by omega) (R (max ((lg rows)[k]'(by omega)) (cI[k]'(by omega))));injection aJ with aJ;injection aJ with aJ;subst aJ;refine .hp dQ k 3 cs gQ (by rw[bq,add_lit,ew,dJ]) aI ck ?_;refine .aLS ?_;refine⟨k+1,rfl,rfl,⟨br,λo J q=>?_,?_⟩,by omega⟩;rw[I.cf _ _ (λw=>by subst w;rw[I.Ev]at q;cases q)];exact aB o J q;rw[<-atX fB pq br,nb];exact eE;have:k=n:=by omega
 subst this;rw[atV fB pq,<-atN am]at hg;refine .done ⟨U.on λo=>o=dQ,⟨λe=>by simp at e,λ_=>⟨⟨dQ,0,none⟩,cx,rfl,?_⟩⟩,I.zn _ _,λK hk amQ AH=>?_⟩;exact hg.on λq e=>by grind
 have E7:K dQ=none:=amQ dQ (aO.mem rfl);refine⟨λo J q=>aB o J ?_,λo ae=>by rw[I.vp ae];exact E7⟩;rw[I.lP _ (λw=>by grind)];exact hk o J q
def Ka(n:Nat)(rows:List (List Int))(v:ao)(X:I):Prop:=(rows=[]->v= .agg #[.slice none 0 0,.slice none 0 0])/\(rows≠[]->∃jW cx dQ c8,v= .agg #[.slice (some jW) n cx,.slice (some dQ) n c8]/\bz X 3 1 (some jW) n cx ((rows.headD []).map R)/\bz X 3 1 (some dQ) n c8 ((rows.getLastD []).map R))
theorem av3(n:Nat):Ka n [] (.agg #[.slice none 0 0,.slice none 0 0]) I.empty:=⟨λ_=>rfl,λh=>absurd rfl h⟩
theorem av4(n:Nat)(rows:List (List Int))(v:ao)(X:I)(h:Ka n rows v X):∃x y:Option ar×Nat×Nat,v= .agg #[.slice x.1 x.2.1 x.2.2,.slice y.1 y.2.1 y.2.2]:=by
 by_cases am:rows=[];exact⟨(none,0,0),(none,0,0),h.1 am⟩;obtain⟨jW,cx,dQ,c8,e,_⟩:=h.2 am;simp_all
set_option maxRecDepth 100000 in
theorem auG:U3 163 (Ka n) M n:=by
 rintro rows v X h g c cI eb ⟨Qj,qL⟩ cu HH jM pq;have yY:(rows++[cI]).getLastD []=cI:=by simp
 by_cases am:rows=[];subst am;obtain rfl:=Qj rfl;refine b5 aaW rfl ?_;have hg:bz (h.on λo=>o=g.block) 3 1 (some g) n c (cI.map R):=jM.on λq e=>by grind
 refine .done ⟨I.le_refl _,h.on λo=>o=g.block,⟨λe=>by simp at e,λ_=>⟨g,c,g,c,rfl,hg,hg⟩⟩,I.zn _ _,λK hk aB AH=>⟨hk,λo ae=>?_⟩⟩;rw[I.vp ae];exact AH;obtain⟨jW,cx,dQ,c8,rfl,aO,bW⟩:=qL am;have ane:(rows++[cI]).headD []=rows.headD []:=by cases rows with
  |nil=>grind
  |cons=>rfl
 refine b5 aaW rfl ?_;refine .done ⟨I.le_refl _,h.on λo=>o=g.block\/o=jW.block,⟨λe=>by simp at e,λ_=>⟨jW,cx,g,c,rfl,?_,?_⟩⟩,I.zn _ _,λK hk aB AH=>⟨hk,λo ae=>?_⟩⟩;rw[ane];exact(aO.mono cu).on λq e=>by grind
 rw[yY];exact jM.on λq e=>by grind
 rcases I.vp ae with rfl|rfl;omega;exact aB _ (aO.mem rfl)
theorem TM{b:List Int}(h:a.take k=b.take k)(a6:k<a.length)(af:k<b.length):(a.take (k+1)=b.take (k+1))↔a[k]=b[k]:=by
 rw[kh a6,kh af,h];exact⟨λe=>by have:=List.append_cancel_left e;grind,λe=>by rw[e]⟩
theorem aj9(A B:Option ar)(n m cx c8:Nat)(a b:List Int)(h:I)(aO:bg h 1 A n (a.map λz=>[R z]))(bW:bg h 1 B m (b.map λz=>[R z]))(aC:n<=9223372036854775806):Fn aH 164 #[.slice A n cx,.slice B m c8] h λr U=>r= .bool (decide (a=b))/\U=h:=by
 have fB:a.length=n:=by simpa using aO.len
 have qN:b.length=m:=by simpa using bW.len
 refine b5 arA rfl ?_;refine aW (λh1=>?_) (λh1=>?_);refine .done ⟨?_,rfl⟩;rw[gU (λe=>by grind)];rfl;have H3:n=m:=by omega
 subst H3;refine .mk Nat [0,1,12,13] (λk=>[.v (.slice A n cx),.v (.slice B n c8),.v (R n),.v (R k)]) (λ_=>[]) (λk U=>U=h/\k<=n/\a.take k=b.take k) (λk=>n-k) 0 (λ_=>rfl) ⟨rfl,cO _,by simp⟩ rfl rfl ?_;rintro k e U ⟨rfl,hk,mR⟩;refine aW (λab=>?_) (λab=>?_);have br:k<n:=by omega
 obtain⟨g,ak⟩:=aO.cc (by omega);obtain⟨g2,gV⟩:=bW.cc (by omega);have iD:=TM mR (by omega) (by omega);refine .m g ak ?_;refine .hp (R (a[k]'(by omega))) (by rw[bq];exact aO.one ak (r:=[R (a[k]'(by omega))]) (by grind) rfl) ?_;refine .m g2 gV ?_;refine .hp (R (b[k]'(by omega))) (by rw[bq];exact bW.one gV (r:=[R (b[k]'(by omega))]) (by grind) rfl) ?_;refine aW (λan=>?_) (λan=>?_);refine .done ⟨?_,rfl⟩;rw[gU (λe=>an (by grind))];rfl;refine .aLS ?_;exact⟨k+1,rfl,rfl,⟨rfl,br,iD.2 (Gu.1 an)⟩,by omega⟩;have:k=n:=by omega
 subst this;refine .done ⟨?_,rfl⟩;rw[k4 (by omega),k4 (by omega)]at mR;rw[fo mR];rfl
structure GP(h:I)(A:Option ar)(rows:List (List Int))(ba:Nat->Option ar×Nat):Prop where
 outer:bg h 1 A rows.length ((aDB rows.length).map λi=>[.slice (ba i).1 (rows.getD i []).length (ba i).2])
 inner:∀i,i<rows.length->bg h 1 (ba i).1 (rows.getD i []).length ((rows.getD i []).map λz=>[R z])
theorem GP.mono{h U:I}{A:Option ar}{rows:List (List Int)}{ba:Nat->Option ar×Nat}(x:GP h A rows ba)(l:h.le U):GP U A rows ba:=⟨x.outer.mono l,λi ag=>(x.inner i ag).mono l⟩
theorem awN(n:Nat)(ba:Nat->ar×Nat)(rows:List (List Int))(al:∀i,i<rows.length->(rows.getD i []).length=n):F3 n ba rows.length=((aDB rows.length).map λi=>[oE (some (ba i).1) (rows.getD i []).length (ba i).2]).flatten:=by
 have:∀l:List Nat,(∀i∈l,i<rows.length)->l.map (λi=>oE (some (ba i).1) n (ba i).2)=(l.map λi=>[oE (some (ba i).1) (rows.getD i []).length (ba i).2]).flatten:=by
  intro l;induction l with
  |nil=>simp
  |cons x l bE=>
   grind
 exact this _ λi ag=>re.1 ag
theorem GY.lens{c:Nat}{ba:Nat->ar×Nat}(x:GY X n rows A c ba)(i:Nat)(ag:i<rows.length):(rows.getD i []).length=n:=by
 have:=(x.inner i ag).1
 grind
theorem GY.lists{c:Nat}{ba:Nat->ar×Nat}(x:GY X n rows A c ba):GP X A rows λi=>(some (ba i).1,(ba i).2):=by
 refine⟨?_,λi ag=>?_⟩;have:=x.outer;rw[awN n ba rows x.lens]at this;exact this.dG (λr am=>by grind) (by decide);have:=(x.inner i ag).one;rw[x.lens i ag,cN,bZ ag]
 grind
theorem atM{α:Type}{f:Nat->α}(hk:k<n):((aDB n).map f)[k]?=some (f k):=by
 grind
theorem aiO(N:Int)(n cap:Nat)(aa:List bo)(A D:Option ar)(r iy:Nat)(aG:List Int)(h:I)(av:bg h 5 A n (aa.map bo.cells))(aC:n*40<=140737488355328)(aY:bg h 1 D r (aG.map λz=>[R z])):Fn aH 158 #[my N A n cap,.slice D r iy] h λv U=>ur h N aa aG (.slice none 0 0) (J' aa.length) v U:=by
 refine b5 arx rfl ?_;refine .done (.mk _ (avl 193 (J' aa.length) N n cap aa A D r iy aG h av aC aY (av1 _) (auE (by decide))) ?_);rintro v U ⟨cu,af,ak⟩;by_cases he:(eh N aa aG).1=0;obtain⟨v,X,rfl,h1,ab,an⟩:=ak he;exact .done ⟨cu,λq=>absurd he q,λ_=>⟨v,X,rfl,h1,ab,an⟩⟩;obtain rfl:=af he;exact .done ⟨cu,λ_=>rfl,λq=>absurd q he⟩
theorem avn(N:Int)(n cap:Nat)(aa:List bo)(A D:Option ar)(r iy:Nat)(aG:List Int)(h:I)(av:bg h 5 A n (aa.map bo.cells))(aC:n*40<=140737488355328)(aY:bg h 1 D r (aG.map λz=>[R z])):Fn aH 165 #[my N A n cap,.slice D r iy,.slice none 0 0,.func (.func 166) #[] #[]] h λv U=>ur h N aa aG (.slice none 0 0) (D9 aa.length) v U:=by
 by_cases aj:e' N aa=0;exact avm 166 (D9 aa.length) N n cap aa A D r iy aG h av aC aY (av5 _) (auF (by have:=(lO aj).2.2.1;omega));exact avo 166 (D9 aa.length) N n cap aa A D r iy aG h av aC aj
theorem at3(N:Int)(n cap:Nat)(aa:List bo)(A D:Option ar)(r iy:Nat)(aG:List Int)(h:I)(av:bg h 5 A n (aa.map bo.cells))(aC:n*40<=140737488355328)(aY:bg h 1 D r (aG.map λz=>[R z])):Fn aH 121 #[my N A n cap,.slice D r iy] h λv U=>ur h N aa aG (.slice none 0 0) (D9 aa.length) v U:=by
 refine b5 aq7 rfl ?_;refine .done (.mk _ (avn N n cap aa A D r iy aG h av aC aY) ?_);rintro v U ⟨cu,af,ak⟩;by_cases he:(eh N aa aG).1=0;obtain⟨v,X,rfl,h1,ab,an⟩:=ak he;exact .done ⟨cu,λq=>absurd he q,λ_=>⟨v,X,rfl,h1,ab,an⟩⟩;obtain rfl:=af he;exact .done ⟨cu,λ_=>rfl,λq=>absurd q he⟩
def CO(N:Int)(aa:List bo)(aG:List Int):Bool:=decide ((eh N aa aG).1=0)&&decide ((eh N aa aG).2.headD []=(eh N aa aG).2.getLastD [])
theorem OR{N:Int}(h:(eh N aa aG).1=0):(eh N aa aG).2≠[]:=by
 grind [eh]
theorem VB{N:Nat}{aa:List bo}:∀(aG f:List Int),(fA N aa aG f).2.length<=aG.length
 |[],f=>dd _
 |v::aG,f=>by
  unfold fA;split;simp;split;have:=VB (N:=N) (aa:=aa) aG (bump f v.toNat)
  grind
  simp
theorem aiQ(N:Int)(aa:List bo)(aG:List Int):(eh N aa aG).2.length<=2049:=by
 unfold eh;split;split;simp;have:=VB (N:=N.toNat) (aa:=aa) aG (bG N.toNat 0)
 grind
 simp
theorem anN(N:Int)(n cap:Nat)(aa:List bo)(A D:Option ar)(r iy:Nat)(aG:List Int)(h:I)(av:bg h 5 A n (aa.map bo.cells))(aC:n*40<=140737488355328)(aY:bg h 1 D r (aG.map λz=>[R z])):Fn aH 120 #[my N A n cap,.slice D r iy] h λv U=>v= .tuple #[.bool (CO N aa aG),R (eh N aa aG).1]/\h.le U:=by
 have eb:aa.length=n:=by simpa using av.len
 refine b5 aq6 rfl ?_;refine .done (.mk _ (avp 163 (Ka aa.length) N n cap aa A D r iy aG h av aC aY (av3 _) (av4 _) auG) ?_);rintro v U ⟨cu,af,ak⟩;by_cases he:(eh N aa aG).1=0;obtain⟨v,X,rfl,h1,ab,an⟩:=ak he;obtain⟨jW,cx,dQ,c8,rfl,aM,aD⟩:=h1.2 (OR he);refine .done (.mk _ (aj9 _ _ _ _ _ _ _ _ _ (aM.mono ab).one (aD.mono ab).one (by omega)) ?_);rintro _ an ⟨rfl,rfl⟩;have aP:CO N aa aG=decide ((eh N aa aG).2.headD []=(eh N aa aG).2.getLastD []):=by grind [CO]
 refine .done ⟨?_,cu⟩;rw[aP,he];rfl;obtain rfl:=af he;refine aW (λq=>absurd q he) (λ_=>?_);refine .done ⟨?_,cu⟩;rw[CO,gU he];rfl
def Jd(A:Option ar)(n cap:Nat)(t:Int):ao:=.agg #[.slice A n cap,R t]
end Go.Sx
namespace Go.Sx
open Go.Proofs Go.Shelf Go.Sort
set_option maxRecDepth 100000
set_option maxHeartbeats 0
set_option linter.all false
def cH(x:Int×Int):List ao:=[R x.1,R x.2]
theorem I8:∀xs:List (Int×Int),(xs.map cH).flatten.length=xs.length*2
 |[]=>rfl
 |x::xs=>by simp only[eO,qr,List.length_append,I8 xs,gI];show 2+_=_;omega
theorem MH:∀(xs:List (Int×Int))(o:Nat),o<xs.length*2->(xs.map cH).flatten[o]?=some ((ru xs.toArray[o/2]!)[o%2]!)
 |[],o,h=>by simp at h
 |x::xs,0,_=>rfl
 |x::xs,1,_=>rfl
 |x::xs,o+2,h=>by
  have bE:=MH xs o (by simp only[gI]at h;omega);have aJ:(o+2)/2=o/2+1:=by omega
  have aI:(o+2)%2=o%2:=by omega
  have ck:(x::xs).toArray[o/2+1]! =xs.toArray[o/2]! :=by simp[getElem!_def]
  have eE:((x::xs).map cH).flatten[o+2]?=(xs.map cH).flatten[o]? :=rfl;rw[aJ,aI,ck,eE,bE]
theorem ale(d:Array (Int×Int)):(EI ru 2 d).toList=(d.toList.map cH).flatten:=by
 apply ahb;intro o;by_cases h:o<d.size*2;rw[MH _ _ (by simpa using h)];have aj:o<(EI ru 2 d).size:=by simpa using h
 have h1:=get_flatK ru 2 d o h;rw[getElem!_pos _ o aj]at h1;rw[zG,JM aj,h1];rw[qs (by simpa using h),qs (by rw[I8];simpa using h)]
theorem avV(F a8:Array ao)(bm:F.size<=a8.size):(FV id 0 F a8).size=a8.size/\(FV id 0 F a8).toList.take F.size=F.toList:=by
 refine⟨by simp[FV],?_⟩;apply ahb;intro o;rw[GH];by_cases h:o<F.size;rw[aX h,zG,zG];simp only[FV,Array.getElem?_mapIdx,cO,true_and,dJ,h,la,Nat.sub_zero];rw[JM (by omega),JM h,getElem!_pos F o h];rfl;rw[aE h,qs (by simpa using h)]
structure OI(lt:Int×Int->Int×Int->Bool)(xs aN:List (Int×Int)):Prop where
 perm:aN.Perm xs
 ord:aN.Pairwise λa b=>lt b a=false
structure OH(h:I)(bs:Nat)(A:Option ar)(n cap:Nat)(lt:Int×Int->Int×Int->Bool)(xs:List (Int×Int))(v:ao)(U:I)(aN:List (Int×Int)):Prop where
 ret:v= .tuple #[]
 DC:OI lt xs aN
 row:bz U bs 2 A n cap (aN.map cH).flatten
 same:∀o,(∀g,A=some g->o≠g.block)->U o=h o
theorem akD{h:I}{w:bb}(hw:lI h w):Ext h w h w:=⟨hw,rfl,rfl,rfl,dd _,λ_ _ _=>rfl,λ_ ae=>.inl ae⟩
theorem aeV{kF:Ren}(L:SlLaysF0.n6 aH kF)(bs g:Nat)(av:kF.t 24=bs)(aiw:∀w,(isAgg bs).run aH w= .ok true w)(aAa:∀w,(Go.sizeOf bs).run aH w= .ok 2 w)(af:∃fn,Tryz.prog.funcs[kF.f 6]?=some fn/\fn.body.isSome=true/\(fn.name== "runtime.NumGoroutine")=false)(Ha:Int×Int->Int×Int->Int)(hO:SWO (ltOf Ha))(nh:∀args w,(callFunc g args).run aH w= .ok (.enter g args) w)(aw:∀(x y:Int×Int)(W:bb),Gr aH g #[.agg #[.int .i64 x.1,.int .i64 x.2],.agg #[.int .i64 y.1,.int .i64 y.2]] W λe aZ=>e= .returned (.int .i64 (Ha x y))/\∃q oh,aZ=grow (W.drewN q) oh)(A:Option ar)(n cap:Nat)(xs:List (Int×Int))(h:I)(am:bz h bs 2 A n cap (xs.map cH).flatten)(CE:n<4611686018427387904):Fn aH (kF.f 6) #[.slice A n cap,.func (.func g) #[] #[]] h λv U=>∃aN,OH h bs A n cap (ltOf Ha) xs v U aN:=by
 subst av;have aC:xs.length=n:=by have:=am.1;rw[I8]at this;omega
 refine⟨af,λw hw=>?_⟩;rcases am.2 with⟨rfl,rfl,rfl⟩|⟨b,a8,rfl,jK,AM,pk,fg,Fe⟩;obtain rfl:xs=[]:=List.eq_nil_of_length_eq_zero aC;refine(AnyF.slices_SortFunc_none L none 0 _ w).mono ?_;rintro e aZ ⟨rfl,rfl⟩;exact⟨_,h,rfl,⟨[],rfl,⟨.refl _,.nil⟩,am,λ_ _=>rfl⟩,akD hw⟩;have xo:=hw _ _ jK;have di:b<w.heap.size:=(tb.1 xo).1;have hH:HoldsK ru 2 w b 0 xs.toArray:=by
  intro o ae;have ae:o<xs.length*2:=by simpa using ae
  have h1:=MH xs o ae;rw[<-Fe,GH,aX (by omega)]at h1;have ab:=get_flatK ru 2 xs.toArray o (by simpa using ae);rw[ab];refine⟨?_,?_⟩;unfold World.cell?;simp only[xo];simp only[Option.isSome_none,uh,k',dJ];rw[<-zG,h1];rfl;unfold World.frozen?;simp only[xo];simp
 have Ld:CmpLays aH g #[] ru 2 Ha b 0 xs.toArray.size w:=λ_ _ _ _ x y=>aw x y _;have ht:xs.toArray.size<4611686018427387904:=by simpa[aC]using CE
 have EV:=AnyQ.slices_SortFunc L 2 aiw aAa ru (λ_=>rfl) (λx v ah=>by simp[ru]at ah;rcases ah with rfl|rfl<;>rfl) Ha hO g #[] b 0 cap xs.toArray w nh Ld hH di ht;have es:xs.toArray.size=n:=by simpa using aC
 rw[es]at EV;refine EV.mono ?_;rintro e aZ ⟨rfl,lx,gR,os,hp,aj,rfl⟩;have EX:lx.size=n:=by rw[hp.1];exact es
 have bm:(EI ru 2 lx).size=n*2:=by simp[EX]
 obtain⟨ie,hR⟩:=avV (EI ru 2 lx) a8 (by rw[bm,fg];omega);rw[bm,ale]at hR;have mq:∀o,(sortWorldK ru 2 w b 0 gR lx os).heap[o]?=if o<w.heap.size then(if o=b then some (.cells (FV id 0 (EI ru 2 lx) a8) (kF.t 24) (0,0))else w.heap[o]?)else os[o-w.heap.size]? :=by
  intro o;show((w.heap.modify b (onCells (FV id 0 (EI ru 2 lx))))++os)[o]?=_;rw[Array.getElem?_append,agk];split;rw[Array.getElem?_modify];by_cases ae:b=o;subst ae;rw[aX rfl,aX rfl,xo];rfl;rw[aE ae,aE (d9 ae)];rfl
 refine⟨_,h.put b (.cells (FV id 0 (EI ru 2 lx) a8) (kF.t 24) (0,0)),rfl,⟨lx.toList,rfl,⟨?_,?_⟩,?_,λo ae=>?_⟩,?_⟩;have:=hp.2.2;have aJ:lx.extract 0 n=lx:=by rw[<-EX];simp
 have aI:xs.toArray.extract 0 n=xs.toArray:=by rw[<-es];simp
 rw[aJ,aI]at this;simpa using this;rw[aCj];intro i o ag ae u0;have ag:i<lx.size:=by simpa using ag
 have ae:o<lx.size:=by simpa using ae
 have:=aj i o (cO _) u0 (by omega);rw[getElem!_pos lx i ag,getElem!_pos lx o ae]at this;simpa using this;refine⟨by rw[I8];simp[EX],.inr ⟨b,_,rfl,I.bP _ _ _,AM,pk,by rw[ie,fg],hR⟩⟩;exact I.cf _ _ (ae _ rfl);refine⟨λo J ae=>?_,rfl,rfl,rfl,?_,λo ae aC=>?_,λo ae=>?_⟩;rw[mq];by_cases e:o=b;subst e;rw[I.bP]at ae;injection ae with ae;subst ae;rw[aX di,aX rfl];rw[I.cf _ _ e]at ae;have h1:=hw _ _ ae;rw[aX (tb.1 h1).1,aE e];exact h1;show _<=((w.heap.modify b _)++os).size;rw[Array.size_append,agk];omega;rw[mq,aX ae,aE (λe=>by subst e;rw[jK]at aC;cases aC)];by_cases e:o=b;subst e;exact .inl (by rw[jK];simp);rw[I.cf _ _ e]at ae;exact .inl ae
theorem axL(A:Option ar)(n cap:Nat)(xs:List (Int×Int))(h:I)(am:bz h 278 2 A n cap (xs.map cH).flatten)(CE:n<4611686018427387904):Fn aH 159 #[.slice A n cap,.func (.func 160) #[] #[]] h λv U=>∃aN,OH h 278 A n cap (ltOf Ep) xs v U aN:=aeV Tryz.aeT 278 160 rfl Tryz.isAgg278 Tryz.sizeOf278 ⟨Tryz.f159,Tryz.func159,by kernel_rfl,by kernel_rfl⟩ Ep ax' (enters_of aCn (by kernel_rfl) rfl) ajs A n cap xs h am CE
theorem axM(A:Option ar)(n cap:Nat)(xs:List (Int×Int))(h:I)(am:bz h 142 2 A n cap (xs.map cH).flatten)(CE:n<4611686018427387904):Fn aH 62 #[.slice A n cap,.func (.func 63) #[] #[]] h λv U=>∃aN,OH h 142 A n cap (ltOf Ai) xs v U aN:=aeV Tryz.aeU 142 63 rfl Tryz.isAgg142 Tryz.sizeOf142 ⟨Tryz.f62,Tryz.func62,by kernel_rfl,by kernel_rfl⟩ Ai ax9 (enters_of aCo (by kernel_rfl) rfl) ajt A n cap xs h am CE
end Go.Sx
namespace Go.Sx
open Go.Proofs Go.Sort
set_option maxRecDepth 100000
set_option maxHeartbeats 0
set_option linter.all false
variable {h:I}{l:List gr}{b b':Nat}{S:Nat->Nat->Prop}
def aDX(r:List Int)(i:Nat):Bool:=decide (0<r.getD i 0)
def Fy(rows:List (List Int))(i o:Nat):Bool:=rows.any λr=>aDX r i&&aDX r o
abbrev cL:=Int×Int
def kg(rows:List (List Int))(m:Nat):List cL:=(aDB m).flatMap λi=>((List.range' (i+1) (m- (i+1))).filter (Fy rows i)).map λo:Nat=>((i:Int),(o:Int))
def wZ(a b:cL):Prop:=a.1<b.1\/a.1=b.1/\a.2<b.2
theorem MI(a:cL):¬wZ a a:=by unfold wZ;omega
theorem avE{a b c:cL}:wZ a b->wZ b c->wZ a c:=by unfold wZ;omega
theorem ae4:∀xs aN:List cL,xs.Pairwise wZ->aN.Pairwise wZ->(∀a,a∈xs↔a∈aN)->xs=aN
 |[],[],_,_,_=>rfl
 |[],y::aN,_,_,h=>by have:=(h y).2 (iU ..);grind
 |x::xs,[],_,_,h=>by have:=(h x).1 (iU ..);grind
 |x::xs,y::aN,ad,aQ,h=>by
  obtain⟨h1,ab⟩:=Og.1 ad;obtain⟨an,aR⟩:=Og.1 aQ;have e:x=y:=by
   rcases dC.1 ((h x).1 (iU ..))with e|e;omega;rcases dC.1 ((h y).2 (iU ..))with aI|aI
   grind
   exact absurd (avE (h1 _ aI) (an _ e)) (MI _)
  subst e;rw[ae4 xs aN ab aR λa=>?_];constructor;intro a6;rcases dC.1 ((h a).1 (iv _ a6))with e|e;subst e;exact absurd (h1 _ a6) (MI _);omega;intro a6;rcases dC.1 ((h a).2 (iv _ a6))with e|e;subst e;exact absurd (an _ a6) (MI _);omega
theorem MF{rows:List (List Int)}{m:Nat}{p:cL}:p∈kg rows m↔∃i o:Nat,p=((i:Int),(o:Int))/\i<o/\o<m/\Fy rows i o=true:=by
 unfold kg
 grind
theorem adp(rows:List (List Int))(m:Nat):(kg rows m).Pairwise wZ:=by
 unfold kg;rw[List.pairwise_flatMap];refine⟨λi _=>?_,?_⟩;rw[List.pairwise_map];refine UR _ ?_;refine ag4 (λ{a b}(h:a<b)=>?_) (List.pairwise_lt_range' (s:=i+1) (n:=m- (i+1)));exact .inr ⟨rfl,by omega⟩;refine ag4 (λ{a b}(h:a<b) x ad y aQ=>?_) List.pairwise_lt_range;obtain⟨p,_,rfl⟩:=dn.1 ad;obtain⟨q,_,rfl⟩:=dn.1 aQ;exact .inl (by omega)
theorem axN{xs aN:List cL}{rows:List (List Int)}{m:Nat}(s:OI (ltOf Ep) xs aN)(aC:xs.Nodup)(hm:∀p,p∈xs↔p∈kg rows m):aN=kg rows m:=by
 refine ae4 _ _ ?_ (adp rows m) λa=>(s.perm.mem_iff).trans (hm a);have wm:aN.Nodup:=(s.perm.nodup_iff).2 aC;have:=s.ord.and wm;refine this.imp λ{a b} h=>?_;obtain⟨h1,ab⟩:=h;rw[Me]at h1;have h1:=tZ h1;unfold wZ
 grind
theorem Si{α β:Type}{f:α->β}:∀{l:List α},(l.map f).Nodup->∀{x y},x∈l->y∈l->f x=f y->x=y
 |[],_,_,_,h,_,_=>by cases h
 |a::l,aC,x,y,ad,aQ,e=>by
  rw[eO,List.nodup_cons]at aC;rcases dC.1 ad with aM|aM
  grind
  rcases dC.1 aQ with aD|aD
  grind
  exact Si aC.2 aM aD e
theorem VI{k:List Int}:∀l:List gr,(iw l k).isSome=true↔k∈l.map (·.k)
 |[]=>by simp[iw]
 |x::l=>by
  simp only[iw,eO,dC];by_cases h:k=x.k
  grind
  rw[aE h,VI l];simp[h]
theorem afI(k:List Int)(v:ao)(c:Nat):∀l:List gr,(upsert l k v c).map (·.k)=(if(iw l k).isSome then l.map (·.k)else l.map (·.k)++[k])/\(upsert l k v c).map (·.born)=(if(iw l k).isSome then l.map (·.born)else l.map (·.born)++[c])
 |[]=>by simp[upsert,iw]
 |x::l=>by
  obtain⟨h1,ab⟩:=afI k v c l;simp only[upsert,iw]
  grind
structure lp(h:I)(b:Nat)(S:Nat->Nat->Prop)(l:List gr)(b':Nat):Prop where
 at_:h b=some (jE 7 l b')
 sub:∀k∈l.map (·.k),∃i o:Nat,k=[(i:Int),(o:Int)]/\S i o
 all:∀i o:Nat,S i o->[(i:Int),(o:Int)]∈l.map (·.k)
 gR:(l.map (·.k)).Nodup
 rn:∀x∈l.map (·.born),x<b'
 ix:(l.map (·.born)).Nodup
theorem lp.atL(m:lp h b S l b'):wV h b 7 l b':=⟨m.at_,λx ad=>by obtain⟨i,o,e,_⟩:=m.sub _ (pL (f:=(·.k)) ad);rw[e];rfl⟩
theorem lp.start(af:h b=some (.map #[] 0)):lp h b (λ_ _=>False) [] 0:=⟨af,(λ_ h=>by cases h),(λ_ _ h=>h.elim),.nil,(λ_ h=>by cases h),.nil⟩
theorem lp.eqv{T:Nat->Nat->Prop}(m:lp h b S l b')(e:∀i o,S i o↔T i o):lp h b T l b':=⟨m.at_,λk hk=>by obtain⟨i,o,a,c⟩:=m.sub k hk;grind,λi o u0=>m.all i o ((e i o).2 u0),m.gR,m.rn,m.ix⟩
theorem lp.ins{ab:I}(m:lp h b S l b')(i o:Nat)(v:ao):lp (ab.put b (jE 7 (upsert l [(i:Int),(o:Int)] v b') (if(iw l [(i:Int),(o:Int)]).isSome then b' else b'+1))) b (λp q=>S p q\/(p=i/\q=o)) (upsert l [(i:Int),(o:Int)] v b') (if(iw l [(i:Int),(o:Int)]).isSome then b' else b'+1):=by
 obtain⟨h1,ab⟩:=afI [(i:Int),(o:Int)] v b' l;have hk:=VI (k:=[(i:Int),(o:Int)]) l;refine⟨I.bP _ _ _,?_,?_,?_,?_,?_⟩;intro k p2;rw[h1]at p2;split at p2;obtain⟨p,q,a,c⟩:=m.sub k p2
 grind
 rcases ev.1 p2 with p2|p2;obtain⟨p,q,a,c⟩:=m.sub k p2
 grind
 grind
 intro p q wx;rw[h1];rcases wx with wx|⟨rfl,rfl⟩;have:=m.all p q wx
 grind
 grind
 rw[h1];split;exact m.gR;rename_i aj;rw[nS];refine⟨m.gR,by simp,λa a6 c aw e=>?_⟩
 grind
 intro x ad;rw[ab]at ad;split at ad;rename_i aj;rw[aX aj];exact m.rn x ad;rename_i aj;rw[aE aj];rcases ev.1 ad with ad|ad;have:=m.rn x ad;omega
 grind
 rw[ab];split;exact m.ix;rw[nS];refine⟨m.ix,by simp,λa a6 c aw e=>?_⟩;rw[fx.1 aw]at e;subst e;have:=m.rn _ a6;omega
def lf(l:List gr)(seen:Array Nat):List gr:=l.filter λx=>!seen.contains x.born
theorem abC(l:List gr)(seen:Array Nat):(leftOf (l.map (jl 7)).toArray seen).toList=(lf l seen).map (jl 7):=by
 unfold leftOf lf;simp only[Array.toList_filter,List.filter_map];rfl
theorem atl{seen:Array Nat}{x:gr}(ad:x∈lf l seen):(lf l (seen.push x.born)).length<(lf l seen).length:=by
 have e:lf l (seen.push x.born)=(lf l seen).filter λy=>!(y.born==x.born):=by
  unfold lf;rw[List.filter_filter]
  grind
 rw[e,List.length_filter_lt_length_iff_exists]
 grind
structure yj(l:List gr)(seen:Array Nat)(outs:List cL):Prop where
 gR:outs.Nodup
 sub:∀p∈outs,∃x∈l,x.k=[p.1,p.2]/\seen.contains x.born=true
 all:∀x∈l,seen.contains x.born=true->∃p∈outs,x.k=[p.1,p.2]
theorem yj.start(l:List gr):yj l #[] []:=⟨.nil,(λ_ h=>by cases h),λx _ h=>by simp at h⟩
theorem yj.step{l:List gr}{seen:Array Nat}{outs:List cL}(g:yj l seen outs)(hk:(l.map (·.k)).Nodup)(af:(l.map (·.born)).Nodup){x:gr}(ad:x∈lf l seen){p:cL}(hp:x.k=[p.1,p.2]):yj l (seen.push x.born) (outs++[p]):=by
 obtain⟨sD,hB⟩:=BH.1 ad;have hB:seen.contains x.born=false:=by grind
 refine⟨?_,λq aq=>?_,λy aQ aj=>?_⟩;rw[nS];refine⟨g.gR,by simp,λa a6 c aw e=>?_⟩;rw[fx.1 aw]at e;subst e;obtain⟨y,aQ,aI,ck⟩:=g.sub _ a6;have:=Si hk sD aQ (hp.trans aI.symm)
 grind
 rcases ev.1 aq with aq|aq;obtain⟨y,aQ,aI,ck⟩:=g.sub q aq
 grind
 grind
 rw[Array.contains_push]at aj;by_cases e:y.born=x.born;have:=Si af aQ sD e
 grind
 have CT:seen.contains y.born=true:=by
  grind
 obtain⟨q,aq,aI⟩:=g.all y aQ CT
 grind
theorem yj.done{seen:Array Nat}{outs:List cL}(g:yj l seen outs)(m:lp h b S l b')(ai:lf l seen=[])(p:cL):p∈outs↔∃i o:Nat,p=((i:Int),(o:Int))/\S i o:=by
 constructor;intro hp;obtain⟨x,ad,e,_⟩:=g.sub p hp;obtain⟨i,o,aI,aj⟩:=m.sub _ (pL (f:=(·.k)) ad)
 grind
 rintro⟨i,o,rfl,aj⟩;obtain⟨x,ad,e⟩:=dn.1 (m.all i o aj);have Ia:seen.contains x.born=true:=by
  refine zM λaC=>?_;have:x∈lf l seen:=BH.2 ⟨ad,by grind⟩
  grind
 obtain⟨p,hp,aI⟩:=g.all x ad Ia
 grind
end Go.Sx
