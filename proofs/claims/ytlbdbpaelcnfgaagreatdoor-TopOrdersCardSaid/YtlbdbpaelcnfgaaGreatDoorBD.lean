/- A part of the proof that the statement holds. Conditions: none. -/
import Derived.Test.YtlbdbpaelcnfgaaGreatDoorTie
import Derived.Test.YtlbdbpaelcnfgaaGreatDoorCards
import Derived.OpenShut
import Derived.LaidMore
import Derived.Lay
import Derived.SevenTiedAt
import Derived.Stop.Joined
import Derived.Test.YtlbdbpaelcnfgaaGreatDoorAY
import Derived.Test.YtlbdbpaelcnfgaaGreatDoorAZ
import Derived.Test.YtlbdbpaelcnfgaaGreatDoorBC
open Go renaming laidMetH->Ue
open Go.ChangeSpec renaming witness_shaped->aGw
open Go.DataW.agg renaming inj->aGx
open Go.DataW.lit renaming injEq->aGy
open Go.MakeChecks renaming laidMetH_plain->alm
open Go.OpenClaim renaming holds_of_wide->aGH
open Go.Proofs.Tryz renaming checked->Yl,f4->Md,func4->alZ,params4->ame,prog->aB
open List renaming getElem?_eq_getElem->bZ,getElem?_map->dH
open Option.some renaming inj->wX,injEq->Qz
open Prod.mk renaming inj->r7
namespace Go.Proofs.YtlbdbpaelcnfgaaGreatDoor
open Go.Sx Go.RowKit Go.ChangeShapes Go.WideShapes Go.ChangeAt
set_option maxRecDepth 100000
def Ki:List (String×DataW Unit):=[("math/bits.deBruijn64tab",Rows.laid_math_bits_deBruijn64tab)]
theorem aEq{W:World}(h:Ue aB Ki W):vz (J.of W):=by
 intro r k;rw[alm _ _ _ e2]at h;obtain⟨v,⟨g,t,cs,x,p,q,b,l,j,e,_,_⟩,_,_⟩:=h;obtain rfl:=wX ((show Tryz.prog.globalNamed "math/bits.deBruijn64tab"=some 0 by kernel_rfl).symm.trans b);obtain rfl:=wX ((show(Tryz.prog.globals[0]?).map (·.type)=some 398 by kernel_rfl).symm.trans l);obtain⟨xs,m,_,ex,_,ak,s⟩:=DataW.trod_array Tryz.underlying398 e;have u:Tryz.prog.cellsOf 5=1:=e2;have c:=s r k;rw[u,Nat.mul_one,bZ I]at c;obtain⟨z,i,f,_⟩:=DataW.trod_int Tryz.underlying5 c;have w:zs.length=64:=rfl;have o:(xs.map (·.1))=zs.map λn:Nat=>.lit (.int .u8 n):=(aGx (r7 ex).1).symm;have a:(xs.map (·.1))[r]?=(zs.map λn:Nat=>(DataW.lit (.int .u8 n):DataW Unit))[r]? :=by rw[o]
 rw[dH,dH,bZ (by omega:r<xs.length),bZ (by omega:r<zs.length),f]at a;have d:z=(zs.getD r 0:Nat):=by
  simp only[Option.map_some,Qz,aGy,Lit.int.injEq,true_and]at a;rw[a,List.getD_eq_getElem?_getD,bZ (by omega:r<zs.length)];rfl
 refine OJ ?_;rw[World.var?_cell b j r,<-d];have:cs.toList[r]?=some (.int .u8 z):=by
  have al:((cs.toList.drop r).take 1)[0]?=some (.int .u8 z):=by rw[i];rfl
  simpa using al
 simpa using this
theorem aEP(os:Os)(started:os.Started)(H:Type)(enc:TypeId×Value->H):
 ReturnsInHanded {} Yl os 4 .any (λw args=>(Rows.topOrdersSpec.pre enc aB Md Rows.topOrdersRow.domain false w args/\Ue aB Ki w)/\sizedMet enc aB Md (OpenSpec.ofChange Rows.topOrdersSpec) false w args)
  (Rows.topOrdersSpec.post enc aB Md false true false false):=by
 refine returnsInHanded_of_change_and (C:=Yl) (X:=λw _=>Ue aB Ki w) (λ_ _ _ G h=>h.of_heap G) Tryz.own started e2 alZ
  (aGw (enc:=enc) (C:=Yl) (os:=os) (X:=λw _=>Ue aB Ki w) false (World.laidAll aB os Ki) #[.agg #[.string ⟨#[]⟩,.slice none 0 0,.slice none 0 0,.slice none 0 0,.slice none 0 0,.slice none 0 0,.slice none 0 0,.int .i64 0],.slice none 0 0] 8 (World.laidAll_os _ _ _)
   (World.shaped_of_ZipB e2 e2) e2 e2 e2
   (by rw[alm _ _ _ e2];exact laidMet_laidAll _ e2 e2)) ?_
 intro W base args f gs before e s ay c E _
 have j:∀(o:Nat) t v,Tryz.f4.params[o]?=some t->args[o]?=some v->Value.okWide aB W .any base t v:=e
 have i:(DataW.weightsEach aB (Tryz.f4.params.toList++Rows.topOrdersSpec.plain.varTypes aB) (f++gs)).all (·<=reachBytes)=true:=c
 have a:DataW.Whole enc aB Tryz.f4.params.toList Rows.topOrdersSpec.vars false W args.toList f gs before:=s
 obtain⟨p,q,b,u,rfl,B,Z⟩:=s
 have aT:DataW.TrodAll enc aB W 0 (λ_=>true) true Tryz.f4.params.toList args.toList f p:=b
 rw[ame]at aT j i
 obtain⟨v0,v1,d0,d1,U,K,rfl,rfl,rfl,al,h1⟩:=trodAll_two aT
 obtain⟨rfl,rfl⟩:=trodVars_none u
 obtain⟨g,P,k,c2,aE,O,L,F,eE,rfl,y,_,N,hk,R,bn⟩:=aAO (j 0 30 v0 rfl rfl) al (aac i (o:=0) rfl rfl)
 obtain⟨A,h1⟩:=h1
 obtain⟨n,r,l,rfl⟩:=okWide_slice Tryz.underlying27 (j 1 27 v1 rfl rfl)
 obtain⟨S,Y,T,Q,D,z,_,M⟩:=KK (v:=.slice n r l) (x:=(d1,K)) h1
 cases D
 have V:=M 140737488355328 (aac i (o:=1) rfl rfl)
 exact an0 Tryz.laidOut e2 rfl (by kernel_rfl:Tryz.f4.resultTypes=#[4]) Tryz.underlying4 a rfl rfl rfl (aAU g (J.of W) y (aEq E) P k c2 aE N hk n r l Q z I O L F R (λd m=>⟨(bn d m).1,(bn d m).2.1⟩) eE)
theorem aEO:Rows.TopOrdersSaid:=
 aGH 4 Md rfl rfl rfl rfl rfl rfl rfl ⟨rfl,rfl,rfl,rfl,rfl⟩ rfl rfl rfl rfl rfl e2 alZ aFn
  (of_decide_eq_true e2) (by unfold Func.isWrapper;first|(rw[if_pos (by decide+kernel)];kernel_rfl)|(rw[if_neg (by decide+kernel)];exact⟨rfl,rfl⟩))
  (λos started H enc _=>aEP os started H enc)
theorem topOrders:Rows.TopOrdersCardSaid:=
 Claim7.holds_tied_plain_at .later [] [.data] true (true, "aaf62cf5aae113f9029ed774f777f7db0316ec3050044da3b57b95b588794e35") true aEO (λ_ h=>by cases h) e2 (λ_ h=>by cases h) topOrders_row_tie rfl ⟨rfl,rfl⟩ e2 rfl
  (λf fn c a=>by
   obtain rfl:f=4:=wX ((show Tryz.prog.funcNamed "pianola/pianolatop.TopOrders"=some 4 by kernel_rfl).symm.trans c)|>.symm;obtain rfl:fn=Md:=(wX (Tryz.func4.symm.trans a)).symm;exact⟨e2,λo t b=>by
    rw[ame]at b;have hm:t∈[30,27]:=by simpa using Array.mem_of_getElem? b
    have d:([30,27].all λu=>!Tryz.prog.wantsStandIn u)=true:=e2;exact(show Tryz.prog.wantsStandIn t=false by simpa using List.all_eq_true.1 d t hm)⟩)
  e2
end Go.Proofs.YtlbdbpaelcnfgaaGreatDoor
