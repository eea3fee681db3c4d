/- A part of the proof that the statement holds. Conditions: none. -/
import Derived.Test.YtlbdbpaelcnfgaaGreatDoorTie
import Derived.Test.YtlbdbpaelcnfgaaGreatDoorCards
import Derived.OpenShut
import Derived.LaidMore
import Derived.Lay
import Derived.SevenTiedAt
import Derived.Stop.Joined
import Derived.Test.YtlbdbpaelcnfgaaGreatDoorAY
import Derived.Test.YtlbdbpaelcnfgaaGreatDoorAZ
import Derived.Test.YtlbdbpaelcnfgaaGreatDoorBC
open Go renaming laidMetH->VS
open Go.ChangeSpec renaming witness_shaped->aIr
open Go.DataW.agg renaming inj->aIs
open Go.DataW.lit renaming injEq->aIt
open Go.MakeChecks renaming laidMetH_plain->amY
open Go.OpenClaim renaming holds_of_wide->aIC
open Go.Proofs.Tryz renaming checked->ZL,f3->ND,func3->anC,params3->anS,prog->aD
open List renaming getElem?_eq_getElem->bK,getElem?_map->de
open Option.some renaming inj->wF,injEq->Sf
open Prod.mk renaming inj->ry
namespace Go.Proofs.YtlbdbpaelcnfgaaGreatDoor
open Go.Sx Go.RowKit Go.ChangeShapes Go.WideShapes Go.ChangeAt
set_option maxRecDepth 100000
def LP:List (String×DataW Unit):=[("math/bits.deBruijn64tab",Rows.laid_math_bits_deBruijn64tab)]
theorem aGn{W:World}(h:VS aD LP W):wK (J.of W):=by
 intro r j;rw[amY _ _ _ fl]at h;obtain⟨v,⟨g,t,cs,x,p,q,b,l,i,k,_,_⟩,_,_⟩:=h;obtain rfl:=wF ((show Tryz.prog.globalNamed "math/bits.deBruijn64tab"=some 0 by kernel_rfl).symm.trans b);obtain rfl:=wF ((show(Tryz.prog.globals[0]?).map (·.type)=some 398 by kernel_rfl).symm.trans l);obtain⟨xs,m,_,ex,_,al,s⟩:=DataW.trod_array Tryz.underlying398 k;have u:Tryz.prog.cellsOf 5=1:=fl;have c:=s r j;rw[u,Nat.mul_one,bK I]at c;obtain⟨z,e,f,_⟩:=DataW.trod_int Tryz.underlying5 c;have w:AE.length=64:=rfl;have o:(xs.map (·.1))=AE.map λn:Nat=>.lit (.int .u8 n):=(aIs (ry ex).1).symm;have a:(xs.map (·.1))[r]?=(AE.map λn:Nat=>(DataW.lit (.int .u8 n):DataW Unit))[r]? :=by rw[o]
 rw[de,de,bK (by omega:r<xs.length),bK (by omega:r<AE.length),f]at a;have d:z=(AE.getD r 0:Nat):=by
  simp only[Option.map_some,Sf,aIt,Lit.int.injEq,true_and]at a;rw[a,List.getD_eq_getElem?_getD,bK (by omega:r<AE.length)];rfl
 refine Qg ?_;rw[World.var?_cell b i r,<-d];have:cs.toList[r]?=some (.int .u8 z):=by
  have am:((cs.toList.drop r).take 1)[0]?=some (.int .u8 z):=by rw[e];rfl
  simpa using am
 simpa using this
theorem aGL(os:Os)(started:os.Started)(H:Type)(enc:TypeId×Value->H):
 ReturnsInHanded {} ZL os 3 .any (λw args=>(Rows.topStaticSpec.pre enc aD ND Rows.topStaticRow.domain false w args/\VS aD LP w)/\sizedMet enc aD ND (OpenSpec.ofChange Rows.topStaticSpec) false w args)
  (Rows.topStaticSpec.post enc aD ND false true false false):=by
 refine returnsInHanded_of_change_and (C:=ZL) (X:=λw _=>VS aD LP w) (λ_ _ _ r h=>h.of_heap r) Tryz.own started fl anC
  (aIr (enc:=enc) (C:=ZL) (os:=os) (X:=λw _=>VS aD LP w) false (World.laidAll aD os LP) #[.agg #[.string ⟨#[]⟩,.slice none 0 0,.slice none 0 0,.slice none 0 0,.slice none 0 0,.slice none 0 0,.slice none 0 0,.int .i64 0]] 8 (World.laidAll_os _ _ _)
   (World.shaped_of_ZipB fl fl) fl fl fl
   (by rw[amY _ _ _ fl];exact laidMet_laidAll _ fl fl)) ?_
 intro W base args e gs before d i av c n _
 have j:∀(o:Nat) t v,Tryz.f3.params[o]?=some t->args[o]?=some v->Value.okWide aD W .any base t v:=d
 have f:(DataW.weightsEach aD (Tryz.f3.params.toList++Rows.topStaticSpec.plain.varTypes aD) (e++gs)).all (·<=reachBytes)=true:=c
 have b:DataW.Whole enc aD Tryz.f3.params.toList Rows.topStaticSpec.vars false W args.toList e gs before:=i
 obtain⟨p,q,a,l,rfl,m,z⟩:=i
 have aK:DataW.TrodAll enc aD W 0 (λ_=>true) true Tryz.f3.params.toList args.toList e p:=a
 rw[anS]at aK j f
 obtain⟨v0,d0,rfl,rfl,am⟩:=trodAll_one aK
 obtain⟨rfl,rfl⟩:=trodVars_none l
 obtain⟨g,P,k,c2,az,u,jE,F,eU,rfl,s,_,x,hk,y,bs⟩:=aCM (j 0 30 v0 rfl rfl) am (aqC f (o:=0) rfl rfl)
 exact apG Tryz.laidOut fl rfl (by kernel_rfl:Tryz.f3.resultTypes=#[4]) Tryz.underlying4 b rfl rfl rfl (aFN g (J.of W) s (aGn n) P k c2 az x hk u jE F y bs eU)
theorem aGK:Rows.TopStaticSaid:=
 aIC 3 ND rfl rfl rfl rfl rfl rfl rfl ⟨rfl,rfl,rfl,rfl,rfl⟩ rfl rfl rfl rfl rfl fl anC aHl
  (of_decide_eq_true fl) (by unfold Func.isWrapper;first|(rw[if_pos (by decide+kernel)];kernel_rfl)|(rw[if_neg (by decide+kernel)];exact⟨rfl,rfl⟩))
  (λos started H enc _=>aGL os started H enc)
theorem topStatic:Rows.TopStaticCardSaid:=
 Claim7.holds_tied_plain_at .later [] [.data] true (true, "aaf62cf5aae113f9029ed774f777f7db0316ec3050044da3b57b95b588794e35") true aGK (λ_ h=>by cases h) fl (λ_ h=>by cases h) topStatic_row_tie rfl ⟨rfl,rfl⟩ fl rfl
  (λf fn c a=>by
   obtain rfl:f=3:=wF ((show Tryz.prog.funcNamed "pianola/pianolatop.TopStatic"=some 3 by kernel_rfl).symm.trans c)|>.symm;obtain rfl:fn=ND:=(wF (Tryz.func3.symm.trans a)).symm;exact⟨fl,λo t b=>by
    rw[anS]at b;have hm:t∈[30]:=by simpa using Array.mem_of_getElem? b
    have d:([30].all λu=>!Tryz.prog.wantsStandIn u)=true:=fl;exact(show Tryz.prog.wantsStandIn t=false by simpa using List.all_eq_true.1 d t hm)⟩)
  fl
end Go.Proofs.YtlbdbpaelcnfgaaGreatDoor
