/- A part of the proof that the statement holds. Conditions: none. -/
import Derived.Test.YtlbdbpaelcnfgaaGreatDoorTie
import Derived.Test.YtlbdbpaelcnfgaaGreatDoorCards
import Derived.OpenShut
import Derived.LaidMore
import Derived.Lay
import Derived.SevenTiedAt
import Derived.Stop.Joined
import Derived.Test.YtlbdbpaelcnfgaaGreatDoorAZ
import Derived.Test.YtlbdbpaelcnfgaaGreatDoorBA
open Go renaming laidMetH->RJ
open Go.ChangeSpec renaming witness_shaped->aAl
open Go.DataW.agg renaming inj->aAm
open Go.DataW.lit renaming injEq->aAn
open Go.MakeChecks renaming laidMetH_plain->ahx
open Go.OpenClaim renaming holds_of_wide->aAt
open Go.Proofs.Tryz renaming checked->Vg,f6->aFt,func6->aIl,params6->aIm,prog->aH
open List renaming getElem?_eq_getElem->bZ,getElem?_map->dV
open Option.some renaming inj->oB,injEq->Ov
namespace Go.Proofs.YtlbdbpaelcnfgaaGreatDoor
open Go.Sx Go.RowKit Go.ChangeShapes Go.WideShapes Go.ChangeAt
set_option maxRecDepth 100000
def Ix:List (String×DataW Unit):=[("math/bits.deBruijn64tab",Rows.laid_math_bits_deBruijn64tab)]
theorem ayq{W:World}(h:RJ aH Ix W):uw (I.of W):=by
 intro r am;rw[ahx _ _ _ (by kernel_rfl)]at h;obtain⟨be,⟨g,t,cs,k6,p,q,ak,av,ah,aB,_,_⟩,_,_⟩:=h;obtain rfl:=oB ((show Tryz.prog.globalNamed "math/bits.deBruijn64tab"=some 0 by kernel_rfl).symm.trans ak);obtain rfl:=oB ((show(Tryz.prog.globals[0]?).map (·.type)=some 398 by kernel_rfl).symm.trans av);obtain⟨xs,m,_,ex,_,al,n9⟩:=DataW.trod_array Tryz.underlying398 aB;have xc:Tryz.prog.cellsOf 5=1:=by kernel_rfl
 have cV:=n9 r am;rw[xc,Nat.mul_one,bZ (by omega)]at cV;obtain⟨z,aJ,aI,_⟩:=DataW.trod_int Tryz.underlying5 cV;have eb:x7.length=64:=rfl;have ck:(xs.map (·.1))=x7.map λn:Nat=>.lit (.int .u8 n):=(aAm (Prod.mk.inj ex).1).symm;have eE:(xs.map (·.1))[r]?=(x7.map λn:Nat=>(DataW.lit (.int .u8 n):DataW Unit))[r]? :=by rw[ck]
 rw[dV,dV,bZ (by omega:r<xs.length),bZ (by omega:r<x7.length),aI]at eE;have aY:z=(x7.getD r 0:Nat):=by
  simp only[Option.map_some,Ov,aAn,Lit.int.injEq,true_and]at eE;rw[eE,List.getD_eq_getElem?_getD,bZ (by omega:r<x7.length)];rfl
 refine Sr ?_;rw[World.var?_cell ak ah r,<-aY];have:cs.toList[r]?=some (.int .u8 z):=by
  have ai:((cs.toList.drop r).take 1)[0]?=some (.int .u8 z):=by rw[aJ];rfl
  simpa using ai
 simpa using this
theorem aKM(os:Os)(started:os.Started)(H:Type)(enc:TypeId×Value->H):
 ReturnsInHanded {} Vg os 6 .any (λw args=>(Rows.topImageSpec.pre enc aH aFt Rows.topImageRow.domain false w args/\RJ aH Ix w)/\sizedMet enc aH aFt (OpenSpec.ofChange Rows.topImageSpec) false w args)
  (Rows.topImageSpec.post enc aH aFt false true false false):=by
 refine returnsInHanded_of_change_and (C:=Vg) (X:=λw _=>RJ aH Ix w) (λ_ _ _ aP h=>h.of_heap aP) Tryz.own started (by kernel_rfl) aIl
  (aAl (enc:=enc) (C:=Vg) (os:=os) (X:=λw _=>RJ aH Ix w) false (World.laidAll aH os Ix) #[.agg #[.string ⟨#[]⟩,.slice none 0 0,.slice none 0 0,.slice none 0 0,.slice none 0 0,.slice none 0 0,.slice none 0 0,.int .i64 0]] 8 (World.laidAll_os _ _ _)
   (World.shaped_of_ZipB (by kernel_rfl) (by kernel_rfl)) (by kernel_rfl) (by kernel_rfl) (by kernel_rfl)
   (by rw[ahx _ _ _ (by kernel_rfl)];exact laidMet_laidAll _ (by kernel_rfl) (by kernel_rfl))) ?_
 intro W base args a7 gs before aof lT aw an9 aF _
 have vb:∀(o:Nat) t v,Tryz.f6.params[o]?=some t->args[o]?=some v->Value.okWide aH W .any base t v:=aof
 have ht:(DataW.weightsEach aH (Tryz.f6.params.toList++Rows.topImageSpec.plain.varTypes aH) (a7++gs)).all (·<=reachBytes)=true:=an9
 have amc:DataW.Whole enc aH Tryz.f6.params.toList Rows.topImageSpec.vars false W args.toList a7 gs before:=lT
 obtain⟨p,q,alU,K6,rfl,aA7,mn⟩:=lT
 have aO:DataW.TrodAll enc aH W 0 (λ_=>true) true Tryz.f6.params.toList args.toList a7 p:=alU
 rw[aIm]at aO vb ht
 obtain⟨v0,d0,rfl,rfl,ai⟩:=trodAll_one aO
 obtain⟨rfl,rfl⟩:=trodVars_none K6
 obtain⟨g,P,k,c2,aG,NR,pW,F,jc,rfl,alI,aFk,q1,hk,Gc,bm⟩:=aKc (vb 0 30 v0 rfl rfl) ai (W1 ht (o:=0) rfl rfl)
 exact aje Tryz.laidOut (by kernel_rfl) rfl (by kernel_rfl:Tryz.f6.resultTypes=#[4]) Tryz.underlying4 amc rfl rfl rfl (aI6 g (I.of W) alI (ayq aF) aFk P k c2 aG q1 hk NR pW F Gc bm jc)
theorem aKL:Rows.TopImageSaid:=
 aAt 6 aFt rfl rfl rfl rfl rfl rfl rfl ⟨rfl,rfl,rfl,rfl,rfl⟩ rfl rfl rfl rfl rfl (by kernel_rfl) aIl azl
  (of_decide_eq_true (by kernel_rfl)) (by unfold Func.isWrapper;first|(rw[if_pos (by decide+kernel)];kernel_rfl)|(rw[if_neg (by decide+kernel)];exact⟨rfl,rfl⟩))
  (λos started H enc _=>aKM os started H enc)
theorem topImage:Rows.TopImageCardSaid:=
 Claim7.holds_tied_plain_at .later [] [.data] true (true, "aaf62cf5aae113f9029ed774f777f7db0316ec3050044da3b57b95b588794e35") true aKL (λ_ h=>by cases h) (by kernel_rfl) (λ_ h=>by cases h) topImage_row_tie rfl ⟨rfl,rfl⟩ (by kernel_rfl) rfl
  (λf fn az Lj=>by
   obtain rfl:f=6:=oB ((show Tryz.prog.funcNamed "pianola/pianolatop.TopImage"=some 6 by kernel_rfl).symm.trans az)|>.symm;obtain rfl:fn=aFt:=(oB (Tryz.func6.symm.trans Lj)).symm;exact⟨by kernel_rfl,λo t av=>by
    rw[aIm]at av;have hm:t∈[30]:=by simpa using Array.mem_of_getElem? av
    have p0:([30].all λu=>!Tryz.prog.wantsStandIn u)=true:=by kernel_rfl
    exact(show Tryz.prog.wantsStandIn t=false by simpa using List.all_eq_true.1 p0 t hm)⟩)
  (by kernel_rfl)
end Go.Proofs.YtlbdbpaelcnfgaaGreatDoor
