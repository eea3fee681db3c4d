/- A part of the proof that the statement holds. Conditions: none. -/
import Derived.Laws.CopyRow
import Derived.Test.YtlbdbpaelcnfgaaGreatDoorAT
import Derived.Test.YtlbdbpaelcnfgaaGreatDoorAV
import Derived.Test.YtlbdbpaelcnfgaaGreatDoorAW
open ByteArray renaming data_extract->aK5,ext->aAj
open Decidable renaming byContradiction->zM
open Go renaming Addr->ar,Operand->e3,Value->ao,World->bb,execOp->cY,maxLen->c',run_underlying->gj,wpS_region->JB
open Go.Builtin renaming copy_->Um,lenOf->NJ
open Go.Exit renaming thenS->Gy
open Go.Op renaming operands->D2
open Go.Proofs.Tryz renaming func42->aIk,prog->aH
open Go.Sem renaming run_bind->aDF
open Go.Value renaming int->h',slice->oE
open Int renaming emod_lt_of_pos->NY,emod_nonneg->NZ,tmod_eq_emod_of_nonneg->ag2,toNat_natCast->bq,toNat_of_nonneg->q'
open List renaming append_assoc->mb,append_nil->zR,cons_append->wS,drop_eq_getElem_cons->o6,drop_eq_nil_of_le->tg,drop_take->aha,eq_nil_of_length_eq_zero->ra,flatMap_cons->JX,flatMap_nil->aGL,flatten_append->zS,getElem?_drop->GF,getElem?_eq_getElem->bZ,getElem?_map->dV,getElem?_take->GH,getElem_append_left->ahk,getElem_mem->cS,getElem_of_mem->rb,getElem_set_self->GI,length->e7,length_append->fb,length_cons->gI,length_drop->k1,length_map->ih,length_nil->N',length_set->k2,length_take->sa,map_append->fm,map_drop->GK,map_replicate->un,map_take->GM,mem_append->ev,mem_cons->dC,mem_cons_of_mem->iv,mem_cons_self->iU,mem_flatMap->qv,mem_map->dn,mem_replicate->Oe,mem_singleton->fx,mem_singleton_self->Of,nil_append->J3,nodup_append->nS,nodup_cons->k3,not_mem_nil->th,replicate->bG,take_append_drop->BI,take_left->BJ,take_length->pM,take_of_length_le->k4
open Nat renaming add_zero->wX,le_refl->dd,mul_one->ew,zero_add->dJ,zero_le->cO
open Ne renaming symm->d9
open Option renaming map_some->vO
open Prod renaming snd->ek
namespace Go.Sx
open Go.Proofs
set_option maxRecDepth 100000
set_option maxHeartbeats 0
set_option linter.all false
variable {base dv op:Int}{dh:List (Nat×Nat)}{l:List Nat}{xs:List ao}{O a b bs c cK cj cm cv d' gK jb n o pos size:Nat}{J:Obj}{A:Option ar}{w:ao}{g:ar}
def aEw(p:km):List Nat:=aDx p.mem.toNat++(aDx p.bF.toNat++(aDx p.ins.toNat++(aDx p.outs.toNat++(aDx p.parts.length++(p.parts.flatMap aDN++(aDx p.lines.length++(p.lines.flatMap aDR++(aDx p.ops.length++(p.ops.flatMap aDL++[])))))))))
theorem aFi(p:km):aEb p=[80,78,76,49]++aEw p:=by simp only[aEb,aEw,mb,zR]
structure aFs(p q:km):Prop where
 mem:q.mem=p.mem
 bF:q.bF=p.bF
 ins:q.ins=p.ins
 outs:q.outs=p.outs
 parts:q.parts.map (λx=>(x.tag,x.be))=p.parts.map λx=>(x.tag,x.be)
 lines:q.lines.map (λx=>(x.base,x.size,x.st))=p.lines.map λx=>(x.base,x.size,x.st)
 ops:q.ops=p.ops
structure aEv(p:km):Prop where
 mem:0<=p.mem/\p.mem<=1000000
 bF:0<=p.bF/\p.bF<=1000000
 ins:0<=p.ins/\p.ins<=1000000
 outs:0<=p.outs/\p.outs<=1000000
 aFf:p.parts.length<=32
 part:∀x∈p.parts,(0<=x.tag/\x.tag<=255)/\x.be.length<=16/\∀z∈x.be,aDU z
 nl:p.lines.length<=96
 line:∀x∈p.lines,(0<=x.base/\x.base<=1000000)/\(0<=x.size/\x.size<=1000000)/\x.st.length<=1024/\∀z∈x.st,aDU z
 no:p.ops.length<=131072
 op:∀x∈p.ops,x.k<=255/\(0<=x.a/\x.a<=1000000)/\(0<=x.b/\x.b<=1000000)
structure Rd(l:List Nat)(gK:Nat)(ai h:I)(pos:Nat):Prop where
 box:h gK=some (aDT l pos)
 le:(ai.del gK).le (h.del gK)
theorem Rd.put{l:List Nat}{gK:Nat}{ai h:I}{pos:Nat}(r:Rd l gK ai h pos)(q:Nat):Rd l gK ai (h.put gK (aDT l q)) q:=by
 refine⟨I.bP _ _ _,λo J ae=>?_⟩;have:=r.le o J ae;by_cases e:o=gK;rw[e,I.Ev]at this;cases this;rw[I.lP _ e]at this⊢;rw[I.cf _ _ e];exact this
theorem Rd.rM{ai h:I}(_:Rd l gK ai h pos)(q:Nat):(h.del gK).le ((h.put gK (aDT l q)).del gK):=λo J ae=>by
 by_cases e:o=gK;rw[e,I.Ev]at ae;cases ae;rw[I.lP _ e]at ae⊢;rw[I.cf _ _ e];exact ae
theorem Rd.up{ai h U:I}(r:Rd l gK ai h pos)(le:h.le U):Rd l gK ai U pos/\(h.del gK).le (U.del gK):=by
 have k:(h.del gK).le (U.del gK):=λo J ae=>by
  by_cases e:o=gK;rw[e,I.Ev]at ae;cases ae;rw[I.lP _ e]at ae⊢;exact le _ _ ae
 exact⟨⟨le _ _ r.box,I.le_trans r.le k⟩,k⟩
theorem Rd.list{ai h U:I}{q:Nat}(r:Rd l gK ai h pos)(x:aGQ l gK h q U):Rd l gK ai U q/\(h.del gK).le (U.del gK):=by
 have a:=(r.put q).up x;exact⟨a.1,I.le_trans (r.rM q) a.2⟩
noncomputable abbrev aEy(ai h:I):I:=h.on λo=>ai o=none
theorem aEU{ai h U:I}(z0:ai gK≠none)(k:(h.del gK).le (U.del gK)):(aEy ai h).le (aEy ai U):=λo J ae=>by
 unfold aEy at ae⊢;have q:=I.vp (by rw[ae];nofun);rw[I.mX q]at ae;have e:o≠gK:=λe=>z0 (by rw[<-e];exact q);have:=k o J (by rw[I.lP _ e];exact ae);rw[I.lP _ e]at this;rw[I.mX (S:=λo=>ai o=none) q];exact this
theorem aFn{ai h an:I}(rd:Rd l gK ai h pos)(r:bz an bs size A n c xs)(f:∀g,A=some g->h g.block=none):bz (aEy ai an) bs size A n c xs:=
 bz.on (S:=λo=>ai o=none) r λg ak=>by
  have q:=f g ak;have e:g.block≠gK:=λe=>by rw[e,rd.box]at q;cases q
  cases aP:ai g.block with
  |none=>rfl
  |some J=>
   have:=rd.le g.block J (by rw[I.lP _ e];exact aP);rw[I.lP _ e,q]at this;cases this
noncomputable def aI7:IR:=aFJ.o.1.r.r.l.r.l.l
noncomputable def aI8:IR:=aFJ.o.1.r.r.r.l.r.l.l
noncomputable def aI9:IR:=aFJ.o.1.r.r.r.r.l.r.l.l
abbrev aD1:aA:=.v (.slice none 0 0)
def aEf:LE:=.own [.v (R 0),.v (R 0),.v (R 0),.v (R 0),aD1,aD1,aD1] 42
theorem drop_cons{k x:Nat}{r:List Nat}(h:l.drop k=x::r):∃(hk:k<l.length),l[k]=x/\l.drop (k+1)=r:=by
 have hk:k<l.length:=by
  refine zM λq=>?_;rw[tg (by omega)]at h;cases h
 rw[o6 hk]at h;injection h with h1 ab;exact⟨hk,h1,ab⟩
section
variable {l:List Nat}{gK:Nat}{ai h1:I}{p:km}
theorem aKj(Q:dL)(e:bY)(al:∀x∈l,x<256)(aj:l.length<=900000000)(tn:aEv p)(z0:ai gK≠none)(k n:Nat)(aC:p.parts.length=n)(post:List Nat)(rd:Rd l gK ai h1 k)(aB:l.drop k=p.parts.flatMap aDN++post)(a b c d:ao)(he:[0,2,3,15,16].map e=[.v (b0 gK),.p 0 0,.p 1 0,.v (R n),.v (R (0:Nat))])
 (cD:∀e U A bu(a7:List nc),[0,2,3].map e=[.v (b0 gK),.p 0 0,.p 1 0]->Rd l gK ai U (k+(p.parts.flatMap aDN).length)->a7.length=n->(a7.map λx=>(x.tag,x.be))=p.parts.map (λx=>(x.tag,x.be))->(∀x∈a7,x.ok (aEy ai U))->
  Q (.exit 0) e [aEf,.own [.v a,.v b,.v c,.v d,.v (.slice A n bu),aD1,aD1] 42,.row 138 2 A n bu (a7.map nc.cells).flatten] U):
 kH (λQ e L h=>c7 aH 70 aI7 Q e L h) Q e [aEf,.own [.v a,.v b,.v c,.v d,aD1,aD1,aD1] 42,.row 138 2 none 0 0 []] h1:=by
 have aHg:=tn.aFf
 refine .mk (Nat×Nat×Option ar×Nat×List nc) [0,2,3,15,16] (λ(o,_)=>[.v (b0 gK),.p 0 0,.p 1 0,.v (R n),.v (R o)]) (λ(o,_,A,bu,a7)=>[aEf,.own [.v a,.v b,.v c,.v d,.v (.slice A o bu),aD1,aD1] 42,.row 138 2 A o bu (a7.map nc.cells).flatten]) (λ(o,pos,_,_,a7) U=>Rd l gK ai U pos/\o<=n/\a7.length=o/\(a7.map λx=>(x.tag,x.be))=(p.parts.take o).map (λx=>(x.tag,x.be))/\(∀x∈a7,x.ok (aEy ai U))/\l.drop pos=(p.parts.drop o).flatMap aDN++post/\pos+((p.parts.drop o).flatMap aDN).length=k+(p.parts.flatMap aDN).length) (λ(o,_)=>n-o) (0,k,none,0,[]) (λ_=>rfl) ⟨rd,cO _,rfl,rfl,nofun,aB,rfl⟩ he rfl ?_
 rintro⟨o,pos,A,bu,a7⟩ e ab ⟨aD2,ae,iC,aES,dk,aDW,xy⟩
 refine aK λhc eT hi=>?_
 refine eT _ _ _ ?_
 refine aK λkb fE i'=>?_
 refine aW (λq=>?_) (λq=>?_)
 have E6:o<p.parts.length:=by omega
 obtain⟨⟨t0,t1⟩,pl,aEr⟩:=tn.part _ (cS E6)
 have hS:=kh E6
 rw[o6 E6,JX,mb]at aDW
 rw[o6 E6,JX,fb]at xy
 generalize p.parts[o]=x at t0 t1 pl aEr hS aDW xy
 rw[aDN,wS]at aDW
 obtain⟨hk,ad,aEp⟩:=drop_cons aDW
 have sA:=aGw l al (by omega) gK pos ab aD2.box hk
 rw[ad,show aDE x.tag.toNat= .int .u8 x.tag by show h' .u8 ((x.tag.toNat:Nat):Int)=_;rw[q' t0]]at sA
 have aEd:=aD2.put (pos+1)
 have eo:=aD2.rM (pos+1)
 have lX:=aHn l al aj gK (pos+1) _ aEd.box x.be aEr 16 (by omega) (by omega) _ aEp
 have aGf:=num_add l (pos+1) aEp
 rw[aDN,gI]at xy
 refine fE _ _ _ ?_
 refine aK λkc gg j1=>?_
 refine fG λko g' ja=>?_
 refine .mk _ sA ?_
 rintro _ _ ⟨rfl,rfl⟩
 refine .mk _ lX ?_
 rintro _ an ⟨wG,bA,eI,rfl,gi,f3⟩
 obtain⟨aEj,oa⟩:=aEd.list wG
 refine .cR 2 _ [.int .u8 x.tag,.slice bA x.be.length eI] rfl rfl (by intro u hu;simp only[dC,th,or_false]at hu;rcases hu with rfl|rfl<;>rfl) (by unfold c';omega) (by omega) λdE c2 _=>?_
 refine ja _ _ _ _ nofun (gg _ _ _ ?_)
 refine .aLS ?_
 refine⟨(o+1,pos+1+(aD' x.be).length,dE,c2,a7++[⟨x.tag,bA,x.be.length,eI,x.be⟩]),rfl,?_,⟨aEj,by omega,by rw[fb,iC];rfl,?_,λy aQ=>?_,aGf,by omega⟩,by show n- (o+1)<n-o;omega⟩
 show _=[aEf,LE.own [.v a,.v b,.v c,.v d,.v (.slice dE (o+1) c2),aD1,aD1] 42,LE.row 138 2 dE (o+1) c2 ((a7++[(⟨x.tag,bA,x.be.length,eI,x.be⟩:nc)]).map nc.cells).flatten]
 rw[fm,zS];rfl
 rw[hS,fm,fm,aES];rfl
 rcases ev.1 aQ with aQ|aQ
 exact((dk y aQ).mono (aEU z0 eo)).mono (aEU z0 oa)
 rw[fx.1 aQ]
 exact(aFn aEd gi f3).one
 refine i' _ _ _ _ nofun ?_
 obtain rfl:o=n:=by omega
 rw[tg (by omega),aGL,N',wX]at xy
 rw[k4 (by omega)]at aES
 exact cD _ ab A bu a7 rfl (by rw[<-xy];exact aD2) iC aES dk
theorem aJ3(Q:dL)(e:bY)(al:∀x∈l,x<256)(aj:l.length<=900000000)(tn:aEv p)(z0:ai gK≠none)(k n:Nat)(aC:p.lines.length=n)(post:List Nat)(rd:Rd l gK ai h1 k)(aB:l.drop k=p.lines.flatMap aDR++post)(a b c d f:ao)(he:[0,2,3,32,33].map e=[.v (b0 gK),.p 0 0,.p 1 0,.v (R n),.v (R (0:Nat))])
 (cD:∀e U A bu(a7:List h9),[0,2,3].map e=[.v (b0 gK),.p 0 0,.p 1 0]->Rd l gK ai U (k+(p.lines.flatMap aDR).length)->(h1.del gK).le (U.del gK)->a7.length=n->(a7.map λx=>(x.base,x.size,x.st))=p.lines.map (λx=>(x.base,x.size,x.st))->(∀x∈a7,x.ok (aEy ai U))->
  Q (.exit 2) e [aEf,.own [.v a,.v b,.v c,.v d,.v f,.v (.slice A n bu),aD1] 42,.gone,.row 144 3 A n bu (a7.map h9.cells).flatten] U):
 kH (λQ e L h=>c7 aH 70 aI8 Q e L h) Q e [aEf,.own [.v a,.v b,.v c,.v d,.v f,aD1,aD1] 42,.gone,.row 144 3 none 0 0 []] h1:=by
 have aHg:=tn.nl
 refine .mk (Nat×Nat×Option ar×Nat×List h9) [0,2,3,32,33] (λ(o,_)=>[.v (b0 gK),.p 0 0,.p 1 0,.v (R n),.v (R o)]) (λ(o,_,A,bu,a7)=>[aEf,.own [.v a,.v b,.v c,.v d,.v f,.v (.slice A o bu),aD1] 42,.gone,.row 144 3 A o bu (a7.map h9.cells).flatten]) (λ(o,pos,_,_,a7) U=>Rd l gK ai U pos/\o<=n/\a7.length=o/\(a7.map λx=>(x.base,x.size,x.st))=(p.lines.take o).map (λx=>(x.base,x.size,x.st))/\(∀x∈a7,x.ok (aEy ai U))/\l.drop pos=(p.lines.drop o).flatMap aDR++post/\pos+((p.lines.drop o).flatMap aDR).length=k+(p.lines.flatMap aDR).length/\(h1.del gK).le (U.del gK)) (λ(o,_)=>n-o) (0,k,none,0,[]) (λ_=>rfl) ⟨rd,cO _,rfl,rfl,nofun,aB,rfl,I.le_refl _⟩ he rfl ?_
 rintro⟨o,pos,A,bu,a7⟩ e ab ⟨aD2,ae,iC,aES,dk,aDW,xy,cn⟩
 refine aK λhc eT hi=>?_
 refine eT _ _ _ ?_
 refine aK λkb fE i'=>?_
 refine aW (λq=>?_) (λq=>?_)
 have E6:o<p.lines.length:=by omega
 obtain⟨⟨fq,s1⟩,⟨t0,t1⟩,pl,aEr⟩:=tn.line _ (cS E6)
 have hS:=kh E6
 rw[o6 E6,JX,mb]at aDW
 rw[o6 E6,JX,fb]at xy
 generalize p.lines[o]=x at fq s1 t0 t1 pl aEr hS aDW xy
 rw[aDR,mb,mb]at aDW
 have c1:=aED l al aj gK pos ab aD2.box x.base.toNat _ (by omega) aDW
 rw[q' fq]at c1
 have aEQ:=num_add l pos aDW
 obtain⟨aM,anY⟩:∃q,q=pos+(aDx x.base.toNat).length:=⟨_,rfl⟩
 rw[<-anY]at c1 aEQ
 have aEd:=aD2.put aM
 have eo:=aD2.rM aM
 have c2:=aED l al aj gK aM _ aEd.box x.size.toNat _ (by omega) aEQ
 rw[q' t0]at c2
 have aEp:=num_add l aM aEQ
 obtain⟨aD,anZ⟩:∃q,q=aM+(aDx x.size.toNat).length:=⟨_,rfl⟩
 rw[<-anZ]at c2 aEp
 have aEj:=aEd.put aD
 have oa:=aEd.rM aD
 have lX:=aHn l al aj gK aD _ aEj.box x.st aEr 1024 (by omega) (by omega) _ aEp
 have aGf:=num_add l aD aEp
 rw[aDR,fb,fb]at xy
 refine fE _ _ _ ?_
 refine aK λkc gg j1=>?_
 refine fG λko g' ja=>?_
 refine aK λlq gX kR=>?_
 refine .done (.mk _ c1 ?_)
 rintro _ _ ⟨rfl,rfl⟩
 refine .done (.mk _ c2 ?_)
 rintro _ _ ⟨rfl,rfl⟩
 refine gX _ _ _ ?_
 refine .mk _ lX ?_
 rintro _ an ⟨wG,bA,eI,rfl,gi,f3⟩
 obtain⟨aFl,mu⟩:=aEj.list wG
 have Rx:=I.le_trans eo (I.le_trans oa mu)
 refine .cR 3 _ [R x.base,R x.size,.slice bA x.st.length eI] rfl rfl (by intro u hu;simp only[dC,th,or_false]at hu;rcases hu with rfl|rfl|rfl<;>rfl) (by unfold c';omega) (by omega) λdE c2 _=>?_
 refine ja _ _ _ _ nofun (gg _ _ _ ?_)
 refine .aLS ?_
 refine⟨(o+1,aD+(aD' x.st).length,dE,c2,a7++[⟨x.base,x.size,bA,x.st.length,eI,x.st⟩]),rfl,?_,⟨aFl,by omega,by rw[fb,iC];rfl,?_,λy aQ=>?_,aGf,by omega,I.le_trans cn Rx⟩,by show n- (o+1)<n-o;omega⟩
 show _=[aEf,LE.own [.v a,.v b,.v c,.v d,.v f,.v (.slice dE (o+1) c2),aD1] 42,.gone,LE.row 144 3 dE (o+1) c2 ((a7++[(⟨x.base,x.size,bA,x.st.length,eI,x.st⟩:h9)]).map h9.cells).flatten]
 rw[fm,zS];rfl
 rw[hS,fm,fm,aES];rfl
 rcases ev.1 aQ with aQ|aQ
 exact(dk y aQ).mono (aEU z0 Rx)
 rw[fx.1 aQ]
 exact(aFn aEj gi f3).one
 refine i' _ _ _ _ nofun ?_
 obtain rfl:o=n:=by omega
 rw[tg (by omega),aGL,N',wX]at xy
 rw[k4 (by omega)]at aES
 exact cD _ ab A bu a7 rfl (by rw[<-xy];exact aD2) cn iC aES dk
theorem aKd(Q:dL)(e:bY)(al:∀x∈l,x<256)(aj:l.length<=900000000)(tn:aEv p)(k n:Nat)(aC:p.ops.length=n)(post:List Nat)(rd:Rd l gK ai h1 k)(aB:l.drop k=p.ops.flatMap aDL++post)(a b c d f g:ao)(he:[0,2,3,51,52].map e=[.v (b0 gK),.p 0 0,.p 1 0,.v (R n),.v (R (0:Nat))])
 (cD:∀e U A bu,[0,2,3].map e=[.v (b0 gK),.p 0 0,.p 1 0]->Rd l gK ai U (k+(p.ops.flatMap aDL).length)->(h1.del gK).le (U.del gK)->
  Q (.exit 4) e [aEf,.own [.v a,.v b,.v c,.v d,.v f,.v g,.v (.slice A n bu)] 42,.gone,.gone,.row 66 3 A n bu (p.ops.map b6.cells).flatten] U):
 kH (λQ e L h=>c7 aH 70 aI9 Q e L h) Q e [aEf,.own [.v a,.v b,.v c,.v d,.v f,.v g,aD1] 42,.gone,.gone,.row 66 3 none 0 0 []] h1:=by
 have aHg:=tn.no
 refine .mk (Nat×Nat×Option ar×Nat) [0,2,3,51,52] (λ(o,_)=>[.v (b0 gK),.p 0 0,.p 1 0,.v (R n),.v (R o)]) (λ(o,_,A,bu)=>[aEf,.own [.v a,.v b,.v c,.v d,.v f,.v g,.v (.slice A o bu)] 42,.gone,.gone,.row 66 3 A o bu ((p.ops.take o).map b6.cells).flatten]) (λ(o,pos,_,_) U=>Rd l gK ai U pos/\o<=n/\l.drop pos=(p.ops.drop o).flatMap aDL++post/\pos+((p.ops.drop o).flatMap aDL).length=k+(p.ops.flatMap aDL).length/\(h1.del gK).le (U.del gK)) (λ(o,_)=>n-o) (0,k,none,0) (λ_=>rfl) ⟨rd,cO _,aB,rfl,I.le_refl _⟩ he rfl ?_
 rintro⟨o,pos,A,bu⟩ e ab ⟨aD2,ae,aDW,xy,cn⟩
 refine aK λhc eT hi=>?_
 refine eT _ _ _ ?_
 refine aK λkb fE i'=>?_
 refine aW (λq=>?_) (λq=>?_)
 have E6:o<p.ops.length:=by omega
 obtain⟨ve,⟨fq,s1⟩,⟨t0,t1⟩⟩:=tn.op _ (cS E6)
 have hS:=kh E6
 rw[o6 E6,JX,mb]at aDW
 rw[o6 E6,JX,fb]at xy
 generalize p.ops[o]=x at ve fq s1 t0 t1 hS aDW xy
 rw[aDL,wS,mb]at aDW
 obtain⟨hk,ad,aHb⟩:=drop_cons aDW
 have sA:=aGw l al (by omega) gK pos ab aD2.box hk
 rw[ad]at sA
 have aEd:=aD2.put (pos+1)
 have eo:=aD2.rM (pos+1)
 have c1:=aED l al aj gK (pos+1) _ aEd.box x.a.toNat _ (by omega) aHb
 rw[q' fq]at c1
 have aEQ:=num_add l (pos+1) aHb
 obtain⟨aM,anY⟩:∃q,q=pos+1+(aDx x.a.toNat).length:=⟨_,rfl⟩
 rw[<-anY]at c1 aEQ
 have aEj:=aEd.put aM
 have oa:=aEd.rM aM
 have c2:=aED l al aj gK aM _ aEj.box x.b.toNat _ (by omega) aEQ
 rw[q' t0]at c2
 have aEp:=num_add l aM aEQ
 obtain⟨aD,anZ⟩:∃q,q=aM+(aDx x.b.toNat).length:=⟨_,rfl⟩
 rw[<-anZ]at c2 aEp
 have aFl:=aEj.put aD
 have mu:=aEj.rM aD
 have Rx:=I.le_trans eo (I.le_trans oa mu)
 rw[aDL,gI,fb]at xy
 refine fE _ _ _ ?_
 refine aK λkc gg j1=>?_
 refine fG λko g' ja=>?_
 refine .mk _ sA ?_
 rintro _ _ ⟨rfl,rfl⟩
 refine .mk _ c1 ?_
 rintro _ _ ⟨rfl,rfl⟩
 refine .mk _ c2 ?_
 rintro _ _ ⟨rfl,rfl⟩
 refine .cR 4 _ (b6.cells x) rfl rfl (by intro u hu;simp only[b6.cells,dC,th,or_false]at hu;rcases hu with rfl|rfl|rfl<;>rfl) (by unfold c';omega) (by omega) λdE c2 _=>?_
 refine ja _ _ _ _ nofun (gg _ _ _ ?_)
 refine .aLS ?_
 refine⟨(o+1,aD,dE,c2),rfl,?_,⟨aFl,by omega,aEp,by omega,I.le_trans cn Rx⟩,by show n- (o+1)<n-o;omega⟩
 show _=[aEf,LE.own [.v a,.v b,.v c,.v d,.v f,.v g,.v (.slice dE (o+1) c2)] 42,.gone,.gone,LE.row 66 3 dE (o+1) c2 ((p.ops.take (o+1)).map b6.cells).flatten]
 rw[hS,fm,zS];rfl
 refine i' _ _ _ _ nofun ?_
 obtain rfl:o=n:=by omega
 rw[tg (by omega),aGL,N',wX]at xy
 show Q (.exit 4) _ [aEf,.own [.v a,.v b,.v c,.v d,.v f,.v g,.v (.slice A o bu)] 42,.gone,.gone,.row 66 3 A o bu ((p.ops.take o).map b6.cells).flatten] ab
 rw[k4 (by omega)]
 exact cD _ ab A bu rfl (by rw[<-xy];exact aD2) cn
end
theorem aKn(l:List Nat)(al:∀x∈l,x<256)(aj:l.length<=900000000)(gK k:Nat)(h:I)(p:km)(tn:aEv p)(af:h gK=some (aDT l k))(aB:l.drop k=aEw p):Fn aH 43 #[b0 gK] h λv U=>∃q:km,v= .agg q.cells.toArray/\aFs p q/\q.ok (aEy h U)/\Rd l gK h U l.length:=by
 have bL:=tn.mem;have cy:=tn.bF;have gE:=tn.ins;have iW:=tn.outs;have jy:=tn.aFf;have pO:=tn.nl;have uG:=tn.no;have eb:k+(aEw p).length=l.length:=by
  have:=ho e7 aB;rw[k1]at this;have ab:(aEw p).length≠0:=λe=>by
   have:=List.length_eq_zero_iff.1 e;unfold aEw at this;rw[List.append_eq_nil_iff]at this;exact aHC this.1
  omega
 unfold aEw at aB eb;simp only[fb,N']at eb;have z0:h gK≠none:=by rw[af];nofun
 have adS:Rd l gK h h k:=⟨af,I.le_refl _⟩;have c1:=aED l al aj gK k h af p.mem.toNat _ (by omega) aB;rw[q' bL.1]at c1;have HN:=num_add l k aB;obtain⟨bJ,HY⟩:∃q,q=k+(aDx p.mem.toNat).length:=⟨_,rfl⟩;rw[<-HY]at c1 HN;have aHF:=adS.put bJ;have c2:=aED l al aj gK bJ _ aHF.box p.bF.toNat _ (by omega) HN;rw[q' cy.1]at c2;have uY:=num_add l bJ HN;obtain⟨bB,i9⟩:∃q,q=bJ+(aDx p.bF.toNat).length:=⟨_,rfl⟩;rw[<-i9]at c2 uY;have aD2:=aHF.put bB;have eI:=aED l al aj gK bB _ aD2.box p.ins.toNat _ (by omega) uY;rw[q' gE.1]at eI;have aF':=num_add l bB uY;obtain⟨eo,QH⟩:∃q,q=bB+(aDx p.ins.toNat).length:=⟨_,rfl⟩;rw[<-QH]at eI aF';have aEd:=aD2.put eo;have tq:=aED l al aj gK eo _ aEd.box p.outs.toNat _ (by omega) aF';rw[q' iW.1]at tq;have aGa:=num_add l eo aF';obtain⟨oa,aBa⟩:∃q,q=eo+(aDx p.outs.toNat).length:=⟨_,rfl⟩;rw[<-aBa]at tq aGa;have aEj:=aEd.put oa;have xc:=aFN l al aj gK oa _ aEj.box p.parts.length _ 32 (by omega) (by omega) aGa;have aGb:=num_add l oa aGa;obtain⟨mu,aIY⟩:∃q,q=oa+(aDx p.parts.length).length:=⟨_,rfl⟩;rw[<-aIY]at xc aGb;have aFl:=aEj.put mu;have aGc:=num_add l mu aGb;obtain⟨Rx,aHd⟩:∃q,q=mu+(p.parts.flatMap aDN).length:=⟨_,rfl⟩;rw[<-aHd]at aGc;have aGd:=num_add l Rx aGc;obtain⟨Ry,aHe⟩:∃q,q=Rx+(aDx p.lines.length).length:=⟨_,rfl⟩;rw[<-aHe]at aGd;have aGe:=num_add l Ry aGd;obtain⟨aGh,Zs⟩:∃q,q=Ry+(p.lines.flatMap aDR).length:=⟨_,rfl⟩;rw[<-Zs]at aGe;have aHa:=num_add l aGh aGe;obtain⟨aFK,aHf⟩:∃q,q=aGh+(aDx p.ops.length).length:=⟨_,rfl⟩;rw[<-aHf]at aHa;refine b5 aFJ rfl ?_;refine aK λgS dy gY=>?_;refine dy _ _ _ ?_;refine aK λgO dx eG=>?_;refine .done (.mk _ c1 ?_);rintro _ _ ⟨rfl,rfl⟩;refine .done (.mk _ c2 ?_);rintro _ _ ⟨rfl,rfl⟩;refine .done (.mk _ eI ?_);rintro _ _ ⟨rfl,rfl⟩;refine .done (.mk _ tq ?_);rintro _ _ ⟨rfl,rfl⟩;refine dx _ _ _ ?_;refine aK λgu df fK=>?_;refine aK λgk ed eH=>?_;refine .done (.mk _ xc ?_);rintro _ _ ⟨rfl,rfl⟩;refine ed _ _ _ ?_;refine fG λhA dY hL=>?_;refine .lj (.abs 138 2 none 0 0 [] ⟨rfl,.inl ⟨rfl,rfl,rfl⟩⟩ (.done ?_));refine aKj hA _ al aj tn z0 mu _ rfl _ aFl aGb _ _ _ _ rfl λe a6 iu cP a7 he aFS iC uZ amR=>?_;rw[<-aHd]at aFS;refine dY _ _ _ (df _ _ _ ?_);rw[<-fr [0,2,3] e,he];have Em:=aFN l al aj gK Rx a6 aFS.box p.lines.length _ 96 (by omega) (by omega) aGc;rw[<-aHe]at Em;refine aK λhc eT hi=>?_;refine aK λkb fE i'=>?_;refine .done (.mk _ Em ?_);rintro _ _ ⟨rfl,rfl⟩;have aHG:=aFS.put Ry;have cv:=aFS.rM Ry;refine fE _ _ _ ?_;refine fG λkc gg j1=>?_;refine .lj (.bV 2 138 2 iu _ cP _ rfl λaw aJ0 fv f1=>.abs 144 3 none 0 0 [] ⟨rfl,.inl ⟨rfl,rfl,rfl⟩⟩ (.done ?_));obtain⟨aKt,aJU⟩:=aHG.up aJ0;have aKq:=aFn aHG fv f1;refine aJ3 kc _ al aj tn z0 Ry _ rfl _ aKt aGd _ _ _ _ _ rfl λe EX dE a2 ls gD aFT d' y1 aBf rE=>?_;rw[<-Zs]at aFT;refine gg _ _ _ (eT _ _ _ ?_);rw[<-fr [0,2,3] e,gD];have O1:=aFN l al aj gK aGh EX aFT.box p.ops.length _ 131072 (by omega) (by omega) aGe;rw[<-aHf]at O1;refine aK λko g' ja=>?_;refine aK λlq gX kR=>?_;refine .done (.mk _ O1 ?_);rintro _ _ ⟨rfl,rfl⟩;have aHH:=aFT.put aFK;have Iv:=aFT.rM aFK;refine gX _ _ _ ?_;refine fG λsd lC sK=>?_;refine .lj (.bV 3 144 3 dE _ a2 _ rfl λaz aJ1 dU f2=>.abs 66 3 none 0 0 [] ⟨rfl,.inl ⟨rfl,rfl,rfl⟩⟩ (.done ?_));obtain⟨aKu,aHu⟩:=aHH.up aJ1;have aKr:=aFn aHH dU f2;refine aKd sd _ al aj tn aFK _ rfl _ aKu aHa _ _ _ _ _ _ rfl λe ak lm a3 sq aHI aJV=>?_;refine lC _ _ _ (g' _ _ _ ?_);rw[<-fr [0,2,3] e,sq];refine .bV 4 66 3 lm _ a3 _ rfl λaP Df gi f3=>.done ?_;obtain⟨aHJ,aJW⟩:=aHI.up Df;have aKs:=aFn aHI gi f3;have aGj:=I.le_trans aJV aJW;have aHr:=I.le_trans d' (I.le_trans Iv (I.le_trans aHu aGj));have aJT:=I.le_trans cv (I.le_trans aJU aHr);refine⟨⟨p.mem,p.bF,p.ins,p.outs,iu,cP,a7,dE,a2,ls,lm,a3,p.ops⟩,?_,⟨rfl,rfl,rfl,rfl,uZ,aBf,rfl⟩,⟨?_,λx ad=>(amR x ad).mono (aEU z0 aJT),?_,λx ad=>(rE x ad).mono (aEU z0 (I.le_trans Iv (I.le_trans aHu aGj))),?_⟩,?_⟩;show _=Value.agg #[R p.mem,R p.bF,R p.ins,R p.outs,.slice iu a7.length cP,.slice dE ls.length a2,.slice lm p.ops.length a3];rw[iC,y1];rfl;show bg _ 2 iu a7.length _;rw[iC];exact(aKq.dG (λr am=>by obtain⟨x,_,rfl⟩:=dn.1 am;rfl) (by decide)).mono (aEU z0 aHr);show bg _ 3 dE ls.length _;rw[y1];exact(aKr.dG (λr am=>by obtain⟨x,_,rfl⟩:=dn.1 am;rfl) (by decide)).mono (aEU z0 aGj);exact aKs.dG (λr am=>by obtain⟨x,_,rfl⟩:=dn.1 am;rfl) (by decide);have e:aFK+(p.ops.flatMap aDL).length=l.length:=by omega
 rw[e]at aHJ;exact aHJ
theorem aI5(x y:ao):Idle aH 42 #[x,y]:=by
 refine⟨⟨_,aIk,rfl,by decide⟩,λw=>?_⟩;refine callsD_of_wpS aIk rfl λEu cs hu=>?_;have am:recoverD (Eu::cs)=none:=by simp[recoverD,hu]
 apply wpS_seq;apply JB;simp[wpOpsS,go_sem,am,Tryz.ntmps42,Gy];apply wpS_seq;apply JB;simp[wpOpsS,go_sem,Gy];refine wpS_cond (t:=false) (by simp[Act.eval,Array.replicate]) ?_;refine wpS_of_wp (wp_skip ?_);exact⟨rfl,_,by rw[<-hu],.tuple #[],by simp[results,Tryz.results42],⟨_,rfl⟩,rfl,.refl w⟩
theorem aIB{a c:e3}{s:ByteArray}{m:Nat}{w:bb}(hm:m<=s.size):vC aH (.slice 9 a none (some c) none) [.string s,R m] w (.string (s.extract 0 m)) w:=by
 intro kF q aq ah;simp[D2]at ah;obtain⟨h1,ab⟩:=ah;have hu:=gj (w:=w) Tryz.underlying9;simp[cY,aq,h1,ab,Instr.sliceAt,Instr.slice,Instr.sliceBounds,Instr.sliceBound,asIntOf,R,hu,hm]
theorem aID{a c:e3}{s t:ByteArray}{w:bb}(h:s=t):vC aH (.binOp .neq 9 a c 9) [.string s,.string t] w (.bool false) w:=by
 intro kF q aq ah;simp[D2]at ah;obtain⟨h1,ab⟩:=ah;subst h;simp[cY,aq,h1,ab,binOp,Op.stringOp,eqGuard]
theorem km.yh.same{p q:km}{T:Int}(s:aFs p q)(f:p.yh T):q.yh T:=by
 have wD:q.parts.length=p.parts.length:=by have:=ho e7 s.parts;simpa using this
 have hY:q.lines.length=p.lines.length:=by have:=ho e7 s.lines;simpa using this
 obtain⟨l,al⟩:=f.last;refine⟨by rw[s.mem];exact f.m0,by rw[s.mem];exact f.m1,by rw[s.bF];exact f.gT,by rw[s.bF];exact f.c1,by rw[s.ins];exact f.i0,by rw[s.ins];exact f.i1,by rw[s.outs];exact f.mV,by rw[s.outs];exact f.nK,by rw[wD];exact f.SM,by rw[hY];exact f.li,by rw[s.ops];exact f.op,λx ad=>?_,λx ad=>?_,λi ag=>?_,⟨l,by rw[s.ops];exact al⟩,by rw[s.ops];exact f.walk,f.XL⟩;have h1:(x.tag,x.be)∈p.parts.map λx=>(x.tag,x.be):=by rw[<-s.parts];exact dn.2 ⟨x,ad,rfl⟩
 obtain⟨y,aQ,e⟩:=dn.1 h1;injection e with aJ aI;rw[<-aJ,<-aI];exact f.F8 y aQ;have h1:(x.base,x.size,x.st)∈p.lines.map λx=>(x.base,x.size,x.st):=by rw[<-s.lines];exact dn.2 ⟨x,ad,rfl⟩
 obtain⟨y,aQ,e⟩:=dn.1 h1;injection e with aJ e;injection e with aI ck;rw[<-aJ,<-aI,<-ck,s.mem];exact f.ch y aQ;have ea:i<p.ops.length:=by rw[<-s.ops];exact ag
 have e:q.ops[i]=p.ops[i]:=by congr 1;exact s.ops
 have:=f.snd i ea;unfold Eb at this⊢;rw[e,s.ops,s.bF,s.ins,s.outs,wD,hY];exact this
variable {p:km}
theorem km.yh.bytes{T:Int}(f:p.yh T)(aY:∀x∈p.parts,∀z∈x.be,aDU z)(aj:∀x∈p.lines,∀z∈x.st,aDU z):aEv p:=by
 have m0:=f.m0;have m1:=f.m1;have gT:=f.gT;have c1:=f.c1;have i0:=f.i0;have i1:=f.i1;have mV:=f.mV;have nK:=f.nK;have SM:=f.SM;have li:=f.li;have op:=f.op;refine⟨by omega,by omega,by omega,by omega,SM,λx ad=>?_,li,λx ad=>?_,op,λx ad=>?_⟩;have h:=f.F8 x ad;obtain⟨⟨t,av,t1,t2⟩,_⟩:=aeE h;exact⟨by omega,Tw h,aY x ad⟩;have h:=f.ch x ad;exact⟨by omega,by omega,by omega,aj x ad⟩;obtain⟨i,ag,rfl⟩:=rb ad;have:=f.snd i ag;rcases this with⟨e,_⟩|h|h|h|h|h|h|h;rw[e];simp;all_goals omega
theorem aKi{x:nc}(h:x.tag.toNat<256):∀y∈aDN x,y<256:=λy aQ=>by
 unfold aDN aD' at aQ;rcases dC.1 aQ with rfl|aQ;exact h;rcases ev.1 aQ with aQ|aQ;exact aFg _ _ aQ;obtain⟨z,_,aQ⟩:=qv.1 aQ;exact aFg _ _ aQ
theorem aKl(b:aEv p):∀y∈aEb p,y<256:=λy aQ=>by
 rw[aFi]at aQ;unfold aEw at aQ;simp only[ev,qv,th,or_false]at aQ;rcases aQ with aQ|aQ|aQ|aQ|aQ|aQ|⟨x,ad,aQ⟩|aQ|⟨x,ad,aQ⟩|aQ|⟨x,ad,aQ⟩;simp only[dC,th,or_false]at aQ;omega;any_goals exact aFg _ _ aQ
 have:=(b.part x ad).1;exact aKi (by omega) y aQ;unfold aDR aD' at aQ;simp only[ev,qv]at aQ;rcases aQ with aQ|aQ|aQ|⟨z,_,aQ⟩<;>exact aFg _ _ aQ;unfold aDL at aQ;simp only[dC,ev]at aQ;rcases aQ with rfl|aQ|aQ;have:=(b.op x ad).1;omega;all_goals exact aFg _ _ aQ
theorem aKm(b:aEv p):(aEb p).length<=4000000:=by
 have dc:=aDI (n:=p.mem.toNat) (by have:=b.mem;omega);have c9:=aDI (n:=p.bF.toNat) (by have:=b.bF;omega);have ha:=aDI (n:=p.ins.toNat) (by have:=b.ins;omega);have gm:=aDI (n:=p.outs.toNat) (by have:=b.outs;omega);have l1:=aDI (n:=p.parts.length) (by have:=b.aFf;omega);have sN:=aDI (n:=p.lines.length) (by have:=b.nl;omega);have A0:=aDI (n:=p.ops.length) (by have:=b.no;omega);have f1:=aEI aDN 200 p.parts λx ad=>by
  obtain⟨_,ab,an⟩:=b.part x ad;have:=aFI an (by omega);rw[aDN,gI];omega
 have f2:=aEI aDR 20000 p.lines λx ad=>by
  obtain⟨ai,h1,ab,an⟩:=b.line x ad;have:=aFI an (by omega);have:=aDI (n:=x.base.toNat) (by omega);have:=aDI (n:=x.size.toNat) (by omega);rw[aDR,fb,fb];omega
 have f3:=aEI aDL 15 p.ops λx ad=>by
  obtain⟨_,h1,ab⟩:=b.op x ad;have ck:(128:Nat)^3=2097152:=by decide
  have:=aFY 3 x.a.toNat (by omega) (by decide);have:=aFY 3 x.b.toNat (by omega) (by decide);rw[aDL,gI,fb];omega
 have:=b.aFf;have:=b.nl;have:=b.no;rw[aFi];unfold aEw;simp only[fb,N',gI];omega
theorem aKE(l:List Nat):(aDM ([80,78,76,49]++l)).extract 0 4=⟨#[80,78,76,49]⟩:=by
 apply aAj;rw[aK5];simp[aDM]
theorem aIz(p:km)(T:Int)(h:I)(fV:p.yh T)(tn:aEv p):Fn aH 19 #[.string (aDM (aEb p))] h λv U=>h.le U/\∃q:km,v= .tuple #[.agg q.cells.toArray,.agg #[R 0,R 0]]/\aFs p q/\q.ok U:=by
 have al:=aKl tn;have aj:=aKm tn;have aB:(aEb p).drop 4=aEw p:=by rw[aFi];rfl
 have aR:4<=(aEb p).length:=by rw[aFi];simp
 have aP:(aDM (aEb p)).extract 0 4=⟨#[80,78,76,49]⟩:=by rw[aFi];exact aKE _
 have gp:=aHP (aEb p);generalize aEb p=l at al aj aB aR aP gp;refine agO.intro (args:=[.string (aDM l)]) Fz Tryz.func19 rfl (by decide) Tryz.ntmps19 rfl (aJe.low rfl) rfl ?_;refine .mk λcy fC=>?_;refine .mk λgE pg=>?_;refine⟨aI5 _ _,?_⟩;refine aW (λq=>by rw[gp]at q;omega) (λ_=>?_);refine .done (.mk (.string ⟨#[80,78,76,49]⟩) (λw _=>by rw[<-aP];exact aIB (m:=4) (by omega)) ?_);refine .done (.mk (.bool false) (λw _=>aID rfl) ?_);refine .mk λgK y9=>?_;have aE7:cy≠gE:=λe=>by rw[<-e,I.bP]at pg;cases pg
 have aFz:gK≠cy:=λe=>by rw[e,I.cf _ _ aE7,I.bP]at y9;cases y9
 have aG2:gK≠gE:=λe=>by rw[e,I.bP]at y9;cases y9
 refine .done (.mk _ (aKn l al (by omega) gK 4 _ p tn (I.bP _ _ _) aB) ?_);rintro _ cg ⟨q,rfl,same,aFQ,rd⟩;have at_:∀{o:Nat}{J:Obj},((h.put cy (.cells #[R 0,R 0,R 0,R 0,.slice none 0 0,.slice none 0 0,.slice none 0 0] 42 (0,0))).put gE (.cells #[R 0,R 0] 72 (0,0))) o=some J->o≠gK->cg o=some J:=λ{o J} ae ne=>by
  have:=rd.le o J (by rw[I.lP _ ne,I.cf _ _ ne];exact ae);rwa[I.lP _ ne]at this
 have c2:cg cy=some (.cells #[R 0,R 0,R 0,R 0,.slice none 0 0,.slice none 0 0,.slice none 0 0] 42 (0,0)):=at_ (by rw[I.cf _ _ aE7];exact I.bP _ _ _) (d9 aFz);have eI:cg gE=some (.cells #[R 0,R 0] 72 (0,0)):=at_ (I.bP _ _ _) (d9 aG2);have aq:q.cells=[R q.mem,R q.bF,R q.ins,R q.outs,.slice q.im q.parts.length q.cH,.slice q.eA q.lines.length q.lc,.slice q.ct q.ops.length q.bO]:=rfl;have Yc:=fV.same same;refine .hp cy 0 42 _ q.cells rfl c2 rfl ?_;obtain⟨fa,tx⟩:∃fa,fa=cg.put cy (.cells q.cells.toArray 42 (0,0)):=⟨_,rfl⟩;have aHD:q.ok fa:=by
  refine aFQ.mono λo J ae=>?_;unfold aEy at ae;have n:=I.vp (by rw[ae];nofun);rw[I.mX n]at ae;have ne:o≠cy:=λe=>by
   have dR:((h.put cy _).put gE _).put gK _ o=none:=n;rw[e,I.cf _ _ (d9 aFz),I.cf _ _ aE7,I.bP]at dR;cases dR
  rw[tx,I.cf _ _ ne];exact ae
 have aIs:fa gK=some (aDT l l.length):=by rw[tx,I.cf _ _ aFz];exact rd.box
 have aGW:fa cy=some (.cells q.cells.toArray 42 (0,0)):=by rw[tx];exact I.bP _ _ _
 have aIq:fa gE=some (.cells #[R 0,R 0] 72 (0,0)):=by rw[tx,I.cf _ _ (d9 aE7)];exact eI
 have hv:h.le fa:=λo J ae=>by
  have dR:o≠cy:=λe=>by rw[e,fC]at ae;cases ae
  have hZ:o≠gE:=λe=>by rw[e]at ae;rw[I.cf _ _ (d9 aE7),ae]at pg;cases pg
  have aKa:o≠gK:=λe=>by rw[e]at ae;rw[I.cf _ _ aG2,I.cf _ _ aFz,ae]at y9;cases y9
  rw[tx,I.cf _ _ dR];exact at_ (by rw[I.cf _ _ hZ,I.cf _ _ dR];exact ae) aKa
 rw[<-tx];refine .hp (R l.length) (bN aIs rfl) ?_;refine aW (λq=>by rw[gp]at q;omega) (λ_=>?_);refine .hp q.cells rfl (λo v ah=>by rw[add_lit,dJ];exact bN aGW ah) ?_;have V5:=ajk q T fa aHD Yc;rw[aq]at V5;refine .done (.mk _ V5 ?_);rintro _ mi ⟨rfl,mv⟩;have aFv:=mv _ _ aGW;have aF3:=mv _ _ aIq;refine .hp q.cells rfl (λo v ah=>by rw[add_lit,dJ];exact bN aFv ah) ?_;refine .hp cy 0 42 _ q.cells rfl aFv rfl ?_;rw[I.rW aFv];refine .hp gE 0 72 [R 0,R 0] [R 0,R 0] rfl aF3 rfl ?_;rw[I.rW aF3];refine .hp q.cells rfl (λo v ah=>by rw[add_lit,dJ];exact bN aFv ah) ?_;refine .hp [R 0,R 0] rfl (λo v ah=>by rw[add_lit,dJ];exact bN aF3 ah) ?_;exact .done ⟨I.le_trans hv mv,q,rfl,same,aHD.mono mv⟩
theorem aIH(p:km)(T:Int)(h:I)(ok:p.ok h)(fV:p.yh T)(tn:aEv p):Fn aH 18 #[.agg p.cells.toArray] h λv U=>h.le U/\v= .tuple #[.string (aDM (aEb p)),R 0]:=by
 have t6:p.cells=[R p.mem,R p.bF,R p.ins,R p.outs,.slice p.im p.parts.length p.cH,.slice p.eA p.lines.length p.lc,.slice p.ct p.ops.length p.bO]:=rfl;have V5:=ajk p T h ok fV;rw[t6]at V5⊢;have bL:=tn.mem;have cy:=tn.bF;have gE:=tn.ins;have iW:=tn.outs;have jy:=tn.aFf;have pO:=tn.nl;have uG:=tn.no;have dc:=aDI (n:=p.mem.toNat) (by omega);have c9:=aDI (n:=p.bF.toNat) (by omega);have ha:=aDI (n:=p.ins.toNat) (by omega);have gm:=aDI (n:=p.outs.toNat) (by omega);have l1:=aDI (n:=p.parts.length) (by omega);have sN:=aDI (n:=p.lines.length) (by omega);have A0:=aDI (n:=p.ops.length) (by omega);have pl:∀x∈p.parts,(aDN x).length<=200:=λx ad=>by
  obtain⟨_,ab,an⟩:=tn.part x ad;have:=aFI an (by omega)
  grind [aDN]
 have hY:∀x∈p.lines,(aDR x).length<=20000:=λx ad=>by
  obtain⟨ai,h1,ab,an⟩:=tn.line x ad;have:=aFI an (by omega);have:=aDI (n:=x.base.toNat) (by omega);have:=aDI (n:=x.size.toNat) (by omega)
  grind [aDR]
 have ol:∀x∈p.ops,(aDL x).length<=30:=λx ad=>by
  obtain⟨_,h1,ab⟩:=tn.op x ad;have:=aDI (n:=x.a.toNat) (by omega);have:=aDI (n:=x.b.toNat) (by omega);rw[aDL,gI,fb];omega
 refine b5 aJd rfl ?_;refine aK λgS dy gY=>?_;refine dy _ _ _ ?_;refine aK λgO dx eG=>?_;refine aK λgu df fK=>?_;refine .done (.mk _ V5 ?_);rintro _ h1 ⟨rfl,cr⟩;have ok:=ok.mono cr;refine df _ _ _ ?_;refine aK λgk ed eH=>?_;refine ed _ _ _ ?_;refine ot rfl (λq=>absurd q (by decide)) (λ_=>?_);refine dx _ _ _ ?_;refine aK λhA dY hL=>?_;refine .mk λb af=>?_;refine .done (.put (.slice (some ⟨b,0,none⟩) 4 4) b _ _ (I.bP _ _ _) (λw hw=>aIC (cs:=[aDE 80,aDE 78,aDE 76,aDE 49]) (hw _ _ (I.bP _ _ _))) ?_);refine dY _ _ _ ?_;rw[I.sZ];refine aK λhc eT hi=>?_;refine .mk λfX Z4=>?_;have aG1:b≠fX:=λe=>by rw[<-e,I.bP]at Z4;cases Z4
 have aV:aEm h1 ((h1.put b (.cells [aDE 80,aDE 78,aDE 76,aDE 49].toArray 5 (4,5))).put fX (.cells [.slice (some ⟨b,0,none⟩) 4 4].toArray 135 (0,0))) fX (some ⟨b,0,none⟩) 4 [80,78,76,49]:=
  ⟨I.le_trans (I.du af) (I.du Z4),by rw[I.cf _ _ (d9 aG1)]at Z4;exact Z4,I.bP _ _ _,.inr ⟨rfl,b,rfl,λo v ae=>by
   rw[add_lit,dJ];have e:((h1.put b (.cells [aDE 80,aDE 78,aDE 76,aDE 49].toArray 5 (4,5))).put fX (.cells [.slice (some ⟨b,0,none⟩) 4 4].toArray 135 (0,0))) b=some (.cells [aDE 80,aDE 78,aDE 76,aDE 49].toArray 5 (4,5)):=by rw[I.cf _ _ aG1];exact I.bP _ _ _
   unfold I.cell?;rw[e];simpa using ae⟩⟩
 have c1:=aEi aV (by decide) p.mem.toNat (by omega);rw[q' bL.1]at c1;refine .done (.mk _ c1 ?_);rintro _ g1 ⟨iu,cP,cF,_⟩;refine eT _ _ _ ?_;refine aK λkb fE i'=>?_;have c2:=aEi cF (by simp only[fb,gI,N'];omega) p.bF.toNat (by omega);rw[q' cy.1]at c2;refine .done (.mk _ c2 ?_);rintro _ g2 ⟨dE,a2,dw,_⟩;refine fE _ _ _ ?_;refine aK λkc gg j1=>?_;have eI:=aEi dw (by simp only[fb,gI,N'];omega) p.ins.toNat (by omega);rw[q' gE.1]at eI;refine .done (.mk _ eI ?_);rintro _ g3 ⟨lm,a3,iI,_⟩;refine gg _ _ _ ?_;refine aK λko g' ja=>?_;have tq:=aEi iI (by simp only[fb,gI,N'];omega) p.outs.toNat (by omega);rw[q' iW.1]at tq;refine .done (.mk _ tq ?_);rintro _ g4 ⟨agc,a4,jf,_⟩;refine g' _ _ _ ?_;refine aK λlq gX kR=>?_;have xc:=aEi jf (by simp only[fb,gI,N'];omega) p.parts.length (by omega);refine .done (.mk _ xc ?_);rintro _ g5 ⟨zE,a5,lF,_⟩;obtain⟨aAq,aFD⟩:∃aAq,aAq=[80,78,76,49]++aDx p.mem.toNat++aDx p.bF.toNat++aDx p.ins.toNat++aDx p.outs.toNat++aDx p.parts.length:=⟨_,rfl⟩;rw[<-aFD]at lF;have n5:aAq.length<=60:=by rw[aFD];simp only[fb,gI,N'];omega
 refine gX _ _ _ ?_;refine aK λsd lC sK=>?_;refine aK λqx lD pr=>?_;refine lD _ _ _ ?_;refine fG λut nJ xG=>?_;have f5:=λo=>aFU aDN 200 o pl;refine .zl [0,2] (Nat×Option ar×Nat) [1,5,43,44,45] (λ(o,_)=>[.p 0 0,.p 1 0,.v (.slice p.im p.parts.length p.cH),.v (R p.parts.length),.v (R o)]) (λ_=>[.own (([R p.mem,R p.bF,R p.ins,R p.outs,.slice p.im p.parts.length p.cH,.slice p.eA p.lines.length p.lc,.slice p.ct p.ops.length p.bO]:List ao).map .v) 42,.bV fX]) (λ(o,A,c) U=>o<=p.parts.length/\aEm h1 U fX A c (aAq++(p.parts.take o).flatMap aDN)) (λ(o,_)=>p.parts.length-o) (0,zE,a5) (λ_=>rfl) ⟨cO _,by simpa using lF⟩ rfl rfl rfl ?_;rintro⟨o,A,c⟩ e g ⟨ae,w⟩;refine aK λBU rL Fm=>?_;refine rL _ _ _ ?_;refine aK λD7 AZ C'=>?_;refine aW (λq=>?_) (λq=>?_);have E6:o<p.parts.length:=by omega
 obtain⟨aFa,Zj⟩:=ok.parts.cc (by omega);have En:=(ok.parts.mono w.le).row Zj (i:=o) (r:=nc.cells p.parts[o]) (iM E6);have SM:=ok.part _ (cS E6);obtain⟨⟨t0,t1⟩,aFh,aEr⟩:=tn.part _ (cS E6);have aD8:=aFB aDN E6;have aG6:=f5 o;generalize p.parts[o]=x at En SM t0 t1 aFh aEr aD8;have T':x.n=x.be.length:=by have:=SM.len;simpa using this.symm
 have aEM:=aFw w (by simp only[fb];omega) x.tag.toNat;rw[show aDE x.tag.toNat= .int .u8 x.tag by show h' .u8 ((x.tag.toNat:Nat):Int)=_;rw[q' t0]]at aEM;refine AZ _ _ _ ?_;refine aK λOz Iq aa8=>?_;refine fG λU7 Ir Iu=>?_;refine aK λU8 Is aa9=>?_;refine .m aFa Zj ?_;refine .hp [.int .u8 x.tag,.slice x.A x.n x.c] rfl (by rw[bq];exact En) ?_;refine Is _ _ _ ?_;refine aK λOA It aa'=>?_;refine .done (.mk _ aEM ?_);rintro _ g6 ⟨Bt,OP,aFW,_⟩;have i41:=aHo aFW (by simp only[fb,gI,N'];omega) x.A x.n x.c x.be SM (by omega) aEr;refine It _ _ _ ?_;refine .done (.mk _ i41 ?_);rintro _ g7 ⟨JL,Vm,aE2,_⟩;refine Iu _ _ _ _ nofun (Iq _ _ _ ?_);refine .aLS ?_;refine⟨(o+1,JL,Vm),rfl,rfl,⟨by omega,?_⟩,by show p.parts.length- (o+1)<p.parts.length-o;omega⟩;rw[aD8,aDN];simpa only[mb,wS,J3]using aE2;have W7:o=p.parts.length:=by omega
 rw[W7,pM]at w;have n6:(aAq++p.parts.flatMap aDN).length<=7000:=by
  have:=aEI aDN 200 p.parts pl;rw[fb];omega
 refine C' _ _ _ _ nofun (nJ _ _ _ (lC _ _ _ ?_));refine aK λah2 Rz asV=>?_;have Em:=aEi w (by omega) p.lines.length (by omega);refine .done (.mk _ Em ?_);rintro _ g6 ⟨Bt,OP,aFW,_⟩;obtain⟨aEV,aFE⟩:∃aEV,aEV=aAq++p.parts.flatMap aDN++aDx p.lines.length:=⟨_,rfl⟩;rw[<-aFE]at aFW;have n6:aEV.length<=7100:=by rw[aFE,fb];omega
 refine Rz _ _ _ ?_;refine aK λah3 RA asW=>?_;refine aK λaAu asT aBB=>?_;refine asT _ _ _ ?_;refine fG λaAv asU aBC=>?_;have f6:=λo=>aFU aDR 20000 o hY;refine .mk (Nat×Option ar×Nat) [1,5,64,65,66] (λ(o,_)=>[.p 0 0,.p 1 0,.v (.slice p.eA p.lines.length p.lc),.v (R p.lines.length),.v (R o)]) (λ_=>[.own (([R p.mem,R p.bF,R p.ins,R p.outs,.slice p.im p.parts.length p.cH,.slice p.eA p.lines.length p.lc,.slice p.ct p.ops.length p.bO]:List ao).map .v) 42,.bV fX]) (λ(o,A,c) U=>o<=p.lines.length/\aEm h1 U fX A c (aEV++(p.lines.take o).flatMap aDR)) (λ(o,_)=>p.lines.length-o) (0,Bt,OP) (λ_=>rfl) ⟨cO _,by simpa using aFW⟩ rfl rfl ?_;rintro⟨o,A,c⟩ e g ⟨ae,w⟩;refine aK λaLa aJz aLE=>?_;refine aJz _ _ _ ?_;refine aK λaLb aJA aJP=>?_;refine aW (λq=>?_) (λq=>?_);have E6:o<p.lines.length:=by omega
 obtain⟨aFa,Zj⟩:=ok.lines.cc (by omega);have En:=(ok.lines.mono w.le).row Zj (i:=o) (r:=h9.cells p.lines[o]) (iM E6);have SM:=ok.line _ (cS E6);obtain⟨⟨fq,s1⟩,⟨t0,t1⟩,aFh,aEr⟩:=tn.line _ (cS E6);have aD8:=aFB aDR E6;have aG6:=f6 o;generalize p.lines[o]=x at En SM fq s1 t0 t1 aFh aEr aD8;have T':x.n=x.st.length:=by have:=SM.len;simpa using this.symm
 have bJ:=aDI (n:=x.base.toNat) (by omega);have bB:=aDI (n:=x.size.toNat) (by omega);have d1:=aEi w (by simp only[fb];omega) x.base.toNat (by omega);rw[q' fq]at d1;refine aJA _ _ _ ?_;refine aK λaLc aJB aLF=>?_;refine fG λaLd aLC aJQ=>?_;refine aK λaLe aJC aLG=>?_;refine .m aFa Zj ?_;refine .hp [R x.base,R x.size,.slice x.A x.n x.c] rfl (by rw[bq];exact En) ?_;refine aJC _ _ _ ?_;refine aK λaLf aJD aLH=>?_;refine .done (.mk _ d1 ?_);rintro _ g7 ⟨JL,Vm,aE2,_⟩;have d2:=aEi aE2 (by simp only[fb];omega) x.size.toNat (by omega);rw[q' t0]at d2;refine aJD _ _ _ ?_;refine aK λaLg aJE aLI=>?_;refine .done (.mk _ d2 ?_);rintro _ g8 ⟨aH7,aiv,aGG,_⟩;have i41:=aHo aGG (by simp only[fb];omega) x.A x.n x.c x.st SM (by omega) aEr;refine aJE _ _ _ ?_;refine .done (.mk _ i41 ?_);rintro _ g9 ⟨aGI,a9,aGH,_⟩;refine aJQ _ _ _ _ nofun (aJB _ _ _ ?_);refine .aLS ?_;refine⟨(o+1,aGI,a9),rfl,rfl,⟨by omega,?_⟩,by show p.lines.length- (o+1)<p.lines.length-o;omega⟩;rw[aD8,aDR];simpa only[mb]using aGH;have W7:o=p.lines.length:=by omega
 rw[W7,pM]at w;have n7:(aEV++p.lines.flatMap aDR).length<=2000000:=by
  have:=aEI aDR 20000 p.lines hY;rw[fb];omega
 refine aJP _ _ _ _ nofun (asU _ _ _ (RA _ _ _ ?_));refine aK λaLh aJF aLJ=>?_;have O1:=aEi w (by omega) p.ops.length (by omega);refine .done (.mk _ O1 ?_);rintro _ g7 ⟨JL,Vm,aE2,Jb⟩;obtain⟨aEC,aFF⟩:∃aEC,aEC=aEV++p.lines.flatMap aDR++aDx p.ops.length:=⟨_,rfl⟩;rw[<-aFF]at aE2 Jb;have n7:aEC.length<=2000100:=by rw[aFF,fb];omega
 refine aJF _ _ _ ?_;refine aK λaLi aJG aLK=>?_;refine aK λaLj aJH aLL=>?_;refine aJH _ _ _ ?_;refine fG λaLk aJI aLM=>?_;have f7:=λo=>aFU aDL 30 o ol;refine .zl [1] (Nat×Option ar×Nat) [5,91,92,93] (λ(o,_)=>[.p 0 0,.v (.slice p.ct p.ops.length p.bO),.v (R p.ops.length),.v (R o)]) (λ_=>[.bV fX]) (λ(o,A,c) U=>o<=p.ops.length/\aEm h1 U fX A c (aEC++(p.ops.take o).flatMap aDL)/\bz U 5 1 A (aEC++(p.ops.take o).flatMap aDL).length c ((aEC++(p.ops.take o).flatMap aDL).map aDE)) (λ(o,_)=>p.ops.length-o) (0,JL,Vm) (λ_=>rfl) ⟨cO _,by simpa using aE2,by simpa using Jb⟩ rfl rfl rfl ?_;rintro⟨o,A,c⟩ e g ⟨ae,w,r⟩;refine aK λaLl aJJ aLN=>?_;refine aJJ _ _ _ ?_;refine aK λaLm aJK aJR=>?_;refine aW (λq=>?_) (λq=>?_);have E6:o<p.ops.length:=by omega
 obtain⟨aFa,Zj⟩:=ok.ops.cc (by omega);have En:=(ok.ops.mono w.le).row Zj (i:=o) (r:=b6.cells p.ops[o]) (iM E6);obtain⟨ve,⟨fq,s1⟩,⟨t0,t1⟩⟩:=tn.op _ (cS E6);have aD8:=aFB aDL E6;have aG6:=f7 o;generalize p.ops[o]=x at En ve fq s1 t0 t1 aD8;have bJ:=aDI (n:=x.a.toNat) (by omega);have bB:=aDI (n:=x.b.toNat) (by omega);have aEM:=aFw w (by simp only[fb];omega) x.k;refine aJK _ _ _ ?_;refine aK λaLn aJL aLO=>?_;refine fG λaLo aLD aJS=>?_;refine aK λaLp aJM aLP=>?_;refine .m aFa Zj ?_;refine .hp [.int .u8 x.k,R x.a,R x.b] rfl (by rw[bq];exact En) ?_;refine aJM _ _ _ ?_;refine aK λaLq aJN aLQ=>?_;refine .done (.mk _ aEM ?_);rintro _ g8 ⟨aH7,aiv,aGG,_⟩;have d1:=aEi aGG (by simp only[fb,gI,N'];omega) x.a.toNat (by omega);rw[q' fq]at d1;refine aJN _ _ _ ?_;refine aK λaLr aJO aLR=>?_;refine .done (.mk _ d1 ?_);rintro _ g9 ⟨aGI,a9,aGH,_⟩;have d2:=aEi aGH (by simp only[fb,gI,N'];omega) x.b.toNat (by omega);rw[q' t0]at d2;refine aJO _ _ _ ?_;refine .done (.mk _ d2 ?_);rintro _ g10 ⟨aH6,aiu,aKT,aKp⟩;refine aJS _ _ _ _ nofun (aJL _ _ _ ?_);refine .aLS ?_;have el:aEC++(p.ops.take (o+1)).flatMap aDL=aEC++(p.ops.take o).flatMap aDL++[x.k]++aDx x.a.toNat++aDx x.b.toNat:=by rw[aD8,aDL];simp only[mb,wS,J3]
 refine⟨(o+1,aH6,aiu),rfl,rfl,⟨by omega,by rw[el];exact aKT,by rw[el];exact aKp⟩,by show p.ops.length- (o+1)<p.ops.length-o;omega⟩;have W7:o=p.ops.length:=by omega
 rw[W7,pM]at w r;have uQ:aEC++p.ops.flatMap aDL=aEb p:=by rw[aFF,aFE,aFD];rfl
 rw[uQ]at w r;refine aJR _ _ _ _ nofun (aJI _ _ _ (aJG _ _ _ ?_));obtain⟨jW,lW⟩:∃jW,A=some jW:=by
  rcases A with _|jW;rcases r.2 with⟨_,q,_⟩|⟨_,_,q,_⟩;rw[<-uQ,aFF,aFE,aFD]at q;simp at q;cases q;exact⟨jW,rfl⟩
 subst lW;refine .hp (.slice (some jW) (aEb p).length c) (bN w.box rfl) ?_;refine .done (.mk (.string (aDM (aEb p))) (λw hw=>aIE r hw) ?_);exact .done ⟨I.le_trans cr w.le,rfl⟩
theorem auD{h h1 an aR:I}(le:h.le h1)(e:∀o J,o≠cv->an o=some J->aR o=some J):(od h1 an cv).le (od h aR cv):=λo J ae=>by
 unfold od at ae⊢;have q:=I.vp (by rw[ae];nofun);rw[I.mX q]at ae;rw[I.mX (S:=λo=>h o=none/\o≠cv) ⟨I.none_le le q.1,q.2⟩];exact e o J q.2 ae
def aE6(r:Option (List (List Int)))(x:lG):lG:=match r with|some _=>{x with n:=x.n+1}|none=>x
def NT(B h:I)(cj cv:Nat)(x:lG)(r:Option (List (List Int)))(v:ao)(U:I):Prop:=I.xJ cv h U/\ln (B.grow h U) U cj cv x/\match r with
 |some outs=>∃A c D,v= .tuple #[.slice A D.length c,R 0]/\D.map dO.l=outs/\RowsIn (od h U cv) A D
 |none=>v= .tuple #[.slice none 0 0,R 70]
theorem akZ(Q:dL)(e:bY)(cj:Nat)(cm:Option ar)(cE:Nat)(D:List dO)(m:Nat)(hm:D.length=m)(m16:m<=16)(h:I)(gf:RowsIn h cm D)(OD:Option ar)(rc:Nat)(ins:List Int)(cG:bg h 1 OD m (gZ ins))(al:D.map (λd=>(d.l.length:Int))=ins)(he:[0,1,6,27,28,29].map e=[.v (b0 cj),.v (.slice cm m cE),.v (.slice OD m rc),.v (.slice cm m cE),.v (R m),.v (R (0:Nat))])(cD:∀e,[0,1].map e=[.v (b0 cj),.v (.slice cm m cE)]->Q (.exit 0) e [] h):kH (λQ e L h=>c7 aH 59 aqK Q e L h) Q e [] h:=by
 refine .mk Nat [0,1,6,27,28,29] (λk=>[.v (b0 cj),.v (.slice cm m cE),.v (.slice OD m rc),.v (.slice cm m cE),.v (R m),.v (R k)]) (λ_=>[]) (λk U=>U=h/\k<=m) (λk=>m-k) 0 (λ_=>rfl) ⟨rfl,cO _⟩ he rfl ?_;rintro o e _ ⟨rfl,hk⟩;refine aK λgS dy gY=>?_;refine dy _ _ _ ?_;refine aK λgO dx eG=>?_;refine aW (λq=>?_) (λq=>?_);have ae:o<D.length:=by omega
 obtain⟨g,ak⟩:=gf.dG.cc (by omega);obtain⟨g2,gV⟩:=cG.cc (by omega);have c1:=gf.dG.one ak (i:=o) (r:=[D[o].val]) (by unfold Jk;rw[dV,bZ ae];rfl) rfl;have anz:ins[o]?=some (D[o].l.length:Int):=by rw[<-al,dV,bZ ae];rfl
 have c2:=cG.one gV (i:=o) (r:=[R D[o].l.length]) (by unfold gZ;rw[dV,anz];rfl) rfl;generalize D[o]=d at c1 c2;obtain⟨A,c,l⟩:=d;refine dx _ _ _ ?_;refine aK λgu df fK=>?_;refine fG λgk ed eH=>?_;refine aK λhA dY hL=>?_;refine .m g ak ?_;refine .hp (.slice A l.length c) (by rw[bq];exact c1) ?_;refine dY _ _ _ ?_;refine aK λhc eT hi=>?_;refine .m g2 gV ?_;refine .hp (R l.length) (by rw[bq];exact c2) ?_;refine eT _ _ _ ?_;refine aW (λq=>absurd rfl q) (λ_=>?_);refine eH _ _ _ _ nofun (df _ _ _ ?_);refine .aLS ?_;exact⟨o+1,rfl,rfl,⟨rfl,by omega⟩,by show m- (o+1)<m-o;omega⟩;refine eG _ _ _ _ nofun ?_;exact cD _ rfl
theorem XW{B h:I}{x:lG}(dh:ln B h cj cv x)(le:B.le h)(t1:1<=x.tag)(t2:x.tag<=11)(i16:x.ins.length<=16)(Dl:x.outs.length<=16)(cm:Option ar)(cE:Nat)(D:List dO)(m:Nat)(hm:D.length=m)(gf:RowsIn h cm D)(al:D.map (λd=>(d.l.length:Int))=x.ins)(h2:lG)(AL:0<=h2.n/\h2.n<=1000000000000)(LH:h2.tag=x.tag)(r:Option (List (List Int)))(Dx:∀h1,h.le h1->ln B h1 cj cv x->Fn aH (S4 x.tag) #[b0 cv,.slice cm m cE] h1 (OF B h1 cj cv h2 r)):Fn aH 89 #[b0 cj,.slice cm m cE] h (NT B h cj cv (aE6 r h2) r):=by
 have AG:x.ins.length=m:=by rw[<-al,ih,hm]
 refine b5 aa5 rfl ?_;refine aK λgS dy gY=>?_;refine dy _ _ _ ?_;refine aK λgO dx eG=>?_;refine dx _ _ _ ?_;refine aK λgu df fK=>?_;refine .hp _ (bN (le _ _ dh.box) rfl) ?_;refine .mk 244 (b0 cv) (λw=>aam t1 t2) ?_;refine .done (.mk _ (adP dh le (by omega) (by omega)) ?_);rintro _ ab ⟨c9,eF,aoy,ct,bO,rfl,a,b⟩;refine df _ _ _ ?_;refine aK λgk ed eH=>?_;refine aW (λq=>absurd (by omega) q) (λ_=>?_);refine ed _ _ _ ?_;refine aK λhA dY hL=>?_;refine aK λhc eT hi=>?_;refine eT _ _ _ ?_;refine fG λkb fE i'=>?_;rw[AG]at a⊢;refine .lj (.done (akZ kb _ cj cm cE D m hm (by omega) ab (gf.mono c9) eF aoy x.ins a al rfl λe he=>?_));refine fE _ _ _ (dY _ _ _ ?_);rw[<-fr [0,1] e,he];refine aK λkc gg j1=>?_;have VW:=dh.up c9;refine .hp _ (bN (c9 _ _ (le _ _ dh.box)) rfl) ?_;refine .mk (S4 x.tag) (b0 cv) (λw=>aoL t1 t2) ?_;refine .done (.mk _ (Dx ab c9 VW) ?_);rintro _ an ⟨ha,G4,am⟩;have zg:=dh.zg;have aHq:=dh.some_;have aG9:∀aR,(∀o J,o≠cv->an o=some J->aR o=some J)->(B.grow ab an).le (B.grow h aR):=λaR e o J ae=>by
  unfold I.grow at ae⊢;have q:=I.vp (by rw[ae];nofun);rw[I.mX q]at ae;have aBA:o≠cv:=λaD=>by
   rcases q with q|q;exact q (by rw[aD];exact zg);exact VW.some_ (by rw[<-aD];exact q)
  rw[I.mX (S:=λo=>B o≠none\/h o=none) (q.imp id λq=>I.none_le c9 q)];exact e o J aBA ae
 have YZ:=ha _ _ (λe=>by rw[<-e]at zg;rw[dh.box]at zg;cases zg) (c9 _ _ (le _ _ dh.box));cases r with
 |none=>
  obtain⟨u,rfl⟩:=am;refine gg _ _ _ ?_;refine aK λko g' ja=>?_;refine ja _ _ _ _ nofun ?_;refine .done ⟨λo J ae aL=>ha _ _ ae (c9 _ _ aL),?_,rfl⟩;exact G4.to (aG9 an λo J _ aL=>aL) rfl (xm zg aHq)
 |some outs=>
  obtain⟨lm,eI,q7,rfl,ck,gi⟩:=am;refine gg _ _ _ ?_;refine aK λko g' ja=>?_;refine g' _ _ _ ?_;refine aK λlq gX kR=>?_;refine .hp _ (bN YZ rfl) ?_;refine .mk 242 (b0 cv) (λw=>aoK t1 t2) ?_;refine .done (.mk _ (ak1 G4 AL) ?_);rintro _ aR ⟨⟨FI,rfl⟩,ai2⟩;refine gX _ _ _ ?_;refine .done ⟨λo gh ae aL=>?_,?_,lm,eI,q7,rfl,ck,gi.mono (auD c9 λo gh ae aL=>?_)⟩;rw[I.cf _ _ ae];exact ha _ _ ae (c9 _ _ aL);exact ai2.to (aG9 _ λo J ae aL=>by rw[I.cf _ _ ae];exact aL) rfl (xm zg aHq);rw[I.cf _ _ ae];exact aL
theorem afD:Tryz.prog.underlying 27=some (.slice 3):=by kernel_rfl
theorem aeL:(Tryz.prog.info? 3).map (·.size)=some 1:=by kernel_rfl
theorem VR(VO:Array TypeId)(ty:TypeId)(cs:Array Bool)(args:Array ao):builtin .copy VO ty cs args=(do pure (.value (<-Um VO ty args))):=rfl
theorem ajH{a b:e3}{w:bb}{g J Al B8:Nat}{A:ar}{M0 Tp:Nat}{a8:List ao}{cs:List ao}(ak:w.heap[g]?=some (.cells a8.toArray 3 (0,0)))(aC:cs.length=min M0 Al)(tO:∀o v,cs[o]?=some v->w.cell? (A.add o)=some v)(CI:J+cs.length<=a8.length)(h1:∀v∈cs,v.oneCell'=true):vC aH (.call {callee:=.builtin .copy,args:=#[a,b],argTypes:=#[27,27]}) [.slice (some ⟨g,J,none⟩) Al B8,.slice (some A) M0 Tp] w (R cs.length) {w with heap:=w.heap.setIfInBounds g (.cells (a8.take J++cs++a8.drop (J+cs.length)).toArray 3 (0,0))}:=by
 intro kF q aq ah;have e:=run_copy_row (P:=aH) w 27 27 q.type 3 g J Al B8 A M0 Tp a8.toArray 3 cs afD aeL ak aC tO (by simpa using CI) h1;have Q1:[kF a,kF b]=[.slice (some ⟨g,J,none⟩) Al B8,.slice (some A) M0 Tp]:=ah;injection Q1 with v1 v2;injection v2 with v2 _;simp[cY,aq,resolve,invoke,v1,v2];rw[VR,aDF,e];simp[World.setRow,goInt];refine⟨rfl,Array.ext_getElem? λi=>?_⟩;rw[Array.getElem?_modify,Array.getElem?_setIfInBounds];by_cases ag:g=i;subst ag;have al:g<w.heap.size:=(Array.getElem?_eq_some_iff.1 ak).1;rw[aX rfl,aX rfl,aX al,ak];rfl;rw[aE ag,aE ag]
theorem ajG{a b:e3}{w:bb}{A:ar}{Al B8:Nat}:vC aH (.call {callee:=.builtin .copy,args:=#[a,b],argTypes:=#[27,27]}) [.slice (some A) Al B8,.slice none 0 c] w (R 0) w:=by
 intro kF q aq ah;have e:(Um #[27,27] q.type #[.slice (some A) Al B8,.slice none 0 c]).run aH w= .ok (goInt 0) w:=by
  have aj:=aeL;cases ag:Tryz.prog.info? 3 with
  |none=>rw[ag]at aj;cases aj
  |some i=>simp[Um,gj afD,NJ,Builtin.firstCells,sizeOf,typeInfo,ag,storeCells]
 have Q1:[kF a,kF b]=[.slice (some A) Al B8,.slice none 0 c]:=ah;injection Q1 with v1 v2;injection v2 with v2 _;simp[cY,aq,resolve,invoke,v1,v2];rw[VR,aDF,e];rfl
abbrev azD(z:Int):Int:=IntKind.i64.wrap z
structure m' where
 base:Int
 size:Int
 at_:Int
 bF:Int
def m'.cells(x:m'):List ao:=[R x.base,R x.size,R x.at_,R x.bF]
def sQ(l:List m'):List ao:=(l.map m'.cells).flatten
structure kl where
 mem:List Int
 lines:List m'
 da:List (List Int)
 wr:List (List Int)
 ops:List b6
 pD:List Int
 jz:List lG
 er:List Int
 hand:List Int
 next:Int
 jc:Int
 zB:Bool
 A2:Int
 IH:Nat
 II:Int
 IE:Nat
structure e8 where
 x:kl
 dM:Nat
 eA:Option ar
 lc:Nat
 ff:Nat
 da:List dO
 fX:Nat
 wr:List dO
 ct:Option ar
 bO:Nat
 iO:Option ar
 iq:Nat
 kJ:Option ar
 lr:Nat
 dh:List (Nat×Nat)
 c8:Nat
 aO:Option ar
 aw:Nat
def mK(b n:Nat):ao:=.slice (some ⟨b,0,none⟩) n n
def e8.cells(m:e8):List ao:=[mK m.dM m.x.mem.length,.slice m.eA m.x.lines.length m.lc,mK m.ff m.da.length,mK m.fX m.wr.length,.slice m.ct m.x.ops.length m.bO,.slice m.iO m.x.pD.length m.iq,.slice m.kJ m.x.jz.length m.lr,mK m.c8 m.x.er.length,.slice m.aO m.x.hand.length m.aw,R m.x.next,R m.x.jc,.bool m.x.zB,R m.x.A2,.int .u8 m.x.IH,R m.x.II,.slice none 0 0,.int .u8 m.x.IE]
def jj(A:Option ar):List Nat:=match A with|some g=>[g.block]|none=>[]
def iS(h:I)(A:Option ar)(l:List Int)(c:Nat):Prop:=(A=none/\l=[]/\c=0)\/∃(b off:Nat)(a8:List ao),A=some ⟨b,off,none⟩/\h b=some (.cells a8.toArray 3 (0,0))/\(a8.drop off).take l.length=l.map R/\(0<c->off+c=a8.length)/\off<=a8.length/\l.length<=c/\a8.length<=c'
structure cU(B h:I)(aT:Nat)(m:e8):Prop where
 le:B.le h
 qD:B aT=none
 box:h aT=some (.cells m.cells.toArray 115 (0,0))
 mem:h m.dM=some (gB m.x.mem)
 ob:B m.dM=none
 mx:bz h 152 4 m.eA m.x.lines.length m.lc (sQ m.x.lines)
 sP:∀g,m.eA=some g->B g.block=none
 da:h m.ff=some (.cells (m.da.map dO.val).toArray 27 (0,0))
 sm:B m.ff=none
 qH:m.da.map dO.l=m.x.da
 pX:∀d∈m.da,d.ok B/\d.l.length<=d.c
 wr:h m.fX=some (.cells (m.wr.map dO.val).toArray 27 (0,0))
 s':B m.fX=none
 pG:m.wr.map dO.l=m.x.wr
 jg:∀d∈m.wr,bz h 3 1 d.A d.l.length d.c (d.l.map R)
 ql:∀d∈m.wr,∀g,d.A=some g->B g.block=none
 pc:m.ff≠m.fX
 ops:bg B 3 m.ct m.x.ops.length (m.x.ops.map b6.cells)
 r3:bg B 1 m.iO m.x.pD.length (gZ m.x.pD)
 rp:bg B 1 m.kJ m.x.jz.length (m.dh.map λp=>[b0 p.1])
 rq:m.dh.length=m.x.jz.length
 lM:∀i(h1:i<m.dh.length)(ab:i<m.x.jz.length),ln B h m.dh[i].1 m.dh[i].2 m.x.jz[i]
 sL:(m.dh.map ek).Nodup
 er:h m.c8=some (gB m.x.er)
 sg:B m.c8=none
 hand:iS h m.aO m.x.hand m.aw
 pf:∀g,m.aO=some g->B g.block=none
 sep:(m.dM::m.c8::(jj m.aO++m.wr.flatMap λd=>jj d.A)).Nodup
def wC(mem:List Int)(b:Nat)(l:List Int):List Int:=mem.take b++l++mem.drop (b+l.length)
def xL:List h9->List Int->List Int
 |[],m=>m
 |x::l,m=>xL l (wC m x.base.toNat x.st)
def l7(l:List Int):Int:=l.foldl (·+·) 0
def B5(x:nc):lG:=⟨x.tag.toNat,x.be,F' x.tag.toNat x.be,0,(bD x.tag x.be).2.1,(bD x.tag x.be).2.2⟩
def j3(p:km):kl:=⟨xL p.lines (bG p.mem.toNat 0),p.lines.map λx=>⟨x.base,x.size,0,x.st.length⟩,bG p.ins.toNat [],bG p.outs.toNat [],p.ops,p.parts.map λx=>l7 (bD x.tag x.be).2.1,p.parts.map B5,bG p.bF.toNat 0,[],0,0,false,0,0,0,0⟩
theorem abl{mem:List Int}{l:List Int}(h:b+l.length<=mem.length):(wC mem b l).length=mem.length:=by
 simp[wC];omega
def R2(dM T:Nat)(eA:Option ar)(dv lc ff fn fX wn:Nat)(ct:Option ar)(on bO:Nat)(iO:Option ar)(ayC iq:Nat)(kJ:Option ar)(rn lr c8 kM:Nat):List aA:=[.v (mK dM T),.v (.slice eA dv lc),.v (mK ff fn),.v (mK fX wn),.v (.slice ct on bO),.v (.slice iO ayC iq),.v (.slice kJ rn lr),.v (mK c8 kM),.v (.slice none 0 0),.v (R 0),.v (R 0),.v (.bool false),.v (R 0),.v (.int .u8 0),.v (R 0),.v (.slice none 0 0),.v (.int .u8 0)]
theorem aji(a b c d:Int):∀u∈[R a,R b,R c,R d],u.oneCell'=true:=by
 intro u hu;simp only[dC,th,or_false]at hu;rcases hu with rfl|rfl|rfl|rfl<;>rfl
theorem sZ(h:I)(b:Nat)(J gh:Obj):(h.put b J).put b gh=h.put b gh:=by
 funext o;simp only[I.put];split<;>rfl
theorem auw(Q:dL)(e:bY)(p:km)(hp h1:I)(ok:p.ok hp)(dM T ff fn fX wn:Nat)(ct:Option ar)(on bO c8 kM:Nat)(le:hp.le h1)(m0:hp dM=none)(aC:p.lines.length<=96)(gA:T<=1024)(ob:List Int)(po:ob.length=T)(aj:∀x∈p.lines,0<=x.base/\0<=x.size/\x.base+x.size<=T/\(x.st.length:Int)<=x.size)(perm:List Nat)(L:List LE)(aB:tv perm=true)(he:[1,5,52,53,54].map e=([.p 0 0,.p 1 0,.v (.slice p.eA p.lines.length p.lc),.v (R p.lines.length),.v (R (0:Nat))]:List aA).map (aCq perm))(aF:sY L perm=some (([.own (rU p) 42,.own (R2 dM T none 0 0 ff fn fX wn ct on bO none 0 0 none 0 0 c8 kM) 115,.row 152 4 none 0 0 []]:List LE).map (pA perm)))(cD:∀e A c rows,[1,5].map e=[.p 0 0,.p 1 0]->rows=sQ (p.lines.map λx=>⟨x.base,x.size,0,x.st.length⟩)->Q (.exit 0) e [.own (rU p) 42,.own (R2 dM T A p.lines.length c ff fn fX wn ct on bO none 0 0 none 0 0 c8 kM) 115,.row 152 4 A p.lines.length c rows] (h1.put dM (gB (xL p.lines ob)))):kH (λQ e L h=>c7 aH 143 aqa Q e L h) Q e L (h1.put dM (gB ob)):=by
 unfold rU R2 at cD aF;unfold mK at cD aF;refine .zl perm (Nat×Option ar×Nat×List Int) [1,5,52,53,54] (λ(k,_,_,_)=>[.p 0 0,.p 1 0,.v (.slice p.eA p.lines.length p.lc),.v (R p.lines.length),.v (R k)])
  (λ(k,A,c,_)=>[.own [.v (R p.mem),.v (R p.bF),.v (R p.ins),.v (R p.outs),.v (.slice p.im p.parts.length p.cH),.v (.slice p.eA p.lines.length p.lc),.v (.slice p.ct p.ops.length p.bO)] 42,
   .own [.v (.slice (some ⟨dM,0,none⟩) T T),.v (.slice A k c),.v (.slice (some ⟨ff,0,none⟩) fn fn),.v (.slice (some ⟨fX,0,none⟩) wn wn),.v (.slice ct on bO),.v (.slice none 0 0),.v (.slice none 0 0),.v (.slice (some ⟨c8,0,none⟩) kM kM),.v (.slice none 0 0),.v (R 0),.v (R 0),.v (.bool false),.v (R 0),.v (.int .u8 0),.v (R 0),.v (.slice none 0 0),.v (.int .u8 0)] 115,
   .row 152 4 A k c (sQ ((p.lines.take k).map λx=>⟨x.base,x.size,0,x.st.length⟩))])
  (λ(k,_,_,mem) U=>U=h1.put dM (gB mem)/\k<=p.lines.length/\mem.length=T/\xL (p.lines.drop k) mem=xL p.lines ob) (λ(k,_)=>p.lines.length-k) (0,none,0,ob) (λ_=>rfl) ⟨rfl,cO _,po,rfl⟩ he aB aF ?_
 clear he po aF aB;rintro⟨k,A,c,mem⟩ e U ⟨rfl,hk,po,hm⟩;have abw:hp.le (h1.put dM (gB mem)):=kT m0 le;refine aK λgS dy gY=>?_;refine dy _ _ _ ?_;refine aK λgO dx eG=>?_;refine aW (λq=>?_) (λq=>?_);have ae:k<p.lines.length:=by omega
 obtain⟨g,ak⟩:=ok.lines.cc (by omega);have lu:=(ok.lines.mono abw).row ak (i:=k) (r:=h9.cells p.lines[k]) (by rw[dV,bZ ae];rfl);obtain⟨s1,s2,hN,mC⟩:=aj _ (cS ae);have nM:=(ok.line _ (cS ae)).mono abw;have hS:p.lines.take (k+1)=p.lines.take k++[p.lines[k]]:=kh ae;rw[o6 ae,xL]at hm;generalize p.lines[k]=x at lu s1 s2 hN mC nM hS hm;obtain⟨base,size,Bi,n,hQ,st⟩:=x;have wm:st.length=n:=by simpa using nM.len
 simp only at s1 s2 hN mC hm;refine dx _ _ _ ?_;refine aK λgu df fK=>?_;refine fG λgk ed eH=>?_;refine aK λhA dY hL=>?_;refine .m g ak ?_;refine .hp [R base,R size,.slice Bi n hQ] rfl (by rw[bq];exact lu) ?_;refine dY _ _ _ ?_;refine aK λhc eT hi=>?_;refine .mk base.toNat T (by omega) rfl (by omega) (by omega) λB aDQ pe=>?_;obtain⟨gh,alZ,QP⟩:∃gh:Nat,B=some ⟨dM,gh,none⟩/\(gh=base.toNat\/n=0/\gh=0):=by
  by_cases af:base.toNat<T;exact⟨base.toNat,by rw[aDQ af,vO,add_lit,dJ,ew],.inl rfl⟩;exact⟨0,pe (by omega),.inr ⟨by omega,rfl⟩⟩
 subst alZ;have go:∀(RD:ao->I->Prop),(∀v,RD v (h1.put dM (gB (wC mem base.toNat st))))->UA aH (.call {callee:=.builtin .copy,args:=#[.tmp 66,.tmp 68],argTypes:=#[27,27]}) [.slice (some ⟨dM,gh,none⟩) (T-base.toNat) (T-base.toNat),.slice Bi n hQ] (h1.put dM (gB mem)) RD:=by
  intro RD fD;cases Bi with
  |none=>
   have bU:n=0:=by
    by_cases q:n=0;exact q;obtain⟨g,ak⟩:=nM.cc q;cases ak
   subst bU;have fq:st=[]:=ra wm;subst fq;refine .mk (R 0) (λw _=>ajG) ?_;have:wC mem base.toNat []=mem:=by simp[wC]
   have q:=fD (R 0);rwa[this]at q
  |some a=>
   have aJ:(mem.map R).take gh++st.map R++(mem.map R).drop (gh+(st.map R).length)=(wC mem base.toNat st).map R:=by
    rcases QP with rfl|⟨bU,rfl⟩;simp[wC,GM,GK];have fq:st=[]:=ra (by omega);subst fq;simp[wC]
   refine .put (R (st.map R).length) dM _ (gB (wC mem base.toNat st)) (I.bP _ _ _) (λw hw=>?_) ?_;unfold gB;rw[<-aJ];refine ajH (hw _ _ (I.bP _ _ _)) (by rw[ih];omega) (λo v ah=>?_) (by simp only[ih];omega) (λv ah=>by obtain⟨z,_,rfl⟩:=dn.1 ah;rfl);rw[dV]at ah;cases aY:st[o]?with
   |none=>rw[aY]at ah;cases ah
   |some z=>
    rw[aY]at ah;injection ah with ah;have:=nM.cell a rfl o [R z] (by rw[dV];show(st[o]?).map _=_;rw[aY];rfl) 0 (R z) rfl;rw[<-ah];exact hw.cell (by simpa using this)
   rw[sZ];exact fD _
 refine .done (go _ λv=>?_);refine eT _ _ _ ?_;refine .cR 2 _ [R base,R size,R 0,R n] rfl rfl (aji _ _ _ _) (by unfold c';omega) (by omega) λbA bu aO=>?_;refine eH _ _ _ _ nofun (df _ _ _ ?_);refine .aLS ?_;refine⟨(k+1,bA,bu,wC mem base.toNat st),rfl,?_,⟨rfl,ae,by rw[abl (by omega)];exact po,hm⟩,by show p.lines.length- (k+1)<p.lines.length-k;omega⟩;have Ca:sQ ((p.lines.take (k+1)).map λx=>(⟨x.base,x.size,0,x.st.length⟩:m'))=sQ ((p.lines.take k).map λx=>(⟨x.base,x.size,0,x.st.length⟩:m'))++[R base,R size,R 0,R n]:=by
  rw[hS,fm,sQ,fm,zS,<-wm];rfl
 show _=[_,_,LE.row 152 4 bA (k+1) bu (sQ ((p.lines.take (k+1)).map λx=>(⟨x.base,x.size,0,x.st.length⟩:m')))];rw[Ca];rfl;refine eG _ _ _ _ nofun ?_;obtain rfl:k=p.lines.length:=by omega
 rw[List.drop_length,xL]at hm;subst hm;exact cD _ A c _ rfl (by rw[pM])
theorem ax6(l:List Int)(x:Int):l7 (l++[x])=l7 l+x:=by simp[l7]
theorem ae6:∀(l:List Int),tj l->0<=l7 l/\l7 l<=64*l.length:=by
 intro l;have key:∀(l:List Int)(a:Int),tj l->a<=l.foldl (·+·) a/\l.foldl (·+·) a<=a+64*l.length:=by
  intro l;induction l with
  |nil=>simp
  |cons x l bE=>
   intro a h;have ad:=h x (iU ..);have:=bE (a+x) λr am=>h r (iv _ am)
   grind
 intro h;have:=key l 0 h;unfold l7;omega
structure wP(ai h:I)(qc:List Nat)(dh:List (Nat×Nat))(o':List lG):Prop where
 len:dh.length=o'.length
 lM:∀i(h1:i<dh.length)(ab:i<o'.length),ln (h.on λo=>o∉qc/\o∉dh.map ek) h dh[i].1 dh[i].2 o'[i]
 gR:(dh.map ek).Nodup
 new:∀q∈dh,ai q.2=none
theorem wP.up{ai h U:I}{qc:List Nat}{o':List lG}(x:wP ai h qc dh o')(le:h.le U):wP ai U qc dh o':=by
 refine⟨x.len,λi h1 ab=>?_,x.gR,x.new⟩;have b:=x.lM i h1 ab;have aj:=b.some_;refine b.to (λo J ae=>?_) ?_ ?_;have q:=I.vp (by rw[ae];nofun);rw[I.mX q]at ae;rw[I.mX (S:=λo=>o∉qc/\o∉dh.map ek) q];exact le _ _ ae;cases hk:h dh[i].2 with
 |none=>grind
 |some J=>exact(le _ _ hk).symm
 unfold I.on
 grind
theorem wP.add{ai h U:I}{qc:List Nat}{o':List lG}(x:wP ai h qc dh o')(abt:ai.le h)(le:h.le U)(aL:∀b∈qc,ai b≠none){y:lG}(hk:h cv=none)(b:ln (od h U cv) U cj cv y):wP ai U qc (dh++[(cj,cv)]) (o'++[y]):=by
 have al:=x.len;have cR:∀q∈dh.map ek,h q≠none:=λq aq=>by
  obtain⟨r,am,rfl⟩:=dn.1 aq;obtain⟨i,ag,rfl⟩:=rb am;exact(x.lM i ag (by omega)).some_
 have own:∀q∈qc,h q≠none:=λq aq e=>aL q aq (I.none_le abt e);have em:(dh++[(cj,cv)]).map ek=dh.map ek++[cv]:=by simp
 refine⟨by simp[al],λi h1 ab=>?_,?_,?_⟩;by_cases ag:i<dh.length;have bi:=x.lM i ag (by omega);have aj:=bi.some_;have aJ:(dh++[(cj,cv)])[i]=dh[i]:=ahk ag;have aI:(o'++[y])[i]=o'[i]'(by omega):=ahk (by omega);rw[aJ,aI];refine bi.to (λo J ae=>?_) ?_ ?_;have q:=I.vp (by rw[ae];nofun);rw[I.mX q]at ae;rw[I.mX (S:=λo=>o∉qc/\o∉(dh++[(cj,cv)]).map ek) ⟨q.1,by grind⟩];exact le _ _ ae;cases hk:h dh[i].2 with
 |none=>grind
 |some J=>exact(le _ _ hk).symm
 unfold I.on
 grind
 have Lp:i=dh.length:=by grind
 have aJ:(dh++[(cj,cv)])[i]=(cj,cv):=by grind
 have aI:(o'++[y])[i]=y:=by grind
 rw[aJ,aI];refine b.to (λo J ae=>?_) rfl ?_;unfold od at ae;have q:=I.vp (by rw[ae];nofun);rw[I.mX q]at ae;rw[I.mX (S:=λo=>o∉qc/\o∉(dh++[(cj,cv)]).map ek) ⟨λm=>own o m q.1,by grind⟩];exact ae;unfold I.on;simp;rw[em,nS];exact⟨x.gR,by simp,λa a6 b af=>by grind⟩;intro q aq;rcases ev.1 aq with aq|aq;exact x.new q aq;rw[fx]at aq;subst aq;exact I.none_le abt hk
section
variable (p:km)(dM T ff fn fX wn:Nat)(eA:Option ar)(dv lc:Nat)(ct:Option ar)(on bO c8 kM:Nat)
theorem ax7(Q:dL)(e:bY)(h:I)(k:Nat)(kJ iO:Option ar)(lr iq:Nat)(zK z1:List ao)(cj:Nat)(t0 t1:ao)(eF:Option ar)(cE m:Nat)(ins:List Int)(e2:bg h 1 eF m (gZ ins))(am:tj ins)(hm:m<=16)(he:[5,10,12,89,90,91,111,112,113].map e=[.p 1 0,.v (b0 cj),.v (R 0),.v (.slice p.im p.parts.length p.cH),.v (R p.parts.length),.v (R k),.v (.slice eF m cE),.v (R m),.v (R (0:Nat))])(cD:∀e,[5,10,12,89,90,91].map e=[.p 1 0,.v (b0 cj),.v (R (l7 ins)),.v (.slice p.im p.parts.length p.cH),.v (R p.parts.length),.v (R k)]->Q (.exit 4) e [.own [.v (R p.mem),.v (R p.bF),.v (R p.ins),.v (R p.outs),.v (.slice p.im p.parts.length p.cH),.v (.slice p.eA p.lines.length p.lc),.v (.slice p.ct p.ops.length p.bO)] 42,.own [.v (.slice (some ⟨dM,0,none⟩) T T),.v (.slice eA dv lc),.v (.slice (some ⟨ff,0,none⟩) fn fn),.v (.slice (some ⟨fX,0,none⟩) wn wn),.v (.slice ct on bO),.v (.slice iO k iq),.v (.slice kJ k lr),.v (.slice (some ⟨c8,0,none⟩) kM kM),.v (.slice none 0 0),.v (R 0),.v (R 0),.v (.bool false),.v (R 0),.v (.int .u8 0),.v (R 0),.v (.slice none 0 0),.v (.int .u8 0)] 115,.gone,.row 121 1 kJ k lr zK,.row 3 1 iO k iq z1,.own [.v t0,.v t1] 138] h):kH (λQ e L h=>c7 aH 143 aqc Q e L h) Q e [.own [.v (R p.mem),.v (R p.bF),.v (R p.ins),.v (R p.outs),.v (.slice p.im p.parts.length p.cH),.v (.slice p.eA p.lines.length p.lc),.v (.slice p.ct p.ops.length p.bO)] 42,.own [.v (.slice (some ⟨dM,0,none⟩) T T),.v (.slice eA dv lc),.v (.slice (some ⟨ff,0,none⟩) fn fn),.v (.slice (some ⟨fX,0,none⟩) wn wn),.v (.slice ct on bO),.v (.slice iO k iq),.v (.slice kJ k lr),.v (.slice (some ⟨c8,0,none⟩) kM kM),.v (.slice none 0 0),.v (R 0),.v (R 0),.v (.bool false),.v (R 0),.v (.int .u8 0),.v (R 0),.v (.slice none 0 0),.v (.int .u8 0)] 115,.gone,.row 121 1 kJ k lr zK,.row 3 1 iO k iq z1,.own [.v t0,.v t1] 138] h:=by
 refine .mk Nat [5,10,12,89,90,91,111,112,113] (λo=>[.p 1 0,.v (b0 cj),.v (R (l7 (ins.take o))),.v (.slice p.im p.parts.length p.cH),.v (R p.parts.length),.v (R k),.v (.slice eF m cE),.v (R m),.v (R o)]) (λ_=>[.own [.v (R p.mem),.v (R p.bF),.v (R p.ins),.v (R p.outs),.v (.slice p.im p.parts.length p.cH),.v (.slice p.eA p.lines.length p.lc),.v (.slice p.ct p.ops.length p.bO)] 42,.own [.v (.slice (some ⟨dM,0,none⟩) T T),.v (.slice eA dv lc),.v (.slice (some ⟨ff,0,none⟩) fn fn),.v (.slice (some ⟨fX,0,none⟩) wn wn),.v (.slice ct on bO),.v (.slice iO k iq),.v (.slice kJ k lr),.v (.slice (some ⟨c8,0,none⟩) kM kM),.v (.slice none 0 0),.v (R 0),.v (R 0),.v (.bool false),.v (R 0),.v (.int .u8 0),.v (R 0),.v (.slice none 0 0),.v (.int .u8 0)] 115,.gone,.row 121 1 kJ k lr zK,.row 3 1 iO k iq z1,.own [.v t0,.v t1] 138]) (λo U=>U=h/\o<=m) (λo=>m-o) 0 (λ_=>rfl) ⟨rfl,cO _⟩ he rfl ?_;rintro o e _ ⟨rfl,hk⟩;have al:ins.length=m:=by simpa using e2.len
 refine aK λgS dy gY=>?_;refine dy _ _ _ ?_;refine aK λgO dx eG=>?_;refine aW (λq=>?_) (λq=>?_);have ae:o<ins.length:=by omega
 obtain⟨g,ak⟩:=e2.cc (by omega);have c:=e2.one ak (i:=o) (r:=[R ins[o]]) (by grind) rfl;have hS:ins.take (o+1)=ins.take o++[ins[o]]:=kh ae;have s1:=ae6 (ins.take o) λr sB=>am r (List.mem_of_mem_take sB);have s2:=am _ (cS ae);have hN:(ins.take o).length<=16:=by grind
 have mC:=ax6 (ins.take o) ins[o];rw[<-hS]at mC;generalize ins[o]=x at c s2 mC;refine dx _ _ _ ?_;refine aK λgu df fK=>?_;refine fG λgk ed eH=>?_;refine aK λhA dY hL=>?_;refine .m g ak ?_;refine .hp (R x) (by grind) ?_;refine dY _ _ _ ?_;refine .aLS ?_;refine eH _ _ _ _ nofun (df _ _ _ ?_);refine .aLS ?_;refine⟨o+1,?_,rfl,⟨rfl,by omega⟩,by omega⟩;show _=[_,_,aA.v (R (l7 (ins.take (o+1)))),_,_,_,_,_,_];rw[mC];rfl;refine eG _ _ _ _ nofun ?_;refine cD _ ?_;show _=[_,_,aA.v (R (l7 ins)),_,_,_];rw[show l7 ins=l7 (ins.take o) by grind];rfl
theorem aux(Q:dL)(e:bY)(ai:I)(qc:List Nat)(ok:p.ok ai)(aL:∀b∈qc,ai b≠none)(aC:p.parts.length<=32)(aj:∀x∈p.parts,(bD x.tag x.be).1=0)(he:[5,89,90,91].map e=[.p 1 0,.v (.slice p.im p.parts.length p.cH),.v (R p.parts.length),.v (R (0:Nat))])(cD:∀e U kJ lr iO iq dh zK z1,[5].map e=[.p 1 0]->ai.le U->wP ai U qc dh (p.parts.map B5)->zK=dh.map (λq=>b0 q.1)->z1=(p.parts.map λx=>R (l7 (bD x.tag x.be).2.1))->Q (.exit 2) e [.own [.v (R p.mem),.v (R p.bF),.v (R p.ins),.v (R p.outs),.v (.slice p.im p.parts.length p.cH),.v (.slice p.eA p.lines.length p.lc),.v (.slice p.ct p.ops.length p.bO)] 42,.own [.v (.slice (some ⟨dM,0,none⟩) T T),.v (.slice eA dv lc),.v (.slice (some ⟨ff,0,none⟩) fn fn),.v (.slice (some ⟨fX,0,none⟩) wn wn),.v (.slice ct on bO),.v (.slice iO p.parts.length iq),.v (.slice kJ p.parts.length lr),.v (.slice (some ⟨c8,0,none⟩) kM kM),.v (.slice none 0 0),.v (R 0),.v (R 0),.v (.bool false),.v (R 0),.v (.int .u8 0),.v (R 0),.v (.slice none 0 0),.v (.int .u8 0)] 115,.gone,.row 121 1 kJ p.parts.length lr zK,.row 3 1 iO p.parts.length iq z1] U):kH (λQ e L h=>c7 aH 143 aqb Q e L h) Q e [.own [.v (R p.mem),.v (R p.bF),.v (R p.ins),.v (R p.outs),.v (.slice p.im p.parts.length p.cH),.v (.slice p.eA p.lines.length p.lc),.v (.slice p.ct p.ops.length p.bO)] 42,.own [.v (.slice (some ⟨dM,0,none⟩) T T),.v (.slice eA dv lc),.v (.slice (some ⟨ff,0,none⟩) fn fn),.v (.slice (some ⟨fX,0,none⟩) wn wn),.v (.slice ct on bO),.v (.slice none 0 0),.v (.slice none 0 0),.v (.slice (some ⟨c8,0,none⟩) kM kM),.v (.slice none 0 0),.v (R 0),.v (R 0),.v (.bool false),.v (R 0),.v (.int .u8 0),.v (R 0),.v (.slice none 0 0),.v (.int .u8 0)] 115,.gone,.row 121 1 none 0 0 [],.row 3 1 none 0 0 []] ai:=by
 refine .mk (Nat×Option ar×Nat×Option ar×Nat×List (Nat×Nat)) [5,89,90,91] (λ(k,_)=>[.p 1 0,.v (.slice p.im p.parts.length p.cH),.v (R p.parts.length),.v (R k)]) (λ(k,kJ,lr,iO,iq,dh)=>[.own [.v (R p.mem),.v (R p.bF),.v (R p.ins),.v (R p.outs),.v (.slice p.im p.parts.length p.cH),.v (.slice p.eA p.lines.length p.lc),.v (.slice p.ct p.ops.length p.bO)] 42,.own [.v (.slice (some ⟨dM,0,none⟩) T T),.v (.slice eA dv lc),.v (.slice (some ⟨ff,0,none⟩) fn fn),.v (.slice (some ⟨fX,0,none⟩) wn wn),.v (.slice ct on bO),.v (.slice iO k iq),.v (.slice kJ k lr),.v (.slice (some ⟨c8,0,none⟩) kM kM),.v (.slice none 0 0),.v (R 0),.v (R 0),.v (.bool false),.v (R 0),.v (.int .u8 0),.v (R 0),.v (.slice none 0 0),.v (.int .u8 0)] 115,.gone,.row 121 1 kJ k lr (dh.map λq=>b0 q.1),.row 3 1 iO k iq ((p.parts.take k).map λx=>R (l7 (bD x.tag x.be).2.1))]) (λ(k,_,_,_,_,dh) U=>ai.le U/\k<=p.parts.length/\wP ai U qc dh ((p.parts.take k).map B5)) (λ(k,_)=>p.parts.length-k) (0,none,0,none,0,[]) (λ_=>rfl) ⟨I.le_refl _,cO _,rfl,(by simp),.nil,(by simp)⟩ he rfl ?_;clear he;rintro⟨k,kJ,lr,iO,iq,dh⟩ e h ⟨le,hk,tn⟩;refine aK λgS dy gY=>?_;refine dy _ _ _ ?_;refine aK λgO dx eG=>?_;refine aW (λq=>?_) (λq=>?_)
 .have ae:k<p.parts.length:=by omega
  obtain⟨g,ak⟩:=ok.parts.cc (by omega);have c:=(ok.parts.mono le).row ak (i:=k) (r:=nc.cells p.parts[k]) (by grind);have s1:=aj _ (cS ae);have h6:=(ok.part _ (cS ae)).mono le;have hS:p.parts.take (k+1)=p.parts.take k++[p.parts[k]]:=kh ae;generalize p.parts[k]=x at c s1 h6 hS;obtain⟨tag,A,n,hQ,be⟩:=x;simp only at s1;obtain⟨⟨t,rfl,t1,t2⟩,_⟩:=aeE s1;have u':=Tw s1;have tM:be.length=n:=by simpa using h6.len
  have eS:B5 ⟨t,A,n,hQ,be⟩=⟨t,be,F' t be,0,(bD t be).2.1,(bD t be).2.2⟩:=by rfl
  have sC:(bD (t:Int) be).2.1.length<=16/\(bD (t:Int) be).2.2.length<=16:=zz (t:Int) be;have xz:=Jp (t:Int) be;refine dx _ _ _ ?_;refine aK λgu df fK=>?_;refine fG λgk ed eH=>?_;refine aK λhA dY hL=>?_;refine .m g ak ?_;refine .hp [.int .u8 t,.slice A n hQ] rfl (by rw[bq];exact c) ?_;refine dY _ _ _ ?_;refine aK λhc eT hi=>?_;refine .done (.mk _ (auv t A n hQ be h h6 (by omega) s1) ?_);rintro _ ab ⟨cn,cj,cv,rfl,E7,ix⟩;refine eT _ _ _ ?_;refine aK λkb fE i'=>?_;refine aK λkc gg j1=>?_;refine gg _ _ _ ?_;refine fE _ _ _ ?_;refine aK λko g' ja=>?_;refine g' _ _ _ ?_;refine aK λlq gX kR=>?_;refine .done (.mk _ (aeD ix (I.zn _ _) (by grind) (by grind) t1 t2) ?_);rintro _ an ⟨dZ,eF,cE,aBL,FJ,rfl,e2,_⟩;have ai4:=(tn.add le cn aL E7 ix).up dZ;refine gX _ _ _ ?_;refine aK λsd lC sK=>?_;refine aK λqx lD pr=>?_;refine lD _ _ _ ?_;refine fG λut nJ xG=>?_;refine .lj (.done (ax7 p dM T ff fn fX wn eA dv lc ct on bO c8 kM ut _ an k kJ iO lr iq _ _ cj (.int .u8 t) (.slice A n hQ) eF cE _ _ e2 xz.1 sC.1 rfl λe he=>?_));refine nJ _ _ _ (lC _ _ _ ?_);rw[<-fr [5,10,12,89,90,91] e,he];have an6:=ae6 _ xz.1;have sj:(dh++[(cj,cv)]).map (λq=>b0 q.1)=dh.map (λq=>b0 q.1)++[b0 cj]:=by simp
  have iY:(p.parts.take (k+1)).map (λx=>R (l7 (bD x.tag x.be).2.1))=(p.parts.take k).map (λx=>R (l7 (bD x.tag x.be).2.1))++[R (l7 (bD (t:Int) be).2.1)]:=by grind
  have ai5:wP ai an qc (dh++[(cj,cv)]) ((p.parts.take (k+1)).map B5):=by
   grind
  have fin:∀(e:bY)(L:List LE)(w9:Option ar)(w':Nat)(x1:Option ar)(x4:Nat),[5,89,90,91].map e=[.p 1 0,.v (.slice p.im p.parts.length p.cH),.v (R p.parts.length),.v (R k)]->L.take 5=[.own [.v (R p.mem),.v (R p.bF),.v (R p.ins),.v (R p.outs),.v (.slice p.im p.parts.length p.cH),.v (.slice p.eA p.lines.length p.lc),.v (.slice p.ct p.ops.length p.bO)] 42,.own [.v (.slice (some ⟨dM,0,none⟩) T T),.v (.slice eA dv lc),.v (.slice (some ⟨ff,0,none⟩) fn fn),.v (.slice (some ⟨fX,0,none⟩) wn wn),.v (.slice ct on bO),.v (.slice x1 (k+1) x4),.v (.slice w9 (k+1) w'),.v (.slice (some ⟨c8,0,none⟩) kM kM),.v (.slice none 0 0),.v (R 0),.v (R 0),.v (.bool false),.v (R 0),.v (.int .u8 0),.v (R 0),.v (.slice none 0 0),.v (.int .u8 0)] 115,.gone,.row 121 1 w9 (k+1) w' ((dh.map λq=>b0 q.1)++[b0 cj]),.row 3 1 x1 (k+1) x4 (((p.parts.take k).map λx=>R (l7 (bD x.tag x.be).2.1))++[R (l7 (bD (t:Int) be).2.1)])]->gk .normal e L an:=by
   intro e L w9 w' x1 x4 gD k7;refine eH _ _ _ _ nofun (df _ _ _ ?_);rw[<-fr [5,89,90,91] e,gD];refine .aLS ?_;refine⟨(k+1,w9,w',x1,x4,dh++[(cj,cv)]),rfl,?_,⟨I.le_trans le (I.le_trans cn dZ),ae,ai5⟩,by grind⟩
   grind
  have jq:k+1<=c':=by unfold c';omega
  refine⟨?_,?_⟩
  .refine⟨?_,?_⟩;all_goals
    refine .cR 3 _ [b0 cj] rfl rfl (by intro u hu;rw[fx]at hu;subst hu;rfl) jq (by omega) λw9 w' _=>?_
    refine .cR 4 _ [R (l7 (bD (t:Int) be).2.1)] rfl rfl (by intro u hu;rw[fx]at hu;subst hu;rfl) jq (by omega) λx1 x4 _=>?_
    exact fin _ _ w9 w' x1 x4 rfl rfl
  refine .cR 3 _ [b0 cj] rfl rfl (by intro u hu;rw[fx]at hu;subst hu;rfl) jq (by omega) λw9 w' _=>?_;refine .cR 4 _ [R (l7 (bD (t:Int) be).2.1)] rfl rfl (by intro u hu;rw[fx]at hu;subst hu;rfl) jq (by omega) λx1 x4 _=>?_;exact fin _ _ w9 w' x1 x4 rfl rfl
 refine eG _ _ _ _ nofun ?_;obtain rfl:k=p.parts.length:=by omega
 refine cD _ _ kJ lr iO iq dh _ _ rfl le ?_ rfl (by simp)
 grind
end
def ED:dO:=⟨none,0,[]⟩
theorem R4:∀(l:List h9)(m:List Int)(T:Nat),m.length=T->(∀x∈l,0<=x.base/\x.base+x.st.length<=T)->(xL l m).length=T
 |[],_,_,h,_=>h
 |x::l,m,T,h,aj=>by
  have ad:=aj x (iU ..);exact R4 l _ T (by rw[abl (by omega)];exact h) λy aQ=>aj y (iv _ aQ)
theorem bz.ty{h:I}{cap:Nat}(r:bz h bs size (some g) n cap xs):∃a8,h g.block=some (.cells a8 bs (0,0)):=by
 obtain⟨b,ax,rfl,af,_⟩:=r.split;exact⟨_,af⟩
theorem fM{h:I}{x y:Array ao}{s t:Nat}(a6:h a=some (.cells x s (0,0)))(af:h b=some (.cells y t (0,0)))(aC:s≠t):a≠b:=λe=>by
 rw[e,af]at a6;injection a6 with a6;injection a6 with _ q;exact aC q.symm
noncomputable def I.xX(h:I)(S:List Nat):I:=h.on λo=>o∉S
variable {B U ai h:I}
theorem I.axn(h:I)(S:List Nat):(h.xX S).le h:=I.zn _ _
theorem I.Dz{S:List Nat}(ae:o∈S):h.xX S o=none:=by
 unfold I.xX I.on;rw[aE λq=>q ae]
theorem I.aeu{S:List Nat}(ae:o∉S):h.xX S o=h o:=I.mX ae
theorem bz.xX{h:I}{bs size n cap:Nat}{A:Option ar}{xs:List ao}{S:List Nat}(x:bz h bs size A n cap xs)(c5:∀g,A=some g->g.block∉S):bz (h.xX S) bs size A n cap xs:=bz.on x c5
theorem oT(e:A=some g):g.block∈jj A:=by subst e;exact Of _
theorem oe(h:o∈jj A):∃g,A=some g/\g.block=o:=by
 cases A with
 |none=>cases h
 |some g=>rw[jj,fx]at h;exact⟨g,rfl,h.symm⟩
theorem atE{cg fa pd:I}{N C dM ff fX c8 aT:Nat}{eA ct kJ iO:Option ar}{lc bO lr iq:Nat}(db:p.mem=N)(hC:p.bF=C)(gf:p.ins=cm)(hO:p.outs=O)(aj:∀x∈p.lines,0<=x.base/\x.base+x.st.length<=p.mem)(fW:h.le cg)(hm:cg dM=some (gB (j3 p).mem))(az:cg ff=some (.cells (bG cm (oE none 0 0)).toArray 27 (0,0)))(hw:cg fX=some (.cells (bG O (oE none 0 0)).toArray 27 (0,0)))(aw:cg c8=some (gB (bG C 0)))(wG:bz cg 152 4 eA p.lines.length lc (sQ (j3 p).lines))(m0:h dM=none)(f0:h ff=none)(aV:h fX=none)(gT:h c8=none)(rN:∀g,eA=some g->h g.block=none)(Mp:ff≠fX)(Sg:dM≠c8)(ro:bz cg 66 3 ct p.ops.length bO (gJ p.ops))(hv:cg.le fa)(tn:wP cg fa ([dM,ff,fX,c8]++jj eA) dh (p.parts.map B5))(oK:fa aT=none){cs:Array ao}(fg:cs=#[.slice (some ⟨dM,0,none⟩) N N,.slice eA p.lines.length lc,.slice (some ⟨ff,0,none⟩) cm cm,.slice (some ⟨fX,0,none⟩) O O,.slice ct p.ops.length bO,.slice iO p.parts.length iq,.slice kJ p.parts.length lr,.slice (some ⟨c8,0,none⟩) C C,.slice none 0 0,R 0,R 0,.bool false,R 0,.int .u8 0,R 0,.slice none 0 0,.int .u8 0])(qU:(fa.put aT (.cells cs 115 (0,0))).le pd)(Jb:bz pd 121 1 kJ p.parts.length lr (dh.map λq=>b0 q.1))(f7:∀g,kJ=some g->(fa.put aT (.cells cs 115 (0,0))) g.block=none)(FZ:bz pd 3 1 iO p.parts.length iq (p.parts.map λx=>R (l7 (bD x.tag x.be).2.1)))(f8:∀g,iO=some g->(fa.put aT (.cells cs 115 (0,0))) g.block=none):∃B m,h.le B/\cU B pd aT m/\m.x=j3 p/\m.da=bG p.ins.toNat ED:=by
 have Dd:cg.le pd:=I.le_trans hv (I.le_trans (I.du oK) qU);have qN:∀q∈dh,fa q.2≠none:=λq aq=>by
  obtain⟨i,ag,rfl⟩:=rb aq;exact(tn.lM i ag (by have:=tn.len;omega)).some_
 have adn:∀o∈[dM,ff,fX,c8]++jj eA,cg o≠none/\h o=none:=λo ae=>by
  simp only[ev,dC,th,or_false]at ae;rcases ae with(rfl|rfl|rfl|rfl)|ae;exact⟨by rw[hm];nofun,m0⟩;exact⟨by rw[az];nofun,f0⟩;exact⟨by rw[hw];nofun,aV⟩;exact⟨by rw[aw];nofun,gT⟩;obtain⟨g,ak,rfl⟩:=oe ae;subst ak;exact⟨wG.mem rfl,rN g rfl⟩
 obtain⟨S,c5⟩:∃S,S=aT::([dM,ff,fX,c8]++jj eA++dh.map ek):=⟨_,rfl⟩;have wA:∀o,o∈S↔o=aT\/o∈[dM,ff,fX,c8]++jj eA\/o∈dh.map ek:=λo=>by rw[c5,dC,ev]
 have ah7:∀o∈S,(fa.put aT (.cells cs 115 (0,0))) o≠none:=λo ae=>by
  rcases(wA o).1 ae with rfl|ae|ae;rw[I.bP];nofun;have:=(adn o ae).1;cases q:cg o with
  |none=>exact absurd q this
  |some J=>rw[I.du oK _ _ (hv _ _ q)];nofun
  obtain⟨q,aq,rfl⟩:=dn.1 ae;have:=qN q aq;cases e:fa q.2 with
  |none=>exact absurd e this
  |some J=>rw[I.du oK _ _ e];nofun
 have new:∀{A:Option ar},(∀g,A=some g->(fa.put aT (.cells cs 115 (0,0))) g.block=none)->∀g,A=some g->g.block∉S:=λf g ak ae=>ah7 _ ae (f g ak);have y2:(j3 p).mem.length=N:=R4 _ _ N (by simp[db]) λx ad=>by have:=aj x ad;omega
 refine⟨pd.xX S,⟨j3 p,dM,eA,lc,ff,bG cm ED,fX,bG O ED,ct,bO,iO,iq,kJ,lr,dh,c8,none,0⟩,λo J ae=>?_,?_,rfl,by rw[gf];rfl⟩;rw[I.aeu];exact Dd _ _ (fW _ _ ae);intro en;rcases(wA o).1 en with rfl|en|en;rw[I.none_le (I.le_trans fW hv) oK]at ae;cases ae;rw[(adn o en).2]at ae;cases ae;obtain⟨q,aq,rfl⟩:=dn.1 en;rw[I.none_le fW (tn.new q aq)]at ae;cases ae;have out:∀{A:Option ar}{n c:Nat}{xs:List ao},bz cg 66 3 A n c xs->∀g,A=some g->g.block∉S:=by
  intro A n c xs r g ak ae;subst ak;obtain⟨a8,ak⟩:=r.ty;rcases(wA _).1 ae with e|ae|ae;rw[e,I.none_le hv oK]at ak;cases ak;simp only[ev,dC,th,or_false]at ae;rcases ae with(e|e|e|e)|ae;exact fM ak hm (by decide) e;exact fM ak az (by decide) e;exact fM ak hw (by decide) e;exact fM ak aw (by decide) e;obtain⟨b7,dT,e⟩:=oe ae;subst dT;obtain⟨WB,al⟩:=wG.ty;exact fM ak al (by decide) e.symm;obtain⟨q,aq,e⟩:=dn.1 ae;rw[<-e,tn.new q aq]at ak;cases ak
 have h2:(j3 p).lines.length=p.lines.length:=by simp[j3]
 have fk:(j3 p).ops.length=p.ops.length:=rfl;have ig:(j3 p).pD.length=p.parts.length:=by simp[j3]
 have qm:(j3 p).jz.length=p.parts.length:=by simp[j3]
 have DQ:(j3 p).er.length=C:=by simp[j3,hC]
 refine⟨I.axn _ _,I.Dz ((wA _).2 (.inl rfl)),?_,Dd _ _ hm,I.Dz ((wA _).2 (.inr (.inl (by simp)))),?_,λg ak=>I.Dz ((wA _).2 (.inr (.inl (List.mem_append_right _ (oT ak))))),?_,I.Dz ((wA _).2 (.inr (.inl (by simp)))),?_,?_,?_,I.Dz ((wA _).2 (.inr (.inl (by simp)))),?_,?_,?_,Mp,?_,?_,?_,?_,λi h1 ab=>?_,tn.gR,?_,I.Dz ((wA _).2 (.inr (.inl (by simp)))),.inl ⟨rfl,rfl,rfl⟩,nofun,?_⟩;rw[qU _ _ (I.bP _ _ _),fg];simp only[e8.cells,y2,h2,fk,ig,qm,DQ,List.length_replicate];rfl;simp only[h2];exact wG.mono Dd;have:=Dd _ _ az;simp only[un];exact this;simp only[un,j3,gf,bq];rfl;intro d aB;obtain⟨_,rfl⟩:=Oe.1 aB;exact⟨bg.nil _ _ _,dd _⟩;have:=Dd _ _ hw;simp only[un];exact this;simp only[un,j3,hO,bq];rfl;intro d aB;obtain⟨_,rfl⟩:=Oe.1 aB;exact⟨rfl,.inl ⟨rfl,rfl,rfl⟩⟩;intro d aB g ak;obtain⟨_,rfl⟩:=Oe.1 aB;cases ak;exact((ro.mono Dd).xX (S:=S) (out ro)).dG (λr am=>by obtain⟨x,_,rfl⟩:=dn.1 am;rfl) (by decide);simp only[ig];have e:(p.parts.map λx=>R (l7 (bD x.tag x.be).2.1))=(j3 p).pD.map R:=by simp[j3]
 rw[e]at FZ;exact(FZ.xX (S:=S) (new f8)).one;simp only[qm];have:=(Jb.xX (S:=S) (new f7)).dr;rw[List.map_map]at this;exact this;simp only[qm];have:=tn.len;simpa using this;have b:=tn.lM i h1 ab;refine b.to (λo J ae=>?_) ?_ ?_;have q:=I.vp (by rw[ae];nofun);rw[I.mX q]at ae;rw[I.aeu];exact qU _ _ (I.du oK _ _ ae);intro en;rcases(wA o).1 en with rfl|en|en;rw[oK]at ae;cases ae;exact q.1 en;exact q.2 en;have aj:=b.some_;cases e:fa dh[i].2 with
 |none=>exact absurd e aj
 |some J=>exact(qU _ _ (I.du oK _ _ e)).symm
 exact I.Dz ((wA _).2 (.inr (.inr (List.mem_map_of_mem (cS h1)))));simp only[j3,hC,bq];exact Dd _ _ aw;have:(bG O ED).flatMap (λd=>jj d.A)=[]:=by
  rw[List.flatMap_eq_nil_iff];intro d aB;obtain⟨_,rfl⟩:=Oe.1 aB;rfl
 rw[this];simpa[jj]using Sg
theorem rW(af:h b=some J):h.put b J=h:=by
 funext o;simp only[I.put];split;rename_i e;rw[e,af];rfl
theorem bz.whole(r:bz h bs size (some g) n n xs):∃b,g=⟨b,0,none⟩/\h b=some (.cells xs.toArray bs (0,0)):=by
 obtain⟨b,ax,e,af,al,_⟩:=r.split;rw[Nat.sub_self,Nat.zero_mul]at al;rw[ra al,zR]at af;exact⟨b,e,af⟩
theorem PR{K:List LE->I->Prop}{bk kO:ar}{ab:I}{aN:List ao}(ux uy uz uA uB:LE)(k:∀an,ab.le an->bz an 27 1 (some bk) cm cm xs->bz an 27 1 (some kO) O O aN->ab bk.block=none->ab kO.block=none->bk.block≠kO.block->e9 K [ux,uy,uz,uA,uB,.gone,.gone] an):e9 K [ux,uy,uz,uA,uB,.row 27 1 (some bk) cm cm xs,.row 27 1 (some kO) O O aN] ab:=.bV 5 27 1 (some bk) cm cm _ rfl λ_ dZ gi f3=>.bV 6 27 1 (some kO) O O _ rfl λaR cW fT f4=>k aR (I.le_trans dZ cW) (gi.mono cW) fT (f3 bk rfl) (I.none_le dZ (f4 kO rfl)) λe=>gi.mem rfl (by rw[e];exact f4 kO rfl)
theorem alA{K:List LE->I->Prop}{bk kO:ar}{ab:I}{aN:List ao}(ux uy uz uA uB:LE)(k:∀an,ab.le an->bz an 27 1 (some bk) cm cm xs->bz an 27 1 (some kO) O O aN->ab bk.block=none->ab kO.block=none->bk.block≠kO.block->e9 K [ux,uy,uz,uA,uB,.gone,.gone] an):e9 K [ux,uy,uz,uA,uB,.row 27 1 (some kO) O O aN,.row 27 1 (some bk) cm cm xs] ab:=.bV 5 27 1 (some kO) O O _ rfl λ_ dZ gi f3=>.bV 6 27 1 (some bk) cm cm _ rfl λaR cW fT f4=>k aR (I.le_trans dZ cW) fT (gi.mono cW) (I.none_le dZ (f4 bk rfl)) (f3 kO rfl) λe=>gi.mem rfl (by rw[<-e];exact f4 bk rfl)
theorem auu(p:km)(T:Int)(h:I)(ok:p.ok h)(fV:p.yh T):Fn aH 27 #[.agg p.cells.toArray] h λv U=>∃aT B m,v= .tuple #[b0 aT,R 0]/\h.le B/\cU B U aT m/\m.x=j3 p/\m.da=bG p.ins.toNat ED:=by
 have a0:=fV.m0;have cP:=fV.m1;have bL:=fV.gT;have cy:=fV.c1;have gE:=fV.i0;have iW:=fV.i1;have jy:=fV.mV;have pO:=fV.nK;have uG:=fV.SM;have yy:=fV.li;have B3:=fV.op;have t6:p.cells=[R p.mem,R p.bF,R p.ins,R p.outs,.slice p.im p.parts.length p.cH,.slice p.eA p.lines.length p.lc,.slice p.ct p.ops.length p.bO]:=rfl;have V5:=ajk p T h ok fV;rw[t6]at V5⊢;refine b5 LW rfl ?_;refine aK λgS dy gY=>?_;refine dy _ _ _ ?_;refine aK λgO dx eG=>?_;refine aK λgu df fK=>?_;refine .done (.mk _ V5 ?_);rintro _ h1 ⟨rfl,cr⟩;refine df _ _ _ ?_;refine dx _ _ _ ?_;refine aK λgk ed eH=>?_;obtain⟨N,db⟩:∃N:Nat,p.mem=N:=⟨p.mem.toNat,by omega⟩;obtain⟨C,hC⟩:∃N:Nat,p.bF=N:=⟨p.bF.toNat,by omega⟩;obtain⟨cm,gf⟩:∃N:Nat,p.ins=N:=⟨p.ins.toNat,by omega⟩;obtain⟨O,hO⟩:∃N:Nat,p.outs=N:=⟨p.outs.toNat,by omega⟩;have iH:∀(e:bY)(ct:Option ar)(bO:Nat)(gc:ar)(w1 uu:LE),[1,5].map e=[.p 0 0,.p 3 0]->(∀(K:List LE->I->Prop)(Y X:LE)(cB:List LE),(∀ab,h1.le ab->bz ab 66 3 ct p.ops.length bO (gJ p.ops)->bz ab 3 1 (some gc) C C (bG C (R 0))->(∀g,ct=some g->h1 g.block=none)->h1 gc.block=none->e9 K (Y:: .gone:: .gone::X::cB) ab)->e9 K (Y::w1::uu::X::cB) h1)->gk .normal e [.own (rU p) 42,w1,uu,.own [.v (.slice none 0 0),.v (.slice none 0 0),.v (.slice none 0 0),.v (.slice none 0 0),.v (.slice ct p.ops.length bO),.v (.slice none 0 0),.v (.slice none 0 0),.v (.slice (some gc) C C),.v (.slice none 0 0),.v (R 0),.v (R 0),.v (.bool false),.v (R 0),.v (.int .u8 0),.v (R 0),.v (.slice none 0 0),.v (.int .u8 0)] 115] h1:=by
  intro e ct bO gc w1 uu he anW;refine ed _ _ _ ?_;rw[<-fr [1,5] e,he];refine aK λhA dY hL=>?_;refine .one N (R 0) rfl rfl db db (by omega) (by omega) λCq=>?_;refine dY _ _ _ ?_;refine aK λhc eT hi=>?_;have MR:∀(e:bY)(bk kO:ar)(D8 OC:LE),[1,5].map e=[.p 0 0,.p 3 0]->(∀(K:List LE->I->Prop)(ux uy uz uA uB:LE)(ab:I),(∀an,ab.le an->bz an 27 1 (some bk) cm cm (bG cm (.slice none 0 0))->bz an 27 1 (some kO) O O (bG O (.slice none 0 0))->ab bk.block=none->ab kO.block=none->bk.block≠kO.block->e9 K [ux,uy,uz,uA,uB,.gone,.gone] an)->e9 K [ux,uy,uz,uA,uB,D8,OC] ab)->hc .normal e [.own (rU p) 42,w1,uu,.own [.v (.slice (some Cq) N N),.v (.slice none 0 0),.v (.slice (some bk) cm cm),.v (.slice (some kO) O O),.v (.slice ct p.ops.length bO),.v (.slice none 0 0),.v (.slice none 0 0),.v (.slice (some gc) C C),.v (.slice none 0 0),.v (R 0),.v (R 0),.v (.bool false),.v (R 0),.v (.int .u8 0),.v (R 0),.v (.slice none 0 0),.v (.int .u8 0)] 115,.row 3 1 (some Cq) N N (bG N (R 0)),D8,OC] h1:=by
   intro e bk kO D8 OC he anX;refine eT _ _ _ ?_;rw[<-fr [1,5] e,he];refine aK λkb fE i'=>?_;refine aK λkc gg j1=>?_;refine gg _ _ _ ?_;refine fG λko g' ja=>?_;refine .lj (anW _ _ _ _ λab cn ro rc bn pW=>anX _ _ _ _ _ _ _ λan dZ awF axe tA pc Mp=>.bV 4 3 1 (some Cq) N N _ rfl λaR cW awI Aw=>.abs 152 4 none 0 0 [] ⟨rfl,.inl ⟨rfl,rfl,rfl⟩⟩ (.done ?_));have Aw:=Aw Cq rfl;have awJ:bz aR 3 1 (some Cq) N N ((bG N (0:Int)).map R):=by rw[un];exact awI
   have awj:bz ab 3 1 (some gc) C C ((bG C (0:Int)).map R):=by rw[un];exact rc
   obtain⟨dM,rfl,xx⟩:=awJ.whole;obtain⟨c8,rfl,Lc⟩:=awj.whole;obtain⟨ff,rfl,Zf⟩:=awF.whole;obtain⟨fX,rfl,Z4⟩:=axe.whole;simp only at Aw tA pc pW Mp;have abu:h1.le aR:=I.le_trans cn (I.le_trans dZ cW);have m1:h1 dM=none:=I.none_le (I.le_trans cn dZ) Aw;have anQ:aR.put dM (gB (bG N 0))=aR:=rW xx;show kH _ _ _ _ aR;rw[<-anQ];refine auw ko _ p h1 aR (ok.mono cr) dM N ff cm fX O ct p.ops.length bO c8 C abu m1 yy (by omega) (bG N 0) (by simp) (λx ad=>by have:=fV.ch x ad;omega) [0,3,7] _ rfl rfl rfl λe eA lc rows he CS=>?_;refine g' _ _ _ (fE _ _ _ ?_);rw[<-fr [1,5] e,he];have fW:aR.le (aR.put dM (gB (xL p.lines (bG N 0))))\/True:=.inr trivial;refine aK λlq gX kR=>?_;refine aK λsd lC sK=>?_;refine lC _ _ _ ?_;refine fG λqx lD pr=>?_;generalize hH:aR.put dM (gB (xL p.lines (bG N 0)))=H;have Db:h1.le H:=by rw[<-hH];exact kT m1 abu
   refine .lj (.bV 2 152 4 eA p.lines.length lc rows rfl λcg fW mA f5=>.abs 121 1 none 0 0 [] ⟨rfl,.inl ⟨rfl,rfl,rfl⟩⟩ (.abs 3 1 none 0 0 [] ⟨rfl,.inl ⟨rfl,rfl,rfl⟩⟩ (.done ?_)));show kH _ _ _ _ cg;have Se:ff≠dM:=fM (cW _ _ Zf) xx (by decide);have acx:dM≠c8:=λe=>by
    have:=I.none_le dZ Aw;rw[e,Lc]at this;cases this
   have b2:∀{o:Nat}{J:Obj},aR o=some J->o≠dM->cg o=some J:=λ{o J} ae bH=>fW _ _ (by rw[<-hH,I.cf _ _ bH];exact ae);have ZA:cg dM=some (gB (j3 p).mem):=fW _ _ (by rw[<-hH,I.bP];simp[j3,db]);have Sg:dM≠c8:=acx;have Ze:=b2 (cW _ _ Zf) Se;have Z3:=b2 (cW _ _ Z4) (fM (cW _ _ Z4) xx (by decide));have Y0:=b2 (cW _ _ (dZ _ _ Lc)) acx.symm;have ua:bz cg 66 3 ct p.ops.length bO (gJ p.ops):=by
    have fT:=(ro.mono dZ).mono cW;have:bz H 66 3 ct p.ops.length bO (gJ p.ops):=by
     rw[<-hH];refine bz.ju fT λg ak e=>?_;subst ak;obtain⟨a8,ak⟩:=fT.ty;rw[e,xx]at ak;injection ak with ak;injection ak with _ q;cases q
    exact this.mono fW
   refine aux p dM N ff cm fX O eA p.lines.length lc ct p.ops.length bO c8 C qx _ cg ([dM,ff,fX,c8]++jj eA) (ok.mono (I.le_trans cr (I.le_trans Db fW))) ?_ uG fV.F8 rfl λe fa kJ lr iO iq dh zK z1 he hv tn alX amb=>?_;intro o ae;simp only[ev,dC,th,or_false]at ae;rcases ae with(rfl|rfl|rfl|rfl)|ae;rw[ZA];nofun;rw[Ze];nofun;rw[Z3];nofun;rw[Y0];nofun;obtain⟨g,ak,rfl⟩:=oe ae;subst ak;exact mA.mem rfl;refine lD _ _ _ (gX _ _ _ ?_);rw[<-fr [5] e,he];refine .mk λaT oK=>?_;refine .bV 3 121 1 kJ p.parts.length lr zK rfl λmi mv Jb f7=>.bV 4 3 1 iO p.parts.length iq z1 rfl λpd qU FZ f8=>.done ?_;subst alX amb CS;obtain⟨B,m,aM,aD,bj⟩:=atE db hC gf hO (λx ad=>by have:=fV.ch x ad;omega) (I.le_trans cr (I.le_trans Db fW)) ZA Ze Z3 Y0 mA (I.none_le cr m1) (I.none_le cr (I.none_le cn tA)) (I.none_le cr (I.none_le cn pc)) (I.none_le cr pW) (λg ak=>I.none_le cr (I.none_le Db (f5 g ak))) Mp Sg ua hv tn oK rfl (I.le_trans mv qU) (Jb.mono qU) f7 FZ (λg ak=>I.none_le mv (f8 g ak));exact⟨aT,B,m,rfl,aM,aD,bj⟩
  refine⟨?_,?_⟩
  .refine .one cm (.slice none 0 0) rfl rfl gf gf (by omega) (by omega) λbk=>?_;refine⟨?_,?_⟩
   .refine⟨?_,?_⟩;all_goals
     refine .one O (.slice none 0 0) rfl rfl hO hO (by omega) (by omega) λkO=>?_
     exact MR _ bk kO _ _ rfl λK ux uy uz uA uB ab k=>PR _ _ _ _ _ k
   refine .one O (.slice none 0 0) rfl rfl hO hO (by omega) (by omega) λkO=>?_;exact MR _ bk kO _ _ rfl λK ux uy uz uA uB ab k=>PR _ _ _ _ _ k
  refine⟨?_,?_⟩
  .refine .one cm (.slice none 0 0) rfl rfl gf gf (by omega) (by omega) λbk=>?_;refine⟨?_,?_⟩;all_goals
    refine .one O (.slice none 0 0) rfl rfl hO hO (by omega) (by omega) λkO=>?_
    exact MR _ bk kO _ _ rfl λK ux uy uz uA uB ab k=>PR _ _ _ _ _ k
  refine .one O (.slice none 0 0) rfl rfl hO hO (by omega) (by omega) λkO=>?_;refine .one cm (.slice none 0 0) rfl rfl gf gf (by omega) (by omega) λbk=>?_;exact MR _ bk kO _ _ rfl λK ux uy uz uA uB ab k=>alA _ _ _ _ _ k
 refine⟨?_,?_⟩;refine .fresh (gJ p.ops) rfl rfl rfl ((ok.ops.mono cr).src _) (Dn _) (by unfold c';omega) (by omega) λct bO _=>?_;refine .one C (R 0) rfl rfl hC hC (by omega) (by omega) λgc=>?_;exact iH _ ct bO gc _ _ rfl λK Y X cB k=>.bV 1 66 3 ct p.ops.length bO _ rfl λab cn dU f2=>.bV 2 3 1 (some gc) C C _ rfl λan dZ gi f3=>k an (I.le_trans cn dZ) (dU.mono dZ) gi f2 (I.none_le cn (f3 gc rfl));refine .one C (R 0) rfl rfl hC hC (by omega) (by omega) λgc=>?_;refine .fresh (gJ p.ops) rfl rfl rfl ((ok.ops.mono cr).src _) (Dn _) (by unfold c';omega) (by omega) λct bO _=>?_;exact iH _ ct bO gc _ _ rfl λK Y X cB k=>.bV 1 3 1 (some gc) C C _ rfl λab cn dU f2=>.bV 2 66 3 ct p.ops.length bO _ rfl λan dZ gi f3=>k an (I.le_trans cn dZ) gi (dU.mono dZ) (λg ak=>I.none_le cn (f3 g ak)) (f2 gc rfl)
theorem G5(t:Nat):298<=B6 t:=by
 unfold B6;split<;>decide
theorem ln.ty{x:lG}(k:ln B h cj cv x):∃a8,h cv=some (.cells a8 (B6 x.tag) (0,0)):=by
 obtain⟨_,_,_,_,_,g,_⟩:=k.ex;exact⟨_,g⟩
theorem iS.ju{l:List Int}(x:iS h A l c)(e:∀g,A=some g->g.block≠b):iS (h.put b J) A l c:=by
 rcases x with x|⟨eP,off,a8,aM,aD,bj⟩;exact .inl x;exact .inr ⟨eP,off,a8,aM,by rw[I.cf _ _ (e _ aM)];exact aD,bj⟩
theorem iS.mono{l:List Int}(x:iS h A l c)(le:h.le U):iS U A l c:=by
 rcases x with x|⟨eP,off,a8,aM,aD,bj⟩;exact .inl x;exact .inr ⟨eP,off,a8,aM,le _ _ aD,bj⟩
theorem iS.ty{l:List Int}(x:iS h (some g) l c):∃a8,h g.block=some (.cells a8 3 (0,0)):=by
 rcases x with⟨x,_⟩|⟨eP,off,a8,aM,aD,bj⟩;cases x;injection aM with aM;subst aM;exact⟨_,aD⟩
section
variable {B h:I}{aT b:Nat}{m:e8}{J:Obj}{a8:Array ao}{t:Nat}
structure yu(B h:I)(aT:Nat)(m:e8)(t:Nat)(b:Nat)(J:Obj):Prop where
 le:B.le (h.put b J)
 box:t≠115->(h.put b J) aT=some (.cells m.cells.toArray 115 (0,0))
 mem:m.dM≠b->(h.put b J) m.dM=some (gB m.x.mem)
 mx:t≠152->bz (h.put b J) 152 4 m.eA m.x.lines.length m.lc (sQ m.x.lines)
 da:m.ff≠b->(h.put b J) m.ff=some (.cells (m.da.map dO.val).toArray 27 (0,0))
 wr:m.fX≠b->(h.put b J) m.fX=some (.cells (m.wr.map dO.val).toArray 27 (0,0))
 jg:(∀d∈m.wr,b∉jj d.A)->∀d∈m.wr,bz (h.put b J) 3 1 d.A d.l.length d.c (d.l.map R)
 lM:t<298->∀i(h1:i<m.dh.length)(ab:i<m.x.jz.length),ln B (h.put b J) m.dh[i].1 m.dh[i].2 m.x.jz[i]
 er:m.c8≠b->(h.put b J) m.c8=some (gB m.x.er)
 hand:b∉jj m.aO->iS (h.put b J) m.aO m.x.hand m.aw
theorem cU.stay(k:cU B h aT m)(af:h b=some (.cells a8 t (0,0)))(eD:B b=none):yu B h aT m t b J:=by
 refine⟨kT eD k.le,λe=>?_,λe=>?_,λe=>?_,λe=>?_,λe=>?_,λe d aB=>?_,λe i h1 ab=>?_,λe=>?_,λe=>?_⟩;rw[I.cf _ _ (fM k.box af (d9 e))];exact k.box;rw[I.cf _ _ e];exact k.mem;refine bz.ju k.mx λg ak=>?_;have r:=k.mx;rw[ak]at r;obtain⟨bu,eZ⟩:=r.ty;exact fM eZ af (d9 e);rw[I.cf _ _ e];exact k.da;rw[I.cf _ _ e];exact k.wr;exact bz.ju (k.jg d aB) λg ak q=>e d aB (by rw[<-q];exact oT ak);have ix:=k.lM i h1 ab;obtain⟨bu,eZ⟩:=ix.ty;have:=G5 m.x.jz[i].tag;exact ix.to (I.le_refl _) (I.cf _ _ (fM eZ af (by omega))).symm ix.zg;rw[I.cf _ _ e];exact k.er;exact k.hand.ju λg ak q=>e (by rw[<-q];exact oT ak)
theorem cU.aex(k:cU B h aT m)(l:List Int)(A:Option ar)(c:Nat)(next jc:Int)(st:Bool)(A2:Int)(L8:Nat)(hY:Int)(abM:Nat)(aP:iS h A l c)(ai:∀g,A=some g->B g.block=none)(sep:(m.dM::m.c8::(jj A++m.wr.flatMap λd=>jj d.A)).Nodup){J:Obj}(aL:J= .cells ({m with x:={m.x with hand:=l,next:=next,jc:=jc,zB:=st,A2:=A2,IH:=L8,II:=hY,IE:=abM},aO:=A,aw:=c}:e8).cells.toArray 115 (0,0)):cU B (h.put aT J) aT {m with x:={m.x with hand:=l,next:=next,jc:=jc,zB:=st,A2:=A2,IH:=L8,II:=hY,IE:=abM},aO:=A,aw:=c}:=by
 have s:yu B h aT m 115 aT J:=k.stay k.box k.qD;have hZ:∀{o:Nat}{a8:Array ao}{t:Nat},h o=some (.cells a8 t (0,0))->t≠115->o≠aT:=λae av=>fM ae k.box av;refine⟨s.le,k.qD,by rw[I.bP,aL],s.mem (hZ k.mem (by decide)),k.ob,s.mx (by decide),k.sP,s.da (hZ k.da (by decide)),k.sm,k.qH,k.pX,s.wr (hZ k.wr (by decide)),k.s',k.pG,s.jg λd aB q=>?_,k.ql,k.pc,k.ops,k.r3,k.rp,k.rq,s.lM (by decide),k.sL,s.er (hZ k.er (by decide)),k.sg,aP.ju λg ak=>?_,ai,sep⟩;obtain⟨g,ak,e⟩:=oe q;have r:=k.jg d aB;rw[ak]at r;obtain⟨bu,eZ⟩:=r.ty;exact hZ eZ (by decide) e;subst ak;obtain⟨bu,eZ⟩:=aP.ty;exact hZ eZ (by decide)
theorem cU.Eo(k:cU B h aT m):m.dM≠m.c8/\m.c8∉jj m.aO/\m.dM∉jj m.aO/\∀d∈m.wr,m.c8∉jj d.A/\m.dM∉jj d.A:=by
 have s:=k.sep;rw[k3,k3]at s;obtain⟨s1,s2,_⟩:=s;simp only[dC,ev,qv,not_or]at s1 s2;exact⟨s1.1,s2.1,s1.2.1,λd aB=>⟨λq=>s2.2 ⟨d,aB,q⟩,λq=>s1.2.2 ⟨d,aB,q⟩⟩⟩
theorem cU.aey(k:cU B h aT m)(l:List Int)(al:l.length=m.x.er.length):cU B (h.put m.c8 (gB l)) aT {m with x:={m.x with er:=l}}:=by
 have s:yu B h aT m 3 m.c8 (gB l):=k.stay k.er k.sg;obtain⟨dF,dR,hZ,xN⟩:=k.Eo;refine⟨s.le,k.qD,?_,s.mem dF,k.ob,s.mx (by decide),k.sP,s.da (fM k.da k.er (by decide)),k.sm,k.qH,k.pX,s.wr (fM k.wr k.er (by decide)),k.s',k.pG,s.jg λd aB=>(xN d aB).1,k.ql,k.pc,k.ops,k.r3,k.rp,k.rq,s.lM (by decide),k.sL,I.bP _ _ _,k.sg,s.hand dR,k.pf,k.sep⟩;rw[s.box (by decide)];simp only[e8.cells,al]
theorem cU.aeA(k:cU B h aT m)(l:List Int)(al:l.length=m.x.mem.length):cU B (h.put m.dM (gB l)) aT {m with x:={m.x with mem:=l}}:=by
 have s:yu B h aT m 3 m.dM (gB l):=k.stay k.mem k.ob;obtain⟨dF,dR,hZ,xN⟩:=k.Eo;refine⟨s.le,k.qD,?_,I.bP _ _ _,k.ob,s.mx (by decide),k.sP,s.da (fM k.da k.mem (by decide)),k.sm,k.qH,k.pX,s.wr (fM k.wr k.mem (by decide)),k.s',k.pG,s.jg λd aB=>(xN d aB).2,k.ql,k.pc,k.ops,k.r3,k.rp,k.rq,s.lM (by decide),k.sL,s.er (d9 dF),k.sg,s.hand hZ,k.pf,k.sep⟩;rw[s.box (by decide)];simp only[e8.cells,al]
theorem cU.axu(k:cU B h aT m)(ak:m.eA=some g){J:Obj}(l:List m')(al:l.length=m.x.lines.length)(r:bz (h.put g.block J) 152 4 m.eA l.length m.lc (sQ l)):cU B (h.put g.block J) aT {m with x:={m.x with lines:=l}}:=by
 have vr:=k.mx;rw[ak]at vr;obtain⟨a8,aw⟩:=vr.ty;have eD:=k.sP g ak;have s:yu B h aT m 152 g.block J:=k.stay aw eD;refine⟨s.le,k.qD,?_,s.mem (fM k.mem aw (by decide)),k.ob,r,k.sP,s.da (fM k.da aw (by decide)),k.sm,k.qH,k.pX,s.wr (fM k.wr aw (by decide)),k.s',k.pG,s.jg λd aB q=>?_,k.ql,k.pc,k.ops,k.r3,k.rp,k.rq,s.lM (by decide),k.sL,s.er (fM k.er aw (by decide)),k.sg,s.hand λq=>?_,k.pf,k.sep⟩;rw[s.box (by decide)];simp only[e8.cells,al];obtain⟨b7,dT,e⟩:=oe q;have r:=k.jg d aB;rw[dT]at r;obtain⟨bu,eZ⟩:=r.ty;exact fM eZ aw (by decide) e;obtain⟨b7,dT,e⟩:=oe q;have r:=k.hand;rw[dT]at r;obtain⟨bu,eZ⟩:=r.ty;exact fM eZ aw (by decide) e
theorem cU.aez(k:cU B h aT m)(f:List dO)(al:f.length=m.da.length)(az:∀d∈f,d.ok B/\d.l.length<=d.c):cU B (h.put m.ff (.cells (f.map dO.val).toArray 27 (0,0))) aT {m with x:={m.x with da:=f.map dO.l},da:=f}:=by
 have s:yu B h aT m 27 m.ff (.cells (f.map dO.val).toArray 27 (0,0)):=k.stay k.da k.sm;refine⟨s.le,k.qD,?_,s.mem (fM k.mem k.da (by decide)),k.ob,s.mx (by decide),k.sP,I.bP _ _ _,k.sm,rfl,az,s.wr (d9 k.pc),k.s',k.pG,s.jg λd aB q=>?_,k.ql,k.pc,k.ops,k.r3,k.rp,k.rq,s.lM (by decide),k.sL,s.er (fM k.er k.da (by decide)),k.sg,s.hand λq=>?_,k.pf,k.sep⟩;rw[s.box (by decide)];simp only[e8.cells,al];obtain⟨b7,dT,e⟩:=oe q;have r:=k.jg d aB;rw[dT]at r;obtain⟨bu,eZ⟩:=r.ty;exact fM eZ k.da (by decide) e;obtain⟨b7,dT,e⟩:=oe q;have r:=k.hand;rw[dT]at r;obtain⟨bu,eZ⟩:=r.ty;exact fM eZ k.da (by decide) e
theorem cU.grow{U:I}(k:cU B h aT m)(le:h.le U):cU (B.grow h U) U aT m:=by
 have rx:=Cs k.le le;have tB:∀{o:Nat}{x:Obj},B o=none->h o=some x->B.grow h U o=none:=λh1 ab=>xm h1 (by rw[ab];nofun);refine⟨I.zn _ _,tB k.qD k.box,le _ _ k.box,le _ _ k.mem,tB k.ob k.mem,k.mx.mono le,λg ak=>?_,le _ _ k.da,tB k.sm k.da,k.qH,λd aB=>⟨(k.pX d aB).1.mono rx,(k.pX d aB).2⟩,le _ _ k.wr,tB k.s' k.wr,k.pG,λd aB=>(k.jg d aB).mono le,λd aB g ak=>?_,k.pc,k.ops.mono rx,k.r3.mono rx,k.rp.mono rx,k.rq,λi h1 ab=>?_,k.sL,le _ _ k.er,tB k.sg k.er,k.hand.mono le,λg ak=>?_,k.sep⟩;have r:=k.mx;rw[ak]at r;exact xm (k.sP g ak) (r.mem rfl);have r:=k.jg d aB;rw[ak]at r;exact xm (k.ql d aB g ak) (r.mem rfl);have ix:=k.lM i h1 ab;have aj:=ix.some_;refine ix.to rx ?_ (xm ix.zg aj);cases e:h m.dh[i].2 with
 |none=>exact absurd e aj
 |some J=>exact(le _ _ e).symm
 have r:=k.hand;rw[ak]at r;obtain⟨bu,eZ⟩:=r.ty;exact tB (k.pf g ak) eZ
end
def nf(base size s:Int)(n:Nat):List Int:=(List.range n).map λ(k:Nat)=>base+(s+k)%size
theorem Wl(base size s:Int)(n:Nat):nf base size s (n+1)=nf base size s n++[base+(s+n)%size]:=by
 simp[nf,List.range_succ]
theorem Wh(g:ar)(base size at_ xb:Int)(n:Nat)(h:I)(gT:h.cell? g=some (R base))(c1:h.cell? (g.add 1)=some (R size))(c2:h.cell? (g.add 2)=some (R at_))(af:0<=base/\base<=100000)(aj:0<n->1<=size)(iK:size<=100000)(a6:0<=at_/\at_<=100000)(aQ:0<=xb/\xb<=100000)(aC:n<=1000):Fn aH 179 #[.pointer (some g),R xb,R n] h λv U=>h.le U/\∃A c,v= .slice A n c/\bz U 3 1 A n c ((nf base size (at_+xb) n).map R)/\∀g,A=some g->h g.block=none:=by
 refine b5 arC rfl ?_;refine aK λgS dy gY=>?_;refine dy _ _ _ ?_;refine aK λgO dx eG=>?_;refine dx _ _ _ ?_;refine aK λgu df fK=>?_;refine aK λgk ed eH=>?_;refine ed _ _ _ ?_;refine fG λhA dY hL=>?_;refine .lj (.abs 3 1 none 0 0 [] ⟨rfl,.inl ⟨rfl,rfl,rfl⟩⟩ (.done ?_));show kH _ _ _ _ h;refine .mk (Nat×Option ar×Nat) [0,1,7,9,10] (λ(k,A,c)=>[.v (.pointer (some g)),.v (R xb),.v (.slice A k c),.v (R n),.v (R k)]) (λ(k,A,c)=>[.row 3 1 A k c ((nf base size (at_+xb) k).map R)]) (λ(k,_,_) U=>U=h/\k<=n) (λ(k,_,_)=>n-k) (0,none,0) (λ_=>rfl) ⟨rfl,cO _⟩ rfl rfl ?_;rintro⟨k,A,c⟩ e _ ⟨rfl,hk⟩;refine aK λhc eT hi=>?_;refine eT _ _ _ ?_;refine aK λkb fE i'=>?_;refine aW (λq=>?_) (λq=>?_);have qQ:=aj (by omega);refine fE _ _ _ ?_;refine aK λkc gg j1=>?_;refine fG λko g' ja=>?_;refine aK λlq gX kR=>?_;refine gX _ _ _ ?_;refine .hp (R base) (by rw[add_zero,add_zero];exact gT) ?_;refine .hp (R at_) c2 ?_;refine .aLS ?_;refine .aLS ?_;refine .hp (R size) (by rw[add_zero];exact c1) ?_;conv=>whnf
 have sw:=NZ (at_+xb+k) (b:=size) (by omega);have mS:=NY (at_+xb+k) (b:=size) (by omega);rw[ag2 (by omega)];refine .mk (by omega) (.aLS ?_);refine .cR 0 _ [R (base+(at_+xb+k)%size)] rfl rfl (by intro u hu;rw[fx]at hu;subst hu;rfl) (by unfold c';omega) (by omega) λbA bu _=>?_;refine ja _ _ _ _ nofun (gg _ _ _ ?_);refine .aLS ?_;refine⟨(k+1,bA,bu),rfl,?_,⟨rfl,by omega⟩,by show n- (k+1)<n-k;omega⟩;show _=[LE.row 3 1 bA (k+1) bu ((nf base size (at_+xb) (k+1)).map R)];rw[Wl,fm];rfl;refine i' _ _ _ _ nofun (dY _ _ _ (df _ _ _ ?_));obtain rfl:k=n:=by omega
 refine .bV 0 3 1 A k c _ rfl λU le r f=>.done ⟨le,A,c,rfl,r,f⟩
def jx(h U:I):Prop:=∀o a8,h o=some (.cells a8 113 (0,0))->U o=some (.cells a8 113 (0,0))
theorem jx.of_le(le:h.le U):jx h U:=λ_ _ e=>le _ _ e
theorem jx.trans{a b c:I}(x:jx a b)(y:jx b c):jx a c:=λo a8 e=>y o a8 (x o a8 e)
theorem jx.put{h:I}{b:Nat}{J:Obj}{a8:Array ao}{t:Nat}(af:h b=some (.cells a8 t (0,0)))(av:t≠113):jx h (h.put b J):=λo c e=>by
 rw[I.cf _ _ (fM e af (d9 av))];exact e
theorem abO(l:List m'):∀r∈l.map m'.cells,r.length=4:=λr am=>by obtain⟨x,_,rfl⟩:=dn.1 am;rfl
theorem atm{l:List m'}{x:m'}{v:ao}(a6:a<l.length)(ae:o<4)(ad:x.cells=(l[a].cells).set o v):(sQ l).set (a*4+o) v=sQ (l.set a x):=by
 unfold sQ;rw[X3 _ (abO l) a o l[a].cells v (by rw[dV,bZ a6];rfl) ae,<-ad,List.map_set]
def ym(B h dS:I):Prop:=∀o a8,h o=some (.cells a8 113 (0,0))->B o=none->dS o=none
theorem ym.grow{B h U:I}:ym B h (B.grow h U):=λ_ _ e b=>xm b (by rw[e];nofun)
theorem ym.trans{dS Uj:I}(x:ym B h dS)(Iv:jx h U)(y:ym dS U Uj):ym B h Uj:=λo a8 e b=>y o a8 (Iv o a8 e) (x o a8 e b)
section
variable {B h:I}{aT:Nat}{m:e8}
theorem cU.abN(k:cU B h aT m):bg h 4 m.eA m.x.lines.length (m.x.lines.map m'.cells):=k.mx.dG (abO _) (by decide)
theorem cU.Fv(k:cU B h aT m)(a6:a<m.x.lines.length):∃jb,m.eA=some ⟨jb,0,none⟩/\∀o v,(m.x.lines[a].cells)[o]?=some v->h.cell? ((⟨jb,a*4,none⟩:ar).add o)=some v:=by
 obtain⟨g,ak⟩:=k.abN.cc (by omega);obtain⟨jb,ax,e,_⟩:=(show bz h 152 4 (some g) m.x.lines.length m.lc (sQ m.x.lines)from by rw[<-ak];exact k.mx).split;subst e;refine⟨jb,ak,λo v ah=>?_⟩;have:=k.abN.row ak (i:=a) (r:=m.x.lines[a].cells) (by rw[dV,bZ a6];rfl) o v ah;rwa[add_lit,dJ]at this
theorem cU.RU(k:cU B h aT m)(p3:m.eA=some ⟨jb,0,none⟩)(a6:a<m.x.lines.length)(ae:o<4){x:m'}{v:ao}(ad:x.cells=(m.x.lines[a].cells).set o v):∃cs gQ:List ao,h jb=some (.cells cs.toArray 152 (0,0))/\over cs (a*4+o) [v]=some gQ/\jx h (h.put jb (.cells gQ.toArray 152 (0,0)))/\cU B (h.put jb (.cells gQ.toArray 152 (0,0))) aT {m with x:={m.x with lines:=m.x.lines.set a x}}:=by
 obtain⟨g,cs,gQ,e,af,aL,r⟩:=k.mx.write (off:=a*4+o) (by omega) v;rw[p3]at e;injection e with e;injection e with e;subst e;rw[atm a6 ae ad]at r;refine⟨cs,gQ,af,aL,.put af (by decide),k.axu p3 _ (by simp) ?_⟩;rw[k2];exact r
theorem bz.grown(r:bz U bs size A n c xs)(f:∀g,A=some g->h g.block=none):bz (B.grow h U) bs size A n c xs:=bz.on r λg ak=>.inr (f g ak)
def vw(mem:List Int)(base size s:Int)(n:Nat):List Int:=(nf base size s n).map λc=>mem.getD c.toNat 0
theorem ayD(mem:List Int)(base size s:Int)(n:Nat):vw mem base size s (n+1)=vw mem base size s n++[mem.getD (base+(s+n)%size).toNat 0]:=by
 rw[vw,Wl,fm];rfl
theorem Wj{size s:Int}{k:Nat}(hk:k<n):(nf base size s n)[k]?=some (base+(s+k)%size):=by
 simp[nf,hk]
theorem cU.atS(k:cU B h aT m)(aw:c<m.x.mem.length):h.cell? ((⟨m.dM,0,none⟩:ar).add (c*1))=some (R (m.x.mem.getD c 0)):=by
 rw[add_lit,dJ,ew];refine bN k.mem ?_;simp[List.getD_eq_getElem?_getD,bZ aw]
theorem awn(k:cU B h aT m)(Q:dL)(e:bY)(wD Sb:ao)(w:ao)(qC:Option ar)(jP n:Nat)(base size s:Int)(lT:bg h 1 qC n (gZ (nf base size s n)))(af:0<=base)(aj:1<=size)(tC:base+size<=m.x.mem.length)(aC:n<=1000)(he:[0,1,2,8,9,15,16,17].map e=[.v (b0 aT),.v wD,.v Sb,.v w,.v (.slice none 0 0),.v (.slice qC n jP),.v (R n),.v (R (0:Nat))])(cD:∀e A c rows,[0,1,2,8,9].map e=[.v (b0 aT),.v wD,.v Sb,.v w,.v (.slice A n c)]->rows=(vw m.x.mem base size s n).map R->Q (.exit 0) e [.row 3 1 A n c rows] h):kH (λQ e L h=>c7 aH 57 ao' Q e L h) Q e [.row 3 1 none 0 0 []] h:=by
 refine .mk (Nat×Option ar×Nat) [0,1,2,8,9,15,16,17] (λ(o,A,c)=>[.v (b0 aT),.v wD,.v Sb,.v w,.v (.slice A o c),.v (.slice qC n jP),.v (R n),.v (R o)]) (λ(o,A,c)=>[.row 3 1 A o c ((vw m.x.mem base size s o).map R)]) (λ(o,_,_) U=>U=h/\o<=n) (λ(o,_,_)=>n-o) (0,none,0) (λ_=>rfl) ⟨rfl,cO _⟩ he rfl ?_;rintro⟨o,A,c⟩ e U ⟨ex,hk⟩;rw[ex];refine aK λhc eT hi=>?_;refine eT _ _ _ ?_;refine aK λkb fE i'=>?_;refine aW (λq=>?_) (λq=>?_);obtain⟨g,ak⟩:=lT.cc (by omega);have yC:=lT.one ak (i:=o) (r:=[R (base+(s+o)%size)]) (by unfold gZ;rw[dV,Wj (by omega)];rfl) rfl;have sw:=NZ (s+o) (b:=size) (by omega);have mS:=NY (s+o) (b:=size) (by omega);have aeP:=ayD m.x.mem base size s o;have Ig:0<=base+(s+(o:Int))%size:=by omega
 have LL:base+(s+(o:Int))%size<m.x.mem.length:=by omega
 generalize base+(s+(o:Int))%size=z at yC aeP Ig LL;refine fE _ _ _ ?_;refine aK λkc gg j1=>?_;refine fG λko g' ja=>?_;refine aK λlq gX kR=>?_;refine .m g ak ?_;refine .hp (R z) (by rw[bq];exact yC) ?_;refine gX _ _ _ ?_;refine .hp (mK m.dM m.x.mem.length) (bN k.box rfl) ?_;refine .mk ⟨m.dM,0,none⟩ rfl Ig LL ?_;refine .hp _ (k.atS (by omega)) ?_;refine .done (.cR 0 _ [R (m.x.mem.getD z.toNat 0)] rfl rfl (by intro u hu;rw[fx]at hu;subst hu;rfl) (by unfold c';omega) (by omega) λbA bu _=>?_);refine ja _ _ _ _ nofun (gg _ _ _ ?_);refine .aLS ?_;refine⟨(o+1,bA,bu),rfl,?_,⟨rfl,by omega⟩,by show n- (o+1)<n-o;omega⟩;show _=[LE.row 3 1 bA (o+1) bu ((vw m.x.mem base size s (o+1)).map R)];rw[aeP,fm];rfl;refine i' _ _ _ _ nofun ?_;obtain rfl:o=n:=by omega
 exact cD _ A c _ rfl rfl
theorem awl(k:cU B h aT m)(p3:m.eA=some ⟨jb,0,none⟩)(a6:a<m.x.lines.length){size at_ bF:Int}(ad:m.x.lines[a]=⟨base,size,at_,bF⟩)(n:Nat)(af:0<=base)(aj:1<=size)(tC:base+size<=m.x.mem.length)(hm:m.x.mem.length<=100000)(mQ:0<=at_/\at_<=100000)(tD:0<=bF/\bF<=100000)(aC:n<=1000):Fn aH 134 #[b0 aT,.pointer (some ⟨jb,a*4,none⟩),R n] h λv U=>jx h U/\∃dS iO iq s7 jP,v= .tuple #[.slice iO n iq,.slice s7 n jP]/\B.le dS/\ym B h dS/\cU dS U aT {m with x:={m.x with lines:=m.x.lines.set a ⟨base,size,(at_+n)%size,bF-n⟩}}/\bg dS 1 iO n (gZ (vw m.x.mem base size at_ n)):=by
 obtain⟨RL,e,lu⟩:=k.Fv a6;rw[p3]at e;injection e with e;injection e with e;subst e;rw[ad]at lu;refine b5 aaR rfl ?_;refine aK λgS dy gY=>?_;refine dy _ _ _ ?_;refine aK λgO dx eG=>?_;refine .done (.mk _ (Wh ⟨jb,a*4,none⟩ base size at_ 0 n h (by have:=lu 0 _ rfl;rwa[add_zero]at this) (lu 1 _ rfl) (lu 2 _ rfl) ⟨af,by omega⟩ (λ_=>aj) (by omega) mQ (by decide) aC) ?_);rintro _ h1 ⟨cr,qC,jP,rfl,MN,Ce⟩;rw[Int.add_zero]at MN;have bJ:=k.grow cr;have V7:∀o v,((⟨base,size,at_,bF⟩:m').cells)[o]?=some v->h1.cell? ((⟨jb,a*4,none⟩:ar).add o)=some v:=λo v ah=>I.kL cr (lu o v ah);refine dx _ _ _ ?_;refine aK λgu df fK=>?_;refine df _ _ _ ?_;refine aK λgk ed eH=>?_;refine aK λhA dY hL=>?_;refine dY _ _ _ ?_;refine fG λhc eT hi=>?_;refine .lj (.abs 3 1 none 0 0 [] ⟨rfl,.inl ⟨rfl,rfl,rfl⟩⟩ (.done ?_));show kH _ _ _ _ h1;refine awn bJ hc _ (.pointer (some ⟨jb,a*4,none⟩)) (R n) (.slice qC n jP) qC jP n base size at_ MN.one af aj tC aC rfl λe A c rows he CS=>?_;refine eT _ _ _ (ed _ _ _ ?_);rw[<-fr [0,1,2,8,9] e,he];refine aK λkb fE i'=>?_;refine .hp (R at_) (V7 2 _ rfl) ?_;refine .aLS ?_;refine .hp (R size) (by rw[add_zero];exact V7 1 _ rfl) ?_;conv=>whnf
 have sw:=NZ (at_+n) (b:=size) (by omega);have mS:=NY (at_+n) (b:=size) (by omega);rw[ag2 (by omega)];refine .mk (by omega) ?_;obtain⟨cs,gQ,aM,aD,bj,bB⟩:=bJ.RU p3 a6 (o:=2) (by decide) (x:=⟨base,size,(at_+n)%size,bF⟩) (v:=R ((at_+n)%size)) (by rw[ad];rfl);refine .hp jb (a*4+2) 152 cs gQ (by rw[add_lit]) aM aD ?_;generalize h1.put jb _=ab at bj bB;have rz:a<(m.x.lines.set a ⟨base,size,(at_+n)%size,bF⟩).length:=by rw[k2];exact a6
 obtain⟨RL,bl,G9⟩:=bB.Fv rz;simp only at bl;rw[p3]at bl;injection bl with bl;injection bl with bl;subst bl;simp only[GI]at G9;refine fE _ _ _ ?_;refine aK λkc gg j1=>?_;refine .hp (R bF) (G9 3 _ rfl) ?_;refine .aLS ?_;obtain⟨a7,Ez,ie,hR,kW,eo⟩:=bB.RU p3 rz (o:=3) (by decide) (x:=⟨base,size,(at_+n)%size,bF-n⟩) (v:=R (bF-n)) (by simp only[GI];rfl);refine .hp jb (a*4+3) 152 a7 Ez (by rw[add_lit]) ie hR ?_;generalize ab.put jb _=an at kW eo;simp only[List.set_set]at eo;refine gg _ _ _ ?_;refine .bV 0 3 1 A n c rows rfl λaR cW fT f4=>.done ⟨((jx.of_le cr).trans bj).trans (kW.trans (jx.of_le cW)),_,A,c,qC,jP,rfl,I.le_trans (Cs k.le cr) (Cs eo.le cW),ym.trans .grow (((jx.of_le cr).trans bj).trans kW) .grow,eo.grow cW,?_⟩;subst CS;exact(fT.grown f4).one
end
def lQ(op:Int)(k:Nat)(dv:Int)(w:ao)(halt:Nat):Obj:=.cells #[R op,.int .u8 k,R dv,w,.int .u8 halt] 113 (0,0)
def nq(B:I)(aT cK:Nat)(op:Int)(k:Nat)(dv:Int)(cw:kl)(halt:Nat)(U:I):Prop:=∃dS bc A n c,(3<=halt->A=none/\n=0/\c=0)/\B.le dS/\cU dS U aT bc/\bc.x=cw/\U cK=some (lQ op k dv (.slice A n c) halt)
section
variable {B h:I}{aT:Nat}{m:e8}
theorem cU.M6(k:cU B h aT m)(n p:Int):cU B (h.put aT (.cells ({m with x:={m.x with next:=n,jc:=p}}:e8).cells.toArray 115 (0,0))) aT {m with x:={m.x with next:=n,jc:=p}}:=k.aex m.x.hand m.aO m.aw n p m.x.zB m.x.A2 m.x.IH m.x.II m.x.IE k.hand k.pf k.sep rfl
theorem cU.Jo(k:cU B h aT m)(l:List Int)(A:Option ar)(c:Nat)(aP:iS h A l c)(ai:∀g,A=some g->B g.block=none)(sep:(m.dM::m.c8::(jj A++m.wr.flatMap λd=>jj d.A)).Nodup):cU B (h.put aT (.cells ({m with x:={m.x with hand:=l},aO:=A,aw:=c}:e8).cells.toArray 115 (0,0))) aT {m with x:={m.x with hand:=l},aO:=A,aw:=c}:=k.aex l A c m.x.next m.x.jc m.x.zB m.x.A2 m.x.IH m.x.II m.x.IE aP ai sep rfl
theorem jx.Bc(k:cU B h aT m)(J:Obj):jx h (h.put aT J):=.put k.box (by decide)
theorem cU.xT(k:cU B h aT m){a8:Array ao}(he:h cK=some (.cells a8 113 (0,0)))(eD:B cK=none)(J:Obj):cU B (h.put cK J) aT m:=by
 have s:yu B h aT m 113 cK J:=k.stay he eD;refine⟨s.le,k.qD,s.box (by decide),s.mem (fM k.mem he (by decide)),k.ob,s.mx (by decide),k.sP,s.da (fM k.da he (by decide)),k.sm,k.qH,k.pX,s.wr (fM k.wr he (by decide)),k.s',k.pG,s.jg λd aB q=>?_,k.ql,k.pc,k.ops,k.r3,k.rp,k.rq,s.lM (by decide),k.sL,s.er (fM k.er he (by decide)),k.sg,s.hand λq=>?_,k.pf,k.sep⟩;obtain⟨b7,dT,e⟩:=oe q;have r:=k.jg d aB;rw[dT]at r;obtain⟨bu,eZ⟩:=r.ty;exact fM eZ he (by decide) e;obtain⟨b7,dT,e⟩:=oe q;have r:=k.hand;rw[dT]at r;obtain⟨bu,eZ⟩:=r.ty;exact fM eZ he (by decide) e
theorem aly(k:cU B h aT m)(n:Int)(al:m.x.hand.length<=100000)(aC:0<=n/\n<=100000):Fn aH 133 #[b0 aT,R n] h λv U=>v= .bool (decide (64<(m.x.hand.length:Int)+n))/\U=h:=by
 refine b5 aaQ rfl ?_;refine .hp _ (bN k.box rfl) ?_;refine .aLS ?_;exact .done ⟨rfl,rfl⟩
theorem cU.WA(k:cU B h aT m)(aw:c<m.x.er.length):h.cell? ((⟨m.c8,0,none⟩:ar).add (c*1))=some (R m.x.er[c]):=by
 rw[add_lit,dJ,ew];exact bN k.er (by simp[aw])
theorem jx.er(k:cU B h aT m)(J:Obj):jx h (h.put m.c8 J):=.put k.er (by decide)
theorem amX(k:cU B h aT m)(he:h cK=some (lQ op d' dv (.slice none 0 0) 0))(a b:Int)(a6:0<=a)(rz:a<m.x.er.length):Fn aH 79 #[b0 aT,.agg #[w,R a,R b],b0 cK] h λ_ U=>nq B aT cK op d' dv {m.x with er:=m.x.er.set a.toNat b} 0 U:=by
 refine b5 asG rfl ?_;refine .hp _ (bN k.box rfl) ?_;refine .mk ⟨m.c8,0,none⟩ rfl a6 rz ?_;refine .hp m.c8 (0+a.toNat*1) 3 (m.x.er.map R) ((m.x.er.set a.toNat b).map R) (by rw[add_lit]) k.er (FT (by omega) b) ?_;exact .done ⟨B,_,none,0,0,λ_=>⟨rfl,rfl,rfl⟩,I.le_refl _,k.aey (m.x.er.set a.toNat b) (by simp),rfl,jx.er k _ _ _ he⟩
theorem aiY(k:cU B h aT m)(he:h cK=some (lQ op d' dv (.slice none 0 0) 0))(a b:Int)(a6:0<=a)(rz:a.toNat<m.x.er.length)(af:0<=b/\b<=1000000):Fn aH 80 #[b0 aT,.agg #[w,R a,R b],b0 cK] h λ_ U=>nq B aT cK op d' dv {m.x with er:=m.x.er.set a.toNat (azD (m.x.er[a.toNat]-1)),next:=if 0<azD (m.x.er[a.toNat]-1)then b-1 else m.x.next} 0 U:=by
 refine b5 asI rfl ?_;have bB:=k.aey (m.x.er.set a.toNat (azD (m.x.er[a.toNat]-1))) (by simp);have gD:=jx.er k (gB (m.x.er.set a.toNat (azD (m.x.er[a.toNat]-1)))) _ _ he;have hQ:=k.WA rz;refine aK λgS dy gY=>?_;refine dy _ _ _ ?_;refine aK λgO dx eG=>?_;refine .hp _ (bN k.box rfl) ?_;refine .mk ⟨m.c8,0,none⟩ rfl a6 (by omega) ?_;refine .hp _ hQ ?_;refine .wrap ?_;refine .mk ⟨m.c8,0,none⟩ rfl a6 (by omega) ?_;refine .hp m.c8 (0+a.toNat*1) 3 (m.x.er.map R) ((m.x.er.set a.toNat (azD (m.x.er[a.toNat]-1))).map R) (by rw[add_lit]) k.er (FT rz _) ?_;have c2:=bB.WA (c:=a.toNat) (by simp only[k2];exact rz);simp only[GI]at c2;refine dx _ _ _ ?_;refine aK λgu df fK=>?_;refine .hp _ (bN bB.box rfl) ?_;refine .mk ⟨m.c8,0,none⟩ rfl a6 (by simp only[k2];omega) ?_;refine .hp _ c2 ?_;refine df _ _ _ ?_;refine aW (λq=>?_) (λq=>?_);rw[aX (by omega)];refine .aLS ?_;refine .hp aT 9 115 _ ({m with x:={m.x with er:=m.x.er.set a.toNat (azD (m.x.er[a.toNat]-1)),next:=b-1}}:e8).cells rfl bB.box rfl ?_;exact .done ⟨B,_,none,0,0,λ_=>⟨rfl,rfl,rfl⟩,I.le_refl _,bB.M6 (b-1) m.x.jc,rfl,jx.Bc bB _ _ _ gD⟩;rw[aE (by omega)];exact .done ⟨B,_,none,0,0,λ_=>⟨rfl,rfl,rfl⟩,I.le_refl _,bB,rfl,gD⟩
theorem aj6(k:cU B h aT m)(he:h cK=some (lQ op d' dv (.slice none 0 0) 0))(eD:B cK=none)(hp:0<=m.x.jc/\m.x.jc<=1000000000):Fn aH 78 #[b0 aT,.agg #[w,R 0,R 0],b0 cK] h λ_ U=>if m.x.hand=[]then nq B aT cK op d' dv {m.x with jc:=m.x.jc+1,next:= -1} 1 U else nq B aT cK op d' dv m.x 4 U:=by
 refine b5 asF rfl ?_;refine aK λgS dy gY=>?_;refine dy _ _ _ ?_;refine aK λgO dx eG=>?_;refine aK λgu df fK=>?_;refine .hp _ (bN k.box rfl) ?_;refine df _ _ _ ?_;refine aW (λq=>?_) (λq=>?_);have bH:¬m.x.hand=[]:=λe=>by rw[e]at q;simp at q
 refine .hp cK 4 113 _ [R op,.int .u8 d',R dv,.slice none 0 0,.int .u8 (4:Nat)] rfl he rfl ?_;refine eG _ _ _ _ nofun ?_;refine .done ?_;show(if m.x.hand=[]then _ else _);rw[aE bH];exact⟨B,m,none,0,0,λ_=>⟨rfl,rfl,rfl⟩,I.le_refl _,k.xT he eD _,rfl,I.bP _ _ _⟩;have bH:m.x.hand=[]:=ra (by omega);refine dx _ _ _ ?_;refine .hp cK 4 113 _ [R op,.int .u8 d',R dv,.slice none 0 0,.int .u8 (1:Nat)] rfl he rfl ?_;have bJ:=k.xT he eD (.cells [R op,.int .u8 d',R dv,.slice none 0 0,.int .u8 (1:Nat)].toArray 113 (0,0));have pn:=I.bP h cK (.cells [R op,.int .u8 d',R dv,.slice none 0 0,.int .u8 (1:Nat)].toArray 113 (0,0));generalize h.put cK _=h1 at bJ pn;refine .hp (R m.x.jc) (bN bJ.box rfl) ?_;refine .aLS ?_;refine .hp aT 10 115 _ ({m with x:={m.x with jc:=m.x.jc+1}}:e8).cells rfl bJ.box rfl ?_;have bB:=bJ.M6 m.x.next (m.x.jc+1);have gD:=jx.Bc bJ (.cells ({m with x:={m.x with jc:=m.x.jc+1}}:e8).cells.toArray 115 (0,0)) _ _ pn;generalize h1.put aT _=ab at bB gD;refine .hp aT 9 115 _ ({m with x:={m.x with next:= -1,jc:=m.x.jc+1}}:e8).cells rfl bB.box rfl ?_;refine .done ?_;show(if m.x.hand=[]then _ else _);rw[aX bH];exact⟨B,_,none,0,0,λ_=>⟨rfl,rfl,rfl⟩,I.le_refl _,bB.M6 (-1) (m.x.jc+1),rfl,jx.Bc bB _ _ _ gD⟩
end
section
variable {B h:I}{aT:Nat}{m:e8}
theorem cU.amj(k:cU B h aT m){off:Nat}(aO:m.aO=some ⟨b,off,none⟩)(aP:iS (h.put b J) m.aO m.x.hand m.aw):cU B (h.put b J) aT m/\jx h (h.put b J):=by
 have r:=k.hand;rw[aO]at r;obtain⟨a8,aw⟩:=r.ty;simp only at aw;have eD:=k.pf _ aO;simp only at eD;have s:yu B h aT m 3 b J:=k.stay aw eD;have bin:b∈jj m.aO:=by rw[aO];exact Of _
 obtain⟨dF,dR,hZ,xN⟩:=k.Eo;have sp:=k.sep;rw[k3,k3,nS]at sp;refine⟨⟨s.le,k.qD,s.box (by decide),s.mem (λe=>hZ (by rw[e];exact bin)),k.ob,s.mx (by decide),k.sP,s.da (fM k.da aw (by decide)),k.sm,k.qH,k.pX,s.wr (fM k.wr aw (by decide)),k.s',k.pG,s.jg λd aB q=>sp.2.2.2.2 b bin b (qv.2 ⟨d,aB,q⟩) rfl,k.ql,k.pc,k.ops,k.r3,k.rp,k.rq,s.lM (by decide),k.sL,s.er (λe=>dR (by rw[e];exact bin)),k.sg,aP,k.pf,k.sep⟩,.put aw (by decide)⟩
theorem cU.YQ(k:cU B h aT m){aR:I}(l:List Int)(A:Option ar)(c:Nat)(aL:J= .cells ({m with x:={m.x with hand:=l},aO:=A,aw:=c}:e8).cells.toArray 115 (0,0))(cW:(h.put aT J).le aR)(r:bz aR 3 1 A l.length c (l.map R))(f:∀g,A=some g->(h.put aT J) g.block=none):cU B aR aT {m with x:={m.x with hand:=l},aO:=A,aw:=c}:=by
 have s:yu B h aT m 115 aT J:=k.stay k.box k.qD;have hZ:∀{o:Nat}{a8:Array ao}{t:Nat},h o=some (.cells a8 t (0,0))->t≠115->o≠aT:=λae av=>fM ae k.box av;have jg:=s.jg λd aB q=>by
  obtain⟨g,ak,e⟩:=oe q;have r:=k.jg d aB;rw[ak]at r;obtain⟨bu,eZ⟩:=r.ty;exact hZ eZ (by decide) e
 have kv:=s.mem (hZ k.mem (by decide));have hQ:=s.er (hZ k.er (by decide));refine⟨I.le_trans s.le cW,k.qD,by rw[cW _ _ (I.bP _ _ _),aL],cW _ _ kv,k.ob,(s.mx (by decide)).mono cW,k.sP,cW _ _ (s.da (hZ k.da (by decide))),k.sm,k.qH,k.pX,cW _ _ (s.wr (hZ k.wr (by decide))),k.s',k.pG,λd aB=>(jg d aB).mono cW,k.ql,k.pc,k.ops,k.r3,k.rp,k.rq,λi h1 ab=>(s.lM (by decide) i h1 ab).up cW,k.sL,cW _ _ hQ,k.sg,?_,λg ak=>I.none_le s.le (f g ak),?_⟩;cases A with
 |none=>
  obtain⟨aM,⟨_,aD,bj⟩|⟨b,a8,q,_⟩⟩:=r;rw[ih]at aM;exact .inl ⟨rfl,ra aD,bj⟩;cases q
 |some g=>
  obtain⟨b,ax,rfl,af,cG,aC,aw,_⟩:=r.split;have lc:(l.map R++ax).length=c:=by simp only[fb,ih,cG];omega
  refine .inr ⟨b,0,l.map R++ax,rfl,af,?_,λ_=>by rw[lc];exact dJ _,cO _,aC,by rw[lc];exact aw⟩;rw[List.drop_zero,<-ih (f:=R),BJ]
 have sp:=k.sep;rw[k3,k3,nS]at sp⊢;obtain⟨s1,s2,hN,mC,zy⟩:=sp;simp only[dC,ev,not_or]at s1 s2⊢;have c6:∀o∈jj A,(h.put aT J) o=none:=λo ae=>by
  obtain⟨g,ak,e⟩:=oe ae;rw[<-e];exact f g ak
 refine⟨⟨s1.1,λq=>?_,s1.2.2⟩,⟨λq=>?_,s2.2⟩,?_,mC,λa a6 b af e=>?_⟩;have:=c6 _ q;rw[kv]at this;cases this;have:=c6 _ q;rw[hQ]at this;cases this;cases A<;>simp[jj];subst e;obtain⟨d,aB,q⟩:=qv.1 af;obtain⟨g,ak,e⟩:=oe q;have r:=jg d aB;rw[ak]at r;obtain⟨bu,eZ⟩:=r.ty;have:=c6 _ a6;rw[<-e,eZ]at this;cases this
theorem VG(k:cU B h aT m){S:List ao->Prop}{L:List LE}{K:aA->List LE->I->Prop}{au:List Int}(aj:S (au.map R))(ah:au.length=n)(ai:0<n)(al:m.x.hand.length+n<=100000)(bJ:∀U,cU B U aT m->jx h U->iS U m.aO (m.x.hand++au) m.aw->K (.v (.slice m.aO (m.x.hand.length+n) m.aw)) L U)(bB:∀bA bu,K (.v (.slice bA (m.x.hand.length+n) bu)) (L++[.row 3 1 bA (m.x.hand.length+n) bu ((m.x.hand++au).map R)]) h):BB 3 1 8 m.aO m.x.hand.length m.aw n S L h K:=by
 have c1:∀u∈au.map R,u.oneCell'=true:=λu hu=>by obtain⟨x,_,rfl⟩:=dn.1 hu;rfl
 have jq:m.x.hand.length+n<=c':=by unfold c';omega
 have hk:=k.hand;rcases hk with⟨aM,aD,bj⟩|⟨b,off,a8,aM,aD,bj,bT,Bf,dz,j6⟩;refine .fresh (au.map R) aM (by rw[aD];rfl) bj aj c1 (by omega) (by omega) λbA bu _=>?_;have:=bB bA bu;rw[aD]at this;simpa using this;have ck:∀o u,(m.x.hand.map R)[o]?=some u->a8[off+o]?=some u:=λo u ae=>by
  rw[<-bj,GH]at ae;split at ae;rwa[GF]at ae;cases ae
 have jK:a8=a8.take (off+m.x.hand.length)++((a8.drop (off+m.x.hand.length)).take n++(a8.drop (off+m.x.hand.length)).drop n):=by
  rw[BI,BI]
 refine .mem b off a8 (a8.take (off+m.x.hand.length)++(au.map R++(a8.drop (off+m.x.hand.length)).drop n)) (au.map R) (m.x.hand.map R) aM aD aj c1 ai (by rw[ih,ew]) ck (λaw=>?_) jq (by omega) (λaw=>?_) (λaw b7 bu _=>?_);have bT:=bT (by omega);have lt:(a8.take (off+m.x.hand.length)).length=off+m.x.hand.length*1:=by rw[sa];omega
 have:=SD ((a8.drop (off+m.x.hand.length)).take n) (au.map R) ((a8.drop (off+m.x.hand.length)).drop n) (by rw[ih,sa,k1];omega) (a8.take (off+m.x.hand.length));rw[<-jK,lt]at this;exact this;have ad:∀(w:List Int),w=m.x.hand\/w=m.x.hand++au->iS (h.put b (.cells (a8.take (off+m.x.hand.length)++(au.map R++(a8.drop (off+m.x.hand.length)).drop n)).toArray 3 (0,0))) m.aO w m.aw:=by
  intro w hw;have bT:=bT (by omega);refine .inr ⟨b,off,_,aM,I.bP _ _ _,?_,λ_=>?_,?_,?_,?_⟩;have aj1:(a8.take (off+m.x.hand.length)++(au.map R++(a8.drop (off+m.x.hand.length)).drop n)).drop off=m.x.hand.map R++(au.map R++(a8.drop (off+m.x.hand.length)).drop n):=by
   rw[List.drop_append_of_le_length (by rw[sa];omega),aha,Nat.add_sub_cancel_left,bj]
  rw[aj1];rcases hw with rfl|rfl;rw[<-ih (f:=R),BJ];rw[<-mb,<-fm,<-ih (f:=R),BJ];simp only[fb,sa,ih,k1];omega;simp only[fb,sa,ih,k1];omega;rcases hw with rfl|rfl;exact dz;rw[fb];omega;simp only[fb,sa,ih,k1];omega
 obtain⟨m1,m2⟩:=k.amj aM (ad _ (.inl rfl));exact bJ _ m1 m2 (ad _ (.inr rfl));have:=bB (some b7) bu;rw[fm]at this;exact this
end
theorem SW(h:I)(J gh:Obj)(e:a≠b):(h.put a J).put b gh=(h.put b gh).put a J:=by
 funext o;simp only[I.put];by_cases aM:o=b;subst aM;rw[aX rfl,aE (d9 e),aX rfl];rw[aE aM,aE aM]
section
variable {B h:I}{aT:Nat}{m:e8}
def DH(x:kl)(a:Nat)(l:m')(n:Nat):kl:={x with lines:=x.lines.set a ⟨l.base,l.size,(l.at_+n)%l.size,l.bF-n⟩,hand:=x.hand++vw x.mem l.base l.size l.at_ n}
theorem Wk(a b c:Int)(n:Nat):(nf a b c n).length=n:=by simp[nf]
theorem TP(mem:List Int)(a b c:Int)(n:Nat):(vw mem a b c n).length=n:=by simp[vw,Wk]
theorem ayt(k:cU B h aT m)(he:h cK=some (lQ op d' dv (.slice none 0 0) 0))(eD:B cK=none)(a n:Nat)(l:m')(a6:a<m.x.lines.length)(ad:m.x.lines[a]=l)(af:0<=l.base)(aj:l.bF<=l.size)(tC:l.base+l.size<=m.x.mem.length)(hm:m.x.mem.length<=100000)(mQ:0<=l.at_/\l.at_<=100000)(tD:0<=l.bF/\l.bF<=100000)(dF:1<=n)(aC:n<=1000)(aP:m.x.hand.length<=1000):Fn aH 81 #[b0 aT,.agg #[w,R a,R n],b0 cK] h λ_ U=>if l.bF<n\/64<m.x.hand.length+n then nq B aT cK op d' dv m.x 4 U else nq B aT cK op d' dv (DH m.x a l n) 0 U:=by
 obtain⟨jb,p3,lu⟩:=k.Fv a6;rw[ad]at lu;refine b5 aa3 rfl ?_;have f133:=aly k n (by omega) ⟨by omega,by omega⟩;refine aK λgS dy gY=>?_;refine dy _ _ _ ?_;refine aK λgO dx eG=>?_;refine .hp (.slice m.eA m.x.lines.length m.lc) (bN k.box rfl) ?_;refine .mk ⟨jb,0,none⟩ p3 (by omega) (by omega) ?_;refine dx _ _ _ ?_;have Hf:(⟨jb,0,none⟩:ar).add (a*4)=⟨jb,a*4,none⟩:=by rw[add_lit,dJ]
 rw[bq,Hf];have Jv:∀(e:bY)(Q:dL),[2].map e=[.v (b0 cK)]->(∀e L,Q .ret e L (h.put cK (lQ op d' dv (.slice none 0 0) 4)))->c7 aH 56 (.seq (.ch aqC) .ret) Q e [.own [.v w,.v (R a),.v (R n)] 66] h:=by
  intro e Q gD cD;rw[<-fr [2] e,gD];refine .hp cK 4 113 _ [R op,.int .u8 d',R dv,.slice none 0 0,.int .u8 (4:Nat)] rfl he rfl ?_;exact cD _ _
 have qk:nq B aT cK op d' dv m.x 4 (h.put cK (lQ op d' dv (.slice none 0 0) 4)):=⟨B,m,none,0,0,λ_=>⟨rfl,rfl,rfl⟩,I.le_refl _,k.xT he eD _,rfl,I.bP _ _ _⟩;refine aK λgu df fK=>?_;refine aK λgk ed eH=>?_;refine .hp (R l.bF) (lu 3 _ rfl) ?_;conv=>whnf
 by_cases di:l.bF<n;rw[fo di];refine ed _ _ _ ?_;refine ot rfl (λ_=>?_) nofun;refine Jv _ _ rfl λe L=>?_;refine fK _ _ _ _ nofun ?_;conv=>whnf
 refine .done ?_;show(if l.bF<n\/64<m.x.hand.length+n then _ else _);rw[aX (.inl di)];exact qk;rw[gU di];have avZ:=awl k p3 a6 ad n af (by omega) tC hm mQ tD aC;refine .mk _ f133 (λv U q=>by rw[q.2];exact I.le_refl _) ?_;rintro _ hB ⟨rfl,ex⟩;rw[ex];refine ed _ _ _ ?_;refine ot rfl (λq=>?_) (λq=>?_);refine Jv _ _ rfl λe L=>?_;refine fK _ _ _ _ nofun ?_;refine .done ?_;show(if l.bF<n\/64<m.x.hand.length+n then _ else _);rw[aX (.inr (by have:=qb q;omega))];exact qk;have u4:¬(l.bF<n\/64<m.x.hand.length+n):=by have:=tZ q;omega
 refine df _ _ _ ?_;refine aK λhA dY hL=>?_;refine .done (.mk _ avZ ?_);rintro _ h1 ⟨Iv,dS,iO,iq,s7,jP,rfl,gF,cv,bJ,oY⟩;have pn:=Iv _ _ he;have Wi:∀{A:Option ar}{c:Nat},over ({m with x:={m.x with lines:=m.x.lines.set a ⟨l.base,l.size,(l.at_+n)%l.size,l.bF-n⟩}}:e8).cells 8 [.slice A (m.x.hand.length+n) c]=some ({m with x:=DH m.x a l n,aO:=A,aw:=c}:e8).cells:=by
  intro A c;show some _=some _;simp only[e8.cells,DH,fb,TP]
 have rA:=cv _ _ he eD;refine dY _ _ _ ?_;refine aK λhc eT hi=>?_;refine .hp (.slice m.aO m.x.hand.length m.aw) (bN bJ.box rfl) ?_;refine .done (VG bJ (au:=vw m.x.mem l.base l.size l.at_ n) (by rw[<-xj];exact(oY.mono bJ.le).src _) (TP _ _ _ _ _) (by omega) (by simp only;omega) (λab bB Fo HV=>?_) (λbA bu=>?_));have gD:=Fo _ _ pn;have eo:=bB.Jo _ m.aO m.aw HV bB.pf bB.sep;have sq:=jx.Bc bB (.cells ({m with x:=DH m.x a l n}:e8).cells.toArray 115 (0,0)) _ _ gD;refine .hp aT 8 115 _ ({m with x:=DH m.x a l n}:e8).cells rfl bB.box Wi ?_;refine eT _ _ _ ?_;refine .hp cK 3 113 _ [R op,.int .u8 d',R dv,.slice s7 n jP,.int .u8 (0:Nat)] rfl sq rfl ?_;refine .done ?_;show(if l.bF<n\/64<m.x.hand.length+n then _ else _);rw[aE u4];exact⟨dS,_,s7,n,jP,λq=>absurd q (by decide),gF,eo.xT sq rA _,rfl,I.bP _ _ _⟩;refine .hp aT 8 115 _ ({m with x:=DH m.x a l n,aO:=bA,aw:=bu}:e8).cells rfl bJ.box Wi ?_;have Hg:aT≠cK:=fM bJ.box pn (by decide);refine eT _ _ _ ?_;refine .hp cK 3 113 _ [R op,.int .u8 d',R dv,.slice s7 n jP,.int .u8 (0:Nat)] rfl (by rw[I.cf _ _ (d9 Hg)];exact pn) rfl ?_;refine .bV 1 3 1 bA _ bu _ rfl λaR cW fT f4=>.done ?_;show(if l.bF<n\/64<m.x.hand.length+n then _ else _);rw[aE u4];rw[SW _ _ _ Hg]at cW f4;have bB:=(bJ.xT pn rA (.cells [R op,.int .u8 d',R dv,.slice s7 n jP,.int .u8 (0:Nat)].toArray 113 (0,0))).YQ (m.x.hand++vw m.x.mem l.base l.size l.at_ n) bA bu rfl cW (by rw[fb,TP];exact fT) f4;exact⟨dS,_,s7,n,jP,λq=>absurd q (by decide),gF,bB,rfl,cW _ _ (by rw[I.cf _ _ (d9 Hg)];exact I.bP _ _ _)⟩
end
def vg:List Int->List Int->List Int->List Int
 |mem,c::cs,t::eg=>vg (mem.set c.toNat t) cs eg
 |mem,_,_=>mem
theorem abm:∀(cs mem eg:List Int),(vg mem cs eg).length=mem.length
 |[],mem,_=>rfl
 |c::cs,mem,[]=>rfl
 |c::cs,mem,t::eg=>by rw[vg,abm cs];simp
section
variable {B h:I}{aT:Nat}{m:e8}
theorem as8(k:cU B h aT m)(Q:dL)(e:bY)(wD w:ao)(qC w5:Option ar)(jP iq n:Nat)(cI:List Int)(base size s:Int)(lT:bg h 1 qC n (gZ (nf base size s n)))(gA:bg h 1 w5 n (gZ cI))(amf:∀g,qC=some g->0<n->g.block≠m.dM)(Qi:∀g,w5=some g->0<n->g.block≠m.dM)(af:0<=base)(aj:1<=size)(tC:base+size<=m.x.mem.length)(aC:n<=1000)(he:[0,1,2,7,18,19,20].map e=[.v (b0 aT),.v wD,.v (.slice w5 n iq),.v w,.v (.slice qC n jP),.v (R n),.v (R (0:Nat))])(cD:∀e,[0,1,2,7].map e=[.v (b0 aT),.v wD,.v (.slice w5 n iq),.v w]->Q (.exit 0) e [] (h.put m.dM (gB (vg m.x.mem (nf base size s n) cI)))):kH (λQ e L h=>c7 aH 45 apa Q e L h) Q e [] h:=by
 have al:cI.length=n:=by simpa using gA.len
 refine .mk (Nat×List Int) [0,1,2,7,18,19,20] (λ(o,_)=>[.v (b0 aT),.v wD,.v (.slice w5 n iq),.v w,.v (.slice qC n jP),.v (R n),.v (R o)]) (λ_=>[]) (λ(o,mem) U=>U=h.put m.dM (gB mem)/\o<=n/\mem.length=m.x.mem.length/\vg mem ((nf base size s n).drop o) (cI.drop o)=vg m.x.mem (nf base size s n) cI) (λ(o,_)=>n-o) (0,m.x.mem) (λ_=>rfl) ⟨(rW k.mem).symm,cO _,rfl,rfl⟩ he rfl ?_;rintro⟨o,mem⟩ e U ⟨ex,hk,y2,hm⟩;rw[ex];have bB:=k.aeA mem y2;refine aK λhc eT hi=>?_;refine eT _ _ _ ?_;refine aK λkb fE i'=>?_;refine aW (λq=>?_) (λq=>?_);obtain⟨g,ak⟩:=lT.cc (by omega);obtain⟨g2,gV⟩:=gA.cc (by omega);have aw:(nf base size s n)[o]?=some (base+(s+o)%size):=Wj (by omega);have ae:o<cI.length:=by omega
 have yC:=(lT.FW (J:=gB mem) amf).one ak (i:=o) (r:=[R (base+(s+o)%size)]) (by unfold gZ;rw[dV,aw];rfl) rfl;have kd:=(gA.FW (J:=gB mem) Qi).one gV (i:=o) (r:=[R cI[o]]) (by unfold gZ;rw[dV,bZ ae];rfl) rfl;have sw:=NZ (s+o) (b:=size) (by omega);have mS:=NY (s+o) (b:=size) (by omega);obtain⟨uX,eZ⟩:=List.getElem?_eq_some_iff.1 aw;rw[o6 uX,o6 ae,eZ,vg]at hm;have Ig:0<=base+(s+(o:Int))%size:=by omega
 have LL:base+(s+(o:Int))%size<m.x.mem.length:=by omega
 generalize base+(s+(o:Int))%size=z at yC Ig LL hm;generalize cI[o]=hS at kd hm;refine fE _ _ _ ?_;refine aK λkc gg j1=>?_;refine fG λko g' ja=>?_;refine aK λlq gX kR=>?_;refine .m g ak ?_;refine .hp (R z) (by rw[bq];exact yC) ?_;refine gX _ _ _ ?_;refine .hp _ (bN bB.box rfl) ?_;refine .m g2 gV ?_;refine .hp (R hS) (by rw[bq];exact kd) ?_;refine .mk ⟨m.dM,0,none⟩ rfl Ig (by simp only;omega) ?_;refine .hp m.dM (0+z.toNat*1) 3 (mem.map R) ((mem.set z.toNat hS).map R) (by rw[add_lit]) bB.mem (FT (by omega) hS) ?_;refine ja _ _ _ _ nofun (gg _ _ _ ?_);refine .aLS ?_;exact⟨(o+1,mem.set z.toNat hS),rfl,rfl,⟨sZ _ _ _ _,by omega,by rw[k2];exact y2,hm⟩,by show n- (o+1)<n-o;omega⟩;refine i' _ _ _ _ nofun ?_;obtain rfl:o=n:=by omega
 have aJ:(nf base size s o).drop o=[]:=tg (by rw[Wk];exact dd _);rw[aJ]at hm;have aI:vg mem [] (cI.drop o)=mem:=rfl;rw[aI]at hm;rw[hm];exact cD _ rfl
theorem as5(k:cU B h aT m)(p3:m.eA=some ⟨jb,0,none⟩)(a6:a<m.x.lines.length){size at_ bF:Int}(ad:m.x.lines[a]=⟨base,size,at_,bF⟩)(w5:Option ar)(iq n:Nat)(cI:List Int)(gA:bg h 1 w5 n (gZ cI))(Qi:∀g,w5=some g->0<n->g.block≠m.dM)(af:0<=base)(aj:1<=size)(tC:base+size<=m.x.mem.length)(hm:m.x.mem.length<=100000)(mQ:0<=at_/\at_<=100000)(tD:0<=bF/\bF<=100000)(aC:n<=1000):Fn aH 135 #[b0 aT,.pointer (some ⟨jb,a*4,none⟩),.slice w5 n iq] h λv U=>jx h U/\∃dS s7 jP,v= .slice s7 n jP/\B.le dS/\ym B h dS/\cU dS U aT {m with x:={m.x with mem:=vg m.x.mem (nf base size (at_+bF) n) cI,lines:=m.x.lines.set a ⟨base,size,at_,bF+n⟩}}:=by
 obtain⟨RL,e,lu⟩:=k.Fv a6;rw[p3]at e;injection e with e;injection e with e;subst e;rw[ad]at lu;refine b5 aaS rfl ?_;refine aK λgS dy gY=>?_;refine dy _ _ _ ?_;refine aK λgO dx eG=>?_;refine .hp (R bF) (lu 3 _ rfl) ?_;refine .done (.mk _ (Wh ⟨jb,a*4,none⟩ base size at_ bF n h (by have:=lu 0 _ rfl;rwa[add_zero]at this) (lu 1 _ rfl) (lu 2 _ rfl) ⟨af,by omega⟩ (λ_=>aj) (by omega) mQ tD aC) ?_);rintro _ h1 ⟨cr,qC,jP,rfl,MN,Ce⟩;have bJ:=k.grow cr;refine dx _ _ _ ?_;refine aK λgu df fK=>?_;refine aK λgk ed eH=>?_;refine ed _ _ _ ?_;refine fG λhA dY hL=>?_;refine .lj (.done (as8 bJ hA _ (.pointer (some ⟨jb,a*4,none⟩)) (.slice qC n jP) qC w5 jP iq n cI base size (at_+bF) MN.one (gA.mono cr) (λg ak _ e=>?_) Qi af aj tC aC rfl λe he=>?_));have:=Ce g ak;rw[e,k.mem]at this;cases this;refine dY _ _ _ (df _ _ _ ?_);rw[<-fr [0,1,2,7] e,he];have bB:=bJ.aeA (vg m.x.mem (nf base size (at_+bF) n) cI) (abm _ _ _);have Fo:jx h1 (h1.put m.dM (gB (vg m.x.mem (nf base size (at_+bF) n) cI))):=.put bJ.mem (by decide);generalize h1.put m.dM _=ab at bB Fo;obtain⟨RL,bl,G9⟩:=bB.Fv (a:=a) a6;simp only at bl;rw[p3]at bl;injection bl with bl;injection bl with bl;subst bl;simp only[ad]at G9;refine aK λhc eT hi=>?_;refine .hp (R bF) (G9 3 _ rfl) ?_;refine .aLS ?_;obtain⟨a7,Ez,ie,hR,kW,eo⟩:=bB.RU p3 (a:=a) a6 (o:=3) (by decide) (x:=⟨base,size,at_,bF+n⟩) (v:=R (bF+n)) (by simp only[ad];rfl);refine .hp jb (a*4+3) 152 a7 Ez (by rw[add_lit]) ie hR ?_;refine eT _ _ _ ?_;exact .done ⟨((jx.of_le cr).trans Fo).trans kW,_,qC,jP,rfl,Cs k.le cr,.grow,eo⟩
end
theorem iS.dG{l:List Int}(x:iS h A l c):bg h 1 A l.length (gZ l)/\l.length<=c:=by
 rcases x with⟨rfl,rfl,rfl⟩|⟨b,off,a8,rfl,af,e,_,_,aw,_⟩;exact⟨bg.nil _ _ _,dd _⟩;refine⟨⟨by simp[gZ],λr am=>by obtain⟨z,_,rfl⟩:=dn.1 am;rfl,λ_=>⟨_,rfl⟩,λg ak i r am o v ah=>?_⟩,aw⟩;injection ak with ak;subst ak;unfold gZ at am;rw[dV]at am;cases aY:l[i]?with
 |none=>rw[aY]at am;cases am
 |some z=>
  rw[aY]at am;injection am with am;subst am;cases o with
  |succ o=>cases ah
  |zero=>
   injection ah with ah;subst ah;have ab:(l.map R)[i]?=some (R z):=by rw[dV,aY];rfl
   rw[<-e,GH]at ab;split at ab;rw[GF]at ab;rw[add_lit,ew,wX];unfold I.cell?;simp only[af,Option.isSome_none,Bool.false_eq_true,k',List.getElem?_toArray];exact ab;cases ab
theorem iS.drop{h:I}{A vB:Option ar}{l:List Int}{c k:Nat}(x:iS h A l c)(hk:k<=l.length)(h1:k<c->vB=A.map (·.add (k*1)))(ab:k=c->vB=A):iS h vB (l.drop k) (c-k)/\jj vB=jj A:=by
 rcases x with⟨rfl,rfl,rfl⟩|⟨b,off,a8,rfl,af,e,ks,aL,aw,hm⟩;have mm:k=0:=by simpa using hk
 subst mm;rw[ab rfl];exact⟨.inl ⟨rfl,rfl,rfl⟩,rfl⟩;by_cases q:k<c;rw[h1 q,vO,add_lit,ew];refine⟨.inr ⟨b,off+k,a8,rfl,af,?_,λ_=>?_,?_,?_,hm⟩,rfl⟩;rw[k1,<-List.drop_drop,GK,<-e,aha];have:=ks (by omega);omega;have:=ks (by omega);omega;rw[k1];omega;have HZ:k=c:=by omega
 rw[ab HZ];have aB:l.drop k=[]:=tg (by omega);refine⟨.inr ⟨b,off,a8,rfl,af,by rw[aB];rfl,λl5=>by omega,aL,by rw[aB];exact cO _,hm⟩,rfl⟩
theorem M7{vB:Option ar}(h1:0<c->vB=A.map (·.add (0*1)))(ab:0=c->vB=A):vB=A:=by
 by_cases q:0<c;rw[h1 q];cases A with
 |none=>rfl
 |some g=>simp[add_zero]
 exact ab (by omega)
section
variable {B h:I}{aT:Nat}{m:e8}
def KZ(x:kl)(a:Nat)(l:m')(n:Nat):kl:={x with mem:=vg x.mem (nf l.base l.size (l.at_+l.bF) n) (x.hand.take n),lines:=x.lines.set a ⟨l.base,l.size,l.at_,l.bF+n⟩,hand:=x.hand.drop n}
theorem alH(k:cU B h aT m)(he:h cK=some (lQ op d' dv (.slice none 0 0) 0))(eD:B cK=none)(a n:Nat)(l:m')(a6:a<m.x.lines.length)(ad:m.x.lines[a]=l)(af:0<=l.base)(tC:l.base+l.size<=m.x.mem.length)(hm:m.x.mem.length<=100000)(mQ:0<=l.at_/\l.at_<=100000)(tD:0<=l.bF/\l.bF<=100000)(dF:1<=n)(aC:n<=1000)(aP:m.x.hand.length<=1000):Fn aH 84 #[b0 aT,.agg #[w,R a,R n],b0 cK] h λ_ U=>if m.x.hand.length<n\/l.size<l.bF+n then nq B aT cK op d' dv m.x 4 U else nq B aT cK op d' dv (KZ m.x a l n) 0 U:=by
 obtain⟨jb,p3,lu⟩:=k.Fv a6;rw[ad]at lu;refine b5 aa4 rfl ?_;refine aK λgS dy gY=>?_;refine dy _ _ _ ?_;refine aK λgO dx eG=>?_;refine .hp (.slice m.eA m.x.lines.length m.lc) (bN k.box rfl) ?_;refine .mk ⟨jb,0,none⟩ p3 (by omega) (by omega) ?_;refine dx _ _ _ ?_;have Hf:(⟨jb,0,none⟩:ar).add (a*4)=⟨jb,a*4,none⟩:=by rw[add_lit,dJ]
 rw[bq,Hf];have Jv:∀(e:bY)(Q:dL),[2].map e=[.v (b0 cK)]->(∀e L,Q .ret e L (h.put cK (lQ op d' dv (.slice none 0 0) 4)))->c7 aH 66 (.seq (.ch aqI) .ret) Q e [.own [.v w,.v (R a),.v (R n)] 66] h:=by
  intro e Q gD cD;rw[<-fr [2] e,gD];refine .hp cK 4 113 _ [R op,.int .u8 d',R dv,.slice none 0 0,.int .u8 (4:Nat)] rfl he rfl ?_;exact cD _ _
 have qk:nq B aT cK op d' dv m.x 4 (h.put cK (lQ op d' dv (.slice none 0 0) 4)):=⟨B,m,none,0,0,λ_=>⟨rfl,rfl,rfl⟩,I.le_refl _,k.xT he eD _,rfl,I.bP _ _ _⟩;refine aK λgu df fK=>?_;refine aK λgk ed eH=>?_;refine .hp (.slice m.aO m.x.hand.length m.aw) (bN k.box rfl) ?_;conv=>whnf
 by_cases di:m.x.hand.length<n;rw[fo (by omega)];refine ed _ _ _ ?_;refine ot rfl (λ_=>?_) nofun;refine Jv _ _ rfl λe L=>?_;refine fK _ _ _ _ nofun ?_;conv=>whnf
 refine .done ?_;show(if m.x.hand.length<n\/l.size<l.bF+n then _ else _);rw[aX (.inl di)];exact qk;rw[gU (by omega)];refine .hp (R l.bF) (lu 3 _ rfl) ?_;refine .aLS ?_;refine .hp (R l.size) (by rw[add_zero];exact lu 1 _ rfl) ?_;refine ed _ _ _ ?_;refine ot rfl (λq=>?_) (λq=>?_);refine Jv _ _ rfl λe L=>?_;refine fK _ _ _ _ nofun ?_;refine .done ?_;show(if m.x.hand.length<n\/l.size<l.bF+n then _ else _);rw[aX (.inr (qb q))];exact qk;have u4:¬(m.x.hand.length<n\/l.size<l.bF+n):=by have:=tZ q;omega
 obtain⟨av,HX⟩:=k.hand.dG;have aj:1<=l.size:=by omega
 have as0:=as5 k p3 a6 ad m.aO m.aw n (m.x.hand.take n) (by unfold gZ;rw[GM];exact av.take (by omega)) (λg ak _ e=>k.Eo.2.2.1 (by rw[<-e];exact oT ak)) af aj tC hm mQ tD aC;refine df _ _ _ ?_;refine aK λhA dY hL=>?_;refine .hp (.slice m.aO m.x.hand.length m.aw) (bN k.box rfl) ?_;refine .mk 0 n rfl rfl (by omega) (by omega) λq6 aDQ pe=>?_;rw[M7 aDQ pe];refine .done (.mk _ as0 ?_);rintro _ h1 ⟨Iv,dS,s7,jP,rfl,gF,cv,bJ⟩;have pn:=Iv _ _ he;have rA:=cv _ _ he eD;refine .hp cK 3 113 _ [R op,.int .u8 d',R dv,.slice s7 n jP,.int .u8 (0:Nat)] rfl pn rfl ?_;have bB:=bJ.xT pn rA (.cells [R op,.int .u8 d',R dv,.slice s7 n jP,.int .u8 (0:Nat)].toArray 113 (0,0));have gD:=I.bP h1 cK (.cells [R op,.int .u8 d',R dv,.slice s7 n jP,.int .u8 (0:Nat)].toArray 113 (0,0));generalize h1.put cK _=ab at bB gD;refine dY _ _ _ ?_;refine .hp (.slice m.aO m.x.hand.length m.aw) (bN bB.box rfl) ?_;refine .mk n m.x.hand.length rfl rfl (by omega) HX λhz pe EM=>?_;obtain⟨aB,qN⟩:=bB.hand.drop (vB:=hz) (k:=n) (by simp only;omega) pe EM;have eo:=bB.Jo (m.x.hand.drop n) hz (m.aw-n) aB (λg ak=>by
  have q:g.block∈jj m.aO:=by rw[<-qN];exact oT ak
  obtain⟨b7,dT,e⟩:=oe q;rw[<-e];exact bB.pf b7 dT) (by have:=bB.sep;simp only at this⊢;rw[qN];exact this)
 refine .hp aT 8 115 _ ({m with x:=KZ m.x a l n,aO:=hz,aw:=m.aw-n}:e8).cells rfl bB.box ?_ ?_;show some _=some _;simp only[e8.cells,KZ,k1];refine .done ?_;show(if m.x.hand.length<n\/l.size<l.bF+n then _ else _);rw[aE u4];exact⟨dS,_,s7,n,jP,λq=>absurd q (by decide),gF,eo,rfl,jx.Bc bB _ _ _ gD⟩
end
def tu:List Int->List Int->List (List Int)
 |_,[]=>[]
 |l,r::rs=>l.take r.toNat::tu (l.drop r.toNat) rs
def Hc:List Int->List Int->Prop
 |_,[]=>True
 |l,r::rs=>0<=r/\r<=l.length/\Hc (l.drop r.toNat) rs
theorem bz.xJ{cv:Nat}{h U:I}{bs size n c:Nat}{A:Option ar}{xs:List ao}(r:bz h bs size A n c xs)(le:I.xJ cv h U)(e:∀g,A=some g->g.block≠cv):bz U bs size A n c xs:=by
 obtain⟨h1,ab⟩:=r;refine⟨h1,?_⟩;rcases ab with ab|⟨b,a8,aM,aD,bj⟩;exact .inl ab;exact .inr ⟨b,a8,aM,le _ _ (e _ aM) aD,bj⟩
theorem iS.xJ{cv:Nat}{h U:I}{A:Option ar}{l:List Int}{c:Nat}(x:iS h A l c)(le:I.xJ cv h U)(e:∀g,A=some g->g.block≠cv):iS U A l c:=by
 rcases x with x|⟨eP,off,a8,aM,aD,bj⟩;exact .inl x;exact .inr ⟨eP,off,a8,aM,le _ _ (e _ aM) aD,bj⟩
section
variable {B h:I}{aT:Nat}{m:e8}
theorem cU.uT(k:cU B h aT m)(a6:a<m.dh.length)(rz:a<m.x.jz.length){cw:lG}(le:I.xJ m.dh[a].2 h U)(ix:ln (B.grow h U) U m.dh[a].1 m.dh[a].2 cw):cU (B.grow h U) U aT {m with x:={m.x with jz:=m.x.jz.set a cw}}:=by
 have eD:=k.lM a a6 rz;obtain⟨aBD,hk⟩:=eD.ty;have B4:=G5 m.x.jz[a].tag;have ne:∀{o:Nat}{a8:Array ao}{t:Nat},h o=some (.cells a8 t (0,0))->t<298->o≠m.dh[a].2:=λae av=>fM ae hk (by omega);have b2:∀{o:Nat}{a8:Array ao}{t:Nat},h o=some (.cells a8 t (0,0))->t<298->U o=some (.cells a8 t (0,0)):=λae av=>le _ _ (ne ae av) ae;have rx:B.le (B.grow h U):=λo J ae=>by
  unfold I.grow;rw[I.mX (S:=λo=>B o≠none\/h o=none) (.inl (by rw[ae];nofun))];refine le _ _ (λe=>?_) (k.le _ _ ae);rw[e,eD.zg]at ae;cases ae
 have tB:∀{o:Nat}{x:Obj},B o=none->h o=some x->B.grow h U o=none:=λh1 ab=>xm h1 (by rw[ab];nofun);have aB:m.x.jz.length=(m.x.jz.set a cw).length:=by simp
 refine⟨I.zn _ _,tB k.qD k.box,?_,b2 k.mem (by decide),tB k.ob k.mem,k.mx.xJ le λg ak=>?_,λg ak=>?_,b2 k.da (by decide),tB k.sm k.da,k.qH,λd aB=>⟨(k.pX d aB).1.mono rx,(k.pX d aB).2⟩,b2 k.wr (by decide),tB k.s' k.wr,k.pG,λd aB=>(k.jg d aB).xJ le λg ak=>?_,λd aB g ak=>?_,k.pc,k.ops.mono rx,k.r3.mono rx,?_,?_,λi h1 ab=>?_,k.sL,b2 k.er (by decide),tB k.sg k.er,k.hand.xJ le λg ak=>?_,λg ak=>?_,k.sep⟩;rw[b2 k.box (by decide)];simp only[e8.cells,k2];have r:=k.mx;rw[ak]at r;obtain⟨bu,eZ⟩:=r.ty;exact ne eZ (by decide);have r:=k.mx;rw[ak]at r;exact xm (k.sP g ak) (r.mem rfl);have r:=k.jg d aB;rw[ak]at r;obtain⟨bu,eZ⟩:=r.ty;exact ne eZ (by decide);have r:=k.jg d aB;rw[ak]at r;exact xm (k.ql d aB g ak) (r.mem rfl);have:=k.rp.mono rx;simp only[k2];exact this;simp only[k2];exact k.rq;simp only[k2]at ab;by_cases e:i=a;subst e;simp only[GI];exact ix;simp only[List.getElem_set_ne (d9 e)];have bi:=k.lM i h1 ab;have aj:=bi.some_;have A6:m.dh[i].2≠m.dh[a].2:=λq=>e ((List.getElem_inj (xs:=m.dh.map ek) (i:=i) (j:=a) (h₀:=by simpa using h1) (h₁:=by simpa using a6) k.sL).1 (by simpa using q));refine bi.to rx ?_ (xm bi.zg aj);cases q:h m.dh[i].2 with
 |none=>exact absurd q aj
 |some J=>exact(le _ _ A6 q).symm
 have r:=k.hand;rw[ak]at r;obtain⟨bu,eZ⟩:=r.ty;exact ne eZ (by decide);have r:=k.hand;rw[ak]at r;obtain⟨bu,eZ⟩:=r.ty;exact tB (k.pf g ak) eZ
theorem alK{B h:I}(dc:B.le h)(eD:B cv=none)(le:I.xJ cv h U):B.le (B.grow h U):=λo J ae=>by
 unfold I.grow;rw[I.mX (S:=λo=>B o≠none\/h o=none) (.inl (by rw[ae];nofun))];refine le _ _ (λe=>?_) (dc _ _ ae);rw[e,eD]at ae;cases ae
theorem auC{B h:I}:(od h U cv).le (B.grow h U):=λo J ae=>by
 unfold od at ae;have q:=I.vp (by rw[ae];nofun);rw[I.mX q]at ae;unfold I.grow;rw[I.mX (S:=λo=>B o≠none\/h o=none) (.inr q.1)];exact ae
theorem cU.up{U:I}(k:cU B h aT m)(le:h.le U):cU B U aT m:=⟨I.le_trans k.le le,k.qD,le _ _ k.box,le _ _ k.mem,k.ob,k.mx.mono le,k.sP,le _ _ k.da,k.sm,k.qH,k.pX,le _ _ k.wr,k.s',k.pG,λd aB=>(k.jg d aB).mono le,k.ql,k.pc,k.ops,k.r3,k.rp,k.rq,λi h1 ab=>(k.lM i h1 ab).up le,k.sL,le _ _ k.er,k.sg,k.hand.mono le,k.pf,k.sep⟩
theorem ajK(Q:dL)(e:bY)(h:I)(aT cK:Nat)(w j5 on:ao)(cj:Nat)(eF:Option ar)(cE n:Nat)(ins:List Int)(e2:bg h 1 eF n (gZ ins))(aO:Option ar)(hand:List Int)(aw:Nat)(aP:iS h aO hand aw)(aB:Hc hand ins)(aC:n<=1000)(he:[0,2,6,7,8,51,52,53].map e=[.v (b0 aT),.v (b0 cK),.v (b0 cj),.v (.slice none 0 0),.v (.slice aO hand.length aw),.v (.slice eF n cE),.v (R n),.v (R (0:Nat))])(cD:∀e A c(D:List dO),[0,2,6,7].map e=[.v (b0 aT),.v (b0 cK),.v (b0 cj),.v (.slice A n c)]->D.map dO.l=tu hand ins->(∀d∈D,d.ok h)->D.length=n->Q (.exit 0) e [.own [.v w,.v j5,.v on] 66,.row 27 1 A n c (D.map dO.val)] h):kH (λQ e L h=>c7 aH 97 aqF Q e L h) Q e [.own [.v w,.v j5,.v on] 66,.row 27 1 none 0 0 []] h:=by
 have al:ins.length=n:=by simpa using e2.len
 refine .mk (Nat×Option ar×Nat×List dO×Option ar×List Int×Nat) [0,2,6,7,8,51,52,53] (λ(o,A,c,D,nO,iH,rc)=>[.v (b0 aT),.v (b0 cK),.v (b0 cj),.v (.slice A o c),.v (.slice nO iH.length rc),.v (.slice eF n cE),.v (R n),.v (R o)]) (λ(o,A,c,D,_)=>[.own [.v w,.v j5,.v on] 66,.row 27 1 A o c (D.map dO.val)]) (λ(o,_,_,D,nO,iH,rc) U=>U=h/\o<=n/\iS h nO iH rc/\Hc iH (ins.drop o)/\D.map dO.l++tu iH (ins.drop o)=tu hand ins/\(∀d∈D,d.ok h)/\D.length=o) (λ(o,_)=>n-o) (0,none,0,[],aO,hand,aw) (λ_=>rfl) ⟨rfl,cO _,aP,aB,rfl,(by simp),rfl⟩ he rfl ?_;clear he aP aB;rintro⟨o,A,c,D,nO,iH,rc⟩ e U ⟨ex,hk,aP,aB,hm,hs,EO⟩;rw[ex];refine aK λhc eT hi=>?_;refine eT _ _ _ ?_;refine aK λkb fE i'=>?_;refine aW (λq=>?_) (λq=>?_);obtain⟨g,ak⟩:=e2.cc (by omega);have ae:o<ins.length:=by omega
 have V6:=e2.one ak (i:=o) (r:=[R ins[o]]) (by unfold gZ;rw[dV,bZ ae];rfl) rfl;rw[o6 ae]at aB hm;rw[tu]at hm;obtain⟨d1,d2,d3⟩:=aB;generalize ins[o]=r at V6 d1 d2 d3 hm;obtain⟨r,rfl⟩:∃k:Nat,r=k:=⟨r.toNat,by omega⟩;rw[bq]at d3 hm;obtain⟨av,HX⟩:=aP.dG;refine fE _ _ _ ?_;refine aK λkc gg j1=>?_;refine fG λko g' ja=>?_;refine aK λlq gX kR=>?_;refine .m g ak ?_;refine .hp (R r) (by rw[bq];exact V6) ?_;refine gX _ _ _ ?_;refine aK λsd lC sK=>?_;refine .mk 0 r rfl rfl (by omega) (by omega) λq6 aDQ pe=>?_;rw[M7 aDQ pe];refine .done (.cR 1 _ [.slice nO r rc] rfl rfl (by intro u hu;rw[fx]at hu;subst hu;rfl) (by unfold c';omega) (by omega) λbA bu _=>?_);refine lC _ _ _ ?_;refine .mk r iH.length rfl rfl (by omega) HX λhz pe EM=>?_;obtain⟨HQ,_⟩:=aP.drop (vB:=hz) (k:=r) (by omega) pe EM;refine ja _ _ _ _ nofun (gg _ _ _ ?_);refine .aLS ?_;have cB:(iH.take r).length=r:=by rw[sa];omega
 refine⟨(o+1,bA,bu,D++[⟨nO,rc,iH.take r⟩],hz,iH.drop r,rc-r),?_,?_,⟨rfl,by omega,HQ,d3,by rw[fm,mb];exact hm,λd aB=>?_,by simp[EO]⟩,by show n- (o+1)<n-o;omega⟩;show _=[_,_,_,_,aA.v (.slice hz (iH.drop r).length (rc-r)),_,_,_];rw[k1];rfl;show _=[_,LE.row 27 1 bA (o+1) bu ((D++[(⟨nO,rc,iH.take r⟩:dO)]).map dO.val)];rw[fm];show _=[_,LE.row 27 1 bA (o+1) bu (D.map dO.val++[.slice nO (iH.take r).length rc])];rw[cB];rfl;rcases ev.1 aB with aB|aB;exact hs d aB;rw[fx]at aB;subst aB;show bg h 1 nO (iH.take r).length (gZ (iH.take r));rw[cB];unfold gZ;rw[GM];exact av.take (by omega);refine i' _ _ _ _ nofun ?_;obtain rfl:o=n:=by omega
 have aJ:ins.drop o=[]:=tg (by omega);rw[aJ,tu,zR]at hm;exact cD _ A c D rfl hm hs EO
end
end Go.Sx
