/- A part of the proof that the statement holds. Conditions: none. -/
import Derived.Deep.LoopGhost
import Derived.Scope
import Derived.ProofKit
import Derived.SizedLaws
import Derived.Lib.SmallJoins
import Derived.RangeFuncSeq
import Derived.Sort.LoopGhostIn
import Derived.Test.YtlbdbpaelcnfgaaGreatDoorProg
import Derived.Test.YtlbdbpaelcnfgaaGreatDoorAB
open Array renaming ext'->r6,foldl_toList->agi,getD_eq_getD_getElem?->zF,getElem?_eq_getElem->JM,getElem?_eq_some_iff->tb,getElem?_push->DR,getElem?_toList->zG,replicate->DS,toList_map->wO
open Bool renaming and_eq_true->fY,false_eq_true->uh,not_eq_true'->td,or_eq_true->yd,true_and->wQ
open Go renaming Addr->ar,Code->ox,DataW->oy,Deferred->l9,Exit->fU,FuncId->jh,LetsOut->N0,MemPlace->vK,Oper->b8,Operand->e3,Program->dW,ResultVar->w2,TypeId->fc,Value->ao,World->bb,execOp->cY,execOp_put->Px,getD_set_ne->PW,getD_set_true->alG,laidOutB->RK,mem_ready->R6,resolve->zx,undef->eU,wanted_put->T1,wpAny->Jy,wp_loop_ghost->azY,wp_mono->wK,yielded->j8
open Go.Act renaming eval->Gm,put->Ug
open Go.Calls renaming mono->agp
open Go.Code renaming loop->NK
open Go.DataW renaming TrodAll->NL,Whole->agv
open Go.Deferred renaming ofValue->Bz
open Go.Ending renaming returned->agz
open Go.Instr renaming loadAt->zQ,sureAddr->qq
open Go.Oper renaming upon->ahV,upon_enter->GU,wp->zX
open Go.Proofs.Tryz renaming prog->aH
open Go.Region renaming before->eB,binds->qy,ready->D',wanted->gz
open Go.Result renaming andThen_ok->hd
open Go.Sem renaming run_bind->aDF,run_pure->jR
open Go.Value renaming agg->Ke,bool->qB
open Go.WideElems renaming Trod_stays->aAy
open List renaming all_eq_true->oA,any_eq_true->UT,eq_nil_of_length_eq_zero->ra,flatten_cons->qr,foldl_cons->DY,getElem?_append->JY,getElem?_eq_some_iff->qt,getElem?_map->dV,getElem?_take->GH,length_cons->gI,map_append->fm,map_congr_left->pK,map_cons->eO,map_map->lo,mem_append_right->wT,mem_cons->dC,mem_cons_of_mem->iv,mem_cons_self->iU,mem_map->dn,mem_range->re,mem_singleton->fx,nil_append->J3,nodup_cons->k3,range->aDB
open List.cons renaming injEq->yp
open Nat renaming beq->gN,ble->nT,eq_of_beq_eq_true->mJ,le_of_ble_eq_true->rh,le_refl->dd,mul_one->ew,succ_mul->BQ,zero_add->dJ
open Ne renaming symm->d9
open Option renaming isSome_iff_exists->Ou,map_eq_some_iff->D3
open Prod.mk renaming injEq->Oy
namespace Go.Sx
set_option maxRecDepth 100000
set_option maxHeartbeats 0
set_option linter.all false
variable {next:Act->bb->Prop}{listed:Array Bool}{b:Array Nat}{ops:Array b8}{m:Bool}{E:List (Nat×ao)}{L:List LE}{bM done:List Nat}{ej:List aA}{N bs bytes c3 cap i o s size:Nat}{d:Option Nat}{A:Option ar}{x:aA}{J ca:b8}{P:dW}{K:eN}{Q:fU->Act->bb->Prop}{f:jh}{k:kk}
def Ek{α:Type}:List α->(α->Prop)->Prop
 |[],_=>True
 |[x],p=>p x
 |x::y::l,p=>p x/\Ek (y::l) p
def QF:LE->LE
 |.row bs size _ _ _ _=>.row bs size none 0 0 []
 |l=>l
def Zo:LE->LE
 |.row bs size _ _ _ _=>.row bs size none 0 0 []
 |_=>.gone
def qa:Nat->List LE->List LE
 |_,[]=>[]
 |0,l::r=>Zo l::qa 0 r
 |n+1,l::r=>QF l::qa n r
def sT(m:Bool)(c3:Nat)(L:List LE):List LE:=match m with
 |true=>qa c3 L
 |false=>L
def rP(m:Bool)(h:I):I:=match m with
 |true=>λ_=>none
 |false=>h
def sV(c3:Nat)(e:bY):kk->Bool
 |.fs _ _ _ _ _ x _=>(match x.get e with
  |.s i _ _ _=>nT c3 i
  |_=>true)
 |_=>true
def rT(c3:Nat)(e:bY)(L:List LE)(J:sb):Bool:=match J.y with
 |false=>true
 |true=>(match J.J.k with
  |.store _ x _=>(match x.get e with
   |.p i _=>nT c3 i&&(match b1 L i with|some (.own ..)=>true|_=>false)
   |_=>false)
  |_=>false)
def BA(P:dW)(f:jh)(args:Array ao)(h:I)(v:ao):Prop:=(∃fn,P.funcs[f]?=some fn/\fn.body.isSome=true/\(fn.name== "runtime.NumGoroutine")=false)/\∀w,lI h w->Calls P f args w λe aZ=>e= .panicked [{v:=v,recovered:=false}]/\Ext h w h aZ
inductive NO(P:dW)(J:cC)(e:bY)(L:List LE)(h:I)(N:Prop)(Z:ao->bY->List LE->I->Prop):Prop
 |go (k:N)
 |die (f:jh) (aLT:List dB) (au:List ao) (v:ao) (hk:J.k= .yD f aLT) (ak:J.g=none) (ah:mY L (aLT.map (dB.get e))=some au) (aB:BA P f au.toArray h v) (z:Z v e L h)
abbrev uC:=Nat->ao->bY->List LE->I->Prop
variable {Z:uC}
def JD(P:dW)(n c3:Nat)(J:sb)(e:bY)(L:List LE)(h:I)(K:eN)(Z:uC):Prop:=match J.q with
 |none=>bif sV c3 e J.J.k&&rT c3 e L J then gG P n J.J e L h K else False
 |some q=>NO P J.J e L h (bif sV c3 e J.J.k&&rT c3 e L J then gG P n J.J e L h K else False) (Z q)
def o3(P:dW)(n c3:Nat)(Z:uC):Nat->List Nat->nX->bY->List LE->I->eN->Prop
 |_,_,[],e,L,h,K=>K e L h
 |0,_,_::_,_,_,_,_=>False
 |f+1,done,x::r,e,L,h,K=>match xR done (x::r)with
  |some (i,J,cT)=>gG P n J.J e (sT J.m c3 L) (rP J.z h) λe _ _=>o3 P n c3 Z f (i::done) cT e L h K
  |none=>Ek (Dp done (x::r) []) λy=>JD P n c3 y.2.1 e L h (λe L h=>o3 P n c3 Z f (y.1::done) y.2.2 e L h K) Z
def r5(P:dW)(n c3:Nat)(Z:uC):hn->bY->List LE->I->eN->Prop
 |.nil,e,L,h,K=>K e L h
 |.top,_,_,_,_=>True
 |.bot,_,_,_,_=>False
 |.v J m z r,e,L,h,K=>gG P n J e (sT m c3 L) (rP z h) λe _ _=>r5 P n c3 Z r e L h K
 |.w J y r,e,L,h,K=>bif sV c3 e J.k&&rT c3 e L {J:=J,after:=[],m:=false,y:=y}then gG P n J e L h (λe L h=>r5 P n c3 Z r e L h K)else False
 |.two J y r s,e,L,h,K=>(bif sV c3 e J.k&&rT c3 e L {J:=J,after:=[],m:=false,y:=y}then gG P n J e L h (λe L h=>r5 P n c3 Z r e L h K)else False)/\r5 P n c3 Z s e L h K
 |.d q J y r,e,L,h,K=>NO P J e L h (bif sV c3 e J.k&&rT c3 e L {J:=J,after:=[],m:=false,y:=y}then gG P n J e L h (λe L h=>r5 P n c3 Z r e L h K)else False) (Z q)
 |.afv q J y r s,e,L,h,K=>NO P J e L h (bif sV c3 e J.k&&rT c3 e L {J:=J,after:=[],m:=false,y:=y}then gG P n J e L h (λe L h=>r5 P n c3 Z r e L h K)else False) (Z q)/\r5 P n c3 Z s e L h K
def T5(P:dW)(n:Nat)(t:hn)(e:bY)(L:List LE)(h:I)(K:eN)(Z:uC):Prop:=r5 P n L.length Z t e L h K
theorem acV(c3:Nat)(e:bY)(L:List LE)(J:sb):rT c3 e L {J:=J.J,after:=[],m:=false,y:=J.y}=rT c3 e L J:=rfl
theorem afW{P:dW}{n c3:Nat}{e:bY}{L:List LE}{h:I}{K:eN}{Z:uC}(g:Nat×sb×nX->hn):∀l:List (Nat×sb×nX),r5 P n c3 Z (Fk (l.map λy=>(y.2.1,g y))) e L h K=Ek l λy=>JD P n c3 y.2.1 e L h (λe L h=>r5 P n c3 Z (g y) e L h K) Z
 |[]=>rfl
 |[x]=>by
  simp only[eO,List.map_nil,Fk,Ek,JD];cases x.2.1.q<;>simp only[r5,acV]
 |x::y::l=>by
  have:=afW (P:=P) (n:=n) (c3:=c3) (e:=e) (L:=L) (h:=h) (K:=K) (Z:=Z) g (y::l);simp only[eO,Fk,Ek,JD]at this⊢;cases x.2.1.q<;>simp only[r5,acV]<;>rw[this]
theorem T4{P:dW}{n c3:Nat}{K:eN}{Z:uC}:∀(f:Nat)(done:List Nat)(t:nX)(e:bY)(L:List LE)(h:I),r5 P n c3 Z (Be f done t) e L h K=o3 P n c3 Z f done t e L h K
 |_,_,[],_,_,_=>by unfold Be o3;rfl
 |0,_,_::_,_,_,_=>by rfl
 |f+1,done,x::r,e,L,h=>by
  unfold Be o3;cases hp:xR done (x::r)with
  |some y=>
   obtain⟨i,J,cT⟩:=y;simp only[r5];congr 1;funext e _ _;exact T4 f _ _ _ _ _
  |none=>
   simp only[];rw[afW];congr 1;funext y;have:(λe L h=>r5 P n c3 Z (Be f (y.1::done) y.2.2) e L h K)=λe L h=>o3 P n c3 Z f (y.1::done) y.2.2 e L h K:=by
    funext e L h;exact T4 f _ _ _ _ _
   rw[this]
theorem Vz{α:Type}{p:α->Prop}:∀{l:List α},Ek l p->∀x∈l,p x
 |[],_,x,ad=>by cases ad
 |[y],h,x,ad=>by rw[fx.1 ad];exact h
 |y::z::l,h,x,ad=>by
  rcases dC.1 ad with rfl|ad;exact h.1;exact Vz h.2 x ad
theorem ab7{l:List Nat}:Dj l i=true↔i∈l:=by
 induction l with
 |nil=>simp[Dj]
 |cons x r bE=>simp only[Dj,yd,bE,dC];constructor<;>(rintro(h|h))<;>simp_all
theorem adT{done:List Nat}:∀{l:List Nat},t8 done l=true↔∀o∈l,o∈done
 |[]=>by simp[t8]
 |x::r=>by simp only[t8,fY,ab7,adT (l:=r),dC,forall_eq_or_imp]
def idx(t:nX):List Nat:=t.map (·.1)
theorem adx{done:List Nat}:∀{t:nX}{i:Nat}{J:sb}{r:nX},xR done t=some (i,J,r)->(idx t).Nodup->(i,J)∈t/\(hD J.J.k&& !J.x)=true/\t8 done J.after=true/\(idx r).Nodup/\(∀x,x∈r↔x∈t/\x.1≠i)
 |[],i,J,r,h,_=>by cases h
 |(o,p)::t,i,J,r,h,aC=>by
  simp only[idx,eO,k3]at aC;simp only[xR]at h;cases af:(hD p.J.k&& !p.x&&t8 done p.after)with
  |true=>
   rw[af]at h;simp only[lv]at h;injection h with h;injection h with h1 ab;injection ab with ab an;subst h1;subst ab;subst an;obtain⟨eS,fC⟩:=(fY _ _).mp af;refine⟨iU ..,eS,fC,aC.2,λx=>⟨λad=>⟨iv _ ad,λe=>aC.1 (by grind)⟩,λ⟨ad,bH⟩=>?_⟩⟩
   grind
  |false=>
   rw[af]at h;simp only[pR]at h;split at h;rename_i nI zo cT am;injection h with h;injection h with h1 ab;injection ab with ab an;subst h1;subst ab;subst an;obtain⟨aM,aD,bj,bT,dz⟩:=adx am aC.2;have bH:o≠nI:=λe=>aC.1 (by grind);refine⟨iv _ aM,aD,bj,?_,λx=>?_⟩;simp only[idx,eO,k3];refine⟨λhm=>?_,bT⟩
   grind
   grind
   grind
theorem adw{done:List Nat}:∀{t:nX},xR done t=none->∀x∈t,(hD x.2.J.k&& !x.2.x)=true->t8 done x.2.after=true->False
 |[],_,x,ad,_,_=>by cases ad
 |(o,p)::t,h,x,ad,h1,ab=>by
  simp only[xR]at h;cases af:(hD p.J.k&& !p.x&&t8 done p.after)with
  |true=>grind
  |false=>
   rw[af]at h;simp only[pR]at h;split at h
   grind
   rename_i am;rcases dC.1 ad with rfl|ad
   grind
   exact adw am x ad h1 ab
theorem ady{done:List Nat}:∀{t pre:nX},(idx (pre++t)).Nodup->∀i J,(i,J)∈t->t8 done J.after=true->∃r,(i,J,r)∈Dp done t pre/\(idx r).Nodup/\∀x,x∈r↔x∈pre++t/\x.1≠i
 |[],pre,_,i,J,ad,_=>by cases ad
 |(o,p)::t,pre,aC,i,J,ad,am=>by
  by_cases jY:(i,J)=(o,p);injection jY with h1 ab;subst h1;subst ab;refine⟨pre++t,by simp[Dp,am],?_,λx=>?_⟩
  grind [idx]
  have sz:∀y∈pre++t,y.1≠i:=λy aQ e=>by
   simp only[idx,fm,eO]at aC
   grind
  grind
  have AV:(i,J)∈t:=by
   grind
  have wm:(idx ((pre++[(o,p)])++t)).Nodup:=by grind
  obtain⟨r,h1,ab,an⟩:=ady wm i J AV am
  grind [Dp]
def Bx(ops:Array b8)(S:Nat->Prop):Prop:=∀o gw,ops[o]?=some gw->S o->∀x∈gw.after,qy .any x=true->S x.on
def w0(ops:Array b8)(i o:Nat):Prop:=∀S:Nat->Prop,Bx ops S->S o->S i
theorem ab4(aDC:Array Nat)(i:Nat):∀(l:List Edge)(s:Nat),(l.foldl (λs e=>if qy .any e then s|||2^e.on|||aDC.getD e.on 0 else s) s).testBit i=true->s.testBit i=true\/∃e∈l,qy .any e=true/\(i=e.on\/(aDC.getD e.on 0).testBit i=true)
 |[],s,h=>.inl h
 |e::l,s,h=>by
  simp only[DY]at h;rcases ab4 aDC i l _ h with h1|⟨bl,h1,ab⟩
  grind
  grind
theorem VS(ops:Array b8):∀(l:List b8)(aDC:Array Nat),(∀o,l[o]?=ops[aDC.size+o]?)->(∀o i,(aDC.getD o 0).testBit i=true->w0 ops i o)->∀o i,((l.foldl (λ(aDC:Array Nat)(J:b8)=>aDC.push (J.after.foldl (λs e=>if qy .any e then s|||2^e.on|||aDC.getD e.on 0 else s) 0)) aDC).getD o 0).testBit i=true->w0 ops i o
 |[],aDC,_,h=>h
 |J::l,aDC,al,h=>by
  simp only[DY];refine VS ops l _ (λo=>?_) (λo i af=>?_);have:=al (o+1)
  grind
  by_cases ae:o<aDC.size;refine h o i ?_;rw[zF,DR,aE (by omega)]at af;simp_all;by_cases p1:o=aDC.size;subst p1;rw[zF,DR,aX rfl,Option.getD_some,<-agi]at af;have aL:ops[aDC.size]?=some J:=by have:=al 0;grind
  rcases ab4 aDC i _ _ af with h1|⟨e,he,amy,h1⟩
  grind
  intro S c5 ama;have ZM:=c5 _ _ aL ama e (by grind) amy;rcases h1 with rfl|h1;omega;exact h _ _ h1 S c5 ZM
  grind
theorem uI(ops:Array b8)(h:((eB ops).getD o 0).testBit i=true):w0 ops i o:=by
 unfold eB at h;rw[<-agi]at h;exact VS ops ops.toList #[] (λo=>by simp) (λo i af=>by grind) o i h
structure BR(P:dW)(ops:Array b8):Prop where
 Mr:∀(o:Nat)(J:b8) cs b,ops[o]?=some J->J.op≠.select cs b
 lt:∀(i:Nat)(J:b8),ops[i]?=some J->∀x∈J.after,qy .any x=true->x.on<i
 dst:∀(i:Nat)(J:b8),ops[i]?=some J->hD (bI P J.op)=true->∃d,J.dst=some d/\d∉J.looksAt ops
 A:∀(i x:Nat)(ca ic:b8),i≠x->ops[i]?=some ca->ops[x]?=some ic->∀d,ic.dst=some d->d∈ca.looksAt ops->w0 ops x i\/(C8 P ops (eB ops) x ic=false/\w0 ops i x)
 B:∀(i x:Nat)(ca ic:b8),i≠x->ops[i]?=some ca->ops[x]?=some ic->∀d,ic.dst=some d->ca.dst=some d->(C8 P ops (eB ops) x ic=false/\w0 ops i x)\/(C8 P ops (eB ops) i ca=false/\w0 ops x i)
 C:∀(i x:Nat)(ca ic:b8),i≠x->ops[i]?=some ca->ops[x]?=some ic->qS (bI P ca.op)=true->pV P ops (eB ops) i=false->hD (bI P ic.op)=true\/C7 (bI P ic.op)=true\/wB (bI P ic.op)=true\/Im (bI P ic.op)=true\/sI ops ic=true\/w0 ops i x\/w0 ops x i
theorem auR(h:Mu P ops=true):BR P ops:=by
 simp only[Mu,fY,oA,re]at h;obtain⟨h1,ab⟩:=h;have di:∀{i:Nat}{J:b8},ops[i]?=some J->i<ops.size:=λh=>(tb.1 h).1;have ZQ:∀i x ca ic,i≠x->ops[i]?=some ca->ops[x]?=some ic->ME P ops (eB ops) i x=true:=by
  grind
 refine⟨Region.noSelect_spec h1,λi J ag x ad af=>?_,λi J ag ah=>?_,λi x ca ic bH ag ad d aB hm=>?_,λi x ca ic bH ag ad d aB uY=>?_,λi x ca ic bH ag ad hm he=>?_⟩
 grind
 grind
 have:=ZQ i x ca ic bH ag ad;simp only[ME,ag,ad,aB,fY,yd,td,List.contains_eq_mem,decide_eq_false_iff_not]at this;rcases this.1 with(an|an)|an
 grind
 exact .inl (uI ops an);exact .inr ⟨an.1,uI ops an.2⟩;have:=ZQ i x ca ic bH ag ad;simp only[ME,ag,ad,aB,uY,fY,yd,td,bne_self_eq_false,uh,false_or]at this;rcases this.2 with an|an;exact .inl ⟨an.1,uI ops an.2⟩;exact .inr ⟨an.1,uI ops an.2⟩;unfold pV at he;rw[List.any_eq_false]at he;have aw:=he x (re.2 (di ad));simp only[fY,bne_iff_ne,ne_eq,bH,not_false_eq_true,true_and,Bool.not_eq_true]at aw;unfold Wt at aw;rw[ag,ad]at aw;simp only[hm,wQ,Bool.not_eq_false',yd]at aw;rcases aw with(((((an|an)|an)|an)|an)|an)|an
 grind
 grind
 grind
 grind
 grind
 exact .inr (.inr (.inr (.inr (.inr (.inl (uI ops an))))));exact .inr (.inr (.inr (.inr (.inr (.inr (uI ops an))))))
theorem In(h1:hD (bI P J.op)=true)(ab:pV P ops (eB ops) i=false):C8 P ops (eB ops) i J=true:=by
 unfold C8;grind
def me(ops:Array b8)(i:Nat):Option Nat:=(ops[i]?).bind (·.dst)
def hF(ops:Array b8):List (Nat×ao)->Act->Act
 |[],a=>a
 |(i,v)::E,a=>(hF ops E a).put (me ops i) v
theorem Ja{ops:Array b8}(d:Option Nat)(v:ao)(a:Act):∀(E:List (Nat×ao)),(∀x∈E,∀t,d=some t->me ops x.1≠some t)->hF ops E (a.put d v)=(hF ops E a).put d v
 |[],_=>rfl
 |(i,u)::E,h=>by
  simp only[hF];rw[Ja d v a E λx ad=>h x (iv _ ad)];exact Act.put_comm _ _ _ (λt av=>h (i,u) (iU ..) t av)
theorem adI{ops:Array b8}(i:Nat)(v:ao)(a:Act)(gC:List (Nat×ao))(h:∀x∈gC,∀t,me ops i=some t->me ops x.1≠some t):∀(r9:List (Nat×ao)),hF ops (r9++(i,v)::gC) a=hF ops (r9++gC) (a.put (me ops i) v)
 |[]=>(Ja _ v a gC h).symm
 |(o,u)::r9=>by simp only[List.cons_append,hF,adI i v a gC h r9]
theorem adG{ops:Array b8}{J:b8}(aj:∀cs b,J.op≠.select cs b)(a:Act):∀(E:List (Nat×ao)),(∀x∈E,∀t,me ops x.1=some t->t∉J.looksAt ops)->cY (hF ops E a).eval J=cY a.eval J/\gz J (j8 ops (hF ops E a).tmps)=gz J (j8 ops a.tmps)
 |[],_=>⟨rfl,rfl⟩
 |(i,u)::E,h=>by
  obtain⟨h1,ab⟩:=adG aj a E λx ad=>h x (iv _ ad);simp only[hF];rw[Px (ops:=ops) J aj _ _ _ (h (i,u) (iU ..)),T1 (ops:=ops) J _ _ _ (h (i,u) (iU ..))]
  grind
theorem adF{ops:Array b8}(d:List l9):∀(E:List (Nat×ao))(a:Act),hF ops E {a with defers:=d}={hF ops E a with defers:=d}
 |[],_=>rfl
 |(i,u)::E,a=>by
  simp only[hF,adF d E a];cases me ops i<;>rfl
theorem ML{ops:Array b8}:∀(E:List (Nat×ao))(a:Act),(hF ops E a).defers=a.defers
 |[],_=>rfl
 |(i,u)::E,a=>by
  simp only[hF];rw[<-ML E a];cases me ops i<;>rfl
theorem az0{a:Act}{w:bb}{next':Act->bb->Prop}(he:cY (hF ops E a).eval J=cY a.eval J)(aB:∀x∈E,∀t,J.dst=some t->me ops x.1≠some t)(aC:∀(v:ao)(cP:Act)(cF:bb),cP.tmps=a.tmps->next' (hF ops E (cP.put J.dst v)) cF->next (cP.put J.dst v) cF)(h:J.wp P (hF ops E a) w next' (λ_ _ _=>False)):J.wp P a w next Q:=by
 unfold zX at h⊢;rw[he]at h;have key:∀v(cP:Act) cF,cP.tmps=a.tmps->next' ((hF ops E cP).put J.dst v) cF->next (cP.put J.dst v) cF:=λv cP cF av aP=>aC v cP cF av (by rw[Ja _ v cP E aB];exact aP)
 generalize(cY a.eval J).run P w=r at h⊢;cases r with
 |ok x aZ=>
  cases x<;>simp only[ahV]at h⊢
  grind
  grind
  case defer d=>
   have:=key eU {a with defers:=d::a.defers} aZ rfl;rw[adF]at this;refine this ?_;rw[ML]at h;exact h
  case enter f args=>
   refine h.mono λe pF aP=>?_;cases e with
   |returned v=>grind
   |panicked c=>grind
   |outgrown=>obtain⟨_,_,aP⟩:=aP;grind
  case row row args=>exact h.mono λv pF aP=>key v a pF rfl aP
 |halt x aZ=>
  cases x<;>simp only[ahV]at h
section
variable {P:dW}{ai:I}{aV:bb}{n:Nat}{β:Nat->Nat}{L:List LE}{h:I}{e:bY}{a:Act}{w:bb}
def wY(P:dW)(ops:Array b8)(J:b8)(ac:Act)(v:ao)(w:bb):Prop:=(gz J (j8 ops ac.tmps)=true/\(cY ac.eval J).run P w= .ok (.value v) w)\/(gz J (j8 ops ac.tmps)=false/\v=eU)
theorem azW(hk:hD k=true)(hm:qS k=false)(bd:List LE)(U:I)(V:aA->Prop):eX k e L h V=eX k e bd U V:=by
 cases k with
 |load agg m x=>grind [qS]
 |lookup bQ z x k ok=>grind [qS]
 |Fu x=>grind [qS]
 |eqv neg Pp x y=>rcases Pp with _|_|_|_|_|Pp<;>rfl
 |unop op x=>cases op<;>rfl
 |conv s d x=>rcases s with _|_|s<;>rcases d with _|d<;>rfl
 |tm op ty x y=>cases op<;>rcases ty with _|ty<;>rfl
 |_=>rfl
theorem FG:∀(N:Nat)(L:List LE)(i:Nat),b1 (qa N L) i=(b1 L i).map λl=>if i<N then QF l else Zo l
 |_,[],i=>by rfl
 |0,l::r,0=>by rfl
 |0,l::r,i+1=>by simp only[qa,b1,FG 0 r i,Nat.not_lt_zero,k']
 |N+1,l::r,0=>by rfl
 |N+1,l::r,i+1=>by simp only[qa,b1,FG N r i,Nat.add_lt_add_iff_right]
theorem adW{L:List LE}:fi (qa N L) i↔fi L i:=by
 unfold fi;simp only[FG,D3];constructor;rintro⟨l,⟨k,hk,rfl⟩,am⟩;refine⟨k,hk,?_⟩;rw[<-am];by_cases ag:i<N;rw[aX ag];cases k<;>rfl;rw[aE ag];cases k<;>rfl;rintro⟨k,hk,am⟩;refine⟨_,⟨k,hk,rfl⟩,?_⟩;rw[<-am];by_cases ag:i<N;rw[aX ag];cases k<;>rfl;rw[aE ag];cases k<;>rfl
theorem Su{L:List LE}:x.h6 (qa N L)↔x.h6 L:=by cases x<;>simp only[aA.h6,adW]
theorem au1{L:List LE}:x.ok (qa N L)↔x.ok L:=by
 cases x with
 |a xs=>simp only[aA.ok,Su]
 |_=>simp only[aA.ok,Su]
theorem acA(w:bb)(bs size:Nat):w.ownsRow 0 bs size (.slice none 0 0) 0 []:=⟨by simp,.inl ⟨rfl,rfl⟩⟩
theorem xY{L:List LE}{h:I}{w:bb}{β:Nat->Nat}:jQ β (qa N L) h w↔lI h w/\∀i l,i<N->b1 L i=some l->l.isRow=false->l.eL β i w:=by
 constructor;intro s;refine⟨s.hw,λi l ag al am=>?_⟩;have:=s.bR i (QF l) (by rw[FG,al,Option.map_some,aX ag]);cases l<;>first|exact this|cases am
 rintro⟨h1,ab⟩;refine⟨h1,λi k hk=>?_⟩;rw[FG,D3]at hk;obtain⟨l,al,rfl⟩:=hk;by_cases ag:i<N;rw[aX ag];cases am:l.isRow with
 |false=>
  have:=ab i l ag al am;cases l<;>first|exact this|cases am
 |true=>
  cases l with
  |row bs size A n cap xs=>exact⟨acA w _ _,λg e=>by cases e⟩
  |_=>cases am
 rw[aE ag];cases l<;>first|trivial|exact⟨acA w _ _,λg e=>by cases e⟩
theorem aev{z:Bool}(s:jQ β L h w):jQ β (sT m N L) (rP z h) w:=by
 have aY:lI (rP z h) w:=by
  cases z;exact s.hw;exactλo J aL=>(by cases aL)
 cases m;exact⟨aY,s.bR⟩;exact xY.2 ⟨aY,λi l _ al _=>s.bR i l al⟩
theorem acU(aF:de L):de (qa N L):=by
 intro i cs ty ag x ad;rw[FG,D3]at ag;obtain⟨l,al,aP⟩:=ag;have:l= .own cs ty:=by
  by_cases ag:i<N;rw[aX ag]at aP;cases l<;>first|exact aP|cases aP
  rw[aE ag]at aP;cases l<;>cases aP
 subst this;exact Su.2 (aF i cs ty al x ad)
theorem auZ(aF:de L):de (sT m N L):=by
 cases m;exact aF;exact acU aF
theorem acW:x.ok (sT m N L)↔x.ok L:=by
 cases m;rfl;exact au1
theorem awB(r:cJ n β L e a):cJ n β (sT m N L) e a:=⟨r.defers,r.size,r.env,λt=>acW.2 (r.ok t)⟩
theorem aki(s:jQ β L h w)(r:cJ n β L e a)(aF:de L)(hk:hD (bI P J.op)=true){V:aA->Prop}(hp:eX (bI P J.op) e L h V):∃bx,V bx/\bx.ok L/\∀aZ,(qS (bI P J.op)=true->jQ β L h aZ)->(cY a.eval J).run P aZ= .ok (.value (bx.c β)) aZ:=by
 obtain⟨bx,h1,ab,an⟩:=Py r aF hk hp;refine⟨bx,h1,ab,λaZ mq=>?_⟩;cases hm:qS (bI P J.op)with
 |true=>exact an aZ (mq hm)
 |false=>
  have ww:eX (bI P J.op) e (qa 0 L) (λ_=>none) V:=by rw[azW hk hm _ _ V]at hp;exact hp
  obtain⟨aBS,_,_,g3⟩:=Py (L:=qa 0 L) (h:=λ_=>none) (r.agree (λ_ _=>rfl) λi ag=>adW.2 ag) (acU aF) hk ww;have ak:∀w,jQ β (qa 0 L) (λ_=>none) w:=λw=>xY.2 ⟨λo J aL=>(by cases aL),λi l ag=>(by omega)⟩;have aJ:=an w s;have aI:=g3 w (ak w);rw[aJ]at aI;injection aI with aI;injection aI with aI;rw[aI];exact g3 aZ (ak aZ)
theorem afU(s:jQ β L h w)(r:cJ n β L e a)(aF:de L)(hk:hD (e5 P ops J).k=true){d:Nat}(aB:J.dst=some d)(hp:gG P n (e5 P ops J) e L h K):hD (bI P J.op)=true/\∃bx,K (h7 e d bx) L h/\bx.ok L/\d<n/\∀aZ,(qS (bI P J.op)=true->jQ β L h aZ)->wY P ops J a (bx.c β) aZ:=by
 have qP:∀{bx:aA}{e:bY},gn n (some d) bx e L h K->d<n/\K (h7 e d bx) L h:=by
  intro bx e aP;simp only[gn]at aP;simp_all
 unfold e5 at hp hk;split at hp;rename_i g ak;rw[ak]at hk;simp only at hk;refine⟨hk,?_⟩;have run:∀bl,bl=e->fz P n (bI P J.op) J.dst bl L h K->gz J (j8 ops a.tmps)=true->∃bx,K (h7 e d bx) L h/\bx.ok L/\d<n/\∀aZ,(qS (bI P J.op)=true->jQ β L h aZ)->wY P ops J a (bx.c β) aZ:=by
  rintro bl rfl hw Q6;rw[aaN _ hk,aB]at hw;obtain⟨bx,aM,aD,bj⟩:=aki s r aF hk hw;obtain⟨hJ,z2⟩:=qP aM;exact⟨bx,z2,aD,hJ,λaZ mq=>.inl ⟨Q6,bj aZ mq⟩⟩
 have skip:∀bl,bl=e->gn n J.dst (.v eU) bl L h K->gz J (j8 ops a.tmps)=false->∃bx,K (h7 e d bx) L h/\bx.ok L/\d<n/\∀aZ,(qS (bI P J.op)=true->jQ β L h aZ)->wY P ops J a (bx.c β) aZ:=by
  rintro bl rfl hw Q6;rw[aB]at hw;obtain⟨hJ,z2⟩:=qP hw;exact⟨.v eU,z2,trivial,hJ,λaZ _=>.inr ⟨Q6,rfl⟩⟩
 cases eK:J.guard with
 |none=>
  rw[eK]at ak;injection ak with ak;subst ak;exact run e rfl hp (by simp[gz,eK])
 |some zf=>
  obtain⟨o,r4⟩:=zf;rw[eK]at ak;simp only[tT]at ak;split at ak;rename_i gw ae;split at ak;rename_i t av;injection ak with ak;subst ak;obtain⟨hl,aDA⟩:=Nx r ae av;simp only[gG]at hp;split at hp;rename_i b af;have aQ:=hl b af;cases r4<;>cases b<;>simp only[fe]at hp;exact run _ (l8 af) hp (by simp[gz,eK,aQ]);exact skip _ (l8 af) hp (by simp[gz,eK,aQ]);exact skip _ (l8 af) hp (by simp[gz,eK,aQ]);exact run _ (l8 af) hp (by simp[gz,eK,aQ]);rename_i au af;have aQ:=aDA au af;simp_all[gz,eK,aQ]
  grind
  grind
  grind
 rename_i ak;rw[ak]at hk;cases hk
theorem azP(hk:C7 (bI P J.op)=true)(hp:gG P n (e5 P ops J) e L h K):gG P n (e5 P ops J) e L h λbl bd U=>K bl bd U/\(bd=L\/∃l,bd=L++[l])/\U=h:=by
 have qP:∀{d:Option Nat}{bx:aA}{e:bY}{bd:List LE},(bd=L\/∃l,bd=L++[l])->gn n d bx e bd h K->gn n d bx e bd h λbl bd U=>K bl bd U/\(bd=L\/∃l,bd=L++[l])/\U=h:=by
  intro d bx e bd al aP;cases d with
  |none=>exact⟨aP,al,rfl⟩
  |some d=>
   unfold gn at aP⊢
   grind
 have ay:∀(d:Option Nat)(e:bY),fz P n (bI P J.op) d e L h K->fz P n (bI P J.op) d e L h λbl bd U=>K bl bd U/\(bd=L\/∃l,bd=L++[l])/\U=h:=by
  intro d e aP;generalize bI P J.op=k at hk aP⊢;cases k<;>simp only[C7]at hk<;>first|grind|skip
  simp only[fz,force_eq]at aP⊢
  grind
  simp only[fz,Cl,we]at aP⊢
  grind
  simp only[fz,Cl,we]at aP⊢
  grind
  simp only[fz,Cl,we]at aP⊢
  grind
  simp only[fz]at aP⊢;split at aP;cases aP with
  |mk m al aw af hm bQ=>exact .mk m al aw af hm λg=>qP (.inr ⟨_,rfl⟩) (bQ g)
  |one m z aY aj al aw af hm bQ=>exact .one m z aY aj al aw af hm λg=>qP (.inr ⟨_,rfl⟩) (bQ g)
  |room c al aw af hm bQ=>exact .room c al aw af hm λg=>qP (.inr ⟨_,rfl⟩) (bQ g)
  omega
 unfold e5 at hp⊢;split at hp;rename_i g ak;simp only[gG]at hp⊢;split at hp
 grind
 rename_i t r4;split at hp;rename_i b af;cases r4<;>cases b<;>simp only[fe]at hp⊢<;>first|grind|grind
 grind
 omega;exact hp.elim
theorem ajf(hk:hD k=true):pP k=k:=by cases k<;>first|rfl|grind [hD]
theorem ajg(k:kk):hD (pP k)=hD k:=by cases k<;>rfl
theorem alt(k:kk):hD (Cm k)=hD k:=by cases k<;>rfl
theorem als(hk:hD k=true):Cm k=k:=by cases k<;>first|rfl|grind [hD]
theorem VF{n m:Nat}{S:List ao->Prop}{h:I}{K:aA->List LE->I->Prop}(hp:fQ bs size bytes A n cap m S L λx L=>K x L h):BB bs size bytes A n cap m S L h K:=by
 cases hp with
 |cR i xs au ag aj h1 hm af k=>exact .cR i xs au ag aj h1 hm af k
 |fresh au aO aC yR aj h1 hm af k=>exact .fresh au aO aC yR aj h1 hm af k
 |off i b kV N iJ xs au aO ag db hC aj h1 ai hm af bJ bB=>exact .off i b kV N iJ xs au aO ag db hC aj h1 ai hm af bJ bB
theorem S3:∀(ej:List aA)(au:List ao),mY L ej=some au->IN L ej=none:=by
 have h1:∀(x:aA) v,xU L x=some v->Mm L x=none:=by
  intro x v ad;cases x<;>simp only[xU,Mm]at ad⊢;case p i off=>split at ad<;>first|(rename_i af;rw[af])|cases ad
  case s i off l c=>split at ad<;>first|(rename_i af;rw[af])|cases ad
  case m i=>split at ad<;>first|(rename_i af;rw[af])|cases ad
 have ab:∀(xs:List aA) au,qf L xs=some au->IP L xs=none:=by
  intro xs;induction xs with
  |nil=>intro _ _;rfl
  |cons x xs bE=>
   intro au ad;simp only[qf]at ad;split at ad;rename_i v r ah am;simp only[IP,h1 x v ah,bE r am];cases ad
 intro ej;induction ej with
 |nil=>intro _ _;rfl
 |cons x xs bE=>
  intro au ad;simp only[mY]at ad;split at ad;rename_i v r ah am;have:acy L x=none:=by
   cases x with
   |a aN=>
    simp only[raw]at ah;split at ah;rename_i q aq;exact ab aN q aq;cases ah
   |_=>simp only[raw]at ah;exact h1 _ _ ah
  simp only[IN,this,bE r am];cases ad
theorem avU{xs:List aA}{K:List LE->I->Prop}{jA:Nat}(aC:IN L xs=none):kX (jA+1) xs K L h=K L h:=by
 rw[kX,aC]
theorem adQ:∀(ej:List aA)(au:List ao),qf L ej=some au->mY L ej=some au
 |[],au,h=>h
 |x::xs,au,h=>by
  simp only[qf]at h;split at h;rename_i v r ah am;injection h with h;have ad:raw L x=some v:=by cases x<;>first|exact ah|grind [xU]
  simp only[mY,ad,adQ xs r am,h]
  grind
theorem VE{m:Nat}{y:aA}(hp:Gh n bs size bytes A m cap y d e L h K):Gg n bs size bytes A m cap y d e L h K:=by
 unfold Gh at hp;unfold Gg;split at hp;exact .done (VF (K:=λx L h=>gn n d x e L h K) hp);split at hp;split at hp;split at hp;rename_i oo _ _ au fh;rw[avU (S3 oo au (adQ oo au fh)),fh];exact .done (VF (K:=λx L h=>gn n d x e L h K) hp)
 grind
 omega;omega;omega
theorem Wc(hp:Gi P n f ej d e L h K):zD P n f ej d e L h K:=by
 unfold Gi at hp;unfold zD;split at hp;rename_i au fh;simp only[kX,S3 ej au fh,fh];clear fh;induction hp with
 |mk ax aw _ k=>exact .done (.mk ax aw k)
 |bV i bs size A m cap xs ag _ bE=>exact .bV i bs size A m cap xs ag λU cu am az=>bE U cu am az
 grind
theorem O7(hp:fz P n (pP k) d e L h K):fz P n k d e L h K:=by
 cases k<;>first|exact hp|skip
 case call f aLT=>exact Wc hp
 case yE x aLT=>
  simp only[pP,fz]at hp⊢;split at hp;exact Wc hp;omega
 case append t bs s b z x y=>
  simp only[pP,fz]at hp⊢;split at hp;exact VE hp;split at hp;rename_i cs ty _;cases af:(gN cs.length (_*s)&&nT _ _&&gN ty bs&&nT _ 9223372036854775807)with
  |false=>grind
  |true=>
   rw[af]at hp;simp only[lv]at hp⊢;split at hp;obtain⟨bQ⟩:=hp;exact⟨λb af=>VE (bQ b af)⟩;omega
  omega;omega
theorem Wf{J:cC}(hp:gG P n (uM J) e L h K):gG P n J e L h K:=by
 unfold gG uM at*;simp only at hp⊢;split at hp;exact O7 hp;rename_i t r4 ak;split at hp;rename_i b af;cases r4<;>cases b<;>simp only[fe]at hp⊢<;>first|exact O7 hp|exact hp
 omega;omega
theorem ajb(hp:Nr P n f ej d e L h K):zD P n f ej d e L h K:=by
 unfold Nr at hp;unfold zD;split at hp;rename_i au fh;obtain⟨ax,aw,k⟩:=hp;simp only[kX,S3 ej au fh,fh];exact .done (.mk ax aw k)
 grind
theorem Ye(hp:fz P n (Cm k) d e L h K):fz P n k d e L h K:=by
 cases k<;>first|exact O7 hp|skip
 exact ajb hp
theorem alu{J:cC}(hp:gG P n (Cn J) e L h K):gG P n J e L h K:=by
 unfold gG Cn at*;simp only at hp⊢;split at hp;exact Ye hp;rename_i t r4 ak;split at hp;rename_i b af;cases r4<;>cases b<;>simp only[fe]at hp⊢<;>first|exact Ye hp|exact hp
 omega;omega
structure w4(P:dW)(bM:List Nat)(ai:I)(aV:bb)(n c3:Nat)(ops:Array b8)(listed:Array Bool)(a:Act)(w:bb)(E:List (Nat×ao))(done:List Nat)(e:bY)(L:List LE)(h:I)(β:Nat->Nat):Prop where
 size:listed.size=ops.size
 closed:Bx ops λo=>listed.getD o false=true
 yH:Bx ops λo=>o∈done
 sub:∀o,listed.getD o false=true->o∈done
 zq:∀o,o∈done->listed.getD o false=true\/∃v,(o,v)∈E
 Pm:∀o,o∈done->o<ops.size
 nodup:(E.map (·.1)).Nodup
 info:∀o v,(o,v)∈E->o∈done/\listed.getD o false=false/\∃gw d,ops[o]?=some gw/\gw.dst=some d/\(hD (bI P gw.op)=true/\pV P ops (eB ops) o=false)/\
  ∃C:bb->Prop,(qS (bI P gw.op)=true->∀aZ,jQ β (sT (oU P bM ops (eB ops) o) c3 L) (rP (pH P bM ops (eB ops) o) h) aZ->C aZ)/\∀aZ,(qS (bI P gw.op)=true->C aZ)->wY P ops gw (hF ops E a) v aZ
 mem:cb ai aV β L h w
 rel:cJ n β L e (hF ops E a)
 nM:de L
def z7(P:dW)(bM:List Nat)(ops:Array b8)(done:List Nat)(t:nX):Prop:=(idx t).Nodup/\∀i J,(i,J)∈t↔(i∉done/\∃ca,ops[i]?=some ca/\J={J:=jF P bM ops (eB ops) i ca,after:=(ca.after.toList.filter (qy .any)).map (·.on),m:=oU P bM ops (eB ops) i,x:=pV P ops (eB ops) i,y:=sI ops ca,z:=pH P bM ops (eB ops) i,q:=uO P bM ops ca})
theorem adU:t8 done ((ca.after.toList.filter (qy .any)).map (·.on))=true↔∀x∈ca.after,qy .any x=true->x.on∈done:=by
 rw[adT]
 grind
theorem z7.step{bM:List Nat}{ops:Array b8}{done:List Nat}{t r:nX}(av:z7 P bM ops done t){i:Nat}(aC:(idx r).Nodup)(am:∀x,x∈r↔x∈t/\x.1≠i):z7 P bM ops (i::done) r:=by
 refine⟨aC,λo J=>?_⟩;rw[am,av.2 o J]
 grind
theorem EA(ag:ops[i]?=some ca):me ops i=ca.dst:=by simp[me,ag]
theorem acQ:hD (jF P bM ops b i J).k=hD (e5 P ops J).k:=by
 unfold jF;split;rfl;split;exact alt _;exact ajg _
theorem w4.ahead(ok:BR P ops)(S:w4 P bM ai aV n c3 ops listed a w E done e L h β)(ag:ops[i]?=some ca)(mn:i∉done)(y7:∀x∈ca.after,qy .any x=true->x.on∈done)(hk:hD (jF P bM ops (eB ops) i ca).k=true)(ad:pV P ops (eB ops) i=false)(hp:gG P n (jF P bM ops (eB ops) i ca) e (sT (oU P bM ops (eB ops) i) c3 L) (rP (pH P bM ops (eB ops) i) h) K):∃bl v,K bl (sT (oU P bM ops (eB ops) i) c3 L) (rP (pH P bM ops (eB ops) i) h)/\w4 P bM ai aV n c3 ops listed a w ((i,v)::E) (i::done) bl L h β:=by
 have mm:hD (e5 P ops ca).k=true:=by grind [<-acQ]
 have br:hD (bI P ca.op)=true:=by
  unfold e5 at mm;split at mm;omega;cases mm
 have EU:jF P bM ops (eB ops) i ca=e5 P ops ca:=by
  unfold jF;split;rfl;split;unfold Cn;rw[als mm];unfold uM;rw[ajf mm]
 rw[EU]at hp;obtain⟨d,aB,gW⟩:=ok.dst i ca ag br;obtain⟨_,bx,aM,aD,bj,bT⟩:=afU (aev S.mem.bR) (awB S.rel) (auZ S.nM) mm aB hp;have di:i<ops.size:=(tb.1 ag).1;have E0:me ops i=some d:=by rw[EA ag,aB]
 refine⟨h7 e d bx,bx.c β,aM,⟨S.size,S.closed,?_,λo ae=>iv _ (S.sub o ae),λo ae=>?_,λo ae=>?_,?_,λo v ae=>?_,S.mem,?_,S.nM⟩⟩;intro o gw ae tH x ad af;rcases dC.1 tH with rfl|tH
 grind
 exact iv _ (S.yH o gw ae tH x ad af);rcases dC.1 ae with rfl|ae;simp;rcases S.zq o ae with h1|⟨v,h1⟩
 grind
 grind
 rcases dC.1 ae with rfl|ae;omega;exact S.Pm o ae;rw[eO,k3];refine⟨λhm=>?_,S.nodup⟩;obtain⟨x,ad,AW⟩:=dn.1 hm;have sD:=(S.info x.1 x.2 ad).1
 grind
 have rM:∀(k:Nat)(mW:b8)(u:ao)(aZ:bb),k∈done->ops[k]?=some mW->wY P ops mW (hF ops E a) u aZ->wY P ops mW (hF ops ((i,bx.c β)::E) a) u aZ:=by
  intro k mW u aZ Lu dk u5;have bH:k≠i:=λe=>mn (by grind);have sz:∀t,me ops i=some t->t∉mW.looksAt ops:=by
   intro t av hm;rw[E0]at av;injection av with av;subst av;rcases ok.A k i mW ca bH dk ag d aB hm with y6|⟨y3,_⟩;exact mn (y6 _ S.yH Lu);rw[In br ad]at y3;cases y3
  have aJ:=Px (ops:=ops) mW (λcs b=>ok.Mr k mW cs b dk) (hF ops E a) (me ops i) (bx.c β) sz;have aI:=T1 (ops:=ops) mW (hF ops E a) (me ops i) (bx.c β) sz;unfold wY at u5⊢;simp_all[hF,aJ,aI]
 rcases dC.1 ae with ae|ae;injection ae with aJ aI;subst aJ;subst aI;refine⟨iU ..,?_,ca,d,ag,aB,⟨br,ad⟩,λaZ=>jQ β (sT (oU P bM ops (eB ops) o) c3 L) (rP (pH P bM ops (eB ops) o) h) aZ,λ_ _ aj=>aj,λaZ mq=>?_⟩;cases al:listed.getD o false with
 |false=>rfl
 |true=>exact absurd (S.sub o al) mn
 have u5:=bT aZ mq;have sz:∀t,me ops o=some t->t∉ca.looksAt ops:=by
  grind
 have aJ:=Px (ops:=ops) ca (λcs b=>ok.Mr o ca cs b ag) (hF ops E a) (me ops o) (bx.c β) sz;have aI:=T1 (ops:=ops) ca (hF ops E a) (me ops o) (bx.c β) sz;unfold wY at u5⊢;simp_all[hF,aJ,aI];obtain⟨i1,i2,gw,lx,i3,i4,i5,C,i6,i7⟩:=S.info o v ae;exact⟨iv _ i1,i2,gw,lx,i3,i4,i5,C,i6,λaZ mq=>rM o gw v aZ i1 i3 (i7 aZ mq)⟩;simp only[hF];rw[E0];exact S.rel.put bj (acW.1 aD)
theorem w4.saturate(ok:BR P ops):∀(f:Nat)(done:List Nat)(t:nX)(E:List (Nat×ao))(e:bY),w4 P bM ai aV n c3 ops listed a w E done e L h β->z7 P bM ops done t->o3 P n c3 Z f done t e L h K->∃n2 KA hy agx bl,w4 P bM ai aV n c3 ops listed a w agx KA bl L h β/\z7 P bM ops KA hy/\o3 P n c3 Z n2 KA hy bl L h K/\xR KA hy=none:=by
 intro f;induction f with
 |zero=>
  intro done t E e S av hp;cases t with
  |nil=>exact⟨0,done,[],E,e,S,av,hp,rfl⟩
  |cons x r=>exact hp.elim
 |succ f bE=>
  intro done t E e S av hp;cases t with
  |nil=>exact⟨0,done,[],E,e,S,av,hp,rfl⟩
  |cons x r=>
   cases ah:xR done (x::r)with
   |none=>grind
   |some y=>
    obtain⟨i,J,cT⟩:=y;simp only[o3,ah]at hp;obtain⟨aM,aD,bj,bT,dz⟩:=adx ah av.1;obtain⟨mn,ca,ag,rfl⟩:=(av.2 i J).1 aM;simp only[fY,td]at aD;obtain⟨bl,v,eR,Ea⟩:=S.ahead ok ag mn (adU.1 bj) aD.1 aD.2 hp;exact bE (i::done) cT _ bl Ea (av.step bT dz) eR
theorem Yq(h:listed.getD o true=false):listed.getD o false=false:=by
 grind
theorem alE(ae:o<listed.size)(h:listed.getD o false=false):listed.getD o true=false:=by
 grind
theorem Ay(ag:i<listed.size):(listed.setIfInBounds i true).getD o false=true↔o=i\/listed.getD o false=true:=by
 by_cases e:i=o;simp_all;rw[PW false e];grind
theorem aiN(ok:BR P ops)(aj:listed.size=ops.size)(am:D' .any ops listed=[]):∀o,o<ops.size->listed.getD o false=true:=by
 intro o;induction o using Nat.strongRecOn with
 |_ o bE=>
  intro ae;cases al:listed.getD o false with
  |true=>rfl
  |false=>
   exfalso;have:o∈D' .any ops listed:=by
    refine R6.2 ⟨alE (by omega) al,ops[o],JM ae,λx ad af=>?_⟩;have di:=ok.lt o ops[o] (JM ae) x ad af
    grind
   grind
theorem Bx.set(aw:Bx ops λo=>listed.getD o false=true)(ag:i∈D' .any ops listed)(di:i<listed.size):Bx ops λo=>(listed.setIfInBounds i true).getD o false=true:=by
 obtain⟨_,ca,mo,p0⟩:=R6.1 ag;intro o gw ae al x ad af;rcases(Ay di).1 al with rfl|al;rw[mo]at ae;injection ae with ae;subst ae;exact alG (p0 x ad af);exact alG (aw o gw ae al x ad af)
theorem PB{C:(Nat->Nat)->Prop}(hC:∀bS,(∀i,i<L.length->bS i=β i)->C bS)(aL:h4 ai aV n C K next)(hk:C7 (bI P J.op)=true)(m:cb ai aV β L h w)(r:cJ n β L e a)(aF:de L)(hp:fz P n (bI P J.op) J.dst e L h K):J.wp P a w next Q:=by
 cases ay:J.op with
 |alloc t=>
  rw[ay]at hp;simp only[bI]at hp;split at hp;rename_i i ag;split at hp;rename_i z aY;exact Xx ay ag aY hC aL m r aF hp;exfalso;clear hp;rw[ay]at hk;simp only[bI]at hk;(repeat' split at hk)<;>first|(cases hk;done)|(simp_all;done)
  exfalso;clear hp;rw[ay]at hk;simp only[bI]at hk;(repeat' split at hk)<;>first|(cases hk;done)|(simp_all;done)
 |box t x=>rw[ay]at hp;exact Xy ay hC aL m r aF hp
 |buildSlice t len be=>
  rw[ay]at hp;simp only[bI]at hp;split at hp;rename_i el hu;split at hp;rename_i s b aG he;obtain⟨i,z,ag,aY,aJ,aI,ck,eE,mf⟩:=Hh he;subst aJ;subst mf;exact Xz ay hu ag aY ck hC aL m r aF hp;exfalso;clear hp;rw[ay]at hk;simp only[bI]at hk;(repeat' split at hk)<;>first|(cases hk;done)|(simp_all;done)
  exfalso;clear hp;rw[ay]at hk;simp only[bI]at hk;(repeat' split at hk)<;>first|(cases hk;done)|(simp_all;done)
 |makeSlice t x y=>
  rw[ay]at hp;simp only[bI]at hp;split at hp;rename_i el hu;split at hp;rename_i s b aG he;exact XB ay hu he hC aL m r aF hp;exfalso;clear hp;rw[ay]at hk;simp only[bI]at hk;(repeat' split at hk)<;>first|(cases hk;done)|(simp_all;done)
  exfalso;clear hp;rw[ay]at hk;simp only[bI]at hk;(repeat' split at hk)<;>first|(cases hk;done)|(simp_all;done)
 |makeFunc fn first iz=>rw[ay]at hk;cases fn<;>simp only[bI]at hk<;>(repeat' split at hk)<;>cases hk
 |binOp op t x y hy=>rw[ay]at hk;cases op<;>simp only[bI]at hk<;>(repeat' split at hk)<;>cases hk
 |unOp op t x=>rw[ay]at hk;cases op<;>simp only[bI]at hk<;>(repeat' split at hk)<;>cases hk
 |makeMap t r=>rw[ay]at hk;cases r<;>cases hk
 |call c=>
  rw[ay]at hk;obtain⟨tr,args,iQ⟩:=c;cases tr with
  |value f=>cases f<;>cases hk
  |invoke x y=>cases hk
  |builtin b=>cases b<;>simp only[bI]at hk<;>(repeat' split at hk)<;>cases hk
 |move x=>rw[ay]at hk;cases hk
 |assign x=>rw[ay]at hp;exact XC ay hC aL m r aF hp
 |pick c x y=>rw[ay]at hk;cases hk
 |build t be=>rw[ay]at hk;simp only[bI]at hk;(repeat' split at hk)<;>cases hk
 |insert t m k v=>rw[ay]at hk;cases hk
 |load t x=>rw[ay]at hk;simp only[bI]at hk;(repeat' split at hk)<;>cases hk
 |store t x y=>rw[ay]at hk;simp only[bI]at hk;(repeat' split at hk)<;>cases hk
 |ready g=>rw[ay]at hk;cases hk
 |waits g=>rw[ay]at hk;cases hk
 |nilCheck x=>rw[ay]at hk;cases hk
 |convert s d x=>rw[ay]at hk;simp only[bI]at hk;(repeat' split at hk)<;>cases hk
 |sliceToArrayPointer t x=>rw[ay]at hk;cases hk
 |makeInterface t x=>rw[ay]at hk;cases hk
 |makeChan t x=>rw[ay]at hk;cases hk
 |slice t x bX ag jq=>rw[ay]at hk;simp only[bI]at hk;(repeat' split at hk)<;>cases hk
 |fieldAddr t x i=>rw[ay]at hk;simp only[bI]at hk;(repeat' split at hk)<;>cases hk
 |field t x i=>rw[ay]at hk;simp only[bI]at hk;(repeat' split at hk)<;>cases hk
 |indexAddr t x i=>rw[ay]at hk;simp only[bI]at hk;(repeat' split at hk)<;>cases hk
 |index t x i=>rw[ay]at hk;cases hk
 |lookup t x k b=>rw[ay]at hk;simp only[bI]at hk;(repeat' split at hk)<;>cases hk
 |mapUpdate t m k v=>rw[ay]at hk;simp only[bI]at hk;(repeat' split at hk)<;>cases hk
 |mapEntry t m k=>rw[ay]at hk;cases hk
 |entryStore t m s v=>rw[ay]at hk;cases hk
 |range t x=>rw[ay]at hk;simp only[bI]at hk;(repeat' split at hk)<;>cases hk
 |next x b=>rw[ay]at hk;simp only[bI]at hk;(repeat' split at hk)<;>cases hk
 |entry x=>rw[ay]at hk;cases hk
 |typeAssert x t s b=>rw[ay]at hk;cases hk
 |extract x i=>rw[ay]at hk;cases hk
 |go c=>rw[ay]at hk;cases hk
 |defer c=>rw[ay]at hk;cases hk
 |panic x=>rw[ay]at hk;cases hk
 |send c x=>rw[ay]at hk;cases hk
 |recv t c b=>rw[ay]at hk;cases hk
 |select cs b=>rw[ay]at hk;cases hk
theorem azT{C:(Nat->Nat)->Prop}(hC:∀bS,(∀i,i<L.length->bS i=β i)->C bS)(aL:h4 ai aV n C K next)(hk:C7 (bI P J.op)=true)(m:cb ai aV β L h w)(r:cJ n β L e a)(aF:de L)(hp:gG P n (e5 P ops J) e L h K):
 if gz J (j8 ops a.tmps)then J.wp P a w next Q else next (a.put J.dst eU) w:=by
 have P6:C β:=hC β λ_ _=>rfl
 unfold e5 at hp
 split at hp
 rename_i g ak
 cases eK:J.guard with
 |none=>
  rw[eK]at ak;injection ak with ak;subst ak;simp only[gG]at hp;rw[aX (by simp[gz,eK])];exact PB hC aL hk m r aF hp
 |some zf=>
  obtain⟨o,r4⟩:=zf;rw[eK]at ak;simp only[tT]at ak;split at ak;rename_i gw ae;split at ak;rename_i t av;injection ak with ak;subst ak;obtain⟨hl,aDA⟩:=Nx r ae av;simp only[gG]at hp;split at hp;rename_i b af;have aQ:=hl b af;cases r4<;>cases b<;>simp only[fe]at hp;rw[l8 af]at hp;rw[aX (by simp[gz,eK,aQ])];exact PB hC aL hk m r aF hp;rw[l8 af]at hp;rw[aE (by simp[gz,eK,aQ])];exact jd aL P6 m r aF (x:=.v eU) trivial hp;rw[l8 af]at hp;rw[aE (by simp[gz,eK,aQ])];exact jd aL P6 m r aF (x:=.v eU) trivial hp;rw[l8 af]at hp;rw[aX (by simp[gz,eK,aQ])];exact PB hC aL hk m r aF hp;rename_i au af;have aQ:=aDA au af;rw[aE (by simp[gz,eK,aQ])];exact jd aL P6 m r aF (x:=.v eU) trivial hp
  grind
  grind
  grind
 exact hp.elim
theorem Yt(c:kk->kk)(Lc:c .bad= .bad)(r:cJ n β L e a)(hp:gG P n ({d:=(e5 P ops J).d,g:=(e5 P ops J).g,k:=c (e5 P ops J).k}:cC) e L h K)(run:∀bl,bl=e->fz P n (c (bI P J.op)) J.dst bl L h K->J.wp P a w next Q)(skip:gn n J.dst (.v eU) e L h K->next (a.put J.dst eU) w):
 if gz J (j8 ops a.tmps)then J.wp P a w next Q else next (a.put J.dst eU) w:=by
 unfold e5 at hp
 split at hp
 rename_i g ak
 cases eK:J.guard with
 |none=>
  rw[eK]at ak;injection ak with ak;subst ak;simp only[gG]at hp;rw[aX (by simp[gz,eK])]
  grind
 |some zf=>
  obtain⟨o,r4⟩:=zf;rw[eK]at ak;simp only[tT]at ak;split at ak;rename_i gw ae;split at ak;rename_i t av;injection ak with ak;subst ak;obtain⟨hl,aDA⟩:=Nx r ae av;simp only[gG]at hp;split at hp;rename_i b af;have aQ:=hl b af;cases r4<;>cases b<;>simp only[fe]at hp;rw[l8 af]at hp;rw[aX (by simp[gz,eK,aQ])]
  grind
  rw[l8 af]at hp;rw[aE (by simp[gz,eK,aQ])]
  grind
  rw[l8 af]at hp;rw[aE (by simp[gz,eK,aQ])]
  grind
  rw[l8 af]at hp;rw[aX (by simp[gz,eK,aQ])]
  grind
  rename_i au af;have aQ:=aDA au af;rw[aE (by simp[gz,eK,aQ])]
  grind
  grind
  grind
  grind
 simp only[gG,Lc]at hp
 exact hp.elim
theorem guarded(r:cJ n β L e a)(hp:gG P n (uM (e5 P ops J)) e L h K)(run:∀bl,bl=e->fz P n (pP (bI P J.op)) J.dst bl L h K->J.wp P a w next Q)(skip:gn n J.dst (.v eU) e L h K->next (a.put J.dst eU) w):
 if gz J (j8 ops a.tmps)then J.wp P a w next Q else next (a.put J.dst eU) w:=Yt pP rfl r hp run skip
theorem zr{ax:List LE->I->Prop}{bd:List LE}{U:I}(am:ax bd U)(hp:gn n d x e bd U K):gn n d x e bd U λbl bd U=>K bl bd U/\ax bd U:=by
 cases d with
 |none=>exact⟨hp,am⟩
 |some d=>
  unfold gn at hp⊢
  grind
theorem aAd{P:dW}(h:pH P bM ops b i=true):oU P bM ops b i=true:=by
 unfold pH at h;unfold oU
 grind
def aEh(β:Nat->Nat)(L:List LE)(h:I)(bd:List LE)(U:I):Prop:=∀(m z:Bool)(N:Nat)(aZ:bb),(z=true->m=true)->jQ β (sT m N bd) (rP z U) aZ->jQ β (sT m N L) (rP z h) aZ
theorem aEh.le{U:I}(cu:h.le U):aEh β L h L U:=by
 intro kv ta N aZ _ s;have anv:(rP ta h).le (rP ta U):=by
  cases ta;exact cu;exact I.le_refl _
 exact⟨s.hw.mono anv,s.bR⟩
theorem cb.avT(m:cb ai aV β L h w)(aF:de L){k:Nat}{xs:List ao}(ag:b1 L i=some (.row bs size A k cap xs)):∃U,h.le U/\bz U bs size A k cap xs/\(∀g,A=some g->h g.block=none)/\cb ai aV β (fN L i .gone) U w/\de (fN L i .gone)/\(∀o,fi L o->fi (fN L i .gone) o)/\aEh β L h (fN L i .gone) U:=by
 have aj:=m.bR.bR i _ ag;simp only[LE.eL]at aj;obtain⟨⟨h1,ab⟩,an⟩:=aj;have di:=j4 ag;have fS:∀o q,b1 (fN L i .gone) o=some q->q= .gone\/b1 L o=some q:=by
  intro o q aq;rw[oW _ _ _ _ di]at aq
  grind
 have sx:∀o q,o≠i->b1 L o=some q->b1 (fN L i .gone) o=some q:=λo q ae aq=>by
  rw[oW _ _ _ _ di,aE ae];exact aq
 have WO:∀U,h.le U->(∀aZ,lI U aZ->(LE.row bs size A k cap xs).eL β i aZ)->aEh β L h (fN L i .gone) U:=by
  intro U cu jM kv ta N aZ aov s;cases kv with
  |true=>
   obtain⟨s1,s2⟩:=xY.1 s;have hN:lI (rP ta h) aZ:=by
    cases ta;exact s1.mono cu;exactλo J aL=>(by cases aL)
   refine xY.2 ⟨hN,λq l y8 aq am=>?_⟩;by_cases e:q=i;subst e;rw[ag]at aq;injection aq with aq;subst aq;cases am
   grind
  |false=>
   obtain rfl:ta=false:=by
    grind
   refine⟨s.hw.mono cu,λq l aq=>?_⟩;have aq:b1 L q=some l:=aq;by_cases e:q=i;subst e;rw[ag]at aq;injection aq with aq;subst aq;exact jM aZ s.hw;exact s.bR q l (sx q l e aq)
 rcases ab with⟨ab,aC⟩|⟨g,c,a8,aJ,aI,ck,eE⟩;injection ab with a6 wm aw;subst a6;have et:∀o,fi L o->fi (fN L i .gone) o:=λo⟨q,aq,H9⟩=>by
  by_cases e:o=i;exact⟨.gone,by rw[oW _ _ _ _ di,aX e],rfl⟩;exact⟨q,by grind,H9⟩
 have lZ:∀o q,b1 (fN L i .gone) o=some q->q.live=true->b1 L o=some q:=λo q aq ah=>by
  rcases fS o q aq with rfl|aP;cases ah;omega
 have bc:cb ai aV β (fN L i .gone) h w:=⟨⟨m.bR.hw,λo q aq=>by
  rcases fS o q aq with rfl|aP;trivial;exact m.bR.bR o q aP⟩,λo q aq ah=>m.hole o q (lZ o q aq ah) ah,λo nI q l5 aq p5 ah jZ=>m.inj o nI q l5 (lZ o q aq ah) (lZ nI l5 p5 jZ) ah jZ,λo q aq ah=>m.lt o q (lZ o q aq ah) ah,
  λo q aq ah=>m.bX o q (lZ o q aq ah) ah,m.os,m.tape,m.output,m.size,m.frame,m.fresh⟩
 refine⟨h,I.le_refl h,⟨h1,.inl ⟨rfl,aC,aw⟩⟩,(λg e=>by cases e),bc,(aF.nQ di et (λ_ _ e=>by cases e)),et,WO h (I.le_refl h) λaZ _=>?_⟩;simp only[LE.eL];exact⟨⟨h1,.inl ⟨by grind,aC⟩⟩,an⟩;injection aJ with aJ pa pT;subst aJ;subst pT;have ak:=an _ rfl;simp only at ak;have su:=m.hole i _ ag rfl;rw[<-ak]at su;obtain⟨bc,et⟩:=m.fR (b3:=.gone) ag rfl rfl rfl trivial (by rw[<-ak];exact ck);rw[<-ak]at bc;refine⟨h.put g (.cells a8 bs (0,0)),I.du su,⟨h1,.inr ⟨g,a8,rfl,I.bP _ _ _,eE.1,eE.2.1,eE.2.2.1,eE.2.2.2⟩⟩,(λb7 e=>by grind),bc,(aF.nQ di et (λ_ _ e=>by cases e)),et,WO _ (I.du su) λaZ mq=>?_⟩;simp only[LE.eL];exact⟨⟨h1,.inr ⟨g,_,a8,rfl,aI,mq _ _ (I.bP _ _ _),eE⟩⟩,an⟩
theorem alh{au:Array ao}{UP:ao->List LE->I->Prop}(hp:Gv P f au UP L h)(m:cb ai aV β L h w)(aF:de L):∃bd U,cb ai aV β bd U w/\de bd/\(∀o,fi L o->fi bd o)/\aEh β L h bd U/\∃ax:ao->I->Prop,Fn P f au U ax/\(∀v Az,ax v Az->U.le Az)/\∀v Az,ax v Az->UP v bd Az:=by
 induction hp with
 | @mk L h ax aw cu k=>exact⟨L,h,m,aF,λ_=>id,aEh.le (I.le_refl h),ax,aw,cu,k⟩
 | @bV L h i bs size A k cap xs ag _ bE=>
  obtain⟨h1,cu,am,az,m1,fu,et,d1⟩:=m.avT aF ag;obtain⟨iT,ab,m2,k7,an3,d2,ax,q⟩:=bE h1 cu am az m1 fu;exact⟨iT,ab,m2,k7,λo ae=>an3 o (et o ae),λkv ta N aZ aY s=>d1 kv ta N aZ aY (d2 kv ta N aZ aY s),ax,q⟩
theorem XA(aL:h4 ai aV n (λbS=>bS=β) (λbl bd U=>K bl bd U/\aEh β L h bd U) next)(m:cb ai aV β L h w)(r:cJ n β L e a)(aF:de L)(hp:Gi P n f ej J.dst e L h K)(dp:∀au:List ao,ej.map (aA.c β)=au->(∃fn,P.funcs[f]?=some fn/\fn.body.isSome=true/\(fn.name== "runtime.NumGoroutine")=false)->(cY a.eval J).run P w= .ok (.enter f au.toArray) w):J.wp P a w next Q:=by
 unfold Gi at hp;split at hp;rename_i au fh;have aw:=s3 m.bR ej au fh;obtain⟨f',h1,m1,fu,et,He,ax,rB,cu,k⟩:=alh hp m aF;unfold zX;rw[dp au aw rB.body,GU];refine(rB.run w m1.bR.hw).mono ?_;rintro ke aZ ⟨v,U,rfl,cG,ad⟩;have hk:=k v U cG;refine jd aL rfl (m1.ext ad) (r.agree (λ_ _=>rfl) et) fu (x:=.v v) trivial ?_;exact zr (ax:=λbd U=>aEh β L h bd U) (λkv ta N dw aY s=>He kv ta N dw aY (aEh.le (cu v U cG) kv ta N dw aY s)) hk
 grind
theorem alr(h:yM P bM J=true):∃f aLT,bI P J.op= .call f aLT:=by
 unfold yM at h
 grind
theorem azS(aL:h4 ai aV n (λbS=>bS=β) (λbl bd U=>K bl bd U/\bd=L) next)(az:yM P bM J=true)(m:cb ai aV β L h w)(r:cJ n β L e a)(aF:de L)(hp:gG P n (Cn (e5 P ops J)) e L h K):
 if gz J (j8 ops a.tmps)then J.wp P a w next Q else next (a.put J.dst eU) w:=by
 refine Yt Cm rfl r hp ?_ (λaj=>jd aL rfl m r aF (x:=.v eU) trivial (zr (ax:=λbd _=>bd=L) rfl aj))
 rintro bl rfl hw
 obtain⟨g,aLT,hk⟩:=alr az
 rw[hk]at hw
 simp only[Cm,fz]at hw
 cases ay:J.op with
 |call c=>
  rw[ay]at hk;obtain⟨tr,args,iQ⟩:=c;cases tr with
  |value f=>
   cases f with
   |func b7=>
    have br:kk.call b7 (args.toList.map bK)=kk.call g aLT:=hk;injection br with aJ aI;subst aJ;subst aI;unfold Nr at hw;split at hw;rename_i au fh;have aw:=s3 m.bR _ au fh;obtain⟨ax,rB,k⟩:=hw;have he:args.map a.eval=au.toArray:=by
     rw[<-aw];apply r6;simp only[wO,lo];exact pK λx _=>r.eval x
    have dp:(cY a.eval J).run P w= .ok (.enter b7 au.toArray) w:=by
     simp[cY,ay,zx,Bz,Gm,invoke,he,xW rB.body]
    unfold zX;rw[dp,GU];refine(rB.run w m.bR.hw).mono ?_;rintro ke aZ ⟨v,U,rfl,cG,ad⟩;exact jd aL rfl (m.ext ad) r aF (x:=.v v) trivial (zr (ax:=λbd _=>bd=L) rfl (k v U cG));exact hw.elim
   |tmp t=>cases hk
   |const v=>cases hk
   |global g=>cases hk
  |invoke x y=>cases hk
  |builtin b=>cases b<;>simp only[bI]at hk<;>(repeat' split at hk)<;>cases hk
 |makeFunc fn first iz=>rw[ay]at hk;cases fn<;>simp only[bI]at hk<;>(repeat' split at hk)<;>cases hk
 |binOp op t x y hy=>rw[ay]at hk;cases op<;>simp only[bI]at hk<;>(repeat' split at hk)<;>cases hk
 |_=>rw[ay]at hk;simp only[bI]at hk;(repeat' split at hk)<;>cases hk
theorem azR(aL:h4 ai aV n (λbS=>bS=β) (λbl bd U=>K bl bd U/\aEh β L h bd U) next)(hk:Im (bI P J.op)=true)(m:cb ai aV β L h w)(r:cJ n β L e a)(aF:de L)(hp:gG P n (uM (e5 P ops J)) e L h K):
 if gz J (j8 ops a.tmps)then J.wp P a w next Q else next (a.put J.dst eU) w:=by
 refine guarded r hp ?_ (λaj=>jd aL rfl m r aF (x:=.v eU) trivial (zr (ax:=λbd U=>aEh β L h bd U) (aEh.le (I.le_refl h)) aj))
 rintro bl rfl hw
 cases ay:J.op with
 |call c=>
  rw[ay]at hw hk;obtain⟨tr,args,iQ⟩:=c;cases tr with
  |value f=>
   have TY:∀x,fz P n (.O6 (bK x) (args.toList.map bK)) J.dst bl L h K->J.op= .call {callee:=.value x,args:=args,argTypes:=iQ}->J.wp P a w next Q:=by
    intro x hw ay;simp only[fz]at hw;have ad:=r.eval x;split at hw;rename_i g first iz aD5
    rw[aD5]at ad;refine XA aL m r aF hw λau fh af=>?_;have he:first++args.map a.eval++iz=au.toArray:=by
     rw[<-fh];apply r6;simp only[Array.toList_append,wO,fm,lo];rw[List.append_assoc];have ah:∀l:List ao,l.map (aA.c β∘aA.v)=l:=λl=>by
      induction l with
      |nil=>rfl
      |cons y l bE=>rw[eO,bE];rfl
     rw[ah,ah];congr 2;exact pK λy _=>r.eval y
    simp only[cY,ay,zx,Bz,ad,aA.c,aA.c1,invoke,aDF,jR,hd];rw[he,xW af]
    grind
   cases f with
   |func g=>
    refine XA (ej:=(args.toList.map bK).map (dB.get bl)) aL m r aF hw λau fh af=>?_;have he:args.map a.eval=au.toArray:=by
     rw[<-fh];apply r6;simp only[wO,lo];exact pK λx _=>r.eval x
    simp[cY,ay,zx,Bz,Gm,invoke,he,xW af]
   |tmp t=>exact TY _ hw ay
   |const v=>exact TY _ hw ay
   |global g=>exact TY _ hw ay
  |invoke x y=>cases hk
  |builtin b=>cases b<;>simp only[bI]at hk<;>(repeat' split at hk)<;>cases hk
 |makeFunc fn first iz=>rw[ay]at hk;cases fn<;>simp only[bI]at hk<;>(repeat' split at hk)<;>cases hk
 |binOp op t x y hy=>rw[ay]at hk;cases op<;>simp only[bI]at hk<;>(repeat' split at hk)<;>cases hk
 |unOp op t x=>rw[ay]at hk;cases op<;>simp only[bI]at hk<;>(repeat' split at hk)<;>cases hk
 |makeMap t r=>rw[ay]at hk;cases r<;>cases hk
 |move x=>rw[ay]at hk;cases hk
 |assign x=>rw[ay]at hk;cases hk
 |pick c x y=>rw[ay]at hk;cases hk
 |ready g=>rw[ay]at hk;cases hk
 |waits g=>rw[ay]at hk;cases hk
 |nilCheck x=>rw[ay]at hk;cases hk
 |insert t m k v=>rw[ay]at hk;cases hk
 |convert s d x=>rw[ay]at hk;simp only[bI]at hk;(repeat' split at hk)<;>cases hk
 |sliceToArrayPointer t x=>rw[ay]at hk;cases hk
 |makeInterface t x=>rw[ay]at hk;cases hk
 |makeChan t x=>rw[ay]at hk;cases hk
 |index t x i=>rw[ay]at hk;cases hk
 |mapEntry t m k=>rw[ay]at hk;cases hk
 |entryStore t m s v=>rw[ay]at hk;cases hk
 |range t x=>rw[ay]at hk;simp only[bI]at hk;(repeat' split at hk)<;>cases hk
 |next x b=>rw[ay]at hk;simp only[bI]at hk;(repeat' split at hk)<;>cases hk
 |entry x=>rw[ay]at hk;cases hk
 |typeAssert x t s b=>rw[ay]at hk;cases hk
 |extract x i=>rw[ay]at hk;cases hk
 |go c=>rw[ay]at hk;cases hk
 |defer c=>rw[ay]at hk;cases hk
 |panic x=>rw[ay]at hk;cases hk
 |send c x=>rw[ay]at hk;cases hk
 |recv t c b=>rw[ay]at hk;cases hk
 |select cs b=>rw[ay]at hk;cases hk
 |box t x=>rw[ay]at hk;cases hk
 |alloc t=>rw[ay]at hk;simp only[bI]at hk;(repeat' split at hk)<;>cases hk
 |buildSlice t len be=>rw[ay]at hk;simp only[bI]at hk;(repeat' split at hk)<;>cases hk
 |build t be=>rw[ay]at hk;simp only[bI]at hk;(repeat' split at hk)<;>cases hk
 |load t x=>rw[ay]at hk;simp only[bI]at hk;(repeat' split at hk)<;>cases hk
 |store t x y=>rw[ay]at hk;simp only[bI]at hk;(repeat' split at hk)<;>cases hk
 |fieldAddr t x i=>rw[ay]at hk;simp only[bI]at hk;(repeat' split at hk)<;>cases hk
 |indexAddr t x i=>rw[ay]at hk;simp only[bI]at hk;(repeat' split at hk)<;>cases hk
 |makeSlice t x y=>rw[ay]at hk;simp only[bI]at hk;(repeat' split at hk)<;>cases hk
 |slice t x bX ag jq=>rw[ay]at hk;simp only[bI]at hk;(repeat' split at hk)<;>cases hk
 |field t x i=>rw[ay]at hk;simp only[bI]at hk;(repeat' split at hk)<;>cases hk
 |lookup t x k b=>rw[ay]at hk;simp only[bI]at hk;(repeat' split at hk)<;>cases hk
 |mapUpdate t m k v=>rw[ay]at hk;simp only[bI]at hk;(repeat' split at hk)<;>cases hk
theorem akf{m q:Nat}{S:List ao->Prop}{K o5:aA->List LE->Prop}(ef:∀i Uf m0 Wg xs(x:aA) e1 bA c4 aN,b1 L i=some (.row bs size Uf m0 Wg xs)->K x (fN L i (.row bs size bA e1 c4 aN))->o5 x (fN L i (.row bs size bA e1 c4 aN)))(bm:∀e1 bA c4 aN,K (.v (.slice bA e1 c4)) (L++[.row bs size bA e1 c4 aN])->o5 (.v (.slice bA e1 c4)) (L++[.row bs size bA e1 c4 aN]))(hp:fQ bs size bytes A m cap q S L K):fQ bs size bytes A m cap q S L o5:=by
 cases hp with
 |cR i xs au ag aj h1 hm af bQ=>exact .cR i xs au ag aj h1 hm af λbA c4 aC=>ef i _ _ _ xs _ _ bA c4 _ ag (bQ bA c4 aC)
 |fresh au aO aC yR aj h1 hm af bQ=>exact .fresh au aO aC yR aj h1 hm af λbA c4 aC=>bm _ bA c4 _ (bQ bA c4 aC)
 |off i b kV N iJ xs au aO ag db hC aj h1 ai hm af bJ bB=>exact .off i b kV N iJ xs au aO ag db hC aj h1 ai hm af (λam=>ef i _ _ _ xs _ _ _ iJ _ ag (bJ am)) (λam b7 c4 aw=>bm _ (some b7) c4 _ (bB am b7 c4 aw))
theorem akp{t el b:Nat}{aG:List ao}{x y:e3}(ay:J.op= .call {callee:=.builtin .append,args:=#[x,y],argTypes:=#[t,t]})(hu:P.underlying t=some (.slice el))(he:Aq P el=some (s,b,aG))(aL:h4 ai aV n (λbS=>∀i,fi L i->bS i=β i) (λbl bd U=>K bl bd U/\(∀i l,i<c3->b1 L i=some l->l.isRow=false->b1 bd i=some l)/\U=h) next)(m:cb ai aV β L h w)(r:cJ n β L e a)(aF:de L)(ES:sV c3 e (.fs t el s b aG (bK x) (bK y))=true)(hp:fz P n (.fs t el s b aG (bK x) (bK y)) J.dst e L h K):J.wp P a w next Q:=by
 obtain⟨i,z,ag,aY,aJ,aI,ck,eE,mf⟩:=Hh he;have ad:=r.eval x;have aQ:=r.eval y;have asX:∀(f':List LE)(o:Nat)(b3:LE),(∀l,b1 f' o=some l->l.isRow=true)->(∀i l,i<c3->b1 L i=some l->l.isRow=false->b1 f' i=some l)->∀i l,i<c3->b1 L i=some l->l.isRow=false->b1 (fN f' o b3) i=some l:=by
  intro f' o b3 ae tI i l Lq al am;have h1:=tI i l Lq al am;by_cases u0:i=o
  grind
  rw[pw,Bl,List.getElem?_set_ne (d9 u0),<-pw];exact h1
 have abb:∀(f':List LE)(b3:LE),(∀i l,i<c3->b1 L i=some l->l.isRow=false->b1 f' i=some l)->∀i l,i<c3->b1 L i=some l->l.isRow=false->b1 (f'++[b3]) i=some l:=by
  intro f' b3 tI i l Lq al am;have h1:=tI i l Lq al am;rw[tX,aX (j4 h1)];exact h1
 have fin:∀(j9:Nat->Nat)(f':List LE)(A B:Option ar)(k cap q c:Nat)(S:List ao->Prop),(∀o,fi L o->j9 o=β o)->(∀i,fi L i->fi f' i)->(∀i l,i<c3->b1 L i=some l->l.isRow=false->b1 f' i=some l)->cb ai aV j9 f' h w->cJ n j9 f' e a->de f'->a.eval x= .slice A k cap->a.eval y= .slice B q c->(∀au,S au->yt w s B q au)->fQ el s b A k cap q S f' (λx L=>gn n J.dst x e L h K)->J.wp P a w next Q:=by
  intro j9 f' A B k cap q c S sF AP tI m1 fv fu zb Q8 c5 lA;have am1:fQ el s b A k cap q S f' (λx bd=>gn n J.dst x e bd h λbl bd U=>K bl bd U/\(∀i l,i<c3->b1 L i=some l->l.isRow=false->b1 bd i=some l)/\U=h):=
   akf (λi Uf m0 Wg xs x e1 bA c4 aN ag aP=>zr (ax:=λbd U=>(∀i l,i<c3->b1 L i=some l->l.isRow=false->b1 bd i=some l)/\U=h) ⟨asX f' i _ (λl al=>by rw[ag]at al;injection al with al;subst al;rfl) tI,rfl⟩ aP)
    (λe1 bA c4 aN aP=>zr (ax:=λbd U=>(∀i l,i<c3->b1 L i=some l->l.isRow=false->b1 bd i=some l)/\U=h) ⟨abb f' _ tI,rfl⟩ aP) lA
  obtain⟨bA,c4,hE,bS,bd,aZ,dp,eR,bc,ef,et,LM⟩:=Xf (P:=P) (ty:=J.type) (c:=c) hu ag aY aJ aI ck eE m1 fu c5 am1;refine q4 (v:=.slice bA hE c4) (aZ:=aZ) (by simp[cY,ay,zx,invoke,builtin,zb,Q8,dp]) ?_;exact jd aL (λo ae=>(LM o (AP o ae)).trans (sF o ae)) bc (fv.agree LM et) ef (x:=.v _) trivial eR
 have app:∀(j9:Nat->Nat)(f':List LE)(A:Option ar)(k cap:Nat),(∀o,fi L o->j9 o=β o)->(∀i,fi L i->fi f' i)->(∀i l,i<c3->b1 L i=some l->l.isRow=false->b1 f' i=some l)->cb ai aV j9 f' h w->cJ n j9 f' e a->de f'->a.eval x= .slice A k cap->a.eval y=((bK y).get e).c j9->Gh n el s b A k cap ((bK y).get e) J.dst e f' h K->J.wp P a w next Q:=by
  intro j9 f' A k cap sF AP tI m1 fv fu zb zc hw;unfold Gh at hw;split at hw;rename_i B q c aq;exact fin j9 f' A B k cap q c _ sF AP tI m1 fv fu zb (by rw[zc,aq];rfl) (λau aj=>aeX m1.bR aj) hw;rename_i o off q c aq;split at hw;rename_i cs ty ae;split at hw;rename_i oo AR;split at hw;rename_i au fh;obtain⟨qQ,iK⟩:=sub_eq _ _ _ _ AR;have aw:=Bg m1.bR oo au fh;have tO:yt w s (some ⟨j9 o,off,none⟩) q au:=by
   refine⟨by grind,.inr ⟨_,rfl,λp v ke=>?_⟩⟩;rw[<-aw,dV,D3]at ke;obtain⟨u,hh,rfl⟩:=ke;rw[add_lit];refine M3 m1.bR ae ?_
   grind
  exact fin j9 f' A _ k cap q c _ sF AP tI m1 fv fu zb (by rw[zc,aq];rfl) (λTZ aj=>by grind) hw
  grind
  grind
  grind
  grind
 simp only[fz]at hp;split at hp;rename_i A k cap aq;exact app β L A k cap (λ_ _=>rfl) (λ_=>id) (λ_ _ _ al _=>al) m r aF (by rw[ad,aq];rfl) aQ hp;rename_i l k cap aq;split at hp;rename_i cs ty ae;cases af:(gN cs.length (cap*s)&&nT k cap&&gN ty el&&nT cap 9223372036854775807)with
 |false=>grind
 |true=>
  rw[af]at hp;simp only[fY]at af;obtain⟨⟨⟨eS,fC⟩,pg⟩,wi⟩:=af;have eS:=mJ eS;have fC:=rh fC;have pg:=mJ pg;have wi:=rh wi;subst pg;simp only[lv]at hp;split at hp;rename_i au fh;obtain⟨bQ⟩:=hp;have su:=m.hole l _ ae rfl;have i9:=bQ (β l) su;have fg:=Bg m.bR cs au fh;have u6:=m.bR.bR l _ ae;simp only[LE.eL,fg]at u6;obtain⟨m1,kY⟩:=m.fR (b3:=.gone) ae rfl rfl rfl trivial u6;have fu:=aF.nQ (j4 ae) kY (λ_ _ e=>by cases e);have eb:au.length=cap*s:=by grind
  have cu:k*s<=cap*s:=Nat.mul_le_mul_right s fC;have jM:bz (h.put (β l) (.cells au.toArray ty (0,0))) ty s (some ⟨β l,0,none⟩) k cap (au.take (k*s)):=⟨by grind,.inr ⟨β l,au.toArray,rfl,I.bP _ _ _,fC,by grind [maxLen],by omega,rfl⟩⟩;obtain⟨j',iT,ab,⟨rfl,rfl⟩,m2,k7,oi,nk⟩:=mZ (K:=λiT ab=>iT=fN L l .gone++[.row ty s (some ⟨β l,0,none⟩) k cap (au.take (k*s))]/\ab=ei (h.put (β l) (.cells au.toArray ty (0,0))) (some ⟨β l,0,none⟩)) (.abs ty s (some ⟨β l,0,none⟩) k cap (au.take (k*s)) jM (.done ⟨rfl,rfl⟩)) β m1 fu;have EZ:ei (h.put (β l) (.cells au.toArray ty (0,0))) (some ⟨β l,0,none⟩)=h:=by
   funext o;simp only[ei,I.del,I.put]
   grind
  rw[EZ]at m2;have dU:=(r.agree (λ_ _=>rfl) kY).agree nk oi;have db:c3<=l:=by
   simp_all[sV,aq]
  refine app j' _ _ k cap (λo ae=>nk o (kY o ae)) (λo ae=>oi o (kY o ae)) (abb _ _ λi b3 Lq al am=>?_) m2 dU k7 (by rw[ad,aq];rfl) (dU.eval y) i9;rw[oW _ _ _ _ (j4 ae),aE (by omega)];exact al
  grind
 grind
 grind
theorem azQ(aL:h4 ai aV n (λbS=>∀i,fi L i->bS i=β i) (λbl bd U=>K bl bd U/\(∀i l,i<c3->b1 L i=some l->l.isRow=false->b1 bd i=some l)/\U=h) next)(hk:wB (bI P J.op)=true)(ES:sV c3 e (uM (e5 P ops J)).k=true)(m:cb ai aV β L h w)(r:cJ n β L e a)(aF:de L)(hp:gG P n (uM (e5 P ops J)) e L h K):
 if gz J (j8 ops a.tmps)then J.wp P a w next Q else next (a.put J.dst eU) w:=by
 have CA:sV c3 e (pP (bI P J.op))=true:=by
  unfold e5 at ES hp;split at ES;exact ES;rename_i ak;rw[ak]at hp;exact hp.elim
 refine guarded r hp ?_ (λaj=>jd aL (λ_ _=>rfl) m r aF (x:=.v eU) trivial (zr (ax:=λbd U=>(∀i l,i<c3->b1 L i=some l->l.isRow=false->b1 bd i=some l)/\U=h) ⟨λ_ _ _ al _=>al,rfl⟩ aj))
 rintro bl rfl hw
 cases ay:J.op with
 |call c=>
  rw[ay]at hw hk CA;obtain⟨tr,args,iQ⟩:=c;cases tr with
  |value f=>cases f<;>cases hk
  |invoke x y=>cases hk
  |builtin cj=>
   cases cj with
   |append=>
    simp only[bI]at hw hk CA;split at hw;rename_i x y t hy i8 za;split at hw;rename_i el hu;split at hw;rename_i s cj aG n9;split at hw;rename_i tP;subst tP;have aJ:args=#[x,y]:=by grind
    have aI:iQ=#[t,t]:=by grind
    subst aJ;subst aI;refine akp (c3:=c3) ay hu n9 aL m r aF ?_ hw;simp_all[hu,n9,pP]
    grind [wB]
    grind [wB]
    grind [wB]
    grind [wB]
   |_=>simp only[bI]at hk;(repeat' split at hk)<;>cases hk
 |makeFunc fn first iz=>rw[ay]at hk;cases fn<;>simp only[bI]at hk<;>(repeat' split at hk)<;>cases hk
 |binOp op t x y hy=>rw[ay]at hk;cases op<;>simp only[bI]at hk<;>(repeat' split at hk)<;>cases hk
 |unOp op t x=>rw[ay]at hk;cases op<;>simp only[bI]at hk<;>(repeat' split at hk)<;>cases hk
 |makeMap t r=>rw[ay]at hk;cases r<;>cases hk
 |move x=>rw[ay]at hk;cases hk
 |assign x=>rw[ay]at hk;cases hk
 |pick c x y=>rw[ay]at hk;cases hk
 |ready g=>rw[ay]at hk;cases hk
 |waits g=>rw[ay]at hk;cases hk
 |nilCheck x=>rw[ay]at hk;cases hk
 |insert t m k v=>rw[ay]at hk;cases hk
 |convert s d x=>rw[ay]at hk;simp only[bI]at hk;(repeat' split at hk)<;>cases hk
 |sliceToArrayPointer t x=>rw[ay]at hk;cases hk
 |makeInterface t x=>rw[ay]at hk;cases hk
 |makeChan t x=>rw[ay]at hk;cases hk
 |index t x i=>rw[ay]at hk;cases hk
 |mapEntry t m k=>rw[ay]at hk;cases hk
 |entryStore t m s v=>rw[ay]at hk;cases hk
 |range t x=>rw[ay]at hk;simp only[bI]at hk;(repeat' split at hk)<;>cases hk
 |next x b=>rw[ay]at hk;simp only[bI]at hk;(repeat' split at hk)<;>cases hk
 |entry x=>rw[ay]at hk;cases hk
 |typeAssert x t s b=>rw[ay]at hk;cases hk
 |extract x i=>rw[ay]at hk;cases hk
 |go c=>rw[ay]at hk;cases hk
 |defer c=>rw[ay]at hk;cases hk
 |panic x=>rw[ay]at hk;cases hk
 |send c x=>rw[ay]at hk;cases hk
 |recv t c b=>rw[ay]at hk;cases hk
 |select cs b=>rw[ay]at hk;cases hk
 |box t x=>rw[ay]at hk;cases hk
 |alloc t=>rw[ay]at hk;simp only[bI]at hk;(repeat' split at hk)<;>cases hk
 |buildSlice t len be=>rw[ay]at hk;simp only[bI]at hk;(repeat' split at hk)<;>cases hk
 |build t be=>rw[ay]at hk;simp only[bI]at hk;(repeat' split at hk)<;>cases hk
 |load t x=>rw[ay]at hk;simp only[bI]at hk;(repeat' split at hk)<;>cases hk
 |store t x y=>rw[ay]at hk;simp only[bI]at hk;(repeat' split at hk)<;>cases hk
 |fieldAddr t x i=>rw[ay]at hk;simp only[bI]at hk;(repeat' split at hk)<;>cases hk
 |indexAddr t x i=>rw[ay]at hk;simp only[bI]at hk;(repeat' split at hk)<;>cases hk
 |makeSlice t x y=>rw[ay]at hk;simp only[bI]at hk;(repeat' split at hk)<;>cases hk
 |slice t x bX ag jq=>rw[ay]at hk;simp only[bI]at hk;(repeat' split at hk)<;>cases hk
 |field t x i=>rw[ay]at hk;simp only[bI]at hk;(repeat' split at hk)<;>cases hk
 |lookup t x k b=>rw[ay]at hk;simp only[bI]at hk;(repeat' split at hk)<;>cases hk
 |mapUpdate t m k v=>rw[ay]at hk;simp only[bI]at hk;(repeat' split at hk)<;>cases hk
theorem akB{t:fc}{x y:e3}(ay:J.op= .store t x y)(av:iP P t=true){off:Nat}{xs:List aA}{ty:fc}(aD5:(bK x).get e= .p i off)(db:c3<=i)(ag:b1 L i=some (.own xs ty))(aL:h4 ai aV n (λbS=>bS=β) (λbl bd U=>K bl bd U/\(∀q,q<c3->b1 bd q=b1 L q)/\U=h) next)(m:cb ai aV β L h w)(r:cJ n β L e a)(aF:de L)(hp:fz P n (.store (ir P t) (bK x) (bK y)) J.dst e L h K):J.wp P a w next Q:=by
 have ad:=r.eval x;have aQ:=r.eval y;simp only[fz]at hp;split at hp;rename_i cs fg;cases af:(FO cs&&gN cs.length (ir P t))with
 |false=>grind
 |true=>
  rw[af]at hp;simp only[fY]at af;simp only[lv,aD5,ag]at hp;have eb:cs.length=ir P t:=mJ af.2;have sn:=Ko (β:=β) fg;have h1:=ac1 (β:=β) af.1;split at hp;rename_i mG tL;have AQ:=m.bR.bR i _ ag;simp only[LE.eL]at AQ;have QR:=I4 (aA.c1 β) _ _ _ _ tL;have dp:=MX (P:=P) av (b:=β i) (off:=off) (ty:=ty) (v:=((bK y).get e).c β) (w:=w) (by grind) AQ (by grind) (by rw[sn];omega);have dk:∀z∈mG,z.h6 L:=λz aY=>by
   rcases SC tL aY with aY|aY;exact aF i xs ty ag z aY;exact Kp fg (r.qY y) z aY
  obtain⟨bc,et⟩:=m.write (b3:=.own mG ty) ag rfl rfl rfl (ty:=ty) (cs:=mG.map (aA.c1 β)) (by simp only[LE.eL];exact JF w _ (m.lt i _ ag rfl));refine JE (aZ:=wr w (β i) ty (mG.map (aA.c1 β))) (by simp_all[cY,ay,ad,aQ,aD5,aA.c1,aA.c,Instr.storeAt,qq,dp]) ?_;refine jd aL rfl bc (r.agree (λ_ _=>rfl) et) (aF.aeB (j4 ag) et dk) (x:=.v eU) trivial (zr (ax:=λbd U=>(∀q,q<c3->b1 bd q=b1 L q)/\U=h) ⟨λq aq=>?_,rfl⟩ (by rwa[we]at hp));rw[oW _ _ _ _ (j4 ag),aE (by omega)]
  grind
 grind
theorem ajh{x y:dB}(h:pP k= .store s x y):k= .store s x y:=by
 cases k<;>first|exact h|cases h
theorem atA{J:Op}{x y:dB}(h:bI P J= .store s x y):∃t a b,J= .store t a b:=by
 cases J with
 |store t a b=>exact⟨t,a,b,rfl⟩
 |call c=>
  exfalso;obtain⟨tr,args,iQ⟩:=c;cases tr with
  |builtin cj=>cases cj<;>simp only[bI]at h<;>(repeat' split at h)<;>cases h
  |value f=>cases f<;>simp only[bI]at h<;>(repeat' split at h)<;>cases h
  |_=>simp only[bI]at h<;>(repeat' split at h)<;>cases h
 |_=>exfalso;simp only[bI]at h;(repeat' split at h)<;>cases h
theorem azU{Vx:List Nat}{Aw Yh Yi:Bool}{Yc:Option Nat}(aL:h4 ai aV n (λbS=>bS=β) (λbl bd U=>K bl bd U/\(∀q,q<c3->b1 bd q=b1 L q)/\U=h) next)(aQ:rT c3 e L {J:=uM (e5 P ops J),after:=Vx,m:=Aw,x:=Yh,y:=true,z:=Yi,q:=Yc}=true)(m:cb ai aV β L h w)(r:cJ n β L e a)(aF:de L)(hp:gG P n (uM (e5 P ops J)) e L h K):if gz J (j8 ops a.tmps)then J.wp P a w next Q else next (a.put J.dst eU) w:=by
 have hk:∃s x y i off xs ty,pP (bI P J.op)= .store s x y/\x.get e= .p i off/\c3<=i/\b1 L i=some (.own xs ty):=by
  have wz:rT c3 e L {J:={d:=none,g:=none,k:=pP (bI P J.op)},after:=Vx,m:=Aw,x:=Yh,y:=true,z:=Yi,q:=Yc}=true:=by
   unfold e5 at aQ hp;split at aQ;exact aQ;rename_i ak;rw[ak]at hp;exact hp.elim
  revert wz;generalize pP (bI P J.op)=k;intro wz;simp only[rT]at wz;split at wz;rename_i s x y;split at wz;rename_i i off ad;rw[fY]at wz;obtain⟨h1,ab⟩:=wz;split at ab;rename_i xs ty ag;exact⟨_,_,_,_,_,_,_,rfl,ad,rh h1,ag⟩
  grind
  grind
  grind
 obtain⟨s,X,Y,i,off,xs,ty,hk,ad,db,ag⟩:=hk;refine guarded r hp ?_ (λaj=>jd aL rfl m r aF (x:=.v eU) trivial (zr (ax:=λbd U=>(∀q,q<c3->b1 bd q=b1 L q)/\U=h) ⟨λ_ _=>rfl,rfl⟩ aj));rintro bl rfl hw;obtain⟨t,x,y,ay⟩:=atA (ajh hk);rw[ay]at hk hw;simp only[bI]at hk hw;split at hk;rename_i av;rw[aX av]at hw;simp only[pP]at hk hw;injection hk with bJ bB eo;subst bJ;subst bB;subst eo;exact akB ay av ad db ag aL m r aF hw;cases hk
section
variable {P:dW}{a:Act}{w:bb}(a7:List l9)
def q3(Q:fU->Act->bb->Prop):fU->Act->bb->Prop:=λx a w=>∃a0:Act,a={a0 with defers:=a7}/\Q x a0 w
theorem zs(a:Act)(d:Option Nat)(v:ao):({a with defers:=a7}:Act).put d v={a.put d v with defers:=a7}:=by cases d<;>rfl
theorem adE(a:Act)(d:Option Nat)(v:ao):(a.put d v).defers=a.defers:=by cases d<;>rfl
theorem Hj(a:Act):({a with defers:=a7}:Act).eval=a.eval:=by rfl
theorem atk(h:N0 Q):N0 (q3 a7 Q):=by
 obtain⟨a,w,q⟩:=h;exact⟨_,w,a,rfl,q⟩
theorem Sy{next':Act->bb->Prop}(h:J.wp P a w next Q)(aC:∀a w,next a w->a.defers=[]/\next' {a with defers:=a7} w):J.wp P {a with defers:=a7} w next' (q3 a7 Q):=by
 unfold zX at h⊢;rw[Hj];generalize(cY a.eval J).run P w=r at h;cases r with
 |ok x aZ=>
  cases x with
  |value v=>rw[Oper.upon_value,zs];exact(aC _ _ h).2
  |skip=>rw[Oper.upon_skip,zs];exact(aC _ _ h).2
  |defer d=>
   have:=(aC _ _ h).1;rw[adE]at this
   grind
  |enter f args=>
   rw[GU];refine agp h ?_;intro ke pF hw;cases ke with
   |returned v=>
    show next' (({a with defers:=a7}:Act).put J.dst v) pF;rw[zs];grind
   |panicked v7=>exact⟨a,rfl,hw⟩
   |outgrown=>exact atk a7 hw
  |row axf args=>
   rw[Oper.upon_row];refine Rows.mono h λv pF ah=>?_;show next' (({a with defers:=a7}:Act).put J.dst v) pF;rw[zs];grind
  |_=>exact h.elim
 |halt x aZ=>
  cases x with
  |panic v=>exact⟨a,rfl,h⟩
  |_=>exact h.elim
end
theorem aeK(ok:BR P ops)(cD:h4 ai aV n Any K (Q .normal)){t:nX}{f:Nat}(S:w4 P bM ai aV n c3 ops listed a w E done e L h β)(av:z7 P bM ops done t)(hp:o3 P n c3 Z f done t e L h K)(am:D' .any ops listed=[]):Q .normal a w:=by
 have p0:=aiN ok S.size am;have cV:E=[]:=by
  cases E with
  |nil=>rfl
  |cons x E=>
   obtain⟨i1,i2,gw,d,i3,_⟩:=S.info x.1 x.2 (iU ..)
   grind
 have aoa:t=[]:=by
  cases t with
  |nil=>rfl
  |cons x r=>
   obtain⟨h1,ca,ag,_⟩:=(av.2 x.1 x.2).1 (iU ..);exact absurd (S.sub _ (p0 x.1 (tb.1 ag).1)) h1
 subst cV;subst aoa;have eR:K e L h:=by cases f<;>exact hp
 exact cD β e L h a w trivial S.mem S.rel S.nM eR
theorem Mv(hp:gG P n (jF P bM ops b i J) e L h K):gG P n (e5 P ops J) e L h K:=by
 unfold jF at hp;split at hp;omega;split at hp;exact alu hp;exact Wf hp
def JP(ai:I)(aV:bb)(n:Nat)(Z:uC)(Q:fU->Act->bb->Prop):Prop:=∀q v β e L h(ap a:Act) w,cb ai aV β L h w->cJ n β L e ap->de L->Z q v e L h->a.defers=[]->a.tmps.size=n->(∀t,t<q->a.tmps.getD t eU=ap.tmps.getD t eU)->Q (.panic [{v:=v,recovered:=false}]) a w
theorem abA:∀(l:List b8)(J:b8),J∈l->∀d,J.dst=some d->ID l<=d
 |[],J,aL,_,_=>by cases aL
 |x::l,J,aL,d,aB=>by
  unfold ID;rcases dC.1 aL with rfl|aL
  grind
  have:=abA l J aL d aB
  grind
theorem avW(a:Act)(d:Option Nat)(v:ao):(a.put d v).tmps.size=a.tmps.size:=by cases d<;>simp[Ug]
theorem adJ{ops:Array b8}:∀(E:List (Nat×ao))(a:Act),(hF ops E a).tmps.size=a.tmps.size
 |[],a=>rfl
 |(i,v)::E,a=>by simp only[hF];rw[avW,adJ E a]
theorem adH{ops:Array b8}{q:Nat}(aq:∀i d,me ops i=some d->q<=d){t:Nat}(av:t<q):∀(E:List (Nat×ao))(a:Act),(hF ops E a).tmps.getD t eU=a.tmps.getD t eU
 |[],a=>rfl
 |(i,v)::E,a=>by
  simp only[hF];rw[<-adH aq av E a];cases aB:me ops i with
  |none=>rfl
  |some d=>
   have:=aq i d aB;simp only[Ug];rw[zF,zF,Array.getElem?_setIfInBounds_ne (by omega)]
theorem atw{P:dW}{J:Op}{Gq:List dB}(h:bI P J= .call f Gq):∃args iQ,J= .call {callee:=.value (.func f),args:=args,argTypes:=iQ}/\Gq=args.toList.map bK:=by
 unfold bI at h;repeat' split at h
 all_goals first
  |(cases h;done)
  |(unfold atv at h;split at h<;>(cases h;done))
  |(
   injection h with h1 ab
   rename_i c _ n2 aw
   obtain⟨_,args,iQ⟩:=c
   simp only at aw
   subst aw;subst h1;subst ab
   exact⟨_,_,rfl,rfl⟩)
  |skip
theorem ajN(a7:List l9){K:Act->bb->Prop}(ok:BR P ops)(S:w4 P bM ai aV n c3 ops listed a w E done e L h β)(HI:JP ai aV n Z Q)(mo:ops[i]?=some ca){q:Nat}(so:uO P bM ops ca=some q){aLT:List dB}{au:List ao}{v:ao}(hk:(jF P bM ops (eB ops) i ca).k= .yD f aLT)(ak:(jF P bM ops (eB ops) i ca).g=none)(ah:mY L (aLT.map (dB.get e))=some au)(aB:BA P f au.toArray h v)(z:Z q v e L h)(Hk:cY (hF ops E a).eval ca=cY a.eval ca)(Lf:a.defers=[]):
 if gz ca (j8 ops a.tmps)then ca.wp P {a with defers:=a7} w K (q3 a7 Q)\/(ca.asks P {a with defers:=a7} w/\N0 (q3 a7 Q))else K {a.put ca.dst eU with defers:=a7} w:=by
 have anC:(e5 P ops ca).k= .call f aLT/\(e5 P ops ca).g=none:=by
  unfold jF at hk ak;split at hk
  .rename_i fB;rw[fB]at ak;unfold e5 at hk;split at hk
   .unfold bI at hk;repeat' split at hk
    all_goals cases hk
   grind
  rename_i fB;rw[fB]at ak;split at hk;rename_i ss;exfalso;simp only[Cn]at hk;unfold yM at ss;unfold e5 at hk;split at hk;split at ss;rename_i tJ;simp_all[tJ,Cm]
  grind
  cases hk;rename_i ss;rw[ss]at ak;simp only[uM]at hk ak;refine⟨?_,ak⟩;have bH:∀g o',(e5 P ops ca).k≠.yD g o':=by
   intro g o' h;unfold e5 at h;split at h
   .unfold bI at h;repeat' split at h
    all_goals cases h
   grind
  generalize(e5 P ops ca).k=k at hk bH;cases k<;>simp only[pP]at hk<;>cases hk<;>first|rfl|grind
 obtain⟨l0,Lx⟩:=anC
 unfold e5 at l0 Lx
 cases eK:tT ops ca.guard with
 |none=>grind
 |some uV=>
  rw[eK]at l0 Lx;simp only at l0 Lx;subst Lx;have wu:ca.guard=none:=by
   cases wu:ca.guard with
   |none=>rfl
   |some p8=>
    obtain⟨o,b⟩:=p8;rw[wu]at eK
    grind [tT]
  obtain⟨args,iQ,ay,rfl⟩:=atw l0;have hw:gz ca (j8 ops a.tmps)=true:=by simp[gz,wu]
  rw[aX hw];refine .inl ?_;have af:=s3 S.mem.bR _ _ ah;have i8:args.map (hF ops E a).eval=au.toArray:=by
   rw[<-af];apply r6;simp only[wO,lo];refine pK λx _=>?_;simp only[Function.comp];exact S.rel.eval x
  have dp:(cY a.eval ca).run P w= .ok (.enter f au.toArray) w:=by
   rw[<-Hk];simp[cY,ay,zx,invoke,i8,Gm,Bz,xW aB.1]
  unfold zX;rw[Hj,dp,GU];refine agp (aB.2 w S.mem.bR.hw) ?_;rintro ke pF ⟨rfl,ad⟩;have anw:∀o d,me ops o=some d->q<=d:=λo d tH=>by
   unfold uO at so;split at so;cases aw:bM.contains _ with
   |false=>rw[aw]at so;cases so
   |true=>
    rw[aw]at so;injection so with so;subst so;unfold me at tH;cases ae:ops[o]?with
    |none=>grind
    |some gw=>
     rw[ae]at tH;exact abA _ gw (by grind) d tH
   grind
  exact⟨a,rfl,HI q v β e L h (hF ops E a) a pF (S.mem.ext ad) S.rel S.nM z Lf (by have:=S.rel.size;rwa[adJ]at this) λt av=>(adH anw av E a).symm⟩
theorem axF(a7:List l9)(ok:BR P ops)(cD:h4 ai aV n Any K (Q .normal))(HI:JP ai aV n Z Q):∀(k6:Nat)(listed:Array Bool)(a:Act)(w:bb)(E:List (Nat×ao))(done:List Nat)(t:nX)(f:Nat)(e:bY)(L:List LE)(h:I)(β:Nat->Nat),w4 P bM ai aV n c3 ops listed a w E done e L h β->z7 P bM ops done t->o3 P n c3 Z f done t e L h K->(∃Eg:List Nat,Eg.length<=k6/\∀o,o<ops.size->listed.getD o false=false->o∈Eg)->Jy P .any ops (q3 a7 Q) k6 listed {a with defers:=a7} w:=by
 intro k6;induction k6 with
 |zero=>
  intro listed a w E done t f e L h β S av hp ⟨Eg,K4,K5⟩;have sy:Eg=[]:=ra (by omega);subst sy;have am:D' .any ops listed=[]:=by
   cases am:D' .any ops listed with
   |nil=>rfl
   |cons x l=>
    have ad:x∈D' .any ops listed:=by grind
    obtain⟨h1,ic,ab,_⟩:=R6.1 ad
    grind
  exact⟨am,a,rfl,aeK ok cD S av hp am⟩
 |succ k6 bE=>
  intro listed a w agy ajS t0 f0 ds L h β Vc Id ZP ⟨Eg,K4,K5⟩;refine⟨λam=>⟨a,rfl,aeK ok cD Vc Id ZP am⟩,λi ag=>?_⟩;obtain⟨f,done,t,E,e,S,av,hp,ZH⟩:=Vc.saturate ok f0 ajS t0 agy ds Id ZP;obtain⟨aoc,ca,mo,y7⟩:=R6.1 ag;have di:i<ops.size:=(tb.1 mo).1;have y1:i<listed.size:=by grind
  have ZZ:=Yq aoc;have YL:∃Vi:List Nat,Vi.length<=k6/\∀o,o<ops.size->(listed.setIfInBounds i true).getD o false=false->o∈Vi:=by
   have anf:=K5 i di ZZ;refine⟨Eg.erase i,by grind,λo ae al=>?_⟩;have jY:o≠i:=λe=>by simp_all
   rw[PW false (d9 jY)]at al
   grind
  have CD:∀k,k≠i->w0 ops k i->listed.getD k false=true:=λk hk y6=>by
   have aw:Bx ops λo=>listed.getD o false=true\/o=i:=by
    intro o gw ae al x ad af;rcases al with al|rfl;exact .inl (S.closed o gw ae al x ad af)
    grind
   rcases y6 _ aw (.inr rfl)with aP|aP;omega;omega
  have anB:∀x∈E,∀t,me ops x.1=some t->t∉ca.looksAt ops:=by
   intro x ad t av hm;obtain⟨i1,i2,gw,d,i3,i4,i5,_⟩:=S.info x.1 x.2 ad;rw[EA i3,i4]at av;injection av with av;subst av;by_cases AW:x.1=i;rw[AW,mo]at i3;injection i3 with i3;subst i3;obtain⟨lx,aM,aD⟩:=ok.dst i ca mo i5.1
   grind
   rcases ok.A i x.1 ca gw (d9 AW) mo i3 d i4 hm with y6|⟨y3,_⟩
   grind
   rw[In i5.1 i5.2]at y3;cases y3
  obtain⟨Hk,Xg⟩:=adG (ops:=ops) (λcs b=>ok.Mr i ca cs b mo) a E anB;unfold wpOp;rw[mo];simp only[zs];by_cases sv:i∈done;rcases S.zq i sv with aP|⟨v,ah⟩
  grind
  obtain⟨r9,gC,rfl⟩:=List.append_of_mem ah;obtain⟨i1,i2,gw,d,i3,i4,i5,C,i6,i7⟩:=S.info i v ah;rw[mo]at i3;injection i3 with i3;subst i3;have u5:=i7 w λhm=>i6 hm w (aev S.mem.bR);have bH:∀x∈r9++gC,x.1≠i:=λx ad=>by
   have aC:=S.nodup
   grind
  have ZC:hF ops (r9++(i,v)::gC) a=hF ops (r9++gC) (a.put ca.dst v):=by
   rw[<-EA mo];refine adI i v a gC (λx ad t av hB=>?_) r9;obtain⟨bJ,bB,mW,lx,eo,oa,mu,_⟩:=S.info x.1 x.2 (wT _ (iv _ ad));rw[EA mo]at av;rw[EA eo]at hB;rcases ok.B i x.1 ca mW (d9 (bH x (wT _ ad))) mo eo t hB av with aP|aP;rw[In mu.1 mu.2]at aP;grind
   grind
  have Ea:w4 P bM ai aV n c3 ops (listed.setIfInBounds i true) (a.put ca.dst v) w (r9++gC) done e L h β:=by
   refine⟨by simp[S.size],S.closed.set ag y1,S.yH,λo ae=>?_,λo ae=>?_,S.Pm,?_,λo u ae=>?_,S.mem,by rw[<-ZC];exact S.rel,S.nM⟩;rcases(Ay y1).1 ae with rfl|ae;omega;exact S.sub o ae;by_cases jY:o=i;simp_all;rcases S.zq o ae with aP|⟨u,hu⟩;exact .inl ((Ay y1).2 (.inr aP))
   grind
   have aC:=S.nodup
   grind
   have en:(o,u)∈r9++(i,v)::gC:=by
    grind
   obtain⟨bJ,bB,mW,lx,eo,oa,mu,C,Rx,Ry⟩:=S.info o u en;refine⟨bJ,?_,mW,lx,eo,oa,mu,C,Rx,λaZ mq=>by grind⟩;rw[PW false (d9 (bH _ ae))];exact bB
  have rH:=bE _ _ w _ done t f e L h β Ea av hp YL;unfold wY at u5;rw[Hk,Xg]at u5;rcases u5 with⟨hw,dp⟩|⟨hw,ah⟩;rw[hw];exact .inl (q4 (by rw[Hj];omega) (by rw[zs];omega))
  grind
  have anm:∃J,(i,J)∈t/\J=({J:=jF P bM ops (eB ops) i ca,after:=(ca.after.toList.filter (qy .any)).map (·.on),m:=oU P bM ops (eB ops) i,x:=pV P ops (eB ops) i,y:=sI ops ca,z:=pH P bM ops (eB ops) i,q:=uO P bM ops ca}:sb):=⟨_,(av.2 i _).2 ⟨sv,ca,mo,rfl⟩,rfl⟩;obtain⟨J,QQ,rfl⟩:=anm;have ZT:=(adU (done:=done) (ca:=ca)).2 λx ad af=>S.sub _ (y7 x ad af);have Ly:hD (e5 P ops ca).k=false\/pV P ops (eB ops) i=true:=by
   cases ah:hD (e5 P ops ca).k with
   |false=>simp
   |true=>
    refine .inr ?_;cases ad:pV P ops (eB ops) i with
    |true=>rfl
    |false=>exact(adw ZH _ QQ (by show(hD (jF P bM ops (eB ops) i ca).k&& !pV P ops (eB ops) i)=true;rw[acQ,ah,ad];rfl) ZT).elim
  obtain⟨r,dH,fJ,lB⟩:=ady (pre:=[]) (by simpa using av.1) i _ QQ ZT;have Lf:a.defers=[]:=by have:=S.rel.defers;rwa[ML]at this
  have tN:(∃n2,(gG P n (jF P bM ops (eB ops) i ca) e L h λe L h=>o3 P n c3 Z n2 (i::done) r e L h K)/\sV c3 e (jF P bM ops (eB ops) i ca).k=true/\rT c3 e L {J:=jF P bM ops (eB ops) i ca,after:=(ca.after.toList.filter (qy .any)).map (·.on),m:=oU P bM ops (eB ops) i,x:=pV P ops (eB ops) i,y:=sI ops ca,z:=pH P bM ops (eB ops) i,q:=uO P bM ops ca}=true)\/∃q,uO P bM ops ca=some q/\∃(tA:jh)(aLT:List dB)(au:List ao)(v:ao),(jF P bM ops (eB ops) i ca).k= .yD tA aLT/\(jF P bM ops (eB ops) i ca).g=none/\mY L (aLT.map (dB.get e))=some au/\BA P tA au.toArray h v/\Z q v e L h:=by
   cases t with
   |nil=>cases QQ
   |cons x l=>
    cases f with
    |zero=>exact hp.elim
    |succ f=>
     simp only[o3,ZH]at hp;have aq:=Vz hp _ dH;simp only[JD]at aq;have norm:(bif sV c3 e (jF P bM ops (eB ops) i ca).k&&rT c3 e L {J:=jF P bM ops (eB ops) i ca,after:=(ca.after.toList.filter (qy .any)).map (·.on),m:=oU P bM ops (eB ops) i,x:=pV P ops (eB ops) i,y:=sI ops ca,z:=pH P bM ops (eB ops) i,q:=uO P bM ops ca}then gG P n (jF P bM ops (eB ops) i ca) e L h (λe L h=>o3 P n c3 Z f (i::done) r e L h K)else False)->∃n2,(gG P n (jF P bM ops (eB ops) i ca) e L h λe L h=>o3 P n c3 Z n2 (i::done) r e L h K)/\sV c3 e (jF P bM ops (eB ops) i ca).k=true/\rT c3 e L {J:=jF P bM ops (eB ops) i ca,after:=(ca.after.toList.filter (qy .any)).map (·.on),m:=oU P bM ops (eB ops) i,x:=pV P ops (eB ops) i,y:=sI ops ca,z:=pH P bM ops (eB ops) i,q:=uO P bM ops ca}=true:=by
      intro aq;cases af:sV c3 e (jF P bM ops (eB ops) i ca).k with
      |false=>grind
      |true=>
       rw[af]at aq;cases fC:rT c3 e L {J:=jF P bM ops (eB ops) i ca,after:=(ca.after.toList.filter (qy .any)).map (·.on),m:=oU P bM ops (eB ops) i,x:=pV P ops (eB ops) i,y:=sI ops ca,z:=pH P bM ops (eB ops) i,q:=uO P bM ops ca}with
       |false=>grind
       |true=>rw[fC]at aq;exact⟨f,aq,rfl,rfl⟩
     cases so:uO P bM ops ca with
     |none=>simp_all
     |some q=>
      rw[so]at aq norm;cases aq with
      |go k=>simp_all
      |die tA aLT au v hk ak ah aB z=>grind
  rcases tN with tN|⟨q,so,tA,aLT,au,v,hk,ak,ah,aB,z⟩;case inr=>exact ajN a7 ok S HI mo so hk ak ah aB z Hk Lf
  obtain⟨n2,ku,YT,Z9⟩:=tN;have Ic:z7 P bM ops (i::done) r:=av.step fJ (by grind);have Qz:∀x∈E,∀t,ca.dst=some t->me ops x.1≠some t:=by
   intro x ad t av hB;obtain⟨bJ,bB,mW,lx,eo,oa,mu,_⟩:=S.info x.1 x.2 ad;have AW:x.1≠i:=λe=>sv (by grind);rw[EA eo]at hB;rcases ok.B x.1 i mW ca AW eo mo t av hB with⟨_,aP⟩|⟨aP,_⟩
   grind
   rw[In mu.1 mu.2]at aP;cases aP
  have step:∀(o5:eN)(C:(Nat->Nat)->Prop),(∀bl bd U,o5 bl bd U->o3 P n c3 Z n2 (i::done) r bl bd U K)->(∀bS bl bd U,C bS->o5 bl bd U->∀o u,(o,u)∈E->∀gw,ops[o]?=some gw->qS (bI P gw.op)=true->listed.getD o false=false->o∈done->∀aZ,jQ bS (sT (oU P bM ops (eB ops) o) c3 bd) (rP (pH P bM ops (eB ops) o) U) aZ->jQ β (sT (oU P bM ops (eB ops) o) c3 L) (rP (pH P bM ops (eB ops) o) h) aZ)->(∀(next':Act->bb->Prop),h4 ai aV n C o5 next'->if gz ca (j8 ops (hF ops E a).tmps)then ca.wp P (hF ops E a) w next' (λ_ _ _=>False)else next' ((hF ops E a).put ca.dst eU) w)->
   if gz ca (j8 ops a.tmps)then ca.wp P {a with defers:=a7} w (Jy P .any ops (q3 a7 Q) k6 (listed.setIfInBounds i true)) (q3 a7 Q)\/(ca.asks P {a with defers:=a7} w/\N0 (q3 a7 Q))else Jy P .any ops (q3 a7 Q) k6 (listed.setIfInBounds i true) {a.put ca.dst eU with defers:=a7} w:=by
   intro o5 C al7 amS dp
   have CQ:h4 ai aV n C o5 λVu aZ=>∀(ey:Act)(v:ao),ey.tmps=a.tmps->hF ops E (ey.put ca.dst v)=Vu->(ey.put ca.dst v).defers=[]/\Jy P .any ops (q3 a7 Q) k6 (listed.setIfInBounds i true) {ey.put ca.dst v with defers:=a7} aZ:=by
    rintro bS bl bd U Vu aZ hC bc cT ef br ey v LI rfl;have fI:ey=a:=by
     have h1:=cT.defers;rw[ML]at h1;have ab:ey.defers=[]:=by
      cases aB:ca.dst<;>rw[aB]at h1<;>exact h1
     cases ey;cases a;simp_all
    subst fI;have qP:=Ja (ops:=ops) ca.dst v ey E Qz;refine⟨by rw[adE];omega,?_⟩;refine bE _ _ aZ E (i::done) r n2 bl bd U bS ⟨by simp[S.size],S.closed.set ag y1,?_,λo ae=>?_,λo ae=>?_,λo ae=>?_,S.nodup,λo u ae=>?_,bc,cT,ef⟩ Ic (al7 _ _ _ br) YL;intro o gw ae tH x ad af;rcases dC.1 tH with rfl|tH;rw[mo]at ae;injection ae with ae;subst ae;exact iv _ (S.sub _ (y7 x ad af));exact iv _ (S.yH o gw ae tH x ad af);rcases(Ay y1).1 ae with rfl|ae;simp;exact iv _ (S.sub o ae);rcases dC.1 ae with rfl|ae;simp_all;rcases S.zq o ae with aP|aP;exact .inl ((Ay y1).2 (.inr aP))
    grind
    rcases dC.1 ae with rfl|ae;omega;exact S.Pm o ae;obtain⟨bJ,bB,mW,lx,eo,oa,mu,ago,Rx,Ry⟩:=S.info o u ae;have jY:o≠i:=λe=>sv (by grind);refine⟨iv _ bJ,by rw[PW false (d9 jY)];exact bB,mW,lx,eo,oa,mu,ago,λhm aZ aj=>Rx hm aZ (amS bS bl bd U hC br o u ae mW eo hm bB bJ aZ aj),λaZ mq=>?_⟩;have u5:=Ry aZ mq;have sz:∀t,ca.dst=some t->t∉mW.looksAt ops:=by
     intro t av hm;rcases ok.A o i mW ca jY eo mo t av hm with y6|⟨_,y6⟩;exact sv (y6 _ S.yH bJ)
     grind
    unfold wY at u5⊢;rw[qP,Px (ops:=ops) mW (λcs b=>ok.Mr o mW cs b eo) _ _ _ sz,T1 (ops:=ops) mW _ _ _ sz];omega
   have AF:=dp _ CQ
   rw[Xg]at AF
   split
   rename_i hw
   rw[aX hw]at AF
   exact .inl (Sy a7 (az0 (next:=λa w=>a.defers=[]/\Jy P .any ops (q3 a7 Q) k6 (listed.setIfInBounds i true) {a with defers:=a7} w) Hk Qz (λv cP cF LI aP=>aP cP v LI rfl) AF) λ_ _ q=>q)
   rename_i hw
   rw[aE hw]at AF
   exact(AF a eU rfl (Ja _ _ _ _ Qz)).2
  cases EQ:hD (e5 P ops ca).k with
  |true=>
   have mm:hD (bI P ca.op)=true:=by
    unfold e5 at EQ;split at EQ;omega;cases EQ
   obtain⟨d,aB,_⟩:=ok.dst i ca mo mm;obtain⟨_,bx,aM,aD,bj,bT⟩:=afU S.mem.bR S.rel S.nM EQ aB (Mv ku);refine step (λbl bd U=>o3 P n c3 Z n2 (i::done) r bl bd U K/\bd=L/\U=h) (λbS=>bS=β) (λbl bd U br=>br.1) ?_ (λnext' aL=>?_)
   grind
   have aC:=aL β (h7 e d bx) L h ((hF ops E a).put ca.dst (bx.c β)) w rfl S.mem (by rw[aB];exact S.rel.put bj aD) S.nM ⟨aM,rfl,rfl⟩;rcases bT w λ_=>S.mem.bR with⟨hw,dp⟩|⟨hw,ah⟩;rw[aX hw];exact q4 dp aC
   grind
  |false=>
   have y3:hD (bI P ca.op)=false\/False:=by
    have Ly:=EQ;unfold e5 at Ly;split at Ly
    grind
    rename_i ak;have ku:=Mv ku;unfold e5 at ku;rw[ak]at ku;exact ku.elim
   have y3:=y3.resolve_right id;cases sx:C7 (bI P ca.op)with
  |true=>
   have aom:gG P n (e5 P ops ca) e L h λe L h=>o3 P n c3 Z n2 (i::done) r e L h K:=Mv ku;refine step _ (λbS=>∀i,i<L.length->bS i=β i) (λbl bd U br=>br.1) ?_ (λnext' aL=>azT (λ_ aP=>aP) aL sx S.mem S.rel S.nM (azP sx aom));rintro bS bl bd U iE ⟨_,al,rfl⟩ o u ae gw u7 hm lY qO aZ;have ZI:∀q l,b1 L q=some l->b1 bd q=some l:=λq l aq=>by
    rcases al with rfl|⟨x,rfl⟩;omega;rw[tX,aX (j4 aq)];exact aq
   have AQ:∀q l,b1 L q=some l->l.eL bS q aZ->l.eL β q aZ:=λq l aq aj=>by
    have af:=iE q (j4 aq);cases l with
    |own cs ty=>simp only[LE.eL]at aj⊢;rw[<-af,<-Et (S.nM q cs ty aq) (λi ag=>iE i (MO ag))];exact aj
    |bV b=>simp only[LE.eL]at aj⊢;omega
    |row=>simp only[LE.eL]at aj⊢;grind
    |map=>simp only[LE.eL]at aj⊢;grind
    |gone=>trivial
   cases oU P bM ops (eB ops) o with
   |false=>exactλs=>⟨s.hw,λq l aq=>AQ q l aq (s.bR q l (ZI q l aq))⟩
   |true=>
    intro s;obtain⟨s1,s2⟩:=xY.1 s;exact xY.2 ⟨s1,λq l y8 aq am=>AQ q l aq (s2 q l y8 (ZI q l aq) am)⟩
  |false=>
   have other:(wB (bI P ca.op)=false)->(Im (bI P ca.op)=false)->sI ops ca=false->∀o u,(o,u)∈E->∀gw,ops[o]?=some gw->qS (bI P gw.op)=true->False:=by
    intro a6 aw aQ o u ae gw u7 hm;obtain⟨bJ,bB,aBM,lx,eo,oa,mu,_⟩:=S.info o u ae;have jY:o≠i:=λe=>sv (by grind);rcases ok.C o i gw ca jY u7 mo hm mu.2 with aP|aP|aP|aP|aP|aP|aP
    grind
    grind
    grind
    grind
    grind
    grind
    exact sv (aP _ S.yH bJ)
   cases fB:alone P bM ops (eB ops) i ca with
   |true=>
    refine step _ Any (λbl bd U br=>br) ?_ (λnext' aL=>Gj aL S.mem S.rel S.nM (Mv ku));intro bS bl bd U _ _ o u ae gw u7 hm lY qO;obtain⟨bJ,bB,_⟩:=S.info o u ae;have jY:o≠i:=λe=>sv (by grind);unfold alone at fB;simp only[fY,oA,re,yd,beq_iff_eq]at fB;rcases fB.2 o (tb.1 u7).1 with aP|aP;omega;rw[u7]at aP;simp only[hm,Bool.not_true,uh,false_or,yd]at aP;rcases aP with aP|aP;exact absurd (uI ops aP _ S.yH bJ) sv;rw[CD o jY (uI ops aP)]at bB;cases bB
   |false=>
    have XY:(wB (bI P ca.op)||yM P bM ca||sI ops ca)=true->∀o u,(o,u)∈E->oU P bM ops (eB ops) o=true:=by
     intro ad o u ae;obtain⟨bJ,bB,_⟩:=S.info o u ae;have jY:o≠i:=λe=>sv (by grind);unfold oU;rw[UT];refine⟨i,re.2 di,?_⟩;rw[mo];simp only[ad,wQ,fY,td];constructor;cases af:((eB ops).getD i 0).testBit o with
     |false=>rfl
     |true=>rw[CD o jY (uI ops af)]at bB;cases bB
     cases af:((eB ops).getD o 0).testBit i with
     |false=>rfl
     |true=>exact absurd (uI ops af _ S.yH bJ) sv
    cases Lk:yM P bM ca with
   |true=>
    have EU:jF P bM ops (eB ops) i ca=Cn (e5 P ops ca):=by unfold jF;grind
    rw[EU]at ku;refine step _ (λbS=>bS=β) (λbl bd U br=>br.1) ?_ (λnext' aL=>azS aL Lk S.mem S.rel S.nM ku);rintro bS bl bd U rfl ⟨_,rfl⟩ o u ae gw u7 hm lY qO aZ s;have aY:pH P bM ops (eB ops) o=true:=by
     obtain⟨bJ,bB,_⟩:=S.info o u ae;have jY:o≠i:=λe=>sv (by grind);unfold pH;rw[UT];refine⟨i,re.2 di,?_⟩;rw[mo];simp only[Lk,wQ,fY,td];constructor;cases af:((eB ops).getD i 0).testBit o with
     |false=>rfl
     |true=>rw[CD o jY (uI ops af)]at bB;cases bB
     cases af:((eB ops).getD o 0).testBit i with
     |false=>rfl
     |true=>exact absurd (uI ops af _ S.yH bJ) sv
    rw[aY]at s⊢;exact s
   |false=>
    have EU:jF P bM ops (eB ops) i ca=uM (e5 P ops ca):=by unfold jF;grind
    rw[EU]at ku YT;cases Qm:wB (bI P ca.op)with
   |true=>
    refine step _ (λbS=>∀i,fi L i->bS i=β i) (λbl bd U br=>br.1) ?_ (λnext' aL=>azQ aL Qm YT S.mem S.rel S.nM ku);rintro bS bl bd U iE ⟨_,al,rfl⟩ o u ae gw u7 hm lY qO aZ s;have QD:=XY (by grind) o u ae;rw[QD]at s⊢;obtain⟨s1,s2⟩:=xY.1 s;refine xY.2 ⟨s1,λq l y8 aq am=>?_⟩;have aj:=s2 q l y8 (al q l y8 aq am) am;have af:=iE q ⟨l,aq,am⟩;cases l with
    |own cs ty=>simp only[LE.eL]at aj⊢;rw[<-af,<-Et (S.nM q cs ty aq) iE];exact aj
    |bV b=>simp only[LE.eL]at aj⊢;omega
    |row=>cases am
    |map=>simp only[LE.eL]at aj⊢;grind
    |gone=>trivial
   |false=>
    cases Y2:Im (bI P ca.op)with
    |true=>
     refine step _ (λbS=>bS=β) (λbl bd U br=>br.1) ?_ (λnext' aL=>azR aL Y2 S.mem S.rel S.nM ku);rintro bS bl bd U rfl ⟨_,He⟩ o u ae gw u7 hm lY qO aZ s;exact He _ _ _ _ aAd s
    |false=>
     cases Q':sI ops ca with
     |true=>
      refine step _ (λbS=>bS=β) (λbl bd U br=>br.1) ?_ (λnext' aL=>azU aL (by rw[EU,Q']at Z9;omega) S.mem S.rel S.nM ku);rintro bS bl bd U rfl ⟨_,al,rfl⟩ o u ae gw u7 hm lY qO aZ s;have QD:=XY (by grind) o u ae;rw[QD]at s⊢;obtain⟨s1,s2⟩:=xY.1 s;exact xY.2 ⟨s1,λq l y8 aq am=>s2 q l y8 (by grind) am⟩
     |false=>
      refine step _ Any (λbl bd U br=>br) ?_ (λnext' aL=>Gj aL S.mem S.rel S.nM (Wf ku))
      grind
theorem acI{α:Type}:∀(l:List α)(k i:Nat)(x:α),(i,x)∈Dk l k↔k<=i/\l[i-k]?=some x
 |[],k,i,x=>by simp[Dk]
 |y::l,k,i,x=>by
  simp only[Dk,dC,Oy,acI l (k+1) i x]
  grind
theorem abU(bM:List Nat)(ops:Array b8)(b:Array Nat):∀(l:List b8)(k i:Nat),(Di P bM ops b l k)[i]?=(l[i]?).map λJ=>({J:=jF P bM ops b (k+i) J,after:=(J.after.toList.filter (qy .any)).map (·.on),m:=oU P bM ops b (k+i),x:=pV P ops b (k+i),y:=sI ops J,z:=pH P bM ops b (k+i),q:=uO P bM ops J}:sb)
 |[],k,i=>by rfl
 |J::l,k,0=>by rfl
 |J::l,k,i+1=>by
  simp only[Di,List.getElem?_cons_succ,abU bM ops b l (k+1) i]
  grind
theorem acH{α:Type}:∀(l:List α)(k:Nat),(Dk l k).map (·.1)=List.range' k l.length
 |[],k=>rfl
 |y::l,k=>by simp only[Dk,eO,acH l (k+1),gI,List.range'_succ]
theorem auS(a7:List l9)(aL:Mu P ops=true)(cD:h4 ai aV n Any K (Q .normal))(HI:JP ai aV n Z Q)(m:cb ai aV β L h w)(r:cJ n β L e a)(aF:de L)(hp:T5 P n (SR (Di P bM ops (eB ops) ops.toList 0)) e L h K Z):Jy P .any ops (q3 a7 Q) ops.size (DS ops.size false) {a with defers:=a7} {w with drawn:=w.drawn+1}:=by
 rw[T5,SR,T4]at hp;have ok:=auR aL;have H':∀o,(DS ops.size false).getD o false=false:=λo=>getD_replicate_false _ _;refine axF a7 (bM:=bM) ok cD HI ops.size _ a _ [] [] _ _ e L h β ?_ ?_ hp ?_;refine⟨by simp,λo gw ae al=>?_,λo gw ae al=>(by cases al),λo ae=>?_,λo ae=>(by cases ae),λo ae=>(by cases ae),by simp,λo v ae=>(by cases ae),?_,r,aF⟩
 grind
 grind
 exact⟨⟨m.bR.hw,m.bR.bR⟩,m.hole,m.inj,m.lt,m.bX,m.os,m.tape,m.output,m.size,m.frame,m.fresh⟩;refine⟨?_,λi J=>?_⟩;unfold idx;rw[acH]
 grind
 rw[acI];simp only[Nat.zero_le,true_and,Nat.sub_zero,abU,dJ,D3,List.not_mem_nil,not_false_eq_true,zG]
 grind
 exact⟨aDB ops.size,by simp,λo ae _=>re.2 ae⟩
end
end Go.Sx
namespace Go.Sx
open Go.RowKit
set_option maxRecDepth 100000
set_option maxHeartbeats 0
set_option linter.all false
variable {fn:Func}{h:I}{bM:List Nat}{args:List ao}
abbrev dL:=fU->bY->List LE->I->Prop
def ub(e:bY)(c:dB)(b:Bool):bY:=match c with
 |.t t=>h7 e t (.v (.bool b))
 |_=>e
def Mx(L:List LE):aA->Bool
 |.p i _|.s i _ _ _|.m i=>(match b1 L i with|some (.row ..)=>false|some _=>true|none=>false)
 |_=>true
def ky(L:List LE):aA->Bool
 |.a xs=>xs.all (Mx L)
 |x=>Mx L x
def py(L:List LE):List LE->Bool
 |[]=>true
 |.own cs _::r=>cs.all (Mx L)&&py L r
 |_::r=>py L r
def p7(perm:List Nat)(i:Nat):Nat:=match b1 perm i with|some o=>o|none=>0
def MP(perm:List Nat):aA->aA
 |.v x=>.v x
 |.p i off=>.p (p7 perm i) off
 |.s i off len cap=>.s (p7 perm i) off len cap
 |.m i=>.m (p7 perm i)
 |.a _=>.v eU
def aCq(perm:List Nat):aA->aA
 |.a xs=>.a (xs.map (MP perm))
 |x=>MP perm x
def pA(perm:List Nat):LE->LE
 |.own cs ty=>.own (cs.map (MP perm)) ty
 |l=>l
def sY(L:List LE):List Nat->Option (List LE)
 |[]=>some []
 |i::r=>match b1 L i,sY L r with|some l,some k=>some (l::k)|_,_=>none
def tv:List Nat->Bool
 |[]=>true
 |i::r=>!Dj r i&&tv r
def F2(L:List LE)(x:aA):aA:=match xU L x with
 |some v=>.v v
 |none=>x
abbrev aEB{X:Type}(dr:X->List aA)(cz:X->List LE):Prop:=∀x,((dr x).all (ky (cz x))&&py (cz x) (cz x))=true
abbrev aIh(B:dL->bY->List LE->I->Prop)(Q:dL){X:Type}(c0:List Nat)(dr:X->List aA)(cz:X->List LE)(ax:X->I->Prop)(eM:X->Nat):Prop:=∀x e h,ax x h->B (λex bl bd U=>match ex with
 |.normal=>∃cw,c0.map bl=dr cw/\bd.take (cz cw).length=cz cw/\ax cw U/\eM cw<eM x
 |ex=>Q ex bl bd U) (iR e c0 (dr x)) (cz x) h
abbrev aIi(B:dL->bY->List LE->I->Prop)(Q:dL){X:Type}(c0:List Nat)(dr:X->List aA)(cz:X->List LE)(ax:X->I->Prop)(eM:X->Nat):Prop:=∀x e h,ax x h->e9 (λL h=>B (λex bl bd U=>match ex with
 |.normal=>e9 (λbd U=>∃cw,c0.map bl=dr cw/\bd.take (cz cw).length=cz cw/\ax cw U/\eM cw<eM x) bd U
 |ex=>Q ex bl bd U) (iR e c0 (dr x)) L h) (cz x) h
inductive kH(B:dL->bY->List LE->I->Prop)(Q:dL)(e:bY)(L:List LE)(h:I):Prop
 |mk (X:Type) (c0:List Nat) (dr:X->List aA) (cz:X->List LE) (ax:X->I->Prop) (eM:X->Nat) (cQ:X)
  (dk:aEB dr cz)
  (ai:ax cQ h) (he:c0.map e=dr cQ) (aF:L.take (cz cQ).length=cz cQ)
  (aDK:∀x e h,ax x h->B (λex bl bd U=>match ex with
   |.normal=>∃cw,c0.map bl=dr cw/\bd.take (cz cw).length=cz cw/\ax cw U/\eM cw<eM x
   |ex=>Q ex bl bd U) (iR e c0 (dr x)) (cz x) h)
 |zl (perm:List Nat) (X:Type) (c0:List Nat) (dr:X->List aA) (cz:X->List LE) (ax:X->I->Prop) (eM:X->Nat) (cQ:X)
  (dk:aEB dr cz)
  (ai:ax cQ h) (he:c0.map e=(dr cQ).map (aCq perm)) (aB:tv perm=true) (aF:sY L perm=some ((cz cQ).map (pA perm)))
  (aDK:∀x e h,ax x h->B (λex bl bd U=>match ex with
   |.normal=>∃cw,c0.map bl=dr cw/\bd.take (cz cw).length=cz cw/\ax cw U/\eM cw<eM x
   |ex=>Q ex bl bd U) (iR e c0 (dr x)) (cz x) h)
 |kU (perm:List Nat) (X:Type) (c0:List Nat) (dr:X->List aA) (cz:X->List LE) (ax:X->I->Prop) (eM:X->Nat) (cQ:X)
  (dk:aEB dr cz)
  (ai:ax cQ h) (he:c0.map e=(dr cQ).map (aCq perm)) (aB:tv perm=true) (aF:sY L perm=some ((cz cQ).map (pA perm)))
  (aDK:∀x e h,ax x h->e9 (λL h=>B (λex bl bd U=>match ex with
   |.normal=>e9 (λbd U=>∃cw,c0.map bl=dr cw/\bd.take (cz cw).length=cz cw/\ax cw U/\eM cw<eM x) bd U
   |ex=>Q ex bl bd U) (iR e c0 (dr x)) L h) (cz x) h)
 |FA (perm:List Nat) (X:Type) (c0:List Nat) (dr:X->List aA) (cz:X->List LE) (ax:X->I->Prop) (eM:X->Nat) (cQ:X)
  (dk:aEB dr cz)
  (ai:ax cQ h) (he:c0.map (λs=>F2 L (e s))=(dr cQ).map (aCq perm)) (aB:tv perm=true) (aF:sY L perm=some ((cz cQ).map (pA perm)))
  (aDK:∀x e h,ax x h->e9 (λL h=>B (λex bl bd U=>match ex with
   |.normal=>e9 (λbd U=>∃cw,c0.map bl=dr cw/\bd.take (cz cw).length=cz cw/\ax cw U/\eM cw<eM x) bd U
   |ex=>Q ex bl bd U) (iR e c0 (dr x)) L h) (cz x) h)
inductive te(B:dL->bY->List LE->I->Prop)(Q:dL)(e:bY)(L:List LE)(h:I):Prop
 |mk (X:Type) (c0:List Nat) (dr:X->List aA) (cz:X->List LE) (ax:X->I->Prop) (eM:X->Nat) (cQ:X)
  (dk:aEB dr cz)
  (ai:ax cQ h) (he:c0.map e=dr cQ) (aF:L.take (cz cQ).length=cz cQ)
  (aDK:∀x e h,ax x h->B (λex bl bd U=>match ex with
   |.normal=>∃cw,c0.map bl=dr cw/\bd.take (cz cw).length=cz cw/\ax cw U/\eM cw<eM x
   |ex=>Q ex bl bd U) (iR e c0 (dr x)) (cz x) h)
 |zl (perm:List Nat) (X:Type) (c0:List Nat) (dr:X->List aA) (cz:X->List LE) (ax:X->I->Prop) (eM:X->Nat) (cQ:X)
  (dk:aEB dr cz)
  (ai:ax cQ h) (he:c0.map e=(dr cQ).map (aCq perm)) (aB:tv perm=true) (aF:sY L perm=some ((cz cQ).map (pA perm)))
  (aDK:∀x e h,ax x h->B (λex bl bd U=>match ex with
   |.normal=>∃cw,c0.map bl=dr cw/\bd.take (cz cw).length=cz cw/\ax cw U/\eM cw<eM x
   |ex=>Q ex bl bd U) (iR e c0 (dr x)) (cz x) h)
 |kU (perm:List Nat) (X:Type) (c0:List Nat) (dr:X->List aA) (cz:X->List LE) (ax:X->I->Prop) (eM:X->Nat) (cQ:X)
  (dk:aEB dr cz)
  (ai:ax cQ h) (he:c0.map e=(dr cQ).map (aCq perm)) (aB:tv perm=true) (aF:sY L perm=some ((cz cQ).map (pA perm)))
  (aDK:∀x e h,ax x h->e9 (λL h=>B (λex bl bd U=>match ex with
   |.normal=>e9 (λbd U=>∃cw,c0.map bl=dr cw/\bd.take (cz cw).length=cz cw/\ax cw U/\eM cw<eM x) bd U
   |ex=>Q ex bl bd U) (iR e c0 (dr x)) L h) (cz x) h)
 |SU (xs:List aA) (x:kX 40 xs (λL h=>kH B Q e L h) L h)
 |lj (x:e9 (λL h=>kH B Q e L h) L h)
theorem adA(xs:List aA){K o5:List LE->I->Prop}(eR:∀L h,K L h->o5 L h):∀(jA:Nat)(L:List LE)(h:I),kX jA xs K L h->kX jA xs o5 L h
 |0,_,_,hp=>hp.elim
 |jA+1,L,h,hp=>by
  simp only[kX]at hp⊢;split at hp
  grind
  split at hp;omega;split at hp;split at hp;obtain⟨k⟩:=hp;refine⟨λb af=>?_⟩;have:=k b af;rw[we]at this⊢;exact adA xs eR jA _ _ this;omega;omega
theorem te.norm{B:dL->bY->List LE->I->Prop}{Q:dL}{e:bY}{L:List LE}(x:te B Q e L h):∃xs,kX 40 xs (λL h=>e9 (λL h=>kH B Q e L h) L h) L h:=by
 have nil:kH B Q e L h->∃xs,kX 40 xs (λL h=>e9 (λL h=>kH B Q e L h) L h) L h:=λy=>⟨[],.done y⟩;cases x with
 |mk X c0 dr cz ax eM cQ dk jX he mP aDK=>exact nil (.mk X c0 dr cz ax eM cQ dk jX he mP aDK)
 |zl perm X c0 dr cz ax eM cQ dk jX he aB mP aDK=>exact nil (.zl perm X c0 dr cz ax eM cQ dk jX he aB mP aDK)
 |kU perm X c0 dr cz ax eM cQ dk jX he aB mP aDK=>exact nil (.kU perm X c0 dr cz ax eM cQ dk jX he aB mP aDK)
 |SU xs y=>exact⟨xs,adA xs (λ_ _ z=>.done z) _ _ _ y⟩
 |lj y=>exact⟨[],y⟩
def c7(P:dW)(n:Nat):IR->dL->bY->List LE->I->Prop
 |.skip,Q,e,L,h=>Q .normal e L h
 |.ch ops,Q,e,L,h=>wpOps P n ops e L h (Q .normal)
 |.xP ops,Q,e,L,h=>T5 P n ops e L h (Q .normal) λq v e L h=>∀bl,(∀t,t<q->bl t=e t)->Q (.panic [{v:=v,recovered:=false}]) bl L h
 |.seq a b,Q,e,L,h=>c7 P n a (λx e L h=>match x with|.normal=>c7 P n b Q e L h|x=>Q x e L h) e L h
 |.cond c x y,Q,e,L,h=>(match c.get e with
  |.v (.bool b)=>fe b (c7 P n x Q (ub e c true) L h) (c7 P n y Q (ub e c false) L h)
  |_=>False)
 |.block id b,Q,e,L,h=>c7 P n b (λx e L h=>match x with|.exit o=>bif gN o id then Q .normal e L h else Q (.exit o) e L h|x=>Q x e L h) e L h
 |.loop b,Q,e,L,h=>te (λQ e L h=>c7 P n b Q e L h) Q e L h
 |.exit id,Q,e,L,h=>Q (.exit id) e L h
 |.label,Q,e,L,h=>Q .normal e L h
 |.ret,Q,e,L,h=>Q .ret e L h
 |.scope b,Q,e,L,h=>c7 P n b (λx e L h=>match x with|.goto _=>False|x=>Q x e L h) e L h
 |_,_,_,_,_=>False
section
variable {P:dW}{ai:I}{aV:bb}{n:Nat}{β:Nat->Nat}{L:List LE}{h:I}{e:bY}{a:Act}{w:bb}
def lift(ai:I)(aV:bb)(n:Nat)(Q:dL):fU->Act->bb->Prop:=λx a w=>∃β e L h,cb ai aV β L h w/\cJ n β L e a/\de L/\Q x e L h
theorem IZ{x:aA}(ad:Mx L x=true):x.h6 L:=by
 have key:∀i,(match b1 L i with|some (LE.row ..)=>false|some _=>true|none=>false)=true->fi L i:=λi ag=>by
  split at ag
  grind
  rename_i l bH al;refine⟨l,al,?_⟩;cases l<;>first|rfl|grind
  grind
 cases x<;>first|trivial|exact key _ ad
theorem acS{x:aA}(ad:ky L x=true):x.ok L:=by
 cases x with
 |a xs=>exactλy aQ=>IZ (oA.1 ad y aQ)
 |v y=>trivial
 |p i J=>exact IZ (x:=.p i J) ad
 |s i J l c=>exact IZ (x:=.s i J l c) ad
 |m i=>exact IZ (x:=.m i) ad
theorem acT:∀(r:List LE),py L r=true->∀cs ty,LE.own cs ty∈r->∀x∈cs,x.h6 L
 |[],_,cs,ty,hm,_,_=>by cases hm
 |l::r,am,cs,ty,hm,x,ad=>by
  cases hm with
  |head=>
   simp only[py,fY]at am;exact IZ (oA.1 am.1 x ad)
  |tail _ hm=>
   refine acT r ?_ cs ty hm x ad;cases l<;>simp only[py,fY]at am<;>first|grind|exact am
theorem My(aF:py L L=true):de L:=λi cs ty ag x ad=>acT L aF cs ty (by rw[pw]at ag;grind) x ad
theorem cb.trim(m:cb ai aV β L h w)(k:Nat):cb ai aV β (L.take k) h w:=by
 have fS:∀i l,b1 (L.take k) i=some l->b1 L i=some l:=λi l al=>by
  rw[pw,GH]at al;split at al;rw[pw];exact al
  grind
 exact⟨⟨m.bR.hw,λi l al=>m.bR.bR i l (fS i l al)⟩,λi l al=>m.hole i l (fS i l al),λi o l b3 al jL=>m.inj i o l b3 (fS i l al) (fS o b3 jL),λi l al=>m.lt i l (fS i l al),λi l al=>m.bX i l (fS i l al),m.os,m.tape,m.output,m.size,m.frame,m.fresh⟩
theorem afG(ds e:bY):∀(c0:List Nat)(t:Nat),iR ds c0 (c0.map e) t=e t\/iR ds c0 (c0.map e) t=ds t
 |[],t=>.inr rfl
 |d::a7,t=>by
  simp only[eO,iR];rcases afG (h7 ds d (e d)) e a7 t with aP|aP
  grind
  rw[aP];unfold h7;cases af:gN t d with
  |true=>simp_all
  |false=>simp
theorem TW{bd:List LE}(ds:bY)(ai:∀t,(ds t).ok bd):∀(c0:List Nat)(xs:List aA)(_:∀x∈xs,x.ok bd)(t:Nat),(iR ds c0 xs t).ok bd
 |[],xs,_,t=>by cases xs<;>exact ai t
 |d::a7,[],_,t=>ai t
 |d::a7,x::xs,ad,t=>by
  simp only[iR];refine TW (h7 ds d x) (λt=>?_) a7 xs (λy aQ=>ad y (iv _ aQ)) t;unfold h7
  grind
theorem cJ.forget(r:cJ n β L e a){c0:List Nat}{xs:List aA}(ad:c0.map e=xs){bd:List LE}(dk:xs.all (ky bd)=true):cJ n β bd (iR (λt=>.v (a.tmps.getD t eU)) c0 xs) a:=by
 refine⟨r.defers,r.size,λt=>?_,λt=>TW (λt=>.v (a.tmps.getD t eU)) (λ_=>trivial) c0 xs (λx ad=>acS (oA.1 dk x ad)) t⟩;subst ad;rcases afG (λt=>.v (a.tmps.getD t eU)) e c0 t with aP|aP<;>rw[aP];exact r.env t;rfl
theorem V4(β:Nat->Nat)(perm:List Nat)(x:aA):(MP perm x).c1 β=x.c1 λi=>β (p7 perm i):=by
 cases x<;>rfl
theorem aja(β:Nat->Nat)(perm:List Nat)(x:aA):(aCq perm x).c β=x.c λi=>β (p7 perm i):=by
 cases x with
 |a xs=>
  show Ke _=Ke _;rw[lo];congr 2;exact pK λy _=>V4 β perm y
 |_=>rfl
theorem adv{L:List LE}:∀{perm:List Nat}{K:List LE},sY L perm=some K->∀i l,b1 K i=some l->∃o,b1 perm i=some o/\b1 L o=some l
 |[],K,h,i,l,al=>by injection h with h;subst h;cases al
 |p::perm,K,h,i,l,al=>by
  simp only[sY]at h;split at h;rename_i q k h1 ab;injection h with h;subst h;cases i with
  |zero=>injection al with al;subst al;exact⟨p,rfl,h1⟩
  |succ i=>exact adv ab i l al
  grind
theorem WI:∀{perm:List Nat},tv perm=true->∀i o a,b1 perm i=some a->b1 perm o=some a->i=o
 |[],_,i,o,a,h,_=>by cases h
 |p::perm,aB,i,o,a,h1,ab=>by
  simp only[tv,fY,td]at aB;have no:∀k,b1 perm k=some p->False:=λk hk=>by
   have:Dj perm p=true:=ab7.2 (by rw[pw]at hk;grind)
   grind
  cases i with
  |zero=>
   cases o with
   |zero=>rfl
   |succ o=>injection h1 with h1;subst h1;exact(no o ab).elim
  |succ i=>
   cases o with
   |zero=>injection ab with ab;subst ab;exact(no i h1).elim
   |succ o=>rw[WI aB.2 i o a h1 ab]
theorem IF(perm:List Nat)(l:LE):(pA perm l).live=l.live:=by cases l<;>rfl
theorem cb.perm(m:cb ai aV β L h w){perm:List Nat}{K:List LE}(aB:tv perm=true)(hp:sY L perm=some (K.map (pA perm))):cb ai aV (λi=>β (p7 perm i)) K h w:=by
 have at_:∀i l,b1 K i=some l->∃o,b1 perm i=some o/\p7 perm i=o/\b1 L o=some (pA perm l):=λi l al=>by
  obtain⟨o,h1,ab⟩:=adv hp i (pA perm l) (by rw[pw]at al⊢;grind);simp_all[p7,h1]
 refine⟨⟨m.bR.hw,λi l al=>?_⟩,λi l al ah=>?_,λi o l b3 al jL ah jZ he=>?_,λi l al ah=>?_,λi l al ah=>?_,m.os,m.tape,m.output,m.size,m.frame,m.fresh⟩;obtain⟨o,h1,ab,an⟩:=at_ i l al;have aj:=m.bR.bR o _ an;cases l with
 |own cs ty=>
  simp only[pA,LE.eL,lo]at aj⊢;rw[ab,aj];congr 3;exact pK λy _=>V4 β perm y
 |bV b=>simp_all[pA,LE.eL,ab]
 |row=>simp_all[pA,LE.eL,ab]
 |map f k=>simp_all[pA,LE.eL,ab]
 |gone=>trivial
 obtain⟨o,h1,ab,an⟩:=at_ i l al;show h (β (p7 perm i))=none;rw[ab];exact m.hole o _ an (by rw[IF];exact ah);obtain⟨a,h1,ab,an⟩:=at_ i l al;obtain⟨b,g1,g2,g3⟩:=at_ o b3 jL;simp only[ab,g2]at he;have:=m.inj a b _ _ an g3 (by rw[IF];exact ah) (by rw[IF];exact jZ) he;subst this;exact WI aB i o a h1 g1;obtain⟨o,h1,ab,an⟩:=at_ i l al;show β (p7 perm i)<_;rw[ab];exact m.lt o _ an (by rw[IF];exact ah);obtain⟨o,h1,ab,an⟩:=at_ i l al;show ai (β (p7 perm i))≠none\/_;rw[ab];exact m.bX o _ an (by rw[IF];exact ah)
theorem afH{perm:List Nat}{e:bY}:∀(c0:List Nat)(xs:List aA)(ds:bY),c0.map e=xs.map (aCq perm)->(∀t,(e t).c β=a.tmps.getD t eU)->(∀t,(ds t).c (λi=>β (p7 perm i))=a.tmps.getD t eU)->∀t,(iR ds c0 xs t).c (λi=>β (p7 perm i))=a.tmps.getD t eU
 |[],xs,ds,_,_,ai,t=>by cases xs<;>exact ai t
 |d::a7,[],ds,ad,_,ai,t=>ai t
 |d::a7,x::xs,ds,ad,am,ai,t=>by
  simp only[eO,yp]at ad;simp only[iR];refine afH a7 xs (h7 ds d x) ad.2 am (λt=>?_) t;unfold h7;cases af:gN t d with
  |true=>
   rw[mJ af,<-am d,ad.1,aja];rfl
  |false=>grind
theorem cJ.res(r:cJ n β L e a)(s:jQ β L h w):cJ n β L (λt=>F2 L (e t)) a:=by
 refine⟨r.defers,r.size,λt=>?_,λt=>?_⟩;unfold F2;split;rename_i v ah;obtain⟨h1,ab⟩:=F1 s ah;rw[r.env t,aA.O4 ab,h1];rfl;exact r.env t;unfold F2;split;trivial;exact r.ok t
theorem cJ.perm(r:cJ n β L e a){perm:List Nat}{c0:List Nat}{xs:List aA}(ad:c0.map e=xs.map (aCq perm)){bd:List LE}(dk:xs.all (ky bd)=true):cJ n (λi=>β (p7 perm i)) bd (iR (λt=>.v (a.tmps.getD t eU)) c0 xs) a:=⟨r.defers,r.size,λt=>(afH c0 xs (λt=>.v (a.tmps.getD t eU)) ad (λt=>(r.env t).symm) (λ_=>rfl) t).symm,λt=>TW (λt=>.v (a.tmps.getD t eU)) (λ_=>trivial) c0 xs (λx ad=>acS (oA.1 dk x ad)) t⟩
theorem ajM(Q:dL):JP ai aV n (λq v e L h=>∀bl:bY,(∀t,t<q->bl t=e t)->Q (.panic [{v:=v,recovered:=false}]) bl L h) (lift ai aV n Q):=by
 intro q v β e L h ap a w m r aF z aB aj a6;refine⟨β,λt=>if t<q then e t else .v (a.tmps.getD t eU),L,h,m,⟨aB,aj,λt=>?_,λt=>?_⟩,aF,z _ λt av=>by simp[av]⟩;by_cases av:t<q;simp only[av,la];rw[a6 t av];exact r.env t;simp only[av,k'];rfl;by_cases av:t<q;simp only[av,la];exact r.ok t;simp only[av,k'];trivial
theorem af0(a7:List l9){ops:Array b8}{Q:fU->Act->bb->Prop}{K:eN}(cD:h4 ai aV n Any K (Q .normal)):∀(l:List b8) β e L h a w,cb ai aV β L h w->cJ n β L e a->de L->wpOps P n (l.map (e5 P ops)) e L h K->wpList P ops (q3 a7 Q) l {a with defers:=a7} w
 |[],β,e,L,h,a,w,m,r,aF,hp=>⟨a,rfl,cD β e L h a w trivial m r aF hp⟩
 |J::l,β,e,L,h,a,w,m,r,aF,hp=>by
  refine wpList_step λnext rH=>?_
  have aj:=Gj (Q:=Q) (next:=λa w=>a.defers=[]/\next {a with defers:=a7} w) (λβ e L h a w _ m r aF hk=>⟨r.defers,rH _ _ (af0 a7 cD l β e L h a w m r aF hk)⟩) m r aF hp;rw[show(j8 ops ({a with defers:=a7}:Act).tmps)=j8 ops a.tmps from rfl];split;rename_i hw;rw[aX hw]at aj;exact Sy a7 aj λ_ _ q=>q;rename_i hw;rw[aE hw]at aj;rw[zs];grind
theorem akd(a7:List l9)(a:Act)(c:e3):({a with defers:=a7}:Act).eval c=a.eval c:=by rfl
theorem afT(a7:List l9)(p4:P.follows .mixedOrders=true):∀(c:ox)(Q:dL) β e L h a w,cb ai aV β L h w->cJ n β L e a->de L->c7 P n (lower P bM c) Q e L h->c.wp P (q3 a7 (lift ai aV n Q)) {a with defers:=a7} w:=by
 intro c;induction c with
 |skip=>exactλQ β e L h a w m r aF hp=>wp_skip ⟨a,rfl,β,e,L,h,m,r,aF,hp⟩
 |region id ops d=>
  intro Q β e L h a w m r aF hp;cases d with
  |false=>
   refine wp_region_list ?_;exact af0 a7 (K:=Q .normal) (λβ e L h a w _ m r aF hk=>⟨β,e,L,h,m,r,aF,hk⟩) ops.toList β e L h a w m r aF hp
  |true=>
   simp only[lower]at hp;split at hp;rename_i aL;exact wp_region_any p4 (auS a7 (K:=Q .normal) aL (λβ e L h a w _ m r aF hk=>⟨β,e,L,h,m,r,aF,hk⟩) (ajM Q) m r aF hp);exact hp.elim
 |seq x y oP oQ=>
  intro Q β e L h a w m r aF hp;refine wp_seq (wK (oP _ β e L h a w m r aF hp) ?_);rintro ex _ aZ ⟨ey,rfl,bS,bl,bd,U,bc,cT,ef,aq⟩;cases ex with
  |normal=>exact oQ Q bS bl bd U ey aZ bc cT ef aq
  |_=>exact⟨ey,rfl,bS,bl,bd,U,bc,cT,ef,aq⟩
 |cond c x y oP oQ=>
  intro Q β e L h a w m r aF hp;simp only[lower,c7]at hp;split at hp;rename_i b af;have aw:=r.eval c;rw[<-akd a7]at aw;rw[af]at aw;have kQ:ub e (bK c) b=e:=by
   cases c with
   |tmp t=>exact l8 af
   |_=>rfl
  cases b with
  |true=>
   simp only[fe]at hp;rw[kQ]at hp;exact wp_cond_true aw (oP Q β e L h a w m r aF hp)
  |false=>
   simp only[fe]at hp;rw[kQ]at hp;exact wp_cond_false aw (oQ Q β e L h a w m r aF hp)
  grind
 |block id b bE=>
  intro Q β e L h a w m r aF hp;refine wp_block (wK (bE _ β e L h a w m r aF hp) ?_);rintro ex _ aZ ⟨ey,rfl,bS,bl,bd,U,bc,cT,ef,aq⟩;cases ex with
  |exit o=>
   simp only[Exit.inBlock];simp only at aq;cases af:gN o id with
   |true=>
    rw[af]at aq;rw[aX (mJ af)];exact⟨ey,rfl,bS,bl,bd,U,bc,cT,ef,aq⟩
   |false=>
    rw[af]at aq;rw[aE (λyK=>by simp_all)];exact⟨ey,rfl,bS,bl,bd,U,bc,cT,ef,aq⟩
  |_=>exact⟨ey,rfl,bS,bl,bd,U,bc,cT,ef,aq⟩
 |loop b bE=>
  intro Q β e L h a w m r aF hp;simp only[lower,c7]at hp;obtain⟨Ua,hp⟩:=te.norm hp;obtain⟨L,h,hp,m,aF,QU,_⟩:=rV Ua _ _ _ m aF hp;have r:=r.agree (λ_ _=>rfl) QU;obtain⟨β,L,h,hp,m,aF,AP,sF⟩:=mZ hp β m aF;have r:=r.agree sF AP;have Hu:∀(X:Type)(c0:List Nat)(dr:X->List aA)(cz:X->List LE)(ax:X->I->Prop)(eM:X->Nat)(cQ:X)(dk:aEB dr cz),(∃β e,ax cQ h/\cb ai aV β (cz cQ) h w/\cJ n β (cz cQ) (iR e c0 (dr cQ)) a)->aIi (c7 P n (lower P bM b)) Q c0 dr cz ax eM->(NK b).wp P (q3 a7 (lift ai aV n Q)) {a with defers:=a7} w:=by
   intro X c0 dr cz ax eM cQ dk iD aDK;have wv:=λx=>(fY _ _).mp (dk x);obtain⟨β,e,jX,m,r⟩:=iD;refine azY (λk a w=>∃a0:Act,a={a0 with defers:=a7}/\∃x β e h,eM x=k/\ax x h/\cb ai aV β (cz x) h w/\cJ n β (cz x) (iR e c0 (dr x)) a0) (eM cQ) ⟨a,rfl,cQ,β,e,h,rfl,jX,m,r⟩ ?_;rintro k _ w ⟨a,rfl,x,β,e,h,rfl,cG,m,r⟩;obtain⟨j9,f',h1,bJ,m1,fu,kY,sF⟩:=mZ (aDK x e h cG) β m (My (wv x).2);refine wK (bE _ j9 _ _ h1 a w m1 (r.agree sF kY) fu bJ) ?_;rintro ex _ aZ ⟨ey,rfl,bS,bl,bd,U,bc,cT,ef,aq⟩;cases ex with
   |normal=>
    obtain⟨j',iT,ab,⟨cw,aM,aD,bj,bT⟩,m2,k7,oi,nk⟩:=mZ aq bS bc ef;exact⟨eM cw,bT,ey,rfl,cw,j',_,ab,rfl,bj,by rw[<-aD];exact m2.trim _,(cT.agree nk oi).forget aM (wv cw).1⟩
   |_=>exact⟨ey,rfl,bS,bl,bd,U,bc,cT,ef,aq⟩
  have go:∀(X:Type)(c0:List Nat)(dr:X->List aA)(cz:X->List LE)(ax:X->I->Prop)(eM:X->Nat)(cQ:X)(dk:aEB dr cz),(∃β e,ax cQ h/\cb ai aV β (cz cQ) h w/\cJ n β (cz cQ) (iR e c0 (dr cQ)) a)->aIh (c7 P n (lower P bM b)) Q c0 dr cz ax eM->(NK b).wp P (q3 a7 (lift ai aV n Q)) {a with defers:=a7} w:=by
   intro X c0 dr cz ax eM cQ dk iD aDK;have wv:=λx=>(fY _ _).mp (dk x);obtain⟨β,e,jX,m,r⟩:=iD;refine azY (λk a w=>∃a0:Act,a={a0 with defers:=a7}/\∃x β e h,eM x=k/\ax x h/\cb ai aV β (cz x) h w/\cJ n β (cz x) (iR e c0 (dr x)) a0) (eM cQ) ⟨a,rfl,cQ,β,e,h,rfl,jX,m,r⟩ ?_;rintro k _ w ⟨a,rfl,x,β,e,h,rfl,cG,m,r⟩;refine wK (bE _ β _ _ h a w m r (My (wv x).2) (aDK x e h cG)) ?_;rintro ex _ aZ ⟨ey,rfl,bS,bl,bd,U,bc,cT,ef,aq⟩;cases ex with
   |normal=>
    obtain⟨cw,aM,aD,bj,bT⟩:=aq;exact⟨eM cw,bT,ey,rfl,cw,bS,_,U,rfl,bj,by rw[<-aD];exact bc.trim _,cT.forget aM (wv cw).1⟩
   |_=>exact⟨ey,rfl,bS,bl,bd,U,bc,cT,ef,aq⟩
  cases hp with
  |mk X c0 dr cz ax eM cQ dk jX he mP aDK=>
   exact go X c0 dr cz ax eM cQ dk ⟨β,_,jX,by rw[<-mP];exact m.trim _,r.forget he ((fY _ _).mp (dk cQ)).1⟩ aDK
  |zl perm X c0 dr cz ax eM cQ dk jX he aB mP aDK=>
   exact go X c0 dr cz ax eM cQ dk ⟨_,_,jX,m.perm aB mP,r.perm he ((fY _ _).mp (dk cQ)).1⟩ aDK
  |kU perm X c0 dr cz ax eM cQ dk jX he aB mP aDK=>
   exact Hu X c0 dr cz ax eM cQ dk ⟨_,_,jX,m.perm aB mP,r.perm he ((fY _ _).mp (dk cQ)).1⟩ aDK
  |FA perm X c0 dr cz ax eM cQ dk jX he aB mP aDK=>
   exact Hu X c0 dr cz ax eM cQ dk ⟨_,_,jX,m.perm aB mP,(r.res m.bR).perm he ((fY _ _).mp (dk cQ)).1⟩ aDK
 |rangeFunc f be x y _ _=>intro Q β e L h a w m r aF hp;exact hp.elim
 |exit id=>exactλQ β e L h a w m r aF hp=>wp_exit ⟨a,rfl,β,e,L,h,m,r,aF,hp⟩
 |scope b bE=>
  intro Q β e L h a w m r aF hp;refine wp_scope_straight (wK (bE _ β e L h a w m r aF hp) ?_);rintro ex _ aZ ⟨ey,rfl,bS,bl,bd,U,bc,cT,ef,aq⟩;cases ex with
  |goto l=>grind
  |_=>exact⟨ey,rfl,bS,bl,bd,U,bc,cT,ef,aq⟩
 |label l=>exactλQ β e L h a w m r aF hp=>wp_label ⟨a,rfl,β,e,L,h,m,r,aF,hp⟩
 |goto l=>intro Q β e L h a w m r aF hp;exact hp.elim
 |ret=>exactλQ β e L h a w m r aF hp=>wp_ret ⟨a,rfl,β,e,L,h,m,r,aF,hp⟩
 |refuse azJ=>intro Q β e L h a w m r aF hp;exact hp.elim
theorem Ns(p4:P.follows .mixedOrders=true)(c:ox)(Q:dL)(β e L h)(a:Act)(w)(m:cb ai aV β L h w)(r:cJ n β L e a)(aF:de L)(hp:c7 P n (lower P bM c) Q e L h):c.wp P (lift ai aV n Q) a w:=by
 have aj:=afT [] p4 c Q β e L h a w m r aF hp;have a6:({a with defers:=[]}:Act)=a:=by have:=r.defers;cases a;simp_all
 rw[a6]at aj;refine wK aj ?_;rintro ex _ aZ ⟨ey,rfl,bS,bl,bd,U,bc,cT,q⟩;have a6:({ey with defers:=[]}:Act)=ey:=by have:=cT.defers;cases ey;simp_all
 rw[a6];exact⟨bS,bl,bd,U,bc,cT,q⟩
end
def vy(P:dW):List w2->List aA->bY->List LE->I->(List aA->Prop)->Prop
 |[],aDC,_,_,_,K=>K aDC
 |.tmp t::r,aDC,e,L,h,K=>vy P r (aDC++[e t]) e L h K
 |.cell t ty::r,aDC,e,L,h,K=>bif iP P ty then eX (.load (oq P ty) (ir P ty) (.t t)) e L h λx=>vy P r (aDC++[x]) e L h K else False
def jt:List ao->ao
 |[v]=>v
 |au=>.tuple au.toArray
def s9(P:dW)(rs:List w2)(Q:ao->I->Prop):dL:=λx e L h=>match x with
 |.normal|.ret=>vy P rs [] e L h λej=>kX 40 ej (λL h=>match mY L ej with
  |some au=>e9 (λ_ h=>Q (jt au) h) L h
  |none=>False) L h
 |_=>False
def pU(args:List ao):bY:=λt=>match b1 args t with|some v=>.v v|none=>.v eU
section
variable {P:dW}{ai:I}{aV:bb}{n:Nat}{β:Nat->Nat}{L:List LE}{h:I}{e:bY}{a:Act}{w:bb}
def Dw(tmps:Array ao):w2->Sem ao
 |.tmp t=>pure (tmps.getD t eU)
 |.cell a t=>do loadVar t (<-asAddr (tmps.getD a eU))
theorem Je{tmps:Array ao}{au:List ao}(am:(fn.results.toList.mapM (Dw tmps)).run P w= .ok au w):(results fn tmps).run P w= .ok (jt au) w:=by
 have hm:(fn.results.mapM λx=>Dw tmps x).run P w= .ok au.toArray w:=by
  rw[Array.mapM_eq_mapM_toList];simp[am]
 have he:results fn tmps=(do
  let au<-fn.results.mapM λx=>Dw tmps x
  pure (if h:au.size=1 then au[0]else .tuple au)):=by
  rfl
 rw[he];simp only[aDF,hm,hd,jR];congr 1;match au with
 |[]=>rfl
 |[v]=>rfl
 |v::u::r=>rfl
theorem DP(m:cb ai aV β L h w)(r:cJ n β L e a)(aF:de L)(K:List aA->Prop):∀(rs:List w2)(aDC:List aA),vy P rs aDC e L h K->(∀x∈aDC,x.ok L)->∃ej,K (aDC++ej)/\(∀x∈ej,x.ok L)/\(rs.mapM (Dw a.tmps)).run P w= .ok (ej.map (aA.c β)) w
 |[],aDC,hp,_=>⟨[],by grind [vy],by simp,by simp⟩
 |.tmp t::rs,aDC,hp,Qk=>by
  simp only[vy]at hp;obtain⟨ej,bJ,bB,eo⟩:=DP m r aF K rs (aDC++[e t]) hp (λx ad=>by
   rcases List.mem_append.1 ad with ad|ad
   grind
   rw[fx.1 ad];exact r.ok t)
  refine⟨e t::ej,by grind,λx ad=>?_,?_⟩;rcases dC.1 ad with ad|ad;rw[ad];exact r.ok t
  grind
  simp only[List.mapM_cons,Dw,aDF,jR,hd,eo,eO];rw[r.env t]
 |.cell t ty::rs,aDC,hp,Qk=>by
  simp only[vy]at hp;cases LJ:iP P ty with
  |false=>grind
  |true=>
   rw[LJ]at hp;simp only[lv]at hp;obtain⟨bx,ah,dk,aQ⟩:=Pz r aF (J:={dst:=none,op:=.load ty (.tmp t),type:=0,pos:= "",after:=#[],guard:=none}) rfl LJ hp;have dp:=aQ w m.bR;simp only[cY,Gm]at dp;obtain⟨ej,bJ,bB,eo⟩:=DP m r aF K rs (aDC++[bx]) ah (λx ad=>by
    grind)
   refine⟨bx::ej,by grind,λx ad=>?_,?_⟩
   grind
   have h1:(Dw a.tmps (.cell t ty)).run P w= .ok (bx.c β) w:=by
    simp only[Dw];generalize a.tmps.getD t eU=v at dp⊢;cases v with
    |pointer p=>
     cases p with
     |none=>simp_all[zQ,qq]
     |some cc=>
      simp only[zQ,qq,asAddr,aDF,jR,hd]at dp⊢;cases aq:(loadVar ty cc).run P w with
      |ok x aZ=>simp_all
      |halt x aZ=>simp_all
    |_=>simp_all[zQ,qq]
   simp_all
theorem EE{n:Nat}(aC:args.length<=n)(β:Nat->Nat):cJ n β [] (pU args) {tmps:=args.toArray++DS (n-args.toArray.size) eU,defers:=[]}:=by
 refine⟨rfl,by grind,λt=>?_,λt=>?_⟩;simp only[pU,pw,zF,Array.getElem?_append,List.size_toArray,List.getElem?_toArray,Array.getElem?_replicate];by_cases av:t<args.length;rw[aX av,List.getElem?_eq_getElem av];rfl;rw[aE av,List.getElem?_eq_none (by omega)];split<;>rfl;unfold pU;split<;>trivial
theorem Fn.intro{f:jh}{c:ox}{ms:IR}{rs:List w2}{h:I}{Q:ao->I->Prop}(p4:P.follows .mixedOrders=true)(az:P.funcs[f]?=some fn)(af:fn.body=some c)(wq:(fn.name== "runtime.NumGoroutine")=false)(aC:fn.ntmps=n)(y':fn.results.toList=rs)(wk:lower P bM c=ms)(i8:nT args.length n=true)(ku:c7 P n ms (s9 P rs Q) (pU args) [] h):Fn P f args.toArray h Q:=by
 refine⟨⟨fn,az,by grind,wq⟩,λw hw=>?_⟩;subst wk;subst y';subst aC;refine calls_of_wp az af ?_;have m:cb h w (λ_=>0) [] h w:=⟨⟨hw,(λi l al=>by cases al)⟩,(λi l al=>by cases al),(λi o l b3 al=>by cases al),(λi l al=>by cases al),(λi l al=>by cases al),rfl,rfl,rfl,dd _,(λ_ _ _=>rfl),(λo ae=>.inl ae)⟩;have aF:de []:=λi cs ty ag=>by cases ag
 have aj:=Ns p4 (ai:=h) (aV:=w) (n:=fn.ntmps) c _ (λ_=>0) (pU args) [] h _ w m (EE (rh i8) _) aF ku;refine wK aj ?_;rintro ex ey aZ ⟨β,e,L,U,bc,cT,ef,aq⟩;have fin:vy P fn.results.toList [] e L U (λej=>kX 40 ej (λL h=>match mY L ej with
  |some au=>e9 (λ_ h=>Q (jt au) h) L h
  |none=>False) L U)->ey.defers=[]/\∃v,(results fn ey.tmps).run P aZ= .ok v aZ/\∃u ab,agz v= .returned u/\Q u ab/\Ext h w ab aZ:=by
  intro wy
  obtain⟨ej,bJ,bB,eo⟩:=DP bc cT ef _ _ [] wy (by simp)
  simp only[J3]at bJ
  obtain⟨f',h1,aM,m1,fu,kY,_⟩:=rV ej _ _ _ bc ef bJ
  split at aM
  rename_i au fh
  have aw:=s3 m1.bR ej au fh
  obtain⟨j',iT,ab,hJ,m2,_,_,_⟩:=mZ aM β m1 fu
  rw[aw]at eo
  exact⟨cT.defers,_,Je eo,_,ab,rfl,hJ,⟨m2.bR.hw,m2.os,m2.tape,m2.output,m2.size,m2.frame,m2.fresh⟩⟩
  grind
 cases ex with
 |normal=>exact fin aq
 |ret=>exact fin aq
 |exit id=>exact aq.elim
 |goto l=>exact aq.elim
 |panic v7=>exact aq.elim
 |outgrown=>exact aq.elim
theorem Fn.aoJ{f:jh}{c:ox}{ms:IR}{rs:List w2}{h:I}{Q:ao->I->Prop}(p4:P.follows .mixedOrders=true)(az:P.funcs[f]?=some fn)(af:fn.body=some c)(wq:(fn.name== "runtime.NumGoroutine")=false)(aC:fn.ntmps=n)(y':fn.results.toList=rs)(wk:lower P bM c=ms)(i8:nT args.length n=true)(ku:e9 (λL h=>c7 P n ms (s9 P rs Q) (pU args) L h) [] h):Fn P f args.toArray h Q:=by
 refine⟨⟨fn,az,by grind,wq⟩,λw hw=>?_⟩;subst wk;subst y';subst aC;refine calls_of_wp az af ?_;have m:cb h w (λ_=>0) [] h w:=⟨⟨hw,(λi l al=>by cases al)⟩,(λi l al=>by cases al),(λi o l b3 al=>by cases al),(λi l al=>by cases al),(λi l al=>by cases al),rfl,rfl,rfl,dd _,(λ_ _ _=>rfl),(λo ae=>.inl ae)⟩;have aF:de []:=λi cs ty ag=>by cases ag
 obtain⟨j9,f',h1,ku,m1,fu,kY,sF⟩:=mZ ku _ m aF;have aj:=Ns p4 (ai:=h) (aV:=w) (n:=fn.ntmps) c _ j9 (pU args) f' h1 _ w m1 ((EE (rh i8) _).agree sF kY) fu ku;refine wK aj ?_;rintro ex ey aZ ⟨β,e,L,U,bc,cT,ef,aq⟩;have fin:vy P fn.results.toList [] e L U (λej=>kX 40 ej (λL h=>match mY L ej with
  |some au=>e9 (λ_ h=>Q (jt au) h) L h
  |none=>False) L U)->ey.defers=[]/\∃v,(results fn ey.tmps).run P aZ= .ok v aZ/\∃u ab,agz v= .returned u/\Q u ab/\Ext h w ab aZ:=by
  intro wy
  obtain⟨ej,bJ,bB,eo⟩:=DP bc cT ef _ _ [] wy (by simp)
  simp only[J3]at bJ
  obtain⟨f',h1,aM,m1,fu,kY,_⟩:=rV ej _ _ _ bc ef bJ
  split at aM
  rename_i au fh
  have aw:=s3 m1.bR ej au fh
  obtain⟨j',iT,ab,hJ,m2,_,_,_⟩:=mZ aM β m1 fu
  rw[aw]at eo
  exact⟨cT.defers,_,Je eo,_,ab,rfl,hJ,⟨m2.bR.hw,m2.os,m2.tape,m2.output,m2.size,m2.frame,m2.fresh⟩⟩
  grind
 cases ex with
 |normal=>exact fin aq
 |ret=>exact fin aq
 |exit id=>exact aq.elim
 |goto l=>exact aq.elim
 |panic v7=>exact aq.elim
 |outgrown=>exact aq.elim
end
end Go.Sx
namespace Go.Sx
set_option maxRecDepth 100000
set_option maxHeartbeats 0
set_option linter.all false
variable {h:I}{rows:List (List ao)}{i n size:Nat}{A:Option ar}
structure bg(h:I)(size:Nat)(A:Option ar)(n:Nat)(rows:List (List ao)):Prop where
 len:rows.length=n
 wid:∀r∈rows,r.length=size
 cc:n≠0->∃g,A=some g
 cell:∀g,A=some g->∀(i:Nat)(r:List ao),rows[i]?=some r->∀(o:Nat)(v:ao),r[o]?=some v->h.cell? (g.add (i*size+o))=some v
theorem bg.mono{U:I}(t:bg h size A n rows)(x:h.le U):bg U size A n rows:=⟨t.len,t.wid,t.cc,λg ak i r am o v ah=>I.kL x (t.cell g ak i r am o v ah)⟩
theorem bg.nil(h:I)(size:Nat)(A:Option ar):bg h size A 0 []:=⟨rfl,(λr am=>by cases am),(λe=>absurd rfl e),(λg _ i r am=>by simp at am)⟩
theorem PO{size:Nat}:∀(rows:List (List ao)),(∀r∈rows,r.length=size)->rows.flatten.length=rows.length*size
 |[],_=>by simp
 |r::rows,hw=>by
  simp only[qr,List.length_append,gI,hw r (by simp),PO rows λr am=>hw r (by simp[am])];rw[BQ];omega
theorem X1{size:Nat}:∀(rows:List (List ao)),(∀r∈rows,r.length=size)->∀(k:Nat)(v:ao),rows.flatten[k]?=some v->∃i o r,k=i*size+o/\rows[i]?=some r/\r[o]?=some v
 |[],_,k,v,h=>by simp at h
 |r::rows,hw,k,v,h=>by
  rw[qr,JY]at h;split at h;exact⟨0,k,r,by simp,rfl,h⟩;rename_i hk;have am:=hw r (by simp);obtain⟨i,o,cT,h1,ab,an⟩:=X1 rows (λr am=>hw r (by simp[am])) (k-r.length) v h;exact⟨i+1,o,cT,by rw[BQ];omega,by simpa using ab,an⟩
theorem Ci{size:Nat}:∀(rows:List (List ao)),(∀r∈rows,r.length=size)->∀(i o:Nat)(r:List ao)(v:ao),rows[i]?=some r->r[o]?=some v->rows.flatten[i*size+o]?=some v
 |[],_,i,o,r,v,h,_=>by simp at h
 |q::rows,hw,i,o,r,v,h,ah=>by
  have aq:=hw q (by simp);rw[qr,JY];cases i with
  |zero=>
   injection h with h;subst h;have:=(qt.1 ah).1;rw[aX (by omega),Nat.zero_mul,dJ];exact ah
  |succ i=>
   rw[aE (by rw[BQ];omega)];have:=Ci rows (λr am=>hw r (by simp[am])) i o r v (by simpa using h) ah;rw[<-this,aq,BQ];congr 1;omega
theorem bg.src(t:bg h size A n rows)(L:List LE):Src L h size A n rows.flatten:=by
 by_cases aC:n=0;have:=t.len;rw[aC]at this;rw[ra this];exact .nil aC;obtain⟨g,ak⟩:=t.cc aC;refine .hp g _ ak (by rw[PO _ t.wid,t.len]) λk v hk=>?_;obtain⟨i,o,r,h1,ab,an⟩:=X1 _ t.wid k v hk;rw[h1];exact t.cell g ak i r ab o v an
theorem bz.dG{bs cap:Nat}(x:bz h bs size A n cap rows.flatten)(hw:∀r∈rows,r.length=size)(aj:0<size):bg h size A n rows:=by
 obtain⟨h1,ab⟩:=x;rw[PO _ hw]at h1;have al:rows.length=n:=Nat.eq_of_mul_eq_mul_right aj h1;refine⟨al,hw,λaC=>?_,λg ak i r am o v ah=>?_⟩;rcases ab with⟨_,ab,_⟩|⟨g,a8,ab,_⟩;exact absurd ab aC;exact⟨_,ab⟩;rcases ab with⟨ab,_⟩|⟨b,a8,ab,an,_,_,_,aR⟩;rw[ak]at ab;cases ab;rw[ak]at ab;injection ab with ab;subst ab;rw[add_lit,dJ];have:=Ci _ hw i o r v am ah;rw[<-aR,GH]at this;split at this;rw[zG]at this;unfold I.cell?;simp only[an,Option.isSome_none,uh,k'];exact this;cases this
theorem bg.row(t:bg h size A n rows){g:ar}(ak:A=some g){r:List ao}(am:rows[i]?=some r):∀o v,r[o]?=some v->h.cell? ((g.add (i*size)).add o)=some v:=λo v ah=>by rw[uE];exact t.cell g ak i r am o v ah
theorem bg.one(t:bg h size A n rows){g:ar}(ak:A=some g){r:List ao}(am:rows[i]?=some r){v:ao}(ah:r[0]?=some v):h.cell? (g.add (i*size))=some v:=t.cell g ak i r am 0 v ah
theorem add_zero(a:ar):a.add 0=a:=by unfold Addr.add;rw[aX rfl]
theorem bg.take{h:I}{size n:Nat}{A:Option ar}{rows:List (List ao)}(t:bg h size A n rows){k:Nat}(hk:k<=n):bg h size A k (rows.take k):=by
 refine⟨by simp[t.len];omega,λr am=>t.wid r (List.mem_of_mem_take am),λai=>t.cc (by omega),λg ak i r am o v ah=>?_⟩;rw[GH]at am;split at am;exact t.cell g ak i r am o v ah;cases am
theorem bg.drop{h:I}{size n:Nat}{A B:Option ar}{rows:List (List ao)}(t:bg h size A n rows){k:Nat}(bW:k<n->B=A.map (·.add (k*size)))(hk:k<=n):bg h size B (n-k) (rows.drop k):=by
 refine⟨by simp[t.len],λr am=>t.wid r (List.mem_of_mem_drop am),λai=>?_,λg ak i r am o v ah=>?_⟩;obtain⟨g,ak⟩:=t.cc (by omega);exact⟨_,by rw[bW (by omega),ak];rfl⟩;rw[List.getElem?_drop]at am;have di:=(qt.1 am).1;rw[t.len]at di;obtain⟨b7,dT⟩:=t.cc (by omega);rw[bW (by omega),dT]at ak;injection ak with ak;rw[<-ak,uE];have:=t.cell b7 dT (k+i) r am o v ah;rw[show k*size+(i*size+o)=(k+i)*size+o by rw[Nat.add_mul];omega];exact this
def R(z:Int):ao:=.int .i64 z
structure bo where
 src:Int
 dst:Int
 fR:Int
 take:Int
 start:Int
 deriving DecidableEq
def bo.cells(a:bo):List ao:=[R a.src,R a.dst,R a.fR,R a.take,R a.start]
def my(N:Int)(A:Option ar)(m cap:Nat):ao:=.agg #[R N,.slice A m cap]
theorem VH(l:List bo):∀r∈l.map bo.cells,r.length=5:=by
 intro r am;obtain⟨a,_,rfl⟩:=dn.1 am;rfl
theorem Rg(l:List Int):∀r∈l.map λz=>[R z],r.length=1:=by
 intro r am;obtain⟨a,_,rfl⟩:=dn.1 am;rfl
theorem iM{α β:Type}{f:α->β}{l:List α}(ag:i<l.length):(l.map f)[i]?=some (f l[i]):=by simp[ag]
end Go.Sx
namespace Go.Sx
open Go.RowKit Go.WideShapes Go.ChangeShapes
set_option maxRecDepth 100000
set_option maxHeartbeats 0
set_option linter.all false
variable {W:bb}
section
variable {H:Type}{enc:fc×ao->H}{P:dW}
theorem ai0{mc:bb}{U:I}(x:Ext (I.of W) W U mc)(cu:(I.of W).le U):Below W.heap.size W mc:=by
 refine⟨x.os,x.tape,x.output,x.size,λk hk=>?_⟩;have h1:W.heap[k]?=some W.heap[k]:=JM hk;rw[h1];exact x.hw k _ (cu k _ h1)
theorem aoj(W:bb):lI (I.of W) W:=λ_ _ e=>e
theorem Sr{a:ar}{v:ao}(aw:W.cell? a=some v):(I.of W).cell? a=some v:=aw
def Jj(P:dW)(eg:List fc):Bool:=eg.all λt=>P.readableRec t&&decide (t<P.types.size)
theorem afu(al:RK P=true){W mc:bb}{sp:Nat->Bool}:∀(eg:List fc)(au:List ao)(a7:List (oy H))(be:List vK),Jj P eg=true->NL enc P W 0 (λ_=>true) true eg au a7 be->(∀p∈be,W.sameAt mc p)->(∀p∈be,sp p.block=true)->NL enc P mc 0 sp true eg au a7 be
 |[],[],[],_,_,h,_,_=>h
 |t::eg,v::au,d::a7,be,am,h,aj,hp=>by
  obtain⟨p,q,h1,ab,rfl⟩:=h;simp only[Jj,List.all_cons,fY,sh]at am;exact⟨p,q,aAy al am.1.1 am.1.2 h1 (λx ad=>aj x (by simp[ad])) (λx ad=>hp x (by simp[ad])),afu al eg au a7 q (by simpa[Jj]using am.2) ab (λx ad=>aj x (by simp[ad])) (λx ad=>hp x (by simp[ad])),rfl⟩
 |[],_::_,_,_,_,h,_,_=>h.elim
 |[],[],_::_,_,_,h,_,_=>h.elim
 |_::_,[],_,_,_,h,_,_=>h.elim
 |_::_,_::_,[],_,_,h,_,_=>h.elim
theorem avQ{f:Func}{s:ChangeSpec}{je:fc}{apart fresh handsOn again:Bool}{mc:bb}{args:Array ao}{a7 gs:List (oy H)}{before:List vK}(al:RK P=true)(am:Jj P f.params.toList=true)(fh:s.vars=[])(xz:f.resultTypes=#[je])(AS:P.underlying je=some .bool)(lT:agv enc P f.params.toList s.vars apart W args.toList a7 gs before)(aj:(s.fn H (a7++gs)).results=[.lit (.bool true)])(QW:(s.fn H (a7++gs)).args=a7)(CY:(s.fn H (a7++gs)).vars=[])(af:Below W.heap.size W mc):s.post enc P f apart fresh handsOn again W args (.bool true) mc:=by
 have di:∀p∈before,p.block<W.heap.size:=λp hp=>lT.lt p hp;obtain⟨p,q,h1,ab,an,aY,aC⟩:=id lT;have aq:q=[]/\gs=[]:=by
  rw[fh]at ab;cases gs with
  |nil=>exact⟨ab,rfl⟩
  |cons g gs=>exact ab.elim
 obtain⟨rfl,rfl⟩:=aq;rw[List.append_nil]at an;subst an;have aO:∀sp:Nat->Bool,(∀x∈before,sp x.block=true)->NL enc P mc 0 sp true f.params.toList args.toList (s.fn H (a7++[])).args before:=λsp va=>by
  rw[QW];exact afu al _ _ _ _ am h1 (λx ad=>af.same (di x ad)) va
 have K6:∀sp:Nat->Bool,DataW.TrodVars enc P mc sp s.vars (s.fn H (a7++[])).vars []:=λsp=>by
  rw[CY,fh];rfl
 have cG:∀(b:Nat)(sp:Nat->Bool)(aB:Bool),NL enc P mc b sp aB f.resultTypes.toList ((qB true).resultList f.resultTypes.size) (s.fn H (a7++[])).results []:=λb sp aB=>by
  rw[aj,xz];exact trodAll_mk1 (shut_bool AS true)
 have dk:∀(o:Nat)(t:fc)(r:ao),f.resultTypes[o]?=some t->((qB true).resultList f.resultTypes.size)[o]?=some r->Value.okWide P mc .any 0 t r:=ok_one xz rfl (okWide_bool_mk AS true);have fS:∀x∈before,(λb=>decide (b<W.heap.size)) x.block=true:=λx ad=>by simpa using di x ad
 refine⟨a7,[],before,[],before,[],lT,cG _ _ _,aO _ fS,K6 _,World.keptBut_mono (λx ad=>⟨ad,?_⟩) (af.frame (·∈before)),λ_=>⟨dk,_,_,([]++before)++[],⟨[]++before,[],trodAll_append (aO _ (λ_ _=>rfl)) (cG _ _ _),K6 _,rfl,?_,?_⟩,?_⟩⟩;exact .inr (by simpa using ad);intro b off hp;have lX:MemPlace.cell b off∈before:=by simpa using hp
 rw[af.frozen (di _ lX)];exact aY b off lX;intro a6;simpa using aC a6;intro x ad _;simpa using ad
theorem aje{f:jh}{fn:Func}{s:ChangeSpec}{je:fc}{apart fresh handsOn again:Bool}{args:Array ao}{a7 gs:List (oy H)}{before:List vK}(al:RK P=true)(am:Jj P fn.params.toList=true)(fh:s.vars=[])(xz:fn.resultTypes=#[je])(AS:P.underlying je=some .bool)(lT:agv enc P fn.params.toList s.vars apart W args.toList a7 gs before)(aj:(s.fn H (a7++gs)).results=[.lit (.bool true)])(QW:(s.fn H (a7++gs)).args=a7)(CY:(s.fn H (a7++gs)).vars=[])(bm:Fn P f args (I.of W) λr U=>r= .bool true/\(I.of W).le U):Calls P f args W λe mc=>∃v,e= .returned v/\s.post enc P fn apart fresh handsOn again W args v mc:=by
 refine(bm.run W (aoj W)).mono ?_;rintro e mc ⟨v,U,rfl,⟨rfl,cu⟩,ad⟩;exact⟨_,rfl,avQ al am fh xz AS lT aj QW CY (ai0 ad cu)⟩
theorem Pa{α:Type}(ax:Nat->α->Prop):∀n,(∀i,i<n->∃a,ax i a)->∃l:List α,l.length=n/\∀i a,l[i]?=some a->ax i a
 |0,_=>⟨[],rfl,λi a h=>by simp at h⟩
 |n+1,h=>by
  obtain⟨l,h1,ab⟩:=Pa ax n λi ag=>h i (by omega);obtain⟨a,a6⟩:=h n (by omega);refine⟨l++[a],by simp[h1],λi b af=>?_⟩;rw[JY]at af;split at af;exact ab i b af;have:i=n:=by
   have:=(qt.1 af).1;simp at this;omega
  subst this;rw[h1]at af;simp at af;rw[<-af];exact a6
end
end Go.Sx
namespace Go.Sx
open Go.Proofs Go.RowKit Go.ChangeShapes Go.WideShapes
set_option maxRecDepth 100000
set_option maxHeartbeats 0
set_option linter.all false
section
variable {P:dW}{H:Type}{enc:fc×ao->H}
theorem ac7{W:bb}{spare:Nat->Bool}{held:Bool}{t e k6:Nat}{v:ao}{x:oy H×List vK}(av:P.underlying t=some (.slice e))(he:P.underlying e=some (.int .i64))(hC:P.cellsOf e=1)(h:DataW.trod enc P W 0 spare held k6 t [v]=some x):∃(A:Option ar)(n cap:Nat)(l:List Int),v= .slice A n cap/\bg (I.of W) 1 A n (l.map λz=>[R z])/\n<=cap/\∃el sp,(x.1= .slice el sp/\n<=el.length)\/(x.1= .nil/\n=0):=by
 rcases Deep.open_slice av h with⟨ai,h1⟩|⟨a,len,cap,m,n,D,Ow,fg,af,al,hm,anJ,ad,ag⟩;injection ai with ai;exact⟨none,0,0,[],ai,bg.nil _ _ _,dd _,[],[],.inr ⟨by rw[h1],rfl⟩⟩;injection fg with fg;have aBf:len<=m:=by rw[anJ];split<;>omega
 have key:∀i,i<len->∃z:Int,W.cell? (a.add i)=some (R z):=λi AG=>by
  obtain⟨gQ,aw,Ic⟩:=ag i (by omega);rw[hC,ew]at aw;obtain⟨z,aY,_⟩:=DataW.trod_int he Ic;obtain⟨_,uX,mQ⟩:=World.cells?_some aw;refine⟨z,?_⟩;have:=mQ 0 (by omega);rw[add_zero]at this;rw[this,aY];rfl
 obtain⟨l,yZ,y0⟩:=Pa (λi(b:Int)=>W.cell? (a.add i)=some (R b)) len key;refine⟨some a,len,cap,l,fg,⟨by simpa using yZ,λr am=>?_,λ_=>⟨a,rfl⟩,λg ak i r am o u hu=>?_⟩,al,(aDB len).map D,_,.inl ⟨by rw[ad],by simp⟩⟩;obtain⟨b,_,rfl⟩:=dn.1 am;rfl;injection ak with ak;subst ak;rw[dV,D3]at am;obtain⟨b,k8,rfl⟩:=am;have ae:o=0:=by
  have:=(qt.1 hu).1;simpa using this
 subst ae;injection hu with hu;subst hu;rw[ew,Nat.add_zero];exact Sr (y0 i b k8)
end
end Go.Sx
namespace Go.Sx
open Go.RowKit
set_option maxRecDepth 100000
set_option maxHeartbeats 0
set_option linter.all false
section
variable {P:dW}{ai:I}{aV:bb}{n:Nat}{β:Nat->Nat}{L:List LE}{h:I}{e:bY}{a:Act}{w:bb}{ro:Option Nat}{a7:List l9}
end
section
variable {P:dW}{ai h1:I}{aV cF:bb}{n:Nat}{β:Nat->Nat}{L:List LE}{h:I}{e:bY}{a:Act}{w:bb}{ro:Option Nat}{a7:List l9}
end
section
variable {P:dW}{ai h1:I}{aV cF:bb}{n:Nat}{β:Nat->Nat}{L:List LE}{h:I}{e:bY}{a:Act}{w:bb}{ro:Option Nat}{a7:List l9}
end
end Go.Sx
namespace Go.Sx
open Go.Proofs
set_option maxRecDepth 100000
set_option maxHeartbeats 0
set_option linter.all false
def qW:List Nat:=[55,30,126,128,129,28,74,131,132,73,77,81,82,83,84,85,134,135,185,186,89,48,108,112,39,40,41,97,98,99,100,101,142,144,145,146,88,33,1050,1100,1111,1131,1151,2156]
theorem Fz:Tryz.prog.follows .mixedOrders=true:=by kernel_rfl
structure b4(f n:Nat)where
 fn:Func
 az:Tryz.prog.funcs[f]?=some fn
 acD:fn.ntmps=n
 dD:(fn.name== "runtime.NumGoroutine")=false
 af:fn.body.isSome=true
 o:{x:IR//lower aH qW (fn.body.getD .skip)=x}
section
variable {f n:Nat}{args:List ao}{h:I}{Q:ao->I->Prop}
theorem b5(o:b4 f n)(a6:nT args.length n=true)(hw:c7 aH n o.o.1 (s9 aH o.fn.results.toList Q) (pU args) [] h):Fn aH f args.toArray h Q:=by
 obtain⟨c,aw⟩:=Ou.1 o.af;refine Fn.intro Fz o.az aw o.dD o.acD rfl (ms:=o.o.1) (bM:=qW) ?_ a6 hw;rw[<-o.o.2,aw];rfl
theorem agN(o:b4 f n)(a6:nT args.length n=true)(hw:e9 (λL h=>c7 aH n o.o.1 (s9 aH o.fn.results.toList Q) (pU args) L h) [] h):Fn aH f args.toArray h Q:=by
 obtain⟨c,aw⟩:=Ou.1 o.af;refine Fn.aoJ Fz o.az aw o.dD o.acD rfl (ms:=o.o.1) (bM:=qW) ?_ a6 hw;rw[<-o.o.2,aw];rfl
end
def cl:ox->ox|.seq a _=>a|.cond _ a _=>a|.block _ b=>b|.loop b=>b|.scope b=>b|c=>c
def tt:ox->ox|.seq _ b=>b|.cond _ _ b=>b|c=>c
def hQ:ox->e3|.cond c _ _=>c|_=>.tmp 0
def ci:ox->Nat|.block i _=>i|_=>0
def d':ox->Nat|.seq _ _=>1|.cond _ _ _=>2|.block _ _=>3|.loop _=>4|_=>0
section
variable {c:ox}{x y:IR}{z:dB}{i:Nat}
theorem aS(aj:d' c=1)(h1:lower aH qW (cl c)=x)(ab:lower aH qW (tt c)=y):lower aH qW c= .seq x y:=by
 subst h1;subst ab;cases c with
 |seq a b=>rw[lower];rfl
 |_=>cases aj
theorem uN(aj:d' c=2)(ai:bK (hQ c)=z)(h1:lower aH qW (cl c)=x)(ab:lower aH qW (tt c)=y):lower aH qW c= .cond z x y:=by
 subst ai;subst h1;subst ab;cases c with
 |cond a b d=>rw[lower];rfl
 |_=>cases aj
theorem eV(aj:d' c=3)(h1:lower aH qW (cl c)=x):lower aH qW c= .block (ci c) x:=by
 subst h1;cases c with
 |block a b=>rw[lower];rfl
 |_=>cases aj
theorem iL(aj:d' c=4)(h1:lower aH qW (cl c)=x):lower aH qW c= .loop x:=by
 subst h1;cases c with
 |loop a=>rw[lower];rfl
 |_=>cases aj
theorem aDw(h1:lower aH qW (cl c)=x)(ab:lower aH qW (tt c)=y)(aj:d' c=1:=by rfl):lower aH qW c= .seq x y:=aS aj h1 ab
theorem Fr(ab:lower aH qW (tt c)=y)(h1:lower aH qW (cl c)=x:=by cbv)(aj:d' c=1:=by rfl):lower aH qW c= .seq x y:=aS aj h1 ab
theorem aEN(h1:lower aH qW (cl c)=x)(ab:lower aH qW (tt c)=y)(ai:bK (hQ c)=z:=by cbv)(aj:d' c=2:=by rfl):lower aH qW c= .cond z x y:=uN aj ai h1 ab
theorem Kn(ab:lower aH qW (tt c)=y)(h1:lower aH qW (cl c)=x:=by cbv)(ai:bK (hQ c)=z:=by cbv)(aj:d' c=2:=by rfl):lower aH qW c= .cond z x y:=uN aj ai h1 ab
theorem dh(h1:lower aH qW (cl c)=x)(aj:d' c=3:=by rfl):lower aH qW c= .block (ci c) x:=eV aj h1
theorem wD(h1:lower aH qW (cl c)=x)(aj:d' c=4:=by rfl):lower aH qW c= .loop x:=iL aj h1
noncomputable def aEO(ops:Array b8)(n:Nat):cC:=match ops[n/36]?with
 |none=>⟨none,none,.bad⟩
 |some q=>match n/12%3 with
  |0=>uM (e5 aH ops q)
  |1=>Cn (e5 aH ops q)
  |_=>e5 aH ops q
noncomputable def aIx(ops:Array b8)(n:Nat)(s:List hn):List hn:=match n%12,s with
 |0,s=>.nil::s
 |1,s=>.top::s
 |2,r::s=>.v (aEO ops n) false false r::s
 |3,r::s=>.v (aEO ops n) true false r::s
 |4,r::s=>.v (aEO ops n) true true r::s
 |5,r::s=>.w (aEO ops n) false r::s
 |6,r::s=>.w (aEO ops n) true r::s
 |7,r::t::s=>.two (aEO ops n) false r t::s
 |8,r::t::s=>.two (aEO ops n) true r t::s
 |_,s=>s
noncomputable def dl(l:List Nat):ox->hn
 |.region _ ops _=>(l.foldr (aIx ops) [.nil]).headD .bot
 |_=>.bot
theorem aD6{t:hn}(l:List Nat)(_:dl l c=t:=by cbv)(h:lower aH qW c= .xP t:=by kernel_rfl):lower aH qW c= .xP t:=h
def b4.k{f n:Nat}{fn:Func}{x:IR}(az:Tryz.prog.funcs[f]?=some fn)(acD:fn.ntmps=n)(h:lower aH qW (fn.body.getD .skip)=x:=by cbv)(dD:(fn.name== "runtime.NumGoroutine")=false:=by decide)(af:fn.body.isSome=true:=by rfl):b4 f n:=⟨fn,az,acD,dD,af,x,h⟩
end
abbrev i(n:Int):dB:=.c (.int .i64 n)
abbrev J(d:Nat)(k:kk):cC:=⟨some d,none,k⟩
abbrev bU(k:kk):cC:=⟨none,none,k⟩
abbrev u(x:cC)(r:hn):hn:=.v x false false r
abbrev o1(x:cC)(r:hn):hn:=.v x true false r
abbrev aBW(x:cC)(r:hn):hn:=.v x true true r
abbrev bf(x:cC)(r:hn):hn:=.w x false r
abbrev us(x:cC)(r:hn):hn:=.w x true r
end Go.Sx
