/- A part of the proof that the statement holds. Conditions: none. -/
import Derived.Deep.LoopGhost
import Derived.Scope
import Derived.ProofKit
import Derived.SizedLaws
import Derived.Lib.SmallJoins
import Derived.RangeFuncSeq
import Derived.Sort.LoopGhostIn
import Derived.Test.YtlbdbpaelcnfgaaGreatDoorProg
import Derived.Test.YtlbdbpaelcnfgaaGreatDoorAB
open Array renaming ext'->yY,foldl_toList->alB,getD_eq_getD_getElem?->GU,getElem?_eq_getElem->Jz,getElem?_eq_some_iff->AK,getElem?_push->alC,getElem?_toList->AL,replicate->YM,toList_map->AM
open Bool renaming and_eq_true->iv,false_eq_true->ve,not_eq_true'->yZ,or_eq_true->JA,true_and->AP
open Go renaming Addr->aE,Code->y0,DataW->rr,Deferred->wt,Exit->iw,FuncId->mT,LetsOut->RR,MemPlace->wB,Oper->cv,Operand->gu,Program->fk,ResultVar->CN,TypeId->gv,Value->aA,World->bD,execOp->dD,execOp_put->Tq,getD_set_ne->TY,getD_set_true->asv,laidOutB->aga,mem_ready->Wg,resolve->u5,undef->fS,wanted_put->Yu,wpAny->MS,wp_loop_ghost->aHZ,wp_mono->yV,yielded->mF
open Go.Act renaming eval->Ry,put->YK
open Go.Calls renaming mono->alJ
open Go.Code renaming loop->alM
open Go.DataW renaming TrodAll->RD,Whole->alP
open Go.Deferred renaming ofValue->JD
open Go.Ending renaming returned->alT
open Go.Instr renaming loadAt->CC,sureAddr->ru
open Go.Oper renaming upon->ank,upon_enter->J5,wp->CL
open Go.Proofs.Tryz renaming prog->aD
open Go.Region renaming before->fa,binds->sl,ready->Hn,wanted->ih
open Go.Result renaming andThen_ok->jc
open Go.Sem renaming run_bind->iT,run_pure->l3
open Go.Value renaming agg->Kd,bool->dh
open Go.WideElems renaming Trod_stays->aII
open List renaming all_eq_true->se,any_eq_true->RU,eq_nil_of_length_eq_zero->y7,flatten_cons->qN,foldl_cons->vk,getElem?_append->EF,getElem?_eq_some_iff->qO,getElem?_map->de,getElem?_take->G7,length_cons->iJ,map_append->fw,map_congr_left->ny,map_cons->er,map_map->ig,mem_append_right->xN,mem_cons->ez,mem_cons_of_mem->gd,mem_cons_self->hq,mem_map->cO,mem_range->vl,mem_singleton->hZ,nil_append->JV,nodup_cons->jb,range->fJ
open List.cons renaming injEq->A1
open Nat renaming beq->ix,ble->qQ,eq_of_beq_eq_true->rx,le_of_ble_eq_true->za,le_refl->dM,mul_one->e4,succ_mul->A9,zero_add->dZ
open Ne renaming symm->eh
open Option renaming isSome_iff_exists->Se,map_eq_some_iff->zc
open Prod.mk renaming injEq->Hk
namespace Go.Sx
set_option maxRecDepth 100000
set_option maxHeartbeats 0
set_option linter.all false
variable {next:Act->bD->Prop}{listed:Array Bool}{b:Array Nat}{ops:Array cv}{m:Bool}{E:List (Nat×aA)}{L:List LE}{cu done:List Nat}{gb:List aN}{N bF bytes cap dz o s size:Nat}{d:Option Nat}{A:Option aE}{x:aN}{cA:cv}{K:fZ}{P:fk}{Q:iw->Act->bD->Prop}{f:mT}
def Hw{α:Type}:List α->(α->Prop)->Prop
 |[],_=>True
 |[x],p=>p x
 |x::y::l,p=>p x/\Hw (y::l) p
def UH:LE->LE
 |.row bF size _ _ _ _=>.row bF size none 0 0 []
 |l=>l
def aed:LE->LE
 |.row bF size _ _ _ _=>.row bF size none 0 0 []
 |_=>.gone
def uU:Nat->List LE->List LE
 |_,[]=>[]
 |0,l::r=>aed l::uU 0 r
 |n+1,l::r=>UH l::uU n r
def uV(m:Bool)(dz:Nat)(L:List LE):List LE:=match m with
 |true=>uU dz L
 |false=>L
def tL(m:Bool)(h:J):J:=match m with
 |true=>λ_=>none
 |false=>h
def uY(dz:Nat)(e:cg):mI->Bool
 |.Kh _ _ _ _ _ x _=>(match x.get e with
  |.s i _ _ _=>qQ dz i
  |_=>true)
 |_=>true
def tO(dz:Nat)(e:cg)(L:List LE)(U:wE):Bool:=match U.y with
 |false=>true
 |true=>(match U.U.k with
  |.store _ x _=>(match x.get e with
   |.p i _=>qQ dz i&&(match cI L i with|some (.own ..)=>true|_=>false)
   |_=>false)
  |_=>false)
def Ew(P:fk)(f:mT)(args:Array aA)(h:J)(v:aA):Prop:=(∃fn,P.funcs[f]?=some fn/\fn.body.isSome=true/\(fn.name== "runtime.NumGoroutine")=false)/\∀w,n2 h w->Calls P f args w λe bz=>e= .panicked [{v:=v,recovered:=false}]/\Ext h w h bz
inductive RG(P:fk)(U:cY)(e:cg)(L:List LE)(h:J)(N:Prop)(Z:aA->cg->List LE->J->Prop):Prop
 |go (k:N)
 |die (f:mT) (lq:List eC) (aI:List aA) (v:aA) (hk:U.k= .HB f lq) (ak:U.g=none) (ao:pY L (lq.map (eC.get e))=some aI) (ar:Ew P f aI.toArray h v) (z:Z v e L h)
abbrev wQ:=Nat->aA->cg->List LE->J->Prop
variable {Z:wQ}
def MY(P:fk)(n dz:Nat)(U:wE)(e:cg)(L:List LE)(h:J)(K:fZ)(Z:wQ):Prop:=match U.q with
 |none=>bif uY dz e U.U.k&&tO dz e L U then iu P n U.U e L h K else False
 |some q=>RG P U.U e L h (bif uY dz e U.U.k&&tO dz e L U then iu P n U.U e L h K else False) (Z q)
def rl(P:fk)(n dz:Nat)(Z:wQ):Nat->List Nat->sm->cg->List LE->J->fZ->Prop
 |_,_,[],e,L,h,K=>K e L h
 |0,_,_::_,_,_,_,_=>False
 |f+1,done,x::r,e,L,h,K=>match Ak done (x::r)with
  |some (i,U,a)=>iu P n U.U e (uV U.m dz L) (tL U.z h) λe _ _=>rl P n dz Z f (i::done) a e L h K
  |none=>Hw (Gq done (x::r) []) λy=>MY P n dz y.2.1 e L h (λe L h=>rl P n dz Z f (y.1::done) y.2.2 e L h K) Z
def t8(P:fk)(n dz:Nat)(Z:wQ):kP->cg->List LE->J->fZ->Prop
 |.nil,e,L,h,K=>K e L h
 |.top,_,_,_,_=>True
 |.bot,_,_,_,_=>False
 |.v U m z r,e,L,h,K=>iu P n U e (uV m dz L) (tL z h) λe _ _=>t8 P n dz Z r e L h K
 |.w U y r,e,L,h,K=>bif uY dz e U.k&&tO dz e L {U:=U,after:=[],m:=false,y:=y}then iu P n U e L h (λe L h=>t8 P n dz Z r e L h K)else False
 |.two U y r s,e,L,h,K=>(bif uY dz e U.k&&tO dz e L {U:=U,after:=[],m:=false,y:=y}then iu P n U e L h (λe L h=>t8 P n dz Z r e L h K)else False)/\t8 P n dz Z s e L h K
 |.d q U y r,e,L,h,K=>RG P U e L h (bif uY dz e U.k&&tO dz e L {U:=U,after:=[],m:=false,y:=y}then iu P n U e L h (λe L h=>t8 P n dz Z r e L h K)else False) (Z q)
 |.akP q U y r s,e,L,h,K=>RG P U e L h (bif uY dz e U.k&&tO dz e L {U:=U,after:=[],m:=false,y:=y}then iu P n U e L h (λe L h=>t8 P n dz Z r e L h K)else False) (Z q)/\t8 P n dz Z s e L h K
def Yy(P:fk)(n:Nat)(t:kP)(e:cg)(L:List LE)(h:J)(K:fZ)(Z:wQ):Prop:=t8 P n L.length Z t e L h K
theorem ahX dz e L U:tO dz e L {U:=U.U,after:=[],m:=false,y:=U.y}=tO dz e L U:=rfl
theorem alg{P:fk}{n dz:Nat}{e:cg}{L:List LE}{h:J}{K:fZ}{Z:wQ}(g:Nat×wE×sm->kP):∀l,t8 P n dz Z (Iu (l.map λy=>(y.2.1,g y))) e L h K=Hw l λy=>MY P n dz y.2.1 e L h (λe L h=>t8 P n dz Z (g y) e L h K) Z
 |[]=>rfl
 |[x]=>by
  simp only[er,List.map_nil,Iu,Hw,MY];cases x.2.1.q<;>simp only[t8,ahX]
 |x::y::l=>by
  have:=alg (P:=P) (n:=n) (dz:=dz) (e:=e) (L:=L) (h:=h) (K:=K) (Z:=Z) g (y::l);simp only[er,Iu,Hw,MY]at this⊢;cases x.2.1.q<;>simp only[t8,ahX]<;>rw[this]
theorem Yx{P:fk}{n dz:Nat}{K:fZ}{Z:wQ}:∀f done t e L h,t8 P n dz Z (Gr f done t) e L h K=rl P n dz Z f done t e L h K
 |_,_,[],_,_,_=>by unfold Gr rl;rfl
 |0,_,_::_,_,_,_=>by rfl
 |f+1,done,x::r,e,L,h=>by
  unfold Gr rl;cases hp:Ak done (x::r)with
  |some y=>
   obtain⟨i,U,a⟩:=y;simp only[t8];congr 1;funext e _ _;exact Yx f _ _ _ _ _
  |none=>
   simp only[];rw[alg];congr 1;funext y;have:(λe L h=>t8 P n dz Z (Gr f (y.1::done) y.2.2) e L h K)=λe L h=>rl P n dz Z f (y.1::done) y.2.2 e L h K:=by
    funext e L h;exact Yx f _ _ _ _ _
   rw[this]
theorem Z6{α:Type}{p:α->Prop}:∀{l:List α},Hw l p->∀x∈l,p x
 |[],_,x,a=>by cases a
 |[y],h,x,a=>by rw[hZ.1 a];exact h
 |y::z::l,h,x,a=>by
  rcases ez.1 a with rfl|a;exact h.1;exact Z6 h.2 x a
theorem ag2{l:List Nat}{i:Nat}:Gd l i=true↔i∈l:=by
 induction l with
 |nil=>simp[Gd]
 |cons x r a=>simp only[Gd,JA,a,ez];constructor<;>(rintro(h|h))<;>simp_all
theorem aiV{done:List Nat}:∀{l:List Nat},xw done l=true↔∀o∈l,o∈done
 |[]=>by simp[xw]
 |x::r=>by simp only[xw,iv,ag2,aiV (l:=r),ez,forall_eq_or_imp]
def idx(t:sm):List Nat:=t.map (·.1)
theorem aiA{done:List Nat}:∀{t:sm}{i:Nat}{U:wE}{r:sm},Ak done t=some (i,U,r)->(idx t).Nodup->(i,U)∈t/\(jd U.U.k&& !U.x)=true/\xw done U.after=true/\(idx r).Nodup/\(∀x,x∈r↔x∈t/\x.1≠i)
 |[],i,U,r,h,_=>by cases h
 |(o,p)::t,i,U,r,h,a=>by
  simp only[idx,er,jb]at a;simp only[Ak]at h;cases b:(jd p.U.k&& !p.x&&xw done p.after)with
  |true=>
   rw[b]at h;simp only[pG]at h;injection h with h;injection h with h1 ae;injection ae with ae c;subst h1;subst ae;subst c;obtain⟨q,s⟩:=(iv _ _).mp b;refine⟨hq ..,q,s,a.2,λx=>⟨λd=>⟨gd _ d,λe=>a.1 aL⟩,λ⟨d,l⟩=>?_⟩⟩
   grind
  |false=>
   rw[b]at h;simp only[vw]at h;split at h;rename_i u nS v j;injection h with h;injection h with h1 ae;injection ae with ae c;subst h1;subst ae;subst c;obtain⟨g,f,m,n,w⟩:=aiA j a.2;have l:o≠u:=λe=>a.1 aL;refine⟨gd _ g,f,m,?_,λx=>?_⟩;simp only[idx,er,jb];refine⟨λhm=>?_,n⟩
   grind
   grind
   grind
theorem aiz{done:List Nat}:∀{t:sm},Ak done t=none->∀x∈t,(jd x.2.U.k&& !x.2.x)=true->xw done x.2.after=true->False
 |[],_,x,a,_,_=>by cases a
 |(o,p)::t,h,x,a,h1,ae=>by
  simp only[Ak]at h;cases b:(jd p.U.k&& !p.x&&xw done p.after)with
  |true=>grind
  |false=>
   rw[b]at h;simp only[vw]at h;split at h
   grind
   rename_i c;rcases ez.1 a with rfl|a
   grind
   exact aiz c x a h1 ae
theorem aiB{done:List Nat}:∀{t pre:sm},(idx (pre++t)).Nodup->∀i U,(i,U)∈t->xw done U.after=true->∃r,(i,U,r)∈Gq done t pre/\(idx r).Nodup/\∀x,x∈r↔x∈pre++t/\x.1≠i
 |[],pre,_,i,U,a,_=>by cases a
 |(o,p)::t,pre,d,i,U,a,b=>by
  by_cases f:(i,U)=(o,p);injection f with h1 ae;subst h1;subst ae;refine⟨pre++t,by simp[Gq,b],?_,λx=>?_⟩
  grind [idx]
  have k:∀y∈pre++t,y.1≠i:=λy h e=>by
   simp only[idx,fw,er]at d
   grind
  grind
  have c:(i,U)∈t:=by
   grind
  have g:(idx ((pre++[(o,p)])++t)).Nodup:=aL;obtain⟨r,h1,ae,j⟩:=aiB g i U c b
  grind [Gq]
def Ev(ops:Array cv)(S:Nat->Prop):Prop:=∀o a,ops[o]?=some a->S o->∀x∈a.after,sl .any x=true->S x.on
def ze(ops:Array cv)(i o:Nat):Prop:=∀S:Nat->Prop,Ev ops S->S o->S i
theorem agZ(a:Array Nat) i:∀(l:List Edge) s,(l.foldl (λs e=>if sl .any e then s|||2^e.on|||a.getD e.on 0 else s) s).testBit i=true->s.testBit i=true\/∃e∈l,sl .any e=true/\(i=e.on\/(a.getD e.on 0).testBit i=true)
 |[],s,h=>.inl h
 |e::l,s,h=>by
  simp only[vk]at h;rcases agZ a i l _ h with h1|⟨b,h1,ae⟩
  grind
  grind
theorem aas ops:∀(l:List cv)(a:Array Nat),(∀o,l[o]?=ops[a.size+o]?)->(∀o i,(a.getD o 0).testBit i=true->ze ops i o)->∀o i,((l.foldl (λa U=>a.push (U.after.foldl (λs e=>if sl .any e then s|||2^e.on|||a.getD e.on 0 else s) 0)) a).getD o 0).testBit i=true->ze ops i o
 |[],a,_,h=>h
 |U::l,a,al,h=>by
  simp only[vk];refine aas ops l _ (λo=>?_) (λo i b=>?_);have:=al (o+1)
  grind
  by_cases k:o<a.size;refine h o i ?_;rw[GU,alC,aC I]at b;simp_all;by_cases g:o=a.size;subst g;rw[GU,alC,aS rfl,Option.getD_some,<-alB]at b;have j:ops[a.size]?=some U:=by have:=al 0;grind
  rcases agZ a i _ _ b with h1|⟨e,he,d,h1⟩
  grind
  intro S dy c;have f:=dy _ _ j c e aL d;rcases h1 with rfl|h1;omega;exact h _ _ h1 S dy f
  grind
theorem wW ops{i o:Nat}(h:((fa ops).getD o 0).testBit i=true):ze ops i o:=by
 unfold fa at h;rw[<-alB]at h;exact aas ops ops.toList #[] (λo=>bc) (λo i a=>aL) o i h
structure EL(P:fk)(ops:Array cv):Prop where
 Qb:∀(o:Nat)(U:cv) cs b,ops[o]?=some U->U.op≠.select cs b
 lt:∀(i:Nat)(U:cv),ops[i]?=some U->∀x∈U.after,sl .any x=true->x.on<i
 dst:∀(i:Nat)(U:cv),ops[i]?=some U->jd (bW P U.op)=true->∃d,U.dst=some d/\d∉U.looksAt ops
 A:∀(i x:Nat)(cA j9:cv),i≠x->ops[i]?=some cA->ops[x]?=some j9->∀d,j9.dst=some d->d∈cA.looksAt ops->ze ops x i\/(F2 P ops (fa ops) x j9=false/\ze ops i x)
 B:∀(i x:Nat)(cA j9:cv),i≠x->ops[i]?=some cA->ops[x]?=some j9->∀d,j9.dst=some d->cA.dst=some d->(F2 P ops (fa ops) x j9=false/\ze ops i x)\/(F2 P ops (fa ops) i cA=false/\ze ops x i)
 C:∀(i x:Nat)(cA j9:cv),i≠x->ops[i]?=some cA->ops[x]?=some j9->sM (bW P cA.op)=true->rG P ops (fa ops) i=false->jd (bW P j9.op)=true\/F1 (bW P j9.op)=true\/yA (bW P j9.op)=true\/LF (bW P j9.op)=true\/uG ops j9=true\/ze ops i x\/ze ops x i
theorem aCl(h:Qe P ops=true):EL P ops:=by
 simp only[Qe,iv,se,vl]at h;obtain⟨h1,ae⟩:=h;have k:∀{i:Nat}{U:cv},ops[i]?=some U->i<ops.size:=λh=>(AK.1 h).1;have f:∀i x cA e,i≠x->ops[i]?=some cA->ops[x]?=some e->Qq P ops (fa ops) i x=true:=by
  grind
 refine⟨Region.noSelect_spec h1,λi U c x b m=>?_,λi U c n=>?_,λi x cA e g c b d j hm=>?_,λi x cA e g c b d j l=>?_,λi x cA e g c b hm he=>?_⟩
 grind
 grind
 have:=f i x cA e g c b;simp only[Qq,c,b,j,iv,JA,yZ,List.contains_eq_mem,decide_eq_false_iff_not]at this;rcases this.1 with(a|a)|a
 grind
 exact .inl (wW ops a);exact .inr ⟨a.1,wW ops a.2⟩;have:=f i x cA e g c b;simp only[Qq,c,b,j,l,iv,JA,yZ,bne_self_eq_false,ve,false_or]at this;rcases this.2 with a|a;exact .inl ⟨a.1,wW ops a.2⟩;exact .inr ⟨a.1,wW ops a.2⟩;unfold rG at he;rw[List.any_eq_false]at he;have av:=he x (vl.2 (k b));simp only[iv,bne_iff_ne,ne_eq,g,not_false_eq_true,true_and,Bool.not_eq_true]at av;unfold aa3 at av;rw[c,b]at av;simp only[hm,AP,Bool.not_eq_false',JA]at av;rcases av with(((((a|a)|a)|a)|a)|a)|a
 grind
 grind
 grind
 grind
 grind
 exact .inr (.inr (.inr (.inr (.inr (.inl (wW ops a))))));exact .inr (.inr (.inr (.inr (.inr (.inr (wW ops a))))))
theorem Pq{i:Nat}{U:cv}(h1:jd (bW P U.op)=true)(ae:rG P ops (fa ops) i=false):F2 P ops (fa ops) i U=true:=by
 unfold F2;grind
def nB(ops:Array cv)(i:Nat):Option Nat:=(ops[i]?).bind (·.dst)
def iZ(ops:Array cv):List (Nat×aA)->Act->Act
 |[],a=>a
 |(i,v)::E,a=>(iZ ops E a).put (nB ops i) v
theorem Mp{ops:Array cv} d v a:∀E,(∀x∈E,∀t,d=some t->nB ops x.1≠some t)->iZ ops E (a.put d v)=(iZ ops E a).put d v
 |[],_=>rfl
 |(i,u)::E,h=>by
  simp only[iZ];rw[Mp d v a E λx b=>h x (gd _ b)];exact Act.put_comm _ _ _ (λt c=>h (i,u) (hq ..) t c)
theorem aiK{ops:Array cv} i v a b(h:∀x∈b,∀t,nB ops i=some t->nB ops x.1≠some t):∀c,iZ ops (c++(i,v)::b) a=iZ ops (c++b) (a.put (nB ops i) v)
 |[]=>(Mp _ v a b h).symm
 |(o,u)::c=>by simp only[List.cons_append,iZ,aiK i v a b h c]
theorem aiI{ops:Array cv}{U:cv}(c:∀cs b,U.op≠.select cs b) a:∀E,(∀x∈E,∀t,nB ops x.1=some t->t∉U.looksAt ops)->dD (iZ ops E a).eval U=dD a.eval U/\ih U (mF ops (iZ ops E a).tmps)=ih U (mF ops a.tmps)
 |[],_=>⟨rfl,rfl⟩
 |(i,u)::E,h=>by
  obtain⟨h1,ae⟩:=aiI c a E λx d=>h x (gd _ d);simp only[iZ];rw[Tq (ops:=ops) U c _ _ _ (h (i,u) (hq ..)),Yu (ops:=ops) U _ _ _ (h (i,u) (hq ..))]
  grind
theorem aiH{ops:Array cv}(d:List wt):∀(E:List (Nat×aA))(a:Act),iZ ops E {a with defers:=d}={iZ ops E a with defers:=d}
 |[],_=>rfl
 |(i,u)::E,a=>by
  simp only[iZ,aiH d E a];cases nB ops i<;>rfl
theorem Qx{ops:Array cv}:∀E a,(iZ ops E a).defers=a.defers
 |[],_=>rfl
 |(i,u)::E,a=>by
  simp only[iZ];rw[<-Qx E a];cases nB ops i<;>rfl
theorem aH1{U:cv}{a:Act}{w:bD}{next':Act->bD->Prop}(he:dD (iZ ops E a).eval U=dD a.eval U)(k:∀x∈E,∀t,U.dst=some t->nB ops x.1≠some t)(j:∀(v:aA)(b:Act)(gE:bD),b.tmps=a.tmps->next' (iZ ops E (b.put U.dst v)) gE->next (b.put U.dst v) gE)(h:U.wp P (iZ ops E a) w next' (λ_ _ _=>False)):U.wp P a w next Q:=by
 unfold CL at h⊢;rw[he]at h;have key:∀v(b:Act) gE,b.tmps=a.tmps->next' ((iZ ops E b).put U.dst v) gE->next (b.put U.dst v) gE:=λv b gE l g=>j v b gE l (by rw[Mp _ v b E k];exact g)
 generalize(dD a.eval U).run P w=r at h⊢;cases r with
 |ok x bz=>
  cases x<;>simp only[ank]at h⊢
  grind
  grind
  case defer d=>
   have:=key fS {a with defers:=d::a.defers} bz rfl;rw[aiH]at this;refine this ?_;rw[Qx]at h;exact h
  case enter f args=>
   refine h.mono λe i g=>?_;cases e with
   |returned v=>grind
   |panicked c=>grind
   |outgrown=>obtain⟨_,_,g⟩:=g;grind
  case row row args=>exact h.mono λv i g=>key v a i rfl g
 |halt x bz=>
  cases x<;>simp only[ank]at h
section
variable {P:fk}{am:J}{bh:bD}{n:Nat}{β:Nat->Nat}{L:List LE}{h:J}{e:cg}{a:Act}{w:bD}
def zb(P:fk)(ops:Array cv)(U:cv)(ac:Act)(v:aA)(w:bD):Prop:=(ih U (mF ops ac.tmps)=true/\(dD ac.eval U).run P w= .ok (.value v) w)\/(ih U (mF ops ac.tmps)=false/\v=fS)
theorem aHY{k:mI}(hk:jd k=true)(hm:sM k=false) c b V:fH k e L h V=fH k e c b V:=by
 cases k with
 |load agg m x=>grind [sM]
 |lookup f z x k ok=>grind [sM]
 |IF x=>grind [sM]
 |eqv neg a x y=>rcases a with _|_|_|_|_|a<;>rfl
 |unop op x=>cases op<;>rfl
 |conv s d x=>rcases s with _|_|s<;>rcases d with _|d<;>rfl
 |vq op ty x y=>cases op<;>rcases ty with _|ty<;>rfl
 |_=>rfl
theorem IT:∀N L i,cI (uU N L) i=(cI L i).map λl=>if i<N then UH l else aed l
 |_,[],i=>by rfl
 |0,l::r,0=>by rfl
 |0,l::r,i+1=>by simp only[uU,cI,IT 0 r i,Nat.not_lt_zero,nk]
 |N+1,l::r,0=>by rfl
 |N+1,l::r,i+1=>by simp only[uU,cI,IT N r i,Nat.add_lt_add_iff_right]
theorem aiY{L:List LE}{i:Nat}:fP (uU N L) i↔fP L i:=by
 unfold fP;simp only[IT,zc];constructor;rintro⟨l,⟨k,hk,rfl⟩,b⟩;refine⟨k,hk,?_⟩;rw[<-b];by_cases a:i<N;rw[aS a];cases k<;>rfl;rw[aC a];cases k<;>rfl;refineλ⟨k,hk,b⟩=>⟨_,⟨k,hk,rfl⟩,?_⟩;rw[<-b];by_cases a:i<N;rw[aS a];cases k<;>rfl;rw[aC a];cases k<;>rfl
theorem WL{L:List LE}:x.ji (uU N L)↔x.ji L:=by cases x<;>simp only[aN.ji,aiY]
theorem aCz{L:List LE}:x.ok (uU N L)↔x.ok L:=by
 cases x with
 |a xs=>simp only[aN.ok,WL]
 |_=>simp only[aN.ok,WL]
theorem ahA(w:bD)(bF size:Nat):w.ownsRow 0 bF size (.slice none 0 0) 0 []:=⟨bc,.inl ⟨rfl,rfl⟩⟩
theorem As{L:List LE}{h:J}{w:bD}{β:Nat->Nat}:lg β (uU N L) h w↔n2 h w/\∀i l,i<N->cI L i=some l->l.isRow=false->l.fX β i w:=by
 constructor;refineλs=>⟨s.hw,λi l a al b=>?_⟩;have:=s.cJ i (UH l) (by rw[IT,al,Option.map_some,aS a]);cases l<;>first|exact this|cases b
 refineλ⟨h1,ae⟩=>⟨h1,λi k hk=>?_⟩;rw[IT,zc]at hk;obtain⟨l,al,rfl⟩:=hk;by_cases a:i<N;rw[aS a];cases b:l.isRow with
 |false=>
  have:=ae i l a al b;cases l<;>first|exact this|cases b
 |true=>
  cases l with
  |row bF size A n cap xs=>exact⟨ahA w _ _,λg e=>by cases e⟩
  |_=>cases b
 rw[aC a];cases l<;>first|trivial|exact⟨ahA w _ _,λg e=>by cases e⟩
theorem ajz{z:Bool}(s:lg β L h w):lg β (uV m N L) (tL z h) w:=by
 have a:n2 (tL z h) w:=by
  cases z;exact s.hw;exactλo U b=>(by cases b)
 cases m;exact⟨a,s.cJ⟩;exact As.2 ⟨a,λi l _ al _=>s.cJ i l al⟩
theorem ahV(c:ei L):ei (uU N L):=by
 intro i cs ty a x d;rw[IT,zc]at a;obtain⟨l,al,b⟩:=a;have:l= .own cs ty:=by
  by_cases a:i<N;rw[aS a]at b;cases l<;>first|exact b|cases b
  rw[aC a]at b;cases l<;>cases b
 subst this;exact WL.2 (c i cs ty al x d)
theorem aCv(a:ei L):ei (uV m N L):=by
 cases m;exact a;exact ahV a
theorem ahY:x.ok (uV m N L)↔x.ok L:=by
 cases m;rfl;exact aCz
theorem aEj(r:dF n β L e a):dF n β (uV m N L) e a:=⟨r.defers,r.size,r.env,λt=>ahY.2 (r.ok t)⟩
theorem aqZ(s:lg β L h w)(r:dF n β L e a)(d:ei L){U:cv}(hk:jd (bW P U.op)=true){V:aN->Prop}(hp:fH (bW P U.op) e L h V):∃bL,V bL/\bL.ok L/\∀bz,(sM (bW P U.op)=true->lg β L h bz)->(dD a.eval U).run P bz= .ok (.value (bL.c β)) bz:=by
 obtain⟨bL,h1,ae,j⟩:=Tr r d hk hp;refine⟨bL,h1,ae,λbz t=>?_⟩;cases hm:sM (bW P U.op)with
 |true=>exact j bz (t hm)
 |false=>
  have q:fH (bW P U.op) e (uU 0 L) (λ_=>none) V:=by rw[aHY hk hm _ _ V]at hp;exact hp
  obtain⟨k,_,_,g3⟩:=Tr (L:=uU 0 L) (h:=λ_=>none) (r.agree (λ_ _=>rfl) λi f=>aiY.2 f) (ahV d) hk q;have g:∀w,lg β (uU 0 L) (λ_=>none) w:=λw=>As.2 ⟨λo U p=>(by cases p),λi l f=>I⟩;have m:=j w s;have b:=g3 w (g w);rw[m]at b;injection b with b;injection b with b;rw[b];exact g3 bz (g bz)
theorem alf{U:cv}(s:lg β L h w)(r:dF n β L e a)(B:ei L)(hk:jd (gz P ops U).k=true){d:Nat}(u:U.dst=some d)(hp:iu P n (gz P ops U) e L h K):jd (bW P U.op)=true/\∃bL,K (jR e d bL) L h/\bL.ok L/\d<n/\∀bz,(sM (bW P U.op)=true->lg β L h bz)->zb P ops U a (bL.c β) bz:=by
 have x:∀{bL:aN}{e:cg},hJ n (some d) bL e L h K->d<n/\K (jR e d bL) L h:=by
  intro bL e E;simp only[hJ]at E;simp_all
 unfold gz at hp hk;split at hp;rename_i g f;rw[f]at hk;simp only at hk;refine⟨hk,?_⟩;have run:∀l,l=e->gB P n (bW P U.op) U.dst l L h K->ih U (mF ops a.tmps)=true->∃bL,K (jR e d bL) L h/\bL.ok L/\d<n/\∀bz,(sM (bW P U.op)=true->lg β L h bz)->zb P ops U a (bL.c β) bz:=by
  rintro l rfl hw p;rw[afB _ hk,u]at hw;obtain⟨bL,A,z,F⟩:=aqZ s r B hk hw;obtain⟨q,z2⟩:=x A;exact⟨bL,z2,z,q,λbz I=>.inl ⟨p,F bz I⟩⟩
 have skip:∀l,l=e->hJ n U.dst (.v fS) l L h K->ih U (mF ops a.tmps)=false->∃bL,K (jR e d bL) L h/\bL.ok L/\d<n/\∀bz,(sM (bW P U.op)=true->lg β L h bz)->zb P ops U a (bL.c β) bz:=by
  rintro l rfl hw p;rw[u]at hw;obtain⟨q,z2⟩:=x hw;exact⟨.v fS,z2,trivial,q,λbz _=>.inr ⟨p,rfl⟩⟩
 cases i:U.guard with
 |none=>
  rw[i]at f;injection f with f;subst f;exact run e rfl hp (by simp[ih,i])
 |some y=>
  obtain⟨o,J⟩:=y;rw[i]at f;simp only[yE]at f;split at f;rename_i M C;split at f;rename_i t D;injection f with f;subst f;obtain⟨G,H⟩:=Rr r C D;simp only[iu]at hp;split at hp;rename_i b j;have m:=G b j;cases J<;>cases b<;>simp only[gw]at hp;exact run _ (nY j) hp (by simp[ih,i,m]);exact skip _ (nY j) hp (by simp[ih,i,m]);exact skip _ (nY j) hp (by simp[ih,i,m]);exact run _ (nY j) hp (by simp[ih,i,m]);rename_i aI j;have m:=H aI j;simp_all[ih,i,m]
  grind
  grind
  grind
 rename_i f;rw[f]at hk;cases hk
theorem aHS{U:cv}(hk:F1 (bW P U.op)=true)(hp:iu P n (gz P ops U) e L h K):iu P n (gz P ops U) e L h λo a i=>K o a i/\(a=L\/∃l,a=L++[l])/\i=h:=by
 have q:∀{d:Option Nat}{bL:aN}{e:cg}{a:List LE},(a=L\/∃l,a=L++[l])->hJ n d bL e a h K->hJ n d bL e a h λo a i=>K o a i/\(a=L\/∃l,a=L++[l])/\i=h:=by
  intro d bL e a al f;cases d with
  |none=>exact⟨f,al,rfl⟩
  |some d=>
   unfold hJ at f⊢
   grind
 have v:∀(d:Option Nat)(e:cg),gB P n (bW P U.op) d e L h K->gB P n (bW P U.op) d e L h λo a i=>K o a i/\(a=L\/∃l,a=L++[l])/\i=h:=by
  intro d e f;generalize bW P U.op=k at hk f⊢;cases k<;>simp only[F1]at hk<;>first|grind|skip
  simp only[gB,force_eq]at f⊢
  grind
  simp only[gB,Ff,ye]at f⊢
  grind
  simp only[gB,Ff,ye]at f⊢
  grind
  simp only[gB,Ff,ye]at f⊢
  grind
  simp only[gB]at f⊢;split at f;cases f with
  |mk m al av j hm p=>exact .mk m al av j hm λg=>q (.inr ⟨_,rfl⟩) (p g)
  |one m z r s al av j hm p=>exact .one m z r s al av j hm λg=>q (.inr ⟨_,rfl⟩) (p g)
  |room c al av j hm p=>exact .room c al av j hm λg=>q (.inr ⟨_,rfl⟩) (p g)
  omega
 unfold gz at hp⊢;split at hp;rename_i g w;simp only[iu]at hp⊢;split at hp
 grind
 rename_i t u;split at hp;rename_i b j;cases u<;>cases b<;>simp only[gw]at hp⊢<;>first|grind|grind
 grind
 omega;exact hp.elim
theorem apH{k:mI}(hk:jd k=true):rA k=k:=by cases k<;>first|rfl|grind [jd]
theorem apI k:jd (rA k)=jd k:=by cases k<;>rfl
theorem ash k:jd (Fg k)=jd k:=by cases k<;>rfl
theorem asg{k:mI}(hk:jd k=true):Fg k=k:=by cases k<;>first|rfl|grind [jd]
theorem aab{n m:Nat}{S:List aA->Prop}{h:J}{K:aN->List LE->J->Prop}(hp:y3 bF size bytes A n cap m S L λx L=>K x L h):Ey bF size bytes A n cap m S L h K:=by
 cases hp with
 |c0 i xs aI d c h1 hm a k=>exact .c0 i xs aI d c h1 hm a k
 |fresh aI aK e p c h1 hm a k=>exact .fresh aI aK e p c h1 hm a k
 |off i b o N l xs aI aK d j hC c h1 am hm a g f=>exact .off i b o N l xs aI aK d j hC c h1 am hm a g f
theorem Xo:∀gb aI,pY L gb=some aI->L6 L gb=none:=by
 have h1:∀(x:aN) v,Ao L x=some v->P7 L x=none:=by
  intro x v b;cases x<;>simp only[Ao,P7]at b⊢;case p i off=>split at b<;>first|(rename_i e;rw[e])|cases b
  case s i off l c=>split at b<;>first|(rename_i e;rw[e])|cases b
  case m i=>split at b<;>first|(rename_i e;rw[e])|cases b
 have ae:∀(xs:List aN) aI,r5 L xs=some aI->L7 L xs=none:=by
  intro xs;induction xs with
  |nil=>intro _ _;rfl
  |cons x xs g=>
   intro aI b;simp only[r5]at b;split at b;rename_i v r d f;simp only[L7,h1 x v d,g r f];cases b
 intro gb;induction gb with
 |nil=>intro _ _;rfl
 |cons x xs g=>
  intro aI b;simp only[pY]at b;split at b;rename_i v r d f;have:ahw L x=none:=by
   cases x with
   |a aV=>
    simp only[raw]at d;split at d;rename_i q h;exact ae aV q h;cases d
   |_=>simp only[raw]at d;exact h1 _ _ d
  simp only[L6,this,g r f];cases b
theorem aDz{xs:List aN}{K:List LE->J->Prop}{b:Nat}(a:L6 L xs=none):nt (b+1) xs K L h=K L h:=by
 rw[nt,a]
theorem aiT:∀gb aI,r5 L gb=some aI->pY L gb=some aI
 |[],aI,h=>h
 |x::xs,aI,h=>by
  simp only[r5]at h;split at h;rename_i v r b c;injection h with h;have a:raw L x=some v:=by cases x<;>first|exact b|grind [Ao]
  simp only[pY,a,aiT xs r c,h]
  grind
theorem aaa{m:Nat}{y:aN}(hp:Ju n bF size bytes A m cap y d e L h K):Jt n bF size bytes A m cap y d e L h K:=by
 unfold Ju at hp;unfold Jt;split at hp;exact .ag (aab (K:=λx L h=>hJ n d x e L h K) hp);split at hp;split at hp;split at hp;rename_i b _ _ aI a;rw[aDz (Xo b aI (aiT b aI a)),a];exact .ag (aab (K:=λx L h=>hJ n d x e L h K) hp)
 grind
 omega;omega;omega
theorem aaN(hp:Jv P n f gb d e L h K):Cp P n f gb d e L h K:=by
 unfold Jv at hp;unfold Cp;split at hp;rename_i aI a;simp only[nt,Xo gb aI a,a];clear a;induction hp with
 |mk au av _ k=>exact .ag (.mk au av k)
 |b5 i bF size A m cap xs c _ j=>exact .b5 i bF size A m cap xs c λb o g l=>j b o g l
 grind
theorem SW{k:mI}(hp:gB P n (rA k) d e L h K):gB P n k d e L h K:=by
 cases k<;>first|exact hp|skip
 case call f g=>exact aaN hp
 case E1 x g=>
  simp only[rA,gB]at hp⊢;split at hp;exact aaN hp;omega
 case append t bF s b z x y=>
  simp only[rA,gB]at hp⊢;split at hp;exact aaa hp;split at hp;rename_i cs ty _;cases a:(ix cs.length (_*s)&&qQ _ _&&ix ty bF&&qQ _ 9223372036854775807)with
  |false=>grind
  |true=>
   rw[a]at hp;simp only[pG]at hp⊢;split at hp;obtain⟨c⟩:=hp;exact⟨λb a=>aaa (c b a)⟩;omega
  omega;omega
theorem aaP{U:cY}(hp:iu P n (vv U) e L h K):iu P n U e L h K:=by
 unfold iu vv at*;simp only at hp⊢;split at hp;exact SW hp;rename_i t a d;split at hp;rename_i b c;cases a<;>cases b<;>simp only[gw]at hp⊢<;>first|exact SW hp|exact hp
 omega;omega
theorem apD(hp:Rl P n f gb d e L h K):Cp P n f gb d e L h K:=by
 unfold Rl at hp;unfold Cp;split at hp;rename_i aI a;obtain⟨au,av,k⟩:=hp;simp only[nt,Xo gb aI a,a];exact .ag (.mk au av k)
 grind
theorem acW{k:mI}(hp:gB P n (Fg k) d e L h K):gB P n k d e L h K:=by
 cases k<;>first|exact SW hp|skip
 exact apD hp
theorem asi{U:cY}(hp:iu P n (Dj U) e L h K):iu P n U e L h K:=by
 unfold iu Dj at*;simp only at hp⊢;split at hp;exact acW hp;rename_i t a d;split at hp;rename_i b c;cases a<;>cases b<;>simp only[gw]at hp⊢<;>first|exact acW hp|exact hp
 omega;omega
structure zh(P:fk)(cu:List Nat)(am:J)(bh:bD)(n dz:Nat)(ops:Array cv)(listed:Array Bool)(a:Act)(w:bD)(E:List (Nat×aA))(done:List Nat)(e:cg)(L:List LE)(h:J)(β:Nat->Nat):Prop where
 size:listed.size=ops.size
 closed:Ev ops λo=>listed.getD o false=true
 Bo:Ev ops λo=>o∈done
 sub:∀o,listed.getD o false=true->o∈done
 Ca:∀o,o∈done->listed.getD o false=true\/∃v,(o,v)∈E
 Ta:∀o,o∈done->o<ops.size
 nodup:(E.map (·.1)).Nodup
 info:∀o v,(o,v)∈E->o∈done/\listed.getD o false=false/\∃hV d,ops[o]?=some hV/\hV.dst=some d/\(jd (bW P hV.op)=true/\rG P ops (fa ops) o=false)/\
  ∃C:bD->Prop,(sM (bW P hV.op)=true->∀bz,lg β (uV (qw P cu ops (fa ops) o) dz L) (tL (rn P cu ops (fa ops) o) h) bz->C bz)/\∀bz,(sM (bW P hV.op)=true->C bz)->zb P ops hV (iZ ops E a) v bz
 mem:dm am bh β L h w
 rel:dF n β L e (iZ ops E a)
 pp:ei L
def CS(P:fk)(cu:List Nat)(ops:Array cv)(done:List Nat)(t:sm):Prop:=(idx t).Nodup/\∀i U,(i,U)∈t↔(i∉done/\∃cA,ops[i]?=some cA/\U={U:=k1 P cu ops (fa ops) i cA,after:=(cA.after.toList.filter (sl .any)).map (·.on),m:=qw P cu ops (fa ops) i,x:=rG P ops (fa ops) i,y:=uG ops cA,z:=rn P cu ops (fa ops) i,q:=w0 P cu ops cA})
theorem aiW:xw done ((cA.after.toList.filter (sl .any)).map (·.on))=true↔∀x∈cA.after,sl .any x=true->x.on∈done:=by
 rw[aiV]
 grind
theorem CS.step{cu:List Nat}{ops:Array cv}{done:List Nat}{t r:sm}(c:CS P cu ops done t){i:Nat}(a:(idx r).Nodup)(b:∀x,x∈r↔x∈t/\x.1≠i):CS P cu ops (i::done) r:=by
 refine⟨a,λo U=>?_⟩;rw[b,c.2 o U]
 grind
theorem HN{i:Nat}(a:ops[i]?=some cA):nB ops i=cA.dst:=by simp[nB,a]
theorem ahQ{i:Nat}{U:cv}:jd (k1 P cu ops b i U).k=jd (gz P ops U).k:=by
 unfold k1;split;rfl;split;exact ash _;exact apI _
theorem zh.ahead(ok:EL P ops)(S:zh P cu am bh n dz ops listed a w E done e L h β){i:Nat}(l:ops[i]?=some cA)(F:i∉done)(UZ:∀x∈cA.after,sl .any x=true->x.on∈done)(hk:jd (k1 P cu ops (fa ops) i cA).k=true)(j:rG P ops (fa ops) i=false)(hp:iu P n (k1 P cu ops (fa ops) i cA) e (uV (qw P cu ops (fa ops) i) dz L) (tL (rn P cu ops (fa ops) i) h) K):∃M v,K M (uV (qw P cu ops (fa ops) i) dz L) (tL (rn P cu ops (fa ops) i) h)/\zh P cu am bh n dz ops listed a w ((i,v)::E) (i::done) M L h β:=by
 have m:jd (gz P ops cA).k=true:=by grind [<-ahQ]
 have D:jd (bW P cA.op)=true:=by
  unfold gz at m;split at m;omega;cases m
 have Q:k1 P cu ops (fa ops) i cA=gz P ops cA:=by
  unfold k1;split;rfl;split;unfold Dj;rw[asg m];unfold vv;rw[apH m]
 rw[Q]at hp;obtain⟨d,s,lG⟩:=ok.dst i cA l D;obtain⟨_,bL,U,T,Y,Z⟩:=alf (ajz S.mem.cJ) (aEj S.rel) (aCv S.pp) m s hp;have e':i<ops.size:=(AK.1 l).1;have J:nB ops i=some d:=by rw[HN l,s]
 refine⟨jR e d bL,bL.c β,U,⟨S.size,S.closed,?_,λo f=>gd _ (S.sub o f),λo f=>?_,λo f=>?_,?_,λo v f=>?_,S.mem,?_,S.pp⟩⟩;intro o z f H x j V;rcases ez.1 H with rfl|H
 grind
 exact gd _ (S.Bo o z f H x j V);rcases ez.1 f with rfl|f;simp;rcases S.Ca o f with h1|⟨v,h1⟩
 grind
 grind
 rcases ez.1 f with rfl|f;omega;exact S.Ta o f;rw[er,jb];refine⟨λhm=>?_,S.nodup⟩;obtain⟨x,j,Lw⟩:=cO.1 hm;have yx:=(S.info x.1 x.2 j).1
 grind
 have uK:∀(k:Nat)(g:cv)(u:aA)(bz:bD),k∈done->ops[k]?=some g->zb P ops g (iZ ops E a) u bz->zb P ops g (iZ ops ((i,bL.c β)::E) a) u bz:=by
  intro k g u bz R N B;have X:k≠i:=λe=>F aL;have r:∀t,nB ops i=some t->t∉g.looksAt ops:=by
   intro t y hm;rw[J]at y;injection y with y;subst y;rcases ok.A k i g cA X N l d s hm with O|⟨I,_⟩;exact F (O _ S.Bo R);rw[Pq D j]at I;cases I
  have p:=Tq (ops:=ops) g (λcs b=>ok.Qb k g cs b N) (iZ ops E a) (nB ops i) (bL.c β) r;have q:=Yu (ops:=ops) g (iZ ops E a) (nB ops i) (bL.c β) r;unfold zb at B⊢;simp_all[iZ,p,q]
 rcases ez.1 f with f|f;injection f with p q;subst p;subst q;refine⟨hq ..,?_,cA,d,l,s,⟨D,j⟩,λbz=>lg β (uV (qw P cu ops (fa ops) o) dz L) (tL (rn P cu ops (fa ops) o) h) bz,λ_ _ W=>W,λbz G=>?_⟩;cases al:listed.getD o false with
 |false=>rfl
 |true=>exact absurd (S.sub o al) F
 have B:=Z bz G;have r:∀t,nB ops o=some t->t∉cA.looksAt ops:=by
  grind
 have p:=Tq (ops:=ops) cA (λcs b=>ok.Qb o cA cs b l) (iZ ops E a) (nB ops o) (bL.c β) r;have q:=Yu (ops:=ops) cA (iZ ops E a) (nB ops o) (bL.c β) r;unfold zb at B⊢;simp_all[iZ,p,q];obtain⟨i1,i2,z,ii,i3,i4,i5,C,i6,i7⟩:=S.info o v f;exact⟨gd _ i1,i2,z,ii,i3,i4,i5,C,i6,λbz G=>uK o z v bz i1 i3 (i7 bz G)⟩;simp only[iZ];rw[J];exact S.rel.put Y (ahY.1 T)
theorem zh.saturate(ok:EL P ops):∀f done t E e,zh P cu am bh n dz ops listed a w E done e L h β->CS P cu ops done t->rl P n dz Z f done t e L h K->∃A c iS y2 d,zh P cu am bh n dz ops listed a w y2 c d L h β/\CS P cu ops c iS/\rl P n dz Z A c iS d L h K/\Ak c iS=none:=by
 intro f;induction f with
 |zero=>
  intro done t E e S b hp;cases t with
  |nil=>exact⟨0,done,[],E,e,S,b,hp,rfl⟩
  |cons x r=>exact hp.elim
 |succ f m=>
  intro done t E e S b hp;cases t with
  |nil=>exact⟨0,done,[],E,e,S,b,hp,rfl⟩
  |cons x r=>
   cases j:Ak done (x::r)with
   |none=>grind
   |some y=>
    obtain⟨i,U,q⟩:=y;simp only[rl,j]at hp;obtain⟨k,g,o,p,u⟩:=aiA j b.1;obtain⟨z,cA,l,rfl⟩:=(b.2 i U).1 k;simp only[iv,yZ]at g;obtain⟨d,v,s,B⟩:=S.ahead ok l z (aiW.1 o) g.1 g.2 hp;exact m (i::done) q _ d B (b.step p u) s
theorem asw(h:listed.getD o true=false):listed.getD o false=false:=by
 grind
theorem asr(a:o<listed.size)(h:listed.getD o false=false):listed.getD o true=false:=by
 grind
theorem KQ{i:Nat}(a:i<listed.size):(listed.setIfInBounds i true).getD o false=true↔o=i\/listed.getD o false=true:=by
 by_cases e:i=o;simp_all;rw[TY false e];grind
theorem ao0(ok:EL P ops)(d:listed.size=ops.size)(e:Hn .any ops listed=[]):∀o,o<ops.size->listed.getD o false=true:=by
 intro o;induction o using Nat.strongRecOn with
 |_ o f=>
  intro a;cases al:listed.getD o false with
  |true=>rfl
  |false=>
   exfalso;have:o∈Hn .any ops listed:=by
    refine Wg.2 ⟨asr I al,ops[o],Jz a,λx b c=>?_⟩;have g:=ok.lt o ops[o] (Jz a) x b c
    grind
   grind
theorem Ev.set(av:Ev ops λo=>listed.getD o false=true){i:Nat}(d:i∈Hn .any ops listed)(e:i<listed.size):Ev ops λo=>(listed.setIfInBounds i true).getD o false=true:=by
 obtain⟨_,cA,g,h⟩:=Wg.1 d;intro o f a al x b c;rcases(KQ e).1 al with rfl|al;rw[g]at a;injection a with a;subst a;exact asv (h x b c);exact asv (av o f a al x b c)
theorem Tu{U:cv}{C:(Nat->Nat)->Prop}(hC:∀u,(∀i,i<L.length->u i=β i)->C u)(l:jT am bh n C K next)(hk:F1 (bW P U.op)=true)(m:dm am bh β L h w)(r:dF n β L e a)(o:ei L)(hp:gB P n (bW P U.op) U.dst e L h K):U.wp P a w next Q:=by
 cases j:U.op with
 |alloc t=>
  rw[j]at hp;simp only[bW]at hp;split at hp;rename_i i p;split at hp;rename_i z q;exact aca j p q hC l m r o hp;exfalso;clear hp;rw[j]at hk;simp only[bW]at hk;(repeat' split at hk)<;>first|(cases hk;done)|(simp_all;done)
  exfalso;clear hp;rw[j]at hk;simp only[bW]at hk;(repeat' split at hk)<;>first|(cases hk;done)|(simp_all;done)
 |box t x=>rw[j]at hp;exact acb j hC l m r o hp
 |buildSlice t len A=>
  rw[j]at hp;simp only[bW]at hp;split at hp;rename_i el hu;split at hp;rename_i s b az he;obtain⟨i,z,p,q,B,G,D,I,E⟩:=KD he;subst B;subst E;exact acc j hu p q D hC l m r o hp;exfalso;clear hp;rw[j]at hk;simp only[bW]at hk;(repeat' split at hk)<;>first|(cases hk;done)|(simp_all;done)
  exfalso;clear hp;rw[j]at hk;simp only[bW]at hk;(repeat' split at hk)<;>first|(cases hk;done)|(simp_all;done)
 |makeSlice t x y=>
  rw[j]at hp;simp only[bW]at hp;split at hp;rename_i el hu;split at hp;rename_i s b az he;exact ace j hu he hC l m r o hp;exfalso;clear hp;rw[j]at hk;simp only[bW]at hk;(repeat' split at hk)<;>first|(cases hk;done)|(simp_all;done)
  exfalso;clear hp;rw[j]at hk;simp only[bW]at hk;(repeat' split at hk)<;>first|(cases hk;done)|(simp_all;done)
 |makeFunc fn first J=>rw[j]at hk;cases fn<;>simp only[bW]at hk<;>(repeat' split at hk)<;>cases hk
 |binOp op t x y iS=>rw[j]at hk;cases op<;>simp only[bW]at hk<;>(repeat' split at hk)<;>cases hk
 |unOp op t x=>rw[j]at hk;cases op<;>simp only[bW]at hk<;>(repeat' split at hk)<;>cases hk
 |makeMap t r=>rw[j]at hk;cases r<;>cases hk
 |call c=>
  rw[j]at hk;obtain⟨F,args,M⟩:=c;cases F with
  |value f=>cases f<;>cases hk
  |invoke x y=>cases hk
  |builtin b=>cases b<;>simp only[bW]at hk<;>(repeat' split at hk)<;>cases hk
 |move x=>rw[j]at hk;cases hk
 |assign x=>rw[j]at hp;exact acf j hC l m r o hp
 |pick c x y=>rw[j]at hk;cases hk
 |build t A=>rw[j]at hk;simp only[bW]at hk;(repeat' split at hk)<;>cases hk
 |insert t m k v=>rw[j]at hk;cases hk
 |load t x=>rw[j]at hk;simp only[bW]at hk;(repeat' split at hk)<;>cases hk
 |store t x y=>rw[j]at hk;simp only[bW]at hk;(repeat' split at hk)<;>cases hk
 |ready g=>rw[j]at hk;cases hk
 |waits g=>rw[j]at hk;cases hk
 |nilCheck x=>rw[j]at hk;cases hk
 |convert s d x=>rw[j]at hk;simp only[bW]at hk;(repeat' split at hk)<;>cases hk
 |sliceToArrayPointer t x=>rw[j]at hk;cases hk
 |makeInterface t x=>rw[j]at hk;cases hk
 |makeChan t x=>rw[j]at hk;cases hk
 |slice t x H p kJ=>rw[j]at hk;simp only[bW]at hk;(repeat' split at hk)<;>cases hk
 |fieldAddr t x i=>rw[j]at hk;simp only[bW]at hk;(repeat' split at hk)<;>cases hk
 |field t x i=>rw[j]at hk;simp only[bW]at hk;(repeat' split at hk)<;>cases hk
 |indexAddr t x i=>rw[j]at hk;simp only[bW]at hk;(repeat' split at hk)<;>cases hk
 |index t x i=>rw[j]at hk;cases hk
 |lookup t x k b=>rw[j]at hk;simp only[bW]at hk;(repeat' split at hk)<;>cases hk
 |mapUpdate t m k v=>rw[j]at hk;simp only[bW]at hk;(repeat' split at hk)<;>cases hk
 |mapEntry t m k=>rw[j]at hk;cases hk
 |entryStore t m s v=>rw[j]at hk;cases hk
 |range t x=>rw[j]at hk;simp only[bW]at hk;(repeat' split at hk)<;>cases hk
 |next x b=>rw[j]at hk;simp only[bW]at hk;(repeat' split at hk)<;>cases hk
 |entry x=>rw[j]at hk;cases hk
 |typeAssert x t s b=>rw[j]at hk;cases hk
 |extract x i=>rw[j]at hk;cases hk
 |go c=>rw[j]at hk;cases hk
 |defer c=>rw[j]at hk;cases hk
 |panic x=>rw[j]at hk;cases hk
 |send c x=>rw[j]at hk;cases hk
 |recv t c b=>rw[j]at hk;cases hk
 |select cs b=>rw[j]at hk;cases hk
theorem aHW{U:cv}{C:(Nat->Nat)->Prop}(hC:∀q,(∀i,i<L.length->q i=β i)->C q)(k:jT am bh n C K next)(hk:F1 (bW P U.op)=true)(m:dm am bh β L h w)(r:dF n β L e a)(l:ei L)(hp:iu P n (gz P ops U) e L h K):
 if ih U (mF ops a.tmps)then U.wp P a w next Q else next (a.put U.dst fS) w:=by
 have p:C β:=hC β λ_ _=>rfl
 unfold gz at hp
 split at hp
 rename_i g c
 cases d:U.guard with
 |none=>
  rw[d]at c;injection c with c;subst c;simp only[iu]at hp;rw[aS (by simp[ih,d])];exact Tu hC k hk m r l hp
 |some s=>
  obtain⟨o,B⟩:=s;rw[d]at c;simp only[yE]at c;split at c;rename_i D u;split at c;rename_i t y;injection c with c;subst c;obtain⟨z,A⟩:=Rr r u y;simp only[iu]at hp;split at hp;rename_i b f;have j:=z b f;cases B<;>cases b<;>simp only[gw]at hp;rw[nY f]at hp;rw[aS (by simp[ih,d,j])];exact Tu hC k hk m r l hp;rw[nY f]at hp;rw[aC (by simp[ih,d,j])];exact kM k p m r l (x:=.v fS) trivial hp;rw[nY f]at hp;rw[aC (by simp[ih,d,j])];exact kM k p m r l (x:=.v fS) trivial hp;rw[nY f]at hp;rw[aS (by simp[ih,d,j])];exact Tu hC k hk m r l hp;rename_i aI f;have j:=A aI f;rw[aC (by simp[ih,d,j])];exact kM k p m r l (x:=.v fS) trivial hp
  grind
  grind
  grind
 exact hp.elim
theorem adh(c:mI->mI)(q:c .bad= .bad){U:cv}(r:dF n β L e a)(hp:iu P n ({d:=(gz P ops U).d,g:=(gz P ops U).g,k:=c (gz P ops U).k}:cY) e L h K)(run:∀m,m=e->gB P n (c (bW P U.op)) U.dst m L h K->U.wp P a w next Q)(skip:hJ n U.dst (.v fS) e L h K->next (a.put U.dst fS) w):
 if ih U (mF ops a.tmps)then U.wp P a w next Q else next (a.put U.dst fS) w:=by
 unfold gz at hp
 split at hp
 rename_i g f
 cases i:U.guard with
 |none=>
  rw[i]at f;injection f with f;subst f;simp only[iu]at hp;rw[aS (by simp[ih,i])]
  grind
 |some p=>
  obtain⟨o,z⟩:=p;rw[i]at f;simp only[yE]at f;split at f;rename_i A s;split at f;rename_i t u;injection f with f;subst f;obtain⟨x,y⟩:=Rr r s u;simp only[iu]at hp;split at hp;rename_i b j;have l:=x b j;cases z<;>cases b<;>simp only[gw]at hp;rw[nY j]at hp;rw[aS (by simp[ih,i,l])]
  grind
  rw[nY j]at hp;rw[aC (by simp[ih,i,l])]
  grind
  rw[nY j]at hp;rw[aC (by simp[ih,i,l])]
  grind
  rw[nY j]at hp;rw[aS (by simp[ih,i,l])]
  grind
  rename_i aI j;have l:=y aI j;rw[aC (by simp[ih,i,l])]
  grind
  grind
  grind
  grind
 simp only[iu,q]at hp
 exact hp.elim
theorem guarded{U:cv}(r:dF n β L e a)(hp:iu P n (vv (gz P ops U)) e L h K)(run:∀b,b=e->gB P n (rA (bW P U.op)) U.dst b L h K->U.wp P a w next Q)(skip:hJ n U.dst (.v fS) e L h K->next (a.put U.dst fS) w):
 if ih U (mF ops a.tmps)then U.wp P a w next Q else next (a.put U.dst fS) w:=adh rA rfl r hp run skip
theorem Cb{au:List LE->J->Prop}{b:List LE}{a:J}(c:au b a)(hp:hJ n d x e b a K):hJ n d x e b a λf b a=>K f b a/\au b a:=by
 cases d with
 |none=>exact⟨hp,c⟩
 |some d=>
  unfold hJ at hp⊢
  grind
theorem aIk{P:fk}{i:Nat}(h:rn P cu ops b i=true):qw P cu ops b i=true:=by
 unfold rn at h;unfold qw
 grind
def wv(β:Nat->Nat)(L:List LE)(h:J)(b:List LE)(a:J):Prop:=∀(m z:Bool)(N:Nat)(bz:bD),(z=true->m=true)->lg β (uV m N b) (tL z a) bz->lg β (uV m N L) (tL z h) bz
theorem wv.le{a:J}(d:h.le a):wv β L h L a:=by
 intro e c N bz _ s;have b:(tL c h).le (tL c a):=by
  cases c;exact d;exact J.le_refl _
 exact⟨s.hw.mono b,s.cJ⟩
theorem dm.aDy(m:dm am bh β L h w)(E:ei L){i:Nat}{k:Nat}{xs:List aA}(f:cI L i=some (.row bF size A k cap xs)):∃d,h.le d/\bw d bF size A k cap xs/\(∀g,A=some g->h g.block=none)/\dm am bh β (hy L i .gone) d w/\ei (hy L i .gone)/\(∀o,fP L o->fP (hy L i .gone) o)/\wv β L h (hy L i .gone) d:=by
 have F:=m.cJ.cJ i _ f;simp only[LE.fX]at F;obtain⟨⟨h1,ae⟩,y⟩:=F;have n:=oo f;have I:∀o q,cI (hy L i .gone) o=some q->q= .gone\/cI L o=some q:=by
  intro o q a;rw[rb _ _ _ _ n]at a
  grind
 have xb:∀o q,o≠i->cI L o=some q->cI (hy L i .gone) o=some q:=λo q T a=>by
  rw[rb _ _ _ _ n,aC T];exact a
 have j:∀d,h.le d->(∀bz,n2 d bz->(LE.row bF size A k cap xs).fX β i bz)->wv β L h (hy L i .gone) d:=by
  intro d H Y Z B N bz P s;cases Z with
  |true=>
   obtain⟨s1,s2⟩:=As.1 s;have X:n2 (tL B h) bz:=by
    cases B;exact s1.mono H;exactλo U R=>(by cases R)
   refine As.2 ⟨X,λq l FJ a V=>?_⟩;by_cases e:q=i;subst e;rw[f]at a;injection a with a;subst a;cases V
   grind
  |false=>
   obtain rfl:B=false:=by
    grind
   refine⟨s.hw.mono H,λq l a=>?_⟩;have a:cI L q=some l:=a;by_cases e:q=i;subst e;rw[f]at a;injection a with a;subst a;exact Y bz s.hw;exact s.cJ q l (xb q l e a)
 rcases ae with⟨ae,D⟩|⟨g,c,z,x,Q,W,p⟩;injection ae with S yo av;subst S;have r:∀o,fP L o->fP (hy L i .gone) o:=λo⟨q,a,O⟩=>by
  by_cases e:o=i;exact⟨.gone,by rw[rb _ _ _ _ n,aS e],rfl⟩;exact⟨q,aL,O⟩
 have t:∀o q,cI (hy L i .gone) o=some q->q.live=true->cI L o=some q:=λo q a b=>by
  rcases I o q a with rfl|G;cases b;omega
 have v:dm am bh β (hy L i .gone) h w:=⟨⟨m.cJ.hw,λo q a=>by
  rcases I o q a with rfl|G;trivial;exact m.cJ.cJ o q G⟩,λo q a b=>m.hole o q (t o q a b) b,λo M q da a uD b K=>m.inj o M q da (t o q a b) (t M da uD K) b K,λo q a b=>m.lt o q (t o q a b) b,
  λo q a b=>m.df o q (t o q a b) b,m.os,m.tape,m.output,m.size,m.frame,m.fresh⟩
 refine⟨h,J.le_refl h,⟨h1,.inl ⟨rfl,D,av⟩⟩,(λg e=>by cases e),v,(E.wd n r (λ_ _ e=>by cases e)),r,j h (J.le_refl h) λbz _=>?_⟩;simp only[LE.fX];exact⟨⟨h1,.inl ⟨aL,D⟩⟩,y⟩;injection x with x ti tj;subst x;subst tj;have u:=y _ rfl;simp only at u;have C:=m.hole i _ f rfl;rw[<-u]at C;obtain⟨v,r⟩:=m.gm (cC:=.gone) f rfl rfl rfl trivial (by rw[<-u];exact W);rw[<-u]at v;refine⟨h.put g (.cells z bF (0,0)),J.d' C,⟨h1,.inr ⟨g,z,rfl,J.b8 _ _ _,p.1,p.2.1,p.2.2.1,p.2.2.2⟩⟩,(λbq e=>aL),v,(E.wd n r (λ_ _ e=>by cases e)),r,j _ (J.d' C) λbz qo=>?_⟩;simp only[LE.fX];exact⟨⟨h1,.inr ⟨g,_,z,rfl,Q,qo _ _ (J.b8 _ _ _),p⟩⟩,y⟩
theorem ar6{aI:Array aA}{g:aA->List LE->J->Prop}(hp:JE P f aI g L h)(m:dm am bh β L h w)(l:ei L):∃a c,dm am bh β a c w/\ei a/\(∀o,fP L o->fP a o)/\wv β L h a c/\∃au,Fn P f aI c au/\(∀v b,au v b->c.le b)/\∀v b,au v b->g v a b:=by
 induction hp with
 | @mk L h au av e k=>exact⟨L,h,m,l,λ_=>id,wv.le (J.le_refl h),au,av,e,k⟩
 | @b5 L h i bF size A k cap xs t _ x=>
  obtain⟨h1,e,u,y,m1,z,B,d1⟩:=m.aDy l t;obtain⟨C,ae,m2,D,d,d2,au,q⟩:=x h1 e u y m1 z;exact⟨C,ae,m2,D,λo r=>d o (B o r),λn p N bz j s=>d1 n p N bz j (d2 n p N bz j s),au,q⟩
theorem acd{U:cv}(t:jT am bh n (λA=>A=β) (λz d b=>K z d b/\wv β L h d b) next)(m:dm am bh β L h w)(r:dF n β L e a)(u:ei L)(hp:Jv P n f gb U.dst e L h K)(C:∀aI,gb.map (aN.c β)=aI->(∃fn,P.funcs[f]?=some fn/\fn.body.isSome=true/\(fn.name== "runtime.NumGoroutine")=false)->(dD a.eval U).run P w= .ok (.enter f aI.toArray) w):U.wp P a w next Q:=by
 unfold Jv at hp;split at hp;rename_i aI D;have av:=yL m.cJ gb aI D;obtain⟨G,h1,m1,E,F,q,au,p,B,k⟩:=ar6 hp m u;unfold CL;rw[C aI av p.body,J5];refine(p.run w m1.cJ.hw).mono ?_;rintro H bz ⟨v,b,rfl,i,y⟩;have hk:=k v b i;exact kM t rfl (m1.ext y) (r.agree (λ_ _=>rfl) F) E (x:=.v v) trivial (Cb (au:=λd b=>wv β L h d b) (λl o N j g s=>q l o N j g (wv.le (B v b i) l o N j g s)) hk)
 grind
theorem asf{U:cv}(h:Bw P cu U=true):∃f a,bW P U.op= .call f a:=by
 unfold Bw at h
 grind
theorem aHV{U:cv}(l:jT am bh n (λE=>E=β) (λp d j=>K p d j/\d=L) next)(D:Bw P cu U=true)(m:dm am bh β L h w)(r:dF n β L e a)(o:ei L)(hp:iu P n (Dj (gz P ops U)) e L h K):
 if ih U (mF ops a.tmps)then U.wp P a w next Q else next (a.put U.dst fS) w:=by
 refine adh Fg rfl r hp ?_ (λB=>kM l rfl m r o (x:=.v fS) trivial (Cb (au:=λd _=>d=L) rfl B))
 rintro p rfl hw
 obtain⟨g,I,hk⟩:=asf D
 rw[hk]at hw
 simp only[Fg,gB]at hw
 cases i:U.op with
 |call c=>
  rw[i]at hk;obtain⟨J,args,O⟩:=c;cases J with
  |value f=>
   cases f with
   |func q=>
    have C:mI.call q (args.toList.map bZ)=mI.call g I:=hk;injection C with u z;subst u;subst z;unfold Rl at hw;split at hw;rename_i aI H;have av:=yL m.cJ _ aI H;obtain⟨au,s,k⟩:=hw;have he:args.map a.eval=aI.toArray:=by
     rw[<-av];apply yY;simp only[AM,ig];exact ny λx _=>r.eval x
    have G:(dD a.eval U).run P w= .ok (.enter q aI.toArray) w:=by
     simp[dD,i,u5,JD,Ry,invoke,he,Cj s.body]
    unfold CL;rw[G,J5];refine(s.run w m.cJ.hw).mono ?_;rintro M bz ⟨v,j,rfl,F,A⟩;exact kM l rfl (m.ext A) r o (x:=.v v) trivial (Cb (au:=λd _=>d=L) rfl (k v j F));exact hw.elim
   |tmp t=>cases hk
   |const v=>cases hk
   |global g=>cases hk
  |invoke x y=>cases hk
  |builtin b=>cases b<;>simp only[bW]at hk<;>(repeat' split at hk)<;>cases hk
 |makeFunc fn first N=>rw[i]at hk;cases fn<;>simp only[bW]at hk<;>(repeat' split at hk)<;>cases hk
 |binOp op t x y iS=>rw[i]at hk;cases op<;>simp only[bW]at hk<;>(repeat' split at hk)<;>cases hk
 |_=>rw[i]at hk;simp only[bW]at hk;(repeat' split at hk)<;>cases hk
theorem aHU{U:cv}(z:jT am bh n (λM=>M=β) (λq p o=>K q p o/\wv β L h p o) next)(hk:LF (bW P U.op)=true)(m:dm am bh β L h w)(r:dF n β L e a)(A:ei L)(hp:iu P n (vv (gz P ops U)) e L h K):
 if ih U (mF ops a.tmps)then U.wp P a w next Q else next (a.put U.dst fS) w:=by
 refine guarded r hp ?_ (λH=>kM z rfl m r A (x:=.v fS) trivial (Cb (au:=λp o=>wv β L h p o) (wv.le (J.le_refl h)) H))
 rintro q rfl hw
 cases j:U.op with
 |call c=>
  rw[j]at hw hk;obtain⟨R,args,N⟩:=c;cases R with
  |value f=>
   have u:∀x,gB P n (.SV (bZ x) (args.toList.map bZ)) U.dst q L h K->U.op= .call {callee:=.value x,args:=args,argTypes:=N}->U.wp P a w next Q:=by
    intro x hw j;simp only[gB]at hw;have D:=r.eval x;split at hw;rename_i g first F O
    rw[O]at D;refine acd z m r A hw λaI C B=>?_;have he:first++args.map a.eval++F=aI.toArray:=by
     rw[<-C];apply yY;simp only[Array.toList_append,AM,fw,ig];rw[List.append_assoc];have E:∀l:List aA,l.map (aN.c β∘aN.v)=l:=λl=>by
      induction l with
      |nil=>rfl
      |cons y l I=>rw[er,I];rfl
     rw[E,E];congr 2;exact ny λy _=>r.eval y
    simp only[dD,j,u5,JD,D,aN.c,aN.c1,invoke,iT,l3,jc];rw[he,Cj B]
    grind
   cases f with
   |func g=>
    refine acd (gb:=(args.toList.map bZ).map (eC.get q)) z m r A hw λaI C B=>?_;have he:args.map a.eval=aI.toArray:=by
     rw[<-C];apply yY;simp only[AM,ig];exact ny λx _=>r.eval x
    simp[dD,j,u5,JD,Ry,invoke,he,Cj B]
   |tmp t=>exact u _ hw j
   |const v=>exact u _ hw j
   |global g=>exact u _ hw j
  |invoke x y=>cases hk
  |builtin b=>cases b<;>simp only[bW]at hk<;>(repeat' split at hk)<;>cases hk
 |makeFunc fn first F=>rw[j]at hk;cases fn<;>simp only[bW]at hk<;>(repeat' split at hk)<;>cases hk
 |binOp op t x y iS=>rw[j]at hk;cases op<;>simp only[bW]at hk<;>(repeat' split at hk)<;>cases hk
 |unOp op t x=>rw[j]at hk;cases op<;>simp only[bW]at hk<;>(repeat' split at hk)<;>cases hk
 |makeMap t r=>rw[j]at hk;cases r<;>cases hk
 |move x=>rw[j]at hk;cases hk
 |assign x=>rw[j]at hk;cases hk
 |pick c x y=>rw[j]at hk;cases hk
 |ready g=>rw[j]at hk;cases hk
 |waits g=>rw[j]at hk;cases hk
 |nilCheck x=>rw[j]at hk;cases hk
 |insert t m k v=>rw[j]at hk;cases hk
 |convert s d x=>rw[j]at hk;simp only[bW]at hk;(repeat' split at hk)<;>cases hk
 |sliceToArrayPointer t x=>rw[j]at hk;cases hk
 |makeInterface t x=>rw[j]at hk;cases hk
 |makeChan t x=>rw[j]at hk;cases hk
 |index t x i=>rw[j]at hk;cases hk
 |mapEntry t m k=>rw[j]at hk;cases hk
 |entryStore t m s v=>rw[j]at hk;cases hk
 |range t x=>rw[j]at hk;simp only[bW]at hk;(repeat' split at hk)<;>cases hk
 |next x b=>rw[j]at hk;simp only[bW]at hk;(repeat' split at hk)<;>cases hk
 |entry x=>rw[j]at hk;cases hk
 |typeAssert x t s b=>rw[j]at hk;cases hk
 |extract x i=>rw[j]at hk;cases hk
 |go c=>rw[j]at hk;cases hk
 |defer c=>rw[j]at hk;cases hk
 |panic x=>rw[j]at hk;cases hk
 |send c x=>rw[j]at hk;cases hk
 |recv t c b=>rw[j]at hk;cases hk
 |select cs b=>rw[j]at hk;cases hk
 |box t x=>rw[j]at hk;cases hk
 |alloc t=>rw[j]at hk;simp only[bW]at hk;(repeat' split at hk)<;>cases hk
 |buildSlice t len G=>rw[j]at hk;simp only[bW]at hk;(repeat' split at hk)<;>cases hk
 |build t G=>rw[j]at hk;simp only[bW]at hk;(repeat' split at hk)<;>cases hk
 |load t x=>rw[j]at hk;simp only[bW]at hk;(repeat' split at hk)<;>cases hk
 |store t x y=>rw[j]at hk;simp only[bW]at hk;(repeat' split at hk)<;>cases hk
 |fieldAddr t x i=>rw[j]at hk;simp only[bW]at hk;(repeat' split at hk)<;>cases hk
 |indexAddr t x i=>rw[j]at hk;simp only[bW]at hk;(repeat' split at hk)<;>cases hk
 |makeSlice t x y=>rw[j]at hk;simp only[bW]at hk;(repeat' split at hk)<;>cases hk
 |slice t x T S kJ=>rw[j]at hk;simp only[bW]at hk;(repeat' split at hk)<;>cases hk
 |field t x i=>rw[j]at hk;simp only[bW]at hk;(repeat' split at hk)<;>cases hk
 |lookup t x k b=>rw[j]at hk;simp only[bW]at hk;(repeat' split at hk)<;>cases hk
 |mapUpdate t m k v=>rw[j]at hk;simp only[bW]at hk;(repeat' split at hk)<;>cases hk
theorem aqW{m q:Nat}{S:List aA->Prop}{K l:aN->List LE->Prop}(o:∀i r m0 h xs x c bo a aV,cI L i=some (.row bF size r m0 h xs)->K x (hy L i (.row bF size bo c a aV))->l x (hy L i (.row bF size bo c a aV)))(bs:∀c bo a aV,K (.v (.slice bo c a)) (L++[.row bF size bo c a aV])->l (.v (.slice bo c a)) (L++[.row bF size bo c a aV]))(hp:y3 bF size bytes A m cap q S L K):y3 bF size bytes A m cap q S L l:=by
 cases hp with
 |c0 i xs aI e g h1 hm f k=>exact .c0 i xs aI e g h1 hm f λbo a d=>o i _ _ _ xs _ _ bo a _ e (k bo a d)
 |fresh aI aK d y g h1 hm f k=>exact .fresh aI aK d y g h1 hm f λbo a d=>bs _ bo a _ (k bo a d)
 |off i b w N p xs aI aK e u hC g h1 am hm f t s=>exact .off i b w N p xs aI aK e u hC g h1 am hm f (λj=>o i _ _ _ xs _ _ _ p _ e (t j)) (λj n a av=>bs _ (some n) a _ (s j n a av))
theorem aq6{U:cv}{t el b:Nat}{az:List aA}{x y:gu}(aJ:U.op= .call {callee:=.builtin .append,args:=#[x,y],argTypes:=#[t,t]})(hu:P.underlying t=some (.slice el))(he:De P el=some (s,b,az))(aU:jT am bh n (λcH=>∀i,fP L i->cH i=β i) (λbH j C=>K bH j C/\(∀i l,i<dz->cI L i=some l->l.isRow=false->cI j i=some l)/\C=h) next)(m:dm am bh β L h w)(r:dF n β L e a)(aX:ei L)(OD:uY dz e (.Kh t el s b az (bZ x) (bZ y))=true)(hp:gB P n (.Kh t el s b az (bZ x) (bZ y)) U.dst e L h K):U.wp P a w next Q:=by
 obtain⟨i,z,X,a7,aQ,aR,di,fV,kD⟩:=KD he;have af:=r.eval x;have aM:=r.eval y;have az':∀(d:List LE)(o:Nat)(cC:LE),(∀l,cI d o=some l->l.isRow=true)->(∀i l,i<dz->cI L i=some l->l.isRow=false->cI d i=some l)->∀i l,i<dz->cI L i=some l->l.isRow=false->cI (hy d o cC) i=some l:=by
  intro d o cC f D i l N al O;have h1:=D i l N al O;by_cases uy:i=o
  grind
  rw[ra,Jk,List.getElem?_set_ne (eh uy),<-ra];exact h1
 have G:∀(d:List LE)(cC:LE),(∀i l,i<dz->cI L i=some l->l.isRow=false->cI d i=some l)->∀i l,i<dz->cI L i=some l->l.isRow=false->cI (d++[cC]) i=some l:=by
  intro d cC D i l N al O;have h1:=D i l N al O;rw[yH,aS (oo h1)];exact h1
 have fin:∀(g:Nat->Nat)(d:List LE)(A B:Option aE)(k cap q c:Nat)(S:List aA->Prop),(∀o,fP L o->g o=β o)->(∀i,fP L i->fP d i)->(∀i l,i<dz->cI L i=some l->l.isRow=false->cI d i=some l)->dm am bh g d h w->dF n g d e a->ei d->a.eval x= .slice A k cap->a.eval y= .slice B q c->(∀aI,S aI->Bb w s B q aI)->y3 el s b A k cap q S d (λx L=>hJ n U.dst x e L h K)->U.wp P a w next Q:=by
  intro g d A B k cap q c S W M D m1 R F H Vj dy og;have Z:y3 el s b A k cap q S d (λx j=>hJ n U.dst x e j h λbH j C=>K bH j C/\(∀i l,i<dz->cI L i=some l->l.isRow=false->cI j i=some l)/\C=h):=
   aqW (λi YJ m0 aaQ xs x hx bo dI aV X bP=>Cb (au:=λj C=>(∀i l,i<dz->cI L i=some l->l.isRow=false->cI j i=some l)/\C=h) ⟨az' d i _ (λl al=>by rw[X]at al;injection al with al;subst al;rfl) D,rfl⟩ bP)
    (λhx bo dI aV bP=>Cb (au:=λj C=>(∀i l,i<dz->cI L i=some l->l.isRow=false->cI j i=some l)/\C=h) ⟨G d _ D,rfl⟩ bP) og
  obtain⟨bo,dI,gO,cH,j,bz,fm,fG,bE,gx,il,Pc⟩:=abT (P:=P) (ty:=U.type) (c:=c) hu X a7 aQ aR di fV m1 F dy Z;exact s3 (v:=.slice bo gO dI) (bz:=bz) (by simp[dD,aJ,u5,invoke,builtin,H,Vj,fm]) (kM aU (λo f=>(Pc o (M o f)).trans (W o f)) bE (R.agree Pc il) gx (x:=.v _) trivial fG)
 have app:∀(g:Nat->Nat)(d:List LE)(A:Option aE)(k cap:Nat),(∀o,fP L o->g o=β o)->(∀i,fP L i->fP d i)->(∀i l,i<dz->cI L i=some l->l.isRow=false->cI d i=some l)->dm am bh g d h w->dF n g d e a->ei d->a.eval x= .slice A k cap->a.eval y=((bZ y).get e).c g->Ju n el s b A k cap ((bZ y).get e) U.dst e d h K->U.wp P a w next Q:=by
  intro g d A k cap W M D m1 R F H Iq hw;unfold Ju at hw;split at hw;rename_i B q c E;exact fin g d A B k cap q c _ W M D m1 R F H (by rw[Iq,E];rfl) (λaI an=>aj2 m1.cJ an) hw;rename_i o off q c E;split at hw;rename_i cs ty f;split at hw;rename_i kk DE;split at hw;rename_i aI ht;obtain⟨uE,mu⟩:=sub_eq _ _ _ _ DE;have av:=D1 m1.cJ kk aI ht;have BT:Bb w s (some ⟨g o,off,none⟩) q aI:=by
   refine⟨aL,.inr ⟨_,rfl,λp v kU=>?_⟩⟩;rw[<-av,de,zc]at kU;obtain⟨u,kf,rfl⟩:=kU;rw[add_lit];refine QT m1.cJ f ?_
   grind
  exact fin g d A _ k cap q c _ W M D m1 R F H (by rw[Iq,E];rfl) (λak6 an=>aL) hw
  grind
  grind
  grind
  grind
 simp only[gB]at hp;split at hp;rename_i A k cap E;exact app β L A k cap (λ_ _=>rfl) (λ_=>id) (λ_ _ _ al _=>al) m r aX (by rw[af,E];rfl) aM hp;rename_i l k cap E;split at hp;rename_i cs ty f;cases Y:(ix cs.length (cap*s)&&qQ k cap&&ix ty el&&qQ cap 9223372036854775807)with
 |false=>grind
 |true=>
  rw[Y]at hp;simp only[iv]at Y;obtain⟨⟨⟨dO,T⟩,rN⟩,zA⟩:=Y;have dO:=rx dO;have T:=za T;have rN:=rx rN;have zA:=za zA;subst rN;simp only[pG]at hp;split at hp;rename_i aI ht;obtain⟨ca⟩:=hp;have yk:=m.hole l _ f rfl;have jF:=ca (β l) yk;have gq:=D1 m.cJ cs aI ht;have yr:=m.cJ.cJ l _ f;simp only[LE.fX,gq]at yr;obtain⟨m1,V⟩:=m.gm (cC:=.gone) f rfl rfl rfl trivial yr;have F:=aX.wd (oo f) V (λ_ _ e=>by cases e);have ev:aI.length=cap*s:=aL;have cP:k*s<=cap*s:=Nat.mul_le_mul_right s T;have j1:bw (h.put (β l) (.cells aI.toArray ty (0,0))) ty s (some ⟨β l,0,none⟩) k cap (aI.take (k*s)):=⟨aL,.inr ⟨β l,aI.toArray,rfl,J.b8 _ _ _,T,by grind [maxLen],I,rfl⟩⟩;obtain⟨rp,nx,ae,⟨rfl,rfl⟩,m2,q0,u4,sK⟩:=tW (K:=λnx ae=>nx=hy L l .gone++[.row ty s (some ⟨β l,0,none⟩) k cap (aI.take (k*s))]/\ae=en (h.put (β l) (.cells aI.toArray ty (0,0))) (some ⟨β l,0,none⟩)) (.abs ty s (some ⟨β l,0,none⟩) k cap (aI.take (k*s)) j1 (.ag ⟨rfl,rfl⟩)) β m1 F;have H8:en (h.put (β l) (.cells aI.toArray ty (0,0))) (some ⟨β l,0,none⟩)=h:=by
   funext o;simp only[en,J.del,J.put]
   grind
  rw[H8]at m2;have dS:=(r.agree (λ_ _=>rfl) V).agree sK u4;have dX:dz<=l:=by
   simp_all[uY,E]
  refine app rp _ _ k cap (λo f=>sK o (V o f)) (λo f=>u4 o (V o f)) (G _ _ λi cC N al O=>?_) m2 dS q0 (by rw[af,E];rfl) (dS.eval y) jF;rw[rb _ _ _ _ (oo f),aC I];exact al
  grind
 grind
 grind
theorem aHT{U:cv}(z:jT am bh n (λJ=>∀i,fP L i->J i=β i) (λB q p=>K B q p/\(∀i l,i<dz->cI L i=some l->l.isRow=false->cI q i=some l)/\p=h) next)(hk:yA (bW P U.op)=true)(u:uY dz e (vv (gz P ops U)).k=true)(m:dm am bh β L h w)(r:dF n β L e a)(A:ei L)(hp:iu P n (vv (gz P ops U)) e L h K):
 if ih U (mF ops a.tmps)then U.wp P a w next Q else next (a.put U.dst fS) w:=by
 have o:uY dz e (rA (bW P U.op))=true:=by
  unfold gz at u hp;split at u;exact u;rename_i H;rw[H]at hp;exact hp.elim
 refine guarded r hp ?_ (λI=>kM z (λ_ _=>rfl) m r A (x:=.v fS) trivial (Cb (au:=λq p=>(∀i l,i<dz->cI L i=some l->l.isRow=false->cI q i=some l)/\p=h) ⟨λ_ _ _ al _=>al,rfl⟩ I))
 rintro B rfl hw
 cases j:U.op with
 |call c=>
  rw[j]at hw hk o;obtain⟨N,args,M⟩:=c;cases N with
  |value f=>cases f<;>cases hk
  |invoke x y=>cases hk
  |builtin C=>
   cases C with
   |append=>
    simp only[bW]at hw hk o;split at hw;rename_i x y t iS W R;split at hw;rename_i el hu;split at hw;rename_i s C az D;split at hw;rename_i O;subst O;have F:args=#[x,y]:=aL;have G:M=#[t,t]:=aL;subst F;subst G;refine aq6 (dz:=dz) j hu D z m r A ?_ hw;simp_all[hu,D,rA]
    grind [yA]
    grind [yA]
    grind [yA]
    grind [yA]
   |_=>simp only[bW]at hk;(repeat' split at hk)<;>cases hk
 |makeFunc fn first V=>rw[j]at hk;cases fn<;>simp only[bW]at hk<;>(repeat' split at hk)<;>cases hk
 |binOp op t x y iS=>rw[j]at hk;cases op<;>simp only[bW]at hk<;>(repeat' split at hk)<;>cases hk
 |unOp op t x=>rw[j]at hk;cases op<;>simp only[bW]at hk<;>(repeat' split at hk)<;>cases hk
 |makeMap t r=>rw[j]at hk;cases r<;>cases hk
 |move x=>rw[j]at hk;cases hk
 |assign x=>rw[j]at hk;cases hk
 |pick c x y=>rw[j]at hk;cases hk
 |ready g=>rw[j]at hk;cases hk
 |waits g=>rw[j]at hk;cases hk
 |nilCheck x=>rw[j]at hk;cases hk
 |insert t m k v=>rw[j]at hk;cases hk
 |convert s d x=>rw[j]at hk;simp only[bW]at hk;(repeat' split at hk)<;>cases hk
 |sliceToArrayPointer t x=>rw[j]at hk;cases hk
 |makeInterface t x=>rw[j]at hk;cases hk
 |makeChan t x=>rw[j]at hk;cases hk
 |index t x i=>rw[j]at hk;cases hk
 |mapEntry t m k=>rw[j]at hk;cases hk
 |entryStore t m s v=>rw[j]at hk;cases hk
 |range t x=>rw[j]at hk;simp only[bW]at hk;(repeat' split at hk)<;>cases hk
 |next x b=>rw[j]at hk;simp only[bW]at hk;(repeat' split at hk)<;>cases hk
 |entry x=>rw[j]at hk;cases hk
 |typeAssert x t s b=>rw[j]at hk;cases hk
 |extract x i=>rw[j]at hk;cases hk
 |go c=>rw[j]at hk;cases hk
 |defer c=>rw[j]at hk;cases hk
 |panic x=>rw[j]at hk;cases hk
 |send c x=>rw[j]at hk;cases hk
 |recv t c b=>rw[j]at hk;cases hk
 |select cs b=>rw[j]at hk;cases hk
 |box t x=>rw[j]at hk;cases hk
 |alloc t=>rw[j]at hk;simp only[bW]at hk;(repeat' split at hk)<;>cases hk
 |buildSlice t len E=>rw[j]at hk;simp only[bW]at hk;(repeat' split at hk)<;>cases hk
 |build t E=>rw[j]at hk;simp only[bW]at hk;(repeat' split at hk)<;>cases hk
 |load t x=>rw[j]at hk;simp only[bW]at hk;(repeat' split at hk)<;>cases hk
 |store t x y=>rw[j]at hk;simp only[bW]at hk;(repeat' split at hk)<;>cases hk
 |fieldAddr t x i=>rw[j]at hk;simp only[bW]at hk;(repeat' split at hk)<;>cases hk
 |indexAddr t x i=>rw[j]at hk;simp only[bW]at hk;(repeat' split at hk)<;>cases hk
 |makeSlice t x y=>rw[j]at hk;simp only[bW]at hk;(repeat' split at hk)<;>cases hk
 |slice t x T S kJ=>rw[j]at hk;simp only[bW]at hk;(repeat' split at hk)<;>cases hk
 |field t x i=>rw[j]at hk;simp only[bW]at hk;(repeat' split at hk)<;>cases hk
 |lookup t x k b=>rw[j]at hk;simp only[bW]at hk;(repeat' split at hk)<;>cases hk
 |mapUpdate t m k v=>rw[j]at hk;simp only[bW]at hk;(repeat' split at hk)<;>cases hk
theorem ari{U:cv}{t:gv}{x y:gu}(E:U.op= .store t x y)(M:km P t=true){i off:Nat}{xs:List aN}{ty:gv}(B:(bZ x).get e= .p i off)(W:dz<=i)(d:cI L i=some (.own xs ty))(G:jT am bh n (λR=>R=β) (λO k g=>K O k g/\(∀q,q<dz->cI k q=cI L q)/\g=h) next)(m:dm am bh β L h w)(r:dF n β L e a)(s:ei L)(hp:gB P n (.store (jQ P t) (bZ x) (bZ y)) U.dst e L h K):U.wp P a w next Q:=by
 have H:=r.eval x;have F:=r.eval y;simp only[gB]at hp;split at hp;rename_i cs u;cases j:(I1 cs&&ix cs.length (jQ P t))with
 |false=>grind
 |true=>
  rw[j]at hp;simp only[iv]at j;simp only[pG,B,d]at hp;have X:cs.length=jQ P t:=rx j.2;have D:=NQ (β:=β) u;have h1:=ah5 (β:=β) j.1;split at hp;rename_i l C;have o:=m.cJ.cJ i _ d;simp only[LE.fX]at o;have J:=Mj (aN.c1 β) _ _ _ _ C;have T:=QN (P:=P) M (b:=β i) (off:=off) (ty:=ty) (v:=((bZ y).get e).c β) (w:=w) aL o aL (by rw[D];omega);have S:∀z∈l,z.ji L:=λz f=>by
   rcases WT C f with f|f;exact s i xs ty d z f;exact NR u (r.sU y) z f
  obtain⟨N,A⟩:=m.write (cC:=.own l ty) d rfl rfl rfl (ty:=ty) (cs:=l.map (aN.c1 β)) (by simp only[LE.fX];exact M0 w _ (m.lt i _ d rfl));refine MZ (bz:=wr w (β i) ty (l.map (aN.c1 β))) (by simp_all[dD,E,H,F,B,aN.c1,aN.c,Instr.storeAt,ru,T]) (kM G rfl N (r.agree (λ_ _=>rfl) A) (s.ajF (oo d) A S) (x:=.v fS) trivial (Cb (au:=λk g=>(∀q,q<dz->cI k q=cI L q)/\g=h) ⟨λq V=>?_,rfl⟩ (by rwa[ye]at hp)));rw[rb _ _ _ _ (oo d),aC I]
  grind
 grind
theorem apJ{k:mI}{x y:eC}(h:rA k= .store s x y):k= .store s x y:=by
 cases k<;>first|exact h|cases h
theorem aAZ{U:Op}{x y:eC}(h:bW P U= .store s x y):∃t a b,U= .store t a b:=by
 cases U with
 |store t a b=>exact⟨t,a,b,rfl⟩
 |call c=>
  exfalso;obtain⟨e,args,g⟩:=c;cases e with
  |builtin d=>cases d<;>simp only[bW]at h<;>(repeat' split at h)<;>cases h
  |value f=>cases f<;>simp only[bW]at h<;>(repeat' split at h)<;>cases h
  |_=>simp only[bW]at h<;>(repeat' split at h)<;>cases h
 |_=>exfalso;simp only[bW]at h;(repeat' split at h)<;>cases h
theorem aHX{U:cv}{D:List Nat}{C j c:Bool}{f:Option Nat}(F:jT am bh n (λO=>O=β) (λI o l=>K I o l/\(∀q,q<dz->cI o q=cI L q)/\l=h) next)(u:tO dz e L {U:=vv (gz P ops U),after:=D,m:=C,x:=j,y:=true,z:=c,q:=f}=true)(m:dm am bh β L h w)(r:dF n β L e a)(G:ei L)(hp:iu P n (vv (gz P ops U)) e L h K):if ih U (mF ops a.tmps)then U.wp P a w next Q else next (a.put U.dst fS) w:=by
 have hk:∃s x y i off xs ty,rA (bW P U.op)= .store s x y/\x.get e= .p i off/\dz<=i/\cI L i=some (.own xs ty):=by
  have b:tO dz e L {U:={d:=none,g:=none,k:=rA (bW P U.op)},after:=D,m:=C,x:=j,y:=true,z:=c,q:=f}=true:=by
   unfold gz at u hp;split at u;exact u;rename_i J;rw[J]at hp;exact hp.elim
  revert b;generalize rA (bW P U.op)=k;intro b;simp only[tO]at b;split at b;rename_i s x y;split at b;rename_i i off A;rw[iv]at b;obtain⟨h1,ae⟩:=b;split at ae;rename_i xs ty B;exact⟨_,_,_,_,_,_,_,rfl,A,za h1,B⟩
  grind
  grind
  grind
 obtain⟨s,X,Y,i,off,xs,ty,hk,A,S,B⟩:=hk;refine guarded r hp ?_ (λM=>kM F rfl m r G (x:=.v fS) trivial (Cb (au:=λo l=>(∀q,q<dz->cI o q=cI L q)/\l=h) ⟨λ_ _=>rfl,rfl⟩ M));rintro I rfl hw;obtain⟨t,x,y,E⟩:=aAZ (apJ hk);rw[E]at hk hw;simp only[bW]at hk hw;split at hk;rename_i H;rw[aS H]at hw;simp only[rA]at hk hw;injection hk with R N T;subst R;subst N;subst T;exact ari E H A S B F m r G hw;cases hk
section
variable {P:fk}{a:Act}{w:bD}(bJ:List wt)
def s0(Q:iw->Act->bD->Prop):iw->Act->bD->Prop:=λx a w=>∃a0:Act,a={a0 with defers:=bJ}/\Q x a0 w
theorem Cc(a:Act)(d:Option Nat)(v:aA):({a with defers:=bJ}:Act).put d v={a.put d v with defers:=bJ}:=by cases d<;>rfl
theorem aiG(a:Act)(d:Option Nat) v:(a.put d v).defers=a.defers:=by cases d<;>rfl
theorem Od(a:Act):({a with defers:=bJ}:Act).eval=a.eval:=dW
theorem aAG(h:RR Q):RR (s0 bJ Q):=by
 obtain⟨a,w,q⟩:=h;exact⟨_,w,a,rfl,q⟩
theorem WP{U:cv}{next':Act->bD->Prop}(h:U.wp P a w next Q)(b:∀a w,next a w->a.defers=[]/\next' {a with defers:=bJ} w):U.wp P {a with defers:=bJ} w next' (s0 bJ Q):=by
 unfold CL at h⊢;rw[Od];generalize(dD a.eval U).run P w=r at h;cases r with
 |ok x bz=>
  cases x with
  |value v=>rw[Oper.upon_value,Cc];exact(b _ _ h).2
  |skip=>rw[Oper.upon_skip,Cc];exact(b _ _ h).2
  |defer d=>
   have:=(b _ _ h).1;rw[aiG]at this
   grind
  |enter f args=>
   rw[J5];refine alJ h (λg c hw=>?_);cases g with
   |returned v=>
    show next' (({a with defers:=bJ}:Act).put U.dst v) c;rw[Cc];grind
   |panicked i=>exact⟨a,rfl,hw⟩
   |outgrown=>exact aAG bJ hw
  |row e args=>
   rw[Oper.upon_row];refine Rows.mono h λv c j=>?_;show next' (({a with defers:=bJ}:Act).put U.dst v) c;rw[Cc];grind
  |_=>exact h.elim
 |halt x bz=>
  cases x with
  |panic v=>exact⟨a,rfl,h⟩
  |_=>exact h.elim
end
theorem ajO(ok:EL P ops)(j:jT am bh n Any K (Q .normal)){t:sm}{f:Nat}(S:zh P cu am bh n dz ops listed a w E done e L h β)(i:CS P cu ops done t)(hp:rl P n dz Z f done t e L h K)(g:Hn .any ops listed=[]):Q .normal a w:=by
 have m:=ao0 ok S.size g;have k:E=[]:=by
  cases E with
  |nil=>rfl
  |cons x E=>
   obtain⟨i1,i2,o,d,i3,_⟩:=S.info x.1 x.2 (hq ..)
   grind
 have b:t=[]:=by
  cases t with
  |nil=>rfl
  |cons x r=>
   obtain⟨h1,cA,c,_⟩:=(i.2 x.1 x.2).1 (hq ..);exact absurd (S.sub _ (m x.1 (AK.1 c).1)) h1
 subst k;subst b;have l:K e L h:=by cases f<;>exact hp
 exact j β e L h a w trivial S.mem S.rel S.pp l
theorem Qf{i:Nat}{U:cv}(hp:iu P n (k1 P cu ops b i U) e L h K):iu P n (gz P ops U) e L h K:=by
 unfold k1 at hp;split at hp;omega;split at hp;exact asi hp;exact aaP hp
def Na(am:J)(bh:bD)(n:Nat)(Z:wQ)(Q:iw->Act->bD->Prop):Prop:=∀q v β e L h(ap a:Act) w,dm am bh β L h w->dF n β L e ap->ei L->Z q v e L h->a.defers=[]->a.tmps.size=n->(∀t,t<q->a.tmps.getD t fS=ap.tmps.getD t fS)->Q (.panic [{v:=v,recovered:=false}]) a w
theorem agu:∀(l:List cv) U,U∈l->∀d,U.dst=some d->LY l<=d
 |[],U,a,_,_=>by cases a
 |x::l,U,a,d,b=>by
  unfold LY;rcases ez.1 a with rfl|a
  grind
  have:=agu l U a d b
  grind
theorem aDD(a:Act)(d:Option Nat) v:(a.put d v).tmps.size=a.tmps.size:=by cases d<;>simp[YK]
theorem aiL{ops:Array cv}:∀E a,(iZ ops E a).tmps.size=a.tmps.size
 |[],a=>rfl
 |(i,v)::E,a=>by simp only[iZ];rw[aDD,aiL E a]
theorem aiJ{ops:Array cv}{q:Nat}(b:∀i d,nB ops i=some d->q<=d){t:Nat}(e:t<q):∀E a,(iZ ops E a).tmps.getD t fS=a.tmps.getD t fS
 |[],a=>rfl
 |(i,v)::E,a=>by
  simp only[iZ];rw[<-aiJ b e E a];cases c:nB ops i with
  |none=>rfl
  |some d=>
   have:=b i d c;simp only[YK];rw[GU,GU,Array.getElem?_setIfInBounds_ne I]
theorem aAW{P:fk}{U:Op}{a:List eC}(h:bW P U= .call f a):∃args b,U= .call {callee:=.value (.func f),args:=args,argTypes:=b}/\a=args.toList.map bZ:=by
 unfold bW at h;repeat' split at h
 all_goals first
  |(cases h;done)
  |(unfold d at h;split at h<;>(cases h;done))
  |(
   injection h with h1 ae
   rename_i c _ e av
   obtain⟨_,args,b⟩:=c
   simp only at av
   subst av;subst h1;subst ae
   exact⟨_,_,rfl,rfl⟩)
  |skip
theorem aqm(bJ:List wt){K:Act->bD->Prop}(ok:EL P ops)(S:zh P cu am bh n dz ops listed a w E done e L h β)(G:Na am bh n Z Q){i:Nat}(nK:ops[i]?=some cA){q:Nat}(c:w0 P cu ops cA=some q){y:List eC}{aI:List aA}{v:aA}(hk:(k1 P cu ops (fa ops) i cA).k= .HB f y)(j:(k1 P cu ops (fa ops) i cA).g=none)(R:pY L (y.map (eC.get e))=some aI)(C:Ew P f aI.toArray h v)(z:Z q v e L h)(H:dD (iZ ops E a).eval cA=dD a.eval cA)(I:a.defers=[]):
 if ih cA (mF ops a.tmps)then cA.wp P {a with defers:=bJ} w K (s0 bJ Q)\/(cA.asks P {a with defers:=bJ} w/\RR (s0 bJ Q))else K {a.put cA.dst fS with defers:=bJ} w:=by
 have r:(gz P ops cA).k= .call f y/\(gz P ops cA).g=none:=by
  unfold k1 at hk j;split at hk
  .rename_i u;rw[u]at j;unfold gz at hk;split at hk
   .unfold bW at hk;repeat' split at hk
    all_goals cases hk
   grind
  rename_i u;rw[u]at j;split at hk;rename_i p;exfalso;simp only[Dj]at hk;unfold Bw at p;unfold gz at hk;split at hk;split at p;rename_i vM;simp_all[vM,Fg]
  grind
  cases hk;rename_i p;rw[p]at j;simp only[vv]at hk j;refine⟨?_,j⟩;have U:∀g F,(gz P ops cA).k≠.HB g F:=by
   intro g F h;unfold gz at h;split at h
   .unfold bW at h;repeat' split at h
    all_goals cases h
   grind
  generalize(gz P ops cA).k=k at hk U;cases k<;>simp only[rA]at hk<;>cases hk<;>first|rfl|grind
 obtain⟨m,l⟩:=r
 unfold gz at m l
 cases D:yE ops cA.guard with
 |none=>grind
 |some vE=>
  rw[D]at m l;simp only at m l;subst l;have B:cA.guard=none:=by
   cases B:cA.guard with
   |none=>rfl
   |some Y=>
    obtain⟨o,b⟩:=Y;rw[B]at D
    grind [yE]
  obtain⟨args,nX,J,rfl⟩:=aAW m;have hw:ih cA (mF ops a.tmps)=true:=by simp[ih,B]
  rw[aS hw];refine .inl ?_;have O:=yL S.mem.cJ _ _ R;have X:args.map (iZ ops E a).eval=aI.toArray:=by
   rw[<-O];apply yY;simp only[AM,ig];refine ny λx _=>?_;simp only[Function.comp];exact S.rel.eval x
  have V:(dD a.eval cA).run P w= .ok (.enter f aI.toArray) w:=by
   rw[<-H];simp[dD,J,u5,invoke,X,Ry,JD,Cj C.1]
  unfold CL;rw[Od,V,J5];refine alJ (C.2 w S.mem.cJ.hw) ?_;rintro kU yT ⟨rfl,M⟩;have s:∀o d,nB ops o=some d->q<=d:=λo d A=>by
   unfold w0 at c;split at c;cases av:cu.contains _ with
   |false=>rw[av]at c;cases c
   |true=>
    rw[av]at c;injection c with c;subst c;unfold nB at A;cases N:ops[o]?with
    |none=>grind
    |some W=>
     rw[N]at A;exact agu _ W aL d A
   grind
  exact⟨a,rfl,G q v β e L h (iZ ops E a) a yT (S.mem.ext M) S.rel S.pp z I (by have:=S.rel.size;rwa[aiL]at this) λt T=>(aiJ s T E a).symm⟩
theorem aFq bJ{Z:wQ}{cu:List Nat}{dz:Nat}{ops:Array cv}{K:fZ}{Q:iw->Act->bD->Prop}(ok:EL P ops)(cF:jT am bh n Any K (Q .normal))(K0:Na am bh n Z Q):∀lr listed a w E done t f e L h β,zh P cu am bh n dz ops listed a w E done e L h β->CS P cu ops done t->rl P n dz Z f done t e L h K->(∃Hr:List Nat,Hr.length<=lr/\∀o,o<ops.size->listed.getD o false=false->o∈Hr)->MS P .any ops (s0 bJ Q) lr listed {a with defers:=bJ} w:=by
 intro lr;induction lr with
 |zero=>
  intro listed a w E done t f e L h β S T hp ⟨Hr,Oz,adC⟩;have uB:Hr=[]:=y7 I;subst uB;have aq:Hn .any ops listed=[]:=by
   cases aq:Hn .any ops listed with
   |nil=>rfl
   |cons x l=>
    have M:x∈Hn .any ops listed:=aL;obtain⟨h1,j9,ae,_⟩:=Wg.1 M
    grind
  exact⟨aq,a,rfl,ajO ok cF S T hp aq⟩
 |succ lr bI=>
  refineλlisted a w alS aqs t0 f0 dG L h β ZG Lr aey⟨Hr,Oz,adC⟩=>⟨λaq=>⟨a,rfl,ajO ok cF ZG Lr aey aq⟩,λi ai=>?_⟩;obtain⟨f,done,t,E,e,S,T,hp,aep⟩:=ZG.saturate ok f0 aqs t0 alS dG Lr aey;obtain⟨avg,cA,R,UZ⟩:=Wg.1 ai;have e':i<ops.size:=(AK.1 R).1;have Ig:i<listed.size:=aL;have avh:=asw avg;have adB:∃ZR:List Nat,ZR.length<=lr/\∀o,o<ops.size->(listed.setIfInBounds i true).getD o false=false->o∈ZR:=by
   have aJv:=adC i e' avh;refine⟨Hr.erase i,aL,λo j al=>?_⟩;have nJ:o≠i:=λe=>by simp_all
   rw[TY false (eh nJ)]at al
   grind
  have Uq:∀k,k≠i->ze ops k i->listed.getD k false=true:=λk hk FI=>by
   have av:Ev ops λo=>listed.getD o false=true\/o=i:=by
    intro o O j al x M N;rcases al with al|rfl;exact .inl (S.closed o O j al x M N)
    grind
   rcases FI _ av (.inr rfl)with p|p;omega;omega
  have auz:∀x∈E,∀t,nB ops x.1=some t->t∉cA.looksAt ops:=by
   intro x M t T hm;obtain⟨i1,i2,O,d,i3,i4,i5,_⟩:=S.info x.1 x.2 M;rw[HN i3,i4]at T;injection T with T;subst T;by_cases Lw:x.1=i;rw[Lw,R]at i3;injection i3 with i3;subst i3;obtain⟨ii,aO,aG⟩:=ok.dst i cA R i5.1
   grind
   rcases ok.A i x.1 cA O (eh Lw) R i3 d i4 hm with FI|⟨Dy,_⟩
   grind
   rw[Pq i5.1 i5.2]at Dy;cases Dy
  obtain⟨KH,abU⟩:=aiI (ops:=ops) (λcs b=>ok.Qb i cA cs b R) a E auz;unfold wpOp;rw[R];simp only[Cc];by_cases vK:i∈done;rcases S.Ca i vK with p|⟨v,ao⟩
  grind
  obtain⟨vh,hX,rfl⟩:=List.append_of_mem ao;obtain⟨i1,i2,O,d,i3,i4,i5,C,i6,i7⟩:=S.info i v ao;rw[R]at i3;injection i3 with i3;subst i3;have BM:=i7 w λhm=>i6 hm w (ajz S.mem.cJ);have b':∀x∈vh++hX,x.1≠i:=λx M=>by
   have aF:=S.nodup
   grind
  have auG:iZ ops (vh++(i,v)::hX) a=iZ ops (vh++hX) (a.put cA.dst v):=by
   rw[<-HN R];refine aiK i v a hX (λx M t T j2=>?_) vh;obtain⟨Y,W,ot,ii,fs,q5,nm,_⟩:=S.info x.1 x.2 (xN _ (gd _ M));rw[HN R]at T;rw[HN fs]at j2;rcases ok.B i x.1 cA ot (eh (b' x (xN _ M))) R fs t j2 T with p|p;rw[Pq nm.1 nm.2]at p;grind
   grind
  have s8:zh P cu am bh n dz ops (listed.setIfInBounds i true) (a.put cA.dst v) w (vh++hX) done e L h β:=by
   refine⟨by simp[S.size],S.closed.set ai Ig,S.Bo,λo j=>?_,λo j=>?_,S.Ta,?_,λo u j=>?_,S.mem,by rw[<-auG];exact S.rel,S.pp⟩;rcases(KQ Ig).1 j with rfl|j;omega;exact S.sub o j;by_cases nJ:o=i;simp_all;rcases S.Ca o j with p|⟨u,hu⟩;exact .inl ((KQ Ig).2 (.inr p))
   grind
   have aF:=S.nodup
   grind
   have ga:(o,u)∈vh++(i,v)::hX:=by
    grind
   obtain⟨Y,W,ot,ii,fs,q5,nm,C,F4,sN⟩:=S.info o u ga;refine⟨Y,?_,ot,ii,fs,q5,nm,C,F4,λbz qo=>aL⟩;rw[TY false (eh (b' _ j))];exact W
  have zI:=bI _ _ w _ done t f e L h β s8 T hp adB;unfold zb at BM;rw[KH,abU]at BM;rcases BM with⟨hw,fm⟩|⟨hw,ao⟩;rw[hw];exact .inl (s3 (by rw[Od];omega) (by rw[Cc];omega))
  grind
  have aum:∃U,(i,U)∈t/\U=({U:=k1 P cu ops (fa ops) i cA,after:=(cA.after.toList.filter (sl .any)).map (·.on),m:=qw P cu ops (fa ops) i,x:=rG P ops (fa ops) i,y:=uG ops cA,z:=rn P cu ops (fa ops) i,q:=w0 P cu ops cA}:wE):=⟨_,(T.2 i _).2 ⟨vK,cA,R,rfl⟩,rfl⟩;obtain⟨U,UY,rfl⟩:=aum;have aeC:=(aiW (done:=done) (cA:=cA)).2 λx M N=>S.sub _ (UZ x M N);have US:jd (gz P ops cA).k=false\/rG P ops (fa ops) i=true:=by
   cases ao:jd (gz P ops cA).k with
   |false=>simp
   |true=>
    refine .inr ?_;cases M:rG P ops (fa ops) i with
    |true=>rfl
    |false=>exact(aiz aep _ UY (by show(jd (k1 P cu ops (fa ops) i cA).k&& !rG P ops (fa ops) i)=true;rw[ahQ,ao,M];rfl) aeC).elim
  obtain⟨r,ff,gY,nj⟩:=aiB (pre:=[]) (by simpa using T.1) i _ UY aeC;have Uw:a.defers=[]:=by have:=S.rel.defers;rwa[Qx]at this
  have yw:(∃oc,(iu P n (k1 P cu ops (fa ops) i cA) e L h λe L h=>rl P n dz Z oc (i::done) r e L h K)/\uY dz e (k1 P cu ops (fa ops) i cA).k=true/\tO dz e L {U:=k1 P cu ops (fa ops) i cA,after:=(cA.after.toList.filter (sl .any)).map (·.on),m:=qw P cu ops (fa ops) i,x:=rG P ops (fa ops) i,y:=uG ops cA,z:=rn P cu ops (fa ops) i,q:=w0 P cu ops cA}=true)\/∃q,w0 P cu ops cA=some q/\∃(uu:mT)(lq:List eC)(aI:List aA)(v:aA),(k1 P cu ops (fa ops) i cA).k= .HB uu lq/\(k1 P cu ops (fa ops) i cA).g=none/\pY L (lq.map (eC.get e))=some aI/\Ew P uu aI.toArray h v/\Z q v e L h:=by
   cases t with
   |nil=>cases UY
   |cons x l=>
    cases f with
    |zero=>exact hp.elim
    |succ f=>
     simp only[rl,aep]at hp;have G:=Z6 hp _ ff;simp only[MY]at G;have norm:(bif uY dz e (k1 P cu ops (fa ops) i cA).k&&tO dz e L {U:=k1 P cu ops (fa ops) i cA,after:=(cA.after.toList.filter (sl .any)).map (·.on),m:=qw P cu ops (fa ops) i,x:=rG P ops (fa ops) i,y:=uG ops cA,z:=rn P cu ops (fa ops) i,q:=w0 P cu ops cA}then iu P n (k1 P cu ops (fa ops) i cA) e L h (λe L h=>rl P n dz Z f (i::done) r e L h K)else False)->∃oc,(iu P n (k1 P cu ops (fa ops) i cA) e L h λe L h=>rl P n dz Z oc (i::done) r e L h K)/\uY dz e (k1 P cu ops (fa ops) i cA).k=true/\tO dz e L {U:=k1 P cu ops (fa ops) i cA,after:=(cA.after.toList.filter (sl .any)).map (·.on),m:=qw P cu ops (fa ops) i,x:=rG P ops (fa ops) i,y:=uG ops cA,z:=rn P cu ops (fa ops) i,q:=w0 P cu ops cA}=true:=by
      intro G;cases N:uY dz e (k1 P cu ops (fa ops) i cA).k with
      |false=>grind
      |true=>
       rw[N]at G;cases eM:tO dz e L {U:=k1 P cu ops (fa ops) i cA,after:=(cA.after.toList.filter (sl .any)).map (·.on),m:=qw P cu ops (fa ops) i,x:=rG P ops (fa ops) i,y:=uG ops cA,z:=rn P cu ops (fa ops) i,q:=w0 P cu ops cA}with
       |false=>grind
       |true=>rw[eM]at G;exact⟨f,G,rfl,rfl⟩
     cases w8:w0 P cu ops cA with
     |none=>simp_all
     |some q=>
      rw[w8]at G norm;cases G with
      |go k=>simp_all
      |die uu lq aI v hk ak ao ar z=>grind
  rcases yw with yw|⟨q,w8,uu,lq,aI,v,hk,ak,ao,ar,z⟩;case inr=>exact aqm bJ ok S K0 R w8 hk ak ao ar z KH Uw
  obtain⟨oc,mv,adK,avz⟩:=yw;have FQ:CS P cu ops (i::done) r:=T.step gY aL;have Uy:∀x∈E,∀t,cA.dst=some t->nB ops x.1≠some t:=by
   intro x M t T j2;obtain⟨Y,W,ot,ii,fs,q5,nm,_⟩:=S.info x.1 x.2 M;have Lw:x.1≠i:=λe=>vK aL;rw[HN fs]at j2;rcases ok.B x.1 i ot cA Lw fs R t T j2 with⟨_,p⟩|⟨p,_⟩
   grind
   rw[Pq nm.1 nm.2]at p;cases p
  have step:∀(qM:fZ)(C:(Nat->Nat)->Prop),(∀J D F,qM J D F->rl P n dz Z oc (i::done) r J D F K)->(∀H J D F,C H->qM J D F->∀o u,(o,u)∈E->∀O,ops[o]?=some O->sM (bW P O.op)=true->listed.getD o false=false->o∈done->∀bz,lg H (uV (qw P cu ops (fa ops) o) dz D) (tL (rn P cu ops (fa ops) o) F) bz->lg β (uV (qw P cu ops (fa ops) o) dz L) (tL (rn P cu ops (fa ops) o) h) bz)->(∀(next':Act->bD->Prop),jT am bh n C qM next'->if ih cA (mF ops (iZ ops E a).tmps)then cA.wp P (iZ ops E a) w next' (λ_ _ _=>False)else next' ((iZ ops E a).put cA.dst fS) w)->
   if ih cA (mF ops a.tmps)then cA.wp P {a with defers:=bJ} w (MS P .any ops (s0 bJ Q) lr (listed.setIfInBounds i true)) (s0 bJ Q)\/(cA.asks P {a with defers:=bJ} w/\RR (s0 bJ Q))else MS P .any ops (s0 bJ Q) lr (listed.setIfInBounds i true) {a.put cA.dst fS with defers:=bJ} w:=by
   intro qM C as5 atT fm
   have yt:jT am bh n C qM λZ1 bz=>∀(eV:Act)(v:aA),eV.tmps=a.tmps->iZ ops E (eV.put cA.dst v)=Z1->(eV.put cA.dst v).defers=[]/\MS P .any ops (s0 bJ Q) lr (listed.setIfInBounds i true) {eV.put cA.dst v with defers:=bJ} bz:=by
    rintro H J D F Z1 bz hC bE dY gx V eV v aeK rfl;have gy:eV=a:=by
     have h1:=dY.defers;rw[Qx]at h1;have ae:eV.defers=[]:=by
      cases ar:cA.dst<;>rw[ar]at h1<;>exact h1
     cases eV;cases a;simp_all
    subst gy;have zM:=Mp (ops:=ops) cA.dst v eV E Uy;refine⟨by rw[aiG];omega,(bI _ _ bz E (i::done) r oc J D F H ⟨by simp[S.size],S.closed.set ai Ig,?_,λo j=>?_,λo j=>?_,λo j=>?_,S.nodup,λo u j=>?_,bE,dY,gx⟩ FQ (as5 _ _ _ V) adB)⟩;intro o O j yl x M N;rcases ez.1 yl with rfl|yl;rw[R]at j;injection j with j;subst j;exact gd _ (S.sub _ (UZ x M N));exact gd _ (S.Bo o O j yl x M N);rcases(KQ Ig).1 j with rfl|j;simp;exact gd _ (S.sub o j);rcases ez.1 j with rfl|j;simp_all;rcases S.Ca o j with p|p;exact .inl ((KQ Ig).2 (.inr p))
    grind
    rcases ez.1 j with rfl|j;omega;exact S.Ta o j;obtain⟨Y,W,ot,ii,fs,q5,nm,alI,F4,sN⟩:=S.info o u j;have nJ:o≠i:=λe=>vK aL;refine⟨gd _ Y,by rw[TY false (eh nJ)];exact W,ot,ii,fs,q5,nm,alI,λhm bz an=>F4 hm bz (atT H J D F hC V o u j ot fs hm W Y bz an),λbz qo=>?_⟩;have BM:=sN bz qo;have vO:∀t,cA.dst=some t->t∉ot.looksAt ops:=by
     intro t T hm;rcases ok.A o i ot cA nJ fs R t T hm with FI|⟨_,FI⟩;exact vK (FI _ S.Bo Y)
     grind
    unfold zb at BM⊢;rw[zM,Tq (ops:=ops) ot (λcs b=>ok.Qb o ot cs b fs) _ _ _ vO,Yu (ops:=ops) ot _ _ _ vO];omega
   have BE:=fm _ yt
   rw[abU]at BE
   split
   rename_i hw
   rw[aS hw]at BE
   exact .inl (WP bJ (aH1 (next:=λa w=>a.defers=[]/\MS P .any ops (s0 bJ Q) lr (listed.setIfInBounds i true) {a with defers:=bJ} w) KH Uy (λv cS gE aeK p=>p cS v aeK rfl) BE) λ_ _ q=>q)
   rename_i hw
   rw[aC hw]at BE
   exact(BE a fS rfl (Mp _ _ _ _ Uy)).2
  cases KZ:jd (gz P ops cA).k with
  |true=>
   have pe:jd (bW P cA.op)=true:=by
    unfold gz at KZ;split at KZ;omega;cases KZ
   obtain⟨d,ar,_⟩:=ok.dst i cA R pe;obtain⟨_,bL,aO,aG,bt,cp⟩:=alf S.mem.cJ S.rel S.pp KZ ar (Qf mv);refine step (λJ D F=>rl P n dz Z oc (i::done) r J D F K/\D=L/\F=h) (λH=>H=β) (λJ D F V=>V.1) ?_ (λnext' X=>?_)
   grind
   have aF:=X β (jR e d bL) L h ((iZ ops E a).put cA.dst (bL.c β)) w rfl S.mem (by rw[ar];exact S.rel.put bt aG) S.pp ⟨aO,rfl,rfl⟩;rcases cp w λ_=>S.mem.cJ with⟨hw,fm⟩|⟨hw,ao⟩;rw[aS hw];exact s3 fm aF
   grind
  |false=>
   have Dy:jd (bW P cA.op)=false\/False:=by
    have US:=KZ;unfold gz at US;split at US
    grind
    rename_i ak;have mv:=Qf mv;unfold gz at mv;rw[ak]at mv;exact mv.elim
   have Dy:=Dy.resolve_right id;cases xb:F1 (bW P cA.op)with
  |true=>
   have avr:iu P n (gz P ops cA) e L h λe L h=>rl P n dz Z oc (i::done) r e L h K:=Qf mv;refine step _ (λH=>∀i,i<L.length->H i=β i) (λJ D F V=>V.1) ?_ (λnext' X=>aHW (λ_ p=>p) X xb S.mem S.rel S.pp (aHS xb avr));rintro H J D F lI ⟨_,al,rfl⟩ o u j O BN hm zG qm bz;have aer:∀q l,cI L q=some l->cI D q=some l:=λq l G=>by
    rcases al with rfl|⟨x,rfl⟩;omega;rw[yH,aS (oo G)];exact G
   have DD:∀q l,cI L q=some l->l.fX H q bz->l.fX β q bz:=λq l G an=>by
    have N:=lI q (oo G);cases l with
    |own cs ty=>simp only[LE.fX]at an⊢;rw[<-N,<-HG (S.pp q cs ty G) (λi ai=>lI i (QB ai))];exact an
    |b5 b=>simp only[LE.fX]at an⊢;omega
    |row=>simp only[LE.fX]at an⊢;grind
    |map=>simp only[LE.fX]at an⊢;grind
    |gone=>trivial
   cases qw P cu ops (fa ops) o with
   |false=>exactλs=>⟨s.hw,λq l G=>DD q l G (s.cJ q l (aer q l G))⟩
   |true=>
    intro s;obtain⟨s1,s2⟩:=As.1 s;exact As.2 ⟨s1,λq l FJ G aq=>DD q l G (s2 q l FJ (aer q l G) aq)⟩
  |false=>
   have other:(yA (bW P cA.op)=false)->(LF (bW P cA.op)=false)->uG ops cA=false->∀o u,(o,u)∈E->∀O,ops[o]?=some O->sM (bW P O.op)=true->False:=by
    intro aZ av aM o u j O BN hm;obtain⟨Y,W,aKf,ii,fs,q5,nm,_⟩:=S.info o u j;have nJ:o≠i:=λe=>vK aL;rcases ok.C o i O cA nJ BN R hm nm.2 with p|p|p|p|p|p|p
    grind
    grind
    grind
    grind
    grind
    grind
    exact vK (p _ S.Bo Y)
   cases jZ:alone P cu ops (fa ops) i cA with
   |true=>
    refine step _ Any (λJ D F V=>V) ?_ (λnext' X=>MU X S.mem S.rel S.pp (Qf mv));intro H J D F _ _ o u j O BN hm zG qm;obtain⟨Y,W,_⟩:=S.info o u j;have nJ:o≠i:=λe=>vK aL;unfold alone at jZ;simp only[iv,se,vl,JA,beq_iff_eq]at jZ;rcases jZ.2 o (AK.1 BN).1 with p|p;omega;rw[BN]at p;simp only[hm,Bool.not_true,ve,false_or,JA]at p;rcases p with p|p;exact absurd (wW ops p _ S.Bo Y) vK;rw[Uq o nJ (wW ops p)]at W;cases W
   |false=>
    have acD:(yA (bW P cA.op)||Bw P cu cA||uG ops cA)=true->∀o u,(o,u)∈E->qw P cu ops (fa ops) o=true:=by
     intro M o u j;obtain⟨Y,W,_⟩:=S.info o u j;have nJ:o≠i:=λe=>vK aL;unfold qw;rw[RU];refine⟨i,vl.2 e',?_⟩;rw[R];simp only[M,AP,iv,yZ];constructor;cases N:((fa ops).getD i 0).testBit o with
     |false=>rfl
     |true=>rw[Uq o nJ (wW ops N)]at W;cases W
     cases N:((fa ops).getD o 0).testBit i with
     |false=>rfl
     |true=>exact absurd (wW ops N _ S.Bo Y) vK
    cases ad5:Bw P cu cA with
   |true=>
    have H4:k1 P cu ops (fa ops) i cA=Dj (gz P ops cA):=by unfold k1;grind
    rw[H4]at mv;refine step _ (λH=>H=β) (λJ D F V=>V.1) ?_ (λnext' X=>aHV X ad5 S.mem S.rel S.pp mv);rintro H J D F rfl ⟨_,rfl⟩ o u j O BN hm zG qm bz s;have a7:rn P cu ops (fa ops) o=true:=by
     obtain⟨Y,W,_⟩:=S.info o u j;have nJ:o≠i:=λe=>vK aL;unfold rn;rw[RU];refine⟨i,vl.2 e',?_⟩;rw[R];simp only[ad5,AP,iv,yZ];constructor;cases N:((fa ops).getD i 0).testBit o with
     |false=>rfl
     |true=>rw[Uq o nJ (wW ops N)]at W;cases W
     cases N:((fa ops).getD o 0).testBit i with
     |false=>rfl
     |true=>exact absurd (wW ops N _ S.Bo Y) vK
    rw[a7]at s⊢;exact s
   |false=>
    have H4:k1 P cu ops (fa ops) i cA=vv (gz P ops cA):=by unfold k1;grind
    rw[H4]at mv adK;cases ato:yA (bW P cA.op)with
   |true=>
    refine step _ (λH=>∀i,fP L i->H i=β i) (λJ D F V=>V.1) ?_ (λnext' X=>aHT X ato adK S.mem S.rel S.pp mv);rintro H J D F lI ⟨_,al,rfl⟩ o u j O BN hm zG qm bz s;have UD:=acD aL o u j;rw[UD]at s⊢;obtain⟨s1,s2⟩:=As.1 s;refine As.2 ⟨s1,λq l FJ G aq=>?_⟩;have an:=s2 q l FJ (al q l FJ G aq) aq;have N:=lI q ⟨l,G,aq⟩;cases l with
    |own cs ty=>simp only[LE.fX]at an⊢;rw[<-N,<-HG (S.pp q cs ty G) lI];exact an
    |b5 b=>simp only[LE.fX]at an⊢;omega
    |row=>cases aq
    |map=>simp only[LE.fX]at an⊢;grind
    |gone=>trivial
   |false=>
    cases atG:LF (bW P cA.op)with
    |true=>
     refine step _ (λH=>H=β) (λJ D F V=>V.1) ?_ (λnext' X=>aHU X atG S.mem S.rel S.pp mv);rintro H J D F rfl ⟨_,KA⟩ o u j O BN hm zG qm bz s;exact KA _ _ _ _ aIk s
    |false=>
     cases avA:uG ops cA with
     |true=>
      refine step _ (λH=>H=β) (λJ D F V=>V.1) ?_ (λnext' X=>aHX X (by rw[H4,avA]at avz;omega) S.mem S.rel S.pp mv);rintro H J D F rfl ⟨_,al,rfl⟩ o u j O BN hm zG qm bz s;have UD:=acD aL o u j;rw[UD]at s⊢;obtain⟨s1,s2⟩:=As.1 s;exact As.2 ⟨s1,λq l FJ G aq=>s2 q l FJ aL aq⟩
     |false=>
      refine step _ Any (λJ D F V=>V) ?_ (λnext' X=>MU X S.mem S.rel S.pp (aaP mv))
      grind
theorem ahH{α:Type}:∀(l:List α) k i x,(i,x)∈Gg l k↔k<=i/\l[i-k]?=some x
 |[],k,i,x=>by simp[Gg]
 |y::l,k,i,x=>by
  simp only[Gg,ez,Hk,ahH l (k+1) i x]
  grind
theorem agL(cu:List Nat)(ops:Array cv)(b:Array Nat):∀(l:List cv)(k i:Nat),(L2 P cu ops b l k)[i]?=(l[i]?).map λU=>({U:=k1 P cu ops b (k+i) U,after:=(U.after.toList.filter (sl .any)).map (·.on),m:=qw P cu ops b (k+i),x:=rG P ops b (k+i),y:=uG ops U,z:=rn P cu ops b (k+i),q:=w0 P cu ops U}:wE)
 |[],k,i=>by rfl
 |U::l,k,0=>by rfl
 |U::l,k,i+1=>by
  simp only[L2,List.getElem?_cons_succ,agL cu ops b l (k+1) i]
  grind
theorem ahG{α:Type}:∀(l:List α)(k:Nat),(Gg l k).map (·.1)=List.range' k l.length
 |[],k=>rfl
 |y::l,k=>by simp only[Gg,er,ahG l (k+1),iJ,List.range'_succ]
theorem aCm bJ{Z:wQ}{cu:List Nat}{ops:Array cv}{K:fZ}{Q:iw->Act->bD->Prop}(d:Qe P ops=true)(g:jT am bh n Any K (Q .normal))(c:Na am bh n Z Q)(m:dm am bh β L h w)(r:dF n β L e a)(f:ei L)(hp:Yy P n (W6 (L2 P cu ops (fa ops) ops.toList 0)) e L h K Z):MS P .any ops (s0 bJ Q) ops.size (YM ops.size false) {a with defers:=bJ} {w with drawn:=w.drawn+1}:=by
 rw[Yy,W6,Yx]at hp;have ok:=aCl d;have k:∀o,(YM ops.size false).getD o false=false:=λo=>getD_replicate_false _ _;refine aFq bJ (cu:=cu) ok g c ops.size _ a _ [] [] _ _ e L h β ?_ ?_ hp ?_;refine⟨bc,λo j b al=>?_,λo j b al=>(by cases al),λo b=>?_,λo b=>(by cases b),λo b=>(by cases b),bc,λo v b=>(by cases b),?_,r,f⟩
 grind
 grind
 exact⟨⟨m.cJ.hw,m.cJ.cJ⟩,m.hole,m.inj,m.lt,m.df,m.os,m.tape,m.output,m.size,m.frame,m.fresh⟩;refine⟨?_,λi U=>?_⟩;unfold idx;rw[ahG]
 grind
 rw[ahH];simp only[Nat.zero_le,true_and,Nat.sub_zero,agL,dZ,zc,List.not_mem_nil,not_false_eq_true,AL]
 grind
 exact⟨fJ ops.size,bc,λo b _=>vl.2 b⟩
end
end Go.Sx
namespace Go.Sx
open Go.RowKit
set_option maxRecDepth 100000
set_option maxHeartbeats 0
set_option linter.all false
variable {fn:Func}{h:J}{cu:List Nat}{args:List aA}
abbrev mi:=iw->cg->List LE->J->Prop
def Av(e:cg)(c:eC)(b:Bool):cg:=match c with
 |.t t=>jR e t (.v (.bool b))
 |_=>e
def Qi(L:List LE):aN->Bool
 |.p i _|.s i _ _ _|.m i=>(match cI L i with|some (.row ..)=>false|some _=>true|none=>false)
 |_=>true
def my(L:List LE):aN->Bool
 |.a xs=>xs.all (Qi L)
 |x=>Qi L x
def Gj(L:List LE):List LE->Bool
 |[]=>true
 |.own cs _::r=>cs.all (Qi L)&&Gj L r
 |_::r=>Gj L r
def rV(perm:List Nat)(i:Nat):Nat:=match cI perm i with|some o=>o|none=>0
def QC(perm:List Nat):aN->aN
 |.v x=>.v x
 |.p i off=>.p (rV perm i) off
 |.s i off len cap=>.s (rV perm i) off len cap
 |.m i=>.m (rV perm i)
 |.a _=>.v fS
def sW(perm:List Nat):aN->aN
 |.a xs=>.a (xs.map (QC perm))
 |x=>QC perm x
def oS(perm:List Nat):LE->LE
 |.own cs ty=>.own (cs.map (QC perm)) ty
 |l=>l
def rf(L:List LE):List Nat->Option (List LE)
 |[]=>some []
 |i::r=>match cI L i,rf L r with|some l,some k=>some (l::k)|_,_=>none
def vy:List Nat->Bool
 |[]=>true
 |i::r=>!Gd r i&&vy r
def Mv(L:List LE)(x:aN):aN:=match Ao L x with
 |some v=>.v v
 |none=>x
abbrev AW{X:Type}(b:X->List aN)(a:X->List LE):Prop:=∀x,((b x).all (my (a x))&&Gj (a x) (a x))=true
abbrev anu(B:mi->cg->List LE->J->Prop)(Q:mi){X:Type}(g:List Nat)(i:X->List aN)(b:X->List LE)(au:X->J->Prop)(j:X->Nat):Prop:=∀x e h,au x h->B (λex f d c=>match ex with
 |.normal=>∃a,g.map f=i a/\d.take (b a).length=b a/\au a c/\j a<j x
 |ex=>Q ex f d c) (mE e g (i x)) (b x) h
abbrev anv(B:mi->cg->List LE->J->Prop)(Q:mi){X:Type}(g:List Nat)(i:X->List aN)(d:X->List LE)(au:X->J->Prop)(j:X->Nat):Prop:=∀x e h,au x h->hL (λL h=>B (λex f c b=>match ex with
 |.normal=>hL (λc b=>∃a,g.map f=i a/\c.take (d a).length=d a/\au a b/\j a<j x) c b
 |ex=>Q ex f c b) (mE e g (i x)) L h) (d x) h
inductive jk(B:mi->cg->List LE->J->Prop)(Q:mi)(e:cg)(L:List LE)(h:J):Prop
 |mk (X:Type) (e1:List Nat) (e2:X->List aN) (eK:X->List LE) (au:X->J->Prop) (hR:X->Nat) (eH:X)
  (e7:AW e2 eK)
  (am:au eH h) (he:e1.map e=e2 eH) (aX:L.take (eK eH).length=eK eH)
  (mB:∀x e h,au x h->B (λex bH bB aa=>match ex with
   |.normal=>∃dQ,e1.map bH=e2 dQ/\bB.take (eK dQ).length=eK dQ/\au dQ aa/\hR dQ<hR x
   |ex=>Q ex bH bB aa) (mE e e1 (e2 x)) (eK x) h)
 |yG (perm:List Nat) (X:Type) (e1:List Nat) (e2:X->List aN) (eK:X->List LE) (au:X->J->Prop) (hR:X->Nat) (eH:X)
  (e7:AW e2 eK)
  (am:au eH h) (he:e1.map e=(e2 eH).map (sW perm)) (ar:vy perm=true) (aX:rf L perm=some ((eK eH).map (oS perm)))
  (mB:∀x e h,au x h->B (λex bH bB aa=>match ex with
   |.normal=>∃dQ,e1.map bH=e2 dQ/\bB.take (eK dQ).length=eK dQ/\au dQ aa/\hR dQ<hR x
   |ex=>Q ex bH bB aa) (mE e e1 (e2 x)) (eK x) h)
 |mb (perm:List Nat) (X:Type) (e1:List Nat) (e2:X->List aN) (eK:X->List LE) (au:X->J->Prop) (hR:X->Nat) (eH:X)
  (e7:AW e2 eK)
  (am:au eH h) (he:e1.map e=(e2 eH).map (sW perm)) (ar:vy perm=true) (aX:rf L perm=some ((eK eH).map (oS perm)))
  (mB:∀x e h,au x h->hL (λL h=>B (λex bH bB aa=>match ex with
   |.normal=>hL (λbB aa=>∃dQ,e1.map bH=e2 dQ/\bB.take (eK dQ).length=eK dQ/\au dQ aa/\hR dQ<hR x) bB aa
   |ex=>Q ex bH bB aa) (mE e e1 (e2 x)) L h) (eK x) h)
 |ag7 (perm:List Nat) (X:Type) (e1:List Nat) (e2:X->List aN) (eK:X->List LE) (au:X->J->Prop) (hR:X->Nat) (eH:X)
  (e7:AW e2 eK)
  (am:au eH h) (he:e1.map (λs=>Mv L (e s))=(e2 eH).map (sW perm)) (ar:vy perm=true) (aX:rf L perm=some ((eK eH).map (oS perm)))
  (mB:∀x e h,au x h->hL (λL h=>B (λex bH bB aa=>match ex with
   |.normal=>hL (λbB aa=>∃dQ,e1.map bH=e2 dQ/\bB.take (eK dQ).length=eK dQ/\au dQ aa/\hR dQ<hR x) bB aa
   |ex=>Q ex bH bB aa) (mE e e1 (e2 x)) L h) (eK x) h)
inductive ww(B:mi->cg->List LE->J->Prop)(Q:mi)(e:cg)(L:List LE)(h:J):Prop
 |mk (X:Type) (e1:List Nat) (e2:X->List aN) (eK:X->List LE) (au:X->J->Prop) (hR:X->Nat) (eH:X)
  (e7:AW e2 eK)
  (am:au eH h) (he:e1.map e=e2 eH) (aX:L.take (eK eH).length=eK eH)
  (mB:∀x e h,au x h->B (λex bH bB aa=>match ex with
   |.normal=>∃dQ,e1.map bH=e2 dQ/\bB.take (eK dQ).length=eK dQ/\au dQ aa/\hR dQ<hR x
   |ex=>Q ex bH bB aa) (mE e e1 (e2 x)) (eK x) h)
 |yG (perm:List Nat) (X:Type) (e1:List Nat) (e2:X->List aN) (eK:X->List LE) (au:X->J->Prop) (hR:X->Nat) (eH:X)
  (e7:AW e2 eK)
  (am:au eH h) (he:e1.map e=(e2 eH).map (sW perm)) (ar:vy perm=true) (aX:rf L perm=some ((eK eH).map (oS perm)))
  (mB:∀x e h,au x h->B (λex bH bB aa=>match ex with
   |.normal=>∃dQ,e1.map bH=e2 dQ/\bB.take (eK dQ).length=eK dQ/\au dQ aa/\hR dQ<hR x
   |ex=>Q ex bH bB aa) (mE e e1 (e2 x)) (eK x) h)
 |mb (perm:List Nat) (X:Type) (e1:List Nat) (e2:X->List aN) (eK:X->List LE) (au:X->J->Prop) (hR:X->Nat) (eH:X)
  (e7:AW e2 eK)
  (am:au eH h) (he:e1.map e=(e2 eH).map (sW perm)) (ar:vy perm=true) (aX:rf L perm=some ((eK eH).map (oS perm)))
  (mB:∀x e h,au x h->hL (λL h=>B (λex bH bB aa=>match ex with
   |.normal=>hL (λbB aa=>∃dQ,e1.map bH=e2 dQ/\bB.take (eK dQ).length=eK dQ/\au dQ aa/\hR dQ<hR x) bB aa
   |ex=>Q ex bH bB aa) (mE e e1 (e2 x)) L h) (eK x) h)
 |Xc (xs:List aN) (x:nt 40 xs (λL h=>jk B Q e L h) L h)
 |jG (x:hL (λL h=>jk B Q e L h) L h)
theorem aiD xs{K c:List LE->J->Prop}(e:∀L h,K L h->c L h):∀a L h,nt a xs K L h->nt a xs c L h
 |0,_,_,hp=>hp.elim
 |a+1,L,h,hp=>by
  simp only[nt]at hp⊢;split at hp
  grind
  split at hp;omega;split at hp;split at hp;obtain⟨k⟩:=hp;refine⟨λb d=>?_⟩;have:=k b d;rw[ye]at this⊢;exact aiD xs e a _ _ this;omega;omega
theorem ww.norm{B:mi->cg->List LE->J->Prop}{Q:mi}{e:cg}{L:List LE}(x:ww B Q e L h):∃xs,nt 40 xs (λL h=>hL (λL h=>jk B Q e L h) L h) L h:=by
 have nil:jk B Q e L h->∃xs,nt 40 xs (λL h=>hL (λL h=>jk B Q e L h) L h) L h:=λy=>⟨[],.ag y⟩;cases x with
 |mk X a b f au g d c j he k i=>exact nil (.mk X a b f au g d c j he k i)
 |yG perm X a b f au g d c j he l k i=>exact nil (.yG perm X a b f au g d c j he l k i)
 |mb perm X a b f au g d c j he l k i=>exact nil (.mb perm X a b f au g d c j he l k i)
 |Xc xs y=>exact⟨xs,aiD xs (λ_ _ z=>.ag z) _ _ _ y⟩
 |jG y=>exact⟨[],y⟩
def dq(P:fk)(n:Nat):IR->mi->cg->List LE->J->Prop
 |.skip,Q,e,L,h=>Q .normal e L h
 |.ck ops,Q,e,L,h=>wpOps P n ops e L h (Q .normal)
 |.Af ops,Q,e,L,h=>Yy P n ops e L h (Q .normal) λq v e L h=>∀d,(∀t,t<q->d t=e t)->Q (.panic [{v:=v,recovered:=false}]) d L h
 |.seq a b,Q,e,L,h=>dq P n a (λx e L h=>match x with|.normal=>dq P n b Q e L h|x=>Q x e L h) e L h
 |.cond c x y,Q,e,L,h=>(match c.get e with
  |.v (.bool b)=>gw b (dq P n x Q (Av e c true) L h) (dq P n y Q (Av e c false) L h)
  |_=>False)
 |.block id b,Q,e,L,h=>dq P n b (λx e L h=>match x with|.exit o=>bif ix o id then Q .normal e L h else Q (.exit o) e L h|x=>Q x e L h) e L h
 |.loop b,Q,e,L,h=>ww (λQ e L h=>dq P n b Q e L h) Q e L h
 |.exit id,Q,e,L,h=>Q (.exit id) e L h
 |.label,Q,e,L,h=>Q .normal e L h
 |.ret,Q,e,L,h=>Q .ret e L h
 |.scope b,Q,e,L,h=>dq P n b (λx e L h=>match x with|.goto _=>False|x=>Q x e L h) e L h
 |_,_,_,_,_=>False
section
variable {P:fk}{am:J}{bh:bD}{n:Nat}{β:Nat->Nat}{L:List LE}{h:J}{e:cg}{a:Act}{w:bD}
def lift(am:J)(bh:bD)(n:Nat)(Q:mi):iw->Act->bD->Prop:=λx a w=>∃β e L h,dm am bh β L h w/\dF n β L e a/\ei L/\Q x e L h
theorem Mc{x:aN}(a:Qi L x=true):x.ji L:=by
 have key:∀i,(match cI L i with|some (LE.row ..)=>false|some _=>true|none=>false)=true->fP L i:=λi b=>by
  split at b
  grind
  rename_i l c al;refine⟨l,al,?_⟩;cases l<;>first|rfl|grind
  grind
 cases x<;>first|trivial|exact key _ a
theorem ahT{x:aN}(b:my L x=true):x.ok L:=by
 cases x with
 |a xs=>exactλy d=>Mc (se.1 b y d)
 |v y=>trivial
 |p i U=>exact Mc (x:=.p i U) b
 |s i U l c=>exact Mc (x:=.s i U l c) b
 |m i=>exact Mc (x:=.m i) b
theorem ahU:∀r,Gj L r=true->∀cs ty,LE.own cs ty∈r->∀x∈cs,x.ji L
 |[],_,cs,ty,hm,_,_=>by cases hm
 |l::r,a,cs,ty,hm,x,b=>by
  cases hm with
  |head=>
   simp only[Gj,iv]at a;exact Mc (se.1 a.1 x b)
  |tail _ hm=>
   refine ahU r ?_ cs ty hm x b;cases l<;>simp only[Gj,iv]at a<;>first|grind|exact a
theorem ahW(a:Gj L L=true):ei L:=λi cs ty c x b=>ahU L a cs ty (by rw[ra]at c;grind) x b
theorem dm.trim(m:dm am bh β L h w) k:dm am bh β (L.take k) h w:=by
 have a:∀i l,cI (L.take k) i=some l->cI L i=some l:=λi l al=>by
  rw[ra,G7]at al;split at al;rw[ra];exact al
  grind
 exact⟨⟨m.cJ.hw,λi l al=>m.cJ.cJ i l (a i l al)⟩,λi l al=>m.hole i l (a i l al),λi o l cC al b=>m.inj i o l cC (a i l al) (a o cC b),λi l al=>m.lt i l (a i l al),λi l al=>m.df i l (a i l al),m.os,m.tape,m.output,m.size,m.frame,m.fresh⟩
theorem ak3(a e:cg):∀b t,mE a b (b.map e) t=e t\/mE a b (b.map e) t=a t
 |[],t=>.inr rfl
 |d::bJ,t=>by
  simp only[er,mE];rcases ak3 (jR a d (e d)) e bJ t with c|c
  grind
  rw[c];unfold jR;cases f:ix t d with
  |true=>simp_all
  |false=>simp
theorem Yo{a:List LE}(b:cg)(am:∀t,(b t).ok a):∀(f:List Nat)(xs:List aN)(_:∀x∈xs,x.ok a)(t:Nat),(mE b f xs t).ok a
 |[],xs,_,t=>by cases xs<;>exact am t
 |d::bJ,[],_,t=>am t
 |d::bJ,x::xs,e,t=>by
  simp only[mE];refine Yo (jR b d x) (λt=>?_) bJ xs (λy c=>e y (gd _ c)) t;unfold jR
  grind
theorem dF.forget(r:dF n β L e a){b:List Nat}{xs:List aN}(c:b.map e=xs){d:List LE}(g:xs.all (my d)=true):dF n β d (mE (λt=>.v (a.tmps.getD t fS)) b xs) a:=by
 refine⟨r.defers,r.size,λt=>?_,λt=>Yo (λt=>.v (a.tmps.getD t fS)) (λ_=>trivial) b xs (λx c=>ahT (se.1 g x c)) t⟩;subst c;rcases ak3 (λt=>.v (a.tmps.getD t fS)) e b t with f|f<;>rw[f];exact r.env t;rfl
theorem aaE β perm x:(QC perm x).c1 β=x.c1 λi=>β (rV perm i):=by
 cases x<;>rfl
theorem apC β perm x:(sW perm x).c β=x.c λi=>β (rV perm i):=by
 cases x with
 |a xs=>
  show Kd _=Kd _;rw[ig];congr 2;exact ny λy _=>aaE β perm y
 |_=>rfl
theorem aiy{L:List LE}:∀{perm:List Nat}{K:List LE},rf L perm=some K->∀i l,cI K i=some l->∃o,cI perm i=some o/\cI L o=some l
 |[],K,h,i,l,al=>by injection h with h;subst h;cases al
 |p::perm,K,h,i,l,al=>by
  simp only[rf]at h;split at h;rename_i q k h1 ae;injection h with h;subst h;cases i with
  |zero=>injection al with al;subst al;exact⟨p,rfl,h1⟩
  |succ i=>exact aiy ae i l al
  grind
theorem abl:∀{perm:List Nat},vy perm=true->∀i o a,cI perm i=some a->cI perm o=some a->i=o
 |[],_,i,o,a,h,_=>by cases h
 |p::perm,b,i,o,a,h1,ae=>by
  simp only[vy,iv,yZ]at b;have no:∀k,cI perm k=some p->False:=λk hk=>by
   have:Gd perm p=true:=ag2.2 (by rw[ra]at hk;grind)
   grind
  cases i with
  |zero=>
   cases o with
   |zero=>rfl
   |succ o=>injection h1 with h1;subst h1;exact(no o ae).elim
  |succ i=>
   cases o with
   |zero=>injection ae with ae;subst ae;exact(no i h1).elim
   |succ o=>rw[abl b.2 i o a h1 ae]
theorem LZ perm l:(oS perm l).live=l.live:=by cases l<;>rfl
theorem dm.perm(m:dm am bh β L h w){perm:List Nat}{K:List LE}(g:vy perm=true)(hp:rf L perm=some (K.map (oS perm))):dm am bh (λi=>β (rV perm i)) K h w:=by
 have at_:∀i l,cI K i=some l->∃o,cI perm i=some o/\rV perm i=o/\cI L o=some (oS perm l):=λi l al=>by
  obtain⟨o,h1,ae⟩:=aiy hp i (oS perm l) (by rw[ra]at al⊢;grind);simp_all[rV,h1]
 refine⟨⟨m.cJ.hw,λi l al=>?_⟩,λi l al d=>?_,λi o l cC al n d j he=>?_,λi l al d=>?_,λi l al d=>?_,m.os,m.tape,m.output,m.size,m.frame,m.fresh⟩;obtain⟨o,h1,ae,c⟩:=at_ i l al;have e:=m.cJ.cJ o _ c;cases l with
 |own cs ty=>
  simp only[oS,LE.fX,ig]at e⊢;rw[ae,e];congr 3;exact ny λy _=>aaE β perm y
 |b5 b=>simp_all[oS,LE.fX,ae]
 |row=>simp_all[oS,LE.fX,ae]
 |map f k=>simp_all[oS,LE.fX,ae]
 |gone=>trivial
 obtain⟨o,h1,ae,c⟩:=at_ i l al;show h (β (rV perm i))=none;rw[ae];exact m.hole o _ c (by rw[LZ];exact d);obtain⟨a,h1,ae,c⟩:=at_ i l al;obtain⟨b,g1,g2,g3⟩:=at_ o cC n;simp only[ae,g2]at he;have:=m.inj a b _ _ c g3 (by rw[LZ];exact d) (by rw[LZ];exact j) he;subst this;exact abl g i o a h1 g1;obtain⟨o,h1,ae,c⟩:=at_ i l al;show β (rV perm i)<_;rw[ae];exact m.lt o _ c (by rw[LZ];exact d);obtain⟨o,h1,ae,c⟩:=at_ i l al;show am (β (rV perm i))≠none\/_;rw[ae];exact m.df o _ c (by rw[LZ];exact d)
theorem ak4{perm:List Nat}{e:cg}:∀h xs b,h.map e=xs.map (sW perm)->(∀t,(e t).c β=a.tmps.getD t fS)->(∀t,(b t).c (λi=>β (rV perm i))=a.tmps.getD t fS)->∀t,(mE b h xs t).c (λi=>β (rV perm i))=a.tmps.getD t fS
 |[],xs,b,_,_,am,t=>by cases xs<;>exact am t
 |d::bJ,[],b,f,_,am,t=>am t
 |d::bJ,x::xs,b,f,g,am,t=>by
  simp only[er,A1]at f;simp only[mE];refine ak4 bJ xs (jR b d x) f.2 g (λt=>?_) t;unfold jR;cases j:ix t d with
  |true=>
   rw[rx j,<-g d,f.1,apC];rfl
  |false=>grind
theorem dF.res(r:dF n β L e a)(s:lg β L h w):dF n β L (λt=>Mv L (e t)) a:=by
 refine⟨r.defers,r.size,λt=>?_,λt=>?_⟩;unfold Mv;split;rename_i v b;obtain⟨h1,ae⟩:=Jd s b;rw[r.env t,aN.ST ae,h1];rfl;exact r.env t;unfold Mv;split;trivial;exact r.ok t
theorem dF.perm(r:dF n β L e a){perm:List Nat}{b:List Nat}{xs:List aN}(c:b.map e=xs.map (sW perm)){d:List LE}(f:xs.all (my d)=true):dF n (λi=>β (rV perm i)) d (mE (λt=>.v (a.tmps.getD t fS)) b xs) a:=⟨r.defers,r.size,λt=>(ak4 b xs (λt=>.v (a.tmps.getD t fS)) c (λt=>(r.env t).symm) (λ_=>rfl) t).symm,λt=>Yo (λt=>.v (a.tmps.getD t fS)) (λ_=>trivial) b xs (λx c=>ahT (se.1 f x c)) t⟩
theorem aql Q:Na am bh n (λq v e L h=>∀c,(∀t,t<q->c t=e t)->Q (.panic [{v:=v,recovered:=false}]) c L h) (lift am bh n Q):=by
 refineλq v β e L h ap a w m r d z i g f=>⟨β,λt=>if t<q then e t else .v (a.tmps.getD t fS),L,h,m,⟨i,g,λt=>?_,λt=>?_⟩,d,z _ λt b=>by simp[b]⟩;by_cases b:t<q;simp only[b,mO];rw[f t b];exact r.env t;simp only[b,nk];rfl;by_cases b:t<q;simp only[b,mO];exact r.ok t;simp only[b,nk];trivial
theorem alj bJ{ops:Array cv}{Q:iw->Act->bD->Prop}{K:fZ}(d:jT am bh n Any K (Q .normal)):∀l β e L h a w,dm am bh β L h w->dF n β L e a->ei L->wpOps P n (l.map (gz P ops)) e L h K->wpList P ops (s0 bJ Q) l {a with defers:=bJ} w
 |[],β,e,L,h,a,w,m,r,b,hp=>⟨a,rfl,d β e L h a w trivial m r b hp⟩
 |U::l,β,e,L,h,a,w,m,r,b,hp=>by
  refine wpList_step λnext f=>?_
  have c:=MU (Q:=Q) (next:=λa w=>a.defers=[]/\next {a with defers:=bJ} w) (λβ e L h a w _ m r b hk=>⟨r.defers,f _ _ (alj bJ d l β e L h a w m r b hk)⟩) m r b hp;rw[show(mF ops ({a with defers:=bJ}:Act).tmps)=mF ops a.tmps from rfl];split;rename_i hw;rw[aS hw]at c;exact WP bJ c λ_ _ q=>q;rename_i hw;rw[aC hw]at c;rw[Cc];grind
theorem aqU bJ(a:Act) c:({a with defers:=bJ}:Act).eval c=a.eval c:=dW
theorem ale bJ{cu:List Nat}(rS:P.follows .mixedOrders=true):∀c Q β e L h a w,dm am bh β L h w->dF n β L e a->ei L->dq P n (lower P cu c) Q e L h->c.wp P (s0 bJ (lift am bh n Q)) {a with defers:=bJ} w:=by
 intro c;induction c with
 |skip=>exactλQ β e L h a w m r g hp=>wp_skip ⟨a,rfl,β,e,L,h,m,r,g,hp⟩
 |region id ops d=>
  intro Q β e L h a w m r g hp;cases d with
  |false=>
   exact wp_region_list (alj bJ (K:=Q .normal) (λβ e L h a w _ m r g hk=>⟨β,e,L,h,m,r,g,hk⟩) ops.toList β e L h a w m r g hp)
  |true=>
   simp only[lower]at hp;split at hp;rename_i aU;exact wp_region_any rS (aCm bJ (K:=Q .normal) aU (λβ e L h a w _ m r g hk=>⟨β,e,L,h,m,r,g,hk⟩) (aql Q) m r g hp);exact hp.elim
 |seq x y V W=>
  intro Q β e L h a w m r g hp;refine wp_seq (yV (V _ β e L h a w m r g hp) ?_);rintro ex _ bz ⟨C,rfl,A,G,F,D,z,B,E,s⟩;cases ex with
  |normal=>exact W Q A G F D C bz z B E s
  |_=>exact⟨C,rfl,A,G,F,D,z,B,E,s⟩
 |cond c x y V W=>
  intro Q β e L h a w m r g hp;simp only[lower,dq]at hp;split at hp;rename_i b O;have av:=r.eval c;rw[<-aqU bJ]at av;rw[O]at av;have pg:Av e (bZ c) b=e:=by
   cases c with
   |tmp t=>exact nY O
   |_=>rfl
  cases b with
  |true=>
   simp only[gw]at hp;rw[pg]at hp;exact wp_cond_true av (V Q β e L h a w m r g hp)
  |false=>
   simp only[gw]at hp;rw[pg]at hp;exact wp_cond_false av (W Q β e L h a w m r g hp)
  grind
 |block id b R=>
  intro Q β e L h a w m r g hp;refine wp_block (yV (R _ β e L h a w m r g hp) ?_);rintro ex _ bz ⟨C,rfl,A,G,F,D,z,B,E,s⟩;cases ex with
  |exit o=>
   simp only[Exit.inBlock];simp only at s;cases O:ix o id with
   |true=>
    rw[O]at s;rw[aS (rx O)];exact⟨C,rfl,A,G,F,D,z,B,E,s⟩
   |false=>
    rw[O]at s;rw[aC (λHQ=>by simp_all)];exact⟨C,rfl,A,G,F,D,z,B,E,s⟩
  |_=>exact⟨C,rfl,A,G,F,D,z,B,E,s⟩
 |loop b R=>
  intro Q β e L h a w m r g hp;simp only[lower,dq]at hp;obtain⟨Z,hp⟩:=ww.norm hp;obtain⟨L,h,hp,m,g,au5,_⟩:=yK Z _ _ _ m g hp;have r:=r.agree (λ_ _=>rfl) au5;obtain⟨β,L,h,hp,m,g,Im,zV⟩:=tW hp β m g;have r:=r.agree zV Im;have T:∀(X:Type)(u:List Nat)(p:X->List aN)(j:X->List LE)(au:X->J->Prop)(q:X->Nat)(i:X)(v:AW p j),(∃β e,au i h/\dm am bh β (j i) h w/\dF n β (j i) (mE e u (p i)) a)->anv (dq P n (lower P cu b)) Q u p j au q->(alM b).wp P (s0 bJ (lift am bh n Q)) {a with defers:=bJ} w:=by
   intro X u p j au q i v lm H;have S:=λx=>(iv _ _).mp (v x);obtain⟨β,e,I,m,r⟩:=lm;refine aHZ (λk a w=>∃a0:Act,a={a0 with defers:=bJ}/\∃x β e h,q x=k/\au x h/\dm am bh β (j x) h w/\dF n β (j x) (mE e u (p x)) a0) (q i) ⟨a,rfl,i,β,e,h,rfl,I,m,r⟩ ?_;rintro k _ w ⟨a,rfl,x,β,e,h,rfl,dt,m,r⟩;obtain⟨lX,hK,h1,cz,m1,ij,pt,zV⟩:=tW (H x e h dt) β m (ahW (S x).2);refine yV (R _ lX _ _ h1 a w m1 (r.agree zV pt) ij cz) ?_;rintro ex _ bz ⟨C,rfl,A,G,F,D,z,B,E,s⟩;cases ex with
   |normal=>
    obtain⟨rp,nx,ae,⟨M,aO,Y,bt,cp⟩,m2,q0,u4,sK⟩:=tW s A z E;exact⟨q M,cp,C,rfl,M,rp,_,ae,rfl,bt,by rw[<-Y];exact m2.trim _,(B.agree sK u4).forget aO (S M).1⟩
   |_=>exact⟨C,rfl,A,G,F,D,z,B,E,s⟩
  have go:∀(X:Type)(u:List Nat)(p:X->List aN)(j:X->List LE)(au:X->J->Prop)(q:X->Nat)(i:X)(v:AW p j),(∃β e,au i h/\dm am bh β (j i) h w/\dF n β (j i) (mE e u (p i)) a)->anu (dq P n (lower P cu b)) Q u p j au q->(alM b).wp P (s0 bJ (lift am bh n Q)) {a with defers:=bJ} w:=by
   intro X u p j au q i v lm H;have S:=λx=>(iv _ _).mp (v x);obtain⟨β,e,I,m,r⟩:=lm;refine aHZ (λk a w=>∃a0:Act,a={a0 with defers:=bJ}/\∃x β e h,q x=k/\au x h/\dm am bh β (j x) h w/\dF n β (j x) (mE e u (p x)) a0) (q i) ⟨a,rfl,i,β,e,h,rfl,I,m,r⟩ ?_;rintro k _ w ⟨a,rfl,x,β,e,h,rfl,dt,m,r⟩;refine yV (R _ β _ _ h a w m r (ahW (S x).2) (H x e h dt)) ?_;rintro ex _ bz ⟨C,rfl,A,G,F,D,z,B,E,s⟩;cases ex with
   |normal=>
    obtain⟨M,aO,Y,bt,cp⟩:=s;exact⟨q M,cp,C,rfl,M,A,_,D,rfl,bt,by rw[<-Y];exact z.trim _,B.forget aO (S M).1⟩
   |_=>exact⟨C,rfl,A,G,F,D,z,B,E,s⟩
  cases hp with
  |mk X u p j au q i v I he N H=>
   exact go X u p j au q i v ⟨β,_,I,by rw[<-N];exact m.trim _,r.forget he ((iv _ _).mp (v i)).1⟩ H
  |yG perm X u p j au q i v I he U N H=>
   exact go X u p j au q i v ⟨_,_,I,m.perm U N,r.perm he ((iv _ _).mp (v i)).1⟩ H
  |mb perm X u p j au q i v I he U N H=>
   exact T X u p j au q i v ⟨_,_,I,m.perm U N,r.perm he ((iv _ _).mp (v i)).1⟩ H
  |ag7 perm X u p j au q i v I he U N H=>
   exact T X u p j au q i v ⟨_,_,I,m.perm U N,(r.res m.cJ).perm he ((iv _ _).mp (v i)).1⟩ H
 |rangeFunc f a8 x y _ _=>intro Q β e L h a w m r g hp;exact hp.elim
 |exit id=>exactλQ β e L h a w m r g hp=>wp_exit ⟨a,rfl,β,e,L,h,m,r,g,hp⟩
 |scope b R=>
  intro Q β e L h a w m r g hp;refine wp_scope_straight (yV (R _ β e L h a w m r g hp) ?_);rintro ex _ bz ⟨C,rfl,A,G,F,D,z,B,E,s⟩;cases ex with
  |goto l=>grind
  |_=>exact⟨C,rfl,A,G,F,D,z,B,E,s⟩
 |label l=>exactλQ β e L h a w m r g hp=>wp_label ⟨a,rfl,β,e,L,h,m,r,g,hp⟩
 |goto l=>intro Q β e L h a w m r g hp;exact hp.elim
 |ret=>exactλQ β e L h a w m r g hp=>wp_ret ⟨a,rfl,β,e,L,h,m,r,g,hp⟩
 |refuse aKv=>intro Q β e L h a w m r g hp;exact hp.elim
theorem Rm(s:P.follows .mixedOrders=true) c Q(β e L h) a(w)(m:dm am bh β L h w)(r:dF n β L e a)(i:ei L)(hp:dq P n (lower P cu c) Q e L h):c.wp P (lift am bh n Q) a w:=by
 have f:=ale [] s c Q β e L h a w m r i hp;have b:({a with defers:=[]}:Act)=a:=by have:=r.defers;cases a;simp_all
 rw[b]at f;refine yV f ?_;rintro ex _ bz ⟨d,rfl,p,o,k,j,l,g,q⟩;have b:({d with defers:=[]}:Act)=d:=by have:=g.defers;cases d;simp_all
 rw[b];exact⟨p,o,k,j,l,g,q⟩
end
def yU(P:fk):List CN->List aN->cg->List LE->J->(List aN->Prop)->Prop
 |[],a,_,_,_,K=>K a
 |.tmp t::r,a,e,L,h,K=>yU P r (a++[e t]) e L h K
 |.cell t ty::r,a,e,L,h,K=>bif km P ty then fH (.load (rk P ty) (jQ P ty) (.t t)) e L h λx=>yU P r (a++[x]) e L h K else False
def kL:List aA->aA
 |[v]=>v
 |aI=>.tuple aI.toArray
def wi(P:fk)(rs:List CN)(Q:aA->J->Prop):mi:=λx e L h=>match x with
 |.normal|.ret=>yU P rs [] e L h λgb=>nt 40 gb (λL h=>match pY L gb with
  |some aI=>hL (λ_ h=>Q (kL aI) h) L h
  |none=>False) L h
 |_=>False
def tm(args:List aA):cg:=λt=>match cI args t with|some v=>.v v|none=>.v fS
section
variable {P:fk}{am:J}{bh:bD}{n:Nat}{β:Nat->Nat}{L:List LE}{h:J}{e:cg}{a:Act}{w:bD}
def Gx(tmps:Array aA):CN->Sem aA
 |.tmp t=>pure (tmps.getD t fS)
 |.cell a t=>do loadVar t (<-asAddr (tmps.getD a fS))
theorem QF{tmps:Array aA}{aI:List aA}(a:(fn.results.toList.mapM (Gx tmps)).run P w= .ok aI w):(results fn tmps).run P w= .ok (kL aI) w:=by
 have hm:(fn.results.mapM λx=>Gx tmps x).run P w= .ok aI.toArray w:=by
  rw[Array.mapM_eq_mapM_toList];simp[a]
 have he:results fn tmps=(do
  let aI<-fn.results.mapM λx=>Gx tmps x
  pure (if h:aI.size=1 then aI[0]else .tuple aI)):=by
  rfl
 rw[he];simp only[iT,hm,jc,l3];congr 1;match aI with
 |[]=>rfl
 |[v]=>rfl
 |v::u::r=>rfl
theorem Jx(m:dm am bh β L h w)(r:dF n β L e a)(f:ei L) K:∀rs d,yU P rs d e L h K->(∀x∈d,x.ok L)->∃gb,K (d++gb)/\(∀x∈gb,x.ok L)/\(rs.mapM (Gx a.tmps)).run P w= .ok (gb.map (aN.c β)) w
 |[],d,hp,_=>⟨[],by grind [yU],bc,bc⟩
 |.tmp t::rs,d,hp,g=>by
  simp only[yU]at hp;obtain⟨gb,u,s,k⟩:=Jx m r f K rs (d++[e t]) hp (λx b=>by
   rcases List.mem_append.1 b with b|b
   grind
   rw[hZ.1 b];exact r.ok t)
  refine⟨e t::gb,aL,λx b=>?_,?_⟩;rcases ez.1 b with b|b;rw[b];exact r.ok t
  grind
  simp only[List.mapM_cons,Gx,iT,l3,jc,k,er];rw[r.env t]
 |.cell t ty::rs,d,hp,g=>by
  simp only[yU]at hp;cases j:km P ty with
  |false=>grind
  |true=>
   rw[j]at hp;simp only[pG]at hp;obtain⟨bL,o,z,l⟩:=Ts r f (U:={dst:=none,op:=.load ty (.tmp t),type:=0,pos:= "",after:=#[],guard:=none}) rfl j hp;have i:=l w m.cJ;simp only[dD,Ry]at i;obtain⟨gb,u,s,k⟩:=Jx m r f K rs (d++[bL]) o (λx b=>by
    grind)
   refine⟨bL::gb,aL,λx b=>?_,?_⟩
   grind
   have h1:(Gx a.tmps (.cell t ty)).run P w= .ok (bL.c β) w:=by
    simp only[Gx];generalize a.tmps.getD t fS=v at i⊢;cases v with
    |pointer p=>
     cases p with
     |none=>simp_all[CC,ru]
     |some q=>
      simp only[CC,ru,asAddr,iT,l3,jc]at i⊢;cases y:(loadVar ty q).run P w with
      |ok x bz=>simp_all
      |halt x bz=>simp_all
    |_=>simp_all[CC,ru]
   simp_all
theorem KE{n:Nat}(b:args.length<=n) β:dF n β [] (tm args) {tmps:=args.toArray++YM (n-args.toArray.size) fS,defers:=[]}:=by
 refine⟨rfl,aL,λt=>?_,λt=>?_⟩;simp only[tm,ra,GU,Array.getElem?_append,List.size_toArray,List.getElem?_toArray,Array.getElem?_replicate];by_cases a:t<args.length;rw[aS a,List.getElem?_eq_getElem a];rfl;rw[aC a,List.getElem?_eq_none I];split<;>rfl;unfold tm;split<;>trivial
theorem Fn.intro{f:mT}{c:y0}{pj:IR}{rs:List CN}{h:J}{Q:aA->J->Prop}(N:P.follows .mixedOrders=true)(j:P.funcs[f]?=some fn)(E:fn.body=some c)(x:(fn.name== "runtime.NumGoroutine")=false)(A:fn.ntmps=n)(z:fn.results.toList=rs)(t:lower P cu c=pj)(M:qQ args.length n=true)(K:dq P n pj (wi P rs Q) (tm args) [] h):Fn P f args.toArray h Q:=by
 refine⟨⟨fn,j,aL,x⟩,λw hw=>?_⟩;subst t;subst z;subst A;refine calls_of_wp j E ?_;have m:dm h w (λ_=>0) [] h w:=⟨⟨hw,(λi l al=>by cases al)⟩,(λi l al=>by cases al),(λi o l cC al=>by cases al),(λi l al=>by cases al),(λi l al=>by cases al),rfl,rfl,rfl,dM _,(λ_ _ _=>rfl),(λo C=>.inl C)⟩;have B:ei []:=λi cs ty D=>by cases D
 have F:=Rm N (am:=h) (bh:=w) (n:=fn.ntmps) c _ (λ_=>0) (tm args) [] h _ w m (KE (za M) _) B K;refine yV F ?_;rintro ex q bz ⟨β,e,L,d,g,p,s,a⟩;have fin:yU P fn.results.toList [] e L d (λgb=>nt 40 gb (λL h=>match pY L gb with
  |some aI=>hL (λ_ h=>Q (kL aI) h) L h
  |none=>False) L d)->q.defers=[]/\∃v,(results fn q.tmps).run P bz= .ok v bz/\∃u ae,alT v= .returned u/\Q u ae/\Ext h w ae bz:=by
  intro y
  obtain⟨gb,k,R,r⟩:=Jx g p s _ _ [] y bc
  simp only[JV]at k
  obtain⟨S,h1,b,m1,H,U,_⟩:=yK gb _ _ _ g s k
  split at b
  rename_i aI G
  have av:=yL m1.cJ gb aI G
  obtain⟨V,T,ae,I,m2,_,_,_⟩:=tW b β m1 H
  rw[av]at r
  exact⟨p.defers,_,QF r,_,ae,rfl,I,⟨m2.cJ.hw,m2.os,m2.tape,m2.output,m2.size,m2.frame,m2.fresh⟩⟩
  grind
 cases ex with
 |normal=>exact fin a
 |ret=>exact fin a
 |exit id=>exact a.elim
 |goto l=>exact a.elim
 |panic O=>exact a.elim
 |outgrown=>exact a.elim
theorem Fn.avW{f:mT}{c:y0}{pj:IR}{rs:List CN}{h:J}{Q:aA->J->Prop}(S:P.follows .mixedOrders=true)(p:P.funcs[f]?=some fn)(I:fn.body=some c)(B:(fn.name== "runtime.NumGoroutine")=false)(E:fn.ntmps=n)(D:fn.results.toList=rs)(A:lower P cu c=pj)(R:qQ args.length n=true)(d:hL (λL h=>dq P n pj (wi P rs Q) (tm args) L h) [] h):Fn P f args.toArray h Q:=by
 refine⟨⟨fn,p,aL,B⟩,λw hw=>?_⟩;subst A;subst D;subst E;refine calls_of_wp p I ?_;have m:dm h w (λ_=>0) [] h w:=⟨⟨hw,(λi l al=>by cases al)⟩,(λi l al=>by cases al),(λi o l cC al=>by cases al),(λi l al=>by cases al),(λi l al=>by cases al),rfl,rfl,rfl,dM _,(λ_ _ _=>rfl),(λo G=>.inl G)⟩;have F:ei []:=λi cs ty H=>by cases H
 obtain⟨O,y,h1,d,m1,b,z,T⟩:=tW d _ m F;have K:=Rm S (am:=h) (bh:=w) (n:=fn.ntmps) c _ O (tm args) y h1 _ w m1 ((KE (za R) _).agree T z) b d;refine yV K ?_;rintro ex s bz ⟨β,e,L,j,k,r,x,a⟩;have fin:yU P fn.results.toList [] e L j (λgb=>nt 40 gb (λL h=>match pY L gb with
  |some aI=>hL (λ_ h=>Q (kL aI) h) L h
  |none=>False) L j)->s.defers=[]/\∃v,(results fn s.tmps).run P bz= .ok v bz/\∃u ae,alT v= .returned u/\Q u ae/\Ext h w ae bz:=by
  intro C
  obtain⟨gb,q,V,t⟩:=Jx k r x _ _ [] C bc
  simp only[JV]at q
  obtain⟨y,h1,g,m1,b,z,_⟩:=yK gb _ _ _ k x q
  split at g
  rename_i aI M
  have av:=yL m1.cJ gb aI M
  obtain⟨X,W,ae,N,m2,_,_,_⟩:=tW g β m1 b
  rw[av]at t
  exact⟨r.defers,_,QF t,_,ae,rfl,N,⟨m2.cJ.hw,m2.os,m2.tape,m2.output,m2.size,m2.frame,m2.fresh⟩⟩
  grind
 cases ex with
 |normal=>exact fin a
 |ret=>exact fin a
 |exit id=>exact a.elim
 |goto l=>exact a.elim
 |panic U=>exact a.elim
 |outgrown=>exact a.elim
end
end Go.Sx
namespace Go.Sx
set_option maxRecDepth 100000
set_option maxHeartbeats 0
set_option linter.all false
variable {h:J}{rows:List (List aA)}{n size:Nat}{A:Option aE}
structure bg(h:J)(size:Nat)(A:Option aE)(n:Nat)(rows:List (List aA)):Prop where
 len:rows.length=n
 wid:∀r∈rows,r.length=size
 b4:n≠0->∃g,A=some g
 cell:∀g,A=some g->∀(i:Nat)(r:List aA),rows[i]?=some r->∀(o:Nat)(v:aA),r[o]?=some v->h.cell? (g.add (i*size+o))=some v
theorem bg.mono{a:J}(t:bg h size A n rows)(x:h.le a):bg a size A n rows:=⟨t.len,t.wid,t.b4,λg b i r d o v c=>J.l5 x (t.cell g b i r d o v c)⟩
theorem bg.nil h size A:bg h size A 0 []:=⟨rfl,(λr a=>by cases a),(λe=>absurd rfl e),(λg _ i r a=>by simp at a)⟩
theorem TI{size:Nat}:∀(rows:List (List aA)),(∀r∈rows,r.length=size)->rows.flatten.length=rows.length*size
 |[],_=>by simp
 |r::rows,hw=>by
  simp only[qN,List.length_append,iJ,hw r bc,TI rows λr a=>hw r (by simp[a])];rw[A9];omega
theorem acG{size:Nat}:∀(rows:List (List aA)),(∀r∈rows,r.length=size)->∀k v,rows.flatten[k]?=some v->∃i o r,k=i*size+o/\rows[i]?=some r/\r[o]?=some v
 |[],_,k,v,h=>by simp at h
 |r::rows,hw,k,v,h=>by
  rw[qN,EF]at h;split at h;exact⟨0,k,r,bc,rfl,h⟩;rename_i hk;have a:=hw r bc;obtain⟨i,o,c,h1,ae,b⟩:=acG rows (λr a=>hw r (by simp[a])) (k-r.length) v h;exact⟨i+1,o,c,by rw[A9];omega,by simpa using ae,b⟩
theorem Fc{size:Nat}:∀(rows:List (List aA)),(∀r∈rows,r.length=size)->∀i o r v,rows[i]?=some r->r[o]?=some v->rows.flatten[i*size+o]?=some v
 |[],_,i,o,r,v,h,_=>by simp at h
 |q::rows,hw,i,o,r,v,h,a=>by
  have b:=hw q bc;rw[qN,EF];cases i with
  |zero=>
   injection h with h;subst h;have:=(qO.1 a).1;rw[aS I,Nat.zero_mul,dZ];exact a
  |succ i=>
   rw[aC (by rw[A9];omega)];have:=Fc rows (λr c=>hw r (by simp[c])) i o r v (by simpa using h) a;rw[<-this,b,A9];congr 1;omega
theorem bg.src(t:bg h size A n rows) L:Src L h size A n rows.flatten:=by
 by_cases a:n=0;have:=t.len;rw[a]at this;rw[y7 this];exact .nil a;obtain⟨g,b⟩:=t.b4 a;refine .hp g _ b (by rw[TI _ t.wid,t.len]) λk v hk=>?_;obtain⟨i,o,r,h1,ae,c⟩:=acG _ t.wid k v hk;rw[h1];exact t.cell g b i r ae o v c
theorem bw.dK{bF cap:Nat}(x:bw h bF size A n cap rows.flatten)(hw:∀r∈rows,r.length=size)(d:0<size):bg h size A n rows:=by
 obtain⟨h1,ae⟩:=x;rw[TI _ hw]at h1;have al:rows.length=n:=Nat.eq_of_mul_eq_mul_right d h1;refine⟨al,hw,λc=>?_,λg a i r f o v e=>?_⟩;rcases ae with⟨_,ae,_⟩|⟨g,k,ae,_⟩;exact absurd ae c;exact⟨_,ae⟩;rcases ae with⟨ae,_⟩|⟨b,k,ae,j,_,_,_,aT⟩;rw[a]at ae;cases ae;rw[a]at ae;injection ae with ae;subst ae;rw[add_lit,dZ];have:=Fc _ hw i o r v f e;rw[<-aT,G7]at this;split at this;rw[AL]at this;unfold J.cell?;simp only[j,Option.isSome_none,ve,nk];exact this;cases this
theorem bg.row(t:bg h size A n rows){g:aE}(a:A=some g){i:Nat}{r:List aA}(c:rows[i]?=some r):∀o v,r[o]?=some v->h.cell? ((g.add (i*size)).add o)=some v:=λo v b=>by rw[wS];exact t.cell g a i r c o v b
theorem bg.one(t:bg h size A n rows){g:aE}(a:A=some g){i:Nat}{r:List aA}(c:rows[i]?=some r){v:aA}(b:r[0]?=some v):h.cell? (g.add (i*size))=some v:=t.cell g a i r c 0 v b
theorem add_zero(a:aE):a.add 0=a:=by unfold Addr.add;rw[aS rfl]
theorem bg.take{h:J}{size n:Nat}{A:Option aE}{rows:List (List aA)}(t:bg h size A n rows){k:Nat}(hk:k<=n):bg h size A k (rows.take k):=by
 refine⟨by simp[t.len];omega,λr a=>t.wid r (List.mem_of_mem_take a),λam=>t.b4 I,λg b i r a o v c=>?_⟩;rw[G7]at a;split at a;exact t.cell g b i r a o v c;cases a
theorem bg.drop{h:J}{size n:Nat}{A B:Option aE}{rows:List (List aA)}(t:bg h size A n rows){k:Nat}(d:k<n->B=A.map (·.add (k*size)))(hk:k<=n):bg h size B (n-k) (rows.drop k):=by
 refine⟨by simp[t.len],λr b=>t.wid r (List.mem_of_mem_drop b),λam=>?_,λg a i r b o v e=>?_⟩;obtain⟨g,a⟩:=t.b4 I;exact⟨_,by rw[d I,a];rfl⟩;rw[List.getElem?_drop]at b;have j:=(qO.1 b).1;rw[t.len]at j;obtain⟨f,c⟩:=t.b4 I;rw[d I,c]at a;injection a with a;rw[<-a,wS];have:=t.cell f c (k+i) r b o v e;rw[show k*size+(i*size+o)=(k+i)*size+o by rw[Nat.add_mul];omega];exact this
def R(z:Int):aA:=.int .i64 z
structure b2 where
 src:Int
 dst:Int
 gm:Int
 take:Int
 start:Int
 deriving DecidableEq
def b2.cells(a:b2):List aA:=[R a.src,R a.dst,R a.gm,R a.take,R a.start]
def nQ(N:Int)(A:Option aE)(m cap:Nat):aA:=.agg #[R N,.slice A m cap]
theorem aae(l:List b2):∀r∈l.map b2.cells,r.length=5:=by
 intro r b;obtain⟨a,_,rfl⟩:=cO.1 b;rfl
theorem Vs(l:List Int):∀r∈l.map λz=>[R z],r.length=1:=by
 intro r b;obtain⟨a,_,rfl⟩:=cO.1 b;rfl
theorem jx{α β:Type}{f:α->β}{l:List α}{i:Nat} a:(l.map f)[i]?=some (f l[i]):=by simp[a]
end Go.Sx
namespace Go.Sx
open Go.RowKit Go.WideShapes Go.ChangeShapes
set_option maxRecDepth 100000
set_option maxHeartbeats 0
set_option linter.all false
variable {W:bD}
section
variable {H:Type}{enc:gv×aA->H}{P:fk}
theorem api{b:bD}{a:J}(x:Ext (J.of W) W a b)(c:(J.of W).le a):Below W.heap.size W b:=by
 refine⟨x.os,x.tape,x.output,x.size,λk hk=>?_⟩;have h1:W.heap[k]?=some W.heap[k]:=Jz hk;rw[h1];exact x.hw k _ (c k _ h1)
theorem avp W:n2 (J.of W) W:=λ_ _ e=>e
theorem Qg{a:aE}{v:aA}(av:W.cell? a=some v):(J.of W).cell? a=some v:=av
def My(P:fk)(ep:List gv):Bool:=ep.all λt=>P.readableRec t&&decide (t<P.types.size)
theorem akO(al:aga P=true){W f:bD}{sp:Nat->Bool}:∀(ep:List gv)(aI:List aA)(bJ:List (rr H))(b:List wB),My P ep=true->RD enc P W 0 (λ_=>true) true ep aI bJ b->(∀p∈b,W.sameAt f p)->(∀p∈b,sp p.block=true)->RD enc P f 0 sp true ep aI bJ b
 |[],[],[],_,_,h,_,_=>h
 |t::ep,v::aI,d::bJ,b,c,h,e,hp=>by
  obtain⟨p,q,h1,ae,rfl⟩:=h;simp only[My,List.all_cons,iv,vx]at c;exact⟨p,q,aII al c.1.1 c.1.2 h1 (λx a=>e x (by simp[a])) (λx a=>hp x (by simp[a])),akO al ep aI bJ q (by simpa[My]using c.2) ae (λx a=>e x (by simp[a])) (λx a=>hp x (by simp[a])),rfl⟩
 |[],_::_,_,_,_,h,_,_=>h.elim
 |[],[],_::_,_,_,h,_,_=>h.elim
 |_::_,[],_,_,_,h,_,_=>h.elim
 |_::_,_::_,[],_,_,h,_,_=>h.elim
theorem aDx{f:Func}{s:ChangeSpec}{u:gv}{apart fresh handsOn again:Bool}{c:bD}{args:Array aA}{bJ gs:List (rr H)}{before:List wB}(al:aga P=true)(F:My P f.params.toList=true)(n:s.vars=[])(w:f.resultTypes=#[u])(i:P.underlying u=some .bool)(h:alP enc P f.params.toList s.vars apart W args.toList bJ gs before)(E:(s.fn H (bJ++gs)).results=[.lit (.bool true)])(z:(s.fn H (bJ++gs)).args=bJ)(y:(s.fn H (bJ++gs)).vars=[])(d:Below W.heap.size W c):s.post enc P f apart fresh handsOn again W args (.bool true) c:=by
 have e:∀p∈before,p.block<W.heap.size:=λp hp=>h.lt p hp;obtain⟨p,q,h1,ae,l,A,C⟩:=id h;have B:q=[]/\gs=[]:=by
  rw[n]at ae;cases gs with
  |nil=>exact⟨ae,rfl⟩
  |cons g gs=>exact ae.elim
 obtain⟨rfl,rfl⟩:=B;rw[List.append_nil]at l;subst l;have aK:∀sp:Nat->Bool,(∀x∈before,sp x.block=true)->RD enc P c 0 sp true f.params.toList args.toList (s.fn H (bJ++[])).args before:=λsp J=>by
  rw[z];exact akO al _ _ _ _ F h1 (λx a=>d.same (e x a)) J
 have j:∀sp:Nat->Bool,DataW.TrodVars enc P c sp s.vars (s.fn H (bJ++[])).vars []:=λsp=>by
  rw[y,n];rfl
 have m:∀(b:Nat)(sp:Nat->Bool)(k:Bool),RD enc P c b sp k f.resultTypes.toList ((dh true).resultList f.resultTypes.size) (s.fn H (bJ++[])).results []:=λb sp k=>by
  rw[E,w];exact trodAll_mk1 (shut_bool i true)
 have G:∀(o:Nat)(t:gv)(r:aA),f.resultTypes[o]?=some t->((dh true).resultList f.resultTypes.size)[o]?=some r->Value.okWide P c .any 0 t r:=ok_one w rfl (okWide_bool_mk i true);have I:∀x∈before,(λb=>decide (b<W.heap.size)) x.block=true:=λx a=>by simpa using e x a
 refine⟨bJ,[],before,[],before,[],h,m _ _ _,aK _ I,j _,World.keptBut_mono (λx a=>⟨a,?_⟩) (d.frame (·∈before)),λ_=>⟨G,_,_,([]++before)++[],⟨[]++before,[],trodAll_append (aK _ (λ_ _=>rfl)) (m _ _ _),j _,rfl,?_,?_⟩,?_⟩⟩;exact .inr (by simpa using a);intro b off hp;have v:MemPlace.cell b off∈before:=by simpa using hp
 rw[d.frozen (e _ v)];exact A b off v;intro D;simpa using C D;intro x a _;simpa using a
theorem apG{f:mT}{fn:Func}{s:ChangeSpec}{b:gv}{apart fresh handsOn again:Bool}{args:Array aA}{bJ gs:List (rr H)}{before:List wB}(al:aga P=true)(k:My P fn.params.toList=true)(m:s.vars=[])(o:fn.resultTypes=#[b])(g:P.underlying b=some .bool)(n:alP enc P fn.params.toList s.vars apart W args.toList bJ gs before)(j:(s.fn H (bJ++gs)).results=[.lit (.bool true)])(h:(s.fn H (bJ++gs)).args=bJ)(d:(s.fn H (bJ++gs)).vars=[])(bs:Fn P f args (J.of W) λr a=>r= .bool true/\(J.of W).le a):Calls P f args W λe c=>∃v,e= .returned v/\s.post enc P fn apart fresh handsOn again W args v c:=by
 refine(bs.run W (avp W)).mono ?_;rintro e c ⟨v,a,rfl,⟨rfl,l⟩,i⟩;exact⟨_,rfl,aDx al k m o g n j h d (api i l)⟩
theorem NU{α:Type}(au:Nat->α->Prop):∀n,(∀i,i<n->∃a,au i a)->∃l:List α,l.length=n/\∀i a,l[i]?=some a->au i a
 |0,_=>⟨[],rfl,λi a h=>by simp at h⟩
 |n+1,h=>by
  obtain⟨l,h1,ae⟩:=NU au n λi e=>h i I;obtain⟨a,d⟩:=h n I;refine⟨l++[a],by simp[h1],λi b c=>?_⟩;rw[EF]at c;split at c;exact ae i b c;have:i=n:=by
   have:=(qO.1 c).1;simp at this;omega
  subst this;rw[h1]at c;simp at c;rw[<-c];exact d
end
end Go.Sx
namespace Go.Sx
open Go.Proofs Go.RowKit Go.ChangeShapes Go.WideShapes
set_option maxRecDepth 100000
set_option maxHeartbeats 0
set_option linter.all false
section
variable {P:fk}{H:Type}{enc:gv×aA->H}
theorem aCL{W:bD}{spare:Nat->Bool}{held:Bool}{t e F:Nat}{v:aA}{x:rr H×List wB}(C:P.underlying t=some (.slice e))(he:P.underlying e=some (.int .i64))(hC:P.cellsOf e=1)(h:DataW.trod enc P W 0 spare held F t [v]=some x):∃(A:Option aE)(n cap:Nat)(l:List Int),v= .slice A n cap/\bg (J.of W) 1 A n (l.map λz=>[R z])/\n<=cap/\∃el sp,(x.1= .slice el sp/\n<=el.length)\/(x.1= .nil/\n=0):=by
 rcases Deep.open_slice C h with⟨am,h1⟩|⟨a,len,cap,m,n,D,Sg,j,L,al,hm,f,w,B⟩;injection am with am;exact⟨none,0,0,[],am,bg.nil _ _ _,dM _,[],[],.inr ⟨by rw[h1],rfl⟩⟩;injection j with j;have s:len<=m:=by rw[f];split<;>omega
 have key:∀i,i<len->∃z:Int,W.cell? (a.add i)=some (R z):=λi O=>by
  obtain⟨M,av,p⟩:=B i I;rw[hC,e4]at av;obtain⟨z,q,_⟩:=DataW.trod_int he p;obtain⟨_,N,G⟩:=World.cells?_some av;refine⟨z,?_⟩;have:=G 0 I;rw[add_zero]at this;rw[this,q];rfl
 obtain⟨l,K,k⟩:=NU (λi(b:Int)=>W.cell? (a.add i)=some (R b)) len key;refine⟨some a,len,cap,l,j,⟨by simpa using K,λr c=>?_,λ_=>⟨a,rfl⟩,λg d i r c o u hu=>?_⟩,al,(fJ len).map D,_,.inl ⟨by rw[w],bc⟩⟩;obtain⟨b,_,rfl⟩:=cO.1 c;rfl;injection d with d;subst d;rw[de,zc]at c;obtain⟨b,E,rfl⟩:=c;have y:o=0:=by
  have:=(qO.1 hu).1;simpa using this
 subst y;injection hu with hu;subst hu;rw[e4,Nat.add_zero];exact Qg (k i b E)
end
end Go.Sx
namespace Go.Sx
open Go.RowKit
set_option maxRecDepth 100000
set_option maxHeartbeats 0
set_option linter.all false
section
variable {P:fk}{am:J}{bh:bD}{n:Nat}{β:Nat->Nat}{L:List LE}{h:J}{e:cg}{a:Act}{w:bD}{ro:Option Nat}{bJ:List wt}
end
section
variable {P:fk}{am h1:J}{bh gE:bD}{n:Nat}{β:Nat->Nat}{L:List LE}{h:J}{e:cg}{a:Act}{w:bD}{ro:Option Nat}{bJ:List wt}
end
section
variable {P:fk}{am h1:J}{bh gE:bD}{n:Nat}{β:Nat->Nat}{L:List LE}{h:J}{e:cg}{a:Act}{w:bD}{ro:Option Nat}{bJ:List wt}
end
end Go.Sx
namespace Go.Sx
open Go.Proofs
set_option maxRecDepth 100000
set_option maxHeartbeats 0
set_option linter.all false
def kY:List Nat:=[55,30,126,128,129,28,74,131,132,73,77,81,82,83,84,85,134,135,185,186,89,48,108,112,39,40,41,97,98,99,100,101,142,144,145,146,88,33,1050,1100,1111,1131,1151,2156]
theorem IK:Tryz.prog.follows .mixedOrders=true:=by kernel_rfl
structure b9(f n:Nat)where
 fn:Func
 bf:Tryz.prog.funcs[f]?=some fn
 Qc:fn.ntmps=n
 ea:(fn.name== "runtime.NumGoroutine")=false
 aj:fn.body.isSome=true
 o:{x:IR//lower aD kY (fn.body.getD .skip)=x}
section
variable {f n:Nat}{args:List aA}{h:J}{Q:aA->J->Prop}
theorem bU(o:b9 f n)(a:qQ args.length n=true)(hw:dq aD n o.o.1 (wi aD o.fn.results.toList Q) (tm args) [] h):Fn aD f args.toArray h Q:=by
 obtain⟨c,av⟩:=Se.1 o.aj;refine Fn.intro IK o.bf av o.ea o.Qc rfl (pj:=o.o.1) (cu:=kY) ?_ a hw;rw[<-o.o.2,av];rfl
theorem al3(o:b9 f n)(a:qQ args.length n=true)(hw:hL (λL h=>dq aD n o.o.1 (wi aD o.fn.results.toList Q) (tm args) L h) [] h):Fn aD f args.toArray h Q:=by
 obtain⟨c,av⟩:=Se.1 o.aj;refine Fn.avW IK o.bf av o.ea o.Qc rfl (pj:=o.o.1) (cu:=kY) ?_ a hw;rw[<-o.o.2,av];rfl
end
def cl:y0->y0|.seq a _=>a|.cond _ a _=>a|.block _ b=>b|.loop b=>b|.scope b=>b|c=>c
def rC:y0->y0|.seq _ b=>b|.cond _ _ b=>b|c=>c
def jW:y0->gu|.cond c _ _=>c|_=>.tmp 0
def ci:y0->Nat|.block i _=>i|_=>0
def dk:y0->Nat|.seq _ _=>1|.cond _ _ _=>2|.block _ _=>3|.loop _=>4|_=>0
section
variable {c:y0}{x y:IR}{z:eC}{i:Nat}
theorem ajA(d:dk c=1)(h1:lower aD kY (cl c)=x)(ae:lower aD kY (rC c)=y):lower aD kY c= .seq x y:=by
 subst h1;subst ae;cases c with
 |seq a b=>rw[lower];rfl
 |_=>cases d
theorem aa9(e:dk c=2)(am:bZ (jW c)=z)(h1:lower aD kY (cl c)=x)(ae:lower aD kY (rC c)=y):lower aD kY c= .cond z x y:=by
 subst am;subst h1;subst ae;cases c with
 |cond a b d=>rw[lower];rfl
 |_=>cases e
theorem apl(d:dk c=3)(h1:lower aD kY (cl c)=x):lower aD kY c= .block (ci c) x:=by
 subst h1;cases c with
 |block a b=>rw[lower];rfl
 |_=>cases d
theorem aAU(b:dk c=4)(h1:lower aD kY (cl c)=x):lower aD kY c= .loop x:=by
 subst h1;cases c with
 |loop a=>rw[lower];rfl
 |_=>cases b
theorem dw(h1:lower aD kY (cl c)=x)(ae:lower aD kY (rC c)=y)(a:dk c=1:=by rfl):lower aD kY c= .seq x y:=ajA a h1 ae
theorem bd(ae:lower aD kY (rC c)=y)(h1:lower aD kY (cl c)=x:=by cbv)(a:dk c=1:=by rfl):lower aD kY c= .seq x y:=ajA a h1 ae
theorem tg(h1:lower aD kY (cl c)=x)(ae:lower aD kY (rC c)=y)(am:bZ (jW c)=z:=by cbv)(a:dk c=2:=by rfl):lower aD kY c= .cond z x y:=aa9 a am h1 ae
theorem qc(ae:lower aD kY (rC c)=y)(h1:lower aD kY (cl c)=x:=by cbv)(am:bZ (jW c)=z:=by cbv)(a:dk c=2:=by rfl):lower aD kY c= .cond z x y:=aa9 a am h1 ae
theorem a'(h1:lower aD kY (cl c)=x)(a:dk c=3:=by rfl):lower aD kY c= .block (ci c) x:=apl a h1
theorem gW(h1:lower aD kY (cl c)=x)(a:dk c=4:=by rfl):lower aD kY c= .loop x:=aAU a h1
noncomputable def E3(ops:Array cv)(n:Nat):cY:=match ops[n/36]?with
 |none=>⟨none,none,.bad⟩
 |some q=>match n/12%3 with
  |0=>vv (gz aD ops q)
  |1=>Dj (gz aD ops q)
  |_=>gz aD ops q
noncomputable def aqh(ops:Array cv)(n:Nat)(s:List kP):List kP:=match n%12,s with
 |0,s=>.nil::s
 |1,s=>.top::s
 |2,r::s=>.v (E3 ops n) false false r::s
 |3,r::s=>.v (E3 ops n) true false r::s
 |4,r::s=>.v (E3 ops n) true true r::s
 |5,r::s=>.w (E3 ops n) false r::s
 |6,r::s=>.w (E3 ops n) true r::s
 |7,r::t::s=>.two (E3 ops n) false r t::s
 |8,r::t::s=>.two (E3 ops n) true r t::s
 |_,s=>s
noncomputable def dl(l:List Nat):y0->kP
 |.region _ ops _=>(l.foldr (aqh ops) [.nil]).headD .bot
 |_=>.bot
theorem ns{t:kP}(l:List Nat)(_:dl l c=t:=by cbv)(h:lower aD kY c= .Af t:=by kernel_rfl):lower aD kY c= .Af t:=h
def b9.k{f n:Nat}{fn:Func}{x:IR}(c:Tryz.prog.funcs[f]?=some fn)(a:fn.ntmps=n)(h:lower aD kY (fn.body.getD .skip)=x:=by cbv)(d:(fn.name== "runtime.NumGoroutine")=false:=by decide)(b:fn.body.isSome=true:=by rfl):b9 f n:=⟨fn,c,a,d,b,x,h⟩
end
abbrev i(n:Int):eC:=.c (.int .i64 n)
abbrev U(d:Nat)(k:mI):cY:=⟨some d,none,k⟩
abbrev hi(k:mI):cY:=⟨none,none,k⟩
abbrev u(x:cY)(r:kP):kP:=.v x false false r
abbrev aKs(x:cY)(r:kP):kP:=.v x true false r
abbrev aKu(x:cY)(r:kP):kP:=.v x true true r
abbrev Rf(x:cY)(r:kP):kP:=.w x false r
abbrev us(x:cY)(r:kP):kP:=.w x true r
end Go.Sx
