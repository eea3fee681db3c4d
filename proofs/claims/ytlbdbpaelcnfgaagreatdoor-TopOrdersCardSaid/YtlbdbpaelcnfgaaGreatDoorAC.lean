/- A part of the proof that the statement holds. Conditions: none. -/
import Derived.Deep.LoopGhost
import Derived.Scope
import Derived.ProofKit
import Derived.SizedLaws
import Derived.Lib.SmallJoins
import Derived.RangeFuncSeq
import Derived.Sort.LoopGhostIn
import Derived.Test.YtlbdbpaelcnfgaaGreatDoorProg
import Derived.Test.YtlbdbpaelcnfgaaGreatDoorAB
open Array renaming ext'->xZ,foldl_toList->ajV,getD_eq_getD_getElem?->FC,getElem?_eq_getElem->H1,getElem?_eq_some_iff->zw,getElem?_push->ajW,getElem?_toList->zx,replicate->Xg,toList_map->zy
open Bool renaming and_eq_true->h0,false_eq_true->ug,not_eq_true'->x1,or_eq_true->H2,true_and->zB
open Go renaming Addr->aI,Code->x2,DataW->qx,Deferred->vl,Exit->hT,FuncId->l4,LetsOut->Qh,MemPlace->vs,Oper->cp,Operand->fM,Program->eN,ResultVar->BI,TypeId->fR,Value->ax,World->bw,execOp->dk,execOp_put->RM,getD_set_ne->Sh,getD_set_true->aqT,laidOutB->aeK,mem_ready->UK,resolve->tZ,undef->fp,wanted_put->W0,wpAny->Lp,wp_loop_ghost->aF3,wp_mono->xW,yielded->lI
open Go.Act renaming eval->PZ,put->Xe
open Go.Calls renaming mono->aj3
open Go.Code renaming loop->aj7
open Go.DataW renaming TrodAll->P4,Whole->aj'
open Go.Deferred renaming ofValue->H5
open Go.Ending renaming returned->akd
open Go.Instr renaming loadAt->Bs,sureAddr->qz
open Go.Oper renaming upon->alJ,upon_enter->Iw,wp->BF
open Go.Proofs.Tryz renaming prog->aB
open Go.Region renaming before->eR,binds->rr,ready->F4,wanted->hF
open Go.Result renaming andThen_ok->im
open Go.Sem renaming run_bind->ic,run_pure->k8
open Go.Value renaming agg->IC,bool->c5
open Go.WideElems renaming Trod_stays->aGM
open List renaming all_eq_true->rl,any_eq_true->Qk,eq_nil_of_length_eq_zero->x9,flatten_cons->oR,foldl_cons->Dk,getElem?_append->Dl,getElem?_eq_some_iff->pZ,getElem?_map->dH,getElem?_take->FP,length_cons->iv,map_append->fF,map_congr_left->mG,map_cons->ec,map_map->iD,mem_append_right->LU,mem_cons->ek,mem_cons_of_mem->gX,mem_cons_self->hU,mem_map->cU,mem_range->uo,mem_singleton->hV,nil_append->Im,nodup_cons->iV,range->fL
open List.cons renaming injEq->zN
open Nat renaming beq->hW,ble->p0,eq_of_beq_eq_true->qA,le_of_ble_eq_true->yc,le_refl->dz,mul_one->eV,succ_mul->zS,zero_add->dM
open Ne renaming symm->d'
open Option renaming isSome_iff_exists->Qy,map_eq_some_iff->ye
open Prod.mk renaming injEq->wZ
namespace Go.Sx
set_option maxRecDepth 100000
set_option maxHeartbeats 0
set_option linter.all false
variable {next:Act->bw->Prop}{listed:Array Bool}{b:Array Nat}{ops:Array cp}{m:Bool}{E:List (Nat×ax)}{L:List LE}{cm done:List Nat}{fA:List aK}{N bK bytes cap dj o s size:Nat}{d:Option Nat}{A:Option aI}{x:aK}{cv:cp}{P:eN}{K:fw}{Q:hT->Act->bw->Prop}{f:l4}
def Gc{α:Type}:List α->(α->Prop)->Prop
 |[],_=>True
 |[x],p=>p x
 |x::y::l,p=>p x/\Gc (y::l) p
def S4:LE->LE
 |.row bK size _ _ _ _=>.row bK size none 0 0 []
 |l=>l
def acH:LE->LE
 |.row bK size _ _ _ _=>.row bK size none 0 0 []
 |_=>.gone
def tP:Nat->List LE->List LE
 |_,[]=>[]
 |0,l::r=>acH l::tP 0 r
 |n+1,l::r=>S4 l::tP n r
def tQ(m:Bool)(dj:Nat)(L:List LE):List LE:=match m with
 |true=>tP dj L
 |false=>L
def sJ(m:Bool)(h:J):J:=match m with
 |true=>λ_=>none
 |false=>h
def tS(dj:Nat)(e:cy):lL->Bool
 |.IG _ _ _ _ _ x _=>(match x.get e with
  |.s i _ _ _=>p0 dj i
  |_=>true)
 |_=>true
def sN(dj:Nat)(e:cy)(L:List LE)(U:vu):Bool:=match U.y with
 |false=>true
 |true=>(match U.U.k with
  |.store _ x _=>(match x.get e with
   |.p i _=>p0 dj i&&(match cz L i with|some (.own ..)=>true|_=>false)
   |_=>false)
  |_=>false)
def Dd(P:eN)(f:l4)(args:Array ax)(h:J)(v:ax):Prop:=(∃fn,P.funcs[f]?=some fn/\fn.body.isSome=true/\(fn.name== "runtime.NumGoroutine")=false)/\∀w,ng h w->Calls P f args w λe bk=>e= .panicked [{v:=v,recovered:=false}]/\Ext h w h bk
inductive P7(P:eN)(U:cK)(e:cy)(L:List LE)(h:J)(N:Prop)(Z:ax->cy->List LE->J->Prop):Prop
 |go (k:N)
 |die (f:l4) (kE:List eb) (aG:List ax) (v:ax) (hk:U.k= .Gf f kE) (am:U.g=none) (an:ph L (kE.map (eb.get e))=some aG) (aC:Dd P f aG.toArray h v) (z:Z v e L h)
abbrev vF:=Nat->ax->cy->List LE->J->Prop
variable {Z:vF}
def Lv(P:eN)(n dj:Nat)(U:vu)(e:cy)(L:List LE)(h:J)(K:fw)(Z:vF):Prop:=match U.q with
 |none=>bif tS dj e U.U.k&&sN dj e L U then hS P n U.U e L h K else False
 |some q=>P7 P U.U e L h (bif tS dj e U.U.k&&sN dj e L U then hS P n U.U e L h K else False) (Z q)
def qs(P:eN)(n dj:Nat)(Z:vF):Nat->List Nat->rt->cy->List LE->J->fw->Prop
 |_,_,[],e,L,h,K=>K e L h
 |0,_,_::_,_,_,_,_=>False
 |f+1,done,x::r,e,L,h,K=>match zc done (x::r)with
  |some (i,U,a)=>hS P n U.U e (tQ U.m dj L) (sJ U.z h) λe _ _=>qs P n dj Z f (i::done) a e L h K
  |none=>Gc (E8 done (x::r) []) λy=>Lv P n dj y.2.1 e L h (λe L h=>qs P n dj Z f (y.1::done) y.2.2 e L h K) Z
def s0(P:eN)(n dj:Nat)(Z:vF):j4->cy->List LE->J->fw->Prop
 |.nil,e,L,h,K=>K e L h
 |.top,_,_,_,_=>True
 |.bot,_,_,_,_=>False
 |.v U m z r,e,L,h,K=>hS P n U e (tQ m dj L) (sJ z h) λe _ _=>s0 P n dj Z r e L h K
 |.w U y r,e,L,h,K=>bif tS dj e U.k&&sN dj e L {U:=U,after:=[],m:=false,y:=y}then hS P n U e L h (λe L h=>s0 P n dj Z r e L h K)else False
 |.two U y r s,e,L,h,K=>(bif tS dj e U.k&&sN dj e L {U:=U,after:=[],m:=false,y:=y}then hS P n U e L h (λe L h=>s0 P n dj Z r e L h K)else False)/\s0 P n dj Z s e L h K
 |.d q U y r,e,L,h,K=>P7 P U e L h (bif tS dj e U.k&&sN dj e L {U:=U,after:=[],m:=false,y:=y}then hS P n U e L h (λe L h=>s0 P n dj Z r e L h K)else False) (Z q)
 |.ai9 q U y r s,e,L,h,K=>P7 P U e L h (bif tS dj e U.k&&sN dj e L {U:=U,after:=[],m:=false,y:=y}then hS P n U e L h (λe L h=>s0 P n dj Z r e L h K)else False) (Z q)/\s0 P n dj Z s e L h K
def W4(P:eN)(n:Nat)(t:j4)(e:cy)(L:List LE)(h:J)(K:fw)(Z:vF):Prop:=s0 P n L.length Z t e L h K
theorem agn dj e L U:sN dj e L {U:=U.U,after:=[],m:=false,y:=U.y}=sN dj e L U:=rfl
theorem ajz{P:eN}{n dj:Nat}{e:cy}{L:List LE}{h:J}{K:fw}{Z:vF}(g:Nat×vu×rt->j4):∀l,s0 P n dj Z (G5 (l.map λy=>(y.2.1,g y))) e L h K=Gc l λy=>Lv P n dj y.2.1 e L h (λe L h=>s0 P n dj Z (g y) e L h K) Z
 |[]=>rfl
 |[x]=>by
  simp only[ec,List.map_nil,G5,Gc,Lv];cases x.2.1.q<;>simp only[s0,agn]
 |x::y::l=>by
  have:=ajz (P:=P) (n:=n) (dj:=dj) (e:=e) (L:=L) (h:=h) (K:=K) (Z:=Z) g (y::l);simp only[ec,G5,Gc,Lv]at this⊢;cases x.2.1.q<;>simp only[s0,agn]<;>rw[this]
theorem W3{P:eN}{n dj:Nat}{K:fw}{Z:vF}:∀f done t e L h,s0 P n dj Z (E9 f done t) e L h K=qs P n dj Z f done t e L h K
 |_,_,[],_,_,_=>by unfold E9 qs;rfl
 |0,_,_::_,_,_,_=>by rfl
 |f+1,done,x::r,e,L,h=>by
  unfold E9 qs;cases hp:zc done (x::r)with
  |some y=>
   obtain⟨i,U,a⟩:=y;simp only[s0];congr 1;funext e _ _;exact W3 f _ _ _ _ _
  |none=>
   simp only[];rw[ajz];congr 1;funext y;have:(λe L h=>s0 P n dj Z (E9 f (y.1::done) y.2.2) e L h K)=λe L h=>qs P n dj Z f (y.1::done) y.2.2 e L h K:=by
    funext e L h;exact W3 f _ _ _ _ _
   rw[this]
theorem YG{α:Type}{p:α->Prop}:∀{l:List α},Gc l p->∀x∈l,p x
 |[],_,x,a=>by cases a
 |[y],h,x,a=>by rw[hV.1 a];exact h
 |y::z::l,h,x,a=>by
  rcases ek.1 a with rfl|a;exact h.1;exact YG h.2 x a
theorem afu{l:List Nat}{i:Nat}:EV l i=true↔i∈l:=by
 induction l with
 |nil=>simp[EV]
 |cons x r a=>simp only[EV,H2,a,ek];constructor<;>(rintro(h|h))<;>simp_all
theorem ahj{done:List Nat}:∀{l:List Nat},wy done l=true↔∀o∈l,o∈done
 |[]=>by simp[wy]
 |x::r=>by simp only[wy,h0,afu,ahj (l:=r),ek,forall_eq_or_imp]
def idx(t:rt):List Nat:=t.map (·.1)
theorem ag0{done:List Nat}:∀{t:rt}{i:Nat}{U:vu}{r:rt},zc done t=some (i,U,r)->(idx t).Nodup->(i,U)∈t/\(ir U.U.k&& !U.x)=true/\wy done U.after=true/\(idx r).Nodup/\(∀x,x∈r↔x∈t/\x.1≠i)
 |[],i,U,r,h,_=>by cases h
 |(o,p)::t,i,U,r,h,a=>by
  simp only[idx,ec,iV]at a;simp only[zc]at h;cases b:(ir p.U.k&& !p.x&&wy done p.after)with
  |true=>
   rw[b]at h;simp only[oY]at h;injection h with h;injection h with h1 ae;injection ae with ae c;subst h1;subst ae;subst c;obtain⟨q,s⟩:=(h0 _ _).mp b;refine⟨hU ..,q,s,a.2,λx=>⟨λd=>⟨gX _ d,λe=>a.1 aJ⟩,λ⟨d,l⟩=>?_⟩⟩
   grind
  |false=>
   rw[b]at h;simp only[uA]at h;split at h;rename_i u l0 v j;injection h with h;injection h with h1 ae;injection ae with ae c;subst h1;subst ae;subst c;obtain⟨g,f,m,n,w⟩:=ag0 j a.2;have l:o≠u:=λe=>a.1 aJ;refine⟨gX _ g,f,m,?_,λx=>?_⟩;simp only[idx,ec,iV];refine⟨λhm=>?_,n⟩
   grind
   grind
   grind
theorem agZ{done:List Nat}:∀{t:rt},zc done t=none->∀x∈t,(ir x.2.U.k&& !x.2.x)=true->wy done x.2.after=true->False
 |[],_,x,a,_,_=>by cases a
 |(o,p)::t,h,x,a,h1,ae=>by
  simp only[zc]at h;cases b:(ir p.U.k&& !p.x&&wy done p.after)with
  |true=>grind
  |false=>
   rw[b]at h;simp only[uA]at h;split at h
   grind
   rename_i c;rcases ek.1 a with rfl|a
   grind
   exact agZ c x a h1 ae
theorem ag1{done:List Nat}:∀{t pre:rt},(idx (pre++t)).Nodup->∀i U,(i,U)∈t->wy done U.after=true->∃r,(i,U,r)∈E8 done t pre/\(idx r).Nodup/\∀x,x∈r↔x∈pre++t/\x.1≠i
 |[],pre,_,i,U,a,_=>by cases a
 |(o,p)::t,pre,c,i,U,a,b=>by
  by_cases d:(i,U)=(o,p);injection d with h1 ae;subst h1;subst ae;refine⟨pre++t,by simp[E8,b],?_,λx=>?_⟩
  grind [idx]
  have k:∀y∈pre++t,y.1≠i:=λy h e=>by
   simp only[idx,fF,ec]at c
   grind
  grind
  have f:(i,U)∈t:=by
   grind
  have g:(idx ((pre++[(o,p)])++t)).Nodup:=aJ;obtain⟨r,h1,ae,j⟩:=ag1 g i U f b
  grind [E8]
def Dc(ops:Array cp)(S:Nat->Prop):Prop:=∀o a,ops[o]?=some a->S o->∀x∈a.after,rr .any x=true->S x.on
def yg(ops:Array cp)(i o:Nat):Prop:=∀S:Nat->Prop,Dc ops S->S o->S i
theorem afr(a:Array Nat) i:∀(l:List Edge) s,(l.foldl (λs e=>if rr .any e then s|||2^e.on|||a.getD e.on 0 else s) s).testBit i=true->s.testBit i=true\/∃e∈l,rr .any e=true/\(i=e.on\/(a.getD e.on 0).testBit i=true)
 |[],s,h=>.inl h
 |e::l,s,h=>by
  simp only[Dk]at h;rcases afr a i l _ h with h1|⟨b,h1,ae⟩
  grind
  grind
theorem Y2 ops:∀(l:List cp)(a:Array Nat),(∀o,l[o]?=ops[a.size+o]?)->(∀o i,(a.getD o 0).testBit i=true->yg ops i o)->∀o i,((l.foldl (λa U=>a.push (U.after.foldl (λs e=>if rr .any e then s|||2^e.on|||a.getD e.on 0 else s) 0)) a).getD o 0).testBit i=true->yg ops i o
 |[],a,_,h=>h
 |U::l,a,ak,h=>by
  simp only[Dk];refine Y2 ops l _ (λo=>?_) (λo i b=>?_);have:=ak (o+1)
  grind
  by_cases k:o<a.size;refine h o i ?_;rw[FC,ajW,aD I]at b;simp_all;by_cases g:o=a.size;subst g;rw[FC,ajW,aP rfl,Option.getD_some,<-ajV]at b;have j:ops[a.size]?=some U:=by have:=ak 0;grind
  rcases afr a i _ _ b with h1|⟨e,he,c,h1⟩
  grind
  intro S dr d;have f:=dr _ _ j d e aJ c;rcases h1 with rfl|h1;omega;exact h _ _ h1 S dr f
  grind
theorem vL ops{i o:Nat}(h:((eR ops).getD o 0).testBit i=true):yg ops i o:=by
 unfold eR at h;rw[<-ajV]at h;exact Y2 ops ops.toList #[] (λo=>bd) (λo i a=>aJ) o i h
structure Ds(P:eN)(ops:Array cp):Prop where
 OE:∀(o:Nat)(U:cp) cs b,ops[o]?=some U->U.op≠.select cs b
 lt:∀(i:Nat)(U:cp),ops[i]?=some U->∀x∈U.after,rr .any x=true->x.on<i
 dst:∀(i:Nat)(U:cp),ops[i]?=some U->ir (bQ P U.op)=true->∃d,U.dst=some d/\d∉U.looksAt ops
 A:∀(i x:Nat)(cv jz:cp),i≠x->ops[i]?=some cv->ops[x]?=some jz->∀d,jz.dst=some d->d∈cv.looksAt ops->yg ops x i\/(EK P ops (eR ops) x jz=false/\yg ops i x)
 B:∀(i x:Nat)(cv jz:cp),i≠x->ops[i]?=some cv->ops[x]?=some jz->∀d,jz.dst=some d->cv.dst=some d->(EK P ops (eR ops) x jz=false/\yg ops i x)\/(EK P ops (eR ops) i cv=false/\yg ops x i)
 C:∀(i x:Nat)(cv jz:cp),i≠x->ops[i]?=some cv->ops[x]?=some jz->rN (bQ P cv.op)=true->qJ P ops (eR ops) i=false->ir (bQ P jz.op)=true\/EJ (bQ P jz.op)=true\/xF (bQ P jz.op)=true\/J9 (bQ P jz.op)=true\/tC ops jz=true\/yg ops i x\/yg ops x i
theorem aAq(h:OH P ops=true):Ds P ops:=by
 simp only[OH,h0,rl,uo]at h;obtain⟨h1,ae⟩:=h;have k:∀{i:Nat}{U:cp},ops[i]?=some U->i<ops.size:=λh=>(zw.1 h).1;have f:∀i x cv e,i≠x->ops[i]?=some cv->ops[x]?=some e->OT P ops (eR ops) i x=true:=by
  grind
 refine⟨Region.noSelect_spec h1,λi U c x b m=>?_,λi U c n=>?_,λi x cv e g c b d j hm=>?_,λi x cv e g c b d j l=>?_,λi x cv e g c b hm he=>?_⟩
 grind
 grind
 have:=f i x cv e g c b;simp only[OT,c,b,j,h0,H2,x1,List.contains_eq_mem,decide_eq_false_iff_not]at this;rcases this.1 with(a|a)|a
 grind
 exact .inl (vL ops a);exact .inr ⟨a.1,vL ops a.2⟩;have:=f i x cv e g c b;simp only[OT,c,b,j,l,h0,H2,x1,bne_self_eq_false,ug,false_or]at this;rcases this.2 with a|a;exact .inl ⟨a.1,vL ops a.2⟩;exact .inr ⟨a.1,vL ops a.2⟩;unfold qJ at he;rw[List.any_eq_false]at he;have ay:=he x (uo.2 (k b));simp only[h0,bne_iff_ne,ne_eq,g,not_false_eq_true,true_and,Bool.not_eq_true]at ay;unfold ZC at ay;rw[c,b]at ay;simp only[hm,zB,Bool.not_eq_false',H2]at ay;rcases ay with(((((a|a)|a)|a)|a)|a)|a
 grind
 grind
 grind
 grind
 grind
 exact .inr (.inr (.inr (.inr (.inr (.inl (vL ops a))))));exact .inr (.inr (.inr (.inr (.inr (.inr (vL ops a))))))
theorem NU{i:Nat}{U:cp}(h1:ir (bQ P U.op)=true)(ae:qJ P ops (eR ops) i=false):EK P ops (eR ops) i U=true:=by
 unfold EK;grind
def mK(ops:Array cp)(i:Nat):Option Nat:=(ops[i]?).bind (·.dst)
def ii(ops:Array cp):List (Nat×ax)->Act->Act
 |[],a=>a
 |(i,v)::E,a=>(ii ops E a).put (mK ops i) v
theorem KV{ops:Array cp} d v a:∀E,(∀x∈E,∀t,d=some t->mK ops x.1≠some t)->ii ops E (a.put d v)=(ii ops E a).put d v
 |[],_=>rfl
 |(i,u)::E,h=>by
  simp only[ii];rw[KV d v a E λx b=>h x (gX _ b)];exact Act.put_comm _ _ _ (λt c=>h (i,u) (hU ..) t c)
theorem aha{ops:Array cp} i v a b(h:∀x∈b,∀t,mK ops i=some t->mK ops x.1≠some t):∀c,ii ops (c++(i,v)::b) a=ii ops (c++b) (a.put (mK ops i) v)
 |[]=>(KV _ v a b h).symm
 |(o,u)::c=>by simp only[List.cons_append,ii,aha i v a b h c]
theorem ag9{ops:Array cp}{U:cp}(c:∀cs b,U.op≠.select cs b) a:∀E,(∀x∈E,∀t,mK ops x.1=some t->t∉U.looksAt ops)->dk (ii ops E a).eval U=dk a.eval U/\hF U (lI ops (ii ops E a).tmps)=hF U (lI ops a.tmps)
 |[],_=>⟨rfl,rfl⟩
 |(i,u)::E,h=>by
  obtain⟨h1,ae⟩:=ag9 c a E λx d=>h x (gX _ d);simp only[ii];rw[RM (ops:=ops) U c _ _ _ (h (i,u) (hU ..)),W0 (ops:=ops) U _ _ _ (h (i,u) (hU ..))]
  grind
theorem ag8{ops:Array cp}(d:List vl):∀(E:List (Nat×ax))(a:Act),ii ops E {a with defers:=d}={ii ops E a with defers:=d}
 |[],_=>rfl
 |(i,u)::E,a=>by
  simp only[ii,ag8 d E a];cases mK ops i<;>rfl
theorem O0{ops:Array cp}:∀E a,(ii ops E a).defers=a.defers
 |[],_=>rfl
 |(i,u)::E,a=>by
  simp only[ii];rw[<-O0 E a];cases mK ops i<;>rfl
theorem aF5{U:cp}{a:Act}{w:bw}{next':Act->bw->Prop}(he:dk (ii ops E a).eval U=dk a.eval U)(k:∀x∈E,∀t,U.dst=some t->mK ops x.1≠some t)(j:∀(v:ax)(b:Act)(fQ:bw),b.tmps=a.tmps->next' (ii ops E (b.put U.dst v)) fQ->next (b.put U.dst v) fQ)(h:U.wp P (ii ops E a) w next' (λ_ _ _=>False)):U.wp P a w next Q:=by
 unfold BF at h⊢;rw[he]at h;have key:∀v(b:Act) fQ,b.tmps=a.tmps->next' ((ii ops E b).put U.dst v) fQ->next (b.put U.dst v) fQ:=λv b fQ l g=>j v b fQ l (by rw[KV _ v b E k];exact g)
 generalize(dk a.eval U).run P w=r at h⊢;cases r with
 |ok x bk=>
  cases x<;>simp only[alJ]at h⊢
  grind
  grind
  case defer d=>
   have:=key fp {a with defers:=d::a.defers} bk rfl;rw[ag8]at this;refine this ?_;rw[O0]at h;exact h
  case enter f args=>
   refine h.mono λe i g=>?_;cases e with
   |returned v=>grind
   |panicked c=>grind
   |outgrown=>obtain⟨_,_,g⟩:=g;grind
  case row row args=>exact h.mono λv i g=>key v a i rfl g
 |halt x bk=>
  cases x<;>simp only[alJ]at h
section
variable {P:eN}{al:J}{a':bw}{n:Nat}{β:Nat->Nat}{L:List LE}{h:J}{e:cy}{a:Act}{w:bw}
def yd(P:eN)(ops:Array cp)(U:cp)(ac:Act)(v:ax)(w:bw):Prop:=(hF U (lI ops ac.tmps)=true/\(dk ac.eval U).run P w= .ok (.value v) w)\/(hF U (lI ops ac.tmps)=false/\v=fp)
theorem aF2{k:lL}(hk:ir k=true)(hm:rN k=false) c b V:fh k e L h V=fh k e c b V:=by
 cases k with
 |load agg m x=>grind [rN]
 |lookup f z x k ok=>grind [rN]
 |Hb x=>grind [rN]
 |eqv neg a x y=>rcases a with _|_|_|_|_|a<;>rfl
 |unop op x=>cases op<;>rfl
 |conv s d x=>rcases s with _|_|s<;>rcases d with _|d<;>rfl
 |uv op ty x y=>cases op<;>rcases ty with _|ty<;>rfl
 |_=>rfl
theorem Hn:∀N L i,cz (tP N L) i=(cz L i).map λl=>if i<N then S4 l else acH l
 |_,[],i=>by rfl
 |0,l::r,0=>by rfl
 |0,l::r,i+1=>by simp only[tP,cz,Hn 0 r i,Nat.not_lt_zero,mm]
 |N+1,l::r,0=>by rfl
 |N+1,l::r,i+1=>by simp only[tP,cz,Hn N r i,Nat.add_lt_add_iff_right]
theorem ahm{L:List LE}{i:Nat}:fo (tP N L) i↔fo L i:=by
 unfold fo;simp only[Hn,ye];constructor;rintro⟨l,⟨k,hk,rfl⟩,b⟩;refine⟨k,hk,?_⟩;rw[<-b];by_cases a:i<N;rw[aP a];cases k<;>rfl;rw[aD a];cases k<;>rfl;refineλ⟨k,hk,b⟩=>⟨_,⟨k,hk,rfl⟩,?_⟩;rw[<-b];by_cases a:i<N;rw[aP a];cases k<;>rfl;rw[aD a];cases k<;>rfl
theorem Vc{L:List LE}:x.iQ (tP N L)↔x.iQ L:=by cases x<;>simp only[aK.iQ,ahm]
theorem aAB{L:List LE}:x.ok (tP N L)↔x.ok L:=by
 cases x with
 |a xs=>simp only[aK.ok,Vc]
 |_=>simp only[aK.ok,Vc]
theorem af0(w:bw)(bK size:Nat):w.ownsRow 0 bK size (.slice none 0 0) 0 []:=⟨bd,.inl ⟨rfl,rfl⟩⟩
theorem zk{L:List LE}{h:J}{w:bw}{β:Nat->Nat}:kq β (tP N L) h w↔ng h w/\∀i l,i<N->cz L i=some l->l.isRow=false->l.fu β i w:=by
 constructor;refineλs=>⟨s.hw,λi l a ak b=>?_⟩;have:=s.cA i (S4 l) (by rw[Hn,ak,Option.map_some,aP a]);cases l<;>first|exact this|cases b
 refineλ⟨h1,ae⟩=>⟨h1,λi k hk=>?_⟩;rw[Hn,ye]at hk;obtain⟨l,ak,rfl⟩:=hk;by_cases a:i<N;rw[aP a];cases b:l.isRow with
 |false=>
  have:=ae i l a ak b;cases l<;>first|exact this|cases b
 |true=>
  cases l with
  |row bK size A n cap xs=>exact⟨af0 w _ _,λg e=>by cases e⟩
  |_=>cases b
 rw[aD a];cases l<;>first|trivial|exact⟨af0 w _ _,λg e=>by cases e⟩
theorem ahU{z:Bool}(s:kq β L h w):kq β (tQ m N L) (sJ z h) w:=by
 have a:ng (sJ z h) w:=by
  cases z;exact s.hw;exactλo U b=>(by cases b)
 cases m;exact⟨a,s.cA⟩;exact zk.2 ⟨a,λi l _ ak _=>s.cA i l ak⟩
theorem agl(c:dN L):dN (tP N L):=by
 intro i cs ty a x d;rw[Hn,ye]at a;obtain⟨l,ak,b⟩:=a;have:l= .own cs ty:=by
  by_cases a:i<N;rw[aP a]at b;cases l<;>first|exact b|cases b
  rw[aD a]at b;cases l<;>cases b
 subst this;exact Vc.2 (c i cs ty ak x d)
theorem aAy(a:dN L):dN (tQ m N L):=by
 cases m;exact a;exact agl a
theorem ago:x.ok (tQ m N L)↔x.ok L:=by
 cases m;rfl;exact aAB
theorem aCj(r:dn n β L e a):dn n β (tQ m N L) e a:=⟨r.defers,r.size,r.env,λt=>ago.2 (r.ok t)⟩
theorem api(s:kq β L h w)(r:dn n β L e a)(d:dN L){U:cp}(hk:ir (bQ P U.op)=true){V:aK->Prop}(hp:fh (bQ P U.op) e L h V):∃bH,V bH/\bH.ok L/\∀bk,(rN (bQ P U.op)=true->kq β L h bk)->(dk a.eval U).run P bk= .ok (.value (bH.c β)) bk:=by
 obtain⟨bH,h1,ae,j⟩:=RN r d hk hp;refine⟨bH,h1,ae,λbk t=>?_⟩;cases hm:rN (bQ P U.op)with
 |true=>exact j bk (t hm)
 |false=>
  have q:fh (bQ P U.op) e (tP 0 L) (λ_=>none) V:=by rw[aF2 hk hm _ _ V]at hp;exact hp
  obtain⟨k,_,_,g3⟩:=RN (L:=tP 0 L) (h:=λ_=>none) (r.agree (λ_ _=>rfl) λi f=>ahm.2 f) (agl d) hk q;have g:∀w,kq β (tP 0 L) (λ_=>none) w:=λw=>zk.2 ⟨λo U p=>(by cases p),λi l f=>I⟩;have m:=j w s;have b:=g3 w (g w);rw[m]at b;injection b with b;injection b with b;rw[b];exact g3 bk (g bk)
theorem ajy{U:cp}(s:kq β L h w)(r:dn n β L e a)(B:dN L)(hk:ir (fX P ops U).k=true){d:Nat}(u:U.dst=some d)(hp:hS P n (fX P ops U) e L h K):ir (bQ P U.op)=true/\∃bH,K (ji e d bH) L h/\bH.ok L/\d<n/\∀bk,(rN (bQ P U.op)=true->kq β L h bk)->yd P ops U a (bH.c β) bk:=by
 have x:∀{bH:aK}{e:cy},g8 n (some d) bH e L h K->d<n/\K (ji e d bH) L h:=by
  intro bH e E;simp only[g8]at E;simp_all
 unfold fX at hp hk;split at hp;rename_i g f;rw[f]at hk;simp only at hk;refine⟨hk,?_⟩;have run:∀l,l=e->fZ P n (bQ P U.op) U.dst l L h K->hF U (lI ops a.tmps)=true->∃bH,K (ji e d bH) L h/\bH.ok L/\d<n/\∀bk,(rN (bQ P U.op)=true->kq β L h bk)->yd P ops U a (bH.c β) bk:=by
  rintro l rfl hw p;rw[ad8 _ hk,u]at hw;obtain⟨bH,A,z,F⟩:=api s r B hk hw;obtain⟨q,z2⟩:=x A;exact⟨bH,z2,z,q,λbk I=>.inl ⟨p,F bk I⟩⟩
 have skip:∀l,l=e->g8 n U.dst (.v fp) l L h K->hF U (lI ops a.tmps)=false->∃bH,K (ji e d bH) L h/\bH.ok L/\d<n/\∀bk,(rN (bQ P U.op)=true->kq β L h bk)->yd P ops U a (bH.c β) bk:=by
  rintro l rfl hw p;rw[u]at hw;obtain⟨q,z2⟩:=x hw;exact⟨.v fp,z2,trivial,q,λbk _=>.inr ⟨p,rfl⟩⟩
 cases i:U.guard with
 |none=>
  rw[i]at f;injection f with f;subst f;exact run e rfl hp (by simp[hF,i])
 |some y=>
  obtain⟨o,J⟩:=y;rw[i]at f;simp only[xI]at f;split at f;rename_i M C;split at f;rename_i t D;injection f with f;subst f;obtain⟨G,H⟩:=PT r C D;simp only[hS]at hp;split at hp;rename_i b j;have m:=G b j;cases J<;>cases b<;>simp only[fT]at hp;exact run _ (nb j) hp (by simp[hF,i,m]);exact skip _ (nb j) hp (by simp[hF,i,m]);exact skip _ (nb j) hp (by simp[hF,i,m]);exact run _ (nb j) hp (by simp[hF,i,m]);rename_i aG j;have m:=H aG j;simp_all[hF,i,m]
  grind
  grind
  grind
 rename_i f;rw[f]at hk;cases hk
theorem aFW{U:cp}(hk:EJ (bQ P U.op)=true)(hp:hS P n (fX P ops U) e L h K):hS P n (fX P ops U) e L h λp a i=>K p a i/\(a=L\/∃l,a=L++[l])/\i=h:=by
 have q:∀{d:Option Nat}{bH:aK}{e:cy}{a:List LE},(a=L\/∃l,a=L++[l])->g8 n d bH e a h K->g8 n d bH e a h λp a i=>K p a i/\(a=L\/∃l,a=L++[l])/\i=h:=by
  intro d bH e a ak f;cases d with
  |none=>exact⟨f,ak,rfl⟩
  |some d=>
   unfold g8 at f⊢
   grind
 have v:∀(d:Option Nat)(e:cy),fZ P n (bQ P U.op) d e L h K->fZ P n (bQ P U.op) d e L h λp a i=>K p a i/\(a=L\/∃l,a=L++[l])/\i=h:=by
  intro d e f;generalize bQ P U.op=k at hk f⊢;cases k<;>simp only[EJ]at hk<;>first|grind|skip
  simp only[fZ,force_eq]at f⊢
  grind
  simp only[fZ,DV,xk]at f⊢
  grind
  simp only[fZ,DV,xk]at f⊢
  grind
  simp only[fZ,DV,xk]at f⊢
  grind
  simp only[fZ]at f⊢;split at f;cases f with
  |mk m ak ay j hm o=>exact .mk m ak ay j hm λg=>q (.inr ⟨_,rfl⟩) (o g)
  |one m z r s ak ay j hm o=>exact .one m z r s ak ay j hm λg=>q (.inr ⟨_,rfl⟩) (o g)
  |room c ak ay j hm o=>exact .room c ak ay j hm λg=>q (.inr ⟨_,rfl⟩) (o g)
  omega
 unfold fX at hp⊢;split at hp;rename_i g w;simp only[hS]at hp⊢;split at hp
 grind
 rename_i t u;split at hp;rename_i b j;cases u<;>cases b<;>simp only[fT]at hp⊢<;>first|grind|grind
 grind
 omega;exact hp.elim
theorem an1{k:lL}(hk:ir k=true):qE k=k:=by cases k<;>first|rfl|grind [ir]
theorem an2 k:ir (qE k)=ir k:=by cases k<;>rfl
theorem aqD k:ir (DW k)=ir k:=by cases k<;>rfl
theorem aqC{k:lL}(hk:ir k=true):DW k=k:=by cases k<;>first|rfl|grind [ir]
theorem YM{n m:Nat}{S:List ax->Prop}{h:J}{K:aK->List LE->J->Prop}(hp:x5 bK size bytes A n cap m S L λx L=>K x L h):De bK size bytes A n cap m S L h K:=by
 cases hp with
 |c3 i xs aG d c h1 hm a k=>exact .c3 i xs aG d c h1 hm a k
 |fresh aG aT e p c h1 hm a k=>exact .fresh aG aT e p c h1 hm a k
 |off i b o N l xs aG aT d j hC c h1 al hm a f g=>exact .off i b o N l xs aG aT d j hC c h1 al hm a f g
theorem VQ:∀fA aG,ph L fA=some aG->Kz L fA=none:=by
 have h1:∀(x:aK) v,zf L x=some v->Oz L x=none:=by
  intro x v b;cases x<;>simp only[zf,Oz]at b⊢;case p i off=>split at b<;>first|(rename_i e;rw[e])|cases b
  case s i off l c=>split at b<;>first|(rename_i e;rw[e])|cases b
  case m i=>split at b<;>first|(rename_i e;rw[e])|cases b
 have ae:∀(xs:List aK) aG,q7 L xs=some aG->KA L xs=none:=by
  intro xs;induction xs with
  |nil=>intro _ _;rfl
  |cons x xs g=>
   intro aG b;simp only[q7]at b;split at b;rename_i v r d f;simp only[KA,h1 x v d,g r f];cases b
 intro fA;induction fA with
 |nil=>intro _ _;rfl
 |cons x xs g=>
  intro aG b;simp only[ph]at b;split at b;rename_i v r d f;have:afY L x=none:=by
   cases x with
   |a aO=>
    simp only[raw]at d;split at d;rename_i q h;exact ae aO q h;cases d
   |_=>simp only[raw]at d;exact h1 _ _ d
  simp only[Kz,this,g r f];cases b
theorem aBC{xs:List aK}{K:List LE->J->Prop}{b:Nat}(a:Kz L xs=none):mx (b+1) xs K L h=K L h:=by
 rw[mx,a]
theorem ahh:∀fA aG,q7 L fA=some aG->ph L fA=some aG
 |[],aG,h=>h
 |x::xs,aG,h=>by
  simp only[q7]at h;split at h;rename_i v r b c;injection h with h;have a:raw L x=some v:=by cases x<;>first|exact b|grind [zf]
  simp only[ph,a,ahh xs r c,h]
  grind
theorem YL{m:Nat}{y:aK}(hp:HW n bK size bytes A m cap y d e L h K):HV n bK size bytes A m cap y d e L h K:=by
 unfold HW at hp;unfold HV;split at hp;exact .ah (YM (K:=λx L h=>g8 n d x e L h K) hp);split at hp;split at hp;split at hp;rename_i b _ _ aG a;rw[aBC (VQ b aG (ahh b aG a)),a];exact .ah (YM (K:=λx L h=>g8 n d x e L h K) hp)
 grind
 omega;omega;omega
theorem Zl(hp:HX P n f fA d e L h K):Bd P n f fA d e L h K:=by
 unfold HX at hp;unfold Bd;split at hp;rename_i aG a;simp only[mx,VQ fA aG a,a];clear a;induction hp with
 |mk ar ay _ k=>exact .ah (.mk ar ay k)
 |b4 i bK size A m cap xs g _ l=>exact .b4 i bK size A m cap xs g λc o j b=>l c o j b
 grind
theorem Re{k:lL}(hp:fZ P n (qE k) d e L h K):fZ P n k d e L h K:=by
 cases k<;>first|exact hp|skip
 case call f g=>exact Zl hp
 case DF x g=>
  simp only[qE,fZ]at hp⊢;split at hp;exact Zl hp;omega
 case append t bK s b z x y=>
  simp only[qE,fZ]at hp⊢;split at hp;exact YL hp;split at hp;rename_i cs ty _;cases a:(hW cs.length (_*s)&&p0 _ _&&hW ty bK&&p0 _ 9223372036854775807)with
  |false=>grind
  |true=>
   rw[a]at hp;simp only[oY]at hp⊢;split at hp;obtain⟨c⟩:=hp;exact⟨λb a=>YL (c b a)⟩;omega
  omega;omega
theorem Zn{U:cK}(hp:hS P n (uz U) e L h K):hS P n U e L h K:=by
 unfold hS uz at*;simp only at hp⊢;split at hp;exact Re hp;rename_i t a d;split at hp;rename_i b c;cases a<;>cases b<;>simp only[fT]at hp⊢<;>first|exact Re hp|exact hp
 omega;omega
theorem anX(hp:PM P n f fA d e L h K):Bd P n f fA d e L h K:=by
 unfold PM at hp;unfold Bd;split at hp;rename_i aG a;obtain⟨ar,ay,k⟩:=hp;simp only[mx,VQ fA aG a,a];exact .ah (.mk ar ay k)
 grind
theorem abn{k:lL}(hp:fZ P n (DW k) d e L h K):fZ P n k d e L h K:=by
 cases k<;>first|exact Re hp|skip
 exact anX hp
theorem aqE{U:cK}(hp:hS P n (Ch U) e L h K):hS P n U e L h K:=by
 unfold hS Ch at*;simp only at hp⊢;split at hp;exact abn hp;rename_i t a d;split at hp;rename_i b c;cases a<;>cases b<;>simp only[fT]at hp⊢<;>first|exact abn hp|exact hp
 omega;omega
structure yi(P:eN)(cm:List Nat)(al:J)(a':bw)(n dj:Nat)(ops:Array cp)(listed:Array Bool)(a:Act)(w:bw)(E:List (Nat×ax))(done:List Nat)(e:cy)(L:List LE)(h:J)(β:Nat->Nat):Prop where
 size:listed.size=ops.size
 closed:Dc ops λo=>listed.getD o false=true
 Ae:Dc ops λo=>o∈done
 sub:∀o,listed.getD o false=true->o∈done
 AZ:∀o,o∈done->listed.getD o false=true\/∃v,(o,v)∈E
 Ru:∀o,o∈done->o<ops.size
 nodup:(E.map (·.1)).Nodup
 info:∀o v,(o,v)∈E->o∈done/\listed.getD o false=false/\∃hj d,ops[o]?=some hj/\hj.dst=some d/\(ir (bQ P hj.op)=true/\qJ P ops (eR ops) o=false)/\
  ∃C:bw->Prop,(rN (bQ P hj.op)=true->∀bk,kq β (tQ (pN P cm ops (eR ops) o) dj L) (sJ (qu P cm ops (eR ops) o) h) bk->C bk)/\∀bk,(rN (bQ P hj.op)=true->C bk)->yd P ops hj (ii ops E a) v bk
 mem:cX al a' β L h w
 rel:dn n β L e (ii ops E a)
 oI:dN L
def BN(P:eN)(cm:List Nat)(ops:Array cp)(done:List Nat)(t:rt):Prop:=(idx t).Nodup/\∀i U,(i,U)∈t↔(i∉done/\∃cv,ops[i]?=some cv/\U={U:=ke P cm ops (eR ops) i cv,after:=(cv.after.toList.filter (rr .any)).map (·.on),m:=pN P cm ops (eR ops) i,x:=qJ P ops (eR ops) i,y:=tC ops cv,z:=qu P cm ops (eR ops) i,q:=vP P cm ops cv})
theorem ahk:wy done ((cv.after.toList.filter (rr .any)).map (·.on))=true↔∀x∈cv.after,rr .any x=true->x.on∈done:=by
 rw[ahj]
 grind
theorem BN.step{cm:List Nat}{ops:Array cp}{done:List Nat}{t r:rt}(c:BN P cm ops done t){i:Nat}(a:(idx r).Nodup)(b:∀x,x∈r↔x∈t/\x.1≠i):BN P cm ops (i::done) r:=by
 refine⟨a,λo U=>?_⟩;rw[b,c.2 o U]
 grind
theorem Gs{i:Nat}(a:ops[i]?=some cv):mK ops i=cv.dst:=by simp[mK,a]
theorem agh{i:Nat}{U:cp}:ir (ke P cm ops b i U).k=ir (fX P ops U).k:=by
 unfold ke;split;rfl;split;exact aqD _;exact an2 _
theorem yi.ahead(ok:Ds P ops)(S:yi P cm al a' n dj ops listed a w E done e L h β){i:Nat}(l:ops[i]?=some cv)(F:i∉done)(Tl:∀x∈cv.after,rr .any x=true->x.on∈done)(hk:ir (ke P cm ops (eR ops) i cv).k=true)(j:qJ P ops (eR ops) i=false)(hp:hS P n (ke P cm ops (eR ops) i cv) e (tQ (pN P cm ops (eR ops) i) dj L) (sJ (qu P cm ops (eR ops) i) h) K):∃M v,K M (tQ (pN P cm ops (eR ops) i) dj L) (sJ (qu P cm ops (eR ops) i) h)/\yi P cm al a' n dj ops listed a w ((i,v)::E) (i::done) M L h β:=by
 have m:ir (fX P ops cv).k=true:=by grind [<-agh]
 have D:ir (bQ P cv.op)=true:=by
  unfold fX at m;split at m;omega;cases m
 have R:ke P cm ops (eR ops) i cv=fX P ops cv:=by
  unfold ke;split;rfl;split;unfold Ch;rw[aqC m];unfold uz;rw[an1 m]
 rw[R]at hp;obtain⟨d,s,lX⟩:=ok.dst i cv l D;obtain⟨_,bH,V,U,Z,ch⟩:=ajy (ahU S.mem.cA) (aCj S.rel) (aAy S.oI) m s hp;have eS:i<ops.size:=(zw.1 l).1;have J:mK ops i=some d:=by rw[Gs l,s]
 refine⟨ji e d bH,bH.c β,V,⟨S.size,S.closed,?_,λo f=>gX _ (S.sub o f),λo f=>?_,λo f=>?_,?_,λo v f=>?_,S.mem,?_,S.oI⟩⟩;intro o z f H x j W;rcases ek.1 H with rfl|H
 grind
 exact gX _ (S.Ae o z f H x j W);rcases ek.1 f with rfl|f;simp;rcases S.AZ o f with h1|⟨v,h1⟩
 grind
 grind
 rcases ek.1 f with rfl|f;omega;exact S.Ru o f;rw[ec,iV];refine⟨λhm=>?_,S.nodup⟩;obtain⟨x,j,J3⟩:=cU.1 hm;have xC:=(S.info x.1 x.2 j).1
 grind
 have O:∀(k:Nat)(g:cp)(u:ax)(bk:bw),k∈done->ops[k]?=some g->yd P ops g (ii ops E a) u bk->yd P ops g (ii ops ((i,bH.c β)::E) a) u bk:=by
  intro k g u bk T N B;have Y:k≠i:=λe=>F aJ;have r:∀t,mK ops i=some t->t∉g.looksAt ops:=by
   intro t y hm;rw[J]at y;injection y with y;subst y;rcases ok.A k i g cv Y N l d s hm with Q|⟨I,_⟩;exact F (Q _ S.Ae T);rw[NU D j]at I;cases I
  have q:=RM (ops:=ops) g (λcs b=>ok.OE k g cs b N) (ii ops E a) (mK ops i) (bH.c β) r;have p:=W0 (ops:=ops) g (ii ops E a) (mK ops i) (bH.c β) r;unfold yd at B⊢;simp_all[ii,q,p]
 rcases ek.1 f with f|f;injection f with q p;subst q;subst p;refine⟨hU ..,?_,cv,d,l,s,⟨D,j⟩,λbk=>kq β (tQ (pN P cm ops (eR ops) o) dj L) (sJ (qu P cm ops (eR ops) o) h) bk,λ_ _ X=>X,λbk G=>?_⟩;cases ak:listed.getD o false with
 |false=>rfl
 |true=>exact absurd (S.sub o ak) F
 have B:=ch bk G;have r:∀t,mK ops o=some t->t∉cv.looksAt ops:=by
  grind
 have q:=RM (ops:=ops) cv (λcs b=>ok.OE o cv cs b l) (ii ops E a) (mK ops o) (bH.c β) r;have p:=W0 (ops:=ops) cv (ii ops E a) (mK ops o) (bH.c β) r;unfold yd at B⊢;simp_all[ii,q,p];obtain⟨i1,i2,z,mI,i3,i4,i5,C,i6,i7⟩:=S.info o v f;exact⟨gX _ i1,i2,z,mI,i3,i4,i5,C,i6,λbk G=>O o z v bk i1 i3 (i7 bk G)⟩;simp only[ii];rw[J];exact S.rel.put Z (ago.1 U)
theorem yi.saturate(ok:Ds P ops):∀f done t E e,yi P cm al a' n dj ops listed a w E done e L h β->BN P cm ops done t->qs P n dj Z f done t e L h K->∃A c g' x4 d,yi P cm al a' n dj ops listed a w x4 c d L h β/\BN P cm ops c g'/\qs P n dj Z A c g' d L h K/\zc c g'=none:=by
 intro f;induction f with
 |zero=>
  intro done t E e S b hp;cases t with
  |nil=>exact⟨0,done,[],E,e,S,b,hp,rfl⟩
  |cons x r=>exact hp.elim
 |succ f m=>
  intro done t E e S b hp;cases t with
  |nil=>exact⟨0,done,[],E,e,S,b,hp,rfl⟩
  |cons x r=>
   cases j:zc done (x::r)with
   |none=>grind
   |some y=>
    obtain⟨i,U,q⟩:=y;simp only[qs,j]at hp;obtain⟨k,g,o,p,s⟩:=ag0 j b.1;obtain⟨z,cv,l,rfl⟩:=(b.2 i U).1 k;simp only[h0,x1]at g;obtain⟨d,v,u,B⟩:=S.ahead ok l z (ahk.1 o) g.1 g.2 hp;exact m (i::done) q _ d B (b.step p s) u
theorem aqU(h:listed.getD o true=false):listed.getD o false=false:=by
 grind
theorem aqP(a:o<listed.size)(h:listed.getD o false=false):listed.getD o true=false:=by
 grind
theorem Jk{i:Nat}(a:i<listed.size):(listed.setIfInBounds i true).getD o false=true↔o=i\/listed.getD o false=true:=by
 by_cases e:i=o;simp_all;rw[Sh false e];grind
theorem ano(ok:Ds P ops)(d:listed.size=ops.size)(e:F4 .any ops listed=[]):∀o,o<ops.size->listed.getD o false=true:=by
 intro o;induction o using Nat.strongRecOn with
 |_ o f=>
  intro a;cases ak:listed.getD o false with
  |true=>rfl
  |false=>
   exfalso;have:o∈F4 .any ops listed:=by
    refine UK.2 ⟨aqP I ak,ops[o],H1 a,λx b c=>?_⟩;have g:=ok.lt o ops[o] (H1 a) x b c
    grind
   grind
theorem Dc.set(ay:Dc ops λo=>listed.getD o false=true){i:Nat}(d:i∈F4 .any ops listed)(e:i<listed.size):Dc ops λo=>(listed.setIfInBounds i true).getD o false=true:=by
 obtain⟨_,cv,g,h⟩:=UK.1 d;intro o f a ak x b c;rcases(Jk e).1 ak with rfl|ak;rw[g]at a;injection a with a;subst a;exact aqT (h x b c);exact aqT (ay o f a ak x b c)
theorem RQ{U:cp}{C:(Nat->Nat)->Prop}(hC:∀u,(∀i,i<L.length->u i=β i)->C u)(l:jk al a' n C K next)(hk:EJ (bQ P U.op)=true)(m:cX al a' β L h w)(r:dn n β L e a)(o:dN L)(hp:fZ P n (bQ P U.op) U.dst e L h K):U.wp P a w next Q:=by
 cases j:U.op with
 |alloc t=>
  rw[j]at hp;simp only[bQ]at hp;split at hp;rename_i i p;split at hp;rename_i z q;exact aaI j p q hC l m r o hp;exfalso;clear hp;rw[j]at hk;simp only[bQ]at hk;(repeat' split at hk)<;>first|(cases hk;done)|(simp_all;done)
  exfalso;clear hp;rw[j]at hk;simp only[bQ]at hk;(repeat' split at hk)<;>first|(cases hk;done)|(simp_all;done)
 |box t x=>rw[j]at hp;exact aaJ j hC l m r o hp
 |buildSlice t len A=>
  rw[j]at hp;simp only[bQ]at hp;split at hp;rename_i el hu;split at hp;rename_i s b aE he;obtain⟨i,z,p,q,B,G,D,I,E⟩:=I5 he;subst B;subst E;exact aaK j hu p q D hC l m r o hp;exfalso;clear hp;rw[j]at hk;simp only[bQ]at hk;(repeat' split at hk)<;>first|(cases hk;done)|(simp_all;done)
  exfalso;clear hp;rw[j]at hk;simp only[bQ]at hk;(repeat' split at hk)<;>first|(cases hk;done)|(simp_all;done)
 |makeSlice t x y=>
  rw[j]at hp;simp only[bQ]at hp;split at hp;rename_i el hu;split at hp;rename_i s b aE he;exact aaM j hu he hC l m r o hp;exfalso;clear hp;rw[j]at hk;simp only[bQ]at hk;(repeat' split at hk)<;>first|(cases hk;done)|(simp_all;done)
  exfalso;clear hp;rw[j]at hk;simp only[bQ]at hk;(repeat' split at hk)<;>first|(cases hk;done)|(simp_all;done)
 |makeFunc fn first M=>rw[j]at hk;cases fn<;>simp only[bQ]at hk<;>(repeat' split at hk)<;>cases hk
 |binOp op t x y g'=>rw[j]at hk;cases op<;>simp only[bQ]at hk<;>(repeat' split at hk)<;>cases hk
 |unOp op t x=>rw[j]at hk;cases op<;>simp only[bQ]at hk<;>(repeat' split at hk)<;>cases hk
 |makeMap t r=>rw[j]at hk;cases r<;>cases hk
 |call c=>
  rw[j]at hk;obtain⟨F,args,J⟩:=c;cases F with
  |value f=>cases f<;>cases hk
  |invoke x y=>cases hk
  |builtin b=>cases b<;>simp only[bQ]at hk<;>(repeat' split at hk)<;>cases hk
 |move x=>rw[j]at hk;cases hk
 |assign x=>rw[j]at hp;exact aaN j hC l m r o hp
 |pick c x y=>rw[j]at hk;cases hk
 |build t A=>rw[j]at hk;simp only[bQ]at hk;(repeat' split at hk)<;>cases hk
 |insert t m k v=>rw[j]at hk;cases hk
 |load t x=>rw[j]at hk;simp only[bQ]at hk;(repeat' split at hk)<;>cases hk
 |store t x y=>rw[j]at hk;simp only[bQ]at hk;(repeat' split at hk)<;>cases hk
 |ready g=>rw[j]at hk;cases hk
 |waits g=>rw[j]at hk;cases hk
 |nilCheck x=>rw[j]at hk;cases hk
 |convert s d x=>rw[j]at hk;simp only[bQ]at hk;(repeat' split at hk)<;>cases hk
 |sliceToArrayPointer t x=>rw[j]at hk;cases hk
 |makeInterface t x=>rw[j]at hk;cases hk
 |makeChan t x=>rw[j]at hk;cases hk
 |slice t x H p j0=>rw[j]at hk;simp only[bQ]at hk;(repeat' split at hk)<;>cases hk
 |fieldAddr t x i=>rw[j]at hk;simp only[bQ]at hk;(repeat' split at hk)<;>cases hk
 |field t x i=>rw[j]at hk;simp only[bQ]at hk;(repeat' split at hk)<;>cases hk
 |indexAddr t x i=>rw[j]at hk;simp only[bQ]at hk;(repeat' split at hk)<;>cases hk
 |index t x i=>rw[j]at hk;cases hk
 |lookup t x k b=>rw[j]at hk;simp only[bQ]at hk;(repeat' split at hk)<;>cases hk
 |mapUpdate t m k v=>rw[j]at hk;simp only[bQ]at hk;(repeat' split at hk)<;>cases hk
 |mapEntry t m k=>rw[j]at hk;cases hk
 |entryStore t m s v=>rw[j]at hk;cases hk
 |range t x=>rw[j]at hk;simp only[bQ]at hk;(repeat' split at hk)<;>cases hk
 |next x b=>rw[j]at hk;simp only[bQ]at hk;(repeat' split at hk)<;>cases hk
 |entry x=>rw[j]at hk;cases hk
 |typeAssert x t s b=>rw[j]at hk;cases hk
 |extract x i=>rw[j]at hk;cases hk
 |go c=>rw[j]at hk;cases hk
 |defer c=>rw[j]at hk;cases hk
 |panic x=>rw[j]at hk;cases hk
 |send c x=>rw[j]at hk;cases hk
 |recv t c b=>rw[j]at hk;cases hk
 |select cs b=>rw[j]at hk;cases hk
theorem aF0{U:cp}{C:(Nat->Nat)->Prop}(hC:∀q,(∀i,i<L.length->q i=β i)->C q)(k:jk al a' n C K next)(hk:EJ (bQ P U.op)=true)(m:cX al a' β L h w)(r:dn n β L e a)(l:dN L)(hp:hS P n (fX P ops U) e L h K):
 if hF U (lI ops a.tmps)then U.wp P a w next Q else next (a.put U.dst fp) w:=by
 have p:C β:=hC β λ_ _=>rfl
 unfold fX at hp
 split at hp
 rename_i g c
 cases d:U.guard with
 |none=>
  rw[d]at c;injection c with c;subst c;simp only[hS]at hp;rw[aP (by simp[hF,d])];exact RQ hC k hk m r l hp
 |some s=>
  obtain⟨o,B⟩:=s;rw[d]at c;simp only[xI]at c;split at c;rename_i D u;split at c;rename_i t y;injection c with c;subst c;obtain⟨z,A⟩:=PT r u y;simp only[hS]at hp;split at hp;rename_i b f;have j:=z b f;cases B<;>cases b<;>simp only[fT]at hp;rw[nb f]at hp;rw[aP (by simp[hF,d,j])];exact RQ hC k hk m r l hp;rw[nb f]at hp;rw[aD (by simp[hF,d,j])];exact j2 k p m r l (x:=.v fp) trivial hp;rw[nb f]at hp;rw[aD (by simp[hF,d,j])];exact j2 k p m r l (x:=.v fp) trivial hp;rw[nb f]at hp;rw[aP (by simp[hF,d,j])];exact RQ hC k hk m r l hp;rename_i aG f;have j:=A aG f;rw[aD (by simp[hF,d,j])];exact j2 k p m r l (x:=.v fp) trivial hp
  grind
  grind
  grind
 exact hp.elim
theorem abH(c:lL->lL)(q:c .bad= .bad){U:cp}(r:dn n β L e a)(hp:hS P n ({d:=(fX P ops U).d,g:=(fX P ops U).g,k:=c (fX P ops U).k}:cK) e L h K)(run:∀m,m=e->fZ P n (c (bQ P U.op)) U.dst m L h K->U.wp P a w next Q)(skip:g8 n U.dst (.v fp) e L h K->next (a.put U.dst fp) w):
 if hF U (lI ops a.tmps)then U.wp P a w next Q else next (a.put U.dst fp) w:=by
 unfold fX at hp
 split at hp
 rename_i g f
 cases i:U.guard with
 |none=>
  rw[i]at f;injection f with f;subst f;simp only[hS]at hp;rw[aP (by simp[hF,i])]
  grind
 |some p=>
  obtain⟨o,z⟩:=p;rw[i]at f;simp only[xI]at f;split at f;rename_i A s;split at f;rename_i t u;injection f with f;subst f;obtain⟨x,y⟩:=PT r s u;simp only[hS]at hp;split at hp;rename_i b j;have l:=x b j;cases z<;>cases b<;>simp only[fT]at hp;rw[nb j]at hp;rw[aP (by simp[hF,i,l])]
  grind
  rw[nb j]at hp;rw[aD (by simp[hF,i,l])]
  grind
  rw[nb j]at hp;rw[aD (by simp[hF,i,l])]
  grind
  rw[nb j]at hp;rw[aP (by simp[hF,i,l])]
  grind
  rename_i aG j;have l:=y aG j;rw[aD (by simp[hF,i,l])]
  grind
  grind
  grind
  grind
 simp only[hS,q]at hp
 exact hp.elim
theorem guarded{U:cp}(r:dn n β L e a)(hp:hS P n (uz (fX P ops U)) e L h K)(run:∀b,b=e->fZ P n (qE (bQ P U.op)) U.dst b L h K->U.wp P a w next Q)(skip:g8 n U.dst (.v fp) e L h K->next (a.put U.dst fp) w):
 if hF U (lI ops a.tmps)then U.wp P a w next Q else next (a.put U.dst fp) w:=abH qE rfl r hp run skip
theorem A0{ar:List LE->J->Prop}{b:List LE}{a:J}(c:ar b a)(hp:g8 n d x e b a K):g8 n d x e b a λf b a=>K f b a/\ar b a:=by
 cases d with
 |none=>exact⟨hp,c⟩
 |some d=>
  unfold g8 at hp⊢
  grind
theorem aGp{P:eN}{i:Nat}(h:qu P cm ops b i=true):pN P cm ops b i=true:=by
 unfold qu at h;unfold pN
 grind
def vn(β:Nat->Nat)(L:List LE)(h:J)(b:List LE)(a:J):Prop:=∀(m z:Bool)(N:Nat)(bk:bw),(z=true->m=true)->kq β (tQ m N b) (sJ z a) bk->kq β (tQ m N L) (sJ z h) bk
theorem vn.le{a:J}(d:h.le a):vn β L h L a:=by
 intro e c N bk _ s;have b:(sJ c h).le (sJ c a):=by
  cases c;exact d;exact J.le_refl _
 exact⟨s.hw.mono b,s.cA⟩
theorem cX.aBB(m:cX al a' β L h w)(E:dN L){i:Nat}{k:Nat}{xs:List ax}(f:cz L i=some (.row bK size A k cap xs)):∃d,h.le d/\bJ d bK size A k cap xs/\(∀g,A=some g->h g.block=none)/\cX al a' β (gV L i .gone) d w/\dN (gV L i .gone)/\(∀o,fo L o->fo (gV L i .gone) o)/\vn β L h (gV L i .gone) d:=by
 have F:=m.cA.cA i _ f;simp only[LE.fu]at F;obtain⟨⟨h1,ae⟩,x⟩:=F;have j:=ny f;have I:∀o q,cz (gV L i .gone) o=some q->q= .gone\/cz L o=some q:=by
  intro o q a;rw[qk _ _ _ _ j]at a
  grind
 have wb:∀o q,o≠i->cz L o=some q->cz (gV L i .gone) o=some q:=λo q T a=>by
  rw[qk _ _ _ _ j,aD T];exact a
 have C:∀d,h.le d->(∀bk,ng d bk->(LE.row bK size A k cap xs).fu β i bk)->vn β L h (gV L i .gone) d:=by
  intro d H Y Z z N bk P s;cases Z with
  |true=>
   obtain⟨s1,s2⟩:=zk.1 s;have X:ng (sJ z h) bk:=by
    cases z;exact s1.mono H;exactλo U R=>(by cases R)
   refine zk.2 ⟨X,λq l Es a V=>?_⟩;by_cases e:q=i;subst e;rw[f]at a;injection a with a;subst a;cases V
   grind
  |false=>
   obtain rfl:z=false:=by
    grind
   refine⟨s.hw.mono H,λq l a=>?_⟩;have a:cz L q=some l:=a;by_cases e:q=i;subst e;rw[f]at a;injection a with a;subst a;exact Y bk s.hw;exact s.cA q l (wb q l e a)
 rcases ae with⟨ae,D⟩|⟨g,c,y,v,Q,W,n⟩;injection ae with S uR ay;subst S;have p:∀o,fo L o->fo (gV L i .gone) o:=λo⟨q,a,O⟩=>by
  by_cases e:o=i;exact⟨.gone,by rw[qk _ _ _ _ j,aP e],rfl⟩;exact⟨q,aJ,O⟩
 have r:∀o q,cz (gV L i .gone) o=some q->q.live=true->cz L o=some q:=λo q a b=>by
  rcases I o q a with rfl|G;cases b;omega
 have u:cX al a' β (gV L i .gone) h w:=⟨⟨m.cA.hw,λo q a=>by
  rcases I o q a with rfl|G;trivial;exact m.cA.cA o q G⟩,λo q a b=>m.hole o q (r o q a b) b,λo M q fg a tz b K=>m.inj o M q fg (r o q a b) (r M fg tz K) b K,λo q a b=>m.lt o q (r o q a b) b,
  λo q a b=>m.cQ o q (r o q a b) b,m.os,m.tape,m.output,m.size,m.frame,m.fresh⟩
 refine⟨h,J.le_refl h,⟨h1,.inl ⟨rfl,D,ay⟩⟩,(λg e=>by cases e),u,(E.va j p (λ_ _ e=>by cases e)),p,C h (J.le_refl h) λbk _=>?_⟩;simp only[LE.fu];exact⟨⟨h1,.inl ⟨aJ,D⟩⟩,x⟩;injection v with v sg sh;subst v;subst sh;have t:=x _ rfl;simp only at t;have B:=m.hole i _ f rfl;rw[<-t]at B;obtain⟨u,p⟩:=m.fH (cw:=.gone) f rfl rfl rfl trivial (by rw[<-t];exact W);rw[<-t]at u;refine⟨h.put g (.cells y bK (0,0)),J.dI B,⟨h1,.inr ⟨g,y,rfl,J.b1 _ _ _,n.1,n.2.1,n.2.2.1,n.2.2.2⟩⟩,(λcf e=>aJ),u,(E.va j p (λ_ _ e=>by cases e)),p,C _ (J.dI B) λbk pI=>?_⟩;simp only[LE.fu];exact⟨⟨h1,.inr ⟨g,_,y,rfl,Q,pI _ _ (J.b1 _ _ _),n⟩⟩,x⟩
theorem aqq{aG:Array ax}{g:ax->List LE->J->Prop}(hp:H6 P f aG g L h)(m:cX al a' β L h w)(l:dN L):∃b c,cX al a' β b c w/\dN b/\(∀o,fo L o->fo b o)/\vn β L h b c/\∃ar,Fn P f aG c ar/\(∀v a,ar v a->c.le a)/\∀v a,ar v a->g v b a:=by
 induction hp with
 | @mk L h ar ay e k=>exact⟨L,h,m,l,λ_=>id,vn.le (J.le_refl h),ar,ay,e,k⟩
 | @b4 L h i bK size A k cap xs u _ y=>
  obtain⟨h1,e,x,r,m1,z,B,d1⟩:=m.aBB l u;obtain⟨C,ae,m2,D,d,d2,ar,q⟩:=y h1 e x r m1 z;exact⟨C,ae,m2,D,λo t=>d o (B o t),λn p N bk j s=>d1 n p N bk j (d2 n p N bk j s),ar,q⟩
theorem aaL{U:cp}(t:jk al a' n (λB=>B=β) (λz d b=>K z d b/\vn β L h d b) next)(m:cX al a' β L h w)(r:dn n β L e a)(u:dN L)(hp:HX P n f fA U.dst e L h K)(C:∀aG,fA.map (aK.c β)=aG->(∃fn,P.funcs[f]?=some fn/\fn.body.isSome=true/\(fn.name== "runtime.NumGoroutine")=false)->(dk a.eval U).run P w= .ok (.enter f aG.toArray) w):U.wp P a w next Q:=by
 unfold HX at hp;split at hp;rename_i aG D;have ay:=xN m.cA fA aG D;obtain⟨G,h1,m1,E,F,q,ar,p,A,k⟩:=aqq hp m u;unfold BF;rw[C aG ay p.body,Iw];refine(p.run w m1.cA.hw).mono ?_;rintro H bk ⟨v,b,rfl,i,y⟩;have hk:=k v b i;exact j2 t rfl (m1.ext y) (r.agree (λ_ _=>rfl) F) E (x:=.v v) trivial (A0 (ar:=λd b=>vn β L h d b) (λl o N j g s=>q l o N j g (vn.le (A v b i) l o N j g s)) hk)
 grind
theorem aqB{U:cp}(h:Ak P cm U=true):∃f a,bQ P U.op= .call f a:=by
 unfold Ak at h
 grind
theorem aFZ{U:cp}(l:jk al a' n (λF=>F=β) (λp d j=>K p d j/\d=L) next)(u:Ak P cm U=true)(m:cX al a' β L h w)(r:dn n β L e a)(o:dN L)(hp:hS P n (Ch (fX P ops U)) e L h K):
 if hF U (lI ops a.tmps)then U.wp P a w next Q else next (a.put U.dst fp) w:=by
 refine abH DW rfl r hp ?_ (λC=>j2 l rfl m r o (x:=.v fp) trivial (A0 (ar:=λd _=>d=L) rfl C))
 rintro p rfl hw
 obtain⟨g,I,hk⟩:=aqB u
 rw[hk]at hw
 simp only[DW,fZ]at hw
 cases i:U.op with
 |call c=>
  rw[i]at hk;obtain⟨J,args,M⟩:=c;cases J with
  |value f=>
   cases f with
   |func q=>
    have D:lL.call q (args.toList.map bS)=lL.call g I:=hk;injection D with A z;subst A;subst z;unfold PM at hw;split at hw;rename_i aG H;have ay:=xN m.cA _ aG H;obtain⟨ar,s,k⟩:=hw;have he:args.map a.eval=aG.toArray:=by
     rw[<-ay];apply xZ;simp only[zy,iD];exact mG λx _=>r.eval x
    have G:(dk a.eval U).run P w= .ok (.enter q aG.toArray) w:=by
     simp[dk,i,tZ,H5,PZ,invoke,he,A6 s.body]
    unfold BF;rw[G,Iw];refine(s.run w m.cA.hw).mono ?_;rintro O bk ⟨v,j,rfl,E,B⟩;exact j2 l rfl (m.ext B) r o (x:=.v v) trivial (A0 (ar:=λd _=>d=L) rfl (k v j E));exact hw.elim
   |tmp t=>cases hk
   |const v=>cases hk
   |global g=>cases hk
  |invoke x y=>cases hk
  |builtin b=>cases b<;>simp only[bQ]at hk<;>(repeat' split at hk)<;>cases hk
 |makeFunc fn first N=>rw[i]at hk;cases fn<;>simp only[bQ]at hk<;>(repeat' split at hk)<;>cases hk
 |binOp op t x y g'=>rw[i]at hk;cases op<;>simp only[bQ]at hk<;>(repeat' split at hk)<;>cases hk
 |_=>rw[i]at hk;simp only[bQ]at hk;(repeat' split at hk)<;>cases hk
theorem aFY{U:cp}(z:jk al a' n (λM=>M=β) (λp q o=>K p q o/\vn β L h q o) next)(hk:J9 (bQ P U.op)=true)(m:cX al a' β L h w)(r:dn n β L e a)(A:dN L)(hp:hS P n (uz (fX P ops U)) e L h K):
 if hF U (lI ops a.tmps)then U.wp P a w next Q else next (a.put U.dst fp) w:=by
 refine guarded r hp ?_ (λH=>j2 z rfl m r A (x:=.v fp) trivial (A0 (ar:=λq o=>vn β L h q o) (vn.le (J.le_refl h)) H))
 rintro p rfl hw
 cases j:U.op with
 |call c=>
  rw[j]at hw hk;obtain⟨R,args,N⟩:=c;cases R with
  |value f=>
   have u:∀x,fZ P n (.Rd (bS x) (args.toList.map bS)) U.dst p L h K->U.op= .call {callee:=.value x,args:=args,argTypes:=N}->U.wp P a w next Q:=by
    intro x hw j;simp only[fZ]at hw;have D:=r.eval x;split at hw;rename_i g first F O
    rw[O]at D;refine aaL z m r A hw λaG C B=>?_;have he:first++args.map a.eval++F=aG.toArray:=by
     rw[<-C];apply xZ;simp only[Array.toList_append,zy,fF,iD];rw[List.append_assoc];have E:∀l:List ax,l.map (aK.c β∘aK.v)=l:=λl=>by
      induction l with
      |nil=>rfl
      |cons y l I=>rw[ec,I];rfl
     rw[E,E];congr 2;exact mG λy _=>r.eval y
    simp only[dk,j,tZ,H5,D,aK.c,aK.c1,invoke,ic,k8,im];rw[he,A6 B]
    grind
   cases f with
   |func g=>
    refine aaL (fA:=(args.toList.map bS).map (eb.get p)) z m r A hw λaG C B=>?_;have he:args.map a.eval=aG.toArray:=by
     rw[<-C];apply xZ;simp only[zy,iD];exact mG λx _=>r.eval x
    simp[dk,j,tZ,H5,PZ,invoke,he,A6 B]
   |tmp t=>exact u _ hw j
   |const v=>exact u _ hw j
   |global g=>exact u _ hw j
  |invoke x y=>cases hk
  |builtin b=>cases b<;>simp only[bQ]at hk<;>(repeat' split at hk)<;>cases hk
 |makeFunc fn first F=>rw[j]at hk;cases fn<;>simp only[bQ]at hk<;>(repeat' split at hk)<;>cases hk
 |binOp op t x y g'=>rw[j]at hk;cases op<;>simp only[bQ]at hk<;>(repeat' split at hk)<;>cases hk
 |unOp op t x=>rw[j]at hk;cases op<;>simp only[bQ]at hk<;>(repeat' split at hk)<;>cases hk
 |makeMap t r=>rw[j]at hk;cases r<;>cases hk
 |move x=>rw[j]at hk;cases hk
 |assign x=>rw[j]at hk;cases hk
 |pick c x y=>rw[j]at hk;cases hk
 |ready g=>rw[j]at hk;cases hk
 |waits g=>rw[j]at hk;cases hk
 |nilCheck x=>rw[j]at hk;cases hk
 |insert t m k v=>rw[j]at hk;cases hk
 |convert s d x=>rw[j]at hk;simp only[bQ]at hk;(repeat' split at hk)<;>cases hk
 |sliceToArrayPointer t x=>rw[j]at hk;cases hk
 |makeInterface t x=>rw[j]at hk;cases hk
 |makeChan t x=>rw[j]at hk;cases hk
 |index t x i=>rw[j]at hk;cases hk
 |mapEntry t m k=>rw[j]at hk;cases hk
 |entryStore t m s v=>rw[j]at hk;cases hk
 |range t x=>rw[j]at hk;simp only[bQ]at hk;(repeat' split at hk)<;>cases hk
 |next x b=>rw[j]at hk;simp only[bQ]at hk;(repeat' split at hk)<;>cases hk
 |entry x=>rw[j]at hk;cases hk
 |typeAssert x t s b=>rw[j]at hk;cases hk
 |extract x i=>rw[j]at hk;cases hk
 |go c=>rw[j]at hk;cases hk
 |defer c=>rw[j]at hk;cases hk
 |panic x=>rw[j]at hk;cases hk
 |send c x=>rw[j]at hk;cases hk
 |recv t c b=>rw[j]at hk;cases hk
 |select cs b=>rw[j]at hk;cases hk
 |box t x=>rw[j]at hk;cases hk
 |alloc t=>rw[j]at hk;simp only[bQ]at hk;(repeat' split at hk)<;>cases hk
 |buildSlice t len G=>rw[j]at hk;simp only[bQ]at hk;(repeat' split at hk)<;>cases hk
 |build t G=>rw[j]at hk;simp only[bQ]at hk;(repeat' split at hk)<;>cases hk
 |load t x=>rw[j]at hk;simp only[bQ]at hk;(repeat' split at hk)<;>cases hk
 |store t x y=>rw[j]at hk;simp only[bQ]at hk;(repeat' split at hk)<;>cases hk
 |fieldAddr t x i=>rw[j]at hk;simp only[bQ]at hk;(repeat' split at hk)<;>cases hk
 |indexAddr t x i=>rw[j]at hk;simp only[bQ]at hk;(repeat' split at hk)<;>cases hk
 |makeSlice t x y=>rw[j]at hk;simp only[bQ]at hk;(repeat' split at hk)<;>cases hk
 |slice t x T S j0=>rw[j]at hk;simp only[bQ]at hk;(repeat' split at hk)<;>cases hk
 |field t x i=>rw[j]at hk;simp only[bQ]at hk;(repeat' split at hk)<;>cases hk
 |lookup t x k b=>rw[j]at hk;simp only[bQ]at hk;(repeat' split at hk)<;>cases hk
 |mapUpdate t m k v=>rw[j]at hk;simp only[bQ]at hk;(repeat' split at hk)<;>cases hk
theorem apf{m q:Nat}{S:List ax->Prop}{K l:aK->List LE->Prop}(o:∀i r m0 s xs x d c a aO,cz L i=some (.row bK size r m0 s xs)->K x (gV L i (.row bK size c d a aO))->l x (gV L i (.row bK size c d a aO)))(bn:∀d c a aO,K (.v (.slice c d a)) (L++[.row bK size c d a aO])->l (.v (.slice c d a)) (L++[.row bK size c d a aO]))(hp:x5 bK size bytes A m cap q S L K):x5 bK size bytes A m cap q S L l:=by
 cases hp with
 |c3 i xs aG f h h1 hm g k=>exact .c3 i xs aG f h h1 hm g λc a e=>o i _ _ _ xs _ _ c a _ f (k c a e)
 |fresh aG aT e z h h1 hm g k=>exact .fresh aG aT e z h h1 hm g λc a e=>bn _ c a _ (k c a e)
 |off i b y N p xs aG aT f w hC h h1 al hm g t u=>exact .off i b y N p xs aG aT f w hC h h1 al hm g (λj=>o i _ _ _ xs _ _ _ p _ f (t j)) (λj n a ay=>bn _ (some n) a _ (u j n a ay))
theorem apq{U:cp}{t el b:Nat}{aE:List ax}{x y:fM}(aF:U.op= .call {callee:=.builtin .append,args:=#[x,y],argTypes:=#[t,t]})(hu:P.underlying t=some (.slice el))(he:B9 P el=some (s,b,aE))(aS:jk al a' n (λcn=>∀i,fo L i->cn i=β i) (λbD j C=>K bD j C/\(∀i l,i<dj->cz L i=some l->l.isRow=false->cz j i=some l)/\C=h) next)(m:cX al a' β L h w)(r:dn n β L e a)(aW:dN L)(M7:tS dj e (.IG t el s b aE (bS x) (bS y))=true)(hp:fZ P n (.IG t el s b aE (bS x) (bS y)) U.dst e L h K):U.wp P a w next Q:=by
 obtain⟨i,z,X,a1,aR,aQ,cV,fr,lU⟩:=I5 he;have af:=r.eval x;have aN:=r.eval y;have ayh:∀(d:List LE)(o:Nat)(cw:LE),(∀l,cz d o=some l->l.isRow=true)->(∀i l,i<dj->cz L i=some l->l.isRow=false->cz d i=some l)->∀i l,i<dj->cz L i=some l->l.isRow=false->cz (gV d o cw) i=some l:=by
  intro d o cw f D i l N ak O;have h1:=D i l N ak O;by_cases tu:i=o
  grind
  rw[qj,HP,List.getElem?_set_ne (d' tu),<-qj];exact h1
 have G:∀(d:List LE)(cw:LE),(∀i l,i<dj->cz L i=some l->l.isRow=false->cz d i=some l)->∀i l,i<dj->cz L i=some l->l.isRow=false->cz (d++[cw]) i=some l:=by
  intro d cw D i l N ak O;have h1:=D i l N ak O;rw[xK,aP (ny h1)];exact h1
 have fin:∀(g:Nat->Nat)(d:List LE)(A B:Option aI)(k cap q c:Nat)(S:List ax->Prop),(∀o,fo L o->g o=β o)->(∀i,fo L i->fo d i)->(∀i l,i<dj->cz L i=some l->l.isRow=false->cz d i=some l)->cX al a' g d h w->dn n g d e a->dN d->a.eval x= .slice A k cap->a.eval y= .slice B q c->(∀aG,S aG->zV w s B q aG)->x5 el s b A k cap q S d (λx L=>g8 n U.dst x e L h K)->U.wp P a w next Q:=by
  intro g d A B k cap q c S W M D m1 R F H TF dr nu;have Z:x5 el s b A k cap q S d (λx j=>g8 n U.dst x e j h λbD j C=>K bD j C/\(∀i l,i<dj->cz L i=some l->l.isRow=false->cz j i=some l)/\C=h):=
   apf (λi Xd m0 Zo xs x fO bC dt aO X bL=>A0 (ar:=λj C=>(∀i l,i<dj->cz L i=some l->l.isRow=false->cz j i=some l)/\C=h) ⟨ayh d i _ (λl ak=>by rw[X]at ak;injection ak with ak;subst ak;rfl) D,rfl⟩ bL)
    (λfO bC dt aO bL=>A0 (ar:=λj C=>(∀i l,i<dj->cz L i=some l->l.isRow=false->cz j i=some l)/\C=h) ⟨G d _ D,rfl⟩ bL) nu
  obtain⟨bC,dt,f',cn,j,bk,ff,ft,bt,fV,hK,NH⟩:=aaq (P:=P) (ty:=U.type) (c:=c) hu X a1 aR aQ cV fr m1 F dr Z;exact r1 (v:=.slice bC f' dt) (bk:=bk) (by simp[dk,aF,tZ,invoke,builtin,H,TF,ff]) (j2 aS (λo f=>(NH o (M o f)).trans (W o f)) bt (R.agree NH hK) fV (x:=.v _) trivial ft)
 have app:∀(g:Nat->Nat)(d:List LE)(A:Option aI)(k cap:Nat),(∀o,fo L o->g o=β o)->(∀i,fo L i->fo d i)->(∀i l,i<dj->cz L i=some l->l.isRow=false->cz d i=some l)->cX al a' g d h w->dn n g d e a->dN d->a.eval x= .slice A k cap->a.eval y=((bS y).get e).c g->HW n el s b A k cap ((bS y).get e) U.dst e d h K->U.wp P a w next Q:=by
  intro g d A k cap W M D m1 R F H G2 hw;unfold HW at hw;split at hw;rename_i B q c E;exact fin g d A B k cap q c _ W M D m1 R F H (by rw[G2,E];rfl) (λaG ao=>ain m1.cA ao) hw;rename_i o off q c E;split at hw;rename_i cs ty f;split at hw;rename_i nC Cy;split at hw;rename_i aG gS;obtain⟨tA,ml⟩:=sub_eq _ _ _ _ Cy;have ay:=CR m1.cA nC aG gS;have AI:zV w s (some ⟨g o,off,none⟩) q aG:=by
   refine⟨aJ,.inr ⟨_,rfl,λp v nn=>?_⟩⟩;rw[<-ay,dH,ye]at nn;obtain⟨u,jE,rfl⟩:=nn;rw[add_lit];refine Pm m1.cA f ?_
   grind
  exact fin g d A _ k cap q c _ W M D m1 R F H (by rw[G2,E];rfl) (λajn ao=>aJ) hw
  grind
  grind
  grind
  grind
 simp only[fZ]at hp;split at hp;rename_i A k cap E;exact app β L A k cap (λ_ _=>rfl) (λ_=>id) (λ_ _ _ ak _=>ak) m r aW (by rw[af,E];rfl) aN hp;rename_i l k cap E;split at hp;rename_i cs ty f;cases Y:(hW cs.length (cap*s)&&p0 k cap&&hW ty el&&p0 cap 9223372036854775807)with
 |false=>grind
 |true=>
  rw[Y]at hp;simp only[h0]at Y;obtain⟨⟨⟨du,T⟩,qP⟩,yE⟩:=Y;have du:=qA du;have T:=yc T;have qP:=qA qP;have yE:=yc yE;subst qP;simp only[oY]at hp;split at hp;rename_i aG gS;obtain⟨b0⟩:=hp;have xp:=m.hole l _ f rfl;have iO:=b0 (β l) xp;have fN:=CR m.cA cs aG gS;have xw:=m.cA.cA l _ f;simp only[LE.fu,fN]at xw;obtain⟨m1,V⟩:=m.fH (cw:=.gone) f rfl rfl rfl trivial xw;have F:=aW.va (ny f) V (λ_ _ e=>by cases e);have eH:aG.length=cap*s:=aJ;have cJ:k*s<=cap*s:=Nat.mul_le_mul_right s T;have ju:bJ (h.put (β l) (.cells aG.toArray ty (0,0))) ty s (some ⟨β l,0,none⟩) k cap (aG.take (k*s)):=⟨aJ,.inr ⟨β l,aG.toArray,rfl,J.b1 _ _ _,T,by grind [maxLen],I,rfl⟩⟩;obtain⟨qv,mD,ae,⟨rfl,rfl⟩,m2,p9,tX,rL⟩:=sW (K:=λmD ae=>mD=gV L l .gone++[.row ty s (some ⟨β l,0,none⟩) k cap (aG.take (k*s))]/\ae=eP (h.put (β l) (.cells aG.toArray ty (0,0))) (some ⟨β l,0,none⟩)) (.abs ty s (some ⟨β l,0,none⟩) k cap (aG.take (k*s)) ju (.ah ⟨rfl,rfl⟩)) β m1 F;have GK:eP (h.put (β l) (.cells aG.toArray ty (0,0))) (some ⟨β l,0,none⟩)=h:=by
   funext o;simp only[eP,J.del,J.put]
   grind
  rw[GK]at m2;have dW:=(r.agree (λ_ _=>rfl) V).agree rL tX;have dE:dj<=l:=by
   simp_all[tS,E]
  refine app qv _ _ k cap (λo f=>rL o (V o f)) (λo f=>tX o (V o f)) (G _ _ λi cw N ak O=>?_) m2 dW p9 (by rw[af,E];rfl) (dW.eval y) iO;rw[qk _ _ _ _ (ny f),aD I];exact ak
  grind
 grind
 grind
theorem aFX{U:cp}(z:jk al a' n (λJ=>∀i,fo L i->J i=β i) (λB q p=>K B q p/\(∀i l,i<dj->cz L i=some l->l.isRow=false->cz q i=some l)/\p=h) next)(hk:xF (bQ P U.op)=true)(u:tS dj e (uz (fX P ops U)).k=true)(m:cX al a' β L h w)(r:dn n β L e a)(A:dN L)(hp:hS P n (uz (fX P ops U)) e L h K):
 if hF U (lI ops a.tmps)then U.wp P a w next Q else next (a.put U.dst fp) w:=by
 have o:tS dj e (qE (bQ P U.op))=true:=by
  unfold fX at u hp;split at u;exact u;rename_i H;rw[H]at hp;exact hp.elim
 refine guarded r hp ?_ (λI=>j2 z (λ_ _=>rfl) m r A (x:=.v fp) trivial (A0 (ar:=λq p=>(∀i l,i<dj->cz L i=some l->l.isRow=false->cz q i=some l)/\p=h) ⟨λ_ _ _ ak _=>ak,rfl⟩ I))
 rintro B rfl hw
 cases j:U.op with
 |call c=>
  rw[j]at hw hk o;obtain⟨N,args,M⟩:=c;cases N with
  |value f=>cases f<;>cases hk
  |invoke x y=>cases hk
  |builtin C=>
   cases C with
   |append=>
    simp only[bQ]at hw hk o;split at hw;rename_i x y t g' V R;split at hw;rename_i el hu;split at hw;rename_i s C aE D;split at hw;rename_i O;subst O;have G:args=#[x,y]:=aJ;have F:M=#[t,t]:=aJ;subst G;subst F;refine apq (dj:=dj) j hu D z m r A ?_ hw;simp_all[hu,D,qE]
    grind [xF]
    grind [xF]
    grind [xF]
    grind [xF]
   |_=>simp only[bQ]at hk;(repeat' split at hk)<;>cases hk
 |makeFunc fn first W=>rw[j]at hk;cases fn<;>simp only[bQ]at hk<;>(repeat' split at hk)<;>cases hk
 |binOp op t x y g'=>rw[j]at hk;cases op<;>simp only[bQ]at hk<;>(repeat' split at hk)<;>cases hk
 |unOp op t x=>rw[j]at hk;cases op<;>simp only[bQ]at hk<;>(repeat' split at hk)<;>cases hk
 |makeMap t r=>rw[j]at hk;cases r<;>cases hk
 |move x=>rw[j]at hk;cases hk
 |assign x=>rw[j]at hk;cases hk
 |pick c x y=>rw[j]at hk;cases hk
 |ready g=>rw[j]at hk;cases hk
 |waits g=>rw[j]at hk;cases hk
 |nilCheck x=>rw[j]at hk;cases hk
 |insert t m k v=>rw[j]at hk;cases hk
 |convert s d x=>rw[j]at hk;simp only[bQ]at hk;(repeat' split at hk)<;>cases hk
 |sliceToArrayPointer t x=>rw[j]at hk;cases hk
 |makeInterface t x=>rw[j]at hk;cases hk
 |makeChan t x=>rw[j]at hk;cases hk
 |index t x i=>rw[j]at hk;cases hk
 |mapEntry t m k=>rw[j]at hk;cases hk
 |entryStore t m s v=>rw[j]at hk;cases hk
 |range t x=>rw[j]at hk;simp only[bQ]at hk;(repeat' split at hk)<;>cases hk
 |next x b=>rw[j]at hk;simp only[bQ]at hk;(repeat' split at hk)<;>cases hk
 |entry x=>rw[j]at hk;cases hk
 |typeAssert x t s b=>rw[j]at hk;cases hk
 |extract x i=>rw[j]at hk;cases hk
 |go c=>rw[j]at hk;cases hk
 |defer c=>rw[j]at hk;cases hk
 |panic x=>rw[j]at hk;cases hk
 |send c x=>rw[j]at hk;cases hk
 |recv t c b=>rw[j]at hk;cases hk
 |select cs b=>rw[j]at hk;cases hk
 |box t x=>rw[j]at hk;cases hk
 |alloc t=>rw[j]at hk;simp only[bQ]at hk;(repeat' split at hk)<;>cases hk
 |buildSlice t len E=>rw[j]at hk;simp only[bQ]at hk;(repeat' split at hk)<;>cases hk
 |build t E=>rw[j]at hk;simp only[bQ]at hk;(repeat' split at hk)<;>cases hk
 |load t x=>rw[j]at hk;simp only[bQ]at hk;(repeat' split at hk)<;>cases hk
 |store t x y=>rw[j]at hk;simp only[bQ]at hk;(repeat' split at hk)<;>cases hk
 |fieldAddr t x i=>rw[j]at hk;simp only[bQ]at hk;(repeat' split at hk)<;>cases hk
 |indexAddr t x i=>rw[j]at hk;simp only[bQ]at hk;(repeat' split at hk)<;>cases hk
 |makeSlice t x y=>rw[j]at hk;simp only[bQ]at hk;(repeat' split at hk)<;>cases hk
 |slice t x T S j0=>rw[j]at hk;simp only[bQ]at hk;(repeat' split at hk)<;>cases hk
 |field t x i=>rw[j]at hk;simp only[bQ]at hk;(repeat' split at hk)<;>cases hk
 |lookup t x k b=>rw[j]at hk;simp only[bQ]at hk;(repeat' split at hk)<;>cases hk
 |mapUpdate t m k v=>rw[j]at hk;simp only[bQ]at hk;(repeat' split at hk)<;>cases hk
theorem apC{U:cp}{t:fR}{x y:fM}(E:U.op= .store t x y)(M:jK P t=true){i off:Nat}{xs:List aK}{ty:fR}(B:(bS x).get e= .p i off)(W:dj<=i)(d:cz L i=some (.own xs ty))(G:jk al a' n (λR=>R=β) (λN k g=>K N k g/\(∀q,q<dj->cz k q=cz L q)/\g=h) next)(m:cX al a' β L h w)(r:dn n β L e a)(s:dN L)(hp:fZ P n (.store (jh P t) (bS x) (bS y)) U.dst e L h K):U.wp P a w next Q:=by
 have H:=r.eval x;have F:=r.eval y;simp only[fZ]at hp;split at hp;rename_i cs u;cases j:(Hw cs&&hW cs.length (jh P t))with
 |false=>grind
 |true=>
  rw[j]at hp;simp only[h0]at j;simp only[oY,B,d]at hp;have X:cs.length=jh P t:=qA j.2;have D:=Mp (β:=β) u;have h1:=agu (β:=β) j.1;split at hp;rename_i l C;have o:=m.cA.cA i _ d;simp only[LE.fu]at o;have J:=KO (aK.c1 β) _ _ _ _ C;have T:=Pg (P:=P) M (b:=β i) (off:=off) (ty:=ty) (v:=((bS y).get e).c β) (w:=w) aJ o aJ (by rw[D];omega);have S:∀z∈l,z.iQ L:=λz f=>by
   rcases Vk C f with f|f;exact s i xs ty d z f;exact Mq u (r.rU y) z f
  obtain⟨O,A⟩:=m.write (cw:=.own l ty) d rfl rfl rfl (ty:=ty) (cs:=l.map (aK.c1 β)) (by simp only[LE.fu];exact Lx w _ (m.lt i _ d rfl));refine Lw (bk:=wr w (β i) ty (l.map (aK.c1 β))) (by simp_all[dk,E,H,F,B,aK.c1,aK.c,Instr.storeAt,qz,T]) (j2 G rfl O (r.agree (λ_ _=>rfl) A) (s.ah0 (ny d) A S) (x:=.v fp) trivial (A0 (ar:=λk g=>(∀q,q<dj->cz k q=cz L q)/\g=h) ⟨λq V=>?_,rfl⟩ (by rwa[xk]at hp)));rw[qk _ _ _ _ (ny d),aD I]
  grind
 grind
theorem an3{k:lL}{x y:eb}(h:qE k= .store s x y):k= .store s x y:=by
 cases k<;>first|exact h|cases h
theorem ay5{U:Op}{x y:eb}(h:bQ P U= .store s x y):∃t a b,U= .store t a b:=by
 cases U with
 |store t a b=>exact⟨t,a,b,rfl⟩
 |call c=>
  exfalso;obtain⟨e,args,g⟩:=c;cases e with
  |builtin d=>cases d<;>simp only[bQ]at h<;>(repeat' split at h)<;>cases h
  |value f=>cases f<;>simp only[bQ]at h<;>(repeat' split at h)<;>cases h
  |_=>simp only[bQ]at h<;>(repeat' split at h)<;>cases h
 |_=>exfalso;simp only[bQ]at h;(repeat' split at h)<;>cases h
theorem aF1{U:cp}{D:List Nat}{C f j:Bool}{c:Option Nat}(F:jk al a' n (λR=>R=β) (λI o l=>K I o l/\(∀q,q<dj->cz o q=cz L q)/\l=h) next)(u:sN dj e L {U:=uz (fX P ops U),after:=D,m:=C,x:=f,y:=true,z:=j,q:=c}=true)(m:cX al a' β L h w)(r:dn n β L e a)(G:dN L)(hp:hS P n (uz (fX P ops U)) e L h K):if hF U (lI ops a.tmps)then U.wp P a w next Q else next (a.put U.dst fp) w:=by
 have hk:∃s x y i off xs ty,qE (bQ P U.op)= .store s x y/\x.get e= .p i off/\dj<=i/\cz L i=some (.own xs ty):=by
  have b:sN dj e L {U:={d:=none,g:=none,k:=qE (bQ P U.op)},after:=D,m:=C,x:=f,y:=true,z:=j,q:=c}=true:=by
   unfold fX at u hp;split at u;exact u;rename_i J;rw[J]at hp;exact hp.elim
  revert b;generalize qE (bQ P U.op)=k;intro b;simp only[sN]at b;split at b;rename_i s x y;split at b;rename_i i off A;rw[h0]at b;obtain⟨h1,ae⟩:=b;split at ae;rename_i xs ty B;exact⟨_,_,_,_,_,_,_,rfl,A,yc h1,B⟩
  grind
  grind
  grind
 obtain⟨s,X,Y,i,off,xs,ty,hk,A,S,B⟩:=hk;refine guarded r hp ?_ (λM=>j2 F rfl m r G (x:=.v fp) trivial (A0 (ar:=λo l=>(∀q,q<dj->cz o q=cz L q)/\l=h) ⟨λ_ _=>rfl,rfl⟩ M));rintro I rfl hw;obtain⟨t,x,y,E⟩:=ay5 (an3 hk);rw[E]at hk hw;simp only[bQ]at hk hw;split at hk;rename_i H;rw[aP H]at hw;simp only[qE]at hk hw;injection hk with N O T;subst N;subst O;subst T;exact apC E H A S B F m r G hw;cases hk
section
variable {P:eN}{a:Act}{w:bw}(bF:List vl)
def r0(Q:hT->Act->bw->Prop):hT->Act->bw->Prop:=λx a w=>∃a0:Act,a={a0 with defers:=bF}/\Q x a0 w
theorem A1(a:Act)(d:Option Nat)(v:ax):({a with defers:=bF}:Act).put d v={a.put d v with defers:=bF}:=by cases d<;>rfl
theorem ag7(a:Act)(d:Option Nat) v:(a.put d v).defers=a.defers:=by cases d<;>rfl
theorem MM(a:Act):({a with defers:=bF}:Act).eval=a.eval:=dC
theorem ayM(h:Qh Q):Qh (r0 bF Q):=by
 obtain⟨a,w,q⟩:=h;exact⟨_,w,a,rfl,q⟩
theorem Vf{U:cp}{next':Act->bw->Prop}(h:U.wp P a w next Q)(b:∀a w,next a w->a.defers=[]/\next' {a with defers:=bF} w):U.wp P {a with defers:=bF} w next' (r0 bF Q):=by
 unfold BF at h⊢;rw[MM];generalize(dk a.eval U).run P w=r at h;cases r with
 |ok x bk=>
  cases x with
  |value v=>rw[Oper.upon_value,A1];exact(b _ _ h).2
  |skip=>rw[Oper.upon_skip,A1];exact(b _ _ h).2
  |defer d=>
   have:=(b _ _ h).1;rw[ag7]at this
   grind
  |enter f args=>
   rw[Iw];refine aj3 h (λg c hw=>?_);cases g with
   |returned v=>
    show next' (({a with defers:=bF}:Act).put U.dst v) c;rw[A1];grind
   |panicked i=>exact⟨a,rfl,hw⟩
   |outgrown=>exact ayM bF hw
  |row e args=>
   rw[Oper.upon_row];refine Rows.mono h λv c j=>?_;show next' (({a with defers:=bF}:Act).put U.dst v) c;rw[A1];grind
  |_=>exact h.elim
 |halt x bk=>
  cases x with
  |panic v=>exact⟨a,rfl,h⟩
  |_=>exact h.elim
end
theorem ah9(ok:Ds P ops)(k:jk al a' n Any K (Q .normal)){t:rt}{f:Nat}(S:yi P cm al a' n dj ops listed a w E done e L h β)(i:BN P cm ops done t)(hp:qs P n dj Z f done t e L h K)(g:F4 .any ops listed=[]):Q .normal a w:=by
 have m:=ano ok S.size g;have j:E=[]:=by
  cases E with
  |nil=>rfl
  |cons x E=>
   obtain⟨i1,i2,o,d,i3,_⟩:=S.info x.1 x.2 (hU ..)
   grind
 have b:t=[]:=by
  cases t with
  |nil=>rfl
  |cons x r=>
   obtain⟨h1,cv,c,_⟩:=(i.2 x.1 x.2).1 (hU ..);exact absurd (S.sub _ (m x.1 (zw.1 c).1)) h1
 subst j;subst b;have l:K e L h:=by cases f<;>exact hp
 exact k β e L h a w trivial S.mem S.rel S.oI l
theorem OI{i:Nat}{U:cp}(hp:hS P n (ke P cm ops b i U) e L h K):hS P n (fX P ops U) e L h K:=by
 unfold ke at hp;split at hp;omega;split at hp;exact aqE hp;exact Zn hp
def LJ(al:J)(a':bw)(n:Nat)(Z:vF)(Q:hT->Act->bw->Prop):Prop:=∀q v β e L h(ap a:Act) w,cX al a' β L h w->dn n β L e ap->dN L->Z q v e L h->a.defers=[]->a.tmps.size=n->(∀t,t<q->a.tmps.getD t fp=ap.tmps.getD t fp)->Q (.panic [{v:=v,recovered:=false}]) a w
theorem ae2:∀(l:List cp) U,U∈l->∀d,U.dst=some d->Kr l<=d
 |[],U,a,_,_=>by cases a
 |x::l,U,a,d,b=>by
  unfold Kr;rcases ek.1 a with rfl|a
  grind
  have:=ae2 l U a d b
  grind
theorem aBE(a:Act)(d:Option Nat) v:(a.put d v).tmps.size=a.tmps.size:=by cases d<;>simp[Xe]
theorem ahb{ops:Array cp}:∀E a,(ii ops E a).tmps.size=a.tmps.size
 |[],a=>rfl
 |(i,v)::E,a=>by simp only[ii];rw[aBE,ahb E a]
theorem ag'{ops:Array cp}{q:Nat}(b:∀i d,mK ops i=some d->q<=d){t:Nat}(e:t<q):∀E a,(ii ops E a).tmps.getD t fp=a.tmps.getD t fp
 |[],a=>rfl
 |(i,v)::E,a=>by
  simp only[ii];rw[<-ag' b e E a];cases c:mK ops i with
  |none=>rfl
  |some d=>
   have:=b i d c;simp only[Xe];rw[FC,FC,Array.getElem?_setIfInBounds_ne I]
theorem ay2{P:eN}{U:Op}{a:List eb}(h:bQ P U= .call f a):∃args b,U= .call {callee:=.value (.func f),args:=args,argTypes:=b}/\a=args.toList.map bS:=by
 unfold bQ at h;repeat' split at h
 all_goals first
  |(cases h;done)
  |(unfold d at h;split at h<;>(cases h;done))
  |(
   injection h with h1 ae
   rename_i c _ e ay
   obtain⟨_,args,b⟩:=c
   simp only at ay
   subst ay;subst h1;subst ae
   exact⟨_,_,rfl,rfl⟩)
  |skip
theorem aoI(bF:List vl){K:Act->bw->Prop}(ok:Ds P ops)(S:yi P cm al a' n dj ops listed a w E done e L h β)(H:LJ al a' n Z Q){i:Nat}(mQ:ops[i]?=some cv){q:Nat}(c:vP P cm ops cv=some q){y:List eb}{aG:List ax}{v:ax}(hk:(ke P cm ops (eR ops) i cv).k= .Gf f y)(j:(ke P cm ops (eR ops) i cv).g=none)(R:ph L (y.map (eb.get e))=some aG)(C:Dd P f aG.toArray h v)(z:Z q v e L h)(G:dk (ii ops E a).eval cv=dk a.eval cv)(I:a.defers=[]):
 if hF cv (lI ops a.tmps)then cv.wp P {a with defers:=bF} w K (r0 bF Q)\/(cv.asks P {a with defers:=bF} w/\Qh (r0 bF Q))else K {a.put cv.dst fp with defers:=bF} w:=by
 have r:(fX P ops cv).k= .call f y/\(fX P ops cv).g=none:=by
  unfold ke at hk j;split at hk
  .rename_i u;rw[u]at j;unfold fX at hk;split at hk
   .unfold bQ at hk;repeat' split at hk
    all_goals cases hk
   grind
  rename_i u;rw[u]at j;split at hk;rename_i p;exfalso;simp only[Ch]at hk;unfold Ak at p;unfold fX at hk;split at hk;split at p;rename_i uP;simp_all[uP,DW]
  grind
  cases hk;rename_i p;rw[p]at j;simp only[uz]at hk j;refine⟨?_,j⟩;have U:∀g F,(fX P ops cv).k≠.Gf g F:=by
   intro g F h;unfold fX at h;split at h
   .unfold bQ at h;repeat' split at h
    all_goals cases h
   grind
  generalize(fX P ops cv).k=k at hk U;cases k<;>simp only[qE]at hk<;>cases hk<;>first|rfl|grind
 obtain⟨m,l⟩:=r
 unfold fX at m l
 cases D:xI ops cv.guard with
 |none=>grind
 |some DZ=>
  rw[D]at m l;simp only at m l;subst l;have B:cv.guard=none:=by
   cases B:cv.guard with
   |none=>rfl
   |some Y=>
    obtain⟨o,b⟩:=Y;rw[B]at D
    grind [xI]
  obtain⟨args,na,J,rfl⟩:=ay2 m;have hw:hF cv (lI ops a.tmps)=true:=by simp[hF,B]
  rw[aP hw];refine .inl ?_;have O:=xN S.mem.cA _ _ R;have X:args.map (ii ops E a).eval=aG.toArray:=by
   rw[<-O];apply xZ;simp only[zy,iD];refine mG λx _=>?_;simp only[Function.comp];exact S.rel.eval x
  have V:(dk a.eval cv).run P w= .ok (.enter f aG.toArray) w:=by
   rw[<-G];simp[dk,J,tZ,invoke,X,PZ,H5,A6 C.1]
  unfold BF;rw[MM,V,Iw];refine aj3 (C.2 w S.mem.cA.hw) ?_;rintro nn xU ⟨rfl,M⟩;have s:∀o d,mK ops o=some d->q<=d:=λo d A=>by
   unfold vP at c;split at c;cases ay:cm.contains _ with
   |false=>rw[ay]at c;cases c
   |true=>
    rw[ay]at c;injection c with c;subst c;unfold mK at A;cases N:ops[o]?with
    |none=>grind
    |some W=>
     rw[N]at A;exact ae2 _ W aJ d A
   grind
  exact⟨a,rfl,H q v β e L h (ii ops E a) a xU (S.mem.ext M) S.rel S.oI z I (by have:=S.rel.size;rwa[ahb]at this) λt T=>(ag' s T E a).symm⟩
theorem aDo bF{Z:vF}{cm:List Nat}{dj:Nat}{ops:Array cp}{K:fw}{Q:hT->Act->bw->Prop}(ok:Ds P ops)(cM:jk al a' n Any K (Q .normal))(Jx:LJ al a' n Z Q):∀kF listed a w E done t f e L h β,yi P cm al a' n dj ops listed a w E done e L h β->BN P cm ops done t->qs P n dj Z f done t e L h K->(∃F8:List Nat,F8.length<=kF/\∀o,o<ops.size->listed.getD o false=false->o∈F8)->Lp P .any ops (r0 bF Q) kF listed {a with defers:=bF} w:=by
 intro kF;induction kF with
 |zero=>
  intro listed a w E done t f e L h β S T hp ⟨F8,M3,ab4⟩;have yO:F8=[]:=x9 I;subst yO;have aq:F4 .any ops listed=[]:=by
   cases aq:F4 .any ops listed with
   |nil=>rfl
   |cons x l=>
    have M:x∈F4 .any ops listed:=aJ;obtain⟨h1,jz,ae,_⟩:=UK.1 M
    grind
  exact⟨aq,a,rfl,ah9 ok cM S T hp aq⟩
 |succ kF bG=>
  refineλlisted a w akc aoO t0 f0 dO L h β Ye JZ ac4⟨F8,M3,ab4⟩=>⟨λaq=>⟨a,rfl,ah9 ok cM Ye JZ ac4 aq⟩,λi ai=>?_⟩;obtain⟨f,done,t,E,e,S,T,hp,acV⟩:=Ye.saturate ok f0 aoO t0 akc dO JZ ac4;obtain⟨atJ,cv,R,Tl⟩:=UK.1 ai;have eS:i<ops.size:=(zw.1 R).1;have GT:i<listed.size:=aJ;have atK:=aqU atJ;have ab3:∃Yr:List Nat,Yr.length<=kF/\∀o,o<ops.size->(listed.setIfInBounds i true).getD o false=false->o∈Yr:=by
   have aHB:=ab4 i eS atK;refine⟨F8.erase i,aJ,λo j ak=>?_⟩;have mP:o≠i:=λe=>by simp_all
   rw[Sh false (d' mP)]at ak
   grind
  have SN:∀k,k≠i->yg ops k i->listed.getD k false=true:=λk hk Ep=>by
   have ay:Dc ops λo=>listed.getD o false=true\/o=i:=by
    intro o O j ak x M N;rcases ak with ak|rfl;exact .inl (S.closed o O j ak x M N)
    grind
   rcases Ep _ ay (.inr rfl)with p|p;omega;omega
  have as2:∀x∈E,∀t,mK ops x.1=some t->t∉cv.looksAt ops:=by
   intro x M t T hm;obtain⟨i1,i2,O,d,i3,i4,i5,_⟩:=S.info x.1 x.2 M;rw[Gs i3,i4]at T;injection T with T;subst T;by_cases J3:x.1=i;rw[J3,R]at i3;injection i3 with i3;subst i3;obtain⟨mI,aL,aH⟩:=ok.dst i cv R i5.1
   grind
   rcases ok.A i x.1 cv O (d' J3) R i3 d i4 hm with Ep|⟨Cu,_⟩
   grind
   rw[NU i5.1 i5.2]at Cu;cases Cu
  obtain⟨I9,aar⟩:=ag9 (ops:=ops) (λcs b=>ok.OE i cv cs b R) a E as2;unfold wpOp;rw[R];simp only[A1];by_cases uN:i∈done;rcases S.AZ i uN with p|⟨v,an⟩
  grind
  obtain⟨uj,ho,rfl⟩:=List.append_of_mem an;obtain⟨i1,i2,O,d,i3,i4,i5,C,i6,i7⟩:=S.info i v an;rw[R]at i3;injection i3 with i3;subst i3;have AA:=i7 w λhm=>i6 hm w (ahU S.mem.cA);have b':∀x∈uj++ho,x.1≠i:=λx M=>by
   have aA:=S.nodup
   grind
  have as9:ii ops (uj++(i,v)::ho) a=ii ops (uj++ho) (a.put cv.dst v):=by
   rw[<-Gs R];refine aha i v a ho (λx M t T jv=>?_) uj;obtain⟨Y,W,nB,mI,e8,qd,o8,_⟩:=S.info x.1 x.2 (LU _ (gX _ M));rw[Gs R]at T;rw[Gs e8]at jv;rcases ok.B i x.1 cv nB (d' (b' x (LU _ M))) R e8 t jv T with p|p;rw[NU o8.1 o8.2]at p;grind
   grind
  have r9:yi P cm al a' n dj ops (listed.setIfInBounds i true) (a.put cv.dst v) w (uj++ho) done e L h β:=by
   refine⟨by simp[S.size],S.closed.set ai GT,S.Ae,λo j=>?_,λo j=>?_,S.Ru,?_,λo u j=>?_,S.mem,by rw[<-as9];exact S.rel,S.oI⟩;rcases(Jk GT).1 j with rfl|j;omega;exact S.sub o j;by_cases mP:o=i;simp_all;rcases S.AZ o j with p|⟨u,hu⟩;exact .inl ((Jk GT).2 (.inr p))
   grind
   have aA:=S.nodup
   grind
   have fz:(o,u)∈uj++(i,v)::ho:=by
    grind
   obtain⟨Y,W,nB,mI,e8,qd,o8,C,T3,aet⟩:=S.info o u fz;refine⟨Y,?_,nB,mI,e8,qd,o8,C,T3,λbk pI=>aJ⟩;rw[Sh false (d' (b' _ j))];exact W
  have yN:=bG _ _ w _ done t f e L h β r9 T hp ab3;unfold yd at AA;rw[I9,aar]at AA;rcases AA with⟨hw,ff⟩|⟨hw,an⟩;rw[hw];exact .inl (r1 (by rw[MM];omega) (by rw[A1];omega))
  grind
  have asP:∃U,(i,U)∈t/\U=({U:=ke P cm ops (eR ops) i cv,after:=(cv.after.toList.filter (rr .any)).map (·.on),m:=pN P cm ops (eR ops) i,x:=qJ P ops (eR ops) i,y:=tC ops cv,z:=qu P cm ops (eR ops) i,q:=vP P cm ops cv}:vu):=⟨_,(T.2 i _).2 ⟨uN,cv,R,rfl⟩,rfl⟩;obtain⟨U,Tk,rfl⟩:=asP;have ac8:=(ahk (done:=done) (cv:=cv)).2 λx M N=>S.sub _ (Tl x M N);have Te:ir (fX P ops cv).k=false\/qJ P ops (eR ops) i=true:=by
   cases an:ir (fX P ops cv).k with
   |false=>simp
   |true=>
    refine .inr ?_;cases M:qJ P ops (eR ops) i with
    |true=>rfl
    |false=>exact(agZ acV _ Tk (by show(ir (ke P cm ops (eR ops) i cv).k&& !qJ P ops (eR ops) i)=true;rw[agh,an,M];rfl) ac8).elim
  obtain⟨r,eZ,hZ,mj⟩:=ag1 (pre:=[]) (by simpa using T.1) i _ Tk ac8;have SU:a.defers=[]:=by have:=S.rel.defers;rwa[O0]at this
  have xA:(∃np,(hS P n (ke P cm ops (eR ops) i cv) e L h λe L h=>qs P n dj Z np (i::done) r e L h K)/\tS dj e (ke P cm ops (eR ops) i cv).k=true/\sN dj e L {U:=ke P cm ops (eR ops) i cv,after:=(cv.after.toList.filter (rr .any)).map (·.on),m:=pN P cm ops (eR ops) i,x:=qJ P ops (eR ops) i,y:=tC ops cv,z:=qu P cm ops (eR ops) i,q:=vP P cm ops cv}=true)\/∃q,vP P cm ops cv=some q/\∃(vT:l4)(kE:List eb)(aG:List ax)(v:ax),(ke P cm ops (eR ops) i cv).k= .Gf vT kE/\(ke P cm ops (eR ops) i cv).g=none/\ph L (kE.map (eb.get e))=some aG/\Dd P vT aG.toArray h v/\Z q v e L h:=by
   cases t with
   |nil=>cases Tk
   |cons x l=>
    cases f with
    |zero=>exact hp.elim
    |succ f=>
     simp only[qs,acV]at hp;have G:=YG hp _ eZ;simp only[Lv]at G;have norm:(bif tS dj e (ke P cm ops (eR ops) i cv).k&&sN dj e L {U:=ke P cm ops (eR ops) i cv,after:=(cv.after.toList.filter (rr .any)).map (·.on),m:=pN P cm ops (eR ops) i,x:=qJ P ops (eR ops) i,y:=tC ops cv,z:=qu P cm ops (eR ops) i,q:=vP P cm ops cv}then hS P n (ke P cm ops (eR ops) i cv) e L h (λe L h=>qs P n dj Z f (i::done) r e L h K)else False)->∃np,(hS P n (ke P cm ops (eR ops) i cv) e L h λe L h=>qs P n dj Z np (i::done) r e L h K)/\tS dj e (ke P cm ops (eR ops) i cv).k=true/\sN dj e L {U:=ke P cm ops (eR ops) i cv,after:=(cv.after.toList.filter (rr .any)).map (·.on),m:=pN P cm ops (eR ops) i,x:=qJ P ops (eR ops) i,y:=tC ops cv,z:=qu P cm ops (eR ops) i,q:=vP P cm ops cv}=true:=by
      intro G;cases N:tS dj e (ke P cm ops (eR ops) i cv).k with
      |false=>grind
      |true=>
       rw[N]at G;cases eu:sN dj e L {U:=ke P cm ops (eR ops) i cv,after:=(cv.after.toList.filter (rr .any)).map (·.on),m:=pN P cm ops (eR ops) i,x:=qJ P ops (eR ops) i,y:=tC ops cv,z:=qu P cm ops (eR ops) i,q:=vP P cm ops cv}with
       |false=>grind
       |true=>rw[eu]at G;exact⟨f,G,rfl,rfl⟩
     cases v7:vP P cm ops cv with
     |none=>simp_all
     |some q=>
      rw[v7]at G norm;cases G with
      |go k=>simp_all
      |die vT kE aG v hk am an aC z=>grind
  rcases xA with xA|⟨q,v7,vT,kE,aG,v,hk,am,an,aC,z⟩;case inr=>exact aoI bF ok S Jx R v7 hk am an aC z I9 SU
  obtain⟨np,lz,acb,at3⟩:=xA;have Ez:BN P cm ops (i::done) r:=T.step hZ aJ;have SW:∀x∈E,∀t,cv.dst=some t->mK ops x.1≠some t:=by
   intro x M t T jv;obtain⟨Y,W,nB,mI,e8,qd,o8,_⟩:=S.info x.1 x.2 M;have J3:x.1≠i:=λe=>uN aJ;rw[Gs e8]at jv;rcases ok.B x.1 i nB cv J3 e8 R t T jv with⟨_,p⟩|⟨p,_⟩
   grind
   rw[NU o8.1 o8.2]at p;cases p
  have step:∀(pY:fw)(C:(Nat->Nat)->Prop),(∀J D F,pY J D F->qs P n dj Z np (i::done) r J D F K)->(∀H J D F,C H->pY J D F->∀o u,(o,u)∈E->∀O,ops[o]?=some O->rN (bQ P O.op)=true->listed.getD o false=false->o∈done->∀bk,kq H (tQ (pN P cm ops (eR ops) o) dj D) (sJ (qu P cm ops (eR ops) o) F) bk->kq β (tQ (pN P cm ops (eR ops) o) dj L) (sJ (qu P cm ops (eR ops) o) h) bk)->(∀(next':Act->bw->Prop),jk al a' n C pY next'->if hF cv (lI ops (ii ops E a).tmps)then cv.wp P (ii ops E a) w next' (λ_ _ _=>False)else next' ((ii ops E a).put cv.dst fp) w)->
   if hF cv (lI ops a.tmps)then cv.wp P {a with defers:=bF} w (Lp P .any ops (r0 bF Q) kF (listed.setIfInBounds i true)) (r0 bF Q)\/(cv.asks P {a with defers:=bF} w/\Qh (r0 bF Q))else Lp P .any ops (r0 bF Q) kF (listed.setIfInBounds i true) {a.put cv.dst fp with defers:=bF} w:=by
   intro pY C aru asj ff
   have xy:jk al a' n C pY λYB bk=>∀(eO:Act)(v:ax),eO.tmps=a.tmps->ii ops E (eO.put cv.dst v)=YB->(eO.put cv.dst v).defers=[]/\Lp P .any ops (r0 bF Q) kF (listed.setIfInBounds i true) {eO.put cv.dst v with defers:=bF} bk:=by
    rintro H J D F YB bk hC bt dq fV V eO v adg rfl;have fW:eO=a:=by
     have h1:=dq.defers;rw[O0]at h1;have ae:eO.defers=[]:=by
      cases aC:cv.dst<;>rw[aC]at h1<;>exact h1
     cases eO;cases a;simp_all
    subst fW;have yS:=KV (ops:=ops) cv.dst v eO E SW;refine⟨by rw[ag7];omega,(bG _ _ bk E (i::done) r np J D F H ⟨by simp[S.size],S.closed.set ai GT,?_,λo j=>?_,λo j=>?_,λo j=>?_,S.nodup,λo u j=>?_,bt,dq,fV⟩ Ez (aru _ _ _ V) ab3)⟩;intro o O j xq x M N;rcases ek.1 xq with rfl|xq;rw[R]at j;injection j with j;subst j;exact gX _ (S.sub _ (Tl x M N));exact gX _ (S.Ae o O j xq x M N);rcases(Jk GT).1 j with rfl|j;simp;exact gX _ (S.sub o j);rcases ek.1 j with rfl|j;simp_all;rcases S.AZ o j with p|p;exact .inl ((Jk GT).2 (.inr p))
    grind
    rcases ek.1 j with rfl|j;omega;exact S.Ru o j;obtain⟨Y,W,nB,mI,e8,qd,o8,aj2,T3,aet⟩:=S.info o u j;have mP:o≠i:=λe=>uN aJ;refine⟨gX _ Y,by rw[Sh false (d' mP)];exact W,nB,mI,e8,qd,o8,aj2,λhm bk ao=>T3 hm bk (asj H J D F hC V o u j nB e8 hm W Y bk ao),λbk pI=>?_⟩;have AA:=aet bk pI;have uS:∀t,cv.dst=some t->t∉nB.looksAt ops:=by
     intro t T hm;rcases ok.A o i nB cv mP e8 R t T hm with Ep|⟨_,Ep⟩;exact uN (Ep _ S.Ae Y)
     grind
    unfold yd at AA⊢;rw[yS,RM (ops:=ops) nB (λcs b=>ok.OE o nB cs b e8) _ _ _ uS,W0 (ops:=ops) nB _ _ _ uS];omega
   have yJ:=ff _ xy
   rw[aar]at yJ
   split
   rename_i hw
   rw[aP hw]at yJ
   exact .inl (Vf bF (aF5 (next:=λa w=>a.defers=[]/\Lp P .any ops (r0 bF Q) kF (listed.setIfInBounds i true) {a with defers:=bF} w) I9 SW (λv cH fQ adg p=>p cH v adg rfl) yJ) λ_ _ q=>q)
   rename_i hw
   rw[aD hw]at yJ
   exact(yJ a fp rfl (KV _ _ _ _ SW)).2
  cases Jw:ir (fX P ops cv).k with
  |true=>
   have nv:ir (bQ P cv.op)=true:=by
    unfold fX at Jw;split at Jw;omega;cases Jw
   obtain⟨d,aC,_⟩:=ok.dst i cv R nv;obtain⟨_,bH,aL,aH,bp,ch⟩:=ajy S.mem.cA S.rel S.oI Jw aC (OI lz);refine step (λJ D F=>qs P n dj Z np (i::done) r J D F K/\D=L/\F=h) (λH=>H=β) (λJ D F V=>V.1) ?_ (λnext' X=>?_)
   grind
   have aA:=X β (ji e d bH) L h ((ii ops E a).put cv.dst (bH.c β)) w rfl S.mem (by rw[aC];exact S.rel.put bp aH) S.oI ⟨aL,rfl,rfl⟩;rcases ch w λ_=>S.mem.cA with⟨hw,ff⟩|⟨hw,an⟩;rw[aP hw];exact r1 ff aA
   grind
  |false=>
   have Cu:ir (bQ P cv.op)=false\/False:=by
    have Te:=Jw;unfold fX at Te;split at Te
    grind
    rename_i am;have lz:=OI lz;unfold fX at lz;rw[am]at lz;exact lz.elim
   have Cu:=Cu.resolve_right id;cases wb:EJ (bQ P cv.op)with
  |true=>
   have atU:hS P n (fX P ops cv) e L h λe L h=>qs P n dj Z np (i::done) r e L h K:=OI lz;refine step _ (λH=>∀i,i<L.length->H i=β i) (λJ D F V=>V.1) ?_ (λnext' X=>aF0 (λ_ p=>p) X wb S.mem S.rel S.oI (aFW wb atU));rintro H J D F kR ⟨_,ak,rfl⟩ o u j O AC hm yL pG bk;have acX:∀q l,cz L q=some l->cz D q=some l:=λq l G=>by
    rcases ak with rfl|⟨x,rfl⟩;omega;rw[xK,aP (ny G)];exact G
   have Cx:∀q l,cz L q=some l->l.fu H q bk->l.fu β q bk:=λq l G ao=>by
    have N:=kR q (ny G);cases l with
    |own cs ty=>simp only[LE.fu]at ao⊢;rw[<-N,<-Gk (S.oI q cs ty G) (λi ai=>kR i (O4 ai))];exact ao
    |b4 b=>simp only[LE.fu]at ao⊢;omega
    |row=>simp only[LE.fu]at ao⊢;grind
    |map=>simp only[LE.fu]at ao⊢;grind
    |gone=>trivial
   cases pN P cm ops (eR ops) o with
   |false=>exactλs=>⟨s.hw,λq l G=>Cx q l G (s.cA q l (acX q l G))⟩
   |true=>
    intro s;obtain⟨s1,s2⟩:=zk.1 s;exact zk.2 ⟨s1,λq l Es G aq=>Cx q l G (s2 q l Es (acX q l G) aq)⟩
  |false=>
   have other:(xF (bQ P cv.op)=false)->(J9 (bQ P cv.op)=false)->tC ops cv=false->∀o u,(o,u)∈E->∀O,ops[o]?=some O->rN (bQ P O.op)=true->False:=by
    intro aV ay aN o u j O AC hm;obtain⟨Y,W,aIn,mI,e8,qd,o8,_⟩:=S.info o u j;have mP:o≠i:=λe=>uN aJ;rcases ok.C o i O cv mP AC R hm o8.2 with p|p|p|p|p|p|p
    grind
    grind
    grind
    grind
    grind
    grind
    exact uN (p _ S.Ae Y)
   cases jt:alone P cm ops (eR ops) i cv with
   |true=>
    refine step _ Any (λJ D F V=>V) ?_ (λnext' X=>Lr X S.mem S.rel S.oI (OI lz));intro H J D F _ _ o u j O AC hm yL pG;obtain⟨Y,W,_⟩:=S.info o u j;have mP:o≠i:=λe=>uN aJ;unfold alone at jt;simp only[h0,rl,uo,H2,beq_iff_eq]at jt;rcases jt.2 o (zw.1 AC).1 with p|p;omega;rw[AC]at p;simp only[hm,Bool.not_true,ug,false_or,H2]at p;rcases p with p|p;exact absurd (vL ops p _ S.Ae Y) uN;rw[SN o mP (vL ops p)]at W;cases W
   |false=>
    have aa8:(xF (bQ P cv.op)||Ak P cm cv||tC ops cv)=true->∀o u,(o,u)∈E->pN P cm ops (eR ops) o=true:=by
     intro M o u j;obtain⟨Y,W,_⟩:=S.info o u j;have mP:o≠i:=λe=>uN aJ;unfold pN;rw[Qk];refine⟨i,uo.2 eS,?_⟩;rw[R];simp only[M,zB,h0,x1];constructor;cases N:((eR ops).getD i 0).testBit o with
     |false=>rfl
     |true=>rw[SN o mP (vL ops N)]at W;cases W
     cases N:((eR ops).getD o 0).testBit i with
     |false=>rfl
     |true=>exact absurd (vL ops N _ S.Ae Y) uN
    cases acy:Ak P cm cv with
   |true=>
    have GG:ke P cm ops (eR ops) i cv=Ch (fX P ops cv):=by unfold ke;grind
    rw[GG]at lz;refine step _ (λH=>H=β) (λJ D F V=>V.1) ?_ (λnext' X=>aFZ X acy S.mem S.rel S.oI lz);rintro H J D F rfl ⟨_,rfl⟩ o u j O AC hm yL pG bk s;have a1:qu P cm ops (eR ops) o=true:=by
     obtain⟨Y,W,_⟩:=S.info o u j;have mP:o≠i:=λe=>uN aJ;unfold qu;rw[Qk];refine⟨i,uo.2 eS,?_⟩;rw[R];simp only[acy,zB,h0,x1];constructor;cases N:((eR ops).getD i 0).testBit o with
     |false=>rfl
     |true=>rw[SN o mP (vL ops N)]at W;cases W
     cases N:((eR ops).getD o 0).testBit i with
     |false=>rfl
     |true=>exact absurd (vL ops N _ S.Ae Y) uN
    rw[a1]at s⊢;exact s
   |false=>
    have GG:ke P cm ops (eR ops) i cv=uz (fX P ops cv):=by unfold ke;grind
    rw[GG]at lz acb;cases arP:xF (bQ P cv.op)with
   |true=>
    refine step _ (λH=>∀i,fo L i->H i=β i) (λJ D F V=>V.1) ?_ (λnext' X=>aFX X arP acb S.mem S.rel S.oI lz);rintro H J D F kR ⟨_,ak,rfl⟩ o u j O AC hm yL pG bk s;have S0:=aa8 aJ o u j;rw[S0]at s⊢;obtain⟨s1,s2⟩:=zk.1 s;refine zk.2 ⟨s1,λq l Es G aq=>?_⟩;have ao:=s2 q l Es (ak q l Es G aq) aq;have N:=kR q ⟨l,G,aq⟩;cases l with
    |own cs ty=>simp only[LE.fu]at ao⊢;rw[<-N,<-Gk (S.oI q cs ty G) kR];exact ao
    |b4 b=>simp only[LE.fu]at ao⊢;omega
    |row=>cases aq
    |map=>simp only[LE.fu]at ao⊢;grind
    |gone=>trivial
   |false=>
    cases ar7:J9 (bQ P cv.op)with
    |true=>
     refine step _ (λH=>H=β) (λJ D F V=>V.1) ?_ (λnext' X=>aFY X ar7 S.mem S.rel S.oI lz);rintro H J D F rfl ⟨_,I3⟩ o u j O AC hm yL pG bk s;exact I3 _ _ _ _ aGp s
    |false=>
     cases at4:tC ops cv with
     |true=>
      refine step _ (λH=>H=β) (λJ D F V=>V.1) ?_ (λnext' X=>aF1 X (by rw[GG,at4]at at3;omega) S.mem S.rel S.oI lz);rintro H J D F rfl ⟨_,ak,rfl⟩ o u j O AC hm yL pG bk s;have S0:=aa8 aJ o u j;rw[S0]at s⊢;obtain⟨s1,s2⟩:=zk.1 s;exact zk.2 ⟨s1,λq l Es G aq=>s2 q l Es aJ aq⟩
     |false=>
      refine step _ Any (λJ D F V=>V) ?_ (λnext' X=>Lr X S.mem S.rel S.oI (Zn lz))
      grind
theorem af8{α:Type}:∀(l:List α) k i x,(i,x)∈E0 l k↔k<=i/\l[i-k]?=some x
 |[],k,i,x=>by simp[E0]
 |y::l,k,i,x=>by
  simp only[E0,ek,wZ,af8 l (k+1) i x]
  grind
theorem afi(cm:List Nat)(ops:Array cp)(b:Array Nat):∀(l:List cp)(k i:Nat),(Kv P cm ops b l k)[i]?=(l[i]?).map λU=>({U:=ke P cm ops b (k+i) U,after:=(U.after.toList.filter (rr .any)).map (·.on),m:=pN P cm ops b (k+i),x:=qJ P ops b (k+i),y:=tC ops U,z:=qu P cm ops b (k+i),q:=vP P cm ops U}:vu)
 |[],k,i=>by rfl
 |U::l,k,0=>by rfl
 |U::l,k,i+1=>by
  simp only[Kv,List.getElem?_cons_succ,afi cm ops b l (k+1) i]
  grind
theorem af7{α:Type}:∀(l:List α)(k:Nat),(E0 l k).map (·.1)=List.range' k l.length
 |[],k=>rfl
 |y::l,k=>by simp only[E0,ec,af7 l (k+1),iv,List.range'_succ]
theorem aAr bF{Z:vF}{cm:List Nat}{ops:Array cp}{K:fw}{Q:hT->Act->bw->Prop}(d:OH P ops=true)(g:jk al a' n Any K (Q .normal))(c:LJ al a' n Z Q)(m:cX al a' β L h w)(r:dn n β L e a)(f:dN L)(hp:W4 P n (VA (Kv P cm ops (eR ops) ops.toList 0)) e L h K Z):Lp P .any ops (r0 bF Q) ops.size (Xg ops.size false) {a with defers:=bF} {w with drawn:=w.drawn+1}:=by
 rw[W4,VA,W3]at hp;have ok:=aAq d;have k:∀o,(Xg ops.size false).getD o false=false:=λo=>getD_replicate_false _ _;refine aDo bF (cm:=cm) ok g c ops.size _ a _ [] [] _ _ e L h β ?_ ?_ hp ?_;refine⟨bd,λo j b ak=>?_,λo j b ak=>(by cases ak),λo b=>?_,λo b=>(by cases b),λo b=>(by cases b),bd,λo v b=>(by cases b),?_,r,f⟩
 grind
 grind
 exact⟨⟨m.cA.hw,m.cA.cA⟩,m.hole,m.inj,m.lt,m.cQ,m.os,m.tape,m.output,m.size,m.frame,m.fresh⟩;refine⟨?_,λi U=>?_⟩;unfold idx;rw[af7]
 grind
 rw[af8];simp only[Nat.zero_le,true_and,Nat.sub_zero,afi,dM,ye,List.not_mem_nil,not_false_eq_true,zx]
 grind
 exact⟨fL ops.size,bd,λo b _=>uo.2 b⟩
end
end Go.Sx
namespace Go.Sx
open Go.RowKit
set_option maxRecDepth 100000
set_option maxHeartbeats 0
set_option linter.all false
variable {fn:Func}{h:J}{cm:List Nat}{args:List ax}
abbrev k7:=hT->cy->List LE->J->Prop
def zl(e:cy)(c:eb)(b:Bool):cy:=match c with
 |.t t=>ji e t (.v (.bool b))
 |_=>e
def OL(L:List LE):aK->Bool
 |.p i _|.s i _ _ _|.m i=>(match cz L i with|some (.row ..)=>false|some _=>true|none=>false)
 |_=>true
def mX(L:List LE):aK->Bool
 |.a xs=>xs.all (OL L)
 |x=>OL L x
def E2(L:List LE):List LE->Bool
 |[]=>true
 |.own cs _::r=>cs.all (OL L)&&E2 L r
 |_::r=>E2 L r
def qV(perm:List Nat)(i:Nat):Nat:=match cz perm i with|some o=>o|none=>0
def O5(perm:List Nat):aK->aK
 |.v x=>.v x
 |.p i off=>.p (qV perm i) off
 |.s i off len cap=>.s (qV perm i) off len cap
 |.m i=>.m (qV perm i)
 |.a _=>.v fp
def tY(perm:List Nat):aK->aK
 |.a xs=>.a (xs.map (O5 perm))
 |x=>O5 perm x
def pR(perm:List Nat):LE->LE
 |.own cs ty=>.own (cs.map (O5 perm)) ty
 |l=>l
def sR(L:List LE):List Nat->Option (List LE)
 |[]=>some []
 |i::r=>match cz L i,sR L r with|some l,some k=>some (l::k)|_,_=>none
def uC:List Nat->Bool
 |[]=>true
 |i::r=>!EV r i&&uC r
def K2(L:List LE)(x:aK):aK:=match zf L x with
 |some v=>.v v
 |none=>x
abbrev zI{X:Type}(b:X->List aK)(a:X->List LE):Prop:=∀x,((b x).all (mX (a x))&&E2 (a x) (a x))=true
abbrev alR(B:k7->cy->List LE->J->Prop)(Q:k7){X:Type}(g:List Nat)(i:X->List aK)(b:X->List LE)(ar:X->J->Prop)(j:X->Nat):Prop:=∀x e h,ar x h->B (λex d f c=>match ex with
 |.normal=>∃a,g.map d=i a/\f.take (b a).length=b a/\ar a c/\j a<j x
 |ex=>Q ex d f c) (lH e g (i x)) (b x) h
abbrev alS(B:k7->cy->List LE->J->Prop)(Q:k7){X:Type}(g:List Nat)(i:X->List aK)(d:X->List LE)(ar:X->J->Prop)(j:X->Nat):Prop:=∀x e h,ar x h->hc (λL h=>B (λex f c b=>match ex with
 |.normal=>hc (λc b=>∃a,g.map f=i a/\c.take (d a).length=d a/\ar a b/\j a<j x) c b
 |ex=>Q ex f c b) (lH e g (i x)) L h) (d x) h
inductive kB(B:k7->cy->List LE->J->Prop)(Q:k7)(e:cy)(L:List LE)(h:J):Prop
 |mk (X:Type) (eI:List Nat) (eQ:X->List aK) (ep:X->List LE) (ar:X->J->Prop) (hi:X->Nat) (ei:X)
  (eK:zI eQ ep)
  (al:ar ei h) (he:eI.map e=eQ ei) (aW:L.take (ep ei).length=ep ei)
  (lE:∀x e h,ar x h->B (λex bD bu aa=>match ex with
   |.normal=>∃dF,eI.map bD=eQ dF/\bu.take (ep dF).length=ep dF/\ar dF aa/\hi dF<hi x
   |ex=>Q ex bD bu aa) (lH e eI (eQ x)) (ep x) h)
 |AV (perm:List Nat) (X:Type) (eI:List Nat) (eQ:X->List aK) (ep:X->List LE) (ar:X->J->Prop) (hi:X->Nat) (ei:X)
  (eK:zI eQ ep)
  (al:ar ei h) (he:eI.map e=(eQ ei).map (tY perm)) (aC:uC perm=true) (aW:sR L perm=some ((ep ei).map (pR perm)))
  (lE:∀x e h,ar x h->B (λex bD bu aa=>match ex with
   |.normal=>∃dF,eI.map bD=eQ dF/\bu.take (ep dF).length=ep dF/\ar dF aa/\hi dF<hi x
   |ex=>Q ex bD bu aa) (lH e eI (eQ x)) (ep x) h)
 |mq (perm:List Nat) (X:Type) (eI:List Nat) (eQ:X->List aK) (ep:X->List LE) (ar:X->J->Prop) (hi:X->Nat) (ei:X)
  (eK:zI eQ ep)
  (al:ar ei h) (he:eI.map e=(eQ ei).map (tY perm)) (aC:uC perm=true) (aW:sR L perm=some ((ep ei).map (pR perm)))
  (lE:∀x e h,ar x h->hc (λL h=>B (λex bD bu aa=>match ex with
   |.normal=>hc (λbu aa=>∃dF,eI.map bD=eQ dF/\bu.take (ep dF).length=ep dF/\ar dF aa/\hi dF<hi x) bu aa
   |ex=>Q ex bD bu aa) (lH e eI (eQ x)) L h) (ep x) h)
 |afz (perm:List Nat) (X:Type) (eI:List Nat) (eQ:X->List aK) (ep:X->List LE) (ar:X->J->Prop) (hi:X->Nat) (ei:X)
  (eK:zI eQ ep)
  (al:ar ei h) (he:eI.map (λs=>K2 L (e s))=(eQ ei).map (tY perm)) (aC:uC perm=true) (aW:sR L perm=some ((ep ei).map (pR perm)))
  (lE:∀x e h,ar x h->hc (λL h=>B (λex bD bu aa=>match ex with
   |.normal=>hc (λbu aa=>∃dF,eI.map bD=eQ dF/\bu.take (ep dF).length=ep dF/\ar dF aa/\hi dF<hi x) bu aa
   |ex=>Q ex bD bu aa) (lH e eI (eQ x)) L h) (ep x) h)
inductive vo(B:k7->cy->List LE->J->Prop)(Q:k7)(e:cy)(L:List LE)(h:J):Prop
 |mk (X:Type) (eI:List Nat) (eQ:X->List aK) (ep:X->List LE) (ar:X->J->Prop) (hi:X->Nat) (ei:X)
  (eK:zI eQ ep)
  (al:ar ei h) (he:eI.map e=eQ ei) (aW:L.take (ep ei).length=ep ei)
  (lE:∀x e h,ar x h->B (λex bD bu aa=>match ex with
   |.normal=>∃dF,eI.map bD=eQ dF/\bu.take (ep dF).length=ep dF/\ar dF aa/\hi dF<hi x
   |ex=>Q ex bD bu aa) (lH e eI (eQ x)) (ep x) h)
 |AV (perm:List Nat) (X:Type) (eI:List Nat) (eQ:X->List aK) (ep:X->List LE) (ar:X->J->Prop) (hi:X->Nat) (ei:X)
  (eK:zI eQ ep)
  (al:ar ei h) (he:eI.map e=(eQ ei).map (tY perm)) (aC:uC perm=true) (aW:sR L perm=some ((ep ei).map (pR perm)))
  (lE:∀x e h,ar x h->B (λex bD bu aa=>match ex with
   |.normal=>∃dF,eI.map bD=eQ dF/\bu.take (ep dF).length=ep dF/\ar dF aa/\hi dF<hi x
   |ex=>Q ex bD bu aa) (lH e eI (eQ x)) (ep x) h)
 |mq (perm:List Nat) (X:Type) (eI:List Nat) (eQ:X->List aK) (ep:X->List LE) (ar:X->J->Prop) (hi:X->Nat) (ei:X)
  (eK:zI eQ ep)
  (al:ar ei h) (he:eI.map e=(eQ ei).map (tY perm)) (aC:uC perm=true) (aW:sR L perm=some ((ep ei).map (pR perm)))
  (lE:∀x e h,ar x h->hc (λL h=>B (λex bD bu aa=>match ex with
   |.normal=>hc (λbu aa=>∃dF,eI.map bD=eQ dF/\bu.take (ep dF).length=ep dF/\ar dF aa/\hi dF<hi x) bu aa
   |ex=>Q ex bD bu aa) (lH e eI (eQ x)) L h) (ep x) h)
 |VH (xs:List aK) (x:mx 40 xs (λL h=>kB B Q e L h) L h)
 |kY (x:hc (λL h=>kB B Q e L h) L h)
theorem ag4 xs{K c:List LE->J->Prop}(e:∀L h,K L h->c L h):∀a L h,mx a xs K L h->mx a xs c L h
 |0,_,_,hp=>hp.elim
 |a+1,L,h,hp=>by
  simp only[mx]at hp⊢;split at hp
  grind
  split at hp;omega;split at hp;split at hp;obtain⟨k⟩:=hp;refine⟨λb d=>?_⟩;have:=k b d;rw[xk]at this⊢;exact ag4 xs e a _ _ this;omega;omega
theorem vo.norm{B:k7->cy->List LE->J->Prop}{Q:k7}{e:cy}{L:List LE}(x:vo B Q e L h):∃xs,mx 40 xs (λL h=>hc (λL h=>kB B Q e L h) L h) L h:=by
 have nil:kB B Q e L h->∃xs,mx 40 xs (λL h=>hc (λL h=>kB B Q e L h) L h) L h:=λy=>⟨[],.ah y⟩;cases x with
 |mk X a c f ar g d b j he k i=>exact nil (.mk X a c f ar g d b j he k i)
 |AV perm X a c f ar g d b j he l k i=>exact nil (.AV perm X a c f ar g d b j he l k i)
 |mq perm X a c f ar g d b j he l k i=>exact nil (.mq perm X a c f ar g d b j he l k i)
 |VH xs y=>exact⟨xs,ag4 xs (λ_ _ z=>.ah z) _ _ _ y⟩
 |kY y=>exact⟨[],y⟩
def di(P:eN)(n:Nat):IR->k7->cy->List LE->J->Prop
 |.skip,Q,e,L,h=>Q .normal e L h
 |.cd ops,Q,e,L,h=>wpOps P n ops e L h (Q .normal)
 |.y9 ops,Q,e,L,h=>W4 P n ops e L h (Q .normal) λq v e L h=>∀d,(∀t,t<q->d t=e t)->Q (.panic [{v:=v,recovered:=false}]) d L h
 |.seq a b,Q,e,L,h=>di P n a (λx e L h=>match x with|.normal=>di P n b Q e L h|x=>Q x e L h) e L h
 |.cond c x y,Q,e,L,h=>(match c.get e with
  |.v (.bool b)=>fT b (di P n x Q (zl e c true) L h) (di P n y Q (zl e c false) L h)
  |_=>False)
 |.block id b,Q,e,L,h=>di P n b (λx e L h=>match x with|.exit o=>bif hW o id then Q .normal e L h else Q (.exit o) e L h|x=>Q x e L h) e L h
 |.loop b,Q,e,L,h=>vo (λQ e L h=>di P n b Q e L h) Q e L h
 |.exit id,Q,e,L,h=>Q (.exit id) e L h
 |.label,Q,e,L,h=>Q .normal e L h
 |.ret,Q,e,L,h=>Q .ret e L h
 |.scope b,Q,e,L,h=>di P n b (λx e L h=>match x with|.goto _=>False|x=>Q x e L h) e L h
 |_,_,_,_,_=>False
section
variable {P:eN}{al:J}{a':bw}{n:Nat}{β:Nat->Nat}{L:List LE}{h:J}{e:cy}{a:Act}{w:bw}
def lift(al:J)(a':bw)(n:Nat)(Q:k7):hT->Act->bw->Prop:=λx a w=>∃β e L h,cX al a' β L h w/\dn n β L e a/\dN L/\Q x e L h
theorem KH{x:aK}(a:OL L x=true):x.iQ L:=by
 have key:∀i,(match cz L i with|some (LE.row ..)=>false|some _=>true|none=>false)=true->fo L i:=λi b=>by
  split at b
  grind
  rename_i l c ak;refine⟨l,ak,?_⟩;cases l<;>first|rfl|grind
  grind
 cases x<;>first|trivial|exact key _ a
theorem agj{x:aK}(b:mX L x=true):x.ok L:=by
 cases x with
 |a xs=>exactλy d=>KH (rl.1 b y d)
 |v y=>trivial
 |p i U=>exact KH (x:=.p i U) b
 |s i U l c=>exact KH (x:=.s i U l c) b
 |m i=>exact KH (x:=.m i) b
theorem agk:∀r,E2 L r=true->∀cs ty,LE.own cs ty∈r->∀x∈cs,x.iQ L
 |[],_,cs,ty,hm,_,_=>by cases hm
 |l::r,a,cs,ty,hm,x,b=>by
  cases hm with
  |head=>
   simp only[E2,h0]at a;exact KH (rl.1 a.1 x b)
  |tail _ hm=>
   refine agk r ?_ cs ty hm x b;cases l<;>simp only[E2,h0]at a<;>first|grind|exact a
theorem agm(a:E2 L L=true):dN L:=λi cs ty c x b=>agk L a cs ty (by rw[qj]at c;grind) x b
theorem cX.trim(m:cX al a' β L h w) k:cX al a' β (L.take k) h w:=by
 have a:∀i l,cz (L.take k) i=some l->cz L i=some l:=λi l ak=>by
  rw[qj,FP]at ak;split at ak;rw[qj];exact ak
  grind
 exact⟨⟨m.cA.hw,λi l ak=>m.cA.cA i l (a i l ak)⟩,λi l ak=>m.hole i l (a i l ak),λi o l cw ak b=>m.inj i o l cw (a i l ak) (a o cw b),λi l ak=>m.lt i l (a i l ak),λi l ak=>m.cQ i l (a i l ak),m.os,m.tape,m.output,m.size,m.frame,m.fresh⟩
theorem ajk(a e:cy):∀b t,lH a b (b.map e) t=e t\/lH a b (b.map e) t=a t
 |[],t=>.inr rfl
 |d::bF,t=>by
  simp only[ec,lH];rcases ajk (ji a d (e d)) e bF t with c|c
  grind
  rw[c];unfold ji;cases f:hW t d with
  |true=>simp_all
  |false=>simp
theorem WW{a:List LE}(b:cy)(al:∀t,(b t).ok a):∀(f:List Nat)(xs:List aK)(_:∀x∈xs,x.ok a)(t:Nat),(lH b f xs t).ok a
 |[],xs,_,t=>by cases xs<;>exact al t
 |d::bF,[],_,t=>al t
 |d::bF,x::xs,e,t=>by
  simp only[lH];refine WW (ji b d x) (λt=>?_) bF xs (λy c=>e y (gX _ c)) t;unfold ji
  grind
theorem dn.forget(r:dn n β L e a){b:List Nat}{xs:List aK}(c:b.map e=xs){f:List LE}(g:xs.all (mX f)=true):dn n β f (lH (λt=>.v (a.tmps.getD t fp)) b xs) a:=by
 refine⟨r.defers,r.size,λt=>?_,λt=>WW (λt=>.v (a.tmps.getD t fp)) (λ_=>trivial) b xs (λx c=>agj (rl.1 g x c)) t⟩;subst c;rcases ajk (λt=>.v (a.tmps.getD t fp)) e b t with d|d<;>rw[d];exact r.env t;rfl
theorem Zc β perm x:(O5 perm x).c1 β=x.c1 λi=>β (qV perm i):=by
 cases x<;>rfl
theorem anW β perm x:(tY perm x).c β=x.c λi=>β (qV perm i):=by
 cases x with
 |a xs=>
  show IC _=IC _;rw[iD];congr 2;exact mG λy _=>Zc β perm y
 |_=>rfl
theorem agY{L:List LE}:∀{perm:List Nat}{K:List LE},sR L perm=some K->∀i l,cz K i=some l->∃o,cz perm i=some o/\cz L o=some l
 |[],K,h,i,l,ak=>by injection h with h;subst h;cases ak
 |p::perm,K,h,i,l,ak=>by
  simp only[sR]at h;split at h;rename_i q k h1 ae;injection h with h;subst h;cases i with
  |zero=>injection ak with ak;subst ak;exact⟨p,rfl,h1⟩
  |succ i=>exact agY ae i l ak
  grind
theorem ZT:∀{perm:List Nat},uC perm=true->∀i o a,cz perm i=some a->cz perm o=some a->i=o
 |[],_,i,o,a,h,_=>by cases h
 |p::perm,b,i,o,a,h1,ae=>by
  simp only[uC,h0,x1]at b;have no:∀k,cz perm k=some p->False:=λk hk=>by
   have:EV perm p=true:=afu.2 (by rw[qj]at hk;grind)
   grind
  cases i with
  |zero=>
   cases o with
   |zero=>rfl
   |succ o=>injection h1 with h1;subst h1;exact(no o ae).elim
  |succ i=>
   cases o with
   |zero=>injection ae with ae;subst ae;exact(no i h1).elim
   |succ o=>rw[ZT b.2 i o a h1 ae]
theorem Ks perm l:(pR perm l).live=l.live:=by cases l<;>rfl
theorem cX.perm(m:cX al a' β L h w){perm:List Nat}{K:List LE}(g:uC perm=true)(hp:sR L perm=some (K.map (pR perm))):cX al a' (λi=>β (qV perm i)) K h w:=by
 have at_:∀i l,cz K i=some l->∃o,cz perm i=some o/\qV perm i=o/\cz L o=some (pR perm l):=λi l ak=>by
  obtain⟨o,h1,ae⟩:=agY hp i (pR perm l) (by rw[qj]at ak⊢;grind);simp_all[qV,h1]
 refine⟨⟨m.cA.hw,λi l ak=>?_⟩,λi l ak d=>?_,λi o l cw ak n d j he=>?_,λi l ak d=>?_,λi l ak d=>?_,m.os,m.tape,m.output,m.size,m.frame,m.fresh⟩;obtain⟨o,h1,ae,c⟩:=at_ i l ak;have e:=m.cA.cA o _ c;cases l with
 |own cs ty=>
  simp only[pR,LE.fu,iD]at e⊢;rw[ae,e];congr 3;exact mG λy _=>Zc β perm y
 |b4 b=>simp_all[pR,LE.fu,ae]
 |row=>simp_all[pR,LE.fu,ae]
 |map f k=>simp_all[pR,LE.fu,ae]
 |gone=>trivial
 obtain⟨o,h1,ae,c⟩:=at_ i l ak;show h (β (qV perm i))=none;rw[ae];exact m.hole o _ c (by rw[Ks];exact d);obtain⟨a,h1,ae,c⟩:=at_ i l ak;obtain⟨b,g1,g2,g3⟩:=at_ o cw n;simp only[ae,g2]at he;have:=m.inj a b _ _ c g3 (by rw[Ks];exact d) (by rw[Ks];exact j) he;subst this;exact ZT g i o a h1 g1;obtain⟨o,h1,ae,c⟩:=at_ i l ak;show β (qV perm i)<_;rw[ae];exact m.lt o _ c (by rw[Ks];exact d);obtain⟨o,h1,ae,c⟩:=at_ i l ak;show al (β (qV perm i))≠none\/_;rw[ae];exact m.cQ o _ c (by rw[Ks];exact d)
theorem ajl{perm:List Nat}{e:cy}:∀h xs b,h.map e=xs.map (tY perm)->(∀t,(e t).c β=a.tmps.getD t fp)->(∀t,(b t).c (λi=>β (qV perm i))=a.tmps.getD t fp)->∀t,(lH b h xs t).c (λi=>β (qV perm i))=a.tmps.getD t fp
 |[],xs,b,_,_,al,t=>by cases xs<;>exact al t
 |d::bF,[],b,f,_,al,t=>al t
 |d::bF,x::xs,b,f,g,al,t=>by
  simp only[ec,zN]at f;simp only[lH];refine ajl bF xs (ji b d x) f.2 g (λt=>?_) t;unfold ji;cases j:hW t d with
  |true=>
   rw[qA j,<-g d,f.1,anW];rfl
  |false=>grind
theorem dn.res(r:dn n β L e a)(s:kq β L h w):dn n β L (λt=>K2 L (e t)) a:=by
 refine⟨r.defers,r.size,λt=>?_,λt=>?_⟩;unfold K2;split;rename_i v b;obtain⟨h1,ae⟩:=HI s b;rw[r.env t,aK.Rb ae,h1];rfl;exact r.env t;unfold K2;split;trivial;exact r.ok t
theorem dn.perm(r:dn n β L e a){perm:List Nat}{b:List Nat}{xs:List aK}(c:b.map e=xs.map (tY perm)){d:List LE}(f:xs.all (mX d)=true):dn n (λi=>β (qV perm i)) d (lH (λt=>.v (a.tmps.getD t fp)) b xs) a:=⟨r.defers,r.size,λt=>(ajl b xs (λt=>.v (a.tmps.getD t fp)) c (λt=>(r.env t).symm) (λ_=>rfl) t).symm,λt=>WW (λt=>.v (a.tmps.getD t fp)) (λ_=>trivial) b xs (λx c=>agj (rl.1 f x c)) t⟩
theorem aoH Q:LJ al a' n (λq v e L h=>∀c,(∀t,t<q->c t=e t)->Q (.panic [{v:=v,recovered:=false}]) c L h) (lift al a' n Q):=by
 refineλq v β e L h ap a w m r g z d i f=>⟨β,λt=>if t<q then e t else .v (a.tmps.getD t fp),L,h,m,⟨d,i,λt=>?_,λt=>?_⟩,g,z _ λt b=>by simp[b]⟩;by_cases b:t<q;simp only[b,lY];rw[f t b];exact r.env t;simp only[b,mm];rfl;by_cases b:t<q;simp only[b,lY];exact r.ok t;simp only[b,mm];trivial
theorem ajC bF{ops:Array cp}{Q:hT->Act->bw->Prop}{K:fw}(d:jk al a' n Any K (Q .normal)):∀l β e L h a w,cX al a' β L h w->dn n β L e a->dN L->wpOps P n (l.map (fX P ops)) e L h K->wpList P ops (r0 bF Q) l {a with defers:=bF} w
 |[],β,e,L,h,a,w,m,r,b,hp=>⟨a,rfl,d β e L h a w trivial m r b hp⟩
 |U::l,β,e,L,h,a,w,m,r,b,hp=>by
  refine wpList_step λnext f=>?_
  have c:=Lr (Q:=Q) (next:=λa w=>a.defers=[]/\next {a with defers:=bF} w) (λβ e L h a w _ m r b hk=>⟨r.defers,f _ _ (ajC bF d l β e L h a w m r b hk)⟩) m r b hp;rw[show(lI ops ({a with defers:=bF}:Act).tmps)=lI ops a.tmps from rfl];split;rename_i hw;rw[aP hw]at c;exact Vf bF c λ_ _ q=>q;rename_i hw;rw[aD hw]at c;rw[A1];grind
theorem apd bF(a:Act) c:({a with defers:=bF}:Act).eval c=a.eval c:=dC
theorem ajx bF{cm:List Nat}(qT:P.follows .mixedOrders=true):∀c Q β e L h a w,cX al a' β L h w->dn n β L e a->dN L->di P n (lower P cm c) Q e L h->c.wp P (r0 bF (lift al a' n Q)) {a with defers:=bF} w:=by
 intro c;induction c with
 |skip=>exactλQ β e L h a w m r g hp=>wp_skip ⟨a,rfl,β,e,L,h,m,r,g,hp⟩
 |region id ops d=>
  intro Q β e L h a w m r g hp;cases d with
  |false=>
   exact wp_region_list (ajC bF (K:=Q .normal) (λβ e L h a w _ m r g hk=>⟨β,e,L,h,m,r,g,hk⟩) ops.toList β e L h a w m r g hp)
  |true=>
   simp only[lower]at hp;split at hp;rename_i aS;exact wp_region_any qT (aAr bF (K:=Q .normal) aS (λβ e L h a w _ m r g hk=>⟨β,e,L,h,m,r,g,hk⟩) (aoH Q) m r g hp);exact hp.elim
 |seq x y V W=>
  intro Q β e L h a w m r g hp;refine wp_seq (xW (V _ β e L h a w m r g hp) ?_);rintro ex _ bk ⟨C,rfl,A,F,G,D,z,B,E,s⟩;cases ex with
  |normal=>exact W Q A F G D C bk z B E s
  |_=>exact⟨C,rfl,A,F,G,D,z,B,E,s⟩
 |cond c x y V W=>
  intro Q β e L h a w m r g hp;simp only[lower,di]at hp;split at hp;rename_i b O;have ay:=r.eval c;rw[<-apd bF]at ay;rw[O]at ay;have oA:zl e (bS c) b=e:=by
   cases c with
   |tmp t=>exact nb O
   |_=>rfl
  cases b with
  |true=>
   simp only[fT]at hp;rw[oA]at hp;exact wp_cond_true ay (V Q β e L h a w m r g hp)
  |false=>
   simp only[fT]at hp;rw[oA]at hp;exact wp_cond_false ay (W Q β e L h a w m r g hp)
  grind
 |block id b R=>
  intro Q β e L h a w m r g hp;refine wp_block (xW (R _ β e L h a w m r g hp) ?_);rintro ex _ bk ⟨C,rfl,A,F,G,D,z,B,E,s⟩;cases ex with
  |exit o=>
   simp only[Exit.inBlock];simp only at s;cases O:hW o id with
   |true=>
    rw[O]at s;rw[aP (qA O)];exact⟨C,rfl,A,F,G,D,z,B,E,s⟩
   |false=>
    rw[O]at s;rw[aD (λB7=>by simp_all)];exact⟨C,rfl,A,F,G,D,z,B,E,s⟩
  |_=>exact⟨C,rfl,A,F,G,D,z,B,E,s⟩
 |loop b R=>
  intro Q β e L h a w m r g hp;simp only[lower,di]at hp;obtain⟨Y,hp⟩:=vo.norm hp;obtain⟨L,h,hp,m,g,atx,_⟩:=xL Y _ _ _ m g hp;have r:=r.agree (λ_ _=>rfl) atx;obtain⟨β,L,h,hp,m,g,GY,y0⟩:=sW hp β m g;have r:=r.agree y0 GY;have U:∀(X:Type)(u:List Nat)(p:X->List aK)(j:X->List LE)(ar:X->J->Prop)(q:X->Nat)(i:X)(v:zI p j),(∃β e,ar i h/\cX al a' β (j i) h w/\dn n β (j i) (lH e u (p i)) a)->alS (di P n (lower P cm b)) Q u p j ar q->(aj7 b).wp P (r0 bF (lift al a' n Q)) {a with defers:=bF} w:=by
   intro X u p j ar q i v kk H;have S:=λx=>(h0 _ _).mp (v x);obtain⟨β,e,I,m,r⟩:=kk;refine aF3 (λk a w=>∃a0:Act,a={a0 with defers:=bF}/\∃x β e h,q x=k/\ar x h/\cX al a' β (j x) h w/\dn n β (j x) (lH e u (p x)) a0) (q i) ⟨a,rfl,i,β,e,h,rfl,I,m,r⟩ ?_;rintro k _ w ⟨a,rfl,x,β,e,h,rfl,c',m,r⟩;obtain⟨k2,hb,h1,b2,m1,hG,oL,y0⟩:=sW (H x e h c') β m (agm (S x).2);refine xW (R _ k2 _ _ h1 a w m1 (r.agree y0 oL) hG b2) ?_;rintro ex _ bk ⟨C,rfl,A,F,G,D,z,B,E,s⟩;cases ex with
   |normal=>
    obtain⟨qv,mD,ae,⟨M,aL,Z,bp,ch⟩,m2,p9,tX,rL⟩:=sW s A z E;exact⟨q M,ch,C,rfl,M,qv,_,ae,rfl,bp,by rw[<-Z];exact m2.trim _,(B.agree rL tX).forget aL (S M).1⟩
   |_=>exact⟨C,rfl,A,F,G,D,z,B,E,s⟩
  have go:∀(X:Type)(u:List Nat)(p:X->List aK)(j:X->List LE)(ar:X->J->Prop)(q:X->Nat)(i:X)(v:zI p j),(∃β e,ar i h/\cX al a' β (j i) h w/\dn n β (j i) (lH e u (p i)) a)->alR (di P n (lower P cm b)) Q u p j ar q->(aj7 b).wp P (r0 bF (lift al a' n Q)) {a with defers:=bF} w:=by
   intro X u p j ar q i v kk H;have S:=λx=>(h0 _ _).mp (v x);obtain⟨β,e,I,m,r⟩:=kk;refine aF3 (λk a w=>∃a0:Act,a={a0 with defers:=bF}/\∃x β e h,q x=k/\ar x h/\cX al a' β (j x) h w/\dn n β (j x) (lH e u (p x)) a0) (q i) ⟨a,rfl,i,β,e,h,rfl,I,m,r⟩ ?_;rintro k _ w ⟨a,rfl,x,β,e,h,rfl,c',m,r⟩;refine xW (R _ β _ _ h a w m r (agm (S x).2) (H x e h c')) ?_;rintro ex _ bk ⟨C,rfl,A,F,G,D,z,B,E,s⟩;cases ex with
   |normal=>
    obtain⟨M,aL,Z,bp,ch⟩:=s;exact⟨q M,ch,C,rfl,M,A,_,D,rfl,bp,by rw[<-Z];exact z.trim _,B.forget aL (S M).1⟩
   |_=>exact⟨C,rfl,A,F,G,D,z,B,E,s⟩
  cases hp with
  |mk X u p j ar q i v I he N H=>
   exact go X u p j ar q i v ⟨β,_,I,by rw[<-N];exact m.trim _,r.forget he ((h0 _ _).mp (v i)).1⟩ H
  |AV perm X u p j ar q i v I he T N H=>
   exact go X u p j ar q i v ⟨_,_,I,m.perm T N,r.perm he ((h0 _ _).mp (v i)).1⟩ H
  |mq perm X u p j ar q i v I he T N H=>
   exact U X u p j ar q i v ⟨_,_,I,m.perm T N,r.perm he ((h0 _ _).mp (v i)).1⟩ H
  |afz perm X u p j ar q i v I he T N H=>
   exact U X u p j ar q i v ⟨_,_,I,m.perm T N,(r.res m.cA).perm he ((h0 _ _).mp (v i)).1⟩ H
 |rangeFunc f a6 x y _ _=>intro Q β e L h a w m r g hp;exact hp.elim
 |exit id=>exactλQ β e L h a w m r g hp=>wp_exit ⟨a,rfl,β,e,L,h,m,r,g,hp⟩
 |scope b R=>
  intro Q β e L h a w m r g hp;refine wp_scope_straight (xW (R _ β e L h a w m r g hp) ?_);rintro ex _ bk ⟨C,rfl,A,F,G,D,z,B,E,s⟩;cases ex with
  |goto l=>grind
  |_=>exact⟨C,rfl,A,F,G,D,z,B,E,s⟩
 |label l=>exactλQ β e L h a w m r g hp=>wp_label ⟨a,rfl,β,e,L,h,m,r,g,hp⟩
 |goto l=>intro Q β e L h a w m r g hp;exact hp.elim
 |ret=>exactλQ β e L h a w m r g hp=>wp_ret ⟨a,rfl,β,e,L,h,m,r,g,hp⟩
 |refuse aIB=>intro Q β e L h a w m r g hp;exact hp.elim
theorem PN(s:P.follows .mixedOrders=true) c Q(β e L h) a(w)(m:cX al a' β L h w)(r:dn n β L e a)(i:dN L)(hp:di P n (lower P cm c) Q e L h):c.wp P (lift al a' n Q) a w:=by
 have f:=ajx [] s c Q β e L h a w m r i hp;have b:({a with defers:=[]}:Act)=a:=by have:=r.defers;cases a;simp_all
 rw[b]at f;refine xW f ?_;rintro ex _ bk ⟨d,rfl,p,k,o,j,l,g,q⟩;have b:({d with defers:=[]}:Act)=d:=by have:=g.defers;cases d;simp_all
 rw[b];exact⟨p,k,o,j,l,g,q⟩
end
def xV(P:eN):List BI->List aK->cy->List LE->J->(List aK->Prop)->Prop
 |[],a,_,_,_,K=>K a
 |.tmp t::r,a,e,L,h,K=>xV P r (a++[e t]) e L h K
 |.cell t ty::r,a,e,L,h,K=>bif jK P ty then fh (.load (qr P ty) (jh P ty) (.t t)) e L h λx=>xV P r (a++[x]) e L h K else False
def kH:List ax->ax
 |[v]=>v
 |aG=>.tuple aG.toArray
def vf(P:eN)(rs:List BI)(Q:ax->J->Prop):k7:=λx e L h=>match x with
 |.normal|.ret=>xV P rs [] e L h λfA=>mx 40 fA (λL h=>match ph L fA with
  |some aG=>hc (λ_ h=>Q (kH aG) h) L h
  |none=>False) L h
 |_=>False
def sk(args:List ax):cy:=λt=>match cz args t with|some v=>.v v|none=>.v fp
section
variable {P:eN}{al:J}{a':bw}{n:Nat}{β:Nat->Nat}{L:List LE}{h:J}{e:cy}{a:Act}{w:bw}
def Fe(tmps:Array ax):BI->Sem ax
 |.tmp t=>pure (tmps.getD t fp)
 |.cell a t=>do loadVar t (<-asAddr (tmps.getD a fp))
theorem O8{tmps:Array ax}{aG:List ax}(a:(fn.results.toList.mapM (Fe tmps)).run P w= .ok aG w):(results fn tmps).run P w= .ok (kH aG) w:=by
 have hm:(fn.results.mapM λx=>Fe tmps x).run P w= .ok aG.toArray w:=by
  rw[Array.mapM_eq_mapM_toList];simp[a]
 have he:results fn tmps=(do
  let aG<-fn.results.mapM λx=>Fe tmps x
  pure (if h:aG.size=1 then aG[0]else .tuple aG)):=by
  rfl
 rw[he];simp only[ic,hm,im,k8];congr 1;match aG with
 |[]=>rfl
 |[v]=>rfl
 |v::u::r=>rfl
theorem HZ(m:cX al a' β L h w)(r:dn n β L e a)(f:dN L) K:∀rs d,xV P rs d e L h K->(∀x∈d,x.ok L)->∃fA,K (d++fA)/\(∀x∈fA,x.ok L)/\(rs.mapM (Fe a.tmps)).run P w= .ok (fA.map (aK.c β)) w
 |[],d,hp,_=>⟨[],by grind [xV],bd,bd⟩
 |.tmp t::rs,d,hp,g=>by
  simp only[xV]at hp;obtain⟨fA,q,s,k⟩:=HZ m r f K rs (d++[e t]) hp (λx b=>by
   rcases List.mem_append.1 b with b|b
   grind
   rw[hV.1 b];exact r.ok t)
  refine⟨e t::fA,aJ,λx b=>?_,?_⟩;rcases ek.1 b with b|b;rw[b];exact r.ok t
  grind
  simp only[List.mapM_cons,Fe,ic,k8,im,k,ec];rw[r.env t]
 |.cell t ty::rs,d,hp,g=>by
  simp only[xV]at hp;cases j:jK P ty with
  |false=>grind
  |true=>
   rw[j]at hp;simp only[oY]at hp;obtain⟨bH,o,z,l⟩:=RO r f (U:={dst:=none,op:=.load ty (.tmp t),type:=0,pos:= "",after:=#[],guard:=none}) rfl j hp;have i:=l w m.cA;simp only[dk,PZ]at i;obtain⟨fA,q,s,k⟩:=HZ m r f K rs (d++[bH]) o (λx b=>by
    grind)
   refine⟨bH::fA,aJ,λx b=>?_,?_⟩
   grind
   have h1:(Fe a.tmps (.cell t ty)).run P w= .ok (bH.c β) w:=by
    simp only[Fe];generalize a.tmps.getD t fp=v at i⊢;cases v with
    |pointer p=>
     cases p with
     |none=>simp_all[Bs,qz]
     |some u=>
      simp only[Bs,qz,asAddr,ic,k8,im]at i⊢;cases y:(loadVar ty u).run P w with
      |ok x bk=>simp_all
      |halt x bk=>simp_all
    |_=>simp_all[Bs,qz]
   simp_all
theorem I6{n:Nat}(b:args.length<=n) β:dn n β [] (sk args) {tmps:=args.toArray++Xg (n-args.toArray.size) fp,defers:=[]}:=by
 refine⟨rfl,aJ,λt=>?_,λt=>?_⟩;simp only[sk,qj,FC,Array.getElem?_append,List.size_toArray,List.getElem?_toArray,Array.getElem?_replicate];by_cases a:t<args.length;rw[aP a,List.getElem?_eq_getElem a];rfl;rw[aD a,List.getElem?_eq_none I];split<;>rfl;unfold sk;split<;>trivial
theorem Fn.intro{f:l4}{c:x2}{oC:IR}{rs:List BI}{h:J}{Q:ax->J->Prop}(N:P.follows .mixedOrders=true)(b:P.funcs[f]?=some fn)(E:fn.body=some c)(y:(fn.name== "runtime.NumGoroutine")=false)(A:fn.ntmps=n)(z:fn.results.toList=rs)(x:lower P cm c=oC)(M:p0 args.length n=true)(K:di P n oC (vf P rs Q) (sk args) [] h):Fn P f args.toArray h Q:=by
 refine⟨⟨fn,b,aJ,y⟩,λw hw=>?_⟩;subst x;subst z;subst A;refine calls_of_wp b E ?_;have m:cX h w (λ_=>0) [] h w:=⟨⟨hw,(λi l ak=>by cases ak)⟩,(λi l ak=>by cases ak),(λi o l cw ak=>by cases ak),(λi l ak=>by cases ak),(λi l ak=>by cases ak),rfl,rfl,rfl,dz _,(λ_ _ _=>rfl),(λo C=>.inl C)⟩;have B:dN []:=λi cs ty D=>by cases D
 have F:=PN N (al:=h) (a':=w) (n:=fn.ntmps) c _ (λ_=>0) (sk args) [] h _ w m (I6 (yc M) _) B K;refine xW F ?_;rintro ex r bk ⟨β,e,L,g,k,p,s,a⟩;have fin:xV P fn.results.toList [] e L g (λfA=>mx 40 fA (λL h=>match ph L fA with
  |some aG=>hc (λ_ h=>Q (kH aG) h) L h
  |none=>False) L g)->r.defers=[]/\∃v,(results fn r.tmps).run P bk= .ok v bk/\∃u ae,akd v= .returned u/\Q u ae/\Ext h w ae bk:=by
  intro t
  obtain⟨fA,j,R,q⟩:=HZ k p s _ _ [] t bd
  simp only[Im]at j
  obtain⟨S,h1,d,m1,H,U,_⟩:=xL fA _ _ _ k s j
  split at d
  rename_i aG G
  have ay:=xN m1.cA fA aG G
  obtain⟨V,T,ae,I,m2,_,_,_⟩:=sW d β m1 H
  rw[ay]at q
  exact⟨p.defers,_,O8 q,_,ae,rfl,I,⟨m2.cA.hw,m2.os,m2.tape,m2.output,m2.size,m2.frame,m2.fresh⟩⟩
  grind
 cases ex with
 |normal=>exact fin a
 |ret=>exact fin a
 |exit id=>exact a.elim
 |goto l=>exact a.elim
 |panic O=>exact a.elim
 |outgrown=>exact a.elim
theorem Fn.aui{f:l4}{c:x2}{oC:IR}{rs:List BI}{h:J}{Q:ax->J->Prop}(S:P.follows .mixedOrders=true)(g:P.funcs[f]?=some fn)(I:fn.body=some c)(C:(fn.name== "runtime.NumGoroutine")=false)(E:fn.ntmps=n)(D:fn.results.toList=rs)(B:lower P cm c=oC)(R:p0 args.length n=true)(d:hc (λL h=>di P n oC (vf P rs Q) (sk args) L h) [] h):Fn P f args.toArray h Q:=by
 refine⟨⟨fn,g,aJ,C⟩,λw hw=>?_⟩;subst B;subst D;subst E;refine calls_of_wp g I ?_;have m:cX h w (λ_=>0) [] h w:=⟨⟨hw,(λi l ak=>by cases ak)⟩,(λi l ak=>by cases ak),(λi o l cw ak=>by cases ak),(λi l ak=>by cases ak),(λi l ak=>by cases ak),rfl,rfl,rfl,dz _,(λ_ _ _=>rfl),(λo G=>.inl G)⟩;have F:dN []:=λi cs ty H=>by cases H
 obtain⟨O,y,h1,d,m1,b,z,T⟩:=sW d _ m F;have K:=PN S (al:=h) (a':=w) (n:=fn.ntmps) c _ O (sk args) y h1 _ w m1 ((I6 (yc R) _).agree T z) b d;refine xW K ?_;rintro ex t bk ⟨β,e,L,k,q,r,x,a⟩;have fin:xV P fn.results.toList [] e L k (λfA=>mx 40 fA (λL h=>match ph L fA with
  |some aG=>hc (λ_ h=>Q (kH aG) h) L h
  |none=>False) L k)->t.defers=[]/\∃v,(results fn t.tmps).run P bk= .ok v bk/\∃u ae,akd v= .returned u/\Q u ae/\Ext h w ae bk:=by
  intro A
  obtain⟨fA,p,V,s⟩:=HZ q r x _ _ [] A bd
  simp only[Im]at p
  obtain⟨y,h1,j,m1,b,z,_⟩:=xL fA _ _ _ q x p
  split at j
  rename_i aG M
  have ay:=xN m1.cA fA aG M
  obtain⟨X,W,ae,N,m2,_,_,_⟩:=sW j β m1 b
  rw[ay]at s
  exact⟨r.defers,_,O8 s,_,ae,rfl,N,⟨m2.cA.hw,m2.os,m2.tape,m2.output,m2.size,m2.frame,m2.fresh⟩⟩
  grind
 cases ex with
 |normal=>exact fin a
 |ret=>exact fin a
 |exit id=>exact a.elim
 |goto l=>exact a.elim
 |panic U=>exact a.elim
 |outgrown=>exact a.elim
end
end Go.Sx
namespace Go.Sx
set_option maxRecDepth 100000
set_option maxHeartbeats 0
set_option linter.all false
variable {h:J}{rows:List (List ax)}{n size:Nat}{A:Option aI}
structure bf(h:J)(size:Nat)(A:Option aI)(n:Nat)(rows:List (List ax)):Prop where
 len:rows.length=n
 wid:∀r∈rows,r.length=size
 cg:n≠0->∃g,A=some g
 cell:∀g,A=some g->∀(i:Nat)(r:List ax),rows[i]?=some r->∀(o:Nat)(v:ax),r[o]?=some v->h.cell? (g.add (i*size+o))=some v
theorem bf.mono{a:J}(t:bf h size A n rows)(x:h.le a):bf a size A n rows:=⟨t.len,t.wid,t.cg,λg b i r d o v c=>J.la x (t.cell g b i r d o v c)⟩
theorem bf.nil h size A:bf h size A 0 []:=⟨rfl,(λr a=>by cases a),(λe=>absurd rfl e),(λg _ i r a=>by simp at a)⟩
theorem R4{size:Nat}:∀(rows:List (List ax)),(∀r∈rows,r.length=size)->rows.flatten.length=rows.length*size
 |[],_=>by simp
 |r::rows,hw=>by
  simp only[oR,List.length_append,iv,hw r bd,R4 rows λr a=>hw r (by simp[a])];rw[zS];omega
theorem aba{size:Nat}:∀(rows:List (List ax)),(∀r∈rows,r.length=size)->∀k v,rows.flatten[k]?=some v->∃i o r,k=i*size+o/\rows[i]?=some r/\r[o]?=some v
 |[],_,k,v,h=>by simp at h
 |r::rows,hw,k,v,h=>by
  rw[oR,Dl]at h;split at h;exact⟨0,k,r,bd,rfl,h⟩;rename_i hk;have a:=hw r bd;obtain⟨i,o,c,h1,ae,b⟩:=aba rows (λr a=>hw r (by simp[a])) (k-r.length) v h;exact⟨i+1,o,c,by rw[zS];omega,by simpa using ae,b⟩
theorem DS{size:Nat}:∀(rows:List (List ax)),(∀r∈rows,r.length=size)->∀i o r v,rows[i]?=some r->r[o]?=some v->rows.flatten[i*size+o]?=some v
 |[],_,i,o,r,v,h,_=>by simp at h
 |q::rows,hw,i,o,r,v,h,a=>by
  have c:=hw q bd;rw[oR,Dl];cases i with
  |zero=>
   injection h with h;subst h;have:=(pZ.1 a).1;rw[aP I,Nat.zero_mul,dM];exact a
  |succ i=>
   rw[aD (by rw[zS];omega)];have:=DS rows (λr b=>hw r (by simp[b])) i o r v (by simpa using h) a;rw[<-this,c,zS];congr 1;omega
theorem bf.src(t:bf h size A n rows) L:Src L h size A n rows.flatten:=by
 by_cases a:n=0;have:=t.len;rw[a]at this;rw[x9 this];exact .nil a;obtain⟨g,b⟩:=t.cg a;refine .hp g _ b (by rw[R4 _ t.wid,t.len]) λk v hk=>?_;obtain⟨i,o,r,h1,ae,c⟩:=aba _ t.wid k v hk;rw[h1];exact t.cell g b i r ae o v c
theorem bJ.dV{bK cap:Nat}(x:bJ h bK size A n cap rows.flatten)(hw:∀r∈rows,r.length=size)(f:0<size):bf h size A n rows:=by
 obtain⟨h1,ae⟩:=x;rw[R4 _ hw]at h1;have ak:rows.length=n:=Nat.eq_of_mul_eq_mul_right f h1;refine⟨ak,hw,λc=>?_,λg a i r j o v e=>?_⟩;rcases ae with⟨_,ae,_⟩|⟨g,l,ae,_⟩;exact absurd ae c;exact⟨_,ae⟩;rcases ae with⟨ae,_⟩|⟨b,l,ae,k,_,_,_,d⟩;rw[a]at ae;cases ae;rw[a]at ae;injection ae with ae;subst ae;rw[add_lit,dM];have:=DS _ hw i o r v j e;rw[<-d,FP]at this;split at this;rw[zx]at this;unfold J.cell?;simp only[k,Option.isSome_none,ug,mm];exact this;cases this
theorem bf.row(t:bf h size A n rows){g:aI}(a:A=some g){i:Nat}{r:List ax}(c:rows[i]?=some r):∀o v,r[o]?=some v->h.cell? ((g.add (i*size)).add o)=some v:=λo v b=>by rw[vH];exact t.cell g a i r c o v b
theorem bf.one(t:bf h size A n rows){g:aI}(a:A=some g){i:Nat}{r:List ax}(c:rows[i]?=some r){v:ax}(b:r[0]?=some v):h.cell? (g.add (i*size))=some v:=t.cell g a i r c 0 v b
theorem add_zero(a:aI):a.add 0=a:=by unfold Addr.add;rw[aP rfl]
theorem bf.take{h:J}{size n:Nat}{A:Option aI}{rows:List (List ax)}(t:bf h size A n rows){k:Nat}(hk:k<=n):bf h size A k (rows.take k):=by
 refine⟨by simp[t.len];omega,λr a=>t.wid r (List.mem_of_mem_take a),λal=>t.cg I,λg b i r a o v c=>?_⟩;rw[FP]at a;split at a;exact t.cell g b i r a o v c;cases a
theorem bf.drop{h:J}{size n:Nat}{A B:Option aI}{rows:List (List ax)}(t:bf h size A n rows){k:Nat}(c:k<n->B=A.map (·.add (k*size)))(hk:k<=n):bf h size B (n-k) (rows.drop k):=by
 refine⟨by simp[t.len],λr b=>t.wid r (List.mem_of_mem_drop b),λal=>?_,λg a i r b o v e=>?_⟩;obtain⟨g,a⟩:=t.cg I;exact⟨_,by rw[c I,a];rfl⟩;rw[List.getElem?_drop]at b;have j:=(pZ.1 b).1;rw[t.len]at j;obtain⟨f,d⟩:=t.cg I;rw[c I,d]at a;injection a with a;rw[<-a,vH];have:=t.cell f d (k+i) r b o v e;rw[show k*size+(i*size+o)=(k+i)*size+o by rw[Nat.add_mul];omega];exact this
def R(z:Int):ax:=.int .i64 z
structure bT where
 src:Int
 dst:Int
 fH:Int
 take:Int
 start:Int
 deriving DecidableEq
def bT.cells(a:bT):List ax:=[R a.src,R a.dst,R a.fH,R a.take,R a.start]
def mW(N:Int)(A:Option aI)(m cap:Nat):ax:=.agg #[R N,.slice A m cap]
theorem YO(l:List bT):∀r∈l.map bT.cells,r.length=5:=by
 intro r b;obtain⟨a,_,rfl⟩:=cU.1 b;rfl
theorem TN(l:List Int):∀r∈l.map λz=>[R z],r.length=1:=by
 intro r b;obtain⟨a,_,rfl⟩:=cU.1 b;rfl
theorem iP{α β:Type}{f:α->β}{l:List α}{i:Nat} a:(l.map f)[i]?=some (f l[i]):=by simp[a]
end Go.Sx
namespace Go.Sx
open Go.RowKit Go.WideShapes Go.ChangeShapes
set_option maxRecDepth 100000
set_option maxHeartbeats 0
set_option linter.all false
variable {W:bw}
section
variable {H:Type}{enc:fR×ax->H}{P:eN}
theorem anJ{b:bw}{a:J}(x:Ext (J.of W) W a b)(c:(J.of W).le a):Below W.heap.size W b:=by
 refine⟨x.os,x.tape,x.output,x.size,λk hk=>?_⟩;have h1:W.heap[k]?=some W.heap[k]:=H1 hk;rw[h1];exact x.hw k _ (c k _ h1)
theorem atR W:ng (J.of W) W:=λ_ _ e=>e
theorem OJ{a:aI}{v:ax}(ay:W.cell? a=some v):(J.of W).cell? a=some v:=ay
def K6(P:eN)(dX:List fR):Bool:=dX.all λt=>P.readableRec t&&decide (t<P.types.size)
theorem ai8(ak:aeK P=true){W f:bw}{sp:Nat->Bool}:∀(dX:List fR)(aG:List ax)(bF:List (qx H))(b:List vs),K6 P dX=true->P4 enc P W 0 (λ_=>true) true dX aG bF b->(∀p∈b,W.sameAt f p)->(∀p∈b,sp p.block=true)->P4 enc P f 0 sp true dX aG bF b
 |[],[],[],_,_,h,_,_=>h
 |t::dX,v::aG,d::bF,b,c,h,e,hp=>by
  obtain⟨p,q,h1,ae,rfl⟩:=h;simp only[K6,List.all_cons,h0,uB]at c;exact⟨p,q,aGM ak c.1.1 c.1.2 h1 (λx a=>e x (by simp[a])) (λx a=>hp x (by simp[a])),ai8 ak dX aG bF q (by simpa[K6]using c.2) ae (λx a=>e x (by simp[a])) (λx a=>hp x (by simp[a])),rfl⟩
 |[],_::_,_,_,_,h,_,_=>h.elim
 |[],[],_::_,_,_,h,_,_=>h.elim
 |_::_,[],_,_,_,h,_,_=>h.elim
 |_::_,_::_,[],_,_,h,_,_=>h.elim
theorem aBA{f:Func}{s:ChangeSpec}{u:fR}{apart fresh handsOn again:Bool}{c:bw}{args:Array ax}{bF gs:List (qx H)}{before:List vs}(ak:aeK P=true)(E:K6 P f.params.toList=true)(n:s.vars=[])(w:f.resultTypes=#[u])(i:P.underlying u=some .bool)(h:aj' enc P f.params.toList s.vars apart W args.toList bF gs before)(D:(s.fn H (bF++gs)).results=[.lit (.bool true)])(z:(s.fn H (bF++gs)).args=bF)(y:(s.fn H (bF++gs)).vars=[])(d:Below W.heap.size W c):s.post enc P f apart fresh handsOn again W args (.bool true) c:=by
 have e:∀p∈before,p.block<W.heap.size:=λp hp=>h.lt p hp;obtain⟨p,q,h1,ae,l,A,B⟩:=id h;have F:q=[]/\gs=[]:=by
  rw[n]at ae;cases gs with
  |nil=>exact⟨ae,rfl⟩
  |cons g gs=>exact ae.elim
 obtain⟨rfl,rfl⟩:=F;rw[List.append_nil]at l;subst l;have aT:∀sp:Nat->Bool,(∀x∈before,sp x.block=true)->P4 enc P c 0 sp true f.params.toList args.toList (s.fn H (bF++[])).args before:=λsp J=>by
  rw[z];exact ai8 ak _ _ _ _ E h1 (λx a=>d.same (e x a)) J
 have j:∀sp:Nat->Bool,DataW.TrodVars enc P c sp s.vars (s.fn H (bF++[])).vars []:=λsp=>by
  rw[y,n];rfl
 have m:∀(b:Nat)(sp:Nat->Bool)(k:Bool),P4 enc P c b sp k f.resultTypes.toList ((c5 true).resultList f.resultTypes.size) (s.fn H (bF++[])).results []:=λb sp k=>by
  rw[D,w];exact trodAll_mk1 (shut_bool i true)
 have G:∀(o:Nat)(t:fR)(r:ax),f.resultTypes[o]?=some t->((c5 true).resultList f.resultTypes.size)[o]?=some r->Value.okWide P c .any 0 t r:=ok_one w rfl (okWide_bool_mk i true);have I:∀x∈before,(λb=>decide (b<W.heap.size)) x.block=true:=λx a=>by simpa using e x a
 refine⟨bF,[],before,[],before,[],h,m _ _ _,aT _ I,j _,World.keptBut_mono (λx a=>⟨a,?_⟩) (d.frame (·∈before)),λ_=>⟨G,_,_,([]++before)++[],⟨[]++before,[],trodAll_append (aT _ (λ_ _=>rfl)) (m _ _ _),j _,rfl,?_,?_⟩,?_⟩⟩;exact .inr (by simpa using a);intro b off hp;have v:MemPlace.cell b off∈before:=by simpa using hp
 rw[d.frozen (e _ v)];exact A b off v;intro C;simpa using B C;intro x a _;simpa using a
theorem an0{f:l4}{fn:Func}{s:ChangeSpec}{b:fR}{apart fresh handsOn again:Bool}{args:Array ax}{bF gs:List (qx H)}{before:List vs}(ak:aeK P=true)(k:K6 P fn.params.toList=true)(m:s.vars=[])(o:fn.resultTypes=#[b])(g:P.underlying b=some .bool)(n:aj' enc P fn.params.toList s.vars apart W args.toList bF gs before)(j:(s.fn H (bF++gs)).results=[.lit (.bool true)])(h:(s.fn H (bF++gs)).args=bF)(d:(s.fn H (bF++gs)).vars=[])(bn:Fn P f args (J.of W) λr a=>r= .bool true/\(J.of W).le a):Calls P f args W λe c=>∃v,e= .returned v/\s.post enc P fn apart fresh handsOn again W args v c:=by
 refine(bn.run W (atR W)).mono ?_;rintro e c ⟨v,a,rfl,⟨rfl,l⟩,i⟩;exact⟨_,rfl,aBA ak k m o g n j h d (anJ i l)⟩
theorem Mt{α:Type}(ar:Nat->α->Prop):∀n,(∀i,i<n->∃a,ar i a)->∃l:List α,l.length=n/\∀i a,l[i]?=some a->ar i a
 |0,_=>⟨[],rfl,λi a h=>by simp at h⟩
 |n+1,h=>by
  obtain⟨l,h1,ae⟩:=Mt ar n λi e=>h i I;obtain⟨a,d⟩:=h n I;refine⟨l++[a],by simp[h1],λi b c=>?_⟩;rw[Dl]at c;split at c;exact ae i b c;have:i=n:=by
   have:=(pZ.1 c).1;simp at this;omega
  subst this;rw[h1]at c;simp at c;rw[<-c];exact d
end
end Go.Sx
namespace Go.Sx
open Go.Proofs Go.RowKit Go.ChangeShapes Go.WideShapes
set_option maxRecDepth 100000
set_option maxHeartbeats 0
set_option linter.all false
section
variable {P:eN}{H:Type}{enc:fR×ax->H}
theorem aAN{W:bw}{spare:Nat->Bool}{held:Bool}{t e G:Nat}{v:ax}{x:qx H×List vs}(E:P.underlying t=some (.slice e))(he:P.underlying e=some (.int .i64))(hC:P.cellsOf e=1)(h:DataW.trod enc P W 0 spare held G t [v]=some x):∃(A:Option aI)(n cap:Nat)(l:List Int),v= .slice A n cap/\bf (J.of W) 1 A n (l.map λz=>[R z])/\n<=cap/\∃el sp,(x.1= .slice el sp/\n<=el.length)\/(x.1= .nil/\n=0):=by
 rcases Deep.open_slice E h with⟨al,h1⟩|⟨a,len,cap,m,n,D,QA,j,L,ak,hm,f,y,C⟩;injection al with al;exact⟨none,0,0,[],al,bf.nil _ _ _,dz _,[],[],.inr ⟨by rw[h1],rfl⟩⟩;injection j with j;have w:len<=m:=by rw[f];split<;>omega
 have key:∀i,i<len->∃z:Int,W.cell? (a.add i)=some (R z):=λi O=>by
  obtain⟨M,ay,q⟩:=C i I;rw[hC,eV]at ay;obtain⟨z,s,_⟩:=DataW.trod_int he q;obtain⟨_,N,K⟩:=World.cells?_some ay;refine⟨z,?_⟩;have:=K 0 I;rw[add_zero]at this;rw[this,s];rfl
 obtain⟨l,p,k⟩:=Mt (λi(b:Int)=>W.cell? (a.add i)=some (R b)) len key;refine⟨some a,len,cap,l,j,⟨by simpa using p,λr c=>?_,λ_=>⟨a,rfl⟩,λg d i r c o u hu=>?_⟩,ak,(fL len).map D,_,.inl ⟨by rw[y],bd⟩⟩;obtain⟨b,_,rfl⟩:=cU.1 c;rfl;injection d with d;subst d;rw[dH,ye]at c;obtain⟨b,F,rfl⟩:=c;have B:o=0:=by
  have:=(pZ.1 hu).1;simpa using this
 subst B;injection hu with hu;subst hu;rw[eV,Nat.add_zero];exact OJ (k i b F)
end
end Go.Sx
namespace Go.Sx
open Go.RowKit
set_option maxRecDepth 100000
set_option maxHeartbeats 0
set_option linter.all false
section
variable {P:eN}{al:J}{a':bw}{n:Nat}{β:Nat->Nat}{L:List LE}{h:J}{e:cy}{a:Act}{w:bw}{ro:Option Nat}{bF:List vl}
end
section
variable {P:eN}{al h1:J}{a' fQ:bw}{n:Nat}{β:Nat->Nat}{L:List LE}{h:J}{e:cy}{a:Act}{w:bw}{ro:Option Nat}{bF:List vl}
end
section
variable {P:eN}{al h1:J}{a' fQ:bw}{n:Nat}{β:Nat->Nat}{L:List LE}{h:J}{e:cy}{a:Act}{w:bw}{ro:Option Nat}{bF:List vl}
end
end Go.Sx
namespace Go.Sx
open Go.Proofs
set_option maxRecDepth 100000
set_option maxHeartbeats 0
set_option linter.all false
def ka:List Nat:=[55,30,126,128,129,28,74,131,132,73,77,81,82,83,84,85,134,135,185,186,89,48,108,112,39,40,41,97,98,99,100,101,142,144,145,146,88,33,1050,1100,1111,1131,1151,2156]
theorem Hg:Tryz.prog.follows .mixedOrders=true:=by kernel_rfl
structure b5(f n:Nat)where
 fn:Func
 a7:Tryz.prog.funcs[f]?=some fn
 OF:fn.ntmps=n
 dK:(fn.name== "runtime.NumGoroutine")=false
 aj:fn.body.isSome=true
 o:{x:IR//lower aB ka (fn.body.getD .skip)=x}
section
variable {f n:Nat}{args:List ax}{h:J}{Q:ax->J->Prop}
theorem b6(o:b5 f n)(a:p0 args.length n=true)(hw:di aB n o.o.1 (vf aB o.fn.results.toList Q) (sk args) [] h):Fn aB f args.toArray h Q:=by
 obtain⟨c,ay⟩:=Qy.1 o.aj;refine Fn.intro Hg o.a7 ay o.dK o.OF rfl (oC:=o.o.1) (cm:=ka) ?_ a hw;rw[<-o.o.2,ay];rfl
theorem akn(o:b5 f n)(a:p0 args.length n=true)(hw:hc (λL h=>di aB n o.o.1 (vf aB o.fn.results.toList Q) (sk args) L h) [] h):Fn aB f args.toArray h Q:=by
 obtain⟨c,ay⟩:=Qy.1 o.aj;refine Fn.aui Hg o.a7 ay o.dK o.OF rfl (oC:=o.o.1) (cm:=ka) ?_ a hw;rw[<-o.o.2,ay];rfl
end
def cl:x2->x2|.seq a _=>a|.cond _ a _=>a|.block _ b=>b|.loop b=>b|.scope b=>b|c=>c
def qG:x2->x2|.seq _ b=>b|.cond _ _ b=>b|c=>c
def jo:x2->fM|.cond c _ _=>c|_=>.tmp 0
def ci:x2->Nat|.block i _=>i|_=>0
def da:x2->Nat|.seq _ _=>1|.cond _ _ _=>2|.block _ _=>3|.loop _=>4|_=>0
section
variable {c:x2}{x y:IR}{z:eb}{i:Nat}
theorem ahV(d:da c=1)(h1:lower aB ka (cl c)=x)(ae:lower aB ka (qG c)=y):lower aB ka c= .seq x y:=by
 subst h1;subst ae;cases c with
 |seq a b=>rw[lower];rfl
 |_=>cases d
theorem ZH(e:da c=2)(al:bS (jo c)=z)(h1:lower aB ka (cl c)=x)(ae:lower aB ka (qG c)=y):lower aB ka c= .cond z x y:=by
 subst al;subst h1;subst ae;cases c with
 |cond a b d=>rw[lower];rfl
 |_=>cases e
theorem anM(d:da c=3)(h1:lower aB ka (cl c)=x):lower aB ka c= .block (ci c) x:=by
 subst h1;cases c with
 |block a b=>rw[lower];rfl
 |_=>cases d
theorem ay0(b:da c=4)(h1:lower aB ka (cl c)=x):lower aB ka c= .loop x:=by
 subst h1;cases c with
 |loop a=>rw[lower];rfl
 |_=>cases b
theorem d9(h1:lower aB ka (cl c)=x)(ae:lower aB ka (qG c)=y)(a:da c=1:=by rfl):lower aB ka c= .seq x y:=ahV a h1 ae
theorem bo(ae:lower aB ka (qG c)=y)(h1:lower aB ka (cl c)=x:=by cbv)(a:da c=1:=by rfl):lower aB ka c= .seq x y:=ahV a h1 ae
theorem DG(h1:lower aB ka (cl c)=x)(ae:lower aB ka (qG c)=y)(al:bS (jo c)=z:=by cbv)(a:da c=2:=by rfl):lower aB ka c= .cond z x y:=ZH a al h1 ae
theorem se(ae:lower aB ka (qG c)=y)(h1:lower aB ka (cl c)=x:=by cbv)(al:bS (jo c)=z:=by cbv)(a:da c=2:=by rfl):lower aB ka c= .cond z x y:=ZH a al h1 ae
theorem bx(h1:lower aB ka (cl c)=x)(a:da c=3:=by rfl):lower aB ka c= .block (ci c) x:=anM a h1
theorem hM(h1:lower aB ka (cl c)=x)(a:da c=4:=by rfl):lower aB ka c= .loop x:=ay0 a h1
noncomputable def DI(ops:Array cp)(n:Nat):cK:=match ops[n/36]?with
 |none=>⟨none,none,.bad⟩
 |some q=>match n/12%3 with
  |0=>uz (fX aB ops q)
  |1=>Ch (fX aB ops q)
  |_=>fX aB ops q
noncomputable def aoD(ops:Array cp)(n:Nat)(s:List j4):List j4:=match n%12,s with
 |0,s=>.nil::s
 |1,s=>.top::s
 |2,r::s=>.v (DI ops n) false false r::s
 |3,r::s=>.v (DI ops n) true false r::s
 |4,r::s=>.v (DI ops n) true true r::s
 |5,r::s=>.w (DI ops n) false r::s
 |6,r::s=>.w (DI ops n) true r::s
 |7,r::t::s=>.two (DI ops n) false r t::s
 |8,r::t::s=>.two (DI ops n) true r t::s
 |_,s=>s
noncomputable def dl(l:List Nat):x2->j4
 |.region _ ops _=>(l.foldr (aoD ops) [.nil]).headD .bot
 |_=>.bot
theorem sM{t:j4}(l:List Nat)(_:dl l c=t:=by cbv)(h:lower aB ka c= .y9 t:=by kernel_rfl):lower aB ka c= .y9 t:=h
def b5.k{f n:Nat}{fn:Func}{x:IR}(b:Tryz.prog.funcs[f]?=some fn)(a:fn.ntmps=n)(h:lower aB ka (fn.body.getD .skip)=x:=by cbv)(d:(fn.name== "runtime.NumGoroutine")=false:=by decide)(c:fn.body.isSome=true:=by rfl):b5 f n:=⟨fn,b,a,d,c,x,h⟩
end
abbrev i(n:Int):eb:=.c (.int .i64 n)
abbrev U(d:Nat)(k:lL):cK:=⟨some d,none,k⟩
abbrev mr(k:lL):cK:=⟨none,none,k⟩
abbrev u(x:cK)(r:j4):j4:=.v x false false r
abbrev aIx(x:cK)(r:j4):j4:=.v x true false r
abbrev aIz(x:cK)(r:j4):j4:=.v x true true r
abbrev PH(x:cK)(r:j4):j4:=.w x false r
abbrev us(x:cK)(r:j4):j4:=.w x true r
end Go.Sx
