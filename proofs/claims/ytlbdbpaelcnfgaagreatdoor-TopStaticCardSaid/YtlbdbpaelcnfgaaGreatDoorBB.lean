/- A part of the proof that the statement holds. Conditions: none. -/
import Derived.Test.YtlbdbpaelcnfgaaGreatDoorAC
import Derived.Test.YtlbdbpaelcnfgaaGreatDoorAP
import Derived.Test.YtlbdbpaelcnfgaaGreatDoorAQ
import Derived.Test.YtlbdbpaelcnfgaaGreatDoorAS
import Derived.Test.YtlbdbpaelcnfgaaGreatDoorAV
import Derived.Test.YtlbdbpaelcnfgaaGreatDoorAX
import Derived.Test.YtlbdbpaelcnfgaaGreatDoorAY
import Derived.Test.YtlbdbpaelcnfgaaGreatDoorBA
open Bool renaming and_eq_true->iv,eq_false_iff->GY
open ByteArray renaming empty->aIp
open Classical renaming not_not->kc
open Decidable renaming byContradiction->xH,em->aIu
open Go renaming Addr->aE,Value->aA
open Go.Obj renaming cells->bb
open Go.Proofs.Tryz renaming prog->aD
open Go.Value renaming bool->dh,int->bC,slice->ab,tuple->eA
open Int renaming add_assoc->Zd,emod_eq_of_lt->ami,le_refl->y4,lt_or_le->Zf,natCast_add->Ni,toNat->CD,toNat_natCast->bn,toNat_of_nonneg->p6
open List renaming all_eq_true->se,any_eq_true->RU,append_assoc->mg,append_nil->sf,cons_append->A2,drop_left->amr,ext_getElem->vj,ext_getElem?->RY,flatten_cons->qN,foldl_append->R0,foldl_cons->vk,getD_eq_getElem?_getD->cc,getElem?_append_left->G5,getElem?_append_right->G6,getElem?_eq_getElem->bK,getElem?_eq_none->l2,getElem?_eq_some_iff->qO,getElem?_map->de,getElem?_range->EG,getElem?_replicate->A3,getElem?_set->ub,getElem?_take_of_lt->amz,getElem?_zipWith->amA,getElem?_zip_eq_some->amB,getElem_map->EH,getElem_mem->b3,getElem_of_mem->n4,getElem_set->s6,getElem_zip->amE,length->fv,length_append->fb,length_cons->iJ,length_drop->mU,length_eq_zero_iff->R3,length_map->fj,length_pos_iff->amG,length_replicate->uc,length_set->fI,length_take->mV,length_zip->Zo,map_append->fw,map_congr_left->ny,map_cons->er,map_fst_zip->R6,map_id->amI,map_map->ig,map_set->kB,map_snd_zip->Zp,mem_append->eI,mem_append_left->wz,mem_append_right->xN,mem_cons->ez,mem_cons_of_mem->gd,mem_cons_self->hq,mem_iff_getElem->amL,mem_iff_getElem?->JU,mem_map->cO,mem_of_getElem?->xO,mem_or_eq_of_mem_set->wA,mem_range->vl,nodup_cons->jb,nodup_iff_pairwise_ne->Zq,nodup_nil->amN,of_mem_zip->CF,pairwise_iff_getElem->Nm,range->fJ,range'->Nn,range'_succ->R7,range_eq_range'->JW,replicate->bp,set_comm->R9,set_cons_succ->JX,take_left->A5,zipWith->sh,zip_map_right->amV
open List.Pairwise renaming imp_of_mem->aIA,of_map->aIB
open Nat renaming add_mul->CI,add_sub_cancel_left->CJ,eq_zero_or_pos->am1,le_of_not_lt->Zv,le_refl->dM,le_trans->lf,lt_of_lt_of_le->A7,lt_of_succ_lt_succ->Zw,ne_of_gt->J2,one_mul->anb,zero_add->dZ,zero_le->cU
open Ne renaming symm->eh
open Option renaming getD_some->pB,map_some->si
open Option.some renaming inj->wF,injEq->Sf
open Or renaming inl->bQ,inr->ba
open Prod renaming ext->J8,ext_iff->anr,fst->hE,snd->dV
open Prod.mk renaming inj->ry,injEq->Hk
namespace Go.Sx
open Go.Proofs
set_option maxRecDepth 100000
set_option maxHeartbeats 0
set_option linter.all false
variable {base size tag:Int}{h:J}{f l mem rs xs:List Int}{Gm ops:List cm}{bm:List dv}{C b bF c n p v:Nat}{A:Option aE}{α:Type}{g:dd}
structure js where
 A:Option aE
 c:Nat
 l:List Int
 k:Nat
def js.cells(x:js):List aA:=[ab x.A x.l.length x.c,R (x.k:Int)]
def hQ(T:List js):List aA:=(T.map js.cells).flatten
theorem Jp x T:hQ (x::T)=ab x.A x.l.length x.c::R (x.k:Int)::hQ T:=rfl
theorem Ek:∀T,(hQ T).length=T.length*2
 |[]=>rfl
 |x::T=>by rw[Jp,iJ,iJ,Ek T,iJ];omega
theorem Yb:∀T au i a,(hQ T++au)[i*2]?=some (ab T[i].A T[i].l.length T[i].c)/\(hQ T++au)[i*2+1]?=some (R (T[i].k:Int))
 |[],_,_,h=>by cases h
 |x::T,au,0,_=>⟨rfl,rfl⟩
 |x::T,au,i+1,h=>by
  have:=Yb T au i (Zw h);rw[Jp,show(i+1)*2=i*2+1+1 by omega];exact this
theorem akv:∀T au i a(k:Nat),(hQ T++au).set (i*2+1) (R k)=hQ (T.set i ⟨T[i].A,T[i].c,T[i].l,k⟩)++au
 |[],_,_,h,_=>by cases h
 |x::T,au,0,_,k=>rfl
 |x::T,au,i+1,h,k=>by
  have:=akv T au i (Zw h) k;rw[Jp,JX,Jp,show(i+1)*2=i*2+1+1 by omega];show _::_::(hQ T++au).set (i*2+1) _=_;rw[this];rfl
theorem Yc:∀T au i a A c l,(hQ T++au).set (i*2) (ab A l.length c)=hQ (T.set i ⟨A,c,l,T[i].k⟩)++au
 |[],_,_,h,_,_,_=>by cases h
 |x::T,au,0,_,_,_,_=>rfl
 |x::T,au,i+1,h,A,c,l=>by
  have:=Yc T au i (Zw h) A c l;rw[Jp,JX,Jp,show(i+1)*2=i*2+1+1 by omega];show _::_::(hQ T++au).set (i*2) _=_;rw[this];rfl
theorem cell_of{off ty:Nat}{cs:List aA}{v:aA}(a:h b=some (bb cs.toArray ty (0,0)))(c:cs[off]?=some v):h.cell? ⟨b,off,none⟩=some v:=by
 simp[J.cell?,a,c]
theorem abf{T:List js}{au:List aA} cap(p:h b=some (bb (hQ T++au).toArray 120 (0,0))){i n:Nat} u(r:bg h 1 T[i].A T[i].l.length (gi T[i].l))(hk:T[i].k<=T[i].l.length)(av:T[i].l.length<=T[i].c)(al:T[i].l.length<=1000000000000000)(C:n<=1000000)(ne:∀g,T[i].A=some g->T[i].l≠[]->g.block≠b):
 Fn aD 88 #[ab (some ⟨b,0,none⟩) T.length cap,R i,R n] h λv aa=>if T[i].l.length<T[i].k+n then v=eA #[ab none 0 0,dh false]/\aa=h else
  aa=h.put b (bb (hQ (T.set i ⟨T[i].A,T[i].c,T[i].l,T[i].k+n⟩)++au).toArray 120 (0,0))/\∃B c,v=eA #[ab B n c,dh true]/\bg aa 1 B n (gi ((T[i].l.drop T[i].k).take n))/\∀g,B=some g->0<n->∃g0,T[i].A=some g0/\g.block=g0.block:=by
 obtain⟨w,c1⟩:=Yb T au i u
 refine bU az3 rfl (.m ⟨b,0,none⟩ rfl ?_)
 have t:(Addr.mk b 0 none).add ((i:Int).toNat*2)=⟨b,i*2,none⟩:=by rw[bn,add_lit,dZ]
 refine .hp [ab T[i].A T[i].l.length T[i].c,R (T[i].k:Int)] rfl (λo v d=>?_) ?_
 rw[t,add_lit]
 match o,d with
 |0,d=>injection d with d;subst d;exact cell_of p w
 |1,d=>injection d with d;subst d;exact cell_of p c1
 refine .bl (aW (λq=>?_) (λq=>?_))
 have da:T[i].l.length<T[i].k+n:=I
 exact .ag (by dsimp only;rw[aS da];exact⟨rfl,rfl⟩)
 have da:¬T[i].l.length<T[i].k+n:=I
 refine .bl (.m ⟨b,0,none⟩ rfl ?_)
 have y:i*2+1<(hQ T++au).length:=by rw[fb,Ek];omega
 refine .hp b (i*2+1) 120 (hQ T++au) (hQ (T.set i ⟨T[i].A,T[i].c,T[i].l,T[i].k+n⟩)++au) (by rw[t];rfl) p (by rw[io _ _ _ y,<-akv T au i u];rfl) (.bl (.mk T[i].k (T[i].k+n) rfl rfl I I λB s E=>.ag ?_))
 dsimp only
 rw[aC da]
 have c6:∀(a:aE)(k:Nat),(a.add k).block=a.block:=λa k=>by unfold Addr.add;split<;>rfl
 refine⟨rfl,B,T[i].c-T[i].k,?_,?_,λg f z=>?_⟩
 rw[CJ];rfl
 have t1:=r.drop (B:=B) (k:=T[i].k) (λD=>s I) hk
 have t2:=t1.take (k:=n) I
 rw[<-List.map_drop,<-List.map_take]at t2
 refine t2.D0 λg f z=>?_
 obtain⟨g0,j⟩:=r.b4 I
 have:=s I
 rw[j]at this
 rw[this]at f
 injection f with f
 rw[<-f]
 rw[show((λx:aE=>x.add (T[i].k*1)) g0).block=g0.block from c6 _ _]
 exact ne g0 j (λe=>by rw[e]at hk q;simp at hk q;omega)
 obtain⟨g0,j⟩:=r.b4 I
 have:=s I
 rw[j,f]at this
 injection this with this
 exact⟨g0,j,by rw[this];exact c6 _ _⟩
abbrev Slot:=Int×Int
def p1(rs:List (List Bool))(S:List Slot):List (List Bool):=S.foldl (λr x=>oV r x.1 x.2) rs
def AU:List Slot->List (List Bool)->Prop
 |[],_=>True
 |x::l,rs=>wh rs x.1 x.2=0/\AU l (oV rs x.1 x.2)
theorem TP:∀S a rs,AU S rs->AU a (p1 rs S)->AU (S++a) rs
 |[],_,_,_,h=>h
 |_::S,a,_,h,aa=>⟨h.1,TP S a _ h.2 aa⟩
theorem abI:∀l a6 ro,(m' a6 ro l).1=0->(m' a6 ro l).2.1=p1 a6 (l.map λx=>(x.dst,x.hF))/\(m' a6 ro l).2.2=p1 ro (l.map λx=>(x.src,x.sp))/\AU (l.map λx=>(x.dst,x.hF)) a6/\AU (l.map λx=>(x.src,x.sp)) ro
 |[],_,_,_=>⟨rfl,rfl,trivial,trivial⟩
 |x::l,a6,ro,e=>by
  rw[m']at e⊢;split at e;rename_i h;exact absurd e h;split at e;rename_i h;exact absurd e h;split at e;cases e;rename_i h1 ae f;rw[aC h1,aC ae,aC f];obtain⟨a,b,c,d⟩:=abI l _ _ e;exact⟨a,b,⟨kc.1 ae,c⟩,kc.1 h1,d⟩
theorem W9:∀l bA rs,(mA bA rs l).1=0->(mA bA rs l).2.2=p1 rs (l.map λx=>(x.act,x.port))/\AU (l.map λx=>(x.act,x.port)) rs
 |[],_,_,_=>⟨rfl,trivial⟩
 |x::l,bA,rs,e=>by
  rw[mA]at e⊢;split at e;rename_i h;exact absurd e h;split at e;rename_i h;exact absurd e h;rename_i h1 ae;rw[aC h1,aC ae];obtain⟨a,b⟩:=W9 l _ _ e;exact⟨a,kc.1 ae,b⟩
def vU(rs:List (List Bool))(a p:Nat):Bool:=(rs.getD a []).getD p false
theorem aBp rs a p b q(e:a<rs.length)(hp:p<(rs.getD a []).length):vU (rs.set a ((rs.getD a []).set p true)) b q=(vU rs b q||decide (b=a/\q=p)):=by
 unfold vU;by_cases d:b=a;subst d;simp only[cc,ub,aS e]at hp⊢;by_cases c:q=p;subst c;simp[hp];simp[c,eh c];simp[cc,eh d,d]
theorem aGr{rs:List (List Bool)}{a p:Int}(e:wh rs a p=0):0<=a/\a.toNat<rs.length/\0<=p/\p.toNat<(rs.getD a.toNat []).length/\vU rs a.toNat p.toNat=false:=by
 rw[wh]at e;split at e;cases e;split at e;cases e;split at e;cases e;rename_i h1 ae b;refine⟨I,I,I,I,?_⟩;unfold vU;simpa using b
theorem Ot:∀S rs,AU S rs->(∀x∈S,0<=x.1/\0<=x.2/\vU rs x.1.toNat x.2.toNat=false)/\S.Nodup/\∀a p,vU (p1 rs S) a p=(vU rs a p||decide (((a:Int),(p:Int))∈S))
 |[],rs,_=>⟨nofun,amN,λa p=>by simp[p1]⟩
 |x::S,rs,h=>by
  obtain⟨h1,ae⟩:=h;obtain⟨i1,i2,i3⟩:=Ot S _ ae;obtain⟨t1,t2,t3,t4,t5⟩:=aGr h1;have ms:=λb q=>aBp rs x.1.toNat x.2.toNat b q t2 t4;have an:oV rs x.1 x.2=rs.set x.1.toNat ((rs.getD x.1.toNat []).set x.2.toNat true):=rfl;rw[an]at i1 i3;refine⟨λy c=>?_,jb.2 ⟨λd=>?_,i2⟩,λa p=>?_⟩;rcases ez.1 c with rfl|c;exact⟨t1,t3,t5⟩;obtain⟨e,f,BY⟩:=i1 y c;rw[ms,Bool.or_eq_false_iff]at BY;exact⟨e,f,BY.1⟩;have:=(i1 x d).2.2;rw[ms]at this;simp at this;show vU (p1 (oV rs x.1 x.2) S) a p=_;rw[an,i3,ms,Bool.or_assoc];congr 1;rw[<-Bool.decide_or];congr 1;rw[ez];refine propext (or_congr ?_ Iff.rfl);rw[anr];show a=x.1.toNat/\p=x.2.toNat↔(a:Int)=x.1/\(p:Int)=x.2;omega
structure NA(n:Nat)(w:Nat->Nat)(S:List Slot):Prop where
 nodup:S.Nodup
 full:∀a p:Nat,a<n->p<w a->((a:Int),(p:Int))∈S
theorem ajU{rs:List (List Bool)}{w:Nat->Nat}{S:List Slot}(l:rs.length=n)(j:∀a p,vU rs a p=false)(h:AU S rs)(c:(p1 rs S).all oJ=true)(hw:∀a,a<n->w a=(rs.getD a []).length)(al:∀a,((p1 rs S).getD a []).length=(rs.getD a []).length)(m:(p1 rs S).length=rs.length):NA n w S:=by
 obtain⟨_,ae,i⟩:=Ot S rs h;refine⟨ae,λa p k hp=>?_⟩;have aT:=i a p;rw[j,Bool.false_or]at aT;rw[se]at c;have d:a<(p1 rs S).length:=I;have f:=c _ (b3 d);have e:(p1 rs S).getD a []=(p1 rs S)[a]:=by simp[cc,d]
 have b:p<((p1 rs S)[a]).length:=by rw[<-e,al,<-hw a k];exact hp
 rw[oJ,se]at f;have g:=f _ (b3 b);unfold vU at aT;rw[e,cc,bK b]at aT;simp only[pB]at aT;simp only[id]at g;rw[g]at aT;exact uX aT.symm
theorem ME:∀S rs,(p1 rs S).length=rs.length/\∀a,((p1 rs S).getD a []).length=(rs.getD a []).length
 |[],_=>⟨rfl,λ_=>rfl⟩
 |x::S,rs=>by
  obtain⟨h1,ae⟩:=ME S (oV rs x.1 x.2);refine⟨h1.trans (by simp[oV]),λa=>(ae a).trans ?_⟩;unfold oV;simp only[cc,ub];split;rename_i e;subst e;split;simp;rename_i h;simp[l2 (Zv h)];rfl
def Pg(g:dd):List Slot:=g.aP.map (λx=>(x.dst,x.hF))++g.ins.map λx=>(x.act,x.port)
def Qo(g:dd):List Slot:=g.aP.map (λx=>(x.src,x.sp))++g.outs.map λx=>(x.act,x.port)
theorem asG(e:iV g=0):NA g.aY.length (λa=>(eo g a).length) (Pg g)/\NA g.aY.length (λa=>(jp g a).length) (Qo g):=by
 rw[iV]at e;split at e;rename_i h;exact absurd e h;split at e;rename_i h;exact absurd e h;dsimp only at e;split at e;rename_i h;exact absurd e h;split at e;rename_i h;exact absurd e h;split at e;rename_i h;exact absurd e h;rename_i m l o;obtain⟨k,a2,a3,a4⟩:=abI _ _ _ (kc.1 m);obtain⟨n,j⟩:=W9 _ _ _ (kc.1 l);obtain⟨c1,c2⟩:=W9 _ _ _ (kc.1 o);rw[DS]at e;split at e;rename_i b;rw[n,c1,k,a2]at b;rw[k]at j;rw[a2]at c2;have i:∀rs:List (List Bool),∀S d:List Slot,p1 (p1 rs S) d=p1 rs (S++d):=λrs S d=>by unfold p1;rw[R0]
 rw[i,i]at b;have rep:∀(f:hh->Nat)(a p:Nat),vU (g.aY.map λx=>bp (f x) false) a p=false:=λf a p=>by
  unfold vU;simp only[cc,de];cases g.aY[a]?with
  |none=>rfl
  |some x=>
   simp only[si,pB,A3];split<;>rfl
 refine⟨ajU (fj ..) (rep _) (TP _ _ _ a3 j) b.1 (λa c=>?_) (ME _ _).2 (ME _ _).1,ajU (fj ..) (rep _) (TP _ _ _ a4 c2) b.2 (λa c=>?_) (ME _ _).2 (ME _ _).1⟩;simp[eo,cc,bK c];simp[jp,cc,bK c];cases e
abbrev EJ:=Slot×(Nat×Int)
def r0(au:List (List cm))(M:List EJ):List (List cm):=M.foldl (λq m=>mark q m.1.1.toNat m.1.2.toNat m.2.1 m.2.2) au
def vp(au:List (List cm))(a p:Nat):Option cm:=(au.getD a [])[p]?
theorem aBc au a p k i b q:vp (mark au a p k i) b q=if b=a/\q=p then(vp au a p).map λU=>⟨k,i,U.b⟩else vp au b q:=by
 unfold vp mark;simp only[cc,ub];by_cases d:b=a;subst d;by_cases e:b<au.length;simp only[aS e,mO,pB,ub];by_cases c:q=p;subst c;by_cases hp:q<((au[b]?).getD []).length;simp[aS hp,bK hp];simp[aC hp,l2 (Zv hp)];simp[eh c,c];simp[e];simp[eh d,d]
theorem agX:∀M au,(∀m∈M,0<=m.1.1/\0<=m.1.2)->(M.map hE).Nodup->∀a p:Nat,(∀s,(((a:Int),(p:Int)),s)∈M->vp (r0 au M) a p=(vp au a p).map λU=>⟨s.1,s.2,U.b⟩)/\(((a:Int),(p:Int))∉M.map hE->vp (r0 au M) a p=vp au a p)
 |[],_,_,_,_,_=>⟨nofun,λ_=>rfl⟩
 |m::M,au,am,c,a,p=>by
  rw[er,jb]at c;obtain⟨i1,i2⟩:=agX M (mark au m.1.1.toNat m.1.2.toNat m.2.1 m.2.2) (λx f=>am x (gd _ f)) c.2 a p;have e:r0 au (m::M)=r0 (mark au m.1.1.toNat m.1.2.toNat m.2.1 m.2.2) M:=rfl;have hm:=am m (hq ..);have d:=aBc au m.1.1.toNat m.1.2.toNat m.2.1 m.2.2 a p;have key:(a=m.1.1.toNat/\p=m.1.2.toNat)↔((a:Int),(p:Int))=m.1:=by
   rw[anr];show _↔(a:Int)=m.1.1/\(p:Int)=m.1.2;omega
  rw[e];refine⟨λs an=>?_,λan=>?_⟩;rcases ez.1 an with q|q;rw[i2 (by rw[show((a:Int),(p:Int))=m.1 by rw[<-q]];exact c.1),d,aS (key.2 (by rw[<-q]))];have h1:a=m.1.1.toNat/\p=m.1.2.toNat:=key.2 (by rw[<-q]);rw[<-h1.1,<-h1.2,<-q];rw[i1 s q,d,aC];intro h;exact c.1 (by rw[<-key.1 h];exact cO.2 ⟨_,q,rfl⟩);rw[er,ez,not_or]at an;rw[i2 an.2,d,aC λh=>an.1 (key.1 h)]
structure oF(M:List EJ)(v:Nat)(rs:List Int)(ops:List cm)(c5:List (Nat×Int)):Prop where
 len:c5.length=rs.length
 ops:ops=sh (λs r=>⟨s.1,s.2,r⟩) c5 rs
 mem:∀(p:Nat)(s:Nat×Int),c5[p]?=some s↔p<rs.length/\(((v:Int),(p:Int)),s)∈M
theorem agY{w:Nat->Nat}{au:List (List cm)}{M:List EJ}(am:∀m∈M,0<=m.1.1/\0<=m.1.2)(an:NA n w (M.map hE))(j:v<n)(o:rs.length=w v)(g:∀p,vp au v p=(rs[p]?).map λr=>⟨0,0,r⟩):∃c5,oF M v rs ((r0 au M).getD v []) c5:=by
 have ex:∀p:Nat,p<rs.length->∃s,(((v:Int),(p:Int)),s)∈M:=λp hp=>by
  obtain⟨m,hm,e⟩:=cO.1 (an.full v p j I);exact⟨m.2,by rw[<-e];exact hm⟩
 have un:∀(x:Slot) s t,(x,s)∈M->(x,t)∈M->s=t:=λx s t h1 ae=>by
  have d:=an.nodup;clear ex g am an;induction M with
  |nil=>cases h1
  |cons m M k=>
   rw[er,jb]at d;rcases ez.1 h1 with b|b<;>rcases ez.1 ae with a|a;rw[<-b]at a;exact(ry a).2.symm;exact absurd (cO.2 ⟨_,a,by rw[<-b]⟩) d.1;exact absurd (cO.2 ⟨_,b,by rw[<-a]⟩) d.1;exact k b a d.2
 obtain⟨c5,h1,ae⟩:=NU (λp(s:Nat×Int)=>(((v:Int),(p:Int)),s)∈M) rs.length ex;have l:∀(p:Nat)(s:Nat×Int),c5[p]?=some s↔p<rs.length/\(((v:Int),(p:Int)),s)∈M:=λp s=>by
  refine⟨λh=>⟨by rw[<-h1];exact(qO.1 h).1,ae p s h⟩,λ⟨h,hm⟩=>?_⟩;have hp:p<c5.length:=I;rw[bK hp,un _ _ _ (ae p _ (bK hp)) hm]
 refine⟨c5,h1,?_,l⟩;apply RY;intro p;have f:=agX M au am an.nodup v p;show vp (r0 au M) v p=_;rw[amA];by_cases hp:p<rs.length;have i:p<c5.length:=I;rw[f.1 _ (ae p _ (bK i)),g,bK hp,bK i];rfl;have c:vp au v p=none:=by rw[g,l2 I];rfl
 rw[l2 (by omega:c5.length<=p)];by_cases hm:((v:Int),(p:Int))∈M.map hE;obtain⟨m,hm,e⟩:=cO.1 hm;rw[f.1 m.2 (by rw[<-e];exact hm),c];rfl;rw[f.2 hm,c]
def ph(g:dd):List EJ:=(fJ g.aP.length).zipWith (λ(i:Nat) x=>((x.dst,x.hF),(3,(i:Int)))) g.aP++(fJ g.ins.length).zipWith (λ(i:Nat) x=>((x.act,x.port),(4,(i:Int)))) g.ins
def u0(g:dd):List EJ:=(fJ g.aP.length).zipWith (λ(i:Nat) x=>((x.src,x.sp),(6,(i:Int)))) g.aP++(fJ g.outs.length).zipWith (λ(i:Nat) x=>((x.act,x.port),(7,(i:Int)))) g.outs
theorem Th:∀l k q,(qW l k q).1=r0 q.1 ((Nn k l.length).zipWith (λ(i:Nat) x=>((x.dst,x.hF),(3,i))) l)/\(qW l k q).2=r0 q.2 ((Nn k l.length).zipWith (λ(i:Nat) x=>((x.src,x.sp),(6,i))) l)
 |[],_,_=>⟨rfl,rfl⟩
 |x::l,k,q=>by
  obtain⟨h1,ae⟩:=Th l (k+1) (mark q.1 x.dst.toNat x.hF.toNat 3 k,mark q.2 x.src.toNat x.sp.toNat 6 k);rw[qW,iJ,R7];exact⟨h1,ae⟩
theorem W8 dk:∀l k q,qB dk l k q=r0 q ((Nn k l.length).zipWith (λ(i:Nat) x=>((x.act,x.port),(dk,i))) l)
 |[],_,_=>rfl
 |x::l,k,q=>by
  rw[qB,iJ,R7];exact W8 dk l (k+1) _
theorem arF g:Fa g=r0 (g.aY.map rU) (ph g):=by
 unfold Fa ph;rw[W8,(Th _ _ _).1,JW,JW,r0,r0,r0,R0]
theorem arG g:Fb g=r0 (g.aY.map r3) (u0 g):=by
 unfold Fb u0;rw[W8,(Th _ _ _).2,JW,JW,r0,r0,r0,R0]
theorem Ru(f:Nat->α->EJ) s(h:∀i x,(f i x).1=s x) l:((fJ l.length).zipWith f l).map hE=l.map s:=by
 apply vj bc;intro i h1 ae;simp[h]
theorem Rv(f:Nat->α->EJ) l m:m∈(fJ l.length).zipWith f l↔∃i x,l[i]?=some x/\m=f i x:=by
 constructor;intro h;obtain⟨i,a,e⟩:=n4 h;have al:i<l.length:=by simp at a;exact a
 exact⟨i,l[i],bK al,by rw[<-e];simp⟩;rintro⟨i,x,h,rfl⟩;obtain⟨a,rfl⟩:=qO.1 h;refine amL.2 ⟨i,by simpa using a,bc⟩
theorem ae1 g:(ph g).map hE=Pg g:=by
 unfold ph Pg;rw[fw,Ru _ (λx:GE=>(x.dst,x.hF)) λ_ _=>rfl,Ru _ (λx:kO=>(x.act,x.port)) λ_ _=>rfl]
theorem aih g:(u0 g).map hE=Qo g:=by
 unfold u0 Qo;rw[fw,Ru _ (λx:GE=>(x.src,x.sp)) λ_ _=>rfl,Ru _ (λx:kO=>(x.act,x.port)) λ_ _=>rfl]
theorem aal f(l:List hh) v p:vp (l.map λa=>(f a).map λr=>(⟨0,0,r⟩:cm)) v p=(((l[v]?).map f).getD [])[p]?.map λr=>⟨0,0,r⟩:=by
 unfold vp;rw[cc,de];cases l[v]?with
 |none=>simp
 |some a=>simp
theorem acA(e:iV g=0)(d:v<g.aY.length):∃c5 i',oF (ph g) v (eo g v) ((Fa g).getD v []) c5/\oF (u0 g) v (jp g v) ((Fb g).getD v []) i':=by
 obtain⟨s1,s2⟩:=asG e;have c:=ts e;have j:∀m∈ph g,0<=m.1.1/\0<=m.1.2:=λm hm=>by
  have:m.1∈Pg g:=by rw[<-ae1];exact cO.2 ⟨m,hm,rfl⟩
  rcases eI.1 this with q|q<;>obtain⟨x,b,q⟩:=cO.1 q<;>rw[<-q];have:=c.nD x b;exact⟨this.2.1.1,this.2.1.2.2.1⟩;have:=c.Ir x b;exact⟨this.1,this.2.2.1⟩
 have k:∀m∈u0 g,0<=m.1.1/\0<=m.1.2:=λm hm=>by
  have:m.1∈Qo g:=by rw[<-aih];exact cO.2 ⟨m,hm,rfl⟩
  rcases eI.1 this with q|q<;>obtain⟨x,b,q⟩:=cO.1 q<;>rw[<-q];have:=c.nD x b;exact⟨this.1.1,this.1.2.2.1⟩;have:=c.I6 x b;exact⟨this.1,this.2.2.1⟩
 rw[arF,arG];rw[<-ae1]at s1;rw[<-aih]at s2;have h:=bK d;obtain⟨c5,i⟩:=agY j s1 d (rs:=eo g v) rfl (au:=g.aY.map rU) (λp=>by
  rw[show rU=λa=>((b6 a.tag a.a8).2.1).map λr=>(⟨0,0,r⟩:cm)from rfl,aal];simp[eo,h])
 obtain⟨i',f⟩:=agY k s2 d (rs:=jp g v) rfl (au:=g.aY.map r3) (λp=>by
  rw[show r3=λa=>((b6 a.tag a.a8).2.2).map λr=>(⟨0,0,r⟩:cm)from rfl,aal];simp[jp,h])
 exact⟨c5,i',i,f⟩
structure iy where
 l:List Int
 k:Nat
structure vf(mem:List Int)(x:lb)(t:iy):Prop where
 k:t.k<=t.l.length
 br:x.br=(t.l.length:Int)-t.k
 fit:x.br<=x.size
 base:0<=x.base
 top:x.base+x.size<=mem.length
 at_:0<=x.at_
 eq:∀o:Nat,(o:Int)<x.br->mem.getD (x.base+(x.at_+o)%x.size).toNat 0=t.l.getD (t.k+o) 0
theorem ag9{s z:Int}{i o:Nat}(h:i<o)(a:o-i<z):(s+i)%z≠(s+o)%z:=λe=>by
 have h1:=Int.emod_eq_emod_iff_emod_sub_eq_zero.1 e.symm;rw[show s+(o:Int)- (s+i)=(o:Int)-i by omega,ami I a]at h1;omega
theorem DN{s z:Int}(h:0<z):0<=s%z/\s%z<z:=⟨Int.emod_nonneg _ I,Int.emod_lt_of_pos _ h⟩
theorem vf.take{mem:List Int}{x:lb}{t:iy}(b:vf mem x t){n:Nat}(c:n<=x.br):u9 mem x.base x.size x.at_ n=(t.l.drop t.k).take n/\vf mem ⟨x.base,x.size,(x.at_+n)%x.size,x.br-n⟩ ⟨t.l,t.k+n⟩:=by
 have hk:=b.k;have av:=b.br;refine⟨?_,⟨by show t.k+n<=t.l.length;omega,by show x.br-n=(t.l.length:Int)- (t.k+n:Nat);omega,by have:=b.fit;show x.br-n<=x.size;omega,b.base,b.top,?_,λo a=>?_⟩⟩;apply vj;rw[Jr,mV,mU];omega;intro o h1 ae;rw[Jr]at h1;have:=b.eq o I;simp only[u9,l6,EH,List.getElem_range,List.getElem_take,List.getElem_drop];rw[this,cc,bK I,pB];show 0<=(x.at_+n)%x.size;rcases Zf 0 x.size with q|q;exact(DN q).1;have:x.size=0:=by have:=b.fit;omega
 rw[this,Int.emod_zero];have:=b.at_;omega;have d:(o:Int)<x.br-n:=a;have:=b.eq (n+o) I;show mem.getD (x.base+((x.at_+n)%x.size+o)%x.size).toNat 0=t.l.getD (t.k+n+o) 0;rw[Int.emod_add_emod,Zd,<-Ni,this,Nat.add_assoc]
theorem PB:∀cs mem ep c,(∀x∈cs,x.toNat≠c)->(oj mem cs ep).getD c 0=mem.getD c 0
 |[],mem,_,_,_=>by rw[oj];simp
 |_::_,mem,[],_,_=>by rw[oj];simp
 |x::cs,mem,t::ep,c,h=>by
  rw[oj,PB cs _ ep c λy a=>h y (gd _ a)];have:=h x (hq ..);simp[cc,ub,this]
theorem agb:∀cs mem ep(i:Nat) c t,(cs.map CD).Nodup->cs[i]?=some c->ep[i]?=some t->c.toNat<mem.length->(oj mem cs ep).getD c.toNat 0=t
 |[],_,_,_,_,_,_,h,_,_=>by cases h
 |_::_,_,[],_,_,_,_,_,h,_=>by cases h
 |x::cs,mem,y::ep,0,c,t,a,av,b,hm=>by
  rw[er,jb]at a;injection av with av;injection b with b;subst av b;rw[oj,PB cs _ ep _ λz d e=>a.1 (cO.2 ⟨z,d,e⟩)];simp[cc,hm]
 |x::cs,mem,y::ep,i+1,c,t,a,av,b,hm=>by
  rw[er,jb]at a;rw[oj];exact agb cs _ ep i c t a.2 av b (by rw[fI];exact hm)
theorem apM{s:Int}(g:0<=base)(f:n<=size):((l6 base size s n).map CD).Nodup:=by
 rw[l6,ig,Zq,List.pairwise_map];refine aIA ?_ (List.pairwise_lt_range);intro i o c b d e;rw[vl]at c b;have a:0<size:=I;have h1:=DN (s:=s+i) a;have ae:=DN (s:=s+o) a;have:=ag9 (s:=s) d (by omega:(o:Int)-i<size);simp only[Function.comp]at e;omega
theorem apL{s c:Int}(a:0<size)(h:c∈l6 base size s n):base<=c/\c<base+size:=by
 obtain⟨k,_,rfl⟩:=cO.1 h;have:=DN (s:=s+k) a;omega
theorem vf.gm{x:lb}{t:iy}(b:vf mem x t)(j:x.br+xs.length<=x.size):vf (oj mem (l6 x.base x.size (x.at_+x.br) xs.length) xs) ⟨x.base,x.size,x.at_,x.br+xs.length⟩ ⟨t.l++xs,t.k⟩:=by
 have hk:=b.k;have av:=b.br;have h:=b.base;have n:=b.top;refine⟨by show t.k<=(t.l++xs).length;rw[fb];omega,by show x.br+xs.length=((t.l++xs).length:Int)-t.k;rw[fb];omega,j,h,by rw[LR];exact n,b.at_,λo g=>?_⟩;have g:(o:Int)<x.br+xs.length:=g;have a:0<x.size:=I;show(oj mem _ xs).getD (x.base+(x.at_+o)%x.size).toNat 0=(t.l++xs).getD (t.k+o) 0;rcases Zf o x.br with q|q;rw[PB,b.eq o q,cc,cc,G5 I];intro c r e;obtain⟨k,d,rfl⟩:=cO.1 r;rw[vl]at d;obtain⟨m,hm⟩:∃m:Nat,x.br=m:=⟨x.br.toNat,I⟩;have h1:=DN (s:=x.at_+o) a;have ae:=DN (s:=x.at_+x.br+k) a;have p:=ag9 (s:=x.at_) (z:=x.size) (i:=o) (o:=m+k) I I;rw[Ni,<-Zd,<-hm]at p;omega;obtain⟨k,d⟩:∃k:Nat,(o:Int)=x.br+k:=⟨(o-x.br).toNat,I⟩;have f:k<xs.length:=I;have h1:=DN (s:=x.at_+x.br+k) a;rw[d,<-Zd,agb _ _ xs k _ xs[k] (apM h I) (SZ f) (bK f) I];rw[cc,show t.k+o=t.l.length+k by omega,G6 I,CJ,bK f];rfl
theorem vf.other{y:lb}{t:iy}(b:vf mem y t){s:Int} xs(g:0<=base)(d:n<=size)(h:y.br=0\/n=0\/y.base+y.size<=base\/base+size<=y.base):vf (oj mem (l6 base size s n) xs) y t:=by
 refine⟨b.k,b.br,b.fit,b.base,by rw[LR];exact b.top,b.at_,λo a=>?_⟩;rw[PB,b.eq o a];intro c av e;have f:0<n:=by
  rcases am1 n with q|q;rw[q]at av;cases av;exact q
 have h1:=apL I av;have ae:=DN (s:=y.at_+o) (z:=y.size) (by have:=b.fit;omega);have:=b.base;omega
structure fq where
 c4:List iy
 ins:List iy
 outs:List (List Int)
 cV:List gK
variable {s:fq}
def fR:iy:=⟨[],0⟩
def iy.x2(t:iy)(n:Nat):iy:=⟨t.l,t.k+n⟩
def iy.cut(t:iy)(n:Nat):List Int:=(t.l.drop t.k).take n
structure Inv(g:dd)(bm:List dv)(c:fK)(s:fq):Prop where
 hf:c.lines.length=g.aP.length
 le:s.c4.length=g.aP.length
 buf:∀i,i<g.aP.length->vf c.mem (c.lines.getD i jN) (s.c4.getD i fR)
 ck:∀i,i<g.aP.length->(c.lines.getD i jN).base=(bm.getD i (0,0)).1/\(c.lines.getD i jN).size=(bm.getD i (0,0)).2
 jL:c.cZ.length=g.ins.length
 k7:s.ins.length=g.ins.length
 cZ:∀i,i<g.ins.length->c.cZ.getD i []=(s.ins.getD i fR).l.drop (s.ins.getD i fR).k/\(s.ins.getD i fR).k<=(s.ins.getD i fR).l.length
 wr:c.wr=s.outs
 ol:c.wr.length=g.outs.length
 k3:c.f'=s.cV
abbrev gX:=Nat×Int
variable {c5 i':List gX}{da q:gX}
def tape(s:fq)(q:gX):iy:=if q.1=3 then s.c4.getD q.2.toNat fR else s.ins.getD q.2.toNat fR
def iA(s:fq)(q:gX)(n:Nat):fq:=if q.1=3 then{s with c4:=s.c4.set q.2.toNat ((tape s q).x2 n)}else{s with ins:=s.ins.set q.2.toNat ((tape s q).x2 n)}
def short(s:fq)(q:gX)(n:Nat):Prop:=(tape s q).l.length<(tape s q).k+n
instance (s:fq)(q:gX)(n:Nat):Decidable (short s q n):=inferInstanceAs (Decidable (_<_))
def mz(g:dd)(q:gX):Prop:=(q.1=3/\0<=q.2/\q.2<g.aP.length)\/(q.1=4/\0<=q.2/\q.2<g.ins.length)
theorem uw(l:List α) a i x d:(l.set a x).getD i d=if a=i/\a<l.length then x else l.getD i d:=by
 simp only[cc,ub];split;rename_i h;subst h;by_cases ae:a<l.length;simp[ae];simp[ae];rename_i h;simp[h]
theorem Jq(h:mz g q)(aa:mz g da)(ne:q≠da):tape (iA s q n) da=tape s da:=by
 obtain⟨a,b⟩:=q;obtain⟨f,i⟩:=da;unfold tape iA;dsimp only[mz]at h aa⊢;by_cases d:a=3;subst d;by_cases c:f=3;subst c;have:b≠i:=λe=>ne (by rw[e]);simp only[mO,uw];rw[aC I];simp[c];by_cases c:f=3;simp[d,c];have:b≠i:=λe=>ne (by rw[e,show a=4 by omega,show f=4 by omega]);simp only[aC d,aC c,uw];rw[aC I]
theorem ao7 x a b:db x ⟨3,a,b⟩=if(x.lines.getD a.toNat jN).br<b.toNat\/64<x.hand.length+b.toNat then(x,4)else(u7 x a.toNat (x.lines.getD a.toNat jN) b.toNat,0):=rfl
theorem aaf x a b:db x ⟨4,a,b⟩=if 64<x.hand.length+b.toNat then(x,4)else if(x.cZ.getD a.toNat []).length<b.toNat then(x,2)else(Aq x a.toNat b.toNat,0):=rfl
theorem ao8(x:fK)(a b:Int):db x ⟨5,a,b⟩=if(x.hand.length:Int)=x.ir.getD a.toNat 0 then
 match nc (x.f'.getD a.toNat gl) (kp x.hand (x.f'.getD a.toNat gl).ins)with
 |(some outs,b)=>(vu x a.toNat b outs,0)
 |(none,b)=>({x with f':=x.f'.set a.toNat b},3)
 else(x,4):=rfl
theorem ao9 x a b:db x ⟨6,a,b⟩=if x.hand.length<b.toNat\/(x.lines.getD a.toNat jN).size<(x.lines.getD a.toNat jN).br+b.toNat then(x,4)else(w4 x a.toNat (x.lines.getD a.toNat jN) b.toNat,0):=rfl
theorem ao' x a b:db x ⟨7,a,b⟩=if x.hand.length<b.toNat then(x,4)else(AF x a.toNat b.toNat,0):=rfl
theorem take_one{c:fK}(i:Inv g bm c s)(ok:mz g q)(t:c.hand.length+n<=64)(av:q.1=3->¬short s q n):
 if short s q n then db c ⟨q.1,q.2,n⟩=(c,2)else(db c ⟨q.1,q.2,n⟩).2=0/\Inv g bm (db c ⟨q.1,q.2,n⟩).1 (iA s q n)/\(db c ⟨q.1,q.2,n⟩).1.hand=c.hand++(tape s q).cut n/\(db c ⟨q.1,q.2,n⟩).1.ir=c.ir:=by
 obtain⟨a,b⟩:=q
 rcases ok with⟨j,r,m⟩|⟨aT,r,m⟩
 have j:a=3:=j
 subst j
 rw[aC (av rfl)]
 have av:=av rfl
 have d:b.toNat<g.aP.length:=by have:b<g.aP.length:=m;omega
 have ch:=i.buf b.toNat d
 have p:(n:Int)<=(c.lines.getD b.toNat jN).br:=by
  rw[ch.br];have:tape s (3,b)=s.c4.getD b.toNat fR:=rfl;unfold short at av;rw[this]at av;omega
 have e:db c ⟨3,b,(n:Int)⟩=(u7 c b.toNat (c.lines.getD b.toNat jN) n,0):=by
  rw[ao7,bn,aC I]
 obtain⟨t1,t2⟩:=ch.take p
 rw[e]
 refine⟨rfl,⟨by show(c.lines.set _ _).length=_;rw[fI];exact i.hf,by show(s.c4.set _ _).length=_;rw[fI];exact i.le,λo f=>?_,λo f=>?_,i.jL,i.k7,i.cZ,i.wr,i.ol,i.k3⟩,by show c.hand++_=_;rw[t1];rfl,rfl⟩
 show vf c.mem ((c.lines.set _ _).getD o jN) ((s.c4.set _ _).getD o fR)
 rw[uw,uw,i.hf,i.le]
 by_cases q:b.toNat=o
 rw[aS ⟨q,d⟩,aS ⟨q,d⟩];exact t2
 rw[aC (λx=>q x.1),aC (λx=>q x.1)];exact i.buf o f
 show((c.lines.set _ _).getD o jN).base=_/\((c.lines.set _ _).getD o jN).size=_
 rw[uw,i.hf]
 by_cases q:b.toNat=o
 rw[aS ⟨q,d⟩,<-q];exact i.ck _ d
 rw[aC (λx=>q x.1)];exact i.ck o f
 have aT:a=4:=aT
 subst aT
 have d:b.toNat<g.ins.length:=by have:b<g.ins.length:=m;omega
 obtain⟨f1,f2⟩:=i.cZ b.toNat d
 have h:tape s (4,b)=s.ins.getD b.toNat fR:=rfl
 have u:(c.cZ.getD b.toNat []).length=(s.ins.getD b.toNat fR).l.length- (s.ins.getD b.toNat fR).k:=by rw[f1,mU]
 by_cases an:short s (4,b) n
 rw[aS an]
 unfold short at an
 rw[h]at an
 show db c ⟨4,b,(n:Int)⟩=(c,2)
 rw[aaf,bn,aC I,aS I]
 rw[aC an]
 unfold short at an
 rw[h]at an
 have e:db c ⟨4,b,(n:Int)⟩=(Aq c b.toNat n,0):=by
  rw[aaf,bn,aC I,aC I]
 rw[e]
 refine⟨rfl,⟨i.hf,i.le,i.buf,i.ck,by show(c.cZ.set _ _).length=_;rw[fI];exact i.jL,by show(s.ins.set _ _).length=_;rw[fI];exact i.k7,λo f=>?_,i.wr,i.ol,i.k3⟩,by show c.hand++_=_;rw[f1,h];rfl,rfl⟩
 show(c.cZ.set _ _).getD o []=((s.ins.set _ _).getD o fR).l.drop ((s.ins.set _ _).getD o fR).k/\((s.ins.set _ _).getD o fR).k<=((s.ins.set _ _).getD o fR).l.length
 rw[uw,uw,i.jL,i.k7]
 by_cases q:b.toNat=o
 rw[aS ⟨q,d⟩,aS ⟨q,d⟩,f1,h]
 exact⟨List.drop_drop,by show(s.ins.getD b.toNat fR).k+n<=(s.ins.getD b.toNat fR).l.length;omega⟩
 rw[aC (λx=>q x.1),aC (λx=>q x.1)];exact i.cZ o f
def lT:List (gX×Nat)->fq->fq
 |[],s=>s
 |x::L,s=>lT L (iA s x.1 x.2)
def tP(L:List (gX×Nat)):List cm:=L.map λx=>⟨x.1.1,x.1.2,(x.2:Int)⟩
def GK(L:List (gX×Nat)):Nat:=(L.map dV).sum
open Classical in
theorem akt{g:dd}{bm:List dv}:∀(L:List (gX×Nat))(c:fK)(s:fq),Inv g bm c s->(∀x∈L,mz g x.1)->(L.map hE).Nodup->c.hand.length+GK L<=64->(∀x∈L,x.1.1=3->¬short s x.1 x.2)->
 if∃x∈L,short s x.1 x.2 then(gr (tP L) c).2=2/\(gr (tP L) c).1.wr=c.wr else(gr (tP L) c).2=0/\Inv g bm (gr (tP L) c).1 (lT L s)/\(gr (tP L) c).1.hand=c.hand++(L.map λx=>(tape s x.1).cut x.2).flatten/\(gr (tP L) c).1.ir=c.ir
 |[],c,s,i,_,_,_,_=>by
  rw[aC (by rintro⟨x,d,_⟩;cases d)];exact⟨rfl,i,by show c.hand=c.hand++[];rw[sf],rfl⟩
 |x::L,c,s,i,ok,j,u,av=>by
  rw[er,jb]at j;have t:GK (x::L)=x.2+GK L:=by simp[GK]
  have one:=take_one i (ok x (hq ..)) (n:=x.2) I (av x (hq ..));by_cases an:short s x.1 x.2;rw[aS an]at one;rw[aS ⟨x,hq ..,an⟩];show(gr (_::tP L) c).2=2/\(gr (_::tP L) c).1.wr=c.wr;rw[gr,one,aC (show¬((2:Nat)=0) by decide)];exact⟨rfl,rfl⟩;rw[aC an]at one;obtain⟨r,l,m,o⟩:=one;have k:∀y∈L,tape (iA s x.1 x.2) y.1=tape s y.1:=λy a=>Jq (ok x (hq ..)) (ok y (gd _ a)) λe=>j.1 (cO.2 ⟨y,a,e.symm⟩);have f:∀y∈L,short (iA s x.1 x.2) y.1 y.2↔short s y.1 y.2:=λy a=>by unfold short;rw[k y a]
  have p:((tape s x.1).cut x.2).length<=x.2:=by unfold iy.cut;rw[mV];omega
  have b:=akt L _ _ l (λy a=>ok y (gd _ a)) j.2 (by rw[m,fb];omega) (λy a q=>by rw[f y a];exact av y (gd _ a) q);have row:gr (tP (x::L)) c=gr (tP L) (db c ⟨x.1.1,x.1.2,(x.2:Int)⟩).1:=by
   show gr (_::tP L) c=_;rw[gr,aS r]
  have ex:(∃y∈x::L,short s y.1 y.2)↔∃y∈L,short (iA s x.1 x.2) y.1 y.2:=by
   constructor;rintro⟨y,a,h⟩;rcases ez.1 a with rfl|a;exact absurd h an;exact⟨y,a,(f y a).2 h⟩;rintro⟨y,a,h⟩;exact⟨y,gd _ a,(f y a).1 h⟩
  rw[row];by_cases d:∃y∈L,short (iA s x.1 x.2) y.1 y.2;rw[aS (ex.2 d)];rw[aS d]at b;exact⟨b.1,b.2.trans (l.wr.trans (by rw[i.wr];unfold iA;split<;>rfl))⟩;rw[aC λh=>d (ex.1 h)];rw[aC d]at b;refine⟨b.1,b.2.1,?_,b.2.2.2.trans o⟩;rw[b.2.2.1,m,mg,er,qN];congr 3;exact ny λy a=>by rw[k y a]
def iy.put(t:iy)(xs:List Int):iy:=⟨t.l++xs,t.k⟩
def iy.br(t:iy):Int:=(t.l.length:Int)-t.k
def su(s:fq)(q:gX)(xs:List Int):fq:=if q.1=6 then{s with c4:=s.c4.set q.2.toNat ((s.c4.getD q.2.toNat fR).put xs)}else{s with outs:=s.outs.set q.2.toNat (s.outs.getD q.2.toNat []++xs)}
def okO(g:dd)(q:gX):Prop:=(q.1=6/\0<=q.2/\q.2<g.aP.length)\/(q.1=7/\0<=q.2/\q.2<g.outs.length)
def GT(bm:List dv)(i o:Nat):Prop:=(bm.getD i (0,0)).1+(bm.getD i (0,0)).2<=(bm.getD o (0,0)).1\/(bm.getD o (0,0)).1+(bm.getD o (0,0)).2<=(bm.getD i (0,0)).1
theorem asB{c:fK}(i:Inv g bm c s)(ok:okO g q){d:List Int}(m:c.hand=xs++d)(A:q.1=6->(s.c4.getD q.2.toNat fR).br+xs.length<=(bm.getD q.2.toNat (0,0)).2/\(xs≠[]->∀o,o<g.aP.length->o≠q.2.toNat->0<(s.c4.getD o fR).br->GT bm q.2.toNat o)):(db c ⟨q.1,q.2,(xs.length:Int)⟩).2=0/\Inv g bm (db c ⟨q.1,q.2,(xs.length:Int)⟩).1 (su s q xs)/\(db c ⟨q.1,q.2,(xs.length:Int)⟩).1.hand=d/\(db c ⟨q.1,q.2,(xs.length:Int)⟩).1.ir=c.ir:=by
 obtain⟨a,b⟩:=q;have al:c.hand.length=xs.length+d.length:=by rw[m,fb]
 have r:c.hand.take xs.length=xs:=by rw[m,A5]
 have p:c.hand.drop xs.length=d:=by rw[m,amr]
 rcases ok with⟨l,B,u⟩|⟨aT,B,u⟩;have l:a=6:=l;subst l;obtain⟨g1,g2⟩:=A rfl;have f:b.toNat<g.aP.length:=by have:b<g.aP.length:=u;omega
 have ch:=i.buf b.toNat f;obtain⟨z,v⟩:=i.ck b.toNat f;have av:(s.c4.getD b.toNat fR).br=(c.lines.getD b.toNat jN).br:=ch.br.symm;have g1:(s.c4.getD b.toNat fR).br+xs.length<=(bm.getD b.toNat (0,0)).2:=g1;rw[av,<-v]at g1;have e:db c ⟨6,b,(xs.length:Int)⟩=(w4 c b.toNat (c.lines.getD b.toNat jN) xs.length,0):=by
  rw[ao9,bn,aC I]
 show(db c ⟨6,b,(xs.length:Int)⟩).2=0/\Inv g bm (db c ⟨6,b,(xs.length:Int)⟩).1 _/\(db c ⟨6,b,(xs.length:Int)⟩).1.hand=d/\(db c ⟨6,b,(xs.length:Int)⟩).1.ir=c.ir;rw[e];refine⟨rfl,⟨by show(c.lines.set _ _).length=_;rw[fI];exact i.hf,by show(s.c4.set _ _).length=_;rw[fI];exact i.le,λo h=>?_,λo h=>?_,i.jL,i.k7,i.cZ,i.wr,i.ol,i.k3⟩,p,rfl⟩;show vf (oj c.mem _ (c.hand.take xs.length)) ((c.lines.set _ _).getD o jN) ((s.c4.set _ _).getD o fR);rw[r,uw,uw,i.hf,i.le];by_cases q:b.toNat=o;rw[aS ⟨q,f⟩,aS ⟨q,f⟩];exact ch.gm g1;rw[aC (λx=>q x.1),aC (λx=>q x.1)];have j:=i.buf o h;have n:=i.ck o h;have:=ch.br;have:=ch.k;refine j.other xs ch.base I ?_;have am:0<=(c.lines.getD o jN).br:=by rw[j.br];have:=j.k;omega
 rcases Zf 0 (c.lines.getD o jN).br with w|w;right;by_cases t:xs=[];left;rw[t];rfl;right;have:=g2 t o h (eh q) (by have:(s.c4.getD o fR).br=(c.lines.getD o jN).br:=j.br.symm;omega);unfold GT at this;have y:((6,b):gX).2.toNat=b.toNat:=rfl;rw[y]at this;rw[z,v,n.1,n.2];omega;left;omega;show((c.lines.set _ _).getD o jN).base=_/\((c.lines.set _ _).getD o jN).size=_;rw[uw,i.hf];by_cases q:b.toNat=o;rw[aS ⟨q,f⟩,<-q];exact i.ck _ f;rw[aC (λx=>q x.1)];exact i.ck o h;have aT:a=7:=aT;subst aT;have e:db c ⟨7,b,(xs.length:Int)⟩=(AF c b.toNat xs.length,0):=by
  rw[ao',bn,aC I]
 show(db c ⟨7,b,(xs.length:Int)⟩).2=0/\Inv g bm (db c ⟨7,b,(xs.length:Int)⟩).1 _/\(db c ⟨7,b,(xs.length:Int)⟩).1.hand=d/\(db c ⟨7,b,(xs.length:Int)⟩).1.ir=c.ir;rw[e];refine⟨rfl,⟨i.hf,i.le,i.buf,i.ck,i.jL,i.k7,i.cZ,?_,by show(c.wr.set _ _).length=_;rw[fI];exact i.ol,i.k3⟩,p,rfl⟩;show c.wr.set b.toNat (c.wr.getD b.toNat []++c.hand.take xs.length)=s.outs.set b.toNat (s.outs.getD b.toNat []++xs);rw[r,i.wr]
def nH:List (gX×List Int)->fq->fq
 |[],s=>s
 |x::L,s=>nH L (su s x.1 x.2)
def DT(L:List (gX×List Int)):List cm:=L.map λx=>⟨x.1.1,x.1.2,(x.2.length:Int)⟩
theorem Te(ok:okO g q)(al:s.c4.length=g.aP.length) o:(su s q xs).c4.getD o fR=if q=(6,(o:Int))then(s.c4.getD o fR).put xs else s.c4.getD o fR:=by
 obtain⟨a,b⟩:=q;unfold su;rcases ok with⟨d,c,f⟩|⟨aT,c,f⟩;have d:a=6:=d;have c:0<=b:=c;have f:b<g.aP.length:=f;subst d;show(s.c4.set b.toNat _).getD o fR=_;rw[uw];by_cases q:b.toNat=o;subst q;rw[aS ⟨rfl,I⟩,aS (by rw[p6 c])];rw[aC λx=>q x.1,aC λe=>q (by have:=(ry e).2;omega)];have aT:a=7:=aT;subst aT;rw[aC bc];rfl
theorem ac'{g:dd}{bm:List dv}:∀L c s a,Inv g bm c s->(∀x∈L,okO g x.1)->(L.map hE).Nodup->c.hand=(L.map dV).flatten++a->(∀x∈L,x.1.1=6->(s.c4.getD x.1.2.toNat fR).br+x.2.length<=(bm.getD x.1.2.toNat (0,0)).2/\(x.2≠[]->∀o,o<g.aP.length->o≠x.1.2.toNat->(0<(s.c4.getD o fR).br\/∃aV,aV≠[]/\((6,(o:Int)),aV)∈L)->GT bm x.1.2.toNat o))->(gr (DT L) c).2=0/\Inv g bm (gr (DT L) c).1 (nH L s)/\(gr (DT L) c).1.hand=a/\(gr (DT L) c).1.ir=c.ir
 |[],c,s,a,i,_,_,f,_=>⟨rfl,i,show c.hand=a by simpa using f,rfl⟩
 |x::L,c,s,a,i,ok,n,f,p=>by
  rw[er,jb]at n;have r:=ok x (hq ..);rw[er,qN,mg]at f;obtain⟨A,w,C,t⟩:=asB i r f λh=>⟨(p x (hq ..) h).1,λu o m k hp=>(p x (hq ..) h).2 u o m k (bQ hp)⟩;have row:gr (DT (x::L)) c=gr (DT L) (db c ⟨x.1.1,x.1.2,(x.2.length:Int)⟩).1:=by
   show gr (_::DT L) c=_;rw[gr,aS A]
  have d:=ac' L _ _ a w (λy b=>ok y (gd _ b)) n.2 C (λy b h=>by
   obtain⟨z,B⟩:=p y (gd _ b) h;have j:=ok y (gd _ b);have ne:∀o:Nat,y.1=(6,(o:Int))->x.1≠(6,(o:Int)):=λo e v=>n.1 (cO.2 ⟨y,b,by rw[e,v]⟩);have l:y.1=(6,(y.1.2.toNat:Int)):=by
    have:0<=y.1.2:=by rcases j with q|q<;>exact q.2.1
    exact J8 h (p6 this).symm
   refine⟨by rw[Te r i.le,aC (ne _ l)];exact z,λD o m k hp=>B D o m k ?_⟩;rcases hp with hp|⟨aV,h1,ae⟩;rw[Te r i.le]at hp;split at hp;rename_i e;rcases aIu (x.2=[])with q|q;left;rw[q]at hp;simpa[iy.br,iy.put]using hp;right;exact⟨x.2,q,by rw[<-e];exact hq ..⟩;exact bQ hp;exact ba ⟨aV,h1,gd _ ae⟩)
  rw[row];exact⟨d.1,d.2.1,d.2.2.1,d.2.2.2.trans t⟩
theorem ai8:∀l m x,gr (l++m) x=if(gr l x).2=0 then gr m (gr l x).1 else gr l x
 |[],m,x=>rfl
 |U::l,m,x=>by
  rw[A2,gr,gr];by_cases h:(db x U).2=0;rw[aS h,aS h];exact ai8 l m _;rw[aC h,aC h,aC h]
theorem Kx:∀rows ins,rows.map (λl=>(l.length:Int))=ins->kp rows.flatten ins=rows
 |[],ins,h=>by subst h;rfl
 |r::rows,ins,h=>by
  subst h;rw[er,kp,qN,bn,A5,amr,Kx rows _ rfl]
theorem ML:∀(rows:List (List Int)),(rows.flatten.length:Int)=hz (rows.map λl=>(l.length:Int))
 |[]=>rfl
 |r::rows=>by rw[qN,fb,er,Ef,<-ML rows];omega
noncomputable def tp(s:fq)(v:Nat)(L:List (gX×Nat))(i':List gX):fq×Nat:=open Classical in
 if∃x∈L,short s x.1 x.2 then(s,2)else
  match nc (s.cV.getD v gl) (L.map λx=>(tape s x.1).cut x.2)with
  |(none,_)=>(s,3)
  |(some a,b)=>(nH (i'.zip a) {lT L s with cV:=s.cV.set v b},0)
theorem MN:∀L s,(lT L s).cV=s.cV/\(lT L s).outs=s.outs
 |[],_=>⟨rfl,rfl⟩
 |x::L,s=>by
  obtain⟨h1,ae⟩:=MN L (iA s x.1 x.2);rw[lT,h1,ae];unfold iA;split<;>exact⟨rfl,rfl⟩
theorem adb:∀L s,(nH L s).cV=s.cV/\(nH L s).ins=s.ins
 |[],_=>⟨rfl,rfl⟩
 |x::L,s=>by
  obtain⟨h1,ae⟩:=adb L (su s x.1 x.2);rw[nH,h1,ae];unfold su;split<;>exact⟨rfl,rfl⟩
theorem ar0{c:fK}(i:Inv g bm c s)(H:c.hand=[])(ao:v<s.cV.length)(bv:la (C+1) (s.cV.getD v gl))(Y:c.ir.getD v 0=hz (s.cV.getD v gl).ins){L:List (gX×Nat)}(B:∀x∈L,mz g x.1)(D:(L.map hE).Nodup)(w:L.map (λx=>(x.2:Int))=(s.cV.getD v gl).ins)(G:∀x∈L,x.1.1=3->¬short s x.1 x.2)(u:∀x∈i',okO g x)(t:i'.Nodup)(hs:i'.length=(s.cV.getD v gl).outs.length)(K:∀y∈i'.zip (s.cV.getD v gl).outs,y.1.1=6->((lT L s).c4.getD y.1.2.toNat fR).br+y.2<=(bm.getD y.1.2.toNat (0,0)).2/\∀o,o<g.aP.length->o≠y.1.2.toNat->(0<((lT L s).c4.getD o fR).br\/(6,(o:Int))∈i')->GT bm y.1.2.toNat o)(E:ops=tP L++[⟨5,v,0⟩]++(i'.zip (s.cV.getD v gl).outs).map λy=>⟨y.1.1,y.1.2,y.2⟩):(gr ops c).2=(tp s v L i').2/\((gr ops c).2≠0->(gr ops c).1.wr=(tp s v L i').1.outs)/\((gr ops c).2=0->Inv g bm (gr ops c).1 (tp s v L i').1/\(gr ops c).1.hand=[]/\(gr ops c).1.ir=c.ir/\∃b,la C b/\b.ins=(s.cV.getD v gl).ins/\b.outs=(s.cV.getD v gl).outs/\(tp s v L i').1.cV=s.cV.set v b):=by
 have DF:(GK L:Int)=hz (s.cV.getD v gl).ins:=by
  rw[<-w];clear w G D B K E;induction L with
  |nil=>rfl
  |cons x L Z=>rw[er,Ef,<-Z];unfold GK;rw[er,List.sum_cons];omega
 have oT:=bv.oT;have S:hz (s.cV.getD v gl).ins<=64:=by
  rcases bv.inv with⟨_,_,_,h1,ae⟩|⟨_,h1,ae⟩|⟨_,n,_,_,h1,ae⟩|⟨_,n,_,_,h1,ae⟩|⟨_,n,m,_,_,_,h,h1,ae⟩|⟨_,n,m,_,_,_,h,h1,ae⟩|⟨_,n,_,_,h1,ae⟩|⟨_,h1,ae⟩|⟨_,n,_,_,h1,ae⟩|⟨_,_,h1,ae⟩|⟨_,n,_,_,h1,ae⟩<;>rw[h1]<;>simp[Ef,akc,show hz []=0 from rfl];all_goals first|omega|exact_mod_cast h
 have f:=akt L c s i B D (by rw[H];show 0+GK L<=64;omega) G;subst E;rw[mg,ai8];unfold tp;by_cases an:∃x∈L,short s x.1 x.2;rw[aS an]at f;rw[aS an,aC (by rw[f.1];decide)];exact⟨f.1,λ_=>by rw[f.2,i.wr],λh=>by rw[f.1]at h;cases h⟩;rw[aC an]at f;obtain⟨t1,t2,t3,t4⟩:=f;rw[aS t1,aC an];have bA:∀x∈L,¬short s x.1 x.2:=λx d h=>an ⟨x,d,h⟩;generalize lu:(gr (tP L) c).1=c1 at t2 t3 t4;generalize yv:(L.map λx=>(tape s x.1).cut x.2)=rows at t3;rw[H,List.nil_append]at t3;have M:rows.map (λl=>(l.length:Int))=(s.cV.getD v gl).ins:=by
  rw[<-w,<-yv,ig];refine ny λx d=>?_;have:=bA x d;unfold short at this;show(((tape s x.1).cut x.2).length:Int)=x.2;unfold iy.cut;rw[mV,mU];omega
 have k:c1.f'=s.cV:=by rw[t2.k3,(MN L s).1]
 have z:kp c1.hand (c1.f'.getD v gl).ins=rows:=by rw[k,t3];exact Kx rows _ M
 have N:(c1.hand.length:Int)=hz (s.cV.getD v gl).ins:=by rw[t3,ML,M]
 have O:=HV bv c1.hand N;rw[k]at z;rw[z]at O;have a5:db c1 ⟨5,(v:Int),0⟩=match nc (s.cV.getD v gl) rows with
  |(some outs,b)=>(vu c1 v b outs,0)
  |(none,b)=>({c1 with f':=c1.f'.set v b},3):=by
  rw[ao8,bn,aS (by rw[N,t4];exact Y.symm),k,z]<;>rfl
 have J:(nc (s.cV.getD v gl) rows).2.outs=(s.cV.getD v gl).outs:=by
  unfold nc;cases(ps (s.cV.getD v gl) rows).1<;>rfl
 rw[show∀X,gr ([(⟨5,(v:Int),0⟩:cm)]++X) c1=if(db c1 ⟨5,(v:Int),0⟩).2=0 then gr X (db c1 ⟨5,(v:Int),0⟩).1 else db c1 ⟨5,(v:Int),0⟩fromλ_=>rfl,a5];obtain⟨f1,f2,f3⟩:=O;generalize nc (s.cV.getD v gl) rows=F at f1 f2 f3 J;obtain⟨r,b⟩:=F;cases r with
 |none=>
  dsimp only;rw[aC aH];exact⟨rfl,λ_=>by show c1.wr=_;rw[t2.wr,(MN L s).2],λh=>by cases h⟩
 |some a=>
  have f3:=f3 a rfl;dsimp only at f1 f2⊢;rw[aS rfl];have W:a.length=i'.length:=by rw[hs,<-f3,fj]
  have i2:Inv g bm (vu c1 v b a) {lT L s with cV:=s.cV.set v b}:=⟨t2.hf,t2.le,t2.buf,t2.ck,t2.jL,t2.k7,t2.cZ,t2.wr,t2.ol,by show c1.f'.set v b=_;rw[k]⟩;have P:((i'.zip (s.cV.getD v gl).outs).map λy=>(⟨y.1.1,y.1.2,y.2⟩:cm))=DT (i'.zip a):=by
   rw[<-f3,amV,ig];rfl
  have Gy:=bv.Gy;have j:=ac' (i'.zip a) (vu c1 v b a) _ [] i2 (λx d=>u _ (CF d).1) (by rw[R6 I];exact t) (by rw[Zp I,sf];rfl) (λx d A=>by
   obtain⟨p,hp,e⟩:=n4 d;have yu:p<i'.length:=by rw[Zo]at hp;omega
   have pO:p<a.length:=I;have FG:p<(s.cV.getD v gl).outs.length:=I;have U:(s.cV.getD v gl).outs[p]=(a[p].length:Int):=by
    have:=EH (λl:List Int=>(l.length:Int)) (l:=a) (i:=p) (h:=by simpa using pO);rw[<-this];congr 1;exact f3.symm
   rw[amE]at e;subst e;obtain⟨T,R⟩:=K (i'[p],(s.cV.getD v gl).outs[p]) (amL.2 ⟨p,by rw[Zo];omega,by rw[amE]⟩) A;refine⟨by rw[<-U];exact T,λ_ o V Q q=>R o V Q ?_⟩;rcases q with q|⟨aV,_,ae⟩;exact bQ q;exact ba (CF ae).1)
  rw[P];refine⟨j.1,λh=>absurd j.1 h,λ_=>⟨j.2.1,j.2.2.1,j.2.2.2.trans t4,b,f1,f2,J,(adb _ _).1⟩⟩
theorem aqf{c:Nat}(h:mz g q)(aa:mz g da)(ne:q≠da):iA (iA s q n) da c=iA (iA s da c) q n:=by
 have t1:=Jq (s:=s) (n:=n) h aa ne;have t2:=Jq (s:=s) (n:=c) aa h ne.symm;have k:iA (iA s q n) da c=if da.1=3 then{iA s q n with c4:=(iA s q n).c4.set da.2.toNat ((tape s da).x2 c)}else{iA s q n with ins:=(iA s q n).ins.set da.2.toNat ((tape s da).x2 c)}:=by rw[<-t1];rfl
 have l:iA (iA s da c) q n=if q.1=3 then{iA s da c with c4:=(iA s da c).c4.set q.2.toNat ((tape s q).x2 n)}else{iA s da c with ins:=(iA s da c).ins.set q.2.toNat ((tape s q).x2 n)}:=by rw[<-t2];rfl
 rw[k,l];unfold iA;obtain⟨a,b⟩:=q;obtain⟨i,f⟩:=da;dsimp only[mz]at h aa⊢;by_cases d:a=3<;>by_cases j:i=3<;>simp only[d,j,mO,nk];rw[R9 _ _ (λe=>ne (by rw[d,j,show b=f by omega]))];rw[R9 _ _ (λe=>ne (by rw[show a=4 by omega,show i=4 by omega,show b=f by omega]))]
theorem aGu{L b:List (gX×Nat)}(p:L.Perm b):∀s,(∀x∈L,mz g x.1)->(L.map hE).Nodup->lT L s=lT b s:=by
 induction p with
 |nil=>intro _ _ _;rfl
 |cons x p f=>
  intro s ok a;rw[er,jb]at a;exact f _ (λy c=>ok y (gd _ c)) a.2
 |swap x y l=>
  intro s ok a;rw[er,er,jb]at a;simp only[lT];rw[aqf (ok y bc) (ok x bc) λe=>a.1 (by rw[e];simp)]
 |trans p q i1 i2=>
  intro s ok a;rw[i1 s ok a,i2 s (λx d=>ok x (p.mem_iff.2 d)) ((p.map _).nodup_iff.1 a)]
theorem asz{aV:List Int}(h:okO g q)(aa:okO g da)(ne:q≠da):su (su s q xs) da aV=su (su s da aV) q xs:=by
 unfold su;obtain⟨a,b⟩:=q;obtain⟨i,d⟩:=da;dsimp only[okO]at h aa⊢;by_cases f:a=6<;>by_cases j:i=6<;>simp only[f,j,mO,nk,uw];have c:b.toNat≠d.toNat:=λe=>ne (by rw[f,j,show b=d by omega]);rw[aC (λx=>c x.1),aC (λx=>c.symm x.1),R9 _ _ c];have c:b.toNat≠d.toNat:=λe=>ne (by rw[show a=7 by omega,show i=7 by omega,show b=d by omega]);rw[aC (λx=>c x.1),aC (λx=>c.symm x.1),R9 _ _ c]
theorem asC{L b:List (gX×List Int)}(p:L.Perm b):∀s,(∀x∈L,okO g x.1)->(L.map hE).Nodup->nH L s=nH b s:=by
 induction p with
 |nil=>intro _ _ _;rfl
 |cons x p f=>
  intro s ok a;rw[er,jb]at a;exact f _ (λy c=>ok y (gd _ c)) a.2
 |swap x y l=>
  intro s ok a;rw[er,er,jb]at a;simp only[nH];rw[asz (ok y bc) (ok x bc) λe=>a.1 (by rw[e];simp)]
 |trans p q i1 i2=>
  intro s ok a;rw[i1 s ok a,i2 s (λx d=>ok x (p.mem_iff.2 d)) ((p.map _).nodup_iff.1 a)]
def ka{α:Type}(f:α->Slot)(dk:Nat)(v:Int):Nat->List α->List (Nat×gX)
 |_,[]=>[]
 |k,x::l=>if(f x).1=v then((f x).2.toNat,(dk,(k:Int)))::ka f dk v (k+1) l else ka f dk v (k+1) l
theorem Ay{α:Type}(f:α->Slot) dk v:∀l k p s,(p,s)∈ka f dk v k l↔∃i x,l[i]?=some x/\(f x).1=v/\p=(f x).2.toNat/\s=(dk,((k+i:Nat):Int))
 |[],k,p,s=>by simp[ka]
 |x::l,k,p,s=>by
  have b:=Ay f dk v l (k+1) p s;have key:(∃i y,(x::l)[i]?=some y/\(f y).1=v/\p=(f y).2.toNat/\s=(dk,((k+i:Nat):Int)))↔((f x).1=v/\p=(f x).2.toNat/\s=(dk,(k:Int)))\/∃i y,l[i]?=some y/\(f y).1=v/\p=(f y).2.toNat/\s=(dk,((k+1+i:Nat):Int)):=by
   constructor;rintro⟨i,y,h1,ae,a,aT⟩;cases i with
   |zero=>injection h1 with h1;subst h1;exact bQ ⟨ae,a,aT⟩
   |succ i=>exact ba ⟨i,y,h1,ae,a,by rw[aT,show k+(i+1)=k+1+i by omega]⟩
   rintro(⟨ae,a,aT⟩|⟨i,y,h1,ae,a,aT⟩);exact⟨0,x,rfl,ae,a,aT⟩;exact⟨i+1,y,h1,ae,a,by rw[aT,show k+(i+1)=k+1+i by omega]⟩
  rw[key,ka];split;rename_i h;rw[ez,b,Hk];simp[h];rename_i h;rw[b];simp[h]
theorem Ec{α:Type}(f:α->Slot) dk v:∀l k,((ka f dk v k l).map dV).Nodup
 |[],_=>amN
 |x::l,k=>by
  have a:=Ec f dk v l (k+1);rw[ka];split;rw[er,jb];refine⟨λh=>?_,a⟩;obtain⟨⟨p,s⟩,hm,e⟩:=cO.1 h;obtain⟨i,y,_,_,_,aT⟩:=(Ay f dk v l (k+1) p s).1 hm;have:(dk,(k:Int))=((dk,((k+1+i:Nat):Int)):gX):=e.symm.trans aT;have:=(ry this).2;omega;exact a
def Br(x:GE):Slot:=(x.dst,x.hF)
def N7(x:GE):Slot:=(x.src,x.sp)
def qz(x:kO):Slot:=(x.act,x.port)
def xg(g:dd)(v:Nat):List (Nat×gX):=ka qz 4 v 0 g.ins++ka Br 3 v 0 g.aP
def DV(g:dd)(v:Nat):List (Nat×gX):=ka N7 6 v 0 g.aP++ka qz 7 v 0 g.outs
theorem aad{A B:List (Nat×gX)}(h1:(A.map dV).Nodup)(ae:(B.map dV).Nodup){a:Nat}(d:∀x∈A,x.2.1=a)(g:∀x∈B,x.2.1=b)(ne:a≠b):((A++B).map dV).Nodup:=by
 rw[fw,List.nodup_append];refine⟨h1,ae,λx f y c e=>?_⟩;obtain⟨u,hu,rfl⟩:=cO.1 f;obtain⟨w,hw,rfl⟩:=cO.1 c;exact ne (by rw[<-d u hu,<-g w hw,e])
theorem tY(f:α->Slot) dk v l k:∀x∈ka f dk v k l,x.2.1=dk:=λx a=>by
 obtain⟨_,_,_,_,_,h⟩:=(Ay f dk v l k x.1 x.2).1 a;rw[h]
theorem avQ g v:((xg g v).map dV).Nodup:=aad (Ec ..) (Ec ..) (λx a=>tY _ _ _ _ _ x a) (λx a=>tY _ _ _ _ _ x a) aH
theorem aCT g v:((DV g v).map dV).Nodup:=aad (Ec ..) (Ec ..) (λx a=>tY _ _ _ _ _ x a) (λx a=>tY _ _ _ _ _ x a) aH
theorem DZ{v:Int}{a p:Int}{q:Nat}(b:0<=p):(a=v/\q=p.toNat)↔(v,(q:Int))=(a,p):=by
 rw[Hk];omega
theorem Ph(e:iV g=0) v p s:(p,s)∈xg g v↔(((v:Int),(p:Int)),s)∈ph g:=by
 have b:=ts e;unfold xg ph;rw[eI,eI,Ay,Ay,Rv,Rv];constructor;rintro(⟨i,x,h1,ae,a,aT⟩|⟨i,x,h1,ae,a,aT⟩);have:=b.Ir x (xO h1);exact ba ⟨i,x,h1,J8 ((DZ this.2.2.1).1 ⟨ae,a⟩) (by rw[aT,dZ])⟩;have:=b.nD x (xO h1);exact bQ ⟨i,x,h1,J8 ((DZ this.2.1.2.2.1).1 ⟨ae,a⟩) (by rw[aT,dZ])⟩;rintro(⟨i,x,h1,ae⟩|⟨i,x,h1,ae⟩);have:=b.nD x (xO h1);have a:=(DZ this.2.1.2.2.1).2 (ry ae).1;exact ba ⟨i,x,h1,a.1,a.2,by rw[(ry ae).2,dZ]⟩;have:=b.Ir x (xO h1);have a:=(DZ this.2.2.1).2 (ry ae).1;exact bQ ⟨i,x,h1,a.1,a.2,by rw[(ry ae).2,dZ]⟩
theorem Qp(e:iV g=0) v p s:(p,s)∈DV g v↔(((v:Int),(p:Int)),s)∈u0 g:=by
 have b:=ts e;unfold DV u0;rw[eI,eI,Ay,Ay,Rv,Rv];constructor;rintro(⟨i,x,h1,ae,a,aT⟩|⟨i,x,h1,ae,a,aT⟩);have:=b.nD x (xO h1);exact bQ ⟨i,x,h1,J8 ((DZ this.1.2.2.1).1 ⟨ae,a⟩) (by rw[aT,dZ])⟩;have:=b.I6 x (xO h1);exact ba ⟨i,x,h1,J8 ((DZ this.2.2.1).1 ⟨ae,a⟩) (by rw[aT,dZ])⟩;rintro(⟨i,x,h1,ae⟩|⟨i,x,h1,ae⟩);have:=b.nD x (xO h1);have a:=(DZ this.1.2.2.1).2 (ry ae).1;exact bQ ⟨i,x,h1,a.1,a.2,by rw[(ry ae).2,dZ]⟩;have:=b.I6 x (xO h1);have a:=(DZ this.2.2.1).2 (ry ae).1;exact ba ⟨i,x,h1,a.1,a.2,by rw[(ry ae).2,dZ]⟩
theorem aqE(ok:mz g q)(al:s.c4.length=g.aP.length) o:(iA s q n).c4.getD o fR=if q=(3,(o:Int))then(s.c4.getD o fR).x2 n else s.c4.getD o fR:=by
 obtain⟨a,b⟩:=q;unfold iA;rcases ok with⟨d,c,f⟩|⟨aT,c,f⟩;have d:a=3:=d;have c:0<=b:=c;have f:b<g.aP.length:=f;subst d;show(s.c4.set b.toNat _).getD o fR=_;rw[uw];by_cases q:b.toNat=o;subst q;rw[aS ⟨rfl,I⟩,aS (by rw[p6 c])];rfl;rw[aC λx=>q x.1,aC λe=>q (by have:=(ry e).2;omega)];have aT:a=4:=aT;subst aT;rw[aC bc];rfl
theorem aqg s q n:(iA s q n).c4.length=s.c4.length:=by unfold iA;split<;>simp
theorem asA s q xs:(su s q xs).c4.length=s.c4.length:=by unfold su;split<;>simp
theorem Ya{g:dd}(o:Nat):∀L s,(∀x∈L,mz g x.1)->(L.map hE).Nodup->s.c4.length=g.aP.length->(lT L s).c4.length=g.aP.length/\(∀n,((3,(o:Int)),n)∈L->(lT L s).c4.getD o fR=(s.c4.getD o fR).x2 n)/\((∀n,((3,(o:Int)),n)∉L)->(lT L s).c4.getD o fR=s.c4.getD o fR)
 |[],s,_,_,al=>⟨al,nofun,λ_=>rfl⟩
 |x::L,s,ok,c,al=>by
  rw[er,jb]at c;have h:=ok x (hq ..);obtain⟨i0,i1,i2⟩:=Ya o L (iA s x.1 x.2) (λy f=>ok y (gd _ f)) c.2 ((aqg ..).trans al);rw[lT];have d:=aqE (n:=x.2) h al o;refine⟨i0,λn a=>?_,λa=>?_⟩;rcases ez.1 a with q|q;have b:x.1=(3,(o:Int)):=by rw[<-q]
  rw[i2 λm hm=>c.1 (cO.2 ⟨_,hm,b.symm⟩),d,aS b,<-q];have b:x.1≠(3,(o:Int)):=λe=>c.1 (cO.2 ⟨_,q,e.symm⟩);rw[i1 n q,d,aC b];rw[i2 λm hm=>a m (gd _ hm),d,aC λe=>a x.2 (by rw[<-e];exact hq ..)]
theorem TZ{g:dd}(o:Nat):∀L s,(∀x∈L,okO g x.1)->(L.map hE).Nodup->s.c4.length=g.aP.length->(nH L s).c4.length=g.aP.length/\(∀n,((6,(o:Int)),n)∈L->(nH L s).c4.getD o fR=(s.c4.getD o fR).put n)/\((∀n,((6,(o:Int)),n)∉L)->(nH L s).c4.getD o fR=s.c4.getD o fR)
 |[],s,_,_,al=>⟨al,nofun,λ_=>rfl⟩
 |x::L,s,ok,c,al=>by
  rw[er,jb]at c;have h:=ok x (hq ..);obtain⟨i0,i1,i2⟩:=TZ o L (su s x.1 x.2) (λy f=>ok y (gd _ f)) c.2 ((asA ..).trans al);rw[nH];have d:=Te (xs:=x.2) h al o;refine⟨i0,λn a=>?_,λa=>?_⟩;rcases ez.1 a with q|q;have b:x.1=(6,(o:Int)):=by rw[<-q]
  rw[i2 λm hm=>c.1 (cO.2 ⟨_,hm,b.symm⟩),d,aS b,<-q];have b:x.1≠(6,(o:Int)):=λe=>c.1 (cO.2 ⟨_,q,e.symm⟩);rw[i1 n q,d,aC b];rw[i2 λm hm=>a m (gd _ hm),d,aC λe=>a x.2 (by rw[<-e];exact hq ..)]
theorem Ax{f:α->Slot}{dk:Nat}{v:Int}{l:List α}{s:gX}(h:(p,s)∈ka f dk v 0 l):∃(i:Nat)(x:α),l[i]?=some x/\(f x).1=v/\p=(f x).2.toNat/\s=(dk,(i:Int)):=by
 obtain⟨i,x,h1,ae,a,aT⟩:=(Ay ..).1 h;exact⟨i,x,h1,ae,a,by rw[aT,dZ]⟩
theorem Q0{f:α->Slot}{dk:Nat}{v:Int}{l:List α}{nS:Nat}{s:gX}(h:(p,s)∈ka f dk v 0 l)(aa:(nS,s)∈ka f dk v 0 l):p=nS:=by
 obtain⟨i,x,h1,ae,c,aT⟩:=Ax h;obtain⟨d,j,b,k,g,a⟩:=Ax aa;have:i=d:=by rw[aT]at a;have:=(ry a).2;omega
 subst this;rw[h1]at b;injection b with e;rw[c,g,e]
theorem ajS(e:iV g=0)(S:oF (ph g) v rs ops c5){i:Nat} b(p:Nat):c5[p]?=some (3,(i:Int))↔p<rs.length/\g.aP[i].dst=v/\p=g.aP[i].hF.toNat:=by
 rw[S.mem,<-Ph e];refine and_congr_right λ_=>?_;unfold xg;rw[eI];constructor;rintro(h|h);obtain⟨k,x,h1,ae,a,aT⟩:=Ax h;cases(ry aT).1;obtain⟨k,x,h1,ae,a,aT⟩:=Ax h;have:k=i:=by have:=(ry aT).2;omega
 subst this;rw[bK b]at h1;injection h1 with h1;subst h1;exact⟨ae,a⟩;rintro⟨ae,a⟩;exact ba ((Ay ..).2 ⟨i,_,bK b,ae,a,by rw[dZ]⟩)
theorem Q2(e:iV g=0)(S:oF (u0 g) v rs ops c5){i:Nat} b(p:Nat):c5[p]?=some (6,(i:Int))↔p<rs.length/\g.aP[i].src=v/\p=g.aP[i].sp.toNat:=by
 rw[S.mem,<-Qp e];refine and_congr_right λ_=>?_;unfold DV;rw[eI];constructor;rintro(h|h);obtain⟨k,x,h1,ae,a,aT⟩:=Ax h;have:k=i:=by have:=(ry aT).2;omega
 subst this;rw[bK b]at h1;injection h1 with h1;subst h1;exact⟨ae,a⟩;obtain⟨k,x,h1,ae,a,aT⟩:=Ax h;cases(ry aT).1;rintro⟨ae,a⟩;exact bQ ((Ay ..).2 ⟨i,_,bK b,ae,a,by rw[dZ]⟩)
theorem PS{l:List α}{i:Nat}{x:α}(h:l[i]?=some x):i<l.length:=(qO.1 h).1
theorem Q1(e:iV g=0)(S:oF (ph g) v rs ops c5):(∀x∈c5,mz g x)/\c5.Nodup:=by
 have am:∀p s,c5[p]?=some s->(p,s)∈xg g v:=λp s h=>(Ph e v p s).2 ((S.mem p s).1 h).2;refine⟨λx f=>?_,?_⟩;obtain⟨p,hp⟩:=JU.1 f;rcases eI.1 (am p x hp)with h|h<;>obtain⟨k,y,h1,_,_,aT⟩:=Ax h<;>subst aT<;>have:=PS h1;exact ba ⟨rfl,by show(0:Int)<=k;omega,by show(k:Int)<_;omega⟩;exact bQ ⟨rfl,by show(0:Int)<=k;omega,by show(k:Int)<_;omega⟩;rw[Zq,Nm];intro p nS hp i j eq;have a:=am p _ (bK hp);have b:=am nS _ (bK i);rw[<-eq]at b;have:p=nS:=by
  rcases eI.1 a with a|a<;>rcases eI.1 b with b|b;exact Q0 a b;have d:=tY _ _ _ _ _ (p,c5[p]) a;have c:=tY _ _ _ _ _ (nS,c5[p]) b;dsimp only at d c;omega;have d:=tY _ _ _ _ _ (p,c5[p]) a;have c:=tY _ _ _ _ _ (nS,c5[p]) b;dsimp only at d c;omega;exact Q0 a b
 omega
theorem XT(e:iV g=0)(S:oF (u0 g) v rs ops c5):(∀x∈c5,okO g x)/\c5.Nodup:=by
 have am:∀p s,c5[p]?=some s->(p,s)∈DV g v:=λp s h=>(Qp e v p s).2 ((S.mem p s).1 h).2;refine⟨λx f=>?_,?_⟩;obtain⟨p,hp⟩:=JU.1 f;rcases eI.1 (am p x hp)with h|h<;>obtain⟨k,y,h1,_,_,aT⟩:=Ax h<;>subst aT<;>have:=PS h1;exact bQ ⟨rfl,by show(0:Int)<=k;omega,by show(k:Int)<_;omega⟩;exact ba ⟨rfl,by show(0:Int)<=k;omega,by show(k:Int)<_;omega⟩;rw[Zq,Nm];intro p nS hp i j eq;have a:=am p _ (bK hp);have b:=am nS _ (bK i);rw[<-eq]at b;have:p=nS:=by
  rcases eI.1 a with a|a<;>rcases eI.1 b with b|b;exact Q0 a b;have d:=tY _ _ _ _ _ (p,c5[p]) a;have c:=tY _ _ _ _ _ (nS,c5[p]) b;dsimp only at d c;omega;have d:=tY _ _ _ _ _ (p,c5[p]) a;have c:=tY _ _ _ _ _ (nS,c5[p]) b;dsimp only at d c;omega;exact Q0 a b
 omega
theorem YH{α β a:Type}(f:α->β->a):∀l m,sh f l m=(l.zip m).map λx=>f x.1 x.2
 |[],_=>rfl
 |_::_,[]=>rfl
 |x::l,y::m=>by rw[List.zipWith_cons_cons,YH f l m];rfl
def gk(g:dd)(v:Nat)(c5:List gX):List (gX×Nat):=c5.zip ((eo g v).map CD)
def G0(g:dd)(f:List Int)(s:fq):Prop:=∀(i:Nat)(h:i<g.aP.length),(s.c4.getD i fR).br=oX f (od g g.aP[i])
theorem GR{β:Type}{l:List α}{m:List β}{x:α×β}:x∈l.zip m↔∃p:Nat,l[p]?=some x.1/\m[p]?=some x.2:=by
 rw[JU];exact exists_congr λp=>amB
theorem agP(e:iV g=0)(S:oF (ph g) v (eo g v) ops c5){i:Nat} b:(g.aP[i].dst=v->((3,(i:Int)),(od g g.aP[i]).take.toNat)∈gk g v c5)/\∀n,((3,(i:Int)),n)∈gk g v c5->g.aP[i].dst=v/\n=(od g g.aP[i]).take.toNat:=by
 have f:=(ts e).nD _ (b3 b);unfold gk;refine⟨λa=>GR.2 ⟨g.aP[i].hF.toNat,?_,?_⟩,λn h=>?_⟩;exact(ajS e S b _).2 ⟨by have:=f.2.1;rw[a]at this;omega,a,rfl⟩;have h1:=f.2.1;rw[a]at h1;show(List.map CD _)[_]?=some ((eo g g.aP[i].dst).getD _ 0).toNat;rw[de,a,cc,bK I];rfl;obtain⟨p,h1,ae⟩:=GR.1 h;obtain⟨d,c,j⟩:=(ajS e S b p).1 h1;refine⟨c,?_⟩;show n=((eo g g.aP[i].dst).getD _ 0).toNat;rw[de,bK d]at ae;injection ae with ae;have ae:(eo g v)[p].toNat=n:=ae;rw[<-ae,c,<-j,cc,bK d];rfl
theorem V'(S:oF (ph g) v (eo g v) ops c5):(gk g v c5).map hE=c5:=by
 unfold gk;rw[R6];rw[S.len,fj];exact dM _
theorem KP(an:fF g.aY.length (dJ g)=0){i:Nat} a:po g.aY.length (od g g.aP[i])=0:=(mM an).2.2.2 _ (cO.2 ⟨_,b3 a,rfl⟩)
theorem aGs(e:iV g=0)(an:fF g.aY.length (dJ g)=0)(al:s.c4.length=g.aP.length)(S:oF (ph g) v (eo g v) ops c5):(lT (gk g v c5) s).c4.length=g.aP.length/\∀i a,((lT (gk g v c5) s).c4.getD i fR).br=(s.c4.getD i fR).br-if g.aP[i].dst=v then(od g g.aP[i]).take else 0:=by
 obtain⟨l,k⟩:=Q1 e S;have ok:∀x∈gk g v c5,mz g x.1:=λx f=>l _ (CF f).1;have c:((gk g v c5).map hE).Nodup:=by rw[V' S];exact k
 refine⟨(Ya 0 _ s ok c al).1,λi a=>?_⟩;obtain⟨_,t1,t2⟩:=Ya i _ s ok c al;obtain⟨j,h⟩:=agP e S a;have:=sT (KP an a);split;rename_i b;rw[t1 _ (j b)];unfold iy.br iy.x2;dsimp only;omega;rename_i b;rw[t2 λn d=>b (h n d).1];omega
theorem asy(e:iV g=0)(al:s.c4.length=g.aP.length)(S:oF (u0 g) v (jp g v) ops i'){a:List (List Int)}(d:a.map (λl=>(l.length:Int))=jp g v):(nH (i'.zip a) s).c4.length=g.aP.length/\∀i c,((nH (i'.zip a) s).c4.getD i fR).br=(s.c4.getD i fR).br+if g.aP[i].src=v then(od g g.aP[i]).gm else 0:=by
 obtain⟨q,m⟩:=XT e S;have jM:a.length=(jp g v).length:=by rw[<-d,fj]
 have ok:∀x∈i'.zip a,okO g x.1:=λx j=>q _ (CF j).1;have f:((i'.zip a).map hE).Nodup:=by rw[R6 (by rw[S.len,jM];exact dM _)];exact m
 refine⟨(TZ 0 _ s ok f al).1,λi c=>?_⟩;obtain⟨_,t1,t2⟩:=TZ i _ s ok f al;have o:=((ts e).nD _ (b3 c)).1;split;rename_i b;rw[b]at o;have hp:g.aP[i].sp.toNat<a.length:=I;rw[t1 a[g.aP[i].sp.toNat] (GR.2 ⟨g.aP[i].sp.toNat,(Q2 e S c _).2 ⟨I,b,rfl⟩,bK hp⟩)];have k:(a[g.aP[i].sp.toNat].length:Int)=(od g g.aP[i]).gm:=by
  show _=(jp g g.aP[i].src).getD _ 0;rw[b,<-d,cc,de,bK hp];rfl
 unfold iy.br iy.put;dsimp only;rw[fb];omega;rename_i b;rw[t2 λn h=>?_];omega;obtain⟨p,h1,_⟩:=GR.1 h;exact b ((Q2 e S c p).1 h1).2.1
theorem Wy(e:iV g=0)(an:fF g.aY.length (dJ g)=0)(S:oF (ph g) v (eo g v) ops c5)(y:G0 g f s)(hm:may g.aY.length (dJ g) f v=true):∀x∈gk g v c5,x.1.1=3->¬short s x.1 x.2:=λx d h=>by
 obtain⟨u,A⟩:=Q1 e S;have p:∀x∈gk g v c5,mz g x.1:=λx d=>u _ (CF d).1;obtain⟨_,w⟩:=L4.1 hm;have r:∀(o:Nat)(c:o<g.aP.length),g.aP[o].dst=v->(od g g.aP[o]).take<=oX f (od g g.aP[o]):=λo c i=>w _ (cO.2 ⟨_,b3 c,rfl⟩) i;obtain⟨⟨a,b⟩,n⟩:=x;have h:a=3:=h;subst h;have t:=p _ d;rcases t with⟨_,m,j⟩|⟨q,_⟩;have m:0<=b:=m;have j:b<g.aP.length:=j;obtain⟨o,rfl⟩:∃o:Nat,b=o:=⟨b.toNat,I⟩;have c:o<g.aP.length:=I;obtain⟨i,z⟩:=(agP e S c).2 n d;have h1:=r o c i;have ae:=y o c;have aT:=sT (KP an c);unfold short;show¬(s.c4.getD ((o:Int).toNat) fR).l.length<(s.c4.getD ((o:Int).toNat) fR).k+n;rw[bn];unfold iy.br at ae;omega;cases q
theorem arM(e:iV g=0){c:fK}(i:Inv g bm c s)(bP:c.hand=[])(W:v<g.aY.length)(sB:s.cV.length=g.aY.length)(bv:la (C+1) (s.cV.getD v gl))(D:(s.cV.getD v gl).ins=eo g v)(A:(s.cV.getD v gl).outs=jp g v)(aw:c.ir.getD v 0=hz (eo g v))(jL:f.length=g.aY.length)(an:fF g.aY.length (dJ g)=0)(H:G0 g f s)(hm:may g.aY.length (dJ g) f v=true){rows:List (List Int)}{dB:List Int}(fin:Fin rows g.aP.length dB bm)(oR:J7 rows g.aP.length dB)(z:dP (dJ g) (bump f v)∈rows)(S:oF (ph g) v (eo g v) ((Fa g).getD v []) c5)(T:oF (u0 g) v (jp g v) ((Fb g).getD v []) i'):(gr ((gU g).getD v []) c).2=(tp s v (gk g v c5) i').2/\((gr ((gU g).getD v []) c).2≠0->(gr ((gU g).getD v []) c).1.wr=(tp s v (gk g v c5) i').1.outs)/\((gr ((gU g).getD v []) c).2=0->Inv g bm (gr ((gU g).getD v []) c).1 (tp s v (gk g v c5) i').1/\(gr ((gU g).getD v []) c).1.hand=[]/\(gr ((gU g).getD v []) c).1.ir=c.ir/\G0 g (bump f v) (tp s v (gk g v c5) i').1/\∃b,la C b/\b.ins=eo g v/\b.outs=jp g v/\(tp s v (gk g v c5) i').1.cV=s.cV.set v b):=by
 obtain⟨j8,eR⟩:=Q1 e S;obtain⟨iQ,je⟩:=XT e T;have Gi:∀x∈gk g v c5,mz g x.1:=λx j=>j8 _ (CF j).1;have IN:((gk g v c5).map hE).Nodup:=by rw[V' S];exact eR
 have R:=bv.oT;rw[D]at R;have V:(gk g v c5).map (λx=>(x.2:Int))=eo g v:=by
  have:(gk g v c5).map (λx=>(x.2:Int))=((gk g v c5).map dV).map λn:Nat=>(n:Int):=by rw[ig];rfl
  rw[this,gk,Zp (by rw[S.len,fj];exact dM _),ig];refine(ny λr z=>?_).trans (amI _);have:=R r z;show((r.toNat:Nat):Int)=r;omega
 obtain⟨_,k0⟩:=L4.1 hm;have t:∀(o:Nat)(d:o<g.aP.length),oX (bump f v) (od g g.aP[o])=oX f (od g g.aP[o])- (if g.aP[o].dst=v then(od g g.aP[o]).take else 0)+(if g.aP[o].src=v then(od g g.aP[o]).gm else 0):=λo d=>Yi (KP an d) jL W;have Wd:∀(o:Nat)(d:o<g.aP.length),g.aP[o].dst=v->(od g g.aP[o]).take<=oX f (od g g.aP[o]):=λo d O=>k0 _ (cO.2 ⟨_,b3 d,rfl⟩) O;obtain⟨cK,Q⟩:=aGs e an i.le S;have ax:=Wy e an S H hm;have X:∀(o:Nat)(d:o<g.aP.length),0<=((lT (gk g v c5) s).c4.getD o fR).br:=λo d=>by
  rw[Q o d];split;rename_i O;have:=Wd o d O;have:=H o d;omega;have:=(i.buf o d).k;unfold iy.br;omega
 have w:∀(o:Nat)(d:o<g.aP.length),(dP (dJ g) (bump f v)).getD o 0=((lT (gk g v c5) s).c4.getD o fR).br+if g.aP[o].src=v then(od g g.aP[o]).gm else 0:=λo d=>by
  have ga:o<(dJ g).length:=by unfold dJ;rw[fj];exact d
  rw[Q o d,H o d,<-t o d];unfold dP dJ;rw[cc,de,de,bK d];rfl
 have UX:(gU g).getD v []=tP (gk g v c5)++[⟨5,(v:Int),0⟩]++(i'.zip (s.cV.getD v gl).outs).map λy=>⟨y.1.1,y.1.2,y.2⟩:=by
  unfold gU;rw[cc,de,EG W,si,pB,S.ops,T.ops,A,YH,YH];congr 2;unfold tP gk;rw[amV,ig];refine ny λx j=>?_;have:=R _ (CF j).2;show(⟨x.1.1,x.1.2,x.2⟩:cm)=⟨x.1.1,x.1.2,((x.2.toNat:Nat):Int)⟩;rw[p6 I]
 have J:=ar0 i bP I bv (by rw[D];exact aw) Gi IN (by rw[D];exact V) ax iQ je (by rw[A];exact T.len) (λy N P=>by
  obtain⟨⟨a,b⟩,r⟩:=y;have P:a=6:=P;subst P;have ef:=iQ _ (CF N).1;rcases ef with⟨_,Y,G⟩|⟨q,_⟩;have Y:0<=b:=Y;have G:b<g.aP.length:=G;obtain⟨o,rfl⟩:∃o:Nat,b=o:=⟨b.toNat,I⟩;have d:o<g.aP.length:=I;rw[A]at N;obtain⟨p,fT,gJ⟩:=GR.1 N;obtain⟨aO,U,bt⟩:=(Q2 e T d p).1 fT;have aJT:r=(od g g.aP[o]).gm:=by
   show r=(jp g g.aP[o].src).getD _ 0;rw[U,<-bt,cc,gJ];rfl
  have aIL:=sT (KP an d);have QG:=w o d;rw[aS U]at QG;have up:=oR.up o d _ z;have hA:=fin.size o d;unfold iq pU at hA;show((lT (gk g v c5) s).c4.getD ((o:Int).toNat) fR).br+r<=(bm.getD ((o:Int).toNat) (0,0)).2/\∀k,k<g.aP.length->k≠(o:Int).toNat->_->GT bm ((o:Int).toNat) k;rw[bn];refine⟨I,λk hk b' E=>?_⟩;have Cg:=w k hk;have ca:=sT (KP an hk);have L:0<(dP (dJ g) (bump f v)).getD k 0:=by
   rw[Cg];have:=X k hk;rcases E with E|E;split<;>omega;obtain⟨nS,oO⟩:=JU.1 E;have:=((Q2 e T hk nS).1 oO).2.1;rw[aS this];omega
  have K:0<(dP (dJ g) (bump f v)).getD o 0:=by have:=X o d;omega
  have We:xm rows o k=true:=RU.2 ⟨_,z,by show(decide _&&decide _)=true;rw[hr K,hr L];rfl⟩;have ap:=fin.apart o d k hk ((aa1 d hk (eh b')).2 We);rw[GY,ne_eq,GC]at ap;have M:=fin.size k hk;have aKt:=oR.up k hk _ z;unfold iq pU at M;unfold iq at ap;unfold GT;omega;cases q) UX
 refine⟨J.1,J.2.1,λam=>?_⟩;obtain⟨e0,dS,eb,b,G,cB,g7,ml⟩:=J.2.2 am;refine⟨e0,dS,eb,?_,b,G,cB.trans D,g7.trans A,ml⟩;have m:=J.1.symm.trans am;unfold tp at m⊢;split at m;cases m;rename_i u;rw[aC u];have bA:∀x∈gk g v c5,¬short s x.1 x.2:=λx j h=>u ⟨x,j,h⟩;generalize yv:((gk g v c5).map λx=>(tape s x.1).cut x.2)=rws at m⊢;have Z:rws.map (λl=>(l.length:Int))=(s.cV.getD v gl).ins:=by
  rw[D,<-V,<-yv,ig];refine ny λx j=>?_;have:=bA x j;unfold short at this;show(((tape s x.1).cut x.2).length:Int)=x.2;unfold iy.cut;rw[mV,mU];omega
 have B:=(HV bv rws.flatten (by rw[ML,Z])).2.2;rw[Kx rws _ Z,A]at B;generalize nc (s.cV.getD v gl) rws=F at B m⊢;obtain⟨r,dN⟩:=F;cases r with
 |none=>cases m
 |some ha=>
  have B:=B ha rfl;dsimp only;intro o d;rw[(asy e (s:={lT (gk g v c5) s with cV:=s.cV.set v dN}) cK T B).2 o d,t o d,<-H o d,<-Q o d]
def gH(rs:List Int)(p:Nat):Nat:=(rs.getD p 0).toNat
def uF(v:Int)(rs:List Int):Nat->List kO->fq×List (List Int)->Option (fq×List (List Int))
 |_,[],a=>some a
 |k,x::l,a=>if x.act=v then(if short a.1 (4,(k:Int)) (gH rs x.port.toNat)then none else uF v rs (k+1) l (iA a.1 (4,(k:Int)) (gH rs x.port.toNat),a.2.set x.port.toNat ((tape a.1 (4,(k:Int))).cut (gH rs x.port.toNat))))else uF v rs (k+1) l a
def rE(v:Int)(rs:List Int):Nat->List GE->fq×List (List Int)->fq×List (List Int)
 |_,[],a=>a
 |k,x::l,a=>if x.dst=v then(if short a.1 (3,(k:Int)) (gH rs x.hF.toNat)then rE v rs (k+1) l (a.1,a.2.set x.hF.toNat [])else rE v rs (k+1) l (iA a.1 (3,(k:Int)) (gH rs x.hF.toNat),a.2.set x.hF.toNat ((tape a.1 (3,(k:Int))).cut (gH rs x.hF.toNat))))else rE v rs (k+1) l a
def nT(v:Int)(a:List (List Int)):Nat->List GE->fq->fq
 |_,[],s=>s
 |k,x::l,s=>if x.src=v then nT v a (k+1) l (su s (6,(k:Int)) (a.getD x.sp.toNat []))else nT v a (k+1) l s
def xu(v:Int)(a:List (List Int)):Nat->List kO->fq->fq
 |_,[],s=>s
 |k,x::l,s=>if x.act=v then xu v a (k+1) l (su s (7,(k:Int)) (a.getD x.port.toNat []))else xu v a (k+1) l s
def nF(g:dd)(v:Nat)(s:fq):fq×Nat:=match uF v (eo g v) 0 g.ins (s,bp (eo g v).length [])with
 |none=>(s,2)
 |some a=>match nc ((rE v (eo g v) 0 g.aP a).1.cV.getD v gl) (rE v (eo g v) 0 g.aP a).2 with
  |(none,_)=>((rE v (eo g v) 0 g.aP a).1,3)
  |(some b,x)=>(xu v b 0 g.outs (nT v b 0 g.aP {(rE v (eo g v) 0 g.aP a).1 with cV:=(rE v (eo g v) 0 g.aP a).1.cV.set v x}),0)
abbrev zi:=Nat×gX
def Da(rs:List Int)(cq:List zi)(a:fq×List (List Int)):fq×List (List Int):=cq.foldl (λa x=>(iA a.1 x.2 (gH rs x.1),a.2.set x.1 ((tape a.1 x.2).cut (gH rs x.1)))) a
theorem ajH{m:Nat}(h:mz g q)(aa:mz g da)(ne:q≠da):short (iA s q n) da m↔short s da m:=by unfold short;rw[Jq h aa ne]
theorem Vo{g:dd} v rs:∀l k a,(∀x∈ka qz 4 v k l,mz g x.2)->((∃x∈ka qz 4 v k l,short a.1 x.2 (gH rs x.1))->uF v rs k l a=none)/\(¬(∃x∈ka qz 4 v k l,short a.1 x.2 (gH rs x.1))->uF v rs k l a=some (Da rs (ka qz 4 v k l) a))
 |[],_,_,_=>⟨λ⟨_,h,_⟩=>(by cases h),λ_=>rfl⟩
 |x::l,k,a,ok=>by
  have d:=Ec qz 4 v (x::l) k;rw[ka]at ok d⊢;rw[uF];by_cases c:x.act=v;have f:(qz x).1=v:=c;rw[aS f]at ok d⊢;rw[aS c];rw[er,jb]at d;have j:=ok _ (hq ..);by_cases an:short a.1 (4,(k:Int)) (gH rs x.port.toNat);rw[aS an];exact⟨λ_=>rfl,λh=>absurd ⟨_,hq ..,an⟩ h⟩;rw[aC an];obtain⟨i1,i2⟩:=Vo v rs l (k+1) (iA a.1 (4,(k:Int)) (gH rs x.port.toNat),a.2.set x.port.toNat ((tape a.1 (4,(k:Int))).cut (gH rs x.port.toNat))) λy b=>ok y (gd _ b);have i:∀y∈ka qz 4 v (k+1) l,short (iA a.1 (4,(k:Int)) (gH rs x.port.toNat)) y.2 (gH rs y.1)↔short a.1 y.2 (gH rs y.1):=λy b=>ajH j (ok y (gd _ b)) λe=>d.1 (cO.2 ⟨y,b,e.symm⟩);refine⟨?_,λh=>i2 ?_⟩;rintro⟨y,b,h⟩;rcases ez.1 b with q|q;rw[q]at h;exact absurd h an;exact i1 ⟨y,q,(i y q).2 h⟩;rintro⟨y,b,aa⟩;exact h ⟨y,gd _ b,(i y b).1 aa⟩;have f:¬(qz x).1=v:=c;rw[aC f]at ok⊢;rw[aC c];exact Vo v rs l (k+1) a ok
theorem Tf{g:dd} v rs:∀l k a,(∀x∈ka Br 3 v k l,mz g x.2)->(∀x∈ka Br 3 v k l,¬short a.1 x.2 (gH rs x.1))->rE v rs k l a=Da rs (ka Br 3 v k l) a
 |[],_,_,_,_=>rfl
 |x::l,k,a,ok,an=>by
  have d:=Ec Br 3 v (x::l) k;rw[ka]at ok d an⊢;rw[rE];by_cases c:x.dst=v;have i:(Br x).1=v:=c;rw[aS i]at ok d an⊢;rw[aS c];rw[er,jb]at d;have j:=ok _ (hq ..);have f:¬short a.1 (3,(k:Int)) (gH rs x.hF.toNat):=an _ (hq ..);rw[aC f];exact Tf v rs l (k+1) _ (λy b=>ok y (gd _ b)) λy b h=>an y (gd _ b) ((ajH j (ok y (gd _ b)) λe=>d.1 (cO.2 ⟨y,b,e.symm⟩)).1 h);have i:¬(Br x).1=v:=c;rw[aC i]at ok an⊢;rw[aC c];exact Tf v rs l (k+1) a ok an
theorem S9{g:dd} rs:∀cq a,(∀x∈cq,mz g x.2)->(cq.map dV).Nodup->Da rs cq a=(lT (cq.map λx=>(x.2,gH rs x.1)) a.1,cq.foldl (λr x=>r.set x.1 ((tape a.1 x.2).cut (gH rs x.1))) a.2)
 |[],_,_,_=>rfl
 |x::cq,a,ok,d=>by
  rw[er,jb]at d;have j:=S9 rs cq (iA a.1 x.2 (gH rs x.1),a.2.set x.1 ((tape a.1 x.2).cut (gH rs x.1))) (λy b=>ok y (gd _ b)) d.2;have e:Da rs (x::cq) a=Da rs cq (iA a.1 x.2 (gH rs x.1),a.2.set x.1 ((tape a.1 x.2).cut (gH rs x.1))):=rfl;rw[e,j,er,lT,vk];refine J8 rfl ?_;show cq.foldl _ _=cq.foldl _ _;have key:∀(K:List zi)(r:List (List Int)),(∀y∈K,y∈cq)->K.foldl (λr y=>r.set y.1 ((tape (iA a.1 x.2 (gH rs x.1)) y.2).cut (gH rs y.1))) r=K.foldl (λr y=>r.set y.1 ((tape a.1 y.2).cut (gH rs y.1))) r:=by
   intro K;induction K with
   |nil=>intro _ _;rfl
   |cons y K c=>
    intro r f;have b:=f y (hq ..);rw[vk,vk,Jq (ok x (hq ..)) (ok y (gd _ b)) λe=>d.1 (cO.2 ⟨y,b,e.symm⟩)];exact c _ λz i=>f z (gd _ i)
  exact key cq _ λ_ h=>h
theorem acR{α:Type}(F:zi->α) p:∀(cq:List zi)(r:List α),(∀x∈cq,x.1≠p)->(cq.foldl (λr x=>r.set x.1 (F x)) r)[p]?=r[p]?
 |[],_,_=>rfl
 |x::cq,r,h=>by
  rw[vk,acR F p cq _ λy a=>h y (gd _ a),List.getElem?_set_ne (h x (hq ..))]
theorem acS{α:Type}(F:zi->α) p q:∀(cq:List zi)(r:List α),(∀da,(p,da)∈cq->da=q)->(p,q)∈cq->p<r.length->(cq.foldl (λr x=>r.set x.1 (F x)) r)[p]?=some (F (p,q))
 |[],_,_,h,_=>by cases h
 |x::cq,r,un,h,hp=>by
  rw[vk];by_cases a:(p,q)∈cq;exact acS F p q cq _ (λda aa=>un da (gd _ aa)) a (by rw[fI];exact hp);rw[acR F p cq _ λy b e=>a (by have:=un y.2 (by rw[<-e];exact gd _ b);rw[<-this,<-e];exact b)];have c:(p,q)=x:=by
   rcases ez.1 h with e|e;exact e;exact absurd e a
  rw[<-c];exact List.getElem?_set_self hp
theorem acP{α:Type}(F:zi->α):∀(cq:List zi)(r:List α),(cq.foldl (λr x=>r.set x.1 (F x)) r).length=r.length
 |[],_=>rfl
 |x::cq,r=>by rw[vk,acP F cq,fI]
theorem Xe v b:∀l k s,nT v b k l s=nH ((ka N7 6 v k l).map λx=>(x.2,b.getD x.1 [])) s
 |[],_,_=>rfl
 |x::l,k,s=>by
  rw[nT,ka];by_cases a:x.src=v;have c:(N7 x).1=v:=a;rw[aS a,aS c,Xe v b l];rfl;have c:¬(N7 x).1=v:=a;rw[aC a,aC c,Xe v b l]
theorem Xf v b:∀l k s,xu v b k l s=nH ((ka qz 7 v k l).map λx=>(x.2,b.getD x.1 [])) s
 |[],_,_=>rfl
 |x::l,k,s=>by
  rw[xu,ka];by_cases a:x.act=v;have c:(qz x).1=v:=a;rw[aS a,aS c,Xf v b l];rfl;have c:¬(qz x).1=v:=a;rw[aC a,aC c,Xf v b l]
theorem ada:∀L M s,nH (L++M) s=nH M (nH L s)
 |[],_,_=>rfl
 |x::L,M,s=>by rw[A2,nH,nH,ada L M]
theorem akw{g:dd}:∀L s q,(∀x∈L,mz g x.1)->mz g q->q∉L.map hE->tape (lT L s) q=tape s q
 |[],_,_,_,_,_=>rfl
 |x::L,s,q,ok,b,a=>by
  rw[er,ez,not_or]at a;rw[lT,akw L _ q (λy c=>ok y (gd _ c)) b a.2,Jq (ok x (hq ..)) b (eh a.1)]
theorem aix{A B:List α}(a:A.Nodup)(b:B.Nodup)(h:∀x,x∈A↔x∈B):A.Perm B:=(List.perm_ext_iff_of_nodup a b).2 h
theorem P6{L:List (gX×α)}(h:(L.map hE).Nodup):L.Nodup:=aIB hE (λ_ _ h e=>h (by rw[e])) h
def js.oY(x:js):iy:=⟨x.l,x.k⟩
structure Ex(B h:J)(c8:Option aE)(b0:Nat)(es:List js):Prop where
 row:bw h 120 2 c8 es.length b0 (hQ es)
 hi:∀g,c8=some g->B g.block=none
 r:∀d∈es,bw h 3 1 d.A d.l.length d.c (d.l.map R)
 n:∀d∈es,∀g,d.A=some g->B g.block=none
structure Ng(B h:J)(kq:Nat)(is:List js):Prop where
 box:h kq=some (bb (hQ is).toArray 120 (0,0))
 hi:B kq=none
 r:∀d∈is,d.l.length<=d.c/\d.l.length<=17592186044416/\bg B 1 d.A d.l.length (gi d.l)
structure Nv(B h:J)(ef:Nat)(os:List bM):Prop where
 box:h ef=some (bb (os.map bM.val).toArray 27 (0,0))
 hi:B ef=none
 r:∀d∈os,bw h 3 1 d.A d.l.length d.c (d.l.map R)
 n:∀d∈os,∀g,d.A=some g->B g.block=none
structure AO(B h:J)(a':List (Nat×Nat))(cV:List gK):Prop where
 len:a'.length=cV.length
 at_:∀i(h1:i<a'.length)(ae:i<cV.length),iE B h a'[i].1 a'[i].2 cV[i]
 dE:(a'.map dV).Nodup
structure oD where
 c8:Option aE
 b0:Nat
 es:List js
 kq:Nat
 is:List js
 ef:Nat
 os:List bM
 a':List (Nat×Nat)
structure h0(B h:J)(q:oD)(s:fq)(M:Nat):Prop where
 le:B.le h
 c4:Ex B h q.c8 q.b0 q.es
 kr:Ng B h q.kq q.is
 h8:Nv B h q.ef q.os
 gp:AO B h q.a' s.cV
 Bs:q.es.map js.oY=s.c4
 inl:q.is.map js.oY=s.ins
 Aj:q.os.map bM.l=s.outs
 ob:∀g,q.c8=some g->g.block≠q.kq
 D7:∀i o(ai:i<q.es.length)(ah:o<q.es.length),i≠o->∀g bq,q.es[i].A=some g->q.es[o].A=some bq->g.block≠bq.block
 D8:∀i o(ai:i<q.os.length)(ah:o<q.os.length),i≠o->∀g bq,q.os[i].A=some g->q.os[o].A=some bq->g.block≠bq.block
 Au:∀d∈q.es,∀ii∈q.os,∀g bq,d.A=some g->ii.A=some bq->g.block≠bq.block
 x3:∀d∈q.es,d.l.length<=M
 xo:∀d∈q.os,d.l.length<=M
 vB:∀d∈q.es,d.k<=d.l.length
 zW:∀d∈q.is,d.k<=d.l.length
section
variable {B h aa:J}{x:Nat}
theorem Ex.h6{a:Option aE}{c:Nat}{es:List js}(k:Ex B h a c es)(e:J.h6 x h aa)(f:∀g,a=some g->g.block≠x)(i:∀d∈es,∀g,d.A=some g->g.block≠x):Ex B aa a c es:=⟨k.row.h6 e f,k.hi,λd b=>(k.r d b).h6 e (i d b),k.n⟩
theorem Ng.h6{a:Nat}{is:List js}(k:Ng B h a is)(c:J.h6 x h aa)(b:a≠x):Ng B aa a is:=⟨c _ _ b k.box,k.hi,k.r⟩
theorem Nv.h6{a:Nat}{os:List bM}(k:Nv B h a os)(c:J.h6 x h aa)(e:a≠x)(f:∀d∈os,∀g,d.A=some g->g.block≠x):Nv B aa a os:=⟨c _ _ e k.box,k.hi,λd b=>(k.r d b).h6 c (f d b),k.n⟩
theorem AO.h6{a':List (Nat×Nat)}{cV:List gK}(k:AO B h a' cV)(a:J.h6 x h aa)(n:∀p∈a',p.2≠x):AO B aa a' cV:=by
 refine⟨k.len,λi h1 ae=>?_,k.dE⟩;have b:=k.at_ i h1 ae;refine b.to (J.le_refl _) ?_ b.nN;cases q:h a'[i].2 with
 |none=>exact absurd q b.some_
 |some U=>exact(a _ _ (n _ (b3 h1)) q).symm
theorem AO.ty{a':List (Nat×Nat)}{cV:List gK}(k:AO B h a' cV){p:Nat×Nat}(hp:p∈a'):∃a t,298<=t/\h p.2=some (bb a t (0,0)):=by
 obtain⟨i,b,rfl⟩:=n4 hp;obtain⟨a,av⟩:=(k.at_ i b (by rw[<-k.len];exact b)).ty;exact⟨a,_,EY _,av⟩
theorem agq h x U:J.h6 x h (h.put x U):=λo _ a e=>by rw[J.cD _ _ a];exact e
theorem agn{U:Obj}(le:B.le h)(a:B x=none):B.le (h.put x U):=λo b e=>by
 rw[J.cD _ _ (λq=>by rw[q,a]at e;cases e)];exact le _ _ e
theorem bw.qC{size:Nat}{xs d au:List aA}(r:bw h bF size (some ⟨b,0,none⟩) n c xs)(g:h b=some (bb (xs++au).toArray bF (0,0)))(al:d.length=xs.length):bw (h.put b (bb (d++au).toArray bF (0,0))) bF size (some ⟨b,0,none⟩) n c d:=by
 obtain⟨e,⟨q,_⟩|⟨l,k,q,a,f,i,j,m⟩⟩:=r;cases q;injection q with q;injection q with q;subst q;rw[g]at a;injection a with a;injection a with a;subst a;refine⟨by rw[al];exact e,ba ⟨b,_,rfl,J.b8 _ _ _,f,i,?_,?_⟩⟩;rw[<-j];simp[al];show(d++au).take _=_;rw[<-e,<-al,A5]
variable {q:oD}{s:fq}{M:Nat}
theorem h0.N8(k:h0 B h q s M){g:aE}(a:q.c8=some g):∃b,h g.block=some (bb b 120 (0,0)):=by
 have r:=k.c4.row;rw[a]at r;exact r.ty
theorem bw.jP{size:Nat}{xs:List aA}(r:bw h bF size A n c xs){g:aE}(a:A=some g):∃b,h g.block=some (bb b bF (0,0)):=by
 subst a;exact r.ty
theorem h0.up(k:h0 B h q s M)(le:h.le aa):h0 B aa q s M:=⟨J.le_trans k.le le,⟨k.c4.row.mono le,k.c4.hi,λd a=>(k.c4.r d a).mono le,k.c4.n⟩,⟨le _ _ k.kr.box,k.kr.hi,k.kr.r⟩,⟨le _ _ k.h8.box,k.h8.hi,λd a=>(k.h8.r d a).mono le,k.h8.n⟩,⟨k.gp.len,λi h1 ae=>(k.gp.at_ i h1 ae).up le,k.gp.dE⟩,k.Bs,k.inl,k.Aj,k.ob,k.D7,k.D8,k.Au,k.x3,k.xo,k.vB,k.zW⟩
theorem h0.aqe(k:h0 B h q s M){i:Nat} j{n:Nat}(o:q.is[i].k+n<=q.is[i].l.length):h0 B (h.put q.kq (bb (hQ (q.is.set i ⟨q.is[i].A,q.is[i].c,q.is[i].l,q.is[i].k+n⟩)).toArray 120 (0,0))) {q with is:=q.is.set i ⟨q.is[i].A,q.is[i].c,q.is[i].l,q.is[i].k+n⟩} (iA s (4,i) n) M:=by
 have f:=agq h q.kq (bb (hQ (q.is.set i ⟨q.is[i].A,q.is[i].c,q.is[i].l,q.is[i].k+n⟩)).toArray 120 (0,0));have b:s.ins.getD i fR=⟨q.is[i].l,q.is[i].k⟩:=by
  rw[<-k.inl,cc,de,bK j];rfl
 have u:iA s (4,(i:Int)) n={s with ins:=s.ins.set i ⟨q.is[i].l,q.is[i].k+n⟩}:=by
  show{s with ins:=s.ins.set (i:Int).toNat ((s.ins.getD (i:Int).toNat fR).x2 n)}=_;rw[bn,b];rfl
 rw[u];refine⟨agn k.le k.kr.hi,k.c4.h6 f k.ob λd a g e=>?_,⟨J.b8 _ _ _,k.kr.hi,λd a=>?_⟩,k.h8.h6 f ?_ λd a g e=>?_,k.gp.h6 f λp hp=>?_,k.Bs,?_,k.Aj,k.ob,k.D7,k.D8,k.Au,k.x3,k.xo,k.vB,λd a=>?_⟩;obtain⟨m,av⟩:=(k.c4.r d a).jP e;exact eN av k.kr.box aH;rcases wA a with a|a;exact k.kr.r d a;have:=k.kr.r _ (b3 j);subst a;exact this;exact eN k.h8.box k.kr.box aH;obtain⟨m,av⟩:=(k.h8.r d a).jP e;exact eN av k.kr.box aH;obtain⟨m,t,v,av⟩:=k.gp.ty hp;exact eN av k.kr.box (J2 (A7 aH v));show(q.is.set i _).map js.oY=s.ins.set i _;rw[kB,k.inl];rfl;rcases wA a with a|a;exact k.zW d a;subst a;exact o
theorem h0.aFc(k:h0 B h q s M){i:Nat} I{b:Nat}{au:List aA}(aK:q.c8=some ⟨b,0,none⟩)(v:h b=some (bb (hQ q.es++au).toArray 120 (0,0))) a(J:bw h 3 1 a.A a.l.length a.c (a.l.map R))(H:∀g,a.A=some g->B g.block=none)(an:a.A=q.es[i].A)(hk:a.k<=a.l.length){jI:Nat}(D:M<=jI)(j:a.l.length<=jI):h0 B (h.put b (bb (hQ (q.es.set i a)++au).toArray 120 (0,0))) {q with es:=q.es.set i a} {s with c4:=s.c4.set i a.oY} jI:=by
 have y:=agq h b (bb (hQ (q.es.set i a)++au).toArray 120 (0,0));have L:B b=none:=k.c4.hi _ aK;have E:=k.c4.row;rw[aK]at E;refine⟨agn k.le L,⟨?_,k.c4.hi,λd j=>?_,λd j=>?_⟩,k.kr.h6 y (λe=>k.ob _ aK e.symm),k.h8.h6 y ?_ λd j g z=>?_,k.gp.h6 y λp hp=>?_,?_,k.inl,k.Aj,k.ob,?_,k.D8,?_,λd f=>?_,λd f=>?_,λd f=>?_,k.zW⟩;show bw _ 120 2 q.c8 (q.es.set i a).length q.b0 _;rw[aK,fI];exact E.qC v (by rw[Ek,Ek,fI]);have w:∀d,bw h 3 1 d.A d.l.length d.c (d.l.map R)->bw (h.put b (bb (hQ (q.es.set i a)++au).toArray 120 (0,0))) 3 1 d.A d.l.length d.c ((d:js).l.map R):=λd r=>r.h6 y λg z=>by
  obtain⟨C,av⟩:=r.jP z;exact eN av v aH
 rcases wA j with j|j;exact w d (k.c4.r d j);subst j;exact w _ J;rcases wA j with j|j;exact k.c4.n d j;subst j;exact H;exact eN k.h8.box v aH;obtain⟨C,av⟩:=(k.h8.r d j).jP z;exact eN av v aH;obtain⟨C,t,w,av⟩:=k.gp.ty hp;exact eN av v (J2 (A7 aH w));show(q.es.set i a).map js.oY=s.c4.set i a.oY;rw[kB,k.Bs];intro i1 N h1 ae K g x o u;have G:∀m(hm:m<(q.es.set i a).length),((q.es.set i a)[m]).A=(q.es[m]'(by rw[fI]at hm;exact hm)).A:=λm hm=>by
  rw[s6];split;rename_i e;subst e;exact an;rfl
 rw[G]at o u;exact k.D7 i1 N _ _ K g x o u;intro d f d2 F g x o u;rcases wA f with f|f;exact k.Au d f d2 F g x o u;subst f;exact k.Au _ (b3 I) d2 F g x (by rw[<-an];exact o) u;rcases wA f with f|f;exact lf (k.x3 d f) D;subst f;exact j;exact lf (k.xo d f) D;rcases wA f with f|f;exact k.vB d f;subst f;exact hk
def sS(S:Nat->Prop)(h aa:J):Prop:=∀o U,¬S o->h o=some U->aa o=some U
theorem bw.sS{S:Nat->Prop}{size:Nat}{xs:List aA}(r:bw h bF size A n c xs)(le:sS S h aa)(e:∀g,A=some g->¬S g.block):bw aa bF size A n c xs:=by
 obtain⟨d,q⟩:=r;refine⟨d,?_⟩;rcases q with q|⟨b,f,a,i,j⟩;exact bQ q;exact ba ⟨b,f,a,le _ _ (e _ a) i,j⟩
theorem AO.sS{S:Nat->Prop}{a':List (Nat×Nat)}{cV:List gK}(k:AO B h a' cV)(a:sS S h aa)(n:∀p∈a',¬S p.2):AO B aa a' cV:=by
 refine⟨k.len,λi h1 ae=>?_,k.dE⟩;have b:=k.at_ i h1 ae;refine b.to (J.le_refl _) ?_ b.nN;cases q:h a'[i].2 with
 |none=>exact absurd q b.some_
 |some U=>exact(a _ _ (n _ (b3 h1)) q).symm
theorem Ck{l:List α}{i:Nat}{x y:α}(h:y∈l.set i x):y=x\/∃o,∃a,o≠i/\y=l[o]:=by
 obtain⟨o,a,e⟩:=n4 h;rw[fI]at a;rw[s6]at e;split at e;exact bQ e.symm;rename_i q;exact ba ⟨o,a,λx=>q x.symm,e.symm⟩
theorem h0.aBt(k:h0 B h q s M){i:Nat} P{b:Nat}{au:List aA}(aK:q.c8=some ⟨b,0,none⟩)(w:h b=some (bb (hQ q.es++au).toArray 120 (0,0))){bo:Option aE}{bj:Nat}{xs:List Int}{aT:J}(F:((en h q.es[i].A).put b (bb (hQ (q.es.set i ⟨bo,bj,q.es[i].l++xs,q.es[i].k⟩)++au).toArray 120 (0,0))).le aT)(fC:bw aT 3 1 bo (q.es[i].l++xs).length bj ((q.es[i].l++xs).map R))(f4:∀g,bo=some g->((en h q.es[i].A).put b (bb (hQ (q.es.set i ⟨bo,bj,q.es[i].l++xs,q.es[i].k⟩)++au).toArray 120 (0,0))) g.block=none){jI:Nat}(W:M<=jI)(j:(q.es[i].l++xs).length<=jI):h0 B aT {q with es:=q.es.set i ⟨bo,bj,q.es[i].l++xs,q.es[i].k⟩} {s with c4:=s.c4.set i ⟨q.es[i].l++xs,q.es[i].k⟩} jI:=by
 have eB:B b=none:=k.c4.hi _ aK;have C:=b3 P;have a6:=k.c4.r _ C;have S:∀g,q.es[i].A=some g->g.block≠b:=λg c=>by
  obtain⟨m,av⟩:=a6.jP c;exact eN av w aH
 have L:∀o U,(∀g,q.es[i].A=some g->o≠g.block)->o≠b->h o=some U->((en h q.es[i].A).put b (bb (hQ (q.es.set i ⟨bo,bj,q.es[i].l++xs,q.es[i].k⟩)++au).toArray 120 (0,0))) o=some U:=λo U cR dA e=>by
  rw[J.cD _ _ dA,mm cR];exact e
 have z:sS (λo=>(∃g,q.es[i].A=some g/\o=g.block)\/o=b) h aT:=λo U n e=>F _ _ (L o U (λg c q=>n (bQ ⟨g,c,q⟩)) (λq=>n (ba q)) e);have V:B.le ((en h q.es[i].A).put b (bb (hQ (q.es.set i ⟨bo,bj,q.es[i].l++xs,q.es[i].k⟩)++au).toArray 120 (0,0))):=λo U e=>L o U (λg c q=>by rw[q,k.c4.n _ C g c]at e;cases e) (λq=>by rw[q,eB]at e;cases e) (k.le _ _ e);have O:∀{o:Nat}{m:Array aA}{t:Nat},h o=some (bb m t (0,0))->t≠3->t≠120->¬((∃g,q.es[i].A=some g/\o=g.block)\/o=b):=λf Z E=>by
  rintro(⟨g,c,q⟩|q);obtain⟨m,av⟩:=a6.jP c;exact eN f av Z q;exact eN f w E q
 have D:∀o(f:o<q.es.length),o≠i->∀g,q.es[o].A=some g->¬((∃a,q.es[i].A=some a/\g.block=a.block)\/g.block=b):=λo f ne g c=>by
  rintro(⟨a,x,q⟩|q);exact k.D7 o i f P ne g a c x q;obtain⟨m,av⟩:=(k.c4.r _ (b3 f)).jP c;exact eN av w aH q
 have N:∀d∈q.os,∀g,d.A=some g->¬((∃a,q.es[i].A=some a/\g.block=a.block)\/g.block=b):=λd j g c=>by
  rintro(⟨a,x,q⟩|q);exact k.Au _ C d j a g x c q.symm;obtain⟨m,av⟩:=(k.h8.r d j).jP c;exact eN av w aH q
 have c0:∀{g:aE}{m:Array aA}{t:Nat},h g.block=some (bb m t (0,0))->¬((∃a,q.es[i].A=some a/\g.block=a.block)\/g.block=b)->∀a,bo=some a->g.block≠a.block:=λ{g m t} c n a x e=>by
  have:=L g.block _ (λY w5 q=>n (bQ ⟨Y,w5,q⟩)) (λq=>n (ba q)) c;rw[e,f4 a x]at this;cases this
 have X:=k.c4.row;rw[aK]at X;refine⟨J.le_trans V F,⟨?_,k.c4.hi,λd j=>?_,λd j=>?_⟩,⟨z _ _ ?_ k.kr.box,k.kr.hi,k.kr.r⟩,⟨z _ _ (O k.h8.box aH aH) k.h8.box,k.h8.hi,λd j=>(k.h8.r d j).sS z (N d j),k.h8.n⟩,k.gp.sS z λp hp=>?_,?_,k.inl,k.Aj,k.ob,?_,k.D8,?_,λd y=>?_,λd y=>lf (k.xo d y) W,λd y=>?_,k.zW⟩;show bw _ 120 2 q.c8 (q.es.set i _).length q.b0 _;rw[aK,fI];have e0:bw (en h q.es[i].A) 120 2 (some ⟨b,0,none⟩) q.es.length q.b0 (hQ q.es):=X.del λg a h1 ae=>by
  injection h1 with h1;subst h1;exact eh (S a ae)
 exact(e0.qC (by rw[mm λg c q=>S g c q.symm];exact w) (by rw[Ek,Ek,fI])).mono F;rcases Ck j with rfl|⟨o,f,ne,rfl⟩;exact fC;exact(k.c4.r _ (b3 f)).sS z (D o f ne);rcases Ck j with rfl|⟨o,f,ne,rfl⟩;intro g c;have:=f4 g c;cases q:B g.block with
 |none=>rfl
 |some U=>rw[V _ _ q]at this;cases this
 exact k.c4.n _ (b3 f);rintro(⟨g,c,q⟩|q);obtain⟨m,av⟩:=a6.jP c;exact eN k.kr.box av aH q;exact k.ob _ aK q.symm;obtain⟨m,t,Q,av⟩:=k.gp.ty hp;exact O av (J2 (A7 aH Q)) (J2 (A7 aH Q));show(q.es.set i _).map js.oY=s.c4.set i _;rw[kB,k.Bs];rfl;intro i1 H h1 ae b' g a v u;have I:i1<q.es.length:=by rw[fI]at h1;exact h1
 have K:H<q.es.length:=by rw[fI]at ae;exact ae
 rw[s6]at v u;split at v<;>split at u;omega;rename_i T a2;obtain⟨m,av⟩:=(k.c4.r _ (b3 K)).jP u;exact eh (c0 av (D H K (eh a2) a u) g v);rename_i T a2;obtain⟨m,av⟩:=(k.c4.r _ (b3 I)).jP v;exact c0 av (D i1 I (eh T) g v) a u;exact k.D7 i1 H I K b' g a v u;intro d j d2 G g a v u;rcases Ck j with rfl|⟨o,f,ne,rfl⟩;obtain⟨m,av⟩:=(k.h8.r d2 G).jP u;exact eh (c0 av (N d2 G a u) g v);exact k.Au _ (b3 f) d2 G g a v u;rcases Ck y with rfl|⟨o,f,ne,rfl⟩;exact j;exact lf (k.x3 _ (b3 f)) W;rcases Ck y with rfl|⟨o,f,ne,rfl⟩;show q.es[i].k<=(q.es[i].l++xs).length;rw[fb];have:=k.vB _ C;omega;exact k.vB _ (b3 f)
end
section
variable {B h aa:J}{q:oD}{s:fq}{M:Nat}
theorem Ex.sS{S:Nat->Prop}{a:Option aE}{c:Nat}{es:List js}(k:Ex B h a c es)(e:Go.Sx.sS S h aa)(f:∀g,a=some g->¬S g.block)(i:∀d∈es,∀g,d.A=some g->¬S g.block):Ex B aa a c es:=⟨k.row.sS e f,k.hi,λd b=>(k.r d b).sS e (i d b),k.n⟩
theorem h0.aBu(k:h0 B h q s M){i:Nat} N{bo:Option aE}{bj:Nat}{xs:List Int}{aT:J}(E:((en h q.os[i].A).put q.ef (bb ((q.os.set i ⟨bo,bj,q.os[i].l++xs⟩).map bM.val).toArray 27 (0,0))).le aT)(fC:bw aT 3 1 bo (q.os[i].l++xs).length bj ((q.os[i].l++xs).map R))(f4:∀g,bo=some g->((en h q.os[i].A).put q.ef (bb ((q.os.set i ⟨bo,bj,q.os[i].l++xs⟩).map bM.val).toArray 27 (0,0))) g.block=none){jI:Nat}(S:M<=jI)(j:(q.os[i].l++xs).length<=jI):h0 B aT {q with os:=q.os.set i ⟨bo,bj,q.os[i].l++xs⟩} {s with outs:=s.outs.set i (q.os[i].l++xs)} jI:=by
 have Z:B q.ef=none:=k.h8.hi;have w:=k.h8.box;have y:=b3 N;have a6:=k.h8.r _ y;have c':∀g,q.os[i].A=some g->g.block≠q.ef:=λg b=>by
  obtain⟨f,av⟩:=a6.jP b;exact eN av w aH
 have K:∀o U,(∀g,q.os[i].A=some g->o≠g.block)->o≠q.ef->h o=some U->((en h q.os[i].A).put q.ef (bb ((q.os.set i ⟨bo,bj,q.os[i].l++xs⟩).map bM.val).toArray 27 (0,0))) o=some U:=λo U X Y e=>by
  rw[J.cD _ _ Y,mm X];exact e
 have x:sS (λo=>(∃g,q.os[i].A=some g/\o=g.block)\/o=q.ef) h aT:=λo U n e=>E _ _ (K o U (λg b q=>n (bQ ⟨g,b,q⟩)) (λq=>n (ba q)) e);have Q:B.le ((en h q.os[i].A).put q.ef (bb ((q.os.set i ⟨bo,bj,q.os[i].l++xs⟩).map bM.val).toArray 27 (0,0))):=λo U e=>K o U (λg b q=>by rw[q,k.h8.n _ y g b]at e;cases e) (λq=>by rw[q,Z]at e;cases e) (k.le _ _ e);have C:∀{o:Nat}{f:Array aA}{t:Nat},h o=some (bb f t (0,0))->t≠3->t≠27->¬((∃g,q.os[i].A=some g/\o=g.block)\/o=q.ef):=λc V D=>by
  rintro(⟨g,b,q⟩|q);obtain⟨f,av⟩:=a6.jP b;exact eN c av V q;exact eN c w D q
 have L:∀d∈q.es,∀g,d.A=some g->¬((∃a,q.os[i].A=some a/\g.block=a.block)\/g.block=q.ef):=λd j g b=>by
  rintro(⟨a,v,q⟩|q);exact k.Au d j _ y g a b v q;obtain⟨f,av⟩:=(k.c4.r _ j).jP b;exact eN av w aH q
 have z:∀o(c:o<q.os.length),o≠i->∀g,q.os[o].A=some g->¬((∃a,q.os[i].A=some a/\g.block=a.block)\/g.block=q.ef):=λo c ne g b=>by
  rintro(⟨a,v,q⟩|q);exact k.D8 o i c N ne g a b v q;obtain⟨f,av⟩:=(k.h8.r _ (b3 c)).jP b;exact eN av w aH q
 have c0:∀{g:aE}{f:Array aA}{t:Nat},h g.block=some (bb f t (0,0))->¬((∃a,q.os[i].A=some a/\g.block=a.block)\/g.block=q.ef)->∀a,bo=some a->g.block≠a.block:=λ{g f t} b n a v e=>by
  have:=K g.block _ (λT w5 q=>n (bQ ⟨T,w5,q⟩)) (λq=>n (ba q)) b;rw[e,f4 a v]at this;cases this
 refine⟨J.le_trans Q E,k.c4.sS x (λg b=>?_) L,⟨x _ _ (C k.kr.box aH aH) k.kr.box,k.kr.hi,k.kr.r⟩,⟨E _ _ (J.b8 _ _ _),k.h8.hi,λd j=>?_,λd j=>?_⟩,k.gp.sS x λp hp=>?_,k.Bs,k.inl,?_,k.ob,k.D7,?_,?_,λd F=>lf (k.x3 d F) S,λd F=>?_,k.vB,k.zW⟩;obtain⟨f,av⟩:=k.N8 b;exact C av aH aH;rcases Ck j with rfl|⟨o,c,ne,rfl⟩;exact fC;exact(k.h8.r _ (b3 c)).sS x (z o c ne);rcases Ck j with rfl|⟨o,c,ne,rfl⟩;intro g b;have:=f4 g b;cases q:B g.block with
 |none=>rfl
 |some U=>rw[Q _ _ q]at this;cases this
 exact k.h8.n _ (b3 c);obtain⟨f,t,O,av⟩:=k.gp.ty hp;exact C av (J2 (A7 aH O)) (J2 (A7 aH O));show(q.os.set i _).map bM.l=s.outs.set i _;rw[kB,k.Aj];intro i1 G h1 ae W g a m u;have H:i1<q.os.length:=by rw[fI]at h1;exact h1
 have I:G<q.os.length:=by rw[fI]at ae;exact ae
 rw[s6]at m u;split at m<;>split at u;omega;rename_i P a2;obtain⟨f,av⟩:=(k.h8.r _ (b3 I)).jP u;exact eh (c0 av (z G I (eh a2) a u) g m);rename_i P a2;obtain⟨f,av⟩:=(k.h8.r _ (b3 H)).jP m;exact c0 av (z i1 H (eh P) g m) a u;exact k.D8 i1 G H I W g a m u;intro d j d2 l9 g a m u;rcases Ck l9 with rfl|⟨o,c,ne,rfl⟩;obtain⟨f,av⟩:=(k.c4.r d j).jP m;exact c0 av (L d j g m) a u;exact k.Au d j _ (b3 c) g a m u;rcases Ck F with rfl|⟨o,c,ne,rfl⟩;exact j;exact lf (k.xo _ (b3 c)) S
theorem h0.uv(k:h0 B h q s M){a:Nat} p(F:a<s.cV.length){u:gK}(le:J.h6 q.a'[a].2 h aa)(D:iE (B.grow h aa) aa q.a'[a].1 q.a'[a].2 u):B.le (B.grow h aa)/\h0 (B.grow h aa) aa q {s with cV:=s.cV.set a u} M:=by
 have v:=k.gp.at_ a p F;obtain⟨A,hk⟩:=v.ty;have G:=EY s.cV[a].tag;have ne:∀{o:Nat}{C:Array aA}{t:Nat},h o=some (bb C t (0,0))->t<298->o≠q.a'[a].2:=λz H=>eN z hk I;have jM:=Ox k.le v.nN le;have l:∀{o:Nat}{x:Obj},B o=none->h o=some x->B.grow h aa o=none:=λh1 ae=>rK h1 (by rw[ae];nofun);have c4:=k.c4.h6 le (λg b=>by obtain⟨c,av⟩:=k.N8 b;exact ne av aH) (λd f g b=>by obtain⟨c,av⟩:=(k.c4.r d f).jP b;exact ne av aH);have m:=k.kr.h6 le (ne k.kr.box aH);have w:=k.h8.h6 le (ne k.h8.box aH) (λd f g b=>by obtain⟨c,av⟩:=(k.h8.r d f).jP b;exact ne av aH);refine⟨jM,⟨J.xr _ _,⟨c4.row,λg b=>?_,c4.r,λd f g b=>?_⟩,⟨m.box,l k.kr.hi k.kr.box,λd f=>⟨(m.r d f).1,(m.r d f).2.1,(m.r d f).2.2.mono jM⟩⟩,⟨w.box,l k.h8.hi k.h8.box,w.r,λd f g b=>?_⟩,⟨by rw[fI];exact k.gp.len,λi h1 ae=>?_,k.gp.dE⟩,k.Bs,k.inl,k.Aj,k.ob,k.D7,k.D8,k.Au,k.x3,k.xo,k.vB,k.zW⟩⟩;obtain⟨c,av⟩:=k.N8 b;exact l (k.c4.hi g b) av;obtain⟨c,av⟩:=(k.c4.r d f).jP b;exact l (k.c4.n d f g b) av;obtain⟨c,av⟩:=(k.h8.r d f).jP b;exact l (k.h8.n d f g b) av;have E:i<s.cV.length:=by rw[fI]at ae;exact ae
 by_cases e:i=a;subst e;simp only[List.getElem_set_self];exact D;simp only[List.getElem_set_ne (eh e)];have bi:=k.gp.at_ i h1 E;have an:=bi.some_;have y:q.a'[i].2≠q.a'[a].2:=λx=>e ((List.getElem_inj (xs:=q.a'.map dV) (i:=i) (j:=a) (h₀:=by simpa using h1) (h₁:=by simpa using p) k.gp.dE).1 (by simpa using x));refine bi.to jM ?_ (rK bi.nN an);cases da:h q.a'[i].2 with
 |none=>exact absurd da an
 |some U=>exact(le _ _ y da).symm
end
theorem pV(n:Nat) m h(p:n<=1000):Fn aD 138 #[R n,R m] h λr aa=>h.le aa/\wD h aa r (bp n m):=by
 refine bU ayo rfl (.jG (.ag (.mb [] (Nat×Option aE×Nat) [0,1,5,6] (λ(k,A,c)=>[.v (R n),.v (R m),.v (ab A k c),.v (R k)]) (λ_=>[]) (λ(k,A,c) aa=>h.le aa/\bw aa 3 1 A k c (bp k (R m))/\(∀g,A=some g->h g.block=none)/\k<=n) (λ(k,_,_)=>n-k) (0,none,0) (λ_=>rfl) ⟨J.le_refl _,⟨rfl,bQ ⟨rfl,rfl,rfl⟩⟩,nofun,cU _⟩ rfl rfl rfl (λ⟨k,A,c⟩ e aa⟨le,row,d,hk⟩=>.ag ?_))));have f:bp k (R m)++[R m]=bp (k+1) (R m):=List.replicate_succ'.symm;refine aW (λh1=>?_) (λh1=>?_);refine .ag (NJ row (aI:=[R m]) rfl (Gh [m]) aH rfl (by simp[maxLen];omega) I (λb U aK i=>?_) (λbo bj aK av=>?_));refine .bl ?_;rw[f]at i;exact .ag ⟨(k+1,A,c),rfl,rfl,⟨lK (d _ aK) le,i,d,I⟩,by show n- (k+1)<n-k;omega⟩;refine .bl (.b5 1 3 1 bo (k+1) bj _ rfl λae o a l=>?_);have a:bw ae 3 1 bo (k+1) bj (bp k (R m)++[R m]):=a;rw[f]at a;exact .ag ⟨(k+1,bo,bj),rfl,rfl,⟨J.le_trans le o,a,λg j=>J.none_le le (l g j),I⟩,by show n- (k+1)<n-k;omega⟩;obtain rfl:k=n:=by omega
 refine .ag ⟨le,A,c,by simp[kL],?_,d⟩;simpa using row
theorem Md{n a:Int}(aK:bg h 1 A 1 [[R n]])(h1:1<=n)(ae:n<=a):Fn aD 180 #[ab A 1 c,R a] h λr aa=>r=dh true/\aa=h:=by
 refine bU ayG rfl ?_;obtain⟨g,rfl⟩:=aK.b4 aH;have av:h.cell? (g.add 0)=some (R n):=aK.one rfl (i:=0) rfl rfl;refine .m g rfl (.hp _ av (aW (λ_=>?_) (λq=>absurd h1 q)));exact .m g rfl (.hp _ av (.ag ⟨by simp[kL,ae],rfl⟩))
theorem akQ{n m:Int}(aK:bg h 1 A 2 [[R n],[R m]])(h1:1<=n)(ae:n<=16)(d:1<=m)(aT:m<=64)(b:n*m<=64):Fn aD 181 #[ab A 2 c] h λr aa=>r=dh true/\aa=h:=by
 refine bU ayH rfl ?_;obtain⟨g,rfl⟩:=aK.b4 aH;have a:h.cell? (g.add 0)=some (R n):=aK.one rfl (i:=0) rfl rfl;have c1:h.cell? (g.add 1)=some (R m):=aK.one rfl (i:=1) rfl rfl;refine .m g rfl (.hp _ a (aW (λq=>absurd q I) (λ_=>.m g rfl (.hp _ a (aW (λq=>absurd q I) (λ_=>.m g rfl (.hp _ c1 (aW (λq=>absurd q I) (λ_=>.m g rfl (.hp _ c1 (aW (λq=>absurd q I) (λ_=>.m g rfl (.hp _ a (.m g rfl (.hp _ c1 ?_)))))))))))))));have am:0<=n*m:=Int.mul_nonneg I I;exact .bl (.ag ⟨by simp[kL,b],rfl⟩)
def Nz(tag:Int)(l:List Int)(s:List Int×List Int):Prop:=(tag=1/\1<=l.length/\l.length<=16/\s=([1],[1]))\/(tag=2/\∃n:Nat,1<=n/\n<=64/\l=[(n:Int)]/\s=([1],[(n:Int)]))\/(tag=3/\∃n:Nat,1<=n/\n<=64/\l=[(n:Int)]/\s=([(n:Int)],[1]))\/(tag=4/\∃n m:Nat,1<=n/\n<=16/\1<=m/\m<=64/\n*m<=64/\l=[(n:Int),(m:Int)]/\s=(bp n (m:Int),[((n*m:Nat):Int)]))\/(tag=5/\∃n m:Nat,1<=n/\n<=16/\1<=m/\m<=64/\n*m<=64/\l=[(n:Int),(m:Int)]/\s=([((n*m:Nat):Int)],bp n (m:Int)))\/(tag=6/\∃n:Nat,1<=n/\n<=16/\l=[(n:Int)]/\s=(bp n 1,[1]))\/(tag=7/\l=[]/\s=([1,1],[1]))\/(tag=8/\l=[]/\s=([1],[1]))\/(tag=9/\∃n:Nat,1<=n/\n<=16/\l=[(n:Int)]/\s=([1],bp n 1))\/(tag=10/\(∃a b,l=[a,b])/\s=([],[1]))\/(tag=11/\∃n:Nat,1<=n/\n<=64/\l=[(n:Int)]/\s=([(n:Int)],[]))
theorem aFi(h:(b6 tag l).1=0):Nz tag l (b6 tag l).2:=by
 have c:l.length=1->∃x,l=[x]:=λe=>List.length_eq_one_iff.1 e;have f:l.length=2->∃x y,l=[x,y]:=λe=>by
  rcases l with _|⟨x,_|⟨y,_|⟨z,l⟩⟩⟩;cases e;cases e;exact⟨x,y,rfl⟩;simp at e
 have i:l.length=0->l=[]:=λe=>R3.1 e;have nat:∀{n:Int}{k:Nat},(1<=n/\n<=k)->∃a:Nat,n=a/\1<=a/\a<=k:=λ{n k} h1=>⟨n.toNat,I,I,I⟩;unfold b6 at h⊢;dsimp only at h⊢;by_cases q:tag<1\/11<tag;rw[aS q]at h;cases h;rw[aC q]at h⊢;clear q;by_cases q:tag=1/\(1<=(l.length:Int)/\(l.length:Int)<=16)\/tag=8/\l.length=0;rw[aS q];rcases q with q|q;exact bQ ⟨q.1,I,I,rfl⟩;exact ba (ba (ba (ba (ba (ba (ba (bQ ⟨q.1,i q.2,rfl⟩)))))));rw[aC q]at h⊢;clear q;by_cases q:tag=2/\l.length=1/\(1<=l.getD 0 0/\l.getD 0 0<=64);rw[aS q];obtain⟨x,rfl⟩:=c q.2.1;obtain⟨a,rfl,h1,ae⟩:=nat (k:=64) (n:=x) q.2.2;exact ba (bQ ⟨q.1,a,h1,ae,rfl,rfl⟩);rw[aC q]at h⊢;clear q;by_cases q:tag=3/\l.length=1/\(1<=l.getD 0 0/\l.getD 0 0<=64);rw[aS q];obtain⟨x,rfl⟩:=c q.2.1;obtain⟨a,rfl,h1,ae⟩:=nat (k:=64) (n:=x) q.2.2;exact ba (ba (bQ ⟨q.1,a,h1,ae,rfl,rfl⟩));rw[aC q]at h⊢;clear q;by_cases q:tag=4/\l.length=2/\(1<=l.getD 0 0/\l.getD 0 0<=16)/\(1<=l.getD 1 0/\l.getD 1 0<=64)/\l.getD 0 0*l.getD 1 0<=64;rw[aS q];obtain⟨x,y,rfl⟩:=f q.2.1;obtain⟨a,rfl,h1,ae⟩:=nat (k:=16) (n:=x) q.2.2.1;obtain⟨b,rfl,d,aT⟩:=nat (k:=64) (n:=y) q.2.2.2.1;have g:(a:Int)*b<=64:=q.2.2.2.2;exact ba (ba (ba (bQ ⟨q.1,a,b,h1,ae,d,aT,by exact_mod_cast g,rfl,rfl⟩)));rw[aC q]at h⊢;clear q;by_cases q:tag=5/\l.length=2/\(1<=l.getD 0 0/\l.getD 0 0<=16)/\(1<=l.getD 1 0/\l.getD 1 0<=64)/\l.getD 0 0*l.getD 1 0<=64;rw[aS q];obtain⟨x,y,rfl⟩:=f q.2.1;obtain⟨a,rfl,h1,ae⟩:=nat (k:=16) (n:=x) q.2.2.1;obtain⟨b,rfl,d,aT⟩:=nat (k:=64) (n:=y) q.2.2.2.1;have g:(a:Int)*b<=64:=q.2.2.2.2;exact ba (ba (ba (ba (bQ ⟨q.1,a,b,h1,ae,d,aT,by exact_mod_cast g,rfl,rfl⟩))));rw[aC q]at h⊢;clear q;by_cases q:tag=6/\l.length=1/\(1<=l.getD 0 0/\l.getD 0 0<=16);rw[aS q];obtain⟨x,rfl⟩:=c q.2.1;obtain⟨a,rfl,h1,ae⟩:=nat (k:=16) (n:=x) q.2.2;exact ba (ba (ba (ba (ba (bQ ⟨q.1,a,h1,ae,rfl,rfl⟩)))));rw[aC q]at h⊢;clear q;by_cases q:tag=7/\l.length=0;rw[aS q];exact ba (ba (ba (ba (ba (ba (bQ ⟨q.1,i q.2,rfl⟩))))));rw[aC q]at h⊢;clear q;by_cases q:tag=9/\l.length=1/\(1<=l.getD 0 0/\l.getD 0 0<=16);rw[aS q];obtain⟨x,rfl⟩:=c q.2.1;obtain⟨a,rfl,h1,ae⟩:=nat (k:=16) (n:=x) q.2.2;exact ba (ba (ba (ba (ba (ba (ba (ba (bQ ⟨q.1,a,h1,ae,rfl,rfl⟩))))))));rw[aC q]at h⊢;clear q;by_cases q:tag=10/\l.length=2;rw[aS q];exact ba (ba (ba (ba (ba (ba (ba (ba (ba (bQ ⟨q.1,f q.2,rfl⟩)))))))));rw[aC q]at h⊢;clear q;by_cases q:tag=11/\l.length=1/\(1<=l.getD 0 0/\l.getD 0 0<=64);rw[aS q];obtain⟨x,rfl⟩:=c q.2.1;obtain⟨a,rfl,h1,ae⟩:=nat (k:=64) (n:=x) q.2.2;exact ba (ba (ba (ba (ba (ba (ba (ba (ba (ba ⟨q.1,a,h1,ae,rfl,rfl⟩)))))))));rw[aC q]at h;cases h
theorem asD(aK:bg h 1 A n (l.map λz=>[R z])){s:List Int×List Int}(f:Nz tag l s):Fn aD 137 #[bC .u8 tag,ab A n c] h λr aa=>r=dh true/\aa=h:=by
 have al:l.length=n:=by simpa using aK.len
 subst al;rcases f with⟨rfl,h1,ae,_⟩|⟨rfl,n,h1,ae,rfl,_⟩|⟨rfl,n,h1,ae,rfl,_⟩|⟨rfl,n,m,h1,ae,e,aT,d,rfl,_⟩|⟨rfl,n,m,h1,ae,e,aT,d,rfl,_⟩|⟨rfl,n,h1,ae,rfl,_⟩|⟨rfl,rfl,_⟩|⟨rfl,rfl,_⟩|⟨rfl,n,h1,ae,rfl,_⟩|⟨rfl,⟨a,b,rfl⟩,_⟩|⟨rfl,n,h1,ae,rfl,_⟩;refine bU yB rfl (aW (λ_=>?_) (λq=>absurd q I));exact .ag ⟨by simp[kL];omega,rfl⟩;exact bU yB rfl (.ag (.mk _ (Md aK I I) (λ_ _⟨rfl,rfl⟩=>.ag ⟨rfl,rfl⟩)));exact bU yB rfl (.ag (.mk _ (Md aK I I) (λ_ _⟨rfl,rfl⟩=>.ag ⟨rfl,rfl⟩)));exact bU yB rfl (.ag (.mk _ (akQ aK I I I I (by exact_mod_cast d)) (λ_ _⟨rfl,rfl⟩=>.ag ⟨rfl,rfl⟩)));exact bU yB rfl (.ag (.mk _ (akQ aK I I I I (by exact_mod_cast d)) (λ_ _⟨rfl,rfl⟩=>.ag ⟨rfl,rfl⟩)));exact bU yB rfl (.ag (.mk _ (Md aK I I) (λ_ _⟨rfl,rfl⟩=>.ag ⟨rfl,rfl⟩)));exact bU yB rfl (.ag ⟨rfl,rfl⟩);exact bU yB rfl (.ag ⟨rfl,rfl⟩);exact bU yB rfl (.ag (.mk _ (Md aK I I) (λ_ _⟨rfl,rfl⟩=>.ag ⟨rfl,rfl⟩)));exact bU yB rfl (.ag ⟨rfl,rfl⟩);exact bU yB rfl (.ag (.mk _ (Md aK I I) (λ_ _⟨rfl,rfl⟩=>.ag ⟨rfl,rfl⟩)))
theorem aCo(aK:bg h 1 A n (l.map λz=>[R z])){s:List Int×List Int}(f:Nz tag l s):Fn aD 87 #[bC .u8 tag,ab A n c] h (Kb h (0,s)):=by
 have p:=asD (c:=c) aK f;have al:l.length=n:=by simpa using aK.len
 subst al;have fin:∀{h1 ae:J}{a b:aA}{x y:List Int},h.le h1->wD h h1 a x->h1.le ae->wD h1 ae b y->Kb h (0,(x,y)) (eA #[a,b,R 0]) ae:=λ{h1 ae a b x y} d B j u=>by
  refine⟨a,b,rfl,J.le_trans d j,B.mono (J.le_refl _) j,u.mono d (J.le_refl _)⟩
 rcases f with⟨rfl,h1,ae,rfl⟩|⟨rfl,n,h1,ae,rfl,rfl⟩|⟨rfl,n,h1,ae,rfl,rfl⟩|⟨rfl,n,m,h1,ae,t,aT,v,rfl,rfl⟩|⟨rfl,n,m,h1,ae,t,aT,v,rfl,rfl⟩|⟨rfl,n,h1,ae,rfl,rfl⟩|⟨rfl,rfl,rfl⟩|⟨rfl,rfl,rfl⟩|⟨rfl,n,h1,ae,rfl,rfl⟩|⟨rfl,⟨a,b,rfl⟩,rfl⟩|⟨rfl,n,h1,ae,rfl,rfl⟩;refine bU yC rfl (.ag (.mk _ p ?_));rintro _ _ ⟨rfl,rfl⟩;refine .ag (.mk _ (pV 1 1 _ aH) ?_);rintro v1 g1 ⟨d,e⟩;refine .ag (.mk _ (pV 1 1 _ aH) ?_);rintro v2 g2 ⟨j,k⟩;exact .ag (fin d e j k);refine bU yC rfl ?_;obtain⟨g,rfl⟩:=aK.b4 bc;have o:h.cell? (g.add 0)=some (R n):=aK.one rfl (i:=0) rfl rfl;refine .ag (.mk _ p ?_);rintro _ _ ⟨rfl,rfl⟩;refine .m g rfl ?_ bc bc;refine .hp _ o (.mk _ (pV 1 1 _ aH) (λ_ _ q=>q.1) ?_);rintro v1 g1 ⟨d,e⟩;refine .mk _ (pV 1 n _ I) (λ_ _ q=>q.1) ?_;rintro v2 g2 ⟨j,k⟩;exact .ag (fin d e j k);refine bU yC rfl ?_;obtain⟨g,rfl⟩:=aK.b4 bc;have o:h.cell? (g.add 0)=some (R n):=aK.one rfl (i:=0) rfl rfl;refine .ag (.mk _ p ?_);rintro _ _ ⟨rfl,rfl⟩;refine .m g rfl ?_ bc bc;refine .hp _ o (.ag (.mk _ (pV 1 n _ I) ?_));rintro v1 g1 ⟨d,e⟩;refine .ag (.mk _ (pV 1 1 _ aH) ?_);rintro v2 g2 ⟨j,k⟩;exact .ag (fin d e j k);refine bU yC rfl ?_;obtain⟨g,rfl⟩:=aK.b4 bc;have o:h.cell? (g.add 0)=some (R n):=aK.one rfl (i:=0) rfl rfl;have c1:h.cell? (g.add 1)=some (R m):=aK.one rfl (i:=1) rfl rfl;have r:((n*m:Nat):Int)=(n:Int)*m:=by push_cast;rfl
 have w:(n:Int)*m<=64:=by rw[<-r];omega
 have C:0<=(n:Int)*m:=by rw[<-r];omega
 refine .ag (.mk _ p ?_);rintro _ _ ⟨rfl,rfl⟩;refine .m g rfl ?_ bc bc;refine .hp _ o ?_;refine .m g rfl ?_ bc bc;refine .hp _ c1 (.m g rfl ?_ bc bc);refine .hp _ o (.m g rfl ?_ bc bc);refine .hp _ c1 (.bl (.mk _ (pV n m _ I) (λ_ _ q=>q.1) (λv1 g1⟨d,e⟩=>.mk _ (pV 1 (n*m) _ aH) (λ_ _ q=>q.1) (λv2 g2⟨j,k⟩=>?_))));rw[r];exact .ag (fin d e j k);refine bU yC rfl ?_;obtain⟨g,rfl⟩:=aK.b4 bc;have o:h.cell? (g.add 0)=some (R n):=aK.one rfl (i:=0) rfl rfl;have c1:h.cell? (g.add 1)=some (R m):=aK.one rfl (i:=1) rfl rfl;have r:((n*m:Nat):Int)=(n:Int)*m:=by push_cast;rfl
 have w:(n:Int)*m<=64:=by rw[<-r];omega
 have C:0<=(n:Int)*m:=by rw[<-r];omega
 refine .ag (.mk _ p ?_);rintro _ _ ⟨rfl,rfl⟩;refine .m g rfl ?_ bc bc;refine .hp _ o ?_;refine .m g rfl ?_ bc bc;refine .hp _ c1 (.bl (.m g rfl ?_ bc bc));refine .hp _ o (.m g rfl ?_ bc bc);refine .hp _ c1 (.mk _ (pV 1 (n*m) _ aH) (λ_ _ q=>q.1) (λv1 g1⟨d,e⟩=>.mk _ (pV n m _ I) (λ_ _ q=>q.1) (λv2 g2⟨j,k⟩=>?_)));rw[r];exact .ag (fin d e j k);refine bU yC rfl ?_;obtain⟨g,rfl⟩:=aK.b4 bc;have o:h.cell? (g.add 0)=some (R n):=aK.one rfl (i:=0) rfl rfl;refine .ag (.mk _ p ?_);rintro _ _ ⟨rfl,rfl⟩;refine .m g rfl ?_ bc bc;refine .hp _ o (.ag (.mk _ (pV n 1 _ I) ?_));rintro v1 g1 ⟨d,e⟩;refine .ag (.mk _ (pV 1 1 _ aH) ?_);rintro v2 g2 ⟨j,k⟩;exact .ag (fin d e j k);refine bU yC rfl (.ag (.mk _ p ?_));rintro _ _ ⟨rfl,rfl⟩;refine .ag (.mk _ (pV 2 1 _ aH) ?_);rintro v1 g1 ⟨d,e⟩;refine .ag (.mk _ (pV 1 1 _ aH) ?_);rintro v2 g2 ⟨j,k⟩;exact .ag (fin d e j k);refine bU yC rfl (.ag (.mk _ p ?_));rintro _ _ ⟨rfl,rfl⟩;refine .ag (.mk _ (pV 1 1 _ aH) ?_);rintro v1 g1 ⟨d,e⟩;refine .ag (.mk _ (pV 1 1 _ aH) ?_);rintro v2 g2 ⟨j,k⟩;exact .ag (fin d e j k);refine bU yC rfl ?_;obtain⟨g,rfl⟩:=aK.b4 bc;have o:h.cell? (g.add 0)=some (R n):=aK.one rfl (i:=0) rfl rfl;refine .ag (.mk _ p ?_);rintro _ _ ⟨rfl,rfl⟩;refine .m g rfl ?_ bc bc;refine .hp _ o (.mk _ (pV 1 1 _ aH) (λ_ _ q=>q.1) ?_);rintro v1 g1 ⟨d,e⟩;refine .mk _ (pV n 1 _ I) (λ_ _ q=>q.1) ?_;rintro v2 g2 ⟨j,k⟩;exact .ag (fin d e j k);refine bU yC rfl (.ag (.mk _ p ?_));rintro _ _ ⟨rfl,rfl⟩;refine .ag (.mk _ (pV 1 1 _ aH) ?_);rintro v1 g1 ⟨d,e⟩;exact .ag (fin (J.le_refl _) (.nil _ _) d e);refine bU yC rfl ?_;obtain⟨g,rfl⟩:=aK.b4 bc;have o:h.cell? (g.add 0)=some (R n):=aK.one rfl (i:=0) rfl rfl;refine .ag (.mk _ p ?_);rintro _ _ ⟨rfl,rfl⟩;refine .m g rfl ?_ bc bc;refine .hp _ o (.ag (.mk _ (pV 1 n _ I) ?_));rintro v1 g1 ⟨d,e⟩;exact .ag (fin d e (J.le_refl _) (.nil _ _))
theorem avP(e:iV g=0)(S:oF (ph g) v rs ops c5)(c:rs=eo g v)(d:v<g.aY.length) p q:(p,q)∈xg g v↔c5[p]?=some q:=by
 rw[S.mem,Ph e];refine⟨λh=>⟨?_,h⟩,λh=>h.2⟩;have h:=(Ph e v p q).2 h;have b:=ts e;subst c;rcases eI.1 h with h|h<;>obtain⟨k,x,h1,ae,a,aT⟩:=Ax h;have:=b.Ir x (xO h1);have ae:x.act=v:=ae;have a:p=x.port.toNat:=a;rw[ae]at this;omega;have:=(b.nD x (xO h1)).2.1;have ae:x.dst=v:=ae;have a:p=x.hF.toNat:=a;rw[ae]at this;omega
theorem aCS(e:iV g=0)(S:oF (u0 g) v rs ops c5)(c:rs=jp g v)(d:v<g.aY.length) p q:(p,q)∈DV g v↔c5[p]?=some q:=by
 rw[S.mem,Qp e];refine⟨λh=>⟨?_,h⟩,λh=>h.2⟩;have h:=(Qp e v p q).2 h;have b:=ts e;subst c;rcases eI.1 h with h|h<;>obtain⟨k,x,h1,ae,a,aT⟩:=Ax h;have:=(b.nD x (xO h1)).1;have ae:x.src=v:=ae;have a:p=x.sp.toNat:=a;rw[ae]at this;omega;have:=b.I6 x (xO h1);have ae:x.act=v:=ae;have a:p=x.port.toNat:=a;rw[ae]at this;omega
theorem Q3(f:zi->gX×α)(a:∀x,(f x).1=x.2){cq:List zi}(h:(cq.map dV).Nodup):((cq.map f).map hE).Nodup:=by
 rw[ig,show hE∘f=dV from funext a];exact h
theorem aku(e:iV g=0)(J:v<g.aY.length)(S:oF (ph g) v (eo g v) Gm c5)(K:∀x∈gk g v c5,x.1.1=3->¬short s x.1 x.2):((∃x∈gk g v c5,short s x.1 x.2)->uF v (eo g v) 0 g.ins (s,bp (eo g v).length [])=none)/\(¬(∃x∈gk g v c5,short s x.1 x.2)->∃a,uF v (eo g v) 0 g.ins (s,bp (eo g v).length [])=some a/\rE v (eo g v) 0 g.aP a=(lT (gk g v c5) s,(gk g v c5).map λx=>(tape s x.1).cut x.2)):=by
 obtain⟨F,L⟩:=Q1 e S;have d:=avP e S rfl J;have l:=avQ g v;have i:∀x∈xg g v,mz g x.2:=λx c=>F _ (JU.2 ⟨x.1,(d x.1 x.2).1 c⟩);have N:∀x∈gk g v c5,mz g x.1:=λx c=>F _ (CF c).1;have G:((gk g v c5).map hE).Nodup:=by rw[V' S];exact L
 have f:∀(q:gX)(n:Nat),(q,n)∈gk g v c5↔∃p,(p,q)∈xg g v/\n=gH (eo g v) p:=λq n=>by
  unfold gk;rw[GR];constructor;rintro⟨p,a,b⟩;refine⟨p,(d p q).2 a,?_⟩;have b:((eo g v).map CD)[p]?=some n:=b;rw[de]at b;unfold gH;rw[cc];cases D:(eo g v)[p]?with
  |none=>rw[D]at b;cases b
  |some r=>rw[D]at b;injection b with b;rw[<-b];rfl
  rintro⟨p,a,b⟩;have E:=(d p q).1 a;refine⟨p,E,?_⟩;have hp:p<(eo g v).length:=by rw[<-S.len];exact PS E
  show((eo g v).map CD)[p]?=some n;rw[b,de,bK hp];unfold gH;rw[cc,bK hp];rfl
 have perm:((xg g v).map λx=>(x.2,gH (eo g v) x.1)).Perm (gk g v c5):=by
  refine aix (P6 (Q3 _ (λ_=>rfl) l)) (P6 G) λx=>?_;rw[cO,show x=(x.1,x.2)from rfl,f];constructor;rintro⟨⟨p,q⟩,h1,ae⟩;obtain⟨ae,aT⟩:=ry ae;exact⟨p,by rw[<-ae];exact h1,aT.symm⟩;rintro⟨p,h1,ae⟩;exact⟨(p,x.1),h1,by rw[ae]⟩
 have C:(∃x∈gk g v c5,short s x.1 x.2)↔∃x∈ka qz 4 v 0 g.ins,short s x.2 (gH (eo g v) x.1):=by
  constructor;rintro⟨⟨q,n⟩,c,h⟩;obtain⟨p,h1,ae⟩:=(f q n).1 c;rcases eI.1 h1 with B|B;exact⟨_,B,by rw[ae]at h;exact h⟩;exact absurd h (K _ c (tY _ _ _ _ _ _ B));rintro⟨⟨p,q⟩,c,h⟩;exact⟨(q,gH (eo g v) p),(f _ _).2 ⟨p,wz _ c,rfl⟩,h⟩
 have k:∀x∈ka qz 4 v 0 g.ins,mz g x.2:=λx c=>i x (wz _ c);have my:∀x∈ka Br 3 v 0 g.aP,mz g x.2:=λx c=>i x (xN _ c);obtain⟨w,A⟩:=Vo v (eo g v) g.ins 0 (s,bp (eo g v).length []) k;refine⟨λan=>w (C.1 an),λan=>⟨_,A λh=>an (C.2 h),?_⟩⟩;have H:((ka qz 4 v 0 g.ins).map dV).Nodup:=Ec ..;have o:∀x∈ka Br 3 v 0 g.aP,x.2∉(ka qz 4 v 0 g.ins).map dV:=λx c h=>by
  obtain⟨y,t,q⟩:=cO.1 h;have a:=tY _ _ _ _ _ _ c;have b:=tY _ _ _ _ _ _ t;rw[q]at b;omega
 have u:rE v (eo g v) 0 g.aP (Da (eo g v) (ka qz 4 v 0 g.ins) (s,bp (eo g v).length []))=Da (eo g v) (xg g v) (s,bp (eo g v).length []):=by
  rw[Tf v (eo g v) g.aP 0 _ my λx c h=>?_];unfold xg Da;rw[R0];rw[S9 _ _ _ k H]at h;have M:=akw ((ka qz 4 v 0 g.ins).map λx=>(x.2,gH (eo g v) x.1)) s x.2 (λy t=>by obtain⟨z,m,rfl⟩:=cO.1 t;exact k z m) (my x c) (by rw[ig];exact o x c);unfold short at h;rw[M]at h;exact an ⟨(x.2,gH (eo g v) x.1),(f _ _).2 ⟨x.1,xN _ c,rfl⟩,h⟩
 rw[u,S9 _ _ _ i l,aGu perm s (λx c=>by obtain⟨z,m,rfl⟩:=cO.1 c;exact i z m) (Q3 _ (λ_=>rfl) l)];have I:(xg g v).foldl (λr x=>r.set x.1 ((tape s x.2).cut (gH (eo g v) x.1))) (bp (eo g v).length [])=(gk g v c5).map λx=>(tape s x.1).cut x.2:=by
  apply RY;intro p;by_cases hp:p<(eo g v).length;have j:p<c5.length:=by rw[S.len];exact hp
  have hm:=(d p c5[p]).2 (bK j);rw[acS (λx=>(tape s x.2).cut (gH (eo g v) x.1)) p c5[p] _ _ (λda h=>by
   have:=(d p da).1 h;rw[bK j]at this;exact(wF this).symm) hm (by rw[uc];exact hp)]
  have he:(gk g v c5)[p]?=some (c5[p],gH (eo g v) p):=by
   unfold gk gH;exact amB.2 ⟨bK j,by rw[de,cc,bK hp];rfl⟩
  rw[de,he];rfl;rw[l2 (by rw[acP,uc];omega),l2 (by unfold gk;rw[fj,Zo,fj];omega)]
 rw[I]
theorem agQ(S:oF (ph g) v (eo g v) Gm c5)(d:∀r∈eo g v,1<=r/\r<=64)(bA:∀x∈gk g v c5,¬short s x.1 x.2):((gk g v c5).map λx=>(tape s x.1).cut x.2).map (λl=>(l.length:Int))=eo g v:=by
 have a:(gk g v c5).map (λx=>(x.2:Int))=eo g v:=by
  have:(gk g v c5).map (λx=>(x.2:Int))=((gk g v c5).map dV).map λn:Nat=>(n:Int):=by rw[ig];rfl
  rw[this,gk,Zp (by rw[S.len,fj];exact dM _),ig];refine(ny λr c=>?_).trans (amI _);have:=d r c;show((r.toNat:Nat):Int)=r;omega
 rw[<-a,ig];refine ny λx b=>?_;have:=bA x b;unfold short at this;show(((tape s x.1).cut x.2).length:Int)=x.2;unfold iy.cut;rw[mV,mU];omega
theorem arL(e:iV g=0)(m:v<g.aY.length)(bv:la (C+1) (s.cV.getD v gl))(u:(s.cV.getD v gl).ins=eo g v)(G:(s.cV.getD v gl).outs=jp g v){j:List cm}(S:oF (ph g) v (eo g v) Gm c5)(T:oF (u0 g) v (jp g v) j i')(B:∀x∈gk g v c5,x.1.1=3->¬short s x.1 x.2):(nF g v s).2=(tp s v (gk g v c5) i').2/\(nF g v s).1.outs=(tp s v (gk g v c5) i').1.outs/\((nF g v s).2=0->(nF g v s).1=(tp s v (gk g v c5) i').1):=by
 obtain⟨D,E⟩:=XT e T;have l:=aCS e T rfl m;have d:=aCT g v;have k:∀x∈DV g v,okO g x.2:=λx c=>D _ (JU.2 ⟨x.1,(l x.1 x.2).1 c⟩);obtain⟨t1,t2⟩:=aku e m S B;unfold nF tp;by_cases an:∃x∈gk g v c5,short s x.1 x.2;rw[aS an,t1 an];exact⟨rfl,rfl,λ_=>rfl⟩;obtain⟨a,y,A⟩:=t2 an;rw[aC an,y];dsimp only;rw[A];have o:=MN (gk g v c5) s;dsimp only;rw[o.1];have bA:∀x∈gk g v c5,¬short s x.1 x.2:=λx c h=>an ⟨x,c,h⟩;have t:=bv.oT;rw[u]at t;have i:=agQ S t bA;generalize H:((gk g v c5).map λx=>(tape s x.1).cut x.2)=rws at i;rw[<-u]at i;have f:=(HV bv rws.flatten (by rw[ML,i])).2.2;rw[Kx rws _ i,G]at f;generalize nc (s.cV.getD v gl) rws=F at f;obtain⟨r,n⟩:=F;cases r with
 |none=>exact⟨rfl,o.2,λh=>by cases h⟩
 |some b=>
  have f:=f b rfl;dsimp only;have jM:b.length=(jp g v).length:=by rw[<-f,fj]
  have:xu v b 0 g.outs (nT v b 0 g.aP {lT (gk g v c5) s with cV:=s.cV.set v n})=nH (i'.zip b) {lT (gk g v c5) s with cV:=s.cV.set v n}:=by
   rw[Xf,Xe,<-ada,<-fw];show nH ((DV g v).map _) _=_;refine asC (aix (P6 (Q3 _ (λ_=>rfl) d)) (P6 (by rw[R6 (by rw[T.len,jM];exact dM _)];exact E)) λx=>?_) _ (λx c=>by obtain⟨z,w,rfl⟩:=cO.1 c;exact k z w) (Q3 _ (λ_=>rfl) d);rw[cO,GR];constructor;rintro⟨⟨p,q⟩,h1,ae⟩;have aT:=(l p q).1 h1;have hp:p<b.length:=by rw[jM,<-T.len];exact PS aT
   refine⟨p,by rw[<-ae];exact aT,by rw[<-ae,bK hp];simp[cc,hp]⟩;rintro⟨p,h1,ae⟩;exact⟨(p,x.1),(l p x.1).2 h1,by rw[cc,ae];rfl⟩
  rw[this];exact⟨rfl,rfl,λ_=>rfl⟩
def q7(g:dd):List Int->fq->fq×Nat
 |[],s=>(s,0)
 |v::l,s=>if(nF g v.toNat s).2=0 then q7 g l (nF g v.toNat s).1 else nF g v.toNat s
def qA(g:dd)(l:List Int):Nat->fq->fq×Nat
 |0,s=>(s,0)
 |n+1,s=>if(q7 g l s).2=0 then qA g l n (q7 g l s).1 else q7 g l s
def al5(g:dd)(v:Nat)(s:fq):Prop:=v<g.aY.length/\(∃C,la (C+1) (s.cV.getD v gl))/\(s.cV.getD v gl).ins=eo g v/\(s.cV.getD v gl).outs=jp g v/\s.cV.length=g.aY.length/\∃ops c5,oF (ph g) v (eo g v) ops c5/\∀x∈gk g v c5,x.1.1=3->¬short s x.1 x.2
def Ka(g:dd):List Int->fq->Prop
 |[],_=>True
 |v::l,s=>0<=v/\al5 g v.toNat s/\((nF g v.toNat s).2=0->Ka g l (nF g v.toNat s).1)
def Hh(g:dd)(l:List Int):Nat->fq->Prop
 |0,_=>True
 |n+1,s=>Ka g l s/\((q7 g l s).2=0->Hh g l n (q7 g l s).1)
structure Sync(g:dd)(bm:List dv)(c:fK)(s:fq)(C:Nat)(f:List Int):Prop where
 inv:Inv g bm c s
 hand:c.hand=[]
 cb:s.cV.length=g.aY.length
 k3:∀v:Nat,v<g.aY.length->la C (s.cV.getD v gl)/\(s.cV.getD v gl).ins=eo g v/\(s.cV.getD v gl).outs=jp g v
 nv:∀v:Nat,v<g.aY.length->c.ir.getD v 0=hz (eo g v)
 br:G0 g f s
section
variable {g:dd}(e:iV g=0){bm:List dv}(an:fF g.aY.length (dJ g)=0){rows:List (List Int)}{dB:List Int}(fin:Fin rows g.aP.length dB bm)(oR:J7 rows g.aP.length dB)
include e an fin oR
theorem akf{c:fK}(y:Sync g bm c s (C+1) f)(r:f.length=g.aY.length)(hm:may g.aY.length (dJ g) f v=true)(n:dP (dJ g) (bump f v)∈rows):(gr ((gU g).getD v []) c).2=(nF g v s).2/\((gr ((gU g).getD v []) c).2≠0->(gr ((gU g).getD v []) c).1.wr=(nF g v s).1.outs)/\((gr ((gU g).getD v []) c).2=0->Sync g bm (gr ((gU g).getD v []) c).1 (nF g v s).1 C (bump f v)):=by
 have a:v<g.aY.length:=(L4.1 hm).1;obtain⟨c5,i',S,T⟩:=acA e a;obtain⟨i,j,l⟩:=y.k3 v a;obtain⟨d,m,o⟩:=arM e y.inv y.hand a y.cb i j l (y.nv v a) r an y.br hm fin oR n S T;obtain⟨k,p,q⟩:=arL e a i j l S T (Wy e an S y.br hm);refine⟨d.trans k.symm,λh=>(m h).trans p.symm,λh=>?_⟩;obtain⟨i1,i2,i3,i4,b,i5,i6,i7,i8⟩:=o h;have t:=q (by rw[k,<-d];exact h);rw[t];refine⟨i1,i2,by rw[i8,fI];exact y.cb,λu hu=>?_,λu hu=>by rw[i3];exact y.nv u hu,i4⟩;rw[i8,uw];split;rename_i h;rw[<-h.1];exact⟨i5,i6,i7⟩;obtain⟨c1,c2⟩:=y.k3 u hu;exact⟨c1.less,c2⟩
theorem X6:∀az f c s C,Sync g bm c s (C+az.length) f->f.length=g.aY.length->(fU g.aY.length (dJ g) az f).1=0->(∀r∈(fU g.aY.length (dJ g) az f).2,r∈rows)->(iO (gU g) az c).2=(q7 g az s).2/\((iO (gU g) az c).2≠0->(iO (gU g) az c).1.wr=(q7 g az s).1.outs)/\((iO (gU g) az c).2=0->Sync g bm (iO (gU g) az c).1 (q7 g az s).1 C (az.foldl (λf v=>bump f v.toNat) f))
 |[],f,c,s,C,y,_,_,_=>⟨rfl,λh=>absurd rfl h,λ_=>y⟩
 |v::az,f,c,s,C,y,i,a,b=>by
  rw[fU]at a b;split at a;cases a;rename_i k;rw[aC k]at b;split at a;rename_i hm;rw[aS hm]at b;have m:((v.toNat:Nat):Int)=v:=I;obtain⟨d,j,l⟩:=akf e an fin oR (v:=v.toNat) y i (by rw[m];exact hm) (b _ (hq ..));rw[iO,q7,<-d];by_cases h:(gr ((gU g).getD v.toNat []) c).2=0;rw[aS h,aS h];exact X6 az (bump f v.toNat) _ _ C (l h) (by unfold bump;rw[fI];exact i) a λr n=>b r (gd _ n);rw[aC h,aC h];exact⟨d,λ_=>j h,λaa=>absurd aa h⟩;cases a
theorem akg:∀az f c s C,Sync g bm c s (C+az.length) f->f.length=g.aY.length->(fU g.aY.length (dJ g) az f).1=0->(∀r∈(fU g.aY.length (dJ g) az f).2,r∈rows)->Ka g az s
 |[],_,_,_,_,_,_,_,_=>trivial
 |v::az,f,c,s,C,y,j,a,b=>by
  rw[fU]at a b;split at a;cases a;rename_i l;rw[aC l]at b;split at a;rename_i hm;rw[aS hm]at b;have q:((v.toNat:Nat):Int)=v:=I;have i:may g.aY.length (dJ g) f (v.toNat:Nat)=true:=by rw[q];exact hm
  obtain⟨k,u,n⟩:=akf e an fin oR (v:=v.toNat) y j i (b _ (hq ..));have d:=(L4.1 i).1;obtain⟨c5,i',S,_⟩:=acA e d;obtain⟨m,o,p⟩:=y.k3 _ d;exact⟨I,⟨d,⟨_,m⟩,o,p,y.cb,_,c5,S,Wy e an S y.br i⟩,λh=>akg az (bump f v.toNat) _ _ C (n (k.trans h)) (by unfold bump;rw[fI];exact j) a λr t=>b r (gd _ t)⟩;cases a
omit e an fin oR in
theorem ajd:∀(az f:List Int),(fU g.aY.length (dJ g) az f).1=0->(dP (dJ g) f::(fU g.aY.length (dJ g) az f).2).getLastD []=dP (dJ g) (az.foldl (λf v=>bump f v.toNat) f)
 |[],f,_=>rfl
 |v::az,f,a=>by
  rw[fU]at a⊢;split at a;cases a;rename_i b;rw[aC b];split at a;rename_i hm;rw[aS hm];exact ajd az _ a;cases a
omit e an fin oR in
theorem aa6{b:List Int}(h:dP (dJ g) f=dP (dJ g) b)(c:G0 g f s):G0 g b s:=λi a=>by
 rw[c i a];have:=eu (λl:List Int=>l[i]?) h;simp only[dP,dJ,de,bK a,si,Sf]at this;exact this
theorem akh{az f:List Int}(j:f.length=g.aY.length)(d:(fU g.aY.length (dJ g) az f).1=0)(i:∀r∈(fU g.aY.length (dJ g) az f).2,r∈rows)(home:dP (dJ g) (az.foldl (λf v=>bump f v.toNat) f)=dP (dJ g) f):∀n c s,Sync g bm c s (n*az.length) f->(v7 (gU g) az n c).2=(qA g az n s).2/\(v7 (gU g) az n c).1.wr=(qA g az n s).1.outs
 |0,c,s,y=>⟨rfl,y.inv.wr⟩
 |n+1,c,s,y=>by
  have k:Sync g bm c s (n*az.length+az.length) f:=by rw[CI,anb]at y;exact y
  obtain⟨a,l,m⟩:=X6 e an fin oR az f c s (n*az.length) k j d i;rw[v7,qA];by_cases h:(iO (gU g) az c).2=0;have b:=m h;have hp:re (gU g) az c=iO (gU g) az c:=by
   unfold re;rw[aC (λx=>x.2 b.hand)]
  rw[hp,aS h,aS (a.symm.trans h)];exact akh j d i home n _ _ {b with br:=aa6 home b.br};have hp:re (gU g) az c=iO (gU g) az c:=by
   unfold re;rw[aC (λx=>h x.1)]
  rw[hp,aC h,aC λx=>h (a.trans x)];exact⟨a,l h⟩
theorem aiw{az f:List Int}(d:f.length=g.aY.length)(a:(fU g.aY.length (dJ g) az f).1=0)(b:∀r∈(fU g.aY.length (dJ g) az f).2,r∈rows)(home:dP (dJ g) (az.foldl (λf v=>bump f v.toNat) f)=dP (dJ g) f):∀n c s,Sync g bm c s (n*az.length) f->Hh g az n s
 |0,_,_,_=>trivial
 |n+1,c,s,y=>by
  have i:Sync g bm c s (n*az.length+az.length) f:=by rw[CI,anb]at y;exact y
  obtain⟨k,m,l⟩:=X6 e an fin oR az f c s (n*az.length) i d a b;refine⟨akg e an fin oR az f c s (n*az.length) i d a b,λh=>?_⟩;have j:=l (k.trans h);exact aiw d a b home n _ _ {j with br:=aa6 home j.br}
end
theorem aAp{o:Nat}(d:b+l.length<=mem.length)(a:o<l.length):(sP mem b l).getD (b+o) 0=l.getD o 0:=by
 have c:(mem.take b).length=b:=by rw[mV];omega
 rw[sP,mg,cc,cc,G6 I,c,CJ,G5 a]
theorem aAq(d:b+l.length<=mem.length)(av:c<b\/b+l.length<=c):(sP mem b l).getD c 0=mem.getD c 0:=by
 have a:(mem.take b).length=b:=by rw[mV];omega
 rw[sP,mg,cc,cc];rcases av with h|h;rw[G5 I,amz h];rw[G6 I,a,G6 I,List.getElem?_drop];congr 2;omega
theorem ag4:∀(l:List ho)(m:List Int) T,m.length=T->(∀x∈l,0<=x.base/\x.base+x.st.length<=T)->∀c:Nat,(∀x∈l,c<x.base\/x.base+x.st.length<=c)->(r1 l m).getD c 0=m.getD c 0
 |[],_,_,_,_,_,_=>rfl
 |x::l,m,T,hm,e,c,av=>by
  have b:=e x (hq ..);have d:=av x (hq ..);rw[r1,ag4 l _ T (by rw[PA I];exact hm) (λy a=>e y (gd _ a)) c λy a=>av y (gd _ a)];exact aAq I I
def RF(x y:ho):Prop:=x.st=[]\/y.st=[]\/x.base+x.st.length<=y.base\/y.base+y.st.length<=x.base
theorem ag3:∀(l:List ho)(m:List Int) T,m.length=T->(∀x∈l,0<=x.base/\x.base+x.st.length<=T)->l.Pairwise RF->∀x∈l,∀o,o<x.st.length->(r1 l m).getD (x.base.toNat+o) 0=x.st.getD o 0
 |[],_,_,_,_,_,_,h,_,_=>by cases h
 |x::l,m,T,hm,d,hp,y,e,o,c=>by
  obtain⟨f,g⟩:=List.pairwise_cons.1 hp;have b:=d x (hq ..);have al:(sP m x.base.toNat x.st).length=T:=by rw[PA I];exact hm
  rw[r1];rcases ez.1 e with rfl|e;rw[ag4 l _ T al (λz a=>d z (gd _ a)) _ λz a=>?_];exact aAp I c;have:=d z (gd _ a);rcases f z a with q|q|q|q;rw[q]at c;cases c;rw[q];show _\/z.base+(0:Nat)<=_;omega;omega;omega;exact ag3 l _ T al (λz a=>d z (gd _ a)) g y e o c
def te(a:hh):gK:=⟨a.tag.toNat,a.a8,yQ a.tag.toNat a.a8,0,(b6 a.tag a.a8).2.1,(b6 a.tag a.a8).2.2⟩
def Al(g:dd)(F:List (List Int)):fq:=⟨g.aP.map λx=>⟨x.st,0⟩,(fJ g.ins.length).map λi=>⟨F.getD i [],0⟩,bp g.outs.length [],g.aY.map te⟩
theorem art(F:List (List Int)){i:Nat}(a:i<n):(F.take n++bp (n-F.length) []).getD i []=F.getD i []:=by
 rw[cc,cc];by_cases h:i<F.length;rw[G5 (by rw[mV];omega),amz a];rw[G6 (by rw[mV];omega),l2 (Zv h),A3];split<;>rfl
theorem aFM(e:iV g=0)(K:∀x∈g.aP,x.st.length=x.n){T:Int}{f:e3}{p:jC}(md:Nq g bm T f p)(F:List (List Int)){rows:List (List Int)}{dB:List Int}(fin:Fin rows g.aP.length dB bm)(oR:J7 rows g.aP.length dB)(H:dP (dJ g) (bp g.aY.length 0)∈rows)(G:∀i,i<g.aP.length->(iq bm i).1+(iq bm i).2<=T)(hC:C<=100000000):Sync g bm (core {iP p with cZ:=F.take p.ins.toNat++bp (p.ins.toNat-F.length) []}) (Al g F) C (bp g.aY.length 0):=by
 obtain⟨m1,m2,m3,m4,m5,m6,m7⟩:=md;have Q:=ts e;have R:p.lines.length=g.aP.length:=by
  have:=eu fv m6;rw[fj,List.length_zipWith,fin.len,Nat.min_self]at this;exact this
 have r:∀i(d:i<g.aP.length),(p.lines[i]'I).base=(iq bm i).1/\(p.lines[i]'I).size=(iq bm i).2/\(p.lines[i]'I).st=g.aP[i].st:=λi d=>by
  have E:i<bm.length:=by rw[fin.len];exact d
  have h:=eu (λl=>l[i]?) m6;simp only[de,amA,bK d,bK E,bK (by omega:i<p.lines.length),si,Sf,Hk]at h;unfold iq;rw[cc,bK E];exact h
 have t:∀i(d:i<g.aP.length),(dP (dJ g) (bp g.aY.length 0)).getD i 0=(g.aP[i].st.length:Int):=λi d=>by
  have z:∀k,(bp g.aY.length (0:Int)).getD k 0=0:=λk=>by
   rw[cc,A3];split<;>rfl
  rw[K _ (b3 d)];unfold dP dJ;rw[cc,de,de,bK d];show(g.aP[i].n:Int)+_*(bp g.aY.length (0:Int)).getD _ 0-_*(bp g.aY.length (0:Int)).getD _ 0=_;rw[z,z];omega
 have fit:∀i(d:i<g.aP.length),(g.aP[i].st.length:Int)<=(iq bm i).2:=λi d=>by
  rw[<-t i d,fin.size i d];exact oR.up i d _ H
 have D:∀x∈p.lines,0<=x.base/\x.base+x.st.length<=p.mem.toNat:=λx M=>by
  obtain⟨i,d,rfl⟩:=n4 M;have m:i<g.aP.length:=I;obtain⟨a,b,c⟩:=r i m;rw[a,c];have:=fit i m;have:=fin.base i m;have:=G i m;omega
 have U:p.lines.Pairwise RF:=by
  rw[Nm];intro i o d y Z;have m:i<g.aP.length:=I;have s:o<g.aP.length:=I;obtain⟨a,b,c⟩:=r i m;obtain⟨P,Y,bj⟩:=r o s;unfold RF;rw[a,c,P,bj];by_cases q:g.aP[i].st=[];exact bQ q;by_cases da:g.aP[o].st=[];exact ba (bQ da);have X:=amG.2 q;have W:=amG.2 da;have J:xm rows i o=true:=RU.2 ⟨_,H,by simp only[pq,t i m,t o s,iv,vx];omega⟩;have ap:=fin.apart i m o s ((aa1 m s I).2 J);rw[GY,ne_eq,GC]at ap;have:=fit i m;have:=fit o s;right;right;omega
 have u:(r1 p.lines (bp p.mem.toNat 0)).length=p.mem.toNat:=PX _ _ _ bc D;have pl:p.parts.length=g.aY.length:=by
  have:=eu fv m5;rwa[fj,fj]at this
 have cV:p.parts.map Bi=g.aY.map te:=by
  have h1:p.parts.map Bi=(p.parts.map λx=>(x.tag,x.a8)).map λx=>te ⟨aIp,x.1,none,0,0,x.2⟩:=by rw[ig];rfl
  rw[h1,m5,ig];rfl
 have A:∀v:Nat,(j:v<g.aY.length)->(g.aY.map te).getD v gl=te g.aY[v]:=λv j=>by
  rw[cc,de,bK j];rfl
 have B:∀v:Nat,(j:v<g.aY.length)->eo g v=(b6 g.aY[v].tag g.aY[v].a8).2.1/\jp g v=(b6 g.aY[v].tag g.aY[v].a8).2.2:=λv j=>by
  simp[eo,jp,bK j]
 refine⟨⟨?_,?_,λi d=>?_,λi d=>?_,?_,?_,λi d=>?_,?_,?_,?_⟩,rfl,?_,λv j=>?_,λv j=>?_,λi d=>?_⟩;show(p.lines.map _).length=_;rw[fj];exact R;show(g.aP.map _).length=_;rw[fj];obtain⟨a,b,c⟩:=r i d;have L:(p.lines.map λx=>(⟨x.base,x.size,0,x.st.length⟩:lb)).getD i jN=⟨(iq bm i).1,(iq bm i).2,0,g.aP[i].st.length⟩:=by
  rw[cc,de,bK (by omega:i<p.lines.length),<-a,<-b,<-c];rfl
 have w:(g.aP.map λx=>(⟨x.st,0⟩:iy)).getD i fR=⟨g.aP[i].st,0⟩:=by
  rw[cc,de,bK d];rfl
 show vf (r1 p.lines (bp p.mem.toNat 0)) ((p.lines.map λx=>(⟨x.base,x.size,0,x.st.length⟩:lb)).getD i jN) ((g.aP.map λx=>(⟨x.st,0⟩:iy)).getD i fR);rw[L,w];have O:=fit i d;have N:=fin.base i d;have V:=G i d;refine⟨cU _,by show(g.aP[i].st.length:Int)=g.aP[i].st.length- (0:Nat);omega,O,N,by rw[u];show(iq bm i).1+(iq bm i).2<=_;omega,y4 _,λo y=>?_⟩;have y:(o:Int)<g.aP[i].st.length:=y;show(r1 p.lines (bp p.mem.toNat 0)).getD ((iq bm i).1+(0+(o:Int))% (iq bm i).2).toNat 0=g.aP[i].st.getD (0+o) 0;have:=ag3 p.lines (bp p.mem.toNat 0) p.mem.toNat bc D U (p.lines[i]'I) (b3 _) o (by rw[c];omega);rw[a,c]at this;rw[Int.zero_add,dZ,ami I I,<-this];congr 1;omega;obtain⟨a,b,c⟩:=r i d;show((p.lines.map λx=>(⟨x.base,x.size,0,x.st.length⟩:lb)).getD i jN).base=_/\((p.lines.map λx=>(⟨x.base,x.size,0,x.st.length⟩:lb)).getD i jN).size=_;rw[cc,de,bK (by omega:i<p.lines.length)];exact⟨a,b⟩;show(F.take p.ins.toNat++bp (p.ins.toNat-F.length) []).length=_;rw[fb,mV,uc];omega;show((fJ g.ins.length).map _).length=_;simp;have w:((fJ g.ins.length).map λi=>(⟨F.getD i [],0⟩:iy)).getD i fR=⟨F.getD i [],0⟩:=by
  rw[cc,de,EG d];rfl
 show(F.take p.ins.toNat++bp (p.ins.toNat-F.length) []).getD i []=(((fJ g.ins.length).map λi=>(⟨F.getD i [],0⟩:iy)).getD i fR).l.drop (((fJ g.ins.length).map λi=>(⟨F.getD i [],0⟩:iy)).getD i fR).k/\(((fJ g.ins.length).map λi=>(⟨F.getD i [],0⟩:iy)).getD i fR).k<=(((fJ g.ins.length).map λi=>(⟨F.getD i [],0⟩:iy)).getD i fR).l.length;rw[w,art F (by omega:i<p.ins.toNat)];exact⟨rfl,cU _⟩;show bp p.outs.toNat []=bp g.outs.length [];rw[m4];rfl;show(bp p.outs.toNat []).length=_;rw[m4];simp;exact cV;show(g.aY.map te).length=_;rw[fj];have S:=Q.sX _ (b3 j);show la C ((g.aY.map te).getD v gl)/\((g.aY.map te).getD v gl).ins=_/\((g.aY.map te).getD v gl).outs=_;rw[A v j,(B v j).1,(B v j).2];exact⟨aaz (x:=⟨g.aY[v].tag,none,0,0,g.aY[v].a8⟩) S hC,rfl,rfl⟩;show(p.parts.map λx=>hz (b6 x.tag x.a8).2.1).getD v 0=_;have h1:(p.parts.map λx=>hz (b6 x.tag x.a8).2.1)=(p.parts.map λx=>(x.tag,x.a8)).map λx=>hz (b6 x.1 x.2).2.1:=by rw[ig];rfl
 rw[h1,m5,ig,cc,de,bK j,(B v j).1];rfl;show((g.aP.map λx=>(⟨x.st,0⟩:iy)).getD i fR).br=_;rw[cc,de,bK d];have:=t i d;unfold dP dJ at this;rw[cc,de,de,bK d]at this;refine Eq.trans ?_ this.symm;show(g.aP[i].st.length:Int)- (0:Nat)=_;omega
theorem Hc.static{az:List Int}{x:Hb}(m:Hc g az h x)(E:∀e∈g.aP,e.st.length=e.n)(F:List (List Int))(w:n<=8):∃r,runM (n*(jf (gU g) x.df.bR+1)+1) {iP x.p with cZ:=F.take x.p.ins.toNat++bp (x.p.ins.toNat-F.length) []} (0+(n:Int))=some r/\r.1.wr=(qA g (jy x.l) n (Al g F)).1.outs/\r.2=(if(qA g (jy x.l) n (Al g F)).2=0 then 1 else(qA g (jy x.l) n (Al g F)).2)/\Hh g (jy x.l) n (Al g F)/\(jy x.l).length<=2048:=by
 have B:=m.uj.fF;have A:=m.uj.jL;rw[Ge]at B A;obtain⟨hp,K⟩:=NT B;obtain⟨eF,os,bm,ek,P,Q,s,M,N,O,md,HT⟩:=m.ex;have L:∀r∈gU g,∀U∈r,3<=U.k:=λr b U J=>(acz m.g0 r b U J).three;have av:jh x.df.bR 0 0<=({iP x.p with cZ:=F.take x.p.ins.toNat++bp (x.p.ins.toNat-F.length) []}:fK).dg.length:=by
  show _<=(bp x.p.br.toNat (0:Int)).length;rw[uc];have:=md.2.1;omega
 obtain⟨r,b,c,y⟩:=aER (gU g) L x.df.bR hp (Yd _ hp K) n {iP x.p with cZ:=F.take x.p.ins.toNat++bp (x.p.ins.toNat-F.length) []} md.2.2.2.2.2.2 rfl av;rw[A]at c y;have a:=V7 s;have jM:(dJ g).length=g.aP.length:=fj ..;have oR:=(L1 a).1;have D:∀i,0<=pU (ma (eJ g.aY.length (dJ g) (jy x.l)).2) i:=λi=>by
  by_cases u:i<(dJ g).length;exact((L1 a).2 i u).1;unfold pU;rw[cc,l2 (by rw[oR.len];omega)];exact y4 _
 have fin:=ajj N D M;rw[jM]at oR fin;have o:fF g.aY.length (dJ g)=0:=by
  refine xH λq=>?_;unfold eJ at a;rw[aC q]at a;exact q a
 have z:(jy x.l).length<=2048:=by
  refine xH λq=>?_;unfold eJ at a;rw[aS o,aS I]at a;cases a
 have j:eJ g.aY.length (dJ g) (jy x.l)=((fU g.aY.length (dJ g) (jy x.l) (bp g.aY.length 0)).1,dP (dJ g) (bp g.aY.length 0)::(fU g.aY.length (dJ g) (jy x.l) (bp g.aY.length 0)).2):=by
  unfold eJ;rw[aS o,aC I];rfl
 have t:(fU g.aY.length (dJ g) (jy x.l) (bp g.aY.length 0)).1=0:=by rw[j]at a;exact a
 have home:BP g.aY.length (dJ g) (jy x.l)=true:=by
  refine xH λq=>?_;unfold np at s;rw[aC (λk=>k a),aC q]at s;cases s
 have hm:dP (dJ g) ((jy x.l).foldl (λf v=>bump f v.toNat) (bp g.aY.length 0))=dP (dJ g) (bp g.aY.length 0):=by
  unfold BP at home;rw[iv,vx,vx,j]at home;rw[<-ajd (jy x.l) _ t,<-home.2];rfl
 have d:=aFM m.g0 E md F fin oR (by rw[j];exact hq ..) (λi u=>by rw[O];exact arz fin u) (C:=n*(jy x.l).length) (by
  have:n*(jy x.l).length<=8*2048:=Nat.mul_le_mul w z;omega)
 obtain⟨H,G⟩:=akh m.g0 o fin oR (uc ..) t (λr b=>by rw[j];exact gd _ b) hm n _ _ d;refine⟨r,b,?_,?_,aiw m.g0 o fin oR (uc ..) t (λr b=>by rw[j];exact gd _ b) hm n _ _ d,z⟩;have:r.1.wr=(core r.1).wr:=rfl;rw[this,c,G];rw[y,H]
noncomputable def axp:IR:=LH.o.1.r.r.r.l.r.l.l
noncomputable def axq:IR:=LH.o.1.r.r.r.r.l.r.l.l
noncomputable def axr:IR:=LH.o.1.r.r.r.r.r.r.r.l.r.l.l
noncomputable def axs:IR:=LH.o.1.r.r.r.r.r.r.r.r.l.r.l.l
def zg(B h:J)(d:bM):Prop:=d.ok h/\∀g,d.A=some g->d.l≠[]->B g.block≠none\/∃cs,h g.block=some (bb cs 3 (0,0))
theorem zg.put{B h:J}{d:bM}(r:zg B h d){x ty:Nat}{cs:Array aA}{U:Obj}(b:B x=none)(f:h x=some (bb cs ty (0,0)))(i:ty≠3):zg B (h.put x U) d:=by
 have ne:∀g,d.A=some g->d.l≠[]->g.block≠x:=λg a al e=>by
  rcases r.2 g a al with q|⟨c,q⟩;exact q (by rw[e];exact b);exact eN q f (eh i) e
 refine⟨r.1.D0 λg a al=>ne g a (List.ne_nil_of_length_pos al),λg a al=>?_⟩;rcases r.2 g a al with q|⟨c,q⟩;exact bQ q;exact ba ⟨c,by rw[J.cD _ _ (ne g a al)];exact q⟩
def ll(g:dd):LE:=.own (([.string g.ea,ab g.h2 g.aY.length g.ac,ab g.c8 g.aP.length g.b0,ab g.eg g.ins.length g.cf,ab g.cn g.outs.length g.bT]:List aA).map .v) 26
theorem WE(t:bg h 1 A rs.length (gi rs)){g:aE}(a:A=some g) hp:h.cell? (g.add (p*1))=some (R rs[p]):=t.one a (i:=p) (r:=[R rs[p]]) (by unfold gi;rw[de,bK hp];rfl) rfl
theorem QX{row:List bM}(hp:p<row.length) d:over (row.map bM.val) (p*1) [d.val]=some ((row.set p d).map bM.val):=by
 rw[Nat.mul_one,io _ _ _ (by rw[fj];exact hp),kB]
theorem avR Q(e:cg){g:dd}{B am:J}{o:oD}{j:fq}{M:Nat}(O:g.ok B)(k:h0 B am o j M)(v:Nat) bv kU yJ W{N:Option aE}{g5:Nat}{rs:List Int}(ft:bg B 1 N rs.length (gi rs))(kk:∀r∈rs,1<=r/\r<=64)(hp:∀x∈g.ins,x.act=v->0<=x.port/\x.port<rs.length) s{u:List bM}(aq:u.length=rs.length)(DB:∀d∈u,zg B am d)(k7:o.is.length=g.ins.length)(g16:g.ins.length<=16)(he:[1,2,3,4,5,6,13,14,16,17].map e=[.v (R v),.v bv,.v kU,.v (hM o.kq g.ins.length),.v yJ,.p 0 0,.v (ab N rs.length g5),.v W,.v (ab (some s) rs.length rs.length),.v (R (0:Nat))])(cF:∀(e:cg) aa a f(F:List bM),uF v rs 0 g.ins (j,u.map bM.l)=some (f,F.map bM.l)->h0 B aa {o with is:=a} f M->(f.outs=j.outs/\f.cV=j.cV)->a.length=g.ins.length->F.length=rs.length->(∀d∈F,zg B aa d)->[1,2,3,4,5,6,13,14,16].map e=[.v (R v),.v bv,.v kU,.v (hM o.kq g.ins.length),.v yJ,.p 0 0,.v (ab N rs.length g5),.v W,.v (ab (some s) rs.length rs.length)]->Q (.exit 0) e [ll g,.row 27 1 (some s) rs.length rs.length (F.map bM.val)] aa)(dy:∀e L aa a f,uF v rs 0 g.ins (j,u.map bM.l)=none->h0 B aa {o with is:=a} f M->(f.outs=j.outs/\f.cV=j.cV)->a.length=g.ins.length->e 12= .v (bC .u8 2)->Q .ret e L aa):jk (λQ e L h=>dq aD 208 axp Q e L h) Q e [ll g,.row 27 1 (some s) rs.length rs.length (u.map bM.val)] am:=by
 refine .mk (Nat×List js×fq×List bM) [1,2,3,4,5,6,13,14,16,17] (λ(i,_,_,_)=>[.v (R (v:Int)),.v bv,.v kU,.v (hM o.kq g.ins.length),.v yJ,.p 0 0,.v (ab N rs.length g5),.v W,.v (ab (some s) rs.length rs.length),.v (R (i:Int))]) (λ(_,_,_,row)=>[ll g,.row 27 1 (some s) rs.length rs.length (row.map bM.val)]) (λ(i,a,f,row) aa=>uF v rs 0 g.ins (j,u.map bM.l)=uF v rs i (g.ins.drop i) (f,row.map bM.l)/\h0 B aa {o with is:=a} f M/\(f.outs=j.outs/\f.cV=j.cV)/\a.length=g.ins.length/\row.length=rs.length/\(∀d∈row,zg B aa d)/\i<=g.ins.length) (λ(i,_,_,_)=>g.ins.length-i) (0,o.is,j,u) (λ_=>rfl) ⟨rfl,k,⟨rfl,rfl⟩,k7,aq,DB,cU _⟩ he rfl ?_;refineλ⟨i,a,f,row⟩ e h⟨inv,k,H,D,j0,U,ai⟩=>ay λfD cQ eT=>ay λfy cM d9=>cM _ _ _ (aW (λh1=>?_) (λh1=>?_));have C:i<g.ins.length:=I;refine cQ _ _ _ ?_;obtain⟨bu,w⟩:=O.ins.b4 I;have lx:(g.ins.map kO.cells)[i]?=some (kO.cells g.ins[i]):=by rw[de,bK C];rfl
 have Z:=(O.ins.mono k.le).row w lx 1 (R g.ins[i].act) rfl;have C5:=(O.ins.mono k.le).row w lx 2 (R g.ins[i].port) rfl;have qj:g.ins.drop i=g.ins[i]::g.ins.drop (i+1):=List.drop_eq_getElem_cons C;rw[qj,uF]at inv;refine ay λfz cL eZ=>ew λfE dR dH=>ay λgF du gN=>.m bu w (.hp (R g.ins[i].act) (by rw[bn];exact Z) (du _ _ _ (aW (λq=>?_) (λq=>?_))));have q:g.ins[i].act=v:=q;rw[aS q]at inv;obtain⟨DX,iQ⟩:=hp _ (b3 C) q;obtain⟨p,S⟩:∃p:Nat,g.ins[i].port=p:=⟨g.ins[i].port.toNat,I⟩;have lH:p<rs.length:=I;obtain⟨fB,hs⟩:=ft.b4 I;have kS:=WE (ft.mono k.le) hs lH;have aEC:=kk _ (b3 lH);obtain⟨n,iU⟩:∃n:Nat,rs[p]=n:=⟨rs[p].toNat,I⟩;have Tl:gH rs g.ins[i].port.toNat=n:=by
  unfold gH;rw[S,bn,cc,bK lH,pB,iU,bn]
 rw[Tl]at inv;have y:i<a.length:=I;have G:=k.kr.r _ (b3 y);have X:=k.zW _ (b3 y);have V:tape f (4,(i:Int))=⟨a[i].l,a[i].k⟩:=by
  show f.ins.getD (i:Int).toNat fR=_;rw[bn,<-k.inl,cc,de,bK y];rfl
 have Kq:=abf (h:=h) (b:=o.kq) (T:=a) (au:=[]) a.length (by rw[sf];exact k.kr.box) (n:=n) y (G.2.2.mono k.le) X G.1 I I (λvE Y al e=>by
  have:=k.kr.hi;have t:=G.2.2;rw[Y]at t;exact t.mem (λz=>al (R3.1 z)) (by rw[e];exact this))
 rw[D]at Kq;refine ay λgL ed gG=>.m bu w (.hp (R g.ins[i].port) (by rw[bn];exact C5) (.m fB hs (.hp (R (n:Int)) (by rw[S,bn,<-iU];exact kS) (.ag (.mk _ Kq (λr ae K=>?_))))));by_cases P:a[i].l.length<a[i].k+n;rw[aS P]at K;obtain⟨rfl,rfl⟩:=K;rw[aS (by unfold short;rw[V];exact P)]at inv;exact ed _ _ _ (ay λjl eY hU=>hU _ _ _ _ nofun (dH _ _ _ _ nofun (eZ _ _ _ _ nofun (dy _ _ _ _ _ inv k H D rfl))));rw[aC P,sf]at K;obtain⟨rfl,E,pF,rfl,X9,SK⟩:=K;rw[aC (by unfold short;rw[V];exact P)]at inv;have bS:=k.aqe (i:=i) y (n:=n) (by show a[i].k+n<=a[i].l.length;omega);refine ed _ _ _ (ay λjl eY hU=>eY _ _ _ (.m bu w (.hp (R g.ins[i].port) (by rw[bn];exact(O.ins.mono bS.le).row w lx 2 (R g.ins[i].port) rfl) (.m s rfl ?_))));have cK:((a[i].l.drop a[i].k).take n).length=n:=by rw[mV,mU];omega
 have KB:(⟨E,pF,(a[i].l.drop a[i].k).take n⟩:bM).val=ab E n pF:=by unfold bM.val;rw[cK]
 refine .row 1 27 1 s rs.length rs.length (row.map bM.val) ((row.set p ⟨E,pF,(a[i].l.drop a[i].k).take n⟩).map bM.val) (p*1) rfl (by rw[S,bn]) (by rw[<-KB];exact QX I _) (dH _ _ _ _ nofun (cL _ _ _ (.bl (⟨(i+1,a.set i ⟨a[i].A,a[i].c,a[i].l,a[i].k+n⟩,iA f (4,(i:Int)) n,row.set p ⟨E,pF,(a[i].l.drop a[i].k).take n⟩),rfl,rfl,⟨?_,bS,H,by rw[fI];exact D,by rw[fI];exact j0,λd ar=>?_,C⟩,by show g.ins.length- (i+1)<g.ins.length-i;omega⟩))));rw[inv,kB,V,S,bn];rfl;rcases wA ar with ar|rfl;exact(U d ar).put k.kr.hi k.kr.box aH;refine⟨?_,λvE Y al=>bQ ?_⟩;show bg _ 1 E ((a[i].l.drop a[i].k).take n).length _;rw[cK];exact X9;have al:(a[i].l.drop a[i].k).take n≠[]:=al;have Ih:0<n:=by
  rcases am1 n with z|z;rw[z]at al;exact absurd rfl al;exact z
 obtain⟨g0,dG,aQ⟩:=SK vE Y Ih;have t:=G.2.2;rw[dG]at t;rw[aQ];exact t.mem I;have q:¬g.ins[i].act=v:=q;rw[aC q]at inv;exact dH _ _ _ _ nofun (cL _ _ _ (.bl (⟨(i+1,a,f,row),rfl,rfl,⟨inv,k,H,D,j0,U,C⟩,by show g.ins.length- (i+1)<g.ins.length-i;omega⟩)));refine eT _ _ _ _ nofun ?_;rw[List.drop_eq_nil_of_le I,uF]at inv;exact cF _ _ _ _ _ inv k H D j0 U rfl
end Go.Sx
