/- A part of the proof that the statement holds. Conditions: none. -/
import Derived.ChangeKeysEq
import Derived.Test.YtlbdbpaelcnfgaaGreatDoorAA
open Array renaming ext'->yY,getElem?_toList->AL,size_push->RA,toList_map->AM
open Bool renaming and_eq_true->iv,false_eq_true->ve,not_eq_true'->yZ,not_true->alG,true_and->AP
open ForInStep renaming yield->Y4
open Go renaming Exit->iw,Field->JI,Oper->cv,Operand->gu,Program->fk,TypeId->gv,Value->aA,World->bD,execOp->dD,getObj->Fi,madeCells->tK,resolve->u5,run_eqGuard_agg->aEM,run_equalIn_array->aEN,run_equalIn_int->XC,run_equalIn_struct->aEO,run_program->ajn,run_underlying->hg,size_madeCells->aFr,typeInfo->Cn,undef->fS,yielded->mF,zeroValue->YG
open Go.Builtin renaming len_->YS
open Go.ChangeMaps renaming setBlock->aIw
open Go.Conv renaming intToInt->YW
open Go.Instr renaming build->ama,checkKey->sc,field->amc,findAsking->RM,findKey->EC,findNow->ED,keyThatStays->ame,lookup->amf,mapUpdate->Zc,sameBits->JL,sliceBound->RN,sliceBounds->Nh
open Go.IntKind renaming bits->RQ
open Go.Op renaming eqItems->Y9,eqFields->Zz,equal->J4,equalIn->xR
open Go.Program renaming fieldsOf->ans
open Go.Region renaming wanted->ih
open Go.Result renaming andThen_ok->jc
open Go.Sem renaming run->CP,run_bind->iT,run_pure->l3
open Go.Value renaming int->bC
open List renaming forIn_cons->amx,getElem?_cons_zero->R1,getElem?_drop->CE,getElem?_map->de,map->JR,map_congr_left->ny,map_cons->er,map_map->ig,mem_map->cO,range'->Nn,range'_succ->R7,range_eq_range'->JW,tail->No,tail_drop->Np
open List.cons renaming injEq->A1
open Nat renaming add_comm->wC,add_zero->A6,beq->ix,ble->qQ,eq_of_beq_eq_true->rx,le_of_ble_eq_true->za,le_refl->dM,mul_one->e4,zero_le->cU
open Option renaming bind_some->ue,isSome_none->anm,map_none->Hf,map_some->si
open PUnit renaming unit->J6
open Std.Legacy.Range renaming forIn_eq_forIn_range'->aIF,size->aIG
namespace Go.Sx
open Go.RowKit
set_option maxRecDepth 100000
set_option maxHeartbeats 0
set_option linter.all false
variable {next:Act->bD->Prop}{ee:List Int}{az:List aA}{b ca el qt s t:Nat}{v z:aA}{V:aN->Prop}{K:fZ}{x y:gu}{iS:gv}{Q:iw->Act->bD->Prop}
section
variable {P:fk}{am:J}{bh:bD}{n:Nat}{β:Nat->Nat}{L:List LE}{h:J}{e:cg}{a:Act}{w:bD}
theorem KD(a:De P t=some (s,b,az)):∃i z,P.info? t=some i/\i.zero=some z/\i.size=s/\i.bytes=b/\z.cells.size=s/\0<s/\az=z.cells.toList:=by
 unfold De at a;split at a;rename_i i d;split at a;rename_i z c;split at a;simp_all
 grind
 grind
 grind
theorem aq7{U:cv}(aJ:U.op= .call {callee:=.builtin .append,args:=#[x,y],argTypes:=#[t,t]})(hu:P.underlying t=some (.slice el))(he:De P el=some (s,b,az))(aU:jT am bh n Any K next)(m:dm am bh β L h w)(r:dF n β L e a)(aX:ei L)(hp:gB P n (.append t el s b az (bZ x) (bZ y)) U.dst e L h K):U.wp P a w next Q:=by
 obtain⟨i,z,ai,a7,aQ,aR,di,fV,kD⟩:=KD he;have af:=r.eval x;have aM:=r.eval y;have fin:∀(f:Nat->Nat)(d:List LE)(h1:J)(A B:Option Addr)(k cap q c:Nat)(S:List aA->Prop),dm am bh f d h1 w->dF n f d e a->ei d->a.eval x= .slice A k cap->a.eval y= .slice B q c->(∀aI,S aI->Bb w s B q aI)->Ey el s b A k cap q S d h1 (λx L h=>hJ n U.dst x e L h K)->U.wp P a w next Q:=by
  intro f d h1 A B k cap q c S m1 N D I Vj dy og;obtain⟨bo,dI,gO,cH,bB,aa,bz,fm,fG,bE,gx,il,Pc⟩:=aqV (P:=P) (ty:=U.type) (c:=c) hu ai a7 aQ aR di fV m1 D dy og;refine s3 (v:=.slice bo gO dI) (bz:=bz) (by simp[dD,aJ,u5,invoke,builtin,I,Vj,fm]) ?_;exact kM aU trivial bE (N.agree Pc il) gx (x:=.v _) trivial fG
 have app:∀(f:Nat->Nat)(d:List LE)(A:Option Addr)(k cap:Nat),dm am bh f d h w->dF n f d e a->ei d->a.eval x= .slice A k cap->a.eval y=((bZ y).get e).c f->Jt n el s b A k cap ((bZ y).get e) U.dst e d h K->U.wp P a w next Q:=by
  intro f d A k cap m1 N D I Iq hw;unfold Jt at hw;split at hw;rename_i B q c j;obtain⟨G,E,ae,Y,m2,F,H,C⟩:=tW hw f m1 D;exact fin G E ae A B k cap q c _ m2 (N.agree C H) F I (by rw[Iq,j];rfl) (λaI X=>aj2 m2.cJ X) Y;rename_i o off q c j;split at hw;rename_i cs ty g;split at hw;rename_i kk DE;obtain⟨px,ax,V,m3,Ua,T,_⟩:=yK kk _ _ _ m1 D hw;split at V;rename_i aI ht;obtain⟨uE,mu⟩:=sub_eq _ _ _ _ DE;have av:=D1 m3.cJ kk aI ht;have BT:Bb w s (some ⟨f o,off,none⟩) q aI:=by
   refine⟨by rw[<-av];simp[mu],.inr ⟨_,rfl,λp v kU=>?_⟩⟩;rw[<-av,de,Option.map_eq_some_iff]at kU;obtain⟨u,R,rfl⟩:=kU;rw[add_lit];refine QT m1.cJ g ?_;rw[uE,List.getElem?_take]at R;split at R;simpa[CE]using R;cases R
  obtain⟨G,E,ae,Y,m2,F,H,C⟩:=tW V f m3 Ua;exact fin G E ae A _ k cap q c _ m2 ((N.agree (λ_ _=>rfl) T).agree C H) F I (by rw[Iq,j];exact eu (λx=>Value.slice (some ⟨x,off,none⟩) q c) (C o (T o ⟨_,g,rfl⟩)).symm) (λW X=>by rw[show W=aI from X,C o (T o ⟨_,g,rfl⟩)];exact BT) Y;exact V.elim;exact hw.elim;exact hw.elim;exact hw.elim
 simp only[gB]at hp;split at hp;rename_i A k cap j;exact app β L A k cap m r aX (by rw[af,j];rfl) aM hp;rename_i l k cap j;split at hp;rename_i cs ty g;cases M:(ix cs.length (cap*s)&&qQ k cap&&ix ty el&&qQ cap 9223372036854775807)with
 |false=>rw[M]at hp;exact hp.elim
 |true=>
  rw[M]at hp;simp only[iv]at M;obtain⟨⟨⟨Z,O⟩,rN⟩,zA⟩:=M;have Z:=rx Z;have O:=za O;have rN:=rx rN;have zA:=za zA;subst rN;simp only[pG]at hp;split at hp;rename_i aI ht;obtain⟨ca⟩:=hp;have yk:=m.hole l _ g rfl;have jF:=ca (β l) yk;have gq:=D1 m.cJ cs aI ht;have yr:=m.cJ.cJ l _ g;simp only[LE.fX,gq]at yr;obtain⟨m1,pt⟩:=m.gm (cC:=.gone) g rfl rfl rfl trivial yr;have D:=aX.wd (oo g) pt (λ_ _ e=>by cases e);have ev:aI.length=cap*s:=by rw[<-gq];simp[Z]
  have cP:k*s<=cap*s:=Nat.mul_le_mul_right s O;have j1:bw (h.put (β l) (.cells aI.toArray ty (0,0))) ty s (some ⟨β l,0,none⟩) k cap (aI.take (k*s)):=⟨by rw[List.length_take,ev];omega,.inr ⟨β l,aI.toArray,rfl,J.b8 _ _ _,O,by simpa[maxLen]using zA,by simpa using ev,rfl⟩⟩;obtain⟨G,E,ae,⟨rfl,rfl⟩,m2,F,H,C⟩:=tW (K:=λE ae=>E=hy L l .gone++[.row ty s (some ⟨β l,0,none⟩) k cap (aI.take (k*s))]/\ae=en (h.put (β l) (.cells aI.toArray ty (0,0))) (some ⟨β l,0,none⟩)) (.abs ty s (some ⟨β l,0,none⟩) k cap (aI.take (k*s)) j1 (.ag ⟨rfl,rfl⟩)) β m1 D;have H8:en (h.put (β l) (.cells aI.toArray ty (0,0))) (some ⟨β l,0,none⟩)=h:=by
   funext o;simp only[en,J.del,J.put];by_cases e:o=β l;rw[aS e,e,yk];rw[aC e,aC e]
  rw[H8]at m2;have dS:=(r.agree (λ_ _=>rfl) pt).agree C H;exact app G _ _ k cap m2 dS F (by rw[af,j];rfl) (dS.eval y) jF;exact hp.elim
 exact hp.elim;exact hp.elim
theorem ace{U:cv}(T:U.op= .makeSlice t x y)(hu:P.underlying t=some (.slice el))(he:De P el=some (s,b,az)){C:(Nat->Nat)->Prop}(hC:∀j,(∀i,i<L.length->j i=β i)->C j)(X:jT am bh n C K next)(m:dm am bh β L h w)(r:dF n β L e a)(Y:ei L)(hp:gB P n (.Gf t el s b az (bZ x) (bZ y)) U.dst e L h K):U.wp P a w next Q:=by
 obtain⟨i,z,D,R,B,aR,di,fV,kD⟩:=KD he;have Z:=r.eval x;have V:=r.eval y;simp only[gB]at hp;split at hp;rename_i vd pv p q;have key:∀(k c:Nat)(xs:List aA),vd=k->pv=c->c*b<=281474976710656->c<=9223372036854775807->k<=c->(∀cs:Array aA,cs=tK z.cells (c*s)->xs.length=k*s/\cs.toList.take (k*s)=xs)->(∀g,hJ n U.dst (.v (.slice (some g) k c)) e (L++[.row el s (some g) k c xs]) h K)->U.wp P a w next Q:=by
  rintro k c xs rfl rfl f hm O M ca;have F:=run_make (P:=P) w t el i z hu D R .i64 .i64 k c I I aL I;simp only[Int.toNat_natCast]at F;obtain⟨W,S⟩:=M _ rfl;rw[<-B]at S;have lG:(w.alloc (.cells (tK z.cells (c*i.size)) el)).ownsRow 0 el s (.slice (some ⟨w.heap.size,0,none⟩) k c) k xs:=⟨W,.inr ⟨w.heap.size,c,_,rfl,cU _,heap_alloc_new w _,O,by grind [maxLen],by rw[aFr,B],aL⟩⟩;have ak:=World.grownBy_alloc w (.cells (tK z.cells (c*i.size)) el) none;obtain⟨m1,J⟩:=m.Wv Y el s;have d:cI (L++[LE.row el s none 0 0 []]) L.length=some (.row el s none 0 0 []):=by rw[yH];simp
  obtain⟨j,bN,G,u,g7⟩:=m1.grow J d (bz:=w.alloc (.cells (tK z.cells (c*i.size)) el)) (by grind [Value.ownBlock]) lG (.inr rfl);have cB:∀i,i<L.length->j i=β i:=λi D=>g7 i I;have pg:∀y:LE,hy (L++[LE.row el s none 0 0 []]) L.length y=L++[y]:=λy=>by
   rw[Jk,List.set_append_right _ _ (dM _)];simp
  have H:=J.wd (oo d) u (λ_ _ e=>by cases e);rw[pg]at G u H;refine s3 (v:=.slice (some ⟨w.heap.size,0,none⟩) k c) (bz:=w.alloc (.cells (tK z.cells (c*i.size)) el)) (by simp[dD,T,Z,V,p,q,aN.c,aN.c1,F]) ?_;exact kM X (hC j cB) G (r.agree (λo d=>bN o (wa _ d)) (λo d=>u o (wa _ d))) H (x:=.v _) trivial (ca ⟨w.heap.size,0,none⟩)
 have l:az.toArray=z.cells:=by rw[kD]
 have full:∀(k:Nat)(cs:Array aA),cs=tK z.cells (k*s)->(tK az.toArray (k*s)).toList.length=k*s/\cs.toList.take (k*s)=(tK az.toArray (k*s)).toList:=by
  rintro k cs rfl;rw[l];have:(tK z.cells (k*s)).toList.length=k*s:=by rw[Array.length_toList,aFr]
  grind
 cases hp with
 |mk k al av f hm ca=>exact key k k _ al av f hm (dM _) (full k) ca
 |one k A N E al av f hm ca=>
  refine key k k _ al av f hm (dM _) (full k) λg=>?_;rw[N,E,e4,show[A].toArray=#[A]from rfl,toList_madeCells_one,<-E]
  grind
 |room c al av f hm ca=>exact key 0 c [] al av f hm (cU _) (λcs _=>bc) ca
 grind
theorem acK{i:Nat}{f:JI}(b:Dh P t i=some f):∃a,P.underlying t=some (.struct a)/\a[i]?=some f:=by
 unfold Dh at b
 grind
theorem aAV{b:Array JI}(hu:P.underlying t=some (.struct b)):∀a l,Gb P t a=some l->∃g,l=a.map g/\∀p∈a,(g p).2.2=bZ p.2/\∃f,b[p.1]?=some f/\(g p).1=f.offset/\(g p).2.1=jQ P f.type:=by
 intro a;suffices h:∀(l:List (Nat×Nat×eC)),Gb P t a=some l->l=a.map (λp=>((match b[p.1]?with|some f=>f.offset|none=>0),(match b[p.1]?with|some f=>jQ P f.type|none=>0),bZ p.2))/\∀p∈a,∃f,b[p.1]?=some f by
  grind
 induction a with
 |nil=>simp[Gb]
 |cons q a i=>
  intro l al;obtain⟨o,x⟩:=q;simp only[Gb]at al;split at al;rename_i f c;obtain⟨d,j,e⟩:=acK c
  grind
  grind
theorem abV(r:dF n β L e a){U:cv}{t:gv}{i:TypeInfo}{d:Array (Nat×gu)}{l:List (Nat×Nat×eC)}(G:U.op= .build t d)(H:P.info? t=some i)(F:i.zero=some z)(k:X1 P t=true)(al:Gb P t d.toList=some l)(m:fH (.build z.cells.toList l) e L h V):∃bL,V bL/\bL.ok L/\Yields P U a β L h bL:=by
 unfold X1 at k;split at k;rename_i j hu;obtain⟨g,D,y⟩:=aAV hu _ _ al;simp only[fH]at m;split at m;rename_i cs A;have M:∀f∈j.toList,km P f.type=true:=List.all_eq_true.1 k;refine⟨_,m,?_,λw hw=>?_⟩;show∀x∈cs,x.ji L;refine Og _ _ _ A (IZ _) λq B=>?_;rw[D,ig]at B;obtain⟨p,hp,rfl⟩:=cO.1 B;simp only[Function.comp];rw[(y p hp).1];exact r.sU p.2;rw[D,ig]at A;have u:(j.mapM λf=>(do pure (f.offset,<-sizeOf f.type):Sem (Nat×Nat))).run P w= .ok (j.map λf=>(f.offset,jQ P f.type)) w:=by
  rw[Array.mapM_eq_mapM_toList];have key:∀l:List JI,(∀f∈l,km P f.type=true)->(l.mapM λf=>(do pure (f.offset,<-sizeOf f.type):Sem (Nat×Nat))).run P w= .ok (l.map λf=>(f.offset,jQ P f.type)) w:=by
   intro l;induction l with
   |nil=>simp
   |cons f l I=>
    intro b;obtain⟨o,C⟩:=AC (b f (List.mem_cons_self ..));simp only[List.mapM_cons,iT,run_sizeOf C,jc,l3,I λJ s=>b J (List.mem_cons_of_mem _ s),er,AD C]
  simp only[Sem.run_map,key j.toList M,jc];exact eu (λz=>Result.ok z w) (yY bc)
 have b:=Oh (β:=β) (λo=>(j.map λf=>(f.offset,jQ P f.type))[o]?) (λp:Nat×gu=>(p.1,(bZ p.2).get e)) (λp=>((g p).1,(g p).2.1,eC.get e (g p).2.2)) d.toList (z.cells.toList.map .v) cs (λp hp=>by
  grind) A
 have K:(JR (λx:Nat×gu=>(x.1,aN.c β (eC.get e (bZ x.2)))) d.toList)=(JR (λx:Nat×gu=>(x.1,a.eval x.2)) d.toList):=ny λp _=>by rw[r.eval p.2]
 simp only at b;rw[K,EZ]at b;have E:z.cells.toList.toArray=z.cells:=bc;rw[E]at b;simp only[dD,G,ama,iT,YG,Cn,ajn,jc,H,l3,F,hg hu,u,AM];rw[b];rfl
 grind
 grind
theorem abW(r:dF n β L e a){U:cv}{t:gv}{i:TypeInfo}{b:Array (Nat×gu)}{l:List (Nat×Nat×eC)}(A:U.op= .build t b)(B:P.info? t=some i)(y:i.zero=some z)(al:V8 P t b.toList=some l)(d:fH (.build z.cells.toList l) e L h V):∃bL,V bL/\bL.ok L/\Yields P U a β L h bL:=by
 unfold V8 at al;split at al;rename_i m el hu;split at al;rename_i g;injection al with al;subst al;obtain⟨o,s⟩:=AC g;rw[AD s]at d;simp only[fH]at d;split at d;rename_i cs j;refine⟨_,d,?_,λw hw=>?_⟩;show∀x∈cs,x.ji L;refine Og _ _ _ j (IZ _) λq k=>?_;rw[ig]at k;obtain⟨p,hp,rfl⟩:=cO.1 k;exact r.sU p.2;rw[ig]at j;have f:=Oh (β:=β) (λi=>some (i*o.size,o.size)) (λp:Nat×gu=>(p.1,(bZ p.2).get e)) (λp=>(p.1*o.size,o.size,eC.get e (bZ p.2))) b.toList (z.cells.toList.map .v) cs (λp hp=>⟨rfl,rfl⟩) j;have C:(JR (λx:Nat×gu=>(x.1,aN.c β (eC.get e (bZ x.2)))) b.toList)=(JR (λx:Nat×gu=>(x.1,a.eval x.2)) b.toList):=ny λp _=>by rw[r.eval p.2]
 simp only at f;rw[C,EZ]at f;have u:z.cells.toList.toArray=z.cells:=bc;rw[u]at f;simp only[dD,A,ama,iT,YG,Cn,ajn,jc,B,l3,y,hg hu,run_sizeOf s,AM];rw[f];rfl
 grind
 grind
 grind
theorem aq3(r:dF n β L e a){U:cv}{t:gv}(f:U.op= .unOp .neg t x)(d:fH (.neg (bZ x)) e L h V):∃bL,V bL/\bL.ok L/\Yields P U a β L h bL:=by
 have g:=r.eval x;simp only[fH]at d;split at d;rename_i b hp;exact⟨_,d.out,trivial,λw hw=>by simp[dD,f,g,hp,aN.c,aN.c1,Op.unary,Op.intArith]⟩
 grind
theorem Oe(r:dF n β L e a){U:cv}{kJ:Bool}{l:Array gv}(g:U.op= .call {callee:=.builtin (if kJ then .max else .min),args:=#[x,y],argTypes:=l})(b:fH (.L5 kJ (bZ x) (bZ y)) e L h V):∃bL,V bL/\bL.ok L/\Yields P U a β L h bL:=by
 have f:=r.eval x;have d:=r.eval y;simp only[fH]at b;split at b;rename_i i o hp j;rw[hp]at f;rw[j]at d;have k:∀c:Prop,[Decidable c]->∀(u v:Int),(if c then bC .i64 u else bC .i64 v)=bC .i64 (if c then u else v):=λc _ u v=>by grind
 cases kJ with
 |true=>
  refine⟨_,b,trivial,λw hw=>?_⟩;simp[dD,g,u5,invoke,builtin,f,d,aN.c,aN.c1,Builtin.max_,Builtin.max2];omega
 |false=>
  refine⟨_,b,trivial,λw hw=>?_⟩;simp[dD,g,u5,invoke,builtin,f,d,aN.c,aN.c1,Builtin.min_,Builtin.min2];omega
 grind
theorem GM(h:sY P t=true):P.underlying t=some (.int .i64):=by
 unfold sY at h
 grind
theorem akS(h:Ra P t=true):P.underlying t=some (.int .u64):=by
 unfold Ra at h
 grind
theorem wrap_u64{z:Int}(am:0<=z)(h1:z<=9223372036854775807):IntKind.u64.wrap z=z:=by
 grind [IntKind.wrap,RQ,IntKind.signed]
theorem Nb.out{dk:IntKind}{z:Int}{V:Int->Prop}(hw:0<=z->z<=9223372036854775807->dk.wrap z=z)(x:Nb dk z V):V (dk.wrap z):=by
 cases x with
 |mk am h1 k=>grind
 |wrap k=>exact k
theorem akR{k:IntKind}(h:Q9 P t=some k):P.underlying t=some (.int k):=by
 unfold Q9 at h
 grind
theorem aHn(h:MP P t=true):∃k,P.underlying t=some (.int k):=by
 unfold MP at h;obtain⟨k,hk⟩:=Option.isSome_iff_exists.1 h;exact⟨k,akR hk⟩
theorem aq1(r:dF n β L e a){U:cv}{s d:gv}(g:U.op= .convert s d x)(b:fH (bW P U.op) e L h V):∃bL,V bL/\bL.ok L/\Yields P U a β L h bL:=by
 have i:=r.eval x;rw[g]at b;simp only[bW]at b;split at b;rename_i f;simp only[iv]at f;simp only[fH]at b;split at b;rename_i z hp;have k:=b.out wrap_u64;exact⟨_,k,trivial,λw hw=>by simp[dD,g,i,hp,aN.c,aN.c1,convert,hg (GM f.1),hg (akS f.2),YW]⟩
 grind
 split at b;rename_i f;simp only[iv]at f;simp only[fH]at b;split at b;rename_i z hp;have k:=b.out λam h1=>IntWalk.i64_in z ⟨I,h1⟩;exact⟨_,k,trivial,λw hw=>by simp[dD,g,i,hp,aN.c,aN.c1,convert,hg (GM f.2),hg (akS f.1),YW]⟩
 grind
 split at b;rename_i j;obtain⟨ee,j⟩:=aHn j;split at b;rename_i k hk;simp only[fH]at b;split at b;rename_i l z hp;exact⟨_,b,trivial,λw hw=>by simp[dD,g,i,hp,aN.c,aN.c1,convert,hg j,hg (akR hk),YW]⟩
 grind
 exact b.elim;exact b.elim
theorem eqGuard_shr{P:fk}{t:gv}{u:aA}{w:bD}:(eqGuard .shr t x y u v).run P w= .ok () w:=dW
theorem aq5(r:dF n β L e a){U:cv}{t:gv}(i:U.op= .binOp .shr t x y iS)(f:fH (.vq .shr 0 (bZ x) (bZ y)) e L h V):∃bL,V bL/\bL.ok L/\Yields P U a β L h bL:=by
 have d:=r.eval x;have b:=r.eval y;simp only[fH]at f;split at f;rename_i z hp g;rw[hp]at d;rw[g]at b;refine⟨_,f,trivial,λw hw=>?_⟩;simp[dD,i,d,b,aN.c,aN.c1,eqGuard_shr,binOp,Op.shift,RQ];rename_i l u m v _ hp g;rw[hp]at d;rw[g]at b;obtain⟨v,j,k⟩:=f;have d:a.eval x= .int l u:=d;have b:a.eval y= .int m _:=b;refine⟨_,k,trivial,λw hw=>?_⟩;show(dD a.eval U).run P w= .ok (.value v) w;simp only[dD,i,d,b,iT,Tn,jc,aav (t:=t) (iS:=0),j,l3]
 grind
theorem aq2(r:dF n β L e a){U:cv}{op:BinOp}{t:gv}(j:U.op= .binOp op t x y iS)(b:fH (.Kz op (bZ x) (bZ y)) e L h V):∃bL,V bL/\bL.ok L/\Yields P U a β L h bL:=by
 have f:=r.eval x;have d:=r.eval y;simp only[fH]at b;split at b;rename_i i o hp k;rw[hp]at f;rw[k]at d;split at b;obtain⟨g,b⟩:=b;exact⟨_,b.out,trivial,λw hw=>by simp[dD,j,f,d,aN.c,aN.c1,binOp_quo,eqGuard_quo,Op.intDiv,g]⟩;obtain⟨g,b⟩:=b;exact⟨_,b,trivial,λw hw=>by simp[dD,j,f,d,aN.c,aN.c1,binOp_rem,eqGuard_rem,Op.intDiv,g]⟩
 grind
 grind
theorem ab9(r:dF n β L e a){U:cv}{t el:gv}{g f:Option gu}(N:U.op= .slice t x g f none)(hu:P.underlying t=some (.slice el))(Q:km P el=true)(d:fH (.slice (jQ P el) (bZ x) (g.map bZ) (f.map bZ)) e L h V):∃bL,V bL/\bL.ok L/\Yields P U a β L h bL:=by
 have O:=r.eval x;obtain⟨o,E⟩:=AC Q;rw[AD E]at d;have key:∀(A:Option Addr)(m cap:Nat)(z u:Int),(bZ x).get e= .v (.slice A m cap)->JF A m cap o.size z u V->((g=none/\z=0)\/∃q,g=some q/\(bZ q).get e= .v (.int .i64 z))->((f=none/\u=m)\/∃q,f=some q/\(bZ q).get e= .v (.int .i64 u))->∃bL,V bL/\bL.ok L/\Yields P U a β L h bL:=by
  intro A m cap z u K R C s;obtain⟨l,k,rfl,rfl,am,h1,ca⟩:=R;refine⟨_,ca (if cap=l then A else A.map (·.add (l*o.size))) (λT=>aC I) (λS=>aS S.symm),trivial,λw hw=>?_⟩;have B:a.eval x= .slice A m cap:=by rw[O,K];rfl
  have F:∀(v:aA)(y:Nat)(c:BoundsCode)(q:Nat),v= .int .i64 (q:Int)->q<=y->(RN v y c).run P w= .ok q w:=by
   rintro v y c q rfl j;simp[RN,asIntOf,j]
  have M:(Nh true m cap (g.map a.eval) (f.map a.eval) none).run P w= .ok (l,k,cap) w:=by
   have H:∀q,g=some q->(RN (a.eval q) k .sliceB).run P w= .ok l w:=λq i=>by
    rcases C with⟨b,_⟩|⟨da,b,j⟩;rw[i]at b;cases b;rw[i]at b;injection b with b;subst b;exact F _ _ _ _ (by rw[r.eval q,j];rfl) am
   have G:∀q,f=some q->(RN (a.eval q) cap .sliceAcap).run P w= .ok k w:=λq i=>by
    rcases s with⟨b,_⟩|⟨da,b,j⟩;rw[i]at b;cases b;rw[i]at b;injection b with b;subst b;exact F _ _ _ _ (by rw[r.eval q,j];rfl) h1
   have D:g=none->l=0:=λi=>by
    rcases C with⟨_,b⟩|⟨da,b,_⟩;omega;rw[i]at b;cases b
   have J:f=none->k=m:=λi=>by
    rcases s with⟨_,b⟩|⟨da,b,_⟩;omega;rw[i]at b;cases b
   cases f with
   |none=>
    cases g with
    |none=>simp only[Nh,Hf,iT,l3,jc,J rfl,D rfl]
    |some q=>simp only[Nh,Hf,si,anm,ve,nk,iT,l3,jc,<-J rfl,H q rfl]
   |some p=>
    cases g with
    |none=>simp only[Nh,Hf,si,mO,iT,l3,jc,G p rfl,D rfl]
    |some q=>simp only[Nh,si,anm,ve,nk,mO,iT,l3,jc,G p rfl,H q rfl]
  simp only[dD,N,Instr.sliceAt,Instr.slice,iT,hg hu,jc,B,Hf,M,run_sizeOf E,l3];rfl
 simp only[fH]at d;cases g with
 |none=>
  cases f with
  |none=>
   simp only[Hf,I4]at d;split at d<;>first|(rename_i K _ _;exact key _ _ _ _ _ (by assumption) d (.inl ⟨rfl,rfl⟩) (.inl ⟨rfl,rfl⟩))|(simp_all;done)
  |some q=>
   simp only[Hf,si,I4]at d;split at d<;>first|exact key _ _ _ _ _ (by assumption) d (.inl ⟨rfl,rfl⟩) (.inr ⟨q,rfl,by simp_all⟩)|(simp_all;done)
 |some p=>
  cases f with
  |none=>
   simp only[Hf,si,I4]at d;split at d<;>first|exact key _ _ _ _ _ (by assumption) d (.inr ⟨p,rfl,by simp_all⟩) (.inl ⟨rfl,rfl⟩)|(simp_all;done)
  |some q=>
   simp only[si,I4]at d;split at d<;>first|exact key _ _ _ _ _ (by assumption) d (.inr ⟨p,rfl,by simp_all⟩) (.inr ⟨q,rfl,by simp_all⟩)|(simp_all;done)
theorem GA{t:gv}(b:km P t=true)(a:rk P t=false){cs:Array aA}{off:Nat}(av:cs[off]?=some v):(part t cs off).run P w= .ok v w:=by
 simp[part,QM (Q' b),a,av]
theorem aET{t:gv}(b:km P t=true)(c:rk P t=true) cs off:(part t cs off).run P w= .ok (.agg (cs.extract off (off+jQ P t))) w:=by
 obtain⟨i,a⟩:=AC b;simp[part,QM (Q' b),c,run_sizeOf a,AD a]
theorem Hv{x:aN}{cs:List aN}(b:ET x=some cs):x.c β= .agg (cs.map (aN.c1 β)).toArray:=by
 cases x with
 |a xs=>injection b with b;subst b;rfl
 |v y=>
  cases y with
  |agg d=>
   injection b with b;subst b;rw[EZ];rfl
  |_=>cases b
 |_=>cases b
theorem Z5{x:aN}{cs:List aN}(b:ET x=some cs)(hk:x.ok L):∀y∈cs,y.ji L:=by
 cases x with
 |a xs=>injection b with b;subst b;exact hk
 |v y=>
  cases y with
  |agg c=>injection b with b;subst b;exact IZ _
  |_=>cases b
 |_=>cases b
theorem abZ(r:dF n β L e a){U:cv}{t:gv}{i:Nat}{f:JI}(m:U.op= .field t x i)(u:Dh P t i=some f)(o:km P f.type=true)(b:fH (.field (rk P f.type) f.offset (jQ P f.type) (bZ x)) e L h V):∃bL,V bL/\bL.ok L/\Yields P U a β L h bL:=by
 obtain⟨z,hu,k⟩:=acK u;have d:=r.eval x;simp only[fH]at b;split at b;rename_i cs j;have av:=Hv (β:=β) j;rw[av]at d;split at b;rename_i g;split at b;rename_i p q;obtain⟨h1,ae⟩:=sub_eq _ _ _ _ q;refine⟨_,b,?_,λw hw=>?_⟩;show∀y∈p,y.ji L;intro y c;rw[h1]at c;exact Z5 j (r.sU x) y (List.mem_of_mem_drop (List.mem_of_mem_take c));simp only[dD,m,amc,iT,hg hu,jc,k,d,asAgg,l3,aET o g];have:((cs.map (aN.c1 β)).toArray.extract f.offset (f.offset+jQ P f.type))=(p.map (aN.c1 β)).toArray:=by
  grind
 rw[this];rfl
 grind
 rename_i g;split at b
 grind
 rename_i y s c;have l:∀xs,y≠.a xs:=λxs e=>s xs e;have v:(cs.map (aN.c1 β)).toArray[f.offset]?=some (y.c1 β):=by
  rw[ra]at c;simp[c]
 refine⟨_,b,ahZ (Z5 j (r.sU x) y (by rw[ra]at c;grind)) l,λw hw=>?_⟩;simp only[dD,m,amc,iT,hg hu,jc,k,d,asAgg,l3,GA o g v,aN.ST l]
 grind
 grind
theorem aEP{U:cv}{neg:Bool}{t:gv}{u:aA}{b:Bool}(c:U.op= .binOp (if neg then .neq else .eql) t x y iS)(e:a.eval x=u)(d:a.eval y=v)(f:(eqGuard (if neg then .neq else .eql) t x y u v).run P w= .ok () w)(g:∀w,(binOp (if neg then .neq else .eql) t u v).run P w=(do pure (.bool (flip neg (<-J4 t u v))):Sem aA).run P w)(he:(J4 t u v).run P w= .ok b w):(dD a.eval U).run P w= .ok (.value (.bool (flip neg b))) w:=by
 simp[dD,c,e,d,f,g,he]
theorem XA:∀a k xs aV us aI b d,BX P a k=true->us.toList.drop k=xs.map (aN.c1 β)->aI.toList.drop k=aV.map (aN.c1 β)->xs.length=a.length->aV.length=a.length->zv xs aV=some b->(Zz (d+1) us aI a).run P w= .ok b w
 |[],k,xs,aV,us,aI,b,d,_,_,_,h,c,he=>by
  simp_all[zv,Zz]
 |f::a,k,xs,aV,us,aI,b,d,j,hu,i,h,c,he=>by
  simp only[BX,iv,yZ,vx]at j;obtain⟨⟨⟨⟨⟨f1,f2⟩,f3⟩,f4⟩,f5⟩,f6⟩:=j;have f2:=rx f2;match xs,aV,h,c with
  |x::xs,y::aV,h,c=>
   unfold zv at he;split at he
   grind
   rename_i p l q r e g;injection e with e B;injection g with g n;subst e;subst g;subst B;subst n;split at he;rename_i t s;injection he with he;subst he;have A:us[f.offset]?=some (.int .i64 p):=by
    have:=eu (λz=>z[0]?) hu;simp only[CE,A6,er,R1]at this;rw[f2,<-AL];exact this
   have o:aI[f.offset]?=some (.int .i64 q):=by
    have:=eu (λz=>z[0]?) i;simp only[CE,A6,er,R1]at this;rw[f2,<-AL];exact this
   have v:us.toList.drop (k+1)=xs.map (aN.c1 β):=by
    have:=eu No hu;simpa[Np]using this
   have u:aI.toList.drop (k+1)=aV.map (aN.c1 β):=by
    have:=eu No i;simpa[Np]using this
   simp only[Zz,f5,ne_eq,not_false_eq_true,mO,iT,GA f3 f4 A,GA f3 f4 o,jc,XC w d f.type .i64 .i64 p q (GM f1)];by_cases m:p=q;subst m;simp only[beq_self_eq_true,alG,ve,nk,decide_true,AP];exact XA a (k+1) xs aV us aI t d f6 v u aL aL s;simp_all
   grind
   grind
theorem XB{el:gv}(h1:sY P el=true)(ae:km P el=true)(g:rk P el=false)(aT:P.cellsOf el=1):∀m k xs aV us aI b d,us.toList.drop k=xs.map (aN.c1 β)->aI.toList.drop k=aV.map (aN.c1 β)->xs.length=m->aV.length=m->zv xs aV=some b->(Y9 (d+1) el (P.cellsOf el) us aI (Nn k m)).run P w= .ok b w
 |0,k,xs,aV,us,aI,b,d,_,_,f,a,he=>by
  simp_all[zv,Y9]
 |m+1,k,xs,aV,us,aI,b,d,hu,h,f,a,he=>by
  match xs,aV,f,a with
  |x::xs,y::aV,f,a=>
   unfold zv at he;split at he
   grind
   rename_i p n q o c e;injection c with c A;injection e with e j;subst c;subst A;subst e;subst j;split at he;rename_i s r;injection he with he;subst he;have v:us[k*P.cellsOf el]?=some (.int .i64 p):=by
    have:=eu (λz=>z[0]?) hu;simp only[CE,A6,er,R1]at this;rw[aT,e4,<-AL];exact this
   have l:aI[k*P.cellsOf el]?=some (.int .i64 q):=by
    have:=eu (λz=>z[0]?) h;simp only[CE,A6,er,R1]at this;rw[aT,e4,<-AL];exact this
   have u:us.toList.drop (k+1)=xs.map (aN.c1 β):=by
    have:=eu No hu;simpa[Np]using this
   have t:aI.toList.drop (k+1)=aV.map (aN.c1 β):=by
    have:=eu No h;simpa[Np]using this
   rw[R7];simp only[Y9,iT,GA ae g v,GA ae g l,jc,XC w d el .i64 .i64 p q (GM h1)];by_cases i:p=q;subst i;simp only[beq_self_eq_true,alG,ve,nk,decide_true,AP];exact XB h1 ae g aT m (k+1) xs aV us aI s d u t aL aL r;simp_all
   grind
   grind
theorem Vq{el:gv}(h:FZ P el=true):sY P el=true/\km P el=true/\rk P el=false/\∃i,P.info? el=some i/\i.size=1/\P.cellsOf el=1:=by
 simp only[FZ,iv,yZ]at h;obtain⟨⟨⟨a,b⟩,c⟩,d⟩:=h;obtain⟨i,e⟩:=AC b;have d:=rx d;rw[AD e]at d;simp_all[Program.cellsOf,e,d]
theorem abP{t el:gv}(hu:P.underlying t=some (.pointer el)) A d:(xR (d+1) t (.pointer A) (.pointer none)).run P w= .ok A.isNone w:=by
 cases A<;>simp[xR,hg hu]
theorem abQ{t el:gv}(hu:P.underlying t=some (.slice el)) A a c1 b c2 d:(xR (d+1) t (.slice A a c1) (.slice none b c2)).run P w= .ok A.isNone w:=by
 cases A<;>simp[xR,hg hu]
theorem aqO{t:gv}{p q:Array gv}{b:Bool}(hu:P.underlying t=some (.func p q b)) d:(xR (d+1) t .nilFunc .nilFunc).run P w= .ok true w:=by
 simp[xR,hg hu]
theorem aqP{t:gv}{p q:Array gv}{b:Bool}(hu:P.underlying t=some (.func p q b)) f u v d:(xR (d+1) t (.func f u v) .nilFunc).run P w= .ok false w:=by
 simp[xR,hg hu]
theorem abX{U:cv}{neg:Bool}{t:gv}(r:dF n β L e a)(D:U.op= .binOp (if neg then .neq else .eql) t x y iS){k:Nat}(hk:Oa P t=some k)(hp:fH (.eqv neg k (bZ x) (bZ y)) e L h V):∃bL,V bL/\bL.ok L/\Yields P U a β L h bL:=by
 have f:=r.eval x;have d:=r.eval y;have fin:∀(u v:aA)(b:Bool),a.eval x=u->a.eval y=v->(∀w,(eqGuard (if neg then .neq else .eql) t x y u v).run P w= .ok () w)->(∀w,(binOp (if neg then .neq else .eql) t u v).run P w=(do pure (.bool (flip neg (<-J4 t u v))):Sem aA).run P w)->(∀w,(J4 t u v).run P w= .ok b w)->V (.v (.bool (flip neg b)))->∃bL,V bL/\bL.ok L/\Yields P U a β L h bL:=λu v b h1 ae F aT H I=>
  ⟨_,I,trivial,λw _=>aEP D h1 ae (F w) aT (H w)⟩
 unfold Oa at hk;split at hk;rename_i hu;injection hk with hk;subst hk;simp only[fH]at hp;split at hp;rename_i p q g j;rw[g]at f;rw[j]at d;refine fin _ _ (p==q) f d (λw=>?_) (λw=>?_) (λw=>?_) hp;cases neg<;>rfl;cases neg<;>rfl;exact run_equalIn_bool' w 9999 t p q hu
 grind
 rename_i el hu;injection hk with hk;subst hk;simp only[fH]at hp;split at hp;rename_i A g j;rw[g]at f;rw[j]at d;refine fin _ _ A.isNone f d (λw=>?_) (λw=>?_) (λw=>?_) hp;cases neg<;>rfl;cases neg<;>rfl;exact abP hu A 9999;rename_i i off g j;rw[g]at f;rw[j]at d;refine fin _ _ false f d (λw=>?_) (λw=>?_) (λw=>?_) (by cases neg<;>exact hp);cases neg<;>rfl;cases neg<;>rfl;exact abP hu (some ⟨β i,off,none⟩) 9999
 grind
 rename_i el hu;injection hk with hk;subst hk;simp only[fH]at hp;split at hp;rename_i A G c1 B c2 g j;rw[g]at f;rw[j]at d;refine fin _ _ A.isNone f d (λw=>?_) (λw=>?_) (λw=>?_) hp;cases neg<;>rfl;cases neg<;>rfl;exact abQ hu A G c1 B c2 9999;rename_i i off l c B c2 g j;rw[g]at f;rw[j]at d;refine fin _ _ false f d (λw=>?_) (λw=>?_) (λw=>?_) (by cases neg<;>exact hp);cases neg<;>rfl;cases neg<;>rfl;exact abQ hu (some ⟨β i,off,none⟩) l c B c2 9999
 grind
 rename_i K M N hu;injection hk with hk;subst hk;simp only[fH]at hp;split at hp;rename_i g j;rw[g]at f;rw[j]at d;refine fin _ _ true f d (λw=>?_) (λw=>?_) (λw=>?_) hp;cases neg<;>rfl;cases neg<;>rfl;exact aqO hu 9999;rename_i f1 f2 f3 g j;rw[g]at f;rw[j]at d;refine fin _ _ false f d (λw=>?_) (λw=>?_) (λw=>?_) (by cases neg<;>exact hp);cases neg<;>rfl;cases neg<;>rfl;exact aqP hu f1 f2 f3 9999
 grind
 rename_i s hu;split at hk;rename_i av;injection hk with hk;subst hk;simp only[iv,yZ]at av;obtain⟨⟨c1,c2⟩,C⟩:=av;rw[wC]at hp;simp only[fH]at hp;split at hp;rename_i xs aV g j;cases o:(ix xs.length s.size&&ix aV.length s.size)with
 |false=>grind
 |true=>
  rw[o]at hp;simp only[pG]at hp;simp only[iv]at o;split at hp;rename_i b he;have ex:=Hv (β:=β) g;have z:=Hv (β:=β) j;rw[ex]at f;rw[z]at d;have J:P.fieldsOf t=s:=by simp[ans,hu]
  refine fin _ _ b f d (λw=>?_) (λw=>?_) (λw=>?_) hp;exact aEM w _ t x y _ _ C;cases neg<;>rfl;show(xR (9999+1) t _ _).run P w=_;rw[aEO w 9999 t _ _ aL c2,J];exact XA (β:=β) s.toList 0 xs aV _ _ b 9998 c1 bc bc (by simp_all) (by simp_all) he
  grind
 grind
 grind
 rename_i m el hu;split at hk;rename_i av;injection hk with hk;subst hk;simp only[iv,yZ]at av;obtain⟨c1,C⟩:=av;obtain⟨d1,d2,d3,i,E,d4,d5⟩:=Vq c1;rw[wC]at hp;simp only[fH]at hp;split at hp;rename_i xs aV g j;cases o:(ix xs.length m&&ix aV.length m)with
 |false=>grind
 |true=>
  rw[o]at hp;simp only[pG]at hp;simp only[iv]at o;split at hp;rename_i b he;have ex:=Hv (β:=β) g;have z:=Hv (β:=β) j;rw[ex]at f;rw[z]at d;refine fin _ _ b f d (λw=>?_) (λw=>?_) (λw=>?_) hp;exact aEM w _ t x y _ _ C;cases neg<;>rfl;show(xR (9999+1) t _ _).run P w=_;rw[aEN w 9999 _ _ hu E,JW];exact XB (β:=β) d1 d2 d3 d5 m 0 xs aV _ _ b 9998 bc bc (rx o.1) (rx o.2) he
  grind
 grind
 grind
 grind
end
section
variable {P:fk}{am:J}{bh:bD}{n:Nat}{β:Nat->Nat}{L:List LE}{h:J}{e:cg}{a:Act}{w:bD}
theorem dm.Rp(m:dm am bh β L h w){U:Obj}(D:h b=some U) p:dm am bh β L (h.put b p) {w with heap:=w.heap.setIfInBounds b p}:=by
 have G:b<w.heap.size:=m.cJ.hw.lt aL;have s:∀i l,cI L i=some l->l.live=true->β i≠b:=λi l al j e=>by
  have:=m.hole i l al j
  grind
 have q:∀o,o≠b->(w.heap.setIfInBounds b p)[o]?=w.heap[o]? :=λo a=>by grind
 refine⟨⟨λo U a=>?_,λi l al=>?_⟩,λi l al j=>?_,m.inj,λi l al j=>by simpa using m.lt i l al j,m.df,m.os,m.tape,m.output,by simpa using m.size,λo a u=>?_,λo a=>?_⟩;show(w.heap.setIfInBounds b p)[o]?=some U;by_cases e:o=b;subst e;rw[J.b8]at a;grind;rw[J.cD _ _ e]at a;rw[q o e];exact m.cJ.hw o U a;have d:=m.cJ.cJ i l al;cases l with
 |own x H=>simp only[LE.fX]at d⊢;rw[q _ (s i _ al rfl)];exact d
 |b5 F=>exact d
 |row bF size A n cap xs=>
  simp only[LE.fX]at d⊢;obtain⟨⟨h1,ae⟩,t⟩:=d;refine⟨⟨h1,?_⟩,t⟩;rcases ae with ae|⟨g,c,y,r,v,z,B⟩
  grind
  injection r with r I C;have E:=t _ r;subst r;exact .inr ⟨g,c,y,by rw[C],v,by rw[q _ (by have:=s i _ al rfl;grind)];exact z,B⟩
 |map f k=>simp only[LE.fX]at d⊢;rw[q _ (s i _ al rfl)];exact d
 |gone=>trivial
 rw[J.cD _ _ (s i l al j)];exact m.hole i l al j;show(w.heap.setIfInBounds b p)[o]?=_;by_cases e:o=b;subst e;rcases m.fresh o aL with e|e
 grind
 omega;rw[q o e];exact m.frame o a u;by_cases e:o=b;subst e;exact m.fresh o aL;rw[J.cD _ _ e]at a;exact m.fresh o a
theorem dm.aiE(m:dm am bh β L h w) U:dm am bh β L (h.put w.heap.size U) {w with heap:=w.heap.push U}:=by
 have g:∀o,o<w.heap.size->(w.heap.push U)[o]?=w.heap[o]? :=λo a=>by grind
 have r:∀i l,cI L i=some l->l.live=true->β i≠w.heap.size:=λi l al b e=>by
  have:=m.lt i l al b;omega
 refine⟨⟨λo d a=>?_,λi l al=>?_⟩,λi l al b=>?_,m.inj,λi l al b=>?_,m.df,m.os,m.tape,m.output,?_,λo a j=>?_,λo a=>?_⟩;show(w.heap.push U)[o]?=some d;by_cases e:o=w.heap.size;subst e;rw[J.b8]at a;grind;rw[J.cD _ _ e]at a;rw[g o (m.cJ.hw.lt aL)];exact m.cJ.hw o d a;have c:=m.cJ.cJ i l al;cases l with
 |own p t=>grind [LE.fX]
 |b5 s=>exact c
 |row bF size A n cap xs=>
  simp only[LE.fX]at c⊢;obtain⟨⟨h1,ae⟩,q⟩:=c;refine⟨⟨h1,?_⟩,q⟩
  grind
 |map f k=>grind [LE.fX]
 |gone=>trivial
 rw[J.cD _ _ (r i l al b)];exact m.hole i l al b;show _<(w.heap.push U).size;rw[RA];have:=m.lt i l al b;omega;show _<=(w.heap.push U).size;rw[RA];have:=m.size;omega;show(w.heap.push U)[o]?=_;have:=m.size;rw[g o I];exact m.frame o a j;by_cases e:o=w.heap.size;subst e;exact .inr m.size;rw[J.cD _ _ e]at a;exact m.fresh o a
def qY:List ja->List Int->Nat->Option (Nat×aA)
 |[],_,_=>none
 |x::l,k,i=>if k=x.k then some (i,x.v)else qY l k (i+1)
theorem Tz(k:List Int):∀(l:List ja)(i:Nat),(qY l k i).map (·.2)=ke l k
 |[],i=>rfl
 |x::l,i=>by
  simp only[qY,ke];split;rfl;exact Tz k l (i+1)
theorem acs{k:List Int}{v:aA}{c:Nat}:∀l i,qY l k i=none->upsert l k v c=l++[⟨k,v,c⟩]
 |[],i,_=>rfl
 |x::l,i,a=>by
  simp only[qY]at a;split at a
  grind
  rename_i hk;simp only[upsert,aC hk,List.cons_append,acs l (i+1) a]
theorem acu{k:List Int}{v u:aA}{c:Nat}{o:Nat}:∀l i,qY l k i=some (o,u)->∃q,o=i+q/\∃x,l[q]?=some x/\x.k=k/\upsert l k v c=l.set q ⟨x.k,v,x.born⟩
 |[],i,a=>by cases a
 |x::l,i,a=>by
  simp only[qY]at a;split at a;simp_all[upsert];rename_i hk;obtain⟨q,h1,y,ae,b,aT⟩:=acu (v:=v) (c:=c) l (i+1) a;exact⟨q+1,I,y,aL,b,by simp_all[upsert,aT]⟩
theorem VL(hk:BZ P t=some ca):(ca=0/\P.underlying t=some (.int .i64))\/(∃a,ca=5+a.size/\P.underlying t=some (.struct a)/\BX P a.toList 0=true/\P.stoodInHeld t=false)\/∃m el,ca=5+m/\P.underlying t=some (.array m el)/\FZ P el=true:=by
 unfold BZ at hk;cases b:sY P t with
 |true=>
  rw[b]at hk;injection hk with hk;exact .inl ⟨hk.symm,GM b⟩
 |false=>
  grind
theorem ae7:∀xs ee,ints xs=some ee->xs=ee.map λa=>aN.v (.int .i64 a)
 |[],ee,b=>by injection b with b;grind
 |x::xs,ee,b=>by
  unfold ints at b;split at b
  grind
  rename_i a l c;injection c with c d;subst c;subst d;split at b;rename_i r e;injection b with b;subst b;rw[er,<-ae7 _ r e]
  grind
  grind
theorem af3{x:aN}(a:Pu ca x=some ee)(b:ca=0\/5<=ca):x.c β=k8 ca ee/\ee.length=uL ca:=by
 rcases b with rfl|b;simp only[Pu]at a;split at a;injection a with a;subst a;exact⟨rfl,rfl⟩
 grind
 match ca,b with
 |ca+1,b=>
  have a:(match ET x with|some xs=>(match ints xs with|some ee=>bif ix (ee.length+5) (ca+1)then some ee else none|none=>none)|none=>none)=some ee:=a;split at a;rename_i xs f;split at a;rename_i d g;cases e:ix (d.length+5) (ca+1)with
  |false=>grind
  |true=>
   rw[e]at a;injection a with a;subst a;have e:=rx e;refine⟨?_,by simp only[uL];omega⟩;rw[Hv f,ae7 _ _ g];simp only[k8,ig];rfl
  grind
  grind
theorem Tm:∀(xs aV:List Int),xs.length=aV.length->zv (xs.map λa=>aN.v (.int .i64 a)) (aV.map λa=>aN.v (.int .i64 a))=some (decide (xs=aV))
 |[],[],_=>rfl
 |x::xs,y::aV,al=>by
  simp only[er,zv,Tm xs aV aL,A1];simp
 |[],y::aV,al=>by grind
 |x::xs,[],al=>by grind
theorem aji(em:Bool)(d:Nat)(us:Array aA):∀(a:List JI)(k:Nat)(ee:List Int),BX P a k=true->us.toList.drop k=ee.map (bC .i64)->ee.length=a.length->(forIn a J6 λf(_:PUnit)=>(if f.name≠ "_"then(do sc em (d+1) f.type (<-part f.type us f.offset);pure (Y4 J6))else(do pure J6;pure (Y4 J6)):Sem (ForInStep PUnit))).run P w= .ok () w
 |[],k,ee,_,_,_=>by simp
 |f::a,k,ee,b,hu,al=>by
  simp only[BX,iv,yZ,vx]at b;obtain⟨⟨⟨⟨⟨f1,f2⟩,f3⟩,f4⟩,f5⟩,f6⟩:=b;have f2:=rx f2;match ee,al with
  |q::ee,al=>
   have e:us[f.offset]?=some (.int .i64 q):=by
    have:=eu (λz=>z[0]?) hu
    grind
   have c:us.toList.drop (k+1)=ee.map (bC .i64):=by
    have:=eu No hu;simpa[Np]using this
   have h1:(sc em (d+1) f.type (.int .i64 q)).run P w= .ok () w:=by
    simp[sc,hg (GM f1)]
   simp only[amx,aS f5,iT,GA f3 f4 e,jc,h1,l3];exact aji em d us a (k+1) ee f6 c aL
theorem aEK{m:Nat}(hu:P.underlying t=some (.array m el))(e:FZ P el=true) em d us(hm:us.size=m)(b:∀v∈us.toList,∃q,v= .int .i64 q):(sc em (d+2) t (.agg us)).run P w= .ok () w:=by
 obtain⟨d1,d2,d3,i,a,d4,d5⟩:=Vq e;unfold sc;simp only[iT,hg hu,jc];simp only[aIF,aIG,Nat.sub_zero,Nat.add_one_sub_one,Nat.div_one];have key:∀(c k:Nat),k+c<=m->(forIn (Nn k c) J6 λi(_:PUnit)=>((do sc em (d+1) el (<-part el us (i*(<-sizeOf el)));pure (Y4 J6)):Sem (ForInStep PUnit))).run P w= .ok () w:=by
  intro c;induction c with
  |zero=>simp
  |succ c h=>
   intro k hk;have j:k<us.size:=I;obtain⟨q,g⟩:=b us[k] bc;have f:us[k*1]?=some (.int .i64 q):=aL;have h1:(sc em (d+1) el (.int .i64 q)).run P w= .ok () w:=by
    simp[sc,hg (GM d1)]
   rw[R7];simp only[amx,iT,run_sizeOf a,d4,GA d2 d3 f,jc,h1,l3]
   grind
 simp_all
theorem Xz(hk:BZ P t=some ca)(al:ee.length=uL ca) em:(sc em 10000 t (k8 ca ee)).run P w= .ok () w:=by
 rcases VL hk with⟨rfl,hu⟩|⟨b,rfl,hu,f,hp⟩|⟨m,el,rfl,hu,g⟩;match ee,al with
 |[a],_=>
  have:∀d,(sc em (d+1) t (.int .i64 a)).run P w= .ok () w:=λd=>by simp[sc,hg hu]
  exact this 9999
 have e:ee.length=b.toList.length:=by
  simp[al,uL]
 have c:k8 (5+b.size) ee= .agg (ee.map (bC .i64)).toArray:=by rw[wC];rfl
 rw[c];show(sc em (9999+1) t _).run P w=_;have:=aji (P:=P) (w:=w) em 9998 (ee.map (bC .i64)).toArray b.toList 0 ee f bc e;unfold sc;simp only[iT,hg hu,jc];rw[<-Array.forIn_toList];refine(eu (λz=>z.andThen λ_ bz=>CP P (pure ()) bz) this).trans ?_;rfl;have e:ee.length=m:=by
  simp[al,uL]
 have c:k8 (5+m) ee= .agg (ee.map (bC .i64)).toArray:=by rw[wC];rfl
 rw[c];show(sc em (9999+1) t _).run P w=_;exact aEK hu g em 9998 _ aL λv h=>by
  grind
theorem acw{a:Int}:∀l i,(∀x∈l,x.k.length=1)->ED (.int .i64) (.int .i64 a) (l.map (k5 0)) i=some (qY l [a] i)
 |[],i,_=>rfl
 |x::l,i,c=>by
  have h1:=c x bc;match hk:x.k,h1 with
  |[b],_=>
   have e:(k5 0 x).key= .int .i64 b:=by simp[k5,k8,hk]
   have f:(k5 0 x).val=x.v:=rfl;simp only[er,ED,e,Instr.sameNow,mO,qY,hk,f];by_cases g:a=b
   grind
   have:(a==b)=false:=aL;rw[this];simp only[A1,and_true,aC g];exact acw l (i+1) λy d=>c y (by simp[d])
theorem ajk{t:Nat}{b:Array JI}(hu:P.underlying t=some (.struct b))(d:BX P b.toList 0=true)(hp:P.stoodInHeld t=false){ee:List Int}(al:ee.length=b.size):∀l i,(∀x∈l,x.k.length=b.size)->(RM t (k8 (5+b.size) ee) (l.map (k5 (5+b.size))) i).run P w= .ok (qY l ee i) w
 |[],i,_=>by rfl
 |x::l,i,c=>by
  have e:∀k,k8 (5+b.size) k= .agg (k.map (bC .i64)).toArray:=λk=>by rw[wC];rfl
  have h:P.fieldsOf t=b:=by simp[ans,hu]
  have h1:=c x bc;have j:(J4 t (k8 (5+b.size) ee) (k8 (5+b.size) x.k)).run P w= .ok (decide (ee=x.k)) w:=by
   rw[e,e];show(xR (9999+1) t _ _).run P w=_;rw[aEO w 9999 t _ _ aL hp,h];refine XA (β:=λ_=>0) b.toList 0 (ee.map λa=>aN.v (.int .i64 a)) (x.k.map λa=>aN.v (.int .i64 a)) _ _ _ 9998 d ?_ ?_ aL aL (Tm _ _ I);simp[aN.c1];simp[aN.c1]
  have m:(k5 (5+b.size) x).key=k8 (5+b.size) x.k:=rfl;have f:(k5 (5+b.size) x).val=x.v:=rfl;simp only[er,RM,m,f,iT,j,jc,qY];by_cases n:ee=x.k;simp_all;simp only[n,decide_false,ve,nk];exact ajk hu d hp al l (i+1) λy g=>c y (by simp[g])
theorem ajl{t m el:Nat}(hu:P.underlying t=some (.array m el))(d:FZ P el=true){ee:List Int}(al:ee.length=m):∀l i,(∀x∈l,x.k.length=m)->(RM t (k8 (5+m) ee) (l.map (k5 (5+m))) i).run P w= .ok (qY l ee i) w
 |[],i,_=>by rfl
 |x::l,i,b=>by
  obtain⟨d1,d2,d3,o,g,d4,d5⟩:=Vq d;have c:∀k,k8 (5+m) k= .agg (k.map (bC .i64)).toArray:=λk=>by rw[wC];rfl
  have h1:=b x bc;have h:(J4 t (k8 (5+m) ee) (k8 (5+m) x.k)).run P w= .ok (decide (ee=x.k)) w:=by
   rw[c,c];show(xR (9999+1) t _ _).run P w=_;rw[aEN w 9999 _ _ hu g,JW];refine XB (β:=λ_=>0) d1 d2 d3 d5 m 0 (ee.map λa=>aN.v (.int .i64 a)) (x.k.map λa=>aN.v (.int .i64 a)) _ _ _ 9998 ?_ ?_ aL aL (Tm _ _ I);simp[aN.c1];simp[aN.c1]
  have j:(k5 (5+m) x).key=k8 (5+m) x.k:=rfl;have e:(k5 (5+m) x).val=x.v:=rfl;simp only[er,RM,j,e,iT,h,jc,qY];by_cases n:ee=x.k;simp_all;simp only[n,decide_false,ve,nk];exact ajl hu d al l (i+1) λy f=>b y (by simp[f])
theorem XD(hk:BZ P t=some ca)(al:ee.length=uL ca){l:List ja}(c:∀x∈l,x.k.length=uL ca):(EC t (k8 ca ee) (l.map (k5 ca))).run P w= .ok (qY l ee 0) w:=by
 rcases VL hk with⟨rfl,hu⟩|⟨b,rfl,hu,g,hp⟩|⟨m,el,rfl,hu,h⟩;match ee,al with
 |[a],_=>
  have f:k8 0 [a]= .int .i64 a:=rfl;simp only[EC,iT,hg hu,jc,f,acw l 0 c,l3]
 have d:uL (5+b.size)=b.size:=by simp[uL]
 rw[d]at al c;have:=ajk (P:=P) (w:=w) hu g hp al l 0 c;cases l with
 |nil=>simp[EC,hg hu,ED,qY]
 |cons x l=>
  have f:∀k,k8 (5+b.size) k= .agg (k.map (bC .i64)).toArray:=λk=>by rw[wC];rfl
  have e:ED (.struct b) (k8 (5+b.size) ee) ((x::l).map (k5 (5+b.size))) 0=none:=by
   rfl
  simp only[EC,iT,hg hu,jc,e];omega
 have d:uL (5+m)=m:=by simp[uL]
 rw[d]at al c;have:=ajl (P:=P) (w:=w) hu h al l 0 c;cases l with
 |nil=>simp[EC,hg hu,ED,qY]
 |cons x l=>
  have f:∀k,k8 (5+m) k= .agg (k.map (bC .i64)).toArray:=λk=>by rw[wC];rfl
  have e:ED (.array m el) (k8 (5+m) ee) ((x::l).map (k5 (5+m))) 0=none:=by
   rfl
  simp only[EC,iT,hg hu,jc,e];omega
theorem aE6 ca ee(h1:ee.length=uL ca):JL 10000 (k8 ca ee) (k8 ca ee)=true:=by
 match ca with
 |0=>match ee,h1 with|[a],_=>simp[k8,JL]
 |ca+1=>
  have key:∀(d:Nat)(us:Array aA),((us.toList.zip us.toList).all λ(x,y)=>JL d x y)=true->JL (d+1) (.agg us) (.agg us)=true:=λd us b=>by
   unfold JL
   grind
  refine key 9999 _ ?_
  grind [JL]
theorem alx(a:M6 P t=some z):(YG t).run P w= .ok z w:=by
 unfold M6 at a;split at a;rename_i i b;simp[YG,Cn,b,a]
 grind
theorem af2(hk:BZ P t=some ca):ca=0\/5<=ca:=by
 rcases VL hk with⟨rfl,_⟩|⟨a,rfl,_⟩|⟨m,el,rfl,_⟩;omega;omega;omega
theorem ab5(r:dF n β L e a){U:cv}{k:gu}{ok:Bool}(g:U.op= .lookup t x k ok)(hu:P.underlying t=some (.map qt el))(hk:BZ P qt=some ca)(q:M6 P el=some z)(d:fH (.lookup ca z (bZ x) (bZ k) ok) e L h V):∃bL,V bL/\bL.ok L/\Yields P U a β L h bL:=by
 have j:=r.eval x;have m:=r.eval k;simp only[fH]at d;split at d;rename_i b ee hp s;obtain⟨l,B,⟨hm,o⟩,f⟩:=d;obtain⟨u,i⟩:=af3 (β:=β) s (af2 hk);rw[u]at m;rw[hp]at j;have run:∀w,lg β L h w->(amf t (a.eval x) (a.eval k) ok).run P w= .ok (if ok then .tuple #[(ke l ee).getD z,.bool (ke l ee).isSome]else(ke l ee).getD z) w:=λw hw=>by
  have v:=hw.hw _ _ hm;have y:(Fi b).run P w= .ok (.map (l.map (k5 ca)).toArray B) w:=by simp[Fi,CP,v,kZ]
  have A:=Tz ee l 0;rw[<-A];simp only[amf,iT,hg hu,jc,j,aN.c,aN.c1,y,l3,m,Xz hk i,XD hk i o];cases C:qY l ee 0 with
  |none=>simp[alx q]
  |some p=>simp
 cases ok with
 |true=>exact⟨_,f,trivial,λw hw=>by simp only[dD,g,iT,run w hw,jc,l3];rfl⟩
 |false=>exact⟨_,f,trivial,λw hw=>by simp only[dD,g,iT,run w hw,jc,l3];rfl⟩
 grind
theorem ab4(r:dF n β L e a){U:cv}(i:U.op= .call {callee:=.builtin .len,args:=#[x],argTypes:=#[t]})(hu:P.underlying t=some (.map qt el))(d:fH (.IF (bZ x)) e L h V):∃bL,V bL/\bL.ok L/\Yields P U a β L h bL:=by
 have f:=r.eval x;simp only[fH]at d;split at d;rename_i b hp;obtain⟨ca,l,m,⟨hm,o⟩,g⟩:=d;rw[hp]at f;refine⟨_,g,trivial,λw hw=>?_⟩;have j:=hw.hw _ _ hm;have k:(Fi b).run P w= .ok (.map (l.map (k5 ca)).toArray m) w:=by simp[Fi,CP,j,kZ]
 simp[dD,i,u5,invoke,builtin,f,aN.c,aN.c1,YS,hg hu,goInt,k]
 grind
theorem arc{U:cv}(b:U.op= .makeMap t none)(c:jT am bh n Any K next)(m:dm am bh β L h w)(r:dF n β L e a)(d:ei L)(hp:gB P n .P0 U.dst e L h K):U.wp P a w next Q:=by
 obtain⟨k⟩:=hp;have hk:=k w.heap.size (m.cJ.hw.out (dM _));refine s3 (v:=.map (some w.heap.size)) (bz:={w with heap:=w.heap.push (.map #[] 0)}) (by simp[dD,b,Instr.makeMap]) ?_;exact kM c trivial (m.aiE _) r d (x:=.v _) trivial hk
theorem aEU ca ee(h1:ee.length=uL ca):(ame (k8 ca ee) (k8 ca ee)).run P w= .ok (k8 ca ee) w:=by
 simp[ame,aE6 ca ee h1]
theorem ara{U:cv}{k v:gu}(M:U.op= .mapUpdate t x k v)(hu:P.underlying t=some (.map qt el))(hk:BZ P qt=some ca)(R:jT am bh n Any K next)(m:dm am bh β L h w)(r:dF n β L e a)(S:ei L)(hp:gB P n (.PU ca (bZ x) (bZ k) (bZ v)) U.dst e L h K):U.wp P a w next Q:=by
 have z:=r.eval x;have C:=r.eval k;have s:=r.eval v;simp only[gB]at hp;split at hp;rename_i b ee y Z J N;obtain⟨l,d,⟨hm,E⟩,D⟩:∃l d,y' h b ca l d/\hJ n U.dst (.v fS) e L (h.put b (kZ ca (Sx.upsert l ee y d) (if(ke l ee).isSome then d else d+1))) K:=by
  rcases hp with⟨l,d,hm,k⟩|⟨l,d,hm,k⟩
  grind
  grind
 obtain⟨O,g⟩:=af3 (β:=β) J (af2 hk);rw[O]at C;rw[Z]at z;rw[N]at s;have F:=m.cJ.hw _ _ hm;have G:(Fi b).run P w= .ok (.map (l.map (k5 ca)).toArray d) w:=by simp[Fi,CP,F,kZ]
 have I:∀B,(setObj b B).run P w= .ok () {w with heap:=w.heap.setIfInBounds b B}:=λB=>by simp[setObj,CP,F,kZ]
 have j:=Tz ee l 0;have run:∃jK,jK=(if(ke l ee).isSome then d else d+1)/\(Zc t (a.eval x) (a.eval k) (a.eval v)).run P w= .ok () {w with heap:=w.heap.setIfInBounds b (kZ ca (upsert l ee y d) jK)}:=by
  cases f:qY l ee 0 with
  |none=>
   rw[f]at j;refine⟨d+1,aL,?_⟩;rw[acs l 0 f];simp only[Zc,iT,hg hu,jc,z,aN.c,aN.c1,G,C,Xz hk g,XD hk g E,f,I,s];simp[kZ,k5]
  |some p=>
   obtain⟨o,u⟩:=p;rw[f]at j;obtain⟨q,h1,dQ,ae,H,aT⟩:=acu (v:=y) (c:=d) l 0 f;rw[Nat.zero_add]at h1;subst h1;refine⟨d,aL,?_⟩;have Y:(((l.map (k5 ca)).toArray[o]?).map (·.key)).getD (k8 ca ee)=k8 ca ee:=by simp[ae,k5,H]
   simp only[Zc,iT,hg hu,jc,z,aN.c,aN.c1,G,C,Xz hk g,XD hk g E,f,Y,aEU ca ee g,I,s];rw[aT];congr 3;simp only[kZ];congr 1;apply Array.ext_getElem?;intro i;rw[Array.getElem?_modify];simp only[List.getElem?_toArray,List.map_set,List.getElem?_set,de,List.length_map];by_cases T:o=i;subst T;obtain⟨V,W⟩:=List.getElem?_eq_some_iff.1 ae;simp[V,k5,H,W]
   grind
 obtain⟨jK,A,X⟩:=run;rw[<-A]at D;refine MZ (bz:={w with heap:=w.heap.setIfInBounds b (kZ ca (upsert l ee y d) jK)}) (by simp[dD,M,X]) ?_;exact kM R trivial (m.Rp hm _) r S (x:=.v fS) trivial D
 grind
theorem dm.aqv(m:dm am bh β L h w):dm am bh β L h w.drew:=⟨⟨m.cJ.hw,λi l al=>by cases l<;>exact m.cJ.cJ i _ al⟩,m.hole,m.inj,m.lt,m.df,m.os,m.tape,m.output,m.size,m.frame,m.fresh⟩
theorem are{U:cv}(j:U.op= .range t x)(hu:P.underlying t=some (.map qt el))(l:jT am bh n Any K next)(m:dm am bh β L h w)(r:dF n β L e a)(o:ei L)(hp:gB P n (.range (bZ x)) U.dst e L h K):U.wp P a w next Q:=by
 have g:=r.eval x;simp only[gB]at hp;split at hp;rename_i b s;obtain⟨es,d,p,k⟩:=hp;rw[s]at g;have u:=m.cJ.hw _ _ p;have hk:=k w.heap.size (m.cJ.hw.out (dM _));refine s3 (v:=.pointer (some ⟨w.heap.size,0,none⟩)) (bz:={w with heap:=w.heap.push (.mapIter (some b) d #[] d)}) ?_ ?_;have q:(Fi b).run P w= .ok (.map es d) w:=by simp[Fi,CP,u]
 have i:∀f,(newObj f).run P w= .ok w.heap.size {w with heap:=w.heap.push f}:=λf=>by rfl
 simp only[dD,j,Instr.range,iT,hg hu,jc,g,aN.c,aN.c1,q,l3,i];exact kM l trivial (m.aiE _) r o (x:=.v _) trivial hk
 grind
theorem ard{U:cv}(j:U.op= .next x false)(k:jT am bh n Any K next)(m:dm am bh β L h w)(r:dF n β L e a)(l:ei L)(hp:gB P n (.next (bZ x)) U.dst e L h K):U.wp P a w next Q:=by
 have f:=r.eval x;simp only[gB]at hp;split at hp;rename_i q E;obtain⟨i,t,B,p,seen,es,o,A,C,d,done,more⟩:=hp;rw[E]at f;have u:=m.cJ.hw _ _ o;have F:=m.cJ.hw _ _ A;rcases run_next_at (P:=P) w U.type q i t B seen es p u F C d with⟨z,g⟩|⟨b,y,s,D,g⟩;refine s3 (v:=.tuple #[.bool false]) (bz:=w) (by simp[dD,j,f,aN.c,aN.c1,g]) ?_;exact kM k trivial m r l (x:=.v _) trivial (done z);refine s3 (v:=.tuple #[.bool true,b.key,b.val]) (bz:=aIw s q (.mapIter (some i) t (seen.push b.born) p)) (by simp[dD,j,f,aN.c,aN.c1,g]) ?_;have m1:dm am bh β L h s:=by
  rcases D with rfl|rfl;omega;exact m.aqv
 exact kM k trivial (m1.Rp o _) r l (x:=.v _) trivial (more b y)
 grind
theorem aq9{U:cv}(j:U.op= .entry x)(l:jT am bh n Any K next)(m:dm am bh β L h w)(r:dF n β L e a)(o:ei L)(hp:gB P n (.entry (bZ x)) U.dst e L h K):U.wp P a w next Q:=by
 have d:=r.eval x;simp only[gB]at hp;split at hp;rename_i q z;obtain⟨g,y,t,seen,es,b,s,p,he,i,k⟩:=hp;rw[z]at d;have f:=m.cJ.hw _ _ s;have A:=m.cJ.hw _ _ p;have u:=run_entry_at (P:=P) w q g y seen es t b f A he i;refine s3 (v:=.tuple #[b.key,b.val]) (bz:=w) (by simp[dD,j,d,aN.c,aN.c1,u]) ?_;exact kM l trivial m r o (x:=.v _) trivial k
 grind
end
section
variable {P:fk}{am:J}{bh:bD}{n:Nat}{β:Nat->Nat}{L:List LE}{h:J}{e:cg}{a:Act}{w:bD}
theorem afB k(hk:jd k=true) d K:gB P n k d e L h K=fH k e L h λx=>hJ n d x e L h K:=by
 cases k<;>first|rfl|grind [jd]
theorem Tr{U:cv}(r:dF n β L e a)(J:ei L)(hk:jd (bW P U.op)=true)(hp:fH (bW P U.op) e L h V):∃bL,V bL/\bL.ok L/\Yields P U a β L h bL:=by
 have bad:fH .bad e L h V->∃bL,V bL/\bL.ok L/\Yields P U a β L h bL:=λK=>K.elim;cases j:U.op with
 |move x=>rw[j]at hp;exact(ab6 r j hp)
 |assign x=>rw[j]at hk;cases hk
 |pick c x y=>rw[j]at hp;exact(ab8 r j hp)
 |alloc t=>rw[j]at hk;simp only[bW]at hk;(repeat' split at hk)<;>cases hk
 |box t x=>rw[j]at hk;cases hk
 |buildSlice t len G=>rw[j]at hk;simp only[bW]at hk;(repeat' split at hk)<;>cases hk
 |load t x=>
  rw[j]at hp;simp only[bW]at hp;split at hp;rename_i o;refine(Ts r J j o ?_);omega;exact bad hp
 |store t x y=>rw[j]at hk;simp only[bW]at hk;(repeat' split at hk)<;>cases hk
 |nilCheck x=>rw[j]at hp;exact(ab7 r j hp)
 |binOp op t x y iS=>
  rw[j]at hp;have H:fH (.arith op (bZ x) (bZ y)) e L h V->∃bL,V bL/\bL.ok L/\Yields P U a β L h bL:=λu=>(aqY r j u);have R:fH (.cmp op (bZ x) (bZ y)) e L h V->∃bL,V bL/\bL.ok L/\Yields P U a β L h bL:=λu=>(aq0 r j u);have I:fH (.Kz op (bZ x) (bZ y)) e L h V->∃bL,V bL/\bL.ok L/\Yields P U a β L h bL:=λu=>(aq2 r j u);cases op with
  |add=>
   simp only[bW]at hp;split at hp
   grind
   exact w3 r j (λq=>by cases q.1) hp
  |sub=>
   simp only[bW]at hp;split at hp
   grind
   exact w3 r j (λq=>by cases q.1) hp
  |mul=>
   simp only[bW]at hp;split at hp
   grind
   exact w3 r j (λq=>by cases q.1) hp
  |quo=>
   simp only[bW]at hp;split at hp
   grind
   exact w3 r j (λq=>by cases q.1) hp
  |rem=>
   simp only[bW]at hp;split at hp
   grind
   exact w3 r j (λq=>by cases q.1) hp
  |eql=>
   simp only[bW]at hp;split at hp
   grind
   split at hp;exact w3 r j (λq=>by cases q.1) hp;split at hp;rename_i k hk;exact abX (neg:=false) r j hk hp;exact bad hp
  |neq=>
   simp only[bW]at hp;split at hp
   grind
   split at hp;exact w3 r j (λq=>by cases q.1) hp;split at hp;rename_i k hk;exact abX (neg:=true) r j hk hp;exact bad hp
  |lss=>
   simp only[bW]at hp;split at hp
   grind
   exact w3 r j (λq=>by cases q.1) hp
  |leq=>
   simp only[bW]at hp;split at hp
   grind
   exact w3 r j (λq=>by cases q.1) hp
  |gtr=>
   simp only[bW]at hp;split at hp
   grind
   exact w3 r j (λq=>by cases q.1) hp
  |geq=>
   simp only[bW]at hp;split at hp
   grind
   exact w3 r j (λq=>by cases q.1) hp
  |shr=>
   simp only[bW]at hp;exact aq5 r j hp
  |_=>exact w3 r j (λq=>by cases q.1) hp
 |unOp op t x=>
  rw[j]at hp;cases op with
  |not=>exact(aq4 r j hp)
  |neg=>
   simp only[bW]at hp;split at hp;exact(aq3 r j hp);exact bad hp
  |_=>exact hp.elim
 |fieldAddr t x i=>
  rw[j]at hp;simp only[bW]at hp;split at hp;rename_i f C;split at hp;rename_i o;exact(ab0 r j C o hp);exact bad hp;exact bad hp
 |indexAddr t x i=>
  rw[j]at hp;simp only[bW]at hp;split at hp;rename_i el hu;split at hp;rename_i o;exact(ab1 r j hu o hp);exact bad hp;rename_i m el hu;split at hp;rename_i o;exact(ab2 r j hu o hp);exact bad hp;exact bad hp
 |extract x i=>rw[j]at hp;exact(abY r j hp)
 |makeSlice t x y=>rw[j]at hk;simp only[bW]at hk;(repeat' split at hk)<;>cases hk
 |makeFunc fn first W=>rw[j]at hk;cases fn<;>simp only[bW]at hk<;>(repeat' split at hk)<;>cases hk
 |call c=>
  rw[j]at hp;obtain⟨O,args,E⟩:=c;simp only[bW]at hp;cases O with
  |value f=>
   cases f with
   |func f=>exact hp.elim
   |tmp t=>exact hp.elim
   |const v=>exact hp.elim
   |global g=>exact hp.elim
  |invoke x y=>exact hp.elim
  |builtin b=>
   cases b with
   |append=>
    simp only at hp;split at hp;rename_i x y t iS D F;split at hp;rename_i el hu;split at hp;rename_i s S az he;split at hp;rename_i Q;subst Q;have p:args=#[x,y]:=aL;have A:E=#[t,t]:=aL;subst p;subst A;exact hp.elim;exact bad hp;exact bad hp;exact bad hp;exact bad hp
   |len=>
    simp only at hp;split at hp;rename_i x t D F;have p:args=#[x]:=aL;have A:E=#[t]:=aL;subst p;subst A;split at hp;rename_i el hu;exact(ab3 r j hu hp);rename_i qt el hu;exact(ab4 r j hu hp);rename_i hu;exact ab' r j hu hp;exact hp.elim;exact bad hp
   |min=>
    simp only at hp;split at hp;rename_i x y D;have p:args=#[x,y]:=aL;subst p;exact(Oe (kJ:=false) r j hp);exact bad hp
   |max=>
    simp only at hp;split at hp;rename_i x y D;have p:args=#[x,y]:=aL;subst p;exact(Oe (kJ:=true) r j hp);exact bad hp
   |_=>exact hp.elim
 |ready g=>rw[j]at hk;cases hk
 |waits g=>rw[j]at hk;cases hk
 |insert t m k v=>rw[j]at hk;cases hk
 |convert s d x=>exact aq1 r j hp
 |sliceToArrayPointer t x=>rw[j]at hk;cases hk
 |makeInterface t x=>rw[j]at hk;cases hk
 |makeChan t x=>rw[j]at hk;cases hk
 |index t x i=>rw[j]at hk;cases hk
 |mapEntry t m k=>rw[j]at hk;cases hk
 |entryStore t m s v=>rw[j]at hk;cases hk
 |range t x=>rw[j]at hk;simp only[bW]at hk;(repeat' split at hk)<;>cases hk
 |next x b=>rw[j]at hk;simp only[bW]at hk;(repeat' split at hk)<;>cases hk
 |entry x=>rw[j]at hk;cases hk
 |typeAssert x t s b=>rw[j]at hk;cases hk
 |go c=>rw[j]at hk;cases hk
 |defer c=>rw[j]at hk;cases hk
 |panic x=>rw[j]at hk;cases hk
 |send c x=>rw[j]at hk;cases hk
 |recv t c b=>rw[j]at hk;cases hk
 |select cs b=>rw[j]at hk;cases hk
 |build t G=>
  rw[j]at hp;simp only[bW]at hp;split at hp;rename_i i B;split at hp;rename_i z l w al;split at al;rename_i M;exact(abV r j B w M al hp);exact(abW r j B w al hp);exact bad hp;exact bad hp
 |makeMap t r=>rw[j]at hk;simp only[bW]at hk;(repeat' split at hk)<;>cases hk
 |slice t x T B kJ=>
  rw[j]at hp;simp only[bW]at hp;split at hp;rename_i el hu;split at hp;rename_i o;exact(ab9 r j hu o hp);exact bad hp;exact bad hp
 |field t x i=>
  rw[j]at hp;simp only[bW]at hp;split at hp;rename_i f C;split at hp;rename_i o;refine(abZ r j C o ?_);omega;exact bad hp;exact bad hp
 |lookup t x k b=>
  rw[j]at hp;simp only[bW]at hp;split at hp;rename_i qt el hu;split at hp;rename_i ca z N w;exact ab5 r j hu N w hp;exact bad hp;exact bad hp
 |mapUpdate t m k v=>rw[j]at hk;simp only[bW]at hk;(repeat' split at hk)<;>cases hk
theorem arf{U:cv}(d:jT am bh n Any K next)(m:dm am bh β L h w)(r:dF n β L e a)(l:ei L)(hp:gB P n (.raw U.op) U.dst e L h K):U.wp P a w next Q:=by
 simp only[gB]at hp;obtain⟨B,h1,j,m1,q,t,_⟩:=yK _ _ _ _ m l hp;split at j;rename_i aI p;have av:=yL m1.cJ _ aI p;have he:U.op.operands.toList.map a.eval=aI:=by
  rw[<-av,ig];exact ny λx _=>r.eval x
 obtain⟨u,s,ae,o,m2,i,A,z⟩:=tW j β m1 q;have g:dF n u s e a:=(r.agree (λ_ _=>rfl) t).agree z A;cases o with
 |mk v c k=>exact s3 (c w m2.cJ.hw a.eval U rfl he) (kM d trivial m2 g i (x:=.v v) trivial k)
 |put v b x y f c k=>exact s3 (c w m2.cJ.hw a.eval U rfl he) (kM d trivial (m2.Rp f y) g i (x:=.v v) trivial k)
 |ajR b x y f c k=>exact MZ (c w m2.cJ.hw a.eval U rfl he) (kM d trivial (m2.Rp f y) g i (x:=.v fS) trivial k)
 grind
theorem aq'{U:cv}{name:String}{args:Array gu}{p:Array gv}(d:U.op= .call {callee:=.invoke x name,args:=args,argTypes:=p})(g:jT am bh n Any K next)(m:dm am bh β L h w)(r:dF n β L e a)(i:ei L)(hp:gB P n (.invoke name (bZ x) (args.toList.map bZ)) U.dst e L h K):U.wp P a w next Q:=by
 simp only[gB]at hp;have c:=r.eval x;split at hp;rename_i t v s;rw[s]at c;obtain⟨f,rc,hm,k⟩:=hp;refine Yw g m r i k λaI l j=>?_;have he:#[rc]++args.map a.eval=aI.toArray:=by
  rw[<-l];apply yY;simp only[Array.toList_append,AM,ig,er];show rc::_=_::_;congr 1;exact ny λy _=>r.eval y
 have o:((#[a.eval x]++args.map a.eval).extract 1 (#[a.eval x]++args.map a.eval).size)=args.map a.eval:=by
  simp
 have q:=hm w;simp only[dD,d,u5,invoke,iT,l3,jc];have b:(#[a.eval x]++args.map a.eval)[0]?=some (a.eval x):=by rw[Array.getElem?_append_left bc];rfl
 rw[b];simp only[o];rw[c];show(callMethod (.iface t v) name _).run P w=_;simp only[callMethod,iT,ajn,jc,q];rw[he,Cj j]
 grind
theorem acf{U:cv}(d:U.op= .assign x){C:(Nat->Nat)->Prop}(hC:∀b,(∀i,i<L.length->b i=β i)->C b)(f:jT am bh n C K next)(m:dm am bh β L h w)(r:dF n β L e a)(g:ei L)(hp:gB P n (.set (bZ x)) U.dst e L h K):U.wp P a w next Q:=by
 simp only[gB,force_eq]at hp;refine s3 (v:=((bZ x).get e).c β) (bz:=w) (by simp[dD,d,r.eval x]) ?_;exact kM f (hC β λ_ _=>rfl) m r g (r.sU x) hp
theorem Tv{U:cv}(p:jT am bh n Any K next)(m:dm am bh β L h w)(r:dF n β L e a)(o:ei L)(hp:gB P n (bW P U.op) U.dst e L h K):U.wp P a w next Q:=by
 have fin:(∃bL,hJ n U.dst bL e L h K/\bL.ok L/\Yields P U a β L h bL)->U.wp P a w next Q:=λT=>aH0 m.cJ T λbL N hk=>kM p trivial m r o N hk
 by_cases hk:jd (bW P U.op)=true;rw[afB _ hk]at hp;exact fin (Tr r o hk hp);have bad:∀{q:Op},U.op=q->gB P n (.raw q) U.dst e L h K->U.wp P a w next Q:=λS W=>arf p m r o aL
 have G:∀{q:Op},U.op=q->jd (bW P q)=true->False:=λS W=>hk aL;cases j:U.op with
 |move x=>rw[j]at hp;exact fin (ab6 r j (V:=λx=>hJ n U.dst x e L h K) hp)
 |assign x=>rw[j]at hp;exact acf j (λ_ _=>trivial) p m r o hp
 |pick c x y=>rw[j]at hp;exact fin (ab8 r j hp)
 |alloc t=>
  rw[j]at hp;simp only[bW]at hp;split at hp;rename_i i C;split at hp;rename_i z B;exact aca j C B (λ_ _=>trivial) p m r o hp
  grind
  grind
 |box t x=>rw[j]at hp;exact acb j (λ_ _=>trivial) p m r o hp
 |buildSlice t len R=>
  rw[j]at hp;simp only[bW]at hp;split at hp;rename_i el hu;split at hp;rename_i s b az he;obtain⟨i,z,C,B,A,F,Z,fV,kD⟩:=KD he;subst A;subst kD;exact acc j hu C B Z (λ_ _=>trivial) p m r o hp
  grind
  grind
 |load t x=>
  rw[j]at hp;simp only[bW]at hp;split at hp;rename_i u;refine fin (Ts r o j u ?_);cases H:rk P t<;>rw[H]at hp<;>exact hp
  grind
 |store t x y=>
  rw[j]at hp;simp only[bW]at hp;split at hp;rename_i u;exact arh j u p m r o hp
  grind
 |nilCheck x=>rw[j]at hp;exact fin (ab7 r j hp)
 |binOp op t x y iS=>
  rw[j]at hp;have D:=G j;cases op<;>simp only[bW]at hp D<;>(repeat' split at hp)<;>first|exact bad j hp|grind [jd]
 |unOp op t x=>
  rw[j]at hp;have D:=G j;cases op<;>simp only[bW]at hp D<;>(repeat' split at hp)<;>first|exact bad j hp|grind [jd]
 |fieldAddr t x i=>
  rw[j]at hp;simp only[bW]at hp;split at hp;rename_i f E;split at hp;rename_i u;exact fin (ab0 r j E u hp)
  grind
  grind
 |indexAddr t x i=>
  rw[j]at hp;simp only[bW]at hp;split at hp;rename_i el hu;split at hp;rename_i u;exact fin (ab1 r j hu u hp)
  grind
  rename_i m el hu;split at hp;rename_i u;exact fin (ab2 r j hu u hp)
  grind
  grind
 |extract x i=>rw[j]at hp;exact fin (abY r j hp)
 |makeSlice t x y=>
  rw[j]at hp;simp only[bW]at hp;split at hp;rename_i el hu;split at hp;rename_i s b az he;exact ace j hu he (λ_ _=>trivial) p m r o hp
  grind
  grind
 |makeFunc fn first n'=>
  rw[j]at hp;cases fn with
  |func f=>
   simp only[bW]at hp;split at hp;rename_i E;exact arb j (Array.eq_empty_of_size_eq_zero E) p m r o hp
   grind
  |_=>exact bad j hp
 |call c=>
  rw[j]at hp;obtain⟨vt,args,M⟩:=c;simp only[bW]at hp;cases vt with
  |value f=>
   cases f with
   |func f=>exact aq8 j p m r o hp
   |tmp t=>exact Tt j p m r o hp
   |const v=>exact Tt j p m r o hp
   |global g=>exact Tt j p m r o hp
  |invoke x y=>exact aq' j p m r o hp
  |builtin b=>
   cases b with
   |append=>
    simp only at hp;split at hp;rename_i x y t iS I O;split at hp;rename_i el hu;split at hp;rename_i s bV az he;split at hp;rename_i zR;subst zR;have A:args=#[x,y]:=aL;have F:M=#[t,t]:=aL;subst A;subst F;exact aq7 j hu he p m r o hp
    grind
    grind
    grind
    grind
   |len=>
    simp only at hp;split at hp;rename_i x t I O;have A:args=#[x]:=aL;have F:M=#[t]:=aL;subst A;subst F;split at hp;rename_i el hu;exact fin (ab3 r j hu hp);rename_i qt el hu;exact fin (ab4 r j hu hp);rename_i hu;exact fin (ab' r j hu hp)
    grind
    grind
   |min=>
    simp only at hp;split at hp;rename_i x y I;have A:args=#[x,y]:=aL;subst A;exact fin (Oe (kJ:=false) r j hp)
    grind
   |max=>
    simp only at hp;split at hp;rename_i x y I;have A:args=#[x,y]:=aL;subst A;exact fin (Oe (kJ:=true) r j hp)
    grind
   |_=>grind
 |ready g=>rw[j]at hp;exact bad j hp
 |waits g=>rw[j]at hp;exact bad j hp
 |insert t m k v=>rw[j]at hp;exact bad j hp
 |convert s d x=>
  rw[j]at hp;have D:=G j;simp only[bW]at hp D
  grind [jd]
 |sliceToArrayPointer t x=>rw[j]at hp;exact bad j hp
 |makeInterface t x=>rw[j]at hp;exact bad j hp
 |makeChan t x=>rw[j]at hp;exact bad j hp
 |index t x i=>rw[j]at hp;exact bad j hp
 |mapEntry t m k=>rw[j]at hp;exact bad j hp
 |entryStore t m s v=>rw[j]at hp;exact bad j hp
 |range t x=>
  rw[j]at hp;simp only[bW]at hp;split at hp;rename_i qt el hu;exact are j hu p m r o hp
  grind
 |next x b=>
  rw[j]at hp;cases b with
  |true=>exact bad j hp
  |false=>exact ard j p m r o hp
 |entry x=>rw[j]at hp;exact aq9 j p m r o hp
 |typeAssert x t s b=>rw[j]at hp;exact bad j hp
 |go c=>rw[j]at hp;exact bad j hp
 |defer c=>rw[j]at hp;exact bad j hp
 |panic x=>rw[j]at hp;exact bad j hp
 |send c x=>rw[j]at hp;exact bad j hp
 |recv t c b=>rw[j]at hp;exact bad j hp
 |select cs b=>rw[j]at hp;exact bad j hp
 |build t R=>
  rw[j]at hp;simp only[bW]at hp;split at hp;rename_i i C;split at hp;rename_i z l B al;split at al;rename_i X;exact fin (abV r j C B X al hp);exact fin (abW r j C B al hp)
  grind
  grind
 |makeMap t Y=>
  rw[j]at hp;cases Y with
  |none=>exact arc j p m r o hp
  |some x=>exact bad j hp
 |slice t x df C kJ=>
  rw[j]at hp;simp only[bW]at hp;split at hp;rename_i el hu;split at hp;rename_i u;exact fin (ab9 r j hu u hp)
  grind
  grind
 |field t x i=>
  rw[j]at hp;simp only[bW]at hp;split at hp;rename_i f E;split at hp;rename_i u;refine fin (abZ r j E u ?_);cases H:rk P f.type<;>rw[H]at hp<;>exact hp
  grind
  grind
 |lookup t x k b=>
  rw[j]at hp;simp only[bW]at hp;split at hp;rename_i qt el hu;split at hp;rename_i ca z J B;exact fin (ab5 r j hu J B hp)
  grind
  grind
 |mapUpdate t x k v=>
  rw[j]at hp;simp only[bW]at hp;split at hp;rename_i qt el hu;split at hp;rename_i ca J;exact ara j hu J p m r o hp
  grind
  grind
end
def iu(P:fk)(n:Nat)(U:cY)(e:cg)(L:List LE)(h:J)(K:fZ):Prop:=
 match U.g with
 |none=>gB P n U.k U.d e L h K
 |some (t,a)=>(match e t with
  |.v (.bool b)=>(match a with
   |true=>gw b (gB P n U.k U.d (jR e t (.v (.bool true))) L h K) (hJ n U.d (.v fS) (jR e t (.v (.bool false))) L h K)
   |false=>gw b (hJ n U.d (.v fS) (jR e t (.v (.bool true))) L h K) (gB P n U.k U.d (jR e t (.v (.bool false))) L h K))
  |.v (.tuple _)=>hJ n U.d (.v fS) e L h K
  |_=>False)
def wpOps(P:fk)(n:Nat):List cY->cg->List LE->J->fZ->Prop
 |[],e,L,h,K=>K e L h
 |U::r,e,L,h,K=>iu P n U e L h λe L h=>wpOps P n r e L h K
section
variable {P:fk}{am:J}{bh:bD}{n:Nat}{β:Nat->Nat}{L:List LE}{h:J}{e:cg}{a:Act}{w:bD}
theorem nY{e:cg}{x:aN}(a:e t=x):jR e t x=e:=by
 funext i;unfold jR;cases b:ix i t with
 |true=>simp_all
 |false=>rfl
theorem Rr(r:dF n β L e a){ops:Array cv}{o:Nat}{i:cv}(g:ops[o]?=some i)(h:i.dst=some t):(∀b,e t= .v (.bool b)->mF ops a.tmps o=some b)/\(∀aI,e t= .v (.tuple aI)->mF ops a.tmps o=none):=by
 have he:=r.env t;rw[Array.getD_eq_getD_getElem?]at he;constructor;intro b f;rw[f]at he;simp only[mF,g,h,ue];cases d:a.tmps[t]?with
 |none=>simp_all[d,aN.c,aN.c1,fS]
 |some v=>simp_all[d,aN.c,aN.c1]
 intro aI f;rw[f]at he;simp only[mF,g,h,ue];cases d:a.tmps[t]?with
 |none=>rfl
 |some v=>simp_all[d,aN.c,aN.c1]
theorem MU{ops:Array cv}{U:cv}(j:jT am bh n Any K next)(m:dm am bh β L h w)(r:dF n β L e a)(k:ei L)(hp:iu P n (gz P ops U) e L h K):
 if ih U (mF ops a.tmps)then U.wp P a w next Q else next (a.put U.dst fS) w:=by
 unfold gz at hp
 split at hp
 rename_i g c
 cases d:U.guard with
 |none=>
  rw[d]at c;injection c with c;subst c;simp only[iu]at hp;rw[aS (by simp[ih,d])];exact Tv j m r k hp
 |some l=>
  obtain⟨o,y⟩:=l;rw[d]at c;simp only[yE]at c;split at c;rename_i z p;split at c;rename_i t q;injection c with c;subst c;obtain⟨s,u⟩:=Rr r p q;simp only[iu]at hp;split at hp;rename_i b f;have i:=s b f;cases y<;>cases b<;>simp only[gw]at hp;rw[nY f]at hp;rw[aS (by simp[ih,d,i])];exact Tv j m r k hp;rw[nY f]at hp;rw[aC (by simp[ih,d,i])];exact kM j trivial m r k (x:=.v fS) trivial hp;rw[nY f]at hp;rw[aC (by simp[ih,d,i])];exact kM j trivial m r k (x:=.v fS) trivial hp;rw[nY f]at hp;rw[aS (by simp[ih,d,i])];exact Tv j m r k hp;rename_i aI f;have i:=u aI f;rw[aC (by simp[ih,d,i])];exact kM j trivial m r k (x:=.v fS) trivial hp
  grind
  grind
  grind
 exact hp.elim
end
end Go.Sx
