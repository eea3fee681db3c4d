/- A part of the proof that the statement holds. Conditions: none. -/
import Derived.ChangeKeysEq
import Derived.Test.YtlbdbpaelcnfgaaGreatDoorAA
open Array renaming ext'->xZ,getElem?_toList->zx,size_push->P1,toList_map->zy
open Bool renaming and_eq_true->h0,false_eq_true->ug,not_eq_true'->x1,not_true->aj0,true_and->zB
open ForInStep renaming yield->XA
open Go renaming Exit->hT,Field->H',Oper->cp,Operand->fM,Program->eN,TypeId->fR,Value->ax,World->bw,execOp->dk,getObj->DY,madeCells->sI,resolve->tZ,run_eqGuard_agg->aCK,run_equalIn_array->aCL,run_equalIn_int->V4,run_equalIn_struct->aCM,run_program->ahK,run_underlying->gM,size_madeCells->aDp,typeInfo->Ba,undef->fp,yielded->lI,zeroValue->Xb
open Go.Builtin renaming len_->Xm
open Go.ChangeMaps renaming setBlock->aGB
open Go.Conv renaming intToInt->Xs
open Go.Instr renaming build->aku,checkKey->rk,field->akw,findAsking->Qd,findKey->Dh,findNow->Di,keyThatStays->aky,lookup->akz,mapUpdate->XJ,sameBits->Ic,sliceBound->Qe,sliceBounds->LO
open Go.IntKind renaming bits->LQ
open Go.Op renaming eqItems->XF,eqFields->X8,equal->Iu,equalIn->wV
open Go.Program renaming fieldsOf->alP
open Go.Region renaming wanted->hF
open Go.Result renaming andThen_ok->im
open Go.Sem renaming run->BK,run_bind->ic,run_pure->k8
open Go.Value renaming int->bA
open List renaming forIn_cons->akV,getElem?_cons_zero->Qn,getElem?_drop->Bu,getElem?_map->dH,map->Ii,map_congr_left->mG,map_cons->ec,map_map->iD,mem_map->cU,range'->LY,range'_succ->Qr,range_eq_range'->In,tail->L0,tail_drop->L1
open List.cons renaming injEq->zN
open Nat renaming add_comm->vt,add_zero->zQ,beq->hW,ble->p0,eq_of_beq_eq_true->qA,le_of_ble_eq_true->yc,le_refl->dz,mul_one->eV,zero_le->cW
open Option renaming bind_some->ta,isSome_none->alK,map_none->FW,map_some->rp
open PUnit renaming unit->Ix
open Std.Legacy.Range renaming forIn_eq_forIn_range'->aGJ,size->aGK
namespace Go.Sx
open Go.RowKit
set_option maxRecDepth 100000
set_option maxHeartbeats 0
set_option linter.all false
variable {next:Act->bw->Prop}{dJ:List Int}{aE:List ax}{b b0 el pK s t:Nat}{V:aK->Prop}{v z:ax}{x y:fM}{g':fR}{K:fw}{Q:hT->Act->bw->Prop}
section
variable {P:eN}{al:J}{a':bw}{n:Nat}{β:Nat->Nat}{L:List LE}{h:J}{e:cy}{a:Act}{w:bw}
theorem I5(a:B9 P t=some (s,b,aE)):∃i z,P.info? t=some i/\i.zero=some z/\i.size=s/\i.bytes=b/\z.cells.size=s/\0<s/\aE=z.cells.toList:=by
 unfold B9 at a;split at a;rename_i i d;split at a;rename_i z c;split at a;simp_all
 grind
 grind
 grind
theorem apr{U:cp}(aF:U.op= .call {callee:=.builtin .append,args:=#[x,y],argTypes:=#[t,t]})(hu:P.underlying t=some (.slice el))(he:B9 P el=some (s,b,aE))(aS:jk al a' n Any K next)(m:cX al a' β L h w)(r:dn n β L e a)(aW:dN L)(hp:fZ P n (.append t el s b aE (bS x) (bS y)) U.dst e L h K):U.wp P a w next Q:=by
 obtain⟨i,z,ai,a1,aR,aQ,cV,fr,lU⟩:=I5 he;have af:=r.eval x;have aN:=r.eval y;have fin:∀(f:Nat->Nat)(d:List LE)(h1:J)(A B:Option Addr)(k cap q c:Nat)(S:List ax->Prop),cX al a' f d h1 w->dn n f d e a->dN d->a.eval x= .slice A k cap->a.eval y= .slice B q c->(∀aG,S aG->zV w s B q aG)->De el s b A k cap q S d h1 (λx L h=>g8 n U.dst x e L h K)->U.wp P a w next Q:=by
  intro f d h1 A B k cap q c S m1 N D I TF dr nu;obtain⟨bC,dt,f',cn,bu,aa,bk,ff,ft,bt,fV,hK,NH⟩:=ape (P:=P) (ty:=U.type) (c:=c) hu ai a1 aR aQ cV fr m1 D dr nu;refine r1 (v:=.slice bC f' dt) (bk:=bk) (by simp[dk,aF,tZ,invoke,builtin,I,TF,ff]) ?_;exact j2 aS trivial bt (N.agree NH hK) fV (x:=.v _) trivial ft
 have app:∀(f:Nat->Nat)(d:List LE)(A:Option Addr)(k cap:Nat),cX al a' f d h w->dn n f d e a->dN d->a.eval x= .slice A k cap->a.eval y=((bS y).get e).c f->HV n el s b A k cap ((bS y).get e) U.dst e d h K->U.wp P a w next Q:=by
  intro f d A k cap m1 N D I G2 hw;unfold HV at hw;split at hw;rename_i B q c j;obtain⟨G,E,ae,Y,m2,F,H,C⟩:=sW hw f m1 D;exact fin G E ae A B k cap q c _ m2 (N.agree C H) F I (by rw[G2,j];rfl) (λaG X=>ain m2.cA X) Y;rename_i o off q c j;split at hw;rename_i cs ty g;split at hw;rename_i nC Cy;obtain⟨oQ,au,V,m3,Sw,T,_⟩:=xL nC _ _ _ m1 D hw;split at V;rename_i aG gS;obtain⟨tA,ml⟩:=sub_eq _ _ _ _ Cy;have ay:=CR m3.cA nC aG gS;have AI:zV w s (some ⟨f o,off,none⟩) q aG:=by
   refine⟨by rw[<-ay];simp[ml],.inr ⟨_,rfl,λp v nn=>?_⟩⟩;rw[<-ay,dH,Option.map_eq_some_iff]at nn;obtain⟨u,R,rfl⟩:=nn;rw[add_lit];refine Pm m1.cA g ?_;rw[tA,List.getElem?_take]at R;split at R;simpa[Bu]using R;cases R
  obtain⟨G,E,ae,Y,m2,F,H,C⟩:=sW V f m3 Sw;exact fin G E ae A _ k cap q c _ m2 ((N.agree (λ_ _=>rfl) T).agree C H) F I (by rw[G2,j];exact ee (λx=>Value.slice (some ⟨x,off,none⟩) q c) (C o (T o ⟨_,g,rfl⟩)).symm) (λW X=>by rw[show W=aG from X,C o (T o ⟨_,g,rfl⟩)];exact AI) Y;exact V.elim;exact hw.elim;exact hw.elim;exact hw.elim
 simp only[fZ]at hp;split at hp;rename_i A k cap j;exact app β L A k cap m r aW (by rw[af,j];rfl) aN hp;rename_i l k cap j;split at hp;rename_i cs ty g;cases M:(hW cs.length (cap*s)&&p0 k cap&&hW ty el&&p0 cap 9223372036854775807)with
 |false=>rw[M]at hp;exact hp.elim
 |true=>
  rw[M]at hp;simp only[h0]at M;obtain⟨⟨⟨Z,O⟩,qP⟩,yE⟩:=M;have Z:=qA Z;have O:=yc O;have qP:=qA qP;have yE:=yc yE;subst qP;simp only[oY]at hp;split at hp;rename_i aG gS;obtain⟨b0⟩:=hp;have xp:=m.hole l _ g rfl;have iO:=b0 (β l) xp;have fN:=CR m.cA cs aG gS;have xw:=m.cA.cA l _ g;simp only[LE.fu,fN]at xw;obtain⟨m1,oL⟩:=m.fH (cw:=.gone) g rfl rfl rfl trivial xw;have D:=aW.va (ny g) oL (λ_ _ e=>by cases e);have eH:aG.length=cap*s:=by rw[<-fN];simp[Z]
  have cJ:k*s<=cap*s:=Nat.mul_le_mul_right s O;have ju:bJ (h.put (β l) (.cells aG.toArray ty (0,0))) ty s (some ⟨β l,0,none⟩) k cap (aG.take (k*s)):=⟨by rw[List.length_take,eH];omega,.inr ⟨β l,aG.toArray,rfl,J.b1 _ _ _,O,by simpa[maxLen]using yE,by simpa using eH,rfl⟩⟩;obtain⟨G,E,ae,⟨rfl,rfl⟩,m2,F,H,C⟩:=sW (K:=λE ae=>E=gV L l .gone++[.row ty s (some ⟨β l,0,none⟩) k cap (aG.take (k*s))]/\ae=eP (h.put (β l) (.cells aG.toArray ty (0,0))) (some ⟨β l,0,none⟩)) (.abs ty s (some ⟨β l,0,none⟩) k cap (aG.take (k*s)) ju (.ah ⟨rfl,rfl⟩)) β m1 D;have GK:eP (h.put (β l) (.cells aG.toArray ty (0,0))) (some ⟨β l,0,none⟩)=h:=by
   funext o;simp only[eP,J.del,J.put];by_cases e:o=β l;rw[aP e,e,xp];rw[aD e,aD e]
  rw[GK]at m2;have dW:=(r.agree (λ_ _=>rfl) oL).agree C H;exact app G _ _ k cap m2 dW F (by rw[af,j];rfl) (dW.eval y) iO;exact hp.elim
 exact hp.elim;exact hp.elim
theorem aaM{U:cp}(S:U.op= .makeSlice t x y)(hu:P.underlying t=some (.slice el))(he:B9 P el=some (s,b,aE)){C:(Nat->Nat)->Prop}(hC:∀j,(∀i,i<L.length->j i=β i)->C j)(X:jk al a' n C K next)(m:cX al a' β L h w)(r:dn n β L e a)(Y:dN L)(hp:fZ P n (.EY t el s b aE (bS x) (bS y)) U.dst e L h K):U.wp P a w next Q:=by
 obtain⟨i,z,D,R,B,aQ,cV,fr,lU⟩:=I5 he;have Z:=r.eval x;have W:=r.eval y;simp only[fZ]at hp;split at hp;rename_i wE oO p q;have key:∀(k c:Nat)(xs:List ax),wE=k->oO=c->c*b<=281474976710656->c<=9223372036854775807->k<=c->(∀cs:Array ax,cs=sI z.cells (c*s)->xs.length=k*s/\cs.toList.take (k*s)=xs)->(∀g,g8 n U.dst (.v (.slice (some g) k c)) e (L++[.row el s (some g) k c xs]) h K)->U.wp P a w next Q:=by
  rintro k c xs rfl rfl f hm O M b0;have F:=run_make (P:=P) w t el i z hu D R .i64 .i64 k c I I aJ I;simp only[Int.toNat_natCast]at F;obtain⟨V,T⟩:=M _ rfl;rw[<-B]at T;have lX:(w.alloc (.cells (sI z.cells (c*i.size)) el)).ownsRow 0 el s (.slice (some ⟨w.heap.size,0,none⟩) k c) k xs:=⟨V,.inr ⟨w.heap.size,c,_,rfl,cW _,heap_alloc_new w _,O,by grind [maxLen],by rw[aDp,B],aJ⟩⟩;have am:=World.grownBy_alloc w (.cells (sI z.cells (c*i.size)) el) none;obtain⟨m1,J⟩:=m.UZ Y el s;have d:cz (L++[LE.row el s none 0 0 []]) L.length=some (.row el s none 0 0 []):=by rw[xK];simp
  obtain⟨j,bI,G,u,hd⟩:=m1.grow J d (bk:=w.alloc (.cells (sI z.cells (c*i.size)) el)) (by grind [Value.ownBlock]) lX (.inr rfl);have cu:∀i,i<L.length->j i=β i:=λi D=>hd i I;have oA:∀y:LE,gV (L++[LE.row el s none 0 0 []]) L.length y=L++[y]:=λy=>by
   rw[HP,List.set_append_right _ _ (dz _)];simp
  have H:=J.va (ny d) u (λ_ _ e=>by cases e);rw[oA]at G u H;refine r1 (v:=.slice (some ⟨w.heap.size,0,none⟩) k c) (bk:=w.alloc (.cells (sI z.cells (c*i.size)) el)) (by simp[dk,S,Z,W,p,q,aK.c,aK.c1,F]) ?_;exact j2 X (hC j cu) G (r.agree (λo d=>bI o (u7 _ d)) (λo d=>u o (u7 _ d))) H (x:=.v _) trivial (b0 ⟨w.heap.size,0,none⟩)
 have l:aE.toArray=z.cells:=by rw[lU]
 have full:∀(k:Nat)(cs:Array ax),cs=sI z.cells (k*s)->(sI aE.toArray (k*s)).toList.length=k*s/\cs.toList.take (k*s)=(sI aE.toArray (k*s)).toList:=by
  rintro k cs rfl;rw[l];have:(sI z.cells (k*s)).toList.length=k*s:=by rw[Array.length_toList,aDp]
  grind
 cases hp with
 |mk k ak ay f hm b0=>exact key k k _ ak ay f hm (dz _) (full k) b0
 |one k A N E ak ay f hm b0=>
  refine key k k _ ak ay f hm (dz _) (full k) λg=>?_;rw[N,E,eV,show[A].toArray=#[A]from rfl,toList_madeCells_one,<-E]
  grind
 |room c ak ay f hm b0=>exact key 0 c [] ak ay f hm (cW _) (λcs _=>bd) b0
 grind
theorem abe{i:Nat}{f:H'}(b:Cf P t i=some f):∃a,P.underlying t=some (.struct a)/\a[i]?=some f:=by
 unfold Cf at b
 grind
theorem ay1{b:Array H'}(hu:P.underlying t=some (.struct b)):∀a l,ET P t a=some l->∃g,l=a.map g/\∀p∈a,(g p).2.2=bS p.2/\∃f,b[p.1]?=some f/\(g p).1=f.offset/\(g p).2.1=jh P f.type:=by
 intro a;suffices h:∀(l:List (Nat×Nat×eb)),ET P t a=some l->l=a.map (λp=>((match b[p.1]?with|some f=>f.offset|none=>0),(match b[p.1]?with|some f=>jh P f.type|none=>0),bS p.2))/\∀p∈a,∃f,b[p.1]?=some f by
  grind
 induction a with
 |nil=>simp[ET]
 |cons q a i=>
  intro l ak;obtain⟨o,x⟩:=q;simp only[ET]at ak;split at ak;rename_i f c;obtain⟨d,j,e⟩:=abe c
  grind
  grind
theorem aas(r:dn n β L e a){U:cp}{t:fR}{i:TypeInfo}{d:Array (Nat×fM)}{l:List (Nat×Nat×eb)}(G:U.op= .build t d)(H:P.info? t=some i)(F:i.zero=some z)(m:Ww P t=true)(ak:ET P t d.toList=some l)(k:fh (.build z.cells.toList l) e L h V):∃bH,V bH/\bH.ok L/\Yields P U a β L h bH:=by
 unfold Ww at m;split at m;rename_i j hu;obtain⟨g,C,s⟩:=ay1 hu _ _ ak;simp only[fh]at k;split at k;rename_i cs A;have M:∀f∈j.toList,jK P f.type=true:=List.all_eq_true.1 m;refine⟨_,k,?_,λw hw=>?_⟩;show∀x∈cs,x.iQ L;refine MP _ _ _ A (Hu _) λq D=>?_;rw[C,iD]at D;obtain⟨p,hp,rfl⟩:=cU.1 D;simp only[Function.comp];rw[(s p hp).1];exact r.rU p.2;rw[C,iD]at A;have y:(j.mapM λf=>(do pure (f.offset,<-sizeOf f.type):Sem (Nat×Nat))).run P w= .ok (j.map λf=>(f.offset,jh P f.type)) w:=by
  rw[Array.mapM_eq_mapM_toList];have key:∀l:List H',(∀f∈l,jK P f.type=true)->(l.mapM λf=>(do pure (f.offset,<-sizeOf f.type):Sem (Nat×Nat))).run P w= .ok (l.map λf=>(f.offset,jh P f.type)) w:=by
   intro l;induction l with
   |nil=>simp
   |cons f l I=>
    intro b;obtain⟨o,B⟩:=zq (b f (List.mem_cons_self ..));simp only[List.mapM_cons,ic,run_sizeOf B,im,k8,I λJ u=>b J (List.mem_cons_of_mem _ u),ec,zr B]
  simp only[Sem.run_map,key j.toList M,im];exact ee (λz=>Result.ok z w) (xZ bd)
 have b:=MQ (β:=β) (λo=>(j.map λf=>(f.offset,jh P f.type))[o]?) (λp:Nat×fM=>(p.1,(bS p.2).get e)) (λp=>((g p).1,(g p).2.1,eb.get e (g p).2.2)) d.toList (z.cells.toList.map .v) cs (λp hp=>by
  grind) A
 have K:(Ii (λx:Nat×fM=>(x.1,aK.c β (eb.get e (bS x.2)))) d.toList)=(Ii (λx:Nat×fM=>(x.1,a.eval x.2)) d.toList):=mG λp _=>by rw[r.eval p.2]
 simp only at b;rw[K,DE]at b;have E:z.cells.toList.toArray=z.cells:=bd;rw[E]at b;simp only[dk,G,aku,ic,Xb,Ba,ahK,im,H,k8,F,gM hu,y,zy];rw[b];rfl
 grind
 grind
theorem aat(r:dn n β L e a){U:cp}{t:fR}{i:TypeInfo}{b:Array (Nat×fM)}{l:List (Nat×Nat×eb)}(A:U.op= .build t b)(B:P.info? t=some i)(y:i.zero=some z)(ak:Uy P t b.toList=some l)(f:fh (.build z.cells.toList l) e L h V):∃bH,V bH/\bH.ok L/\Yields P U a β L h bH:=by
 unfold Uy at ak;split at ak;rename_i m el hu;split at ak;rename_i g;injection ak with ak;subst ak;obtain⟨o,k⟩:=zq g;rw[zr k]at f;simp only[fh]at f;split at f;rename_i cs j;refine⟨_,f,?_,λw hw=>?_⟩;show∀x∈cs,x.iQ L;refine MP _ _ _ j (Hu _) λq s=>?_;rw[iD]at s;obtain⟨p,hp,rfl⟩:=cU.1 s;exact r.rU p.2;rw[iD]at j;have d:=MQ (β:=β) (λi=>some (i*o.size,o.size)) (λp:Nat×fM=>(p.1,(bS p.2).get e)) (λp=>(p.1*o.size,o.size,eb.get e (bS p.2))) b.toList (z.cells.toList.map .v) cs (λp hp=>⟨rfl,rfl⟩) j;have C:(Ii (λx:Nat×fM=>(x.1,aK.c β (eb.get e (bS x.2)))) b.toList)=(Ii (λx:Nat×fM=>(x.1,a.eval x.2)) b.toList):=mG λp _=>by rw[r.eval p.2]
 simp only at d;rw[C,DE]at d;have u:z.cells.toList.toArray=z.cells:=bd;rw[u]at d;simp only[dk,A,aku,ic,Xb,Ba,ahK,im,B,k8,y,gM hu,run_sizeOf k,zy];rw[d];rfl
 grind
 grind
 grind
theorem apm(r:dn n β L e a){U:cp}{t:fR}(f:U.op= .unOp .neg t x)(d:fh (.neg (bS x)) e L h V):∃bH,V bH/\bH.ok L/\Yields P U a β L h bH:=by
 have g:=r.eval x;simp only[fh]at d;split at d;rename_i b hp;exact⟨_,d.out,trivial,λw hw=>by simp[dk,f,g,hp,aK.c,aK.c1,Op.unary,Op.intArith]⟩
 grind
theorem MN(r:dn n β L e a){U:cp}{j0:Bool}{l:Array fR}(g:U.op= .call {callee:=.builtin (if j0 then .max else .min),args:=#[x,y],argTypes:=l})(b:fh (.Ky j0 (bS x) (bS y)) e L h V):∃bH,V bH/\bH.ok L/\Yields P U a β L h bH:=by
 have f:=r.eval x;have d:=r.eval y;simp only[fh]at b;split at b;rename_i i o hp k;rw[hp]at f;rw[k]at d;have j:∀c:Prop,[Decidable c]->∀(u v:Int),(if c then bA .i64 u else bA .i64 v)=bA .i64 (if c then u else v):=λc _ u v=>by grind
 cases j0 with
 |true=>
  refine⟨_,b,trivial,λw hw=>?_⟩;simp[dk,g,tZ,invoke,builtin,f,d,aK.c,aK.c1,Builtin.max_,Builtin.max2];omega
 |false=>
  refine⟨_,b,trivial,λw hw=>?_⟩;simp[dk,g,tZ,invoke,builtin,f,d,aK.c,aK.c1,Builtin.min_,Builtin.min2];omega
 grind
theorem Fv(h:rX P t=true):P.underlying t=some (.int .i64):=by
 unfold rX at h
 grind
theorem aja(h:PC P t=true):P.underlying t=some (.int .u64):=by
 unfold PC at h
 grind
theorem wrap_u64{z:Int}(al:0<=z)(h1:z<=9223372036854775807):IntKind.u64.wrap z=z:=by
 grind [IntKind.wrap,LQ,IntKind.signed]
theorem LK.out{da:IntKind}{z:Int}{V:Int->Prop}(hw:0<=z->z<=9223372036854775807->da.wrap z=z)(x:LK da z V):V (da.wrap z):=by
 cases x with
 |mk al h1 k=>grind
 |wrap k=>exact k
theorem ai'{k:IntKind}(h:PA P t=some k):P.underlying t=some (.int k):=by
 unfold PA at h
 grind
theorem aFo(h:Lm P t=true):∃k,P.underlying t=some (.int k):=by
 unfold Lm at h;obtain⟨k,hk⟩:=Option.isSome_iff_exists.1 h;exact⟨k,ai' hk⟩
theorem apk(r:dn n β L e a){U:cp}{s d:fR}(g:U.op= .convert s d x)(b:fh (bQ P U.op) e L h V):∃bH,V bH/\bH.ok L/\Yields P U a β L h bH:=by
 have i:=r.eval x;rw[g]at b;simp only[bQ]at b;split at b;rename_i f;simp only[h0]at f;simp only[fh]at b;split at b;rename_i z hp;have k:=b.out wrap_u64;exact⟨_,k,trivial,λw hw=>by simp[dk,g,i,hp,aK.c,aK.c1,convert,gM (Fv f.1),gM (aja f.2),Xs]⟩
 grind
 split at b;rename_i f;simp only[h0]at f;simp only[fh]at b;split at b;rename_i z hp;have k:=b.out λal h1=>IntWalk.i64_in z ⟨I,h1⟩;exact⟨_,k,trivial,λw hw=>by simp[dk,g,i,hp,aK.c,aK.c1,convert,gM (Fv f.2),gM (aja f.1),Xs]⟩
 grind
 split at b;rename_i j;obtain⟨dJ,j⟩:=aFo j;split at b;rename_i k hk;simp only[fh]at b;split at b;rename_i l z hp;exact⟨_,b,trivial,λw hw=>by simp[dk,g,i,hp,aK.c,aK.c1,convert,gM j,gM (ai' hk),Xs]⟩
 grind
 exact b.elim;exact b.elim
theorem eqGuard_shr{P:eN}{t:fR}{u:ax}{w:bw}:(eqGuard .shr t x y u v).run P w= .ok () w:=dC
theorem apo(r:dn n β L e a){U:cp}{t:fR}(i:U.op= .binOp .shr t x y g')(f:fh (.uv .shr 0 (bS x) (bS y)) e L h V):∃bH,V bH/\bH.ok L/\Yields P U a β L h bH:=by
 have d:=r.eval x;have b:=r.eval y;simp only[fh]at f;split at f;rename_i z hp g;rw[hp]at d;rw[g]at b;refine⟨_,f,trivial,λw hw=>?_⟩;simp[dk,i,d,b,aK.c,aK.c1,eqGuard_shr,binOp,Op.shift,LQ];rename_i l u m v _ hp g;rw[hp]at d;rw[g]at b;obtain⟨v,j,k⟩:=f;have d:a.eval x= .int l u:=d;have b:a.eval y= .int m _:=b;refine⟨_,k,trivial,λw hw=>?_⟩;show(dk a.eval U).run P w= .ok (.value v) w;simp only[dk,i,d,b,ic,RJ,im,Y4 (t:=t) (g':=0),j,k8]
 grind
theorem apl(r:dn n β L e a){U:cp}{op:BinOp}{t:fR}(j:U.op= .binOp op t x y g')(b:fh (.I2 op (bS x) (bS y)) e L h V):∃bH,V bH/\bH.ok L/\Yields P U a β L h bH:=by
 have f:=r.eval x;have d:=r.eval y;simp only[fh]at b;split at b;rename_i i o hp k;rw[hp]at f;rw[k]at d;split at b;obtain⟨g,b⟩:=b;exact⟨_,b.out,trivial,λw hw=>by simp[dk,j,f,d,aK.c,aK.c1,binOp_quo,eqGuard_quo,Op.intDiv,g]⟩;obtain⟨g,b⟩:=b;exact⟨_,b,trivial,λw hw=>by simp[dk,j,f,d,aK.c,aK.c1,binOp_rem,eqGuard_rem,Op.intDiv,g]⟩
 grind
 grind
theorem aaG(r:dn n β L e a){U:cp}{t el:fR}{g f:Option fM}(N:U.op= .slice t x g f none)(hu:P.underlying t=some (.slice el))(Q:jK P el=true)(d:fh (.slice (jh P el) (bS x) (g.map bS) (f.map bS)) e L h V):∃bH,V bH/\bH.ok L/\Yields P U a β L h bH:=by
 have O:=r.eval x;obtain⟨o,E⟩:=zq Q;rw[zr E]at d;have key:∀(A:Option Addr)(m cap:Nat)(z u:Int),(bS x).get e= .v (.slice A m cap)->H7 A m cap o.size z u V->((g=none/\z=0)\/∃q,g=some q/\(bS q).get e= .v (.int .i64 z))->((f=none/\u=m)\/∃q,f=some q/\(bS q).get e= .v (.int .i64 u))->∃bH,V bH/\bH.ok L/\Yields P U a β L h bH:=by
  intro A m cap z u K R C j;obtain⟨l,k,rfl,rfl,al,h1,b0⟩:=R;refine⟨_,b0 (if cap=l then A else A.map (·.add (l*o.size))) (λT=>aD I) (λS=>aP S.symm),trivial,λw hw=>?_⟩;have B:a.eval x= .slice A m cap:=by rw[O,K];rfl
  have F:∀(v:ax)(y:Nat)(c:BoundsCode)(q:Nat),v= .int .i64 (q:Int)->q<=y->(Qe v y c).run P w= .ok q w:=by
   rintro v y c q rfl s;simp[Qe,asIntOf,s]
  have M:(LO true m cap (g.map a.eval) (f.map a.eval) none).run P w= .ok (l,k,cap) w:=by
   have H:∀q,g=some q->(Qe (a.eval q) k .sliceB).run P w= .ok l w:=λq i=>by
    rcases C with⟨b,_⟩|⟨fg,b,s⟩;rw[i]at b;cases b;rw[i]at b;injection b with b;subst b;exact F _ _ _ _ (by rw[r.eval q,s];rfl) al
   have G:∀q,f=some q->(Qe (a.eval q) cap .sliceAcap).run P w= .ok k w:=λq i=>by
    rcases j with⟨b,_⟩|⟨fg,b,s⟩;rw[i]at b;cases b;rw[i]at b;injection b with b;subst b;exact F _ _ _ _ (by rw[r.eval q,s];rfl) h1
   have D:g=none->l=0:=λi=>by
    rcases C with⟨_,b⟩|⟨fg,b,_⟩;omega;rw[i]at b;cases b
   have J:f=none->k=m:=λi=>by
    rcases j with⟨_,b⟩|⟨fg,b,_⟩;omega;rw[i]at b;cases b
   cases f with
   |none=>
    cases g with
    |none=>simp only[LO,FW,ic,k8,im,J rfl,D rfl]
    |some q=>simp only[LO,FW,rp,alK,ug,mm,ic,k8,im,<-J rfl,H q rfl]
   |some p=>
    cases g with
    |none=>simp only[LO,FW,rp,lY,ic,k8,im,G p rfl,D rfl]
    |some q=>simp only[LO,rp,alK,ug,mm,lY,ic,k8,im,G p rfl,H q rfl]
  simp only[dk,N,Instr.sliceAt,Instr.slice,ic,gM hu,im,B,FW,M,run_sizeOf E,k8];rfl
 simp only[fh]at d;cases g with
 |none=>
  cases f with
  |none=>
   simp only[FW,Hz]at d;split at d<;>first|(rename_i K _ _;exact key _ _ _ _ _ (by assumption) d (.inl ⟨rfl,rfl⟩) (.inl ⟨rfl,rfl⟩))|(simp_all;done)
  |some q=>
   simp only[FW,rp,Hz]at d;split at d<;>first|exact key _ _ _ _ _ (by assumption) d (.inl ⟨rfl,rfl⟩) (.inr ⟨q,rfl,by simp_all⟩)|(simp_all;done)
 |some p=>
  cases f with
  |none=>
   simp only[FW,rp,Hz]at d;split at d<;>first|exact key _ _ _ _ _ (by assumption) d (.inr ⟨p,rfl,by simp_all⟩) (.inl ⟨rfl,rfl⟩)|(simp_all;done)
  |some q=>
   simp only[rp,Hz]at d;split at d<;>first|exact key _ _ _ _ _ (by assumption) d (.inr ⟨p,rfl,by simp_all⟩) (.inr ⟨q,rfl,by simp_all⟩)|(simp_all;done)
theorem Fg{t:fR}(b:jK P t=true)(a:qr P t=false){cs:Array ax}{off:Nat}(ay:cs[off]?=some v):(part t cs off).run P w= .ok v w:=by
 simp[part,Pf (PB b),a,ay]
theorem aCR{t:fR}(b:jK P t=true)(c:qr P t=true) cs off:(part t cs off).run P w= .ok (.agg (cs.extract off (off+jh P t))) w:=by
 obtain⟨i,a⟩:=zq b;simp[part,Pf (PB b),c,run_sizeOf a,zr a]
theorem Gb{x:aK}{cs:List aK}(b:Dz x=some cs):x.c β= .agg (cs.map (aK.c1 β)).toArray:=by
 cases x with
 |a xs=>injection b with b;subst b;rfl
 |v y=>
  cases y with
  |agg d=>
   injection b with b;subst b;rw[DE];rfl
  |_=>cases b
 |_=>cases b
theorem YF{x:aK}{cs:List aK}(b:Dz x=some cs)(hk:x.ok L):∀y∈cs,y.iQ L:=by
 cases x with
 |a xs=>injection b with b;subst b;exact hk
 |v y=>
  cases y with
  |agg c=>injection b with b;subst b;exact Hu _
  |_=>cases b
 |_=>cases b
theorem aaw(r:dn n β L e a){U:cp}{t:fR}{i:Nat}{f:H'}(m:U.op= .field t x i)(q:Cf P t i=some f)(o:jK P f.type=true)(b:fh (.field (qr P f.type) f.offset (jh P f.type) (bS x)) e L h V):∃bH,V bH/\bH.ok L/\Yields P U a β L h bH:=by
 obtain⟨z,hu,k⟩:=abe q;have d:=r.eval x;simp only[fh]at b;split at b;rename_i cs j;have ay:=Gb (β:=β) j;rw[ay]at d;split at b;rename_i g;split at b;rename_i p s;obtain⟨h1,ae⟩:=sub_eq _ _ _ _ s;refine⟨_,b,?_,λw hw=>?_⟩;show∀y∈p,y.iQ L;intro y c;rw[h1]at c;exact YF j (r.rU x) y (List.mem_of_mem_drop (List.mem_of_mem_take c));simp only[dk,m,akw,ic,gM hu,im,k,d,asAgg,k8,aCR o g];have:((cs.map (aK.c1 β)).toArray.extract f.offset (f.offset+jh P f.type))=(p.map (aK.c1 β)).toArray:=by
  grind
 rw[this];rfl
 grind
 rename_i g;split at b
 grind
 rename_i y u c;have l:∀xs,y≠.a xs:=λxs e=>u xs e;have v:(cs.map (aK.c1 β)).toArray[f.offset]?=some (y.c1 β):=by
  rw[qj]at c;simp[c]
 refine⟨_,b,agp (YF j (r.rU x) y (by rw[qj]at c;grind)) l,λw hw=>?_⟩;simp only[dk,m,akw,ic,gM hu,im,k,d,asAgg,k8,Fg o g v,aK.Rb l]
 grind
 grind
theorem aCN{U:cp}{neg:Bool}{t:fR}{u:ax}{b:Bool}(c:U.op= .binOp (if neg then .neq else .eql) t x y g')(e:a.eval x=u)(d:a.eval y=v)(f:(eqGuard (if neg then .neq else .eql) t x y u v).run P w= .ok () w)(g:∀w,(binOp (if neg then .neq else .eql) t u v).run P w=(do pure (.bool (flip neg (<-Iu t u v))):Sem ax).run P w)(he:(Iu t u v).run P w= .ok b w):(dk a.eval U).run P w= .ok (.value (.bool (flip neg b))) w:=by
 simp[dk,c,e,d,f,g,he]
theorem V2:∀a k xs aO us aG b d,AM P a k=true->us.toList.drop k=xs.map (aK.c1 β)->aG.toList.drop k=aO.map (aK.c1 β)->xs.length=a.length->aO.length=a.length->yy xs aO=some b->(X8 (d+1) us aG a).run P w= .ok b w
 |[],k,xs,aO,us,aG,b,d,_,_,_,h,c,he=>by
  simp_all[yy,X8]
 |f::a,k,xs,aO,us,aG,b,d,i,hu,j,h,c,he=>by
  simp only[AM,h0,x1,uB]at i;obtain⟨⟨⟨⟨⟨f1,f2⟩,f3⟩,f4⟩,f5⟩,f6⟩:=i;have f2:=qA f2;match xs,aO,h,c with
  |x::xs,y::aO,h,c=>
   unfold yy at he;split at he
   grind
   rename_i p l q r g e;injection g with g B;injection e with e n;subst g;subst e;subst B;subst n;split at he;rename_i t s;injection he with he;subst he;have A:us[f.offset]?=some (.int .i64 p):=by
    have:=ee (λz=>z[0]?) hu;simp only[Bu,zQ,ec,Qn]at this;rw[f2,<-zx];exact this
   have o:aG[f.offset]?=some (.int .i64 q):=by
    have:=ee (λz=>z[0]?) j;simp only[Bu,zQ,ec,Qn]at this;rw[f2,<-zx];exact this
   have u:us.toList.drop (k+1)=xs.map (aK.c1 β):=by
    have:=ee L0 hu;simpa[L1]using this
   have v:aG.toList.drop (k+1)=aO.map (aK.c1 β):=by
    have:=ee L0 j;simpa[L1]using this
   simp only[X8,f5,ne_eq,not_false_eq_true,lY,ic,Fg f3 f4 A,Fg f3 f4 o,im,V4 w d f.type .i64 .i64 p q (Fv f1)];by_cases m:p=q;subst m;simp only[beq_self_eq_true,aj0,ug,mm,decide_true,zB];exact V2 a (k+1) xs aO us aG t d f6 u v aJ aJ s;simp_all
   grind
   grind
theorem V3{el:fR}(h1:rX P el=true)(ae:jK P el=true)(h:qr P el=false)(f:P.cellsOf el=1):∀m k xs aO us aG b d,us.toList.drop k=xs.map (aK.c1 β)->aG.toList.drop k=aO.map (aK.c1 β)->xs.length=m->aO.length=m->yy xs aO=some b->(XF (d+1) el (P.cellsOf el) us aG (LY k m)).run P w= .ok b w
 |0,k,xs,aO,us,aG,b,d,_,_,g,a,he=>by
  simp_all[yy,XF]
 |m+1,k,xs,aO,us,aG,b,d,hu,i,g,a,he=>by
  match xs,aO,g,a with
  |x::xs,y::aO,g,a=>
   unfold yy at he;split at he
   grind
   rename_i p o q r e c;injection e with e B;injection c with c l;subst e;subst B;subst c;subst l;split at he;rename_i t s;injection he with he;subst he;have A:us[k*P.cellsOf el]?=some (.int .i64 p):=by
    have:=ee (λz=>z[0]?) hu;simp only[Bu,zQ,ec,Qn]at this;rw[f,eV,<-zx];exact this
   have n:aG[k*P.cellsOf el]?=some (.int .i64 q):=by
    have:=ee (λz=>z[0]?) i;simp only[Bu,zQ,ec,Qn]at this;rw[f,eV,<-zx];exact this
   have u:us.toList.drop (k+1)=xs.map (aK.c1 β):=by
    have:=ee L0 hu;simpa[L1]using this
   have v:aG.toList.drop (k+1)=aO.map (aK.c1 β):=by
    have:=ee L0 i;simpa[L1]using this
   rw[Qr];simp only[XF,ic,Fg ae h A,Fg ae h n,im,V4 w d el .i64 .i64 p q (Fv h1)];by_cases j:p=q;subst j;simp only[beq_self_eq_true,aj0,ug,mm,decide_true,zB];exact V3 h1 ae h f m (k+1) xs aO us aG t d u v aJ aJ s;simp_all
   grind
   grind
theorem TL{el:fR}(h:EH P el=true):rX P el=true/\jK P el=true/\qr P el=false/\∃i,P.info? el=some i/\i.size=1/\P.cellsOf el=1:=by
 simp only[EH,h0,x1]at h;obtain⟨⟨⟨a,b⟩,c⟩,d⟩:=h;obtain⟨i,e⟩:=zq b;have d:=qA d;rw[zr e]at d;simp_all[Program.cellsOf,e,d]
theorem aam{t el:fR}(hu:P.underlying t=some (.pointer el)) A d:(wV (d+1) t (.pointer A) (.pointer none)).run P w= .ok A.isNone w:=by
 cases A<;>simp[wV,gM hu]
theorem aan{t el:fR}(hu:P.underlying t=some (.slice el)) A b c1 a c2 d:(wV (d+1) t (.slice A b c1) (.slice none a c2)).run P w= .ok A.isNone w:=by
 cases A<;>simp[wV,gM hu]
theorem ao7{t:fR}{p q:Array fR}{b:Bool}(hu:P.underlying t=some (.func p q b)) d:(wV (d+1) t .nilFunc .nilFunc).run P w= .ok true w:=by
 simp[wV,gM hu]
theorem ao8{t:fR}{p q:Array fR}{b:Bool}(hu:P.underlying t=some (.func p q b)) f u v d:(wV (d+1) t (.func f u v) .nilFunc).run P w= .ok false w:=by
 simp[wV,gM hu]
theorem aau{U:cp}{neg:Bool}{t:fR}(r:dn n β L e a)(D:U.op= .binOp (if neg then .neq else .eql) t x y g'){k:Nat}(hk:MI P t=some k)(hp:fh (.eqv neg k (bS x) (bS y)) e L h V):∃bH,V bH/\bH.ok L/\Yields P U a β L h bH:=by
 have f:=r.eval x;have d:=r.eval y;have fin:∀(u v:ax)(b:Bool),a.eval x=u->a.eval y=v->(∀w,(eqGuard (if neg then .neq else .eql) t x y u v).run P w= .ok () w)->(∀w,(binOp (if neg then .neq else .eql) t u v).run P w=(do pure (.bool (flip neg (<-Iu t u v))):Sem ax).run P w)->(∀w,(Iu t u v).run P w= .ok b w)->V (.v (.bool (flip neg b)))->∃bH,V bH/\bH.ok L/\Yields P U a β L h bH:=λu v b h1 ae G E H J=>
  ⟨_,J,trivial,λw _=>aCN D h1 ae (G w) E (H w)⟩
 unfold MI at hk;split at hk;rename_i hu;injection hk with hk;subst hk;simp only[fh]at hp;split at hp;rename_i p q j g;rw[j]at f;rw[g]at d;refine fin _ _ (p==q) f d (λw=>?_) (λw=>?_) (λw=>?_) hp;cases neg<;>rfl;cases neg<;>rfl;exact run_equalIn_bool' w 9999 t p q hu
 grind
 rename_i el hu;injection hk with hk;subst hk;simp only[fh]at hp;split at hp;rename_i A j g;rw[j]at f;rw[g]at d;refine fin _ _ A.isNone f d (λw=>?_) (λw=>?_) (λw=>?_) hp;cases neg<;>rfl;cases neg<;>rfl;exact aam hu A 9999;rename_i i off j g;rw[j]at f;rw[g]at d;refine fin _ _ false f d (λw=>?_) (λw=>?_) (λw=>?_) (by cases neg<;>exact hp);cases neg<;>rfl;cases neg<;>rfl;exact aam hu (some ⟨β i,off,none⟩) 9999
 grind
 rename_i el hu;injection hk with hk;subst hk;simp only[fh]at hp;split at hp;rename_i A I c1 B c2 j g;rw[j]at f;rw[g]at d;refine fin _ _ A.isNone f d (λw=>?_) (λw=>?_) (λw=>?_) hp;cases neg<;>rfl;cases neg<;>rfl;exact aan hu A I c1 B c2 9999;rename_i i off l c B c2 j g;rw[j]at f;rw[g]at d;refine fin _ _ false f d (λw=>?_) (λw=>?_) (λw=>?_) (by cases neg<;>exact hp);cases neg<;>rfl;cases neg<;>rfl;exact aan hu (some ⟨β i,off,none⟩) l c B c2 9999
 grind
 rename_i M N O hu;injection hk with hk;subst hk;simp only[fh]at hp;split at hp;rename_i j g;rw[j]at f;rw[g]at d;refine fin _ _ true f d (λw=>?_) (λw=>?_) (λw=>?_) hp;cases neg<;>rfl;cases neg<;>rfl;exact ao7 hu 9999;rename_i f1 f2 f3 j g;rw[j]at f;rw[g]at d;refine fin _ _ false f d (λw=>?_) (λw=>?_) (λw=>?_) (by cases neg<;>exact hp);cases neg<;>rfl;cases neg<;>rfl;exact ao8 hu f1 f2 f3 9999
 grind
 rename_i s hu;split at hk;rename_i ay;injection hk with hk;subst hk;simp only[h0,x1]at ay;obtain⟨⟨c1,c2⟩,C⟩:=ay;rw[vt]at hp;simp only[fh]at hp;split at hp;rename_i xs aO j g;cases o:(hW xs.length s.size&&hW aO.length s.size)with
 |false=>grind
 |true=>
  rw[o]at hp;simp only[oY]at hp;simp only[h0]at o;split at hp;rename_i b he;have ex:=Gb (β:=β) j;have z:=Gb (β:=β) g;rw[ex]at f;rw[z]at d;have K:P.fieldsOf t=s:=by simp[alP,hu]
  refine fin _ _ b f d (λw=>?_) (λw=>?_) (λw=>?_) hp;exact aCK w _ t x y _ _ C;cases neg<;>rfl;show(wV (9999+1) t _ _).run P w=_;rw[aCM w 9999 t _ _ aJ c2,K];exact V2 (β:=β) s.toList 0 xs aO _ _ b 9998 c1 bd bd (by simp_all) (by simp_all) he
  grind
 grind
 grind
 rename_i m el hu;split at hk;rename_i ay;injection hk with hk;subst hk;simp only[h0,x1]at ay;obtain⟨c1,C⟩:=ay;obtain⟨d1,d2,d3,i,F,d4,d5⟩:=TL c1;rw[vt]at hp;simp only[fh]at hp;split at hp;rename_i xs aO j g;cases o:(hW xs.length m&&hW aO.length m)with
 |false=>grind
 |true=>
  rw[o]at hp;simp only[oY]at hp;simp only[h0]at o;split at hp;rename_i b he;have ex:=Gb (β:=β) j;have z:=Gb (β:=β) g;rw[ex]at f;rw[z]at d;refine fin _ _ b f d (λw=>?_) (λw=>?_) (λw=>?_) hp;exact aCK w _ t x y _ _ C;cases neg<;>rfl;show(wV (9999+1) t _ _).run P w=_;rw[aCL w 9999 _ _ hu F,In];exact V3 (β:=β) d1 d2 d3 d5 m 0 xs aO _ _ b 9998 bd bd (qA o.1) (qA o.2) he
  grind
 grind
 grind
 grind
end
section
variable {P:eN}{al:J}{a':bw}{n:Nat}{β:Nat->Nat}{L:List LE}{h:J}{e:cy}{a:Act}{w:bw}
theorem cX.PQ(m:cX al a' β L h w){U:Obj}(E:h b=some U) p:cX al a' β L (h.put b p) {w with heap:=w.heap.setIfInBounds b p}:=by
 have H:b<w.heap.size:=m.cA.hw.lt aJ;have s:∀i l,cz L i=some l->l.live=true->β i≠b:=λi l ak j e=>by
  have:=m.hole i l ak j
  grind
 have q:∀o,o≠b->(w.heap.setIfInBounds b p)[o]?=w.heap[o]? :=λo a=>by grind
 refine⟨⟨λo U a=>?_,λi l ak=>?_⟩,λi l ak j=>?_,m.inj,λi l ak j=>by simpa using m.lt i l ak j,m.cQ,m.os,m.tape,m.output,by simpa using m.size,λo a u=>?_,λo a=>?_⟩;show(w.heap.setIfInBounds b p)[o]?=some U;by_cases e:o=b;subst e;rw[J.b1]at a;grind;rw[J.cB _ _ e]at a;rw[q o e];exact m.cA.hw o U a;have d:=m.cA.cA i l ak;cases l with
 |own D C=>simp only[LE.fu]at d⊢;rw[q _ (s i _ ak rfl)];exact d
 |b4 G=>exact d
 |row bK size A n cap xs=>
  simp only[LE.fu]at d⊢;obtain⟨⟨h1,ae⟩,t⟩:=d;refine⟨⟨h1,?_⟩,t⟩;rcases ae with ae|⟨g,c,x,r,v,y,z⟩
  grind
  injection r with r I B;have F:=t _ r;subst r;exact .inr ⟨g,c,x,by rw[B],v,by rw[q _ (by have:=s i _ ak rfl;grind)];exact y,z⟩
 |map f k=>simp only[LE.fu]at d⊢;rw[q _ (s i _ ak rfl)];exact d
 |gone=>trivial
 rw[J.cB _ _ (s i l ak j)];exact m.hole i l ak j;show(w.heap.setIfInBounds b p)[o]?=_;by_cases e:o=b;subst e;rcases m.fresh o aJ with e|e
 grind
 omega;rw[q o e];exact m.frame o a u;by_cases e:o=b;subst e;exact m.fresh o aJ;rw[J.cB _ _ e]at a;exact m.fresh o a
theorem cX.ag5(m:cX al a' β L h w) U:cX al a' β L (h.put w.heap.size U) {w with heap:=w.heap.push U}:=by
 have g:∀o,o<w.heap.size->(w.heap.push U)[o]?=w.heap[o]? :=λo a=>by grind
 have q:∀i l,cz L i=some l->l.live=true->β i≠w.heap.size:=λi l ak b e=>by
  have:=m.lt i l ak b;omega
 refine⟨⟨λo d a=>?_,λi l ak=>?_⟩,λi l ak b=>?_,m.inj,λi l ak b=>?_,m.cQ,m.os,m.tape,m.output,?_,λo a j=>?_,λo a=>?_⟩;show(w.heap.push U)[o]?=some d;by_cases e:o=w.heap.size;subst e;rw[J.b1]at a;grind;rw[J.cB _ _ e]at a;rw[g o (m.cA.hw.lt aJ)];exact m.cA.hw o d a;have c:=m.cA.cA i l ak;cases l with
 |own s r=>grind [LE.fu]
 |b4 t=>exact c
 |row bK size A n cap xs=>
  simp only[LE.fu]at c⊢;obtain⟨⟨h1,ae⟩,p⟩:=c;refine⟨⟨h1,?_⟩,p⟩
  grind
 |map f k=>grind [LE.fu]
 |gone=>trivial
 rw[J.cB _ _ (q i l ak b)];exact m.hole i l ak b;show _<(w.heap.push U).size;rw[P1];have:=m.lt i l ak b;omega;show _<=(w.heap.push U).size;rw[P1];have:=m.size;omega;show(w.heap.push U)[o]?=_;have:=m.size;rw[g o I];exact m.frame o a j;by_cases e:o=w.heap.size;subst e;exact .inr m.size;rw[J.cB _ _ e]at a;exact m.fresh o a
def p7:List il->List Int->Nat->Option (Nat×ax)
 |[],_,_=>none
 |x::l,k,i=>if k=x.k then some (i,x.v)else p7 l k (i+1)
theorem RU(k:List Int):∀(l:List il)(i:Nat),(p7 l k i).map (·.2)=jC l k
 |[],i=>rfl
 |x::l,i=>by
  simp only[p7,jC];split;rfl;exact RU k l (i+1)
theorem aa0{k:List Int}{v:ax}{c:Nat}:∀l i,p7 l k i=none->upsert l k v c=l++[⟨k,v,c⟩]
 |[],i,_=>rfl
 |x::l,i,a=>by
  simp only[p7]at a;split at a
  grind
  rename_i hk;simp only[upsert,aD hk,List.cons_append,aa0 l (i+1) a]
theorem aa1{k:List Int}{v u:ax}{c:Nat}{o:Nat}:∀l i,p7 l k i=some (o,u)->∃q,o=i+q/\∃x,l[q]?=some x/\x.k=k/\upsert l k v c=l.set q ⟨x.k,v,x.born⟩
 |[],i,a=>by cases a
 |x::l,i,a=>by
  simp only[p7]at a;split at a;simp_all[upsert];rename_i hk;obtain⟨q,h1,y,ae,d,b⟩:=aa1 (v:=v) (c:=c) l (i+1) a;exact⟨q+1,I,y,aJ,d,by simp_all[upsert,b]⟩
theorem T7(hk:AP P t=some b0):(b0=0/\P.underlying t=some (.int .i64))\/(∃a,b0=5+a.size/\P.underlying t=some (.struct a)/\AM P a.toList 0=true/\P.stoodInHeld t=false)\/∃m el,b0=5+m/\P.underlying t=some (.array m el)/\EH P el=true:=by
 unfold AP at hk;cases b:rX P t with
 |true=>
  rw[b]at hk;injection hk with hk;exact .inl ⟨hk.symm,Fv b⟩
 |false=>
  grind
theorem adF:∀xs dJ,ints xs=some dJ->xs=dJ.map λa=>aK.v (.int .i64 a)
 |[],dJ,b=>by injection b with b;grind
 |x::xs,dJ,b=>by
  unfold ints at b;split at b
  grind
  rename_i a l c;injection c with c d;subst c;subst d;split at b;rename_i r e;injection b with b;subst b;rw[ec,<-adF _ r e]
  grind
  grind
theorem aeC{x:aK}(a:NZ b0 x=some dJ)(b:b0=0\/5<=b0):x.c β=km b0 dJ/\dJ.length=tG b0:=by
 rcases b with rfl|b;simp only[NZ]at a;split at a;injection a with a;subst a;exact⟨rfl,rfl⟩
 grind
 match b0,b with
 |b0+1,b=>
  have a:(match Dz x with|some xs=>(match ints xs with|some dJ=>bif hW (dJ.length+5) (b0+1)then some dJ else none|none=>none)|none=>none)=some dJ:=a;split at a;rename_i xs f;split at a;rename_i e g;cases d:hW (e.length+5) (b0+1)with
  |false=>grind
  |true=>
   rw[d]at a;injection a with a;subst a;have d:=qA d;refine⟨?_,by simp only[tG];omega⟩;rw[Gb f,adF _ _ g];simp only[km,iD];rfl
  grind
  grind
theorem RI:∀(xs aO:List Int),xs.length=aO.length->yy (xs.map λa=>aK.v (.int .i64 a)) (aO.map λa=>aK.v (.int .i64 a))=some (decide (xs=aO))
 |[],[],_=>rfl
 |x::xs,y::aO,ak=>by
  simp only[ec,yy,RI xs aO aJ,zN];simp
 |[],y::aO,ak=>by grind
 |x::xs,[],ak=>by grind
theorem ahF(em:Bool)(d:Nat)(us:Array ax):∀(a:List H')(k:Nat)(dJ:List Int),AM P a k=true->us.toList.drop k=dJ.map (bA .i64)->dJ.length=a.length->(forIn a Ix λf(_:PUnit)=>(if f.name≠ "_"then(do rk em (d+1) f.type (<-part f.type us f.offset);pure (XA Ix))else(do pure Ix;pure (XA Ix)):Sem (ForInStep PUnit))).run P w= .ok () w
 |[],k,dJ,_,_,_=>by simp
 |f::a,k,dJ,b,hu,ak=>by
  simp only[AM,h0,x1,uB]at b;obtain⟨⟨⟨⟨⟨f1,f2⟩,f3⟩,f4⟩,f5⟩,f6⟩:=b;have f2:=qA f2;match dJ,ak with
  |q::dJ,ak=>
   have e:us[f.offset]?=some (.int .i64 q):=by
    have:=ee (λz=>z[0]?) hu
    grind
   have c:us.toList.drop (k+1)=dJ.map (bA .i64):=by
    have:=ee L0 hu;simpa[L1]using this
   have h1:(rk em (d+1) f.type (.int .i64 q)).run P w= .ok () w:=by
    simp[rk,gM (Fv f1)]
   simp only[akV,aP f5,ic,Fg f3 f4 e,im,h1,k8];exact ahF em d us a (k+1) dJ f6 c aJ
theorem aCI{m:Nat}(hu:P.underlying t=some (.array m el))(e:EH P el=true) em d us(hm:us.size=m)(b:∀v∈us.toList,∃q,v= .int .i64 q):(rk em (d+2) t (.agg us)).run P w= .ok () w:=by
 obtain⟨d1,d2,d3,i,a,d4,d5⟩:=TL e;unfold rk;simp only[ic,gM hu,im];simp only[aGJ,aGK,Nat.sub_zero,Nat.add_one_sub_one,Nat.div_one];have key:∀(c k:Nat),k+c<=m->(forIn (LY k c) Ix λi(_:PUnit)=>((do rk em (d+1) el (<-part el us (i*(<-sizeOf el)));pure (XA Ix)):Sem (ForInStep PUnit))).run P w= .ok () w:=by
  intro c;induction c with
  |zero=>simp
  |succ c h=>
   intro k hk;have j:k<us.size:=I;obtain⟨q,g⟩:=b us[k] bd;have f:us[k*1]?=some (.int .i64 q):=aJ;have h1:(rk em (d+1) el (.int .i64 q)).run P w= .ok () w:=by
    simp[rk,gM (Fv d1)]
   rw[Qr];simp only[akV,ic,run_sizeOf a,d4,Fg d2 d3 f,im,h1,k8]
   grind
 simp_all
theorem V1(hk:AP P t=some b0)(ak:dJ.length=tG b0) em:(rk em 10000 t (km b0 dJ)).run P w= .ok () w:=by
 rcases T7 hk with⟨rfl,hu⟩|⟨b,rfl,hu,f,hp⟩|⟨m,el,rfl,hu,g⟩;match dJ,ak with
 |[a],_=>
  have:∀d,(rk em (d+1) t (.int .i64 a)).run P w= .ok () w:=λd=>by simp[rk,gM hu]
  exact this 9999
 have e:dJ.length=b.toList.length:=by
  simp[ak,tG]
 have c:km (5+b.size) dJ= .agg (dJ.map (bA .i64)).toArray:=by rw[vt];rfl
 rw[c];show(rk em (9999+1) t _).run P w=_;have:=ahF (P:=P) (w:=w) em 9998 (dJ.map (bA .i64)).toArray b.toList 0 dJ f bd e;unfold rk;simp only[ic,gM hu,im];rw[<-Array.forIn_toList];refine(ee (λz=>z.andThen λ_ bk=>BK P (pure ()) bk) this).trans ?_;rfl;have e:dJ.length=m:=by
  simp[ak,tG]
 have c:km (5+m) dJ= .agg (dJ.map (bA .i64)).toArray:=by rw[vt];rfl
 rw[c];show(rk em (9999+1) t _).run P w=_;exact aCI hu g em 9998 _ aJ λv h=>by
  grind
theorem aa3{a:Int}:∀l i,(∀x∈l,x.k.length=1)->Di (.int .i64) (.int .i64 a) (l.map (kh 0)) i=some (p7 l [a] i)
 |[],i,_=>rfl
 |x::l,i,c=>by
  have h1:=c x bd;match hk:x.k,h1 with
  |[b],_=>
   have e:(kh 0 x).key= .int .i64 b:=by simp[kh,km,hk]
   have f:(kh 0 x).val=x.v:=rfl;simp only[ec,Di,e,Instr.sameNow,lY,p7,hk,f];by_cases g:a=b
   grind
   have:(a==b)=false:=aJ;rw[this];simp only[zN,and_true,aD g];exact aa3 l (i+1) λy d=>c y (by simp[d])
theorem ahH{t:Nat}{b:Array H'}(hu:P.underlying t=some (.struct b))(c:AM P b.toList 0=true)(hp:P.stoodInHeld t=false){dJ:List Int}(ak:dJ.length=b.size):∀l i,(∀x∈l,x.k.length=b.size)->(Qd t (km (5+b.size) dJ) (l.map (kh (5+b.size))) i).run P w= .ok (p7 l dJ i) w
 |[],i,_=>by rfl
 |x::l,i,d=>by
  have e:∀k,km (5+b.size) k= .agg (k.map (bA .i64)).toArray:=λk=>by rw[vt];rfl
  have h:P.fieldsOf t=b:=by simp[alP,hu]
  have h1:=d x bd;have j:(Iu t (km (5+b.size) dJ) (km (5+b.size) x.k)).run P w= .ok (decide (dJ=x.k)) w:=by
   rw[e,e];show(wV (9999+1) t _ _).run P w=_;rw[aCM w 9999 t _ _ aJ hp,h];refine V2 (β:=λ_=>0) b.toList 0 (dJ.map λa=>aK.v (.int .i64 a)) (x.k.map λa=>aK.v (.int .i64 a)) _ _ _ 9998 c ?_ ?_ aJ aJ (RI _ _ I);simp[aK.c1];simp[aK.c1]
  have m:(kh (5+b.size) x).key=km (5+b.size) x.k:=rfl;have f:(kh (5+b.size) x).val=x.v:=rfl;simp only[ec,Qd,m,f,ic,j,im,p7];by_cases n:dJ=x.k;simp_all;simp only[n,decide_false,ug,mm];exact ahH hu c hp ak l (i+1) λy g=>d y (by simp[g])
theorem ahI{t m el:Nat}(hu:P.underlying t=some (.array m el))(d:EH P el=true){dJ:List Int}(ak:dJ.length=m):∀l i,(∀x∈l,x.k.length=m)->(Qd t (km (5+m) dJ) (l.map (kh (5+m))) i).run P w= .ok (p7 l dJ i) w
 |[],i,_=>by rfl
 |x::l,i,b=>by
  obtain⟨d1,d2,d3,o,g,d4,d5⟩:=TL d;have c:∀k,km (5+m) k= .agg (k.map (bA .i64)).toArray:=λk=>by rw[vt];rfl
  have h1:=b x bd;have h:(Iu t (km (5+m) dJ) (km (5+m) x.k)).run P w= .ok (decide (dJ=x.k)) w:=by
   rw[c,c];show(wV (9999+1) t _ _).run P w=_;rw[aCL w 9999 _ _ hu g,In];refine V3 (β:=λ_=>0) d1 d2 d3 d5 m 0 (dJ.map λa=>aK.v (.int .i64 a)) (x.k.map λa=>aK.v (.int .i64 a)) _ _ _ 9998 ?_ ?_ aJ aJ (RI _ _ I);simp[aK.c1];simp[aK.c1]
  have j:(kh (5+m) x).key=km (5+m) x.k:=rfl;have e:(kh (5+m) x).val=x.v:=rfl;simp only[ec,Qd,j,e,ic,h,im,p7];by_cases n:dJ=x.k;simp_all;simp only[n,decide_false,ug,mm];exact ahI hu d ak l (i+1) λy f=>b y (by simp[f])
theorem V5(hk:AP P t=some b0)(ak:dJ.length=tG b0){l:List il}(c:∀x∈l,x.k.length=tG b0):(Dh t (km b0 dJ) (l.map (kh b0))).run P w= .ok (p7 l dJ 0) w:=by
 rcases T7 hk with⟨rfl,hu⟩|⟨b,rfl,hu,g,hp⟩|⟨m,el,rfl,hu,h⟩;match dJ,ak with
 |[a],_=>
  have f:km 0 [a]= .int .i64 a:=rfl;simp only[Dh,ic,gM hu,im,f,aa3 l 0 c,k8]
 have d:tG (5+b.size)=b.size:=by simp[tG]
 rw[d]at ak c;have:=ahH (P:=P) (w:=w) hu g hp ak l 0 c;cases l with
 |nil=>simp[Dh,gM hu,Di,p7]
 |cons x l=>
  have f:∀k,km (5+b.size) k= .agg (k.map (bA .i64)).toArray:=λk=>by rw[vt];rfl
  have e:Di (.struct b) (km (5+b.size) dJ) ((x::l).map (kh (5+b.size))) 0=none:=by
   rfl
  simp only[Dh,ic,gM hu,im,e];omega
 have d:tG (5+m)=m:=by simp[tG]
 rw[d]at ak c;have:=ahI (P:=P) (w:=w) hu h ak l 0 c;cases l with
 |nil=>simp[Dh,gM hu,Di,p7]
 |cons x l=>
  have f:∀k,km (5+m) k= .agg (k.map (bA .i64)).toArray:=λk=>by rw[vt];rfl
  have e:Di (.array m el) (km (5+m) dJ) ((x::l).map (kh (5+m))) 0=none:=by
   rfl
  simp only[Dh,ic,gM hu,im,e];omega
theorem aC6 b0 dJ(h1:dJ.length=tG b0):Ic 10000 (km b0 dJ) (km b0 dJ)=true:=by
 match b0 with
 |0=>match dJ,h1 with|[a],_=>simp[km,Ic]
 |b0+1=>
  have key:∀(d:Nat)(us:Array ax),((us.toList.zip us.toList).all λ(x,y)=>Ic d x y)=true->Ic (d+1) (.agg us) (.agg us)=true:=λd us b=>by
   unfold Ic
   grind
  refine key 9999 _ ?_
  grind [Ic]
theorem ajP(a:LD P t=some z):(Xb t).run P w= .ok z w:=by
 unfold LD at a;split at a;rename_i i b;simp[Xb,Ba,b,a]
 grind
theorem aeB(hk:AP P t=some b0):b0=0\/5<=b0:=by
 rcases T7 hk with⟨rfl,_⟩|⟨a,rfl,_⟩|⟨m,el,rfl,_⟩;omega;omega;omega
theorem aaC(r:dn n β L e a){U:cp}{k:fM}{ok:Bool}(g:U.op= .lookup t x k ok)(hu:P.underlying t=some (.map pK el))(hk:AP P pK=some b0)(q:LD P el=some z)(d:fh (.lookup b0 z (bS x) (bS k) ok) e L h V):∃bH,V bH/\bH.ok L/\Yields P U a β L h bH:=by
 have j:=r.eval x;have m:=r.eval k;simp only[fh]at d;split at d;rename_i b dJ hp A;obtain⟨l,B,⟨hm,o⟩,f⟩:=d;obtain⟨u,i⟩:=aeC (β:=β) A (aeB hk);rw[u]at m;rw[hp]at j;have run:∀w,kq β L h w->(akz t (a.eval x) (a.eval k) ok).run P w= .ok (if ok then .tuple #[(jC l dJ).getD z,.bool (jC l dJ).isSome]else(jC l dJ).getD z) w:=λw hw=>by
  have v:=hw.hw _ _ hm;have y:(DY b).run P w= .ok (.map (l.map (kh b0)).toArray B) w:=by simp[DY,BK,v,kb]
  have s:=RU dJ l 0;rw[<-s];simp only[akz,ic,gM hu,im,j,aK.c,aK.c1,y,k8,m,V1 hk i,V5 hk i o];cases C:p7 l dJ 0 with
  |none=>simp[ajP q]
  |some p=>simp
 cases ok with
 |true=>exact⟨_,f,trivial,λw hw=>by simp only[dk,g,ic,run w hw,im,k8];rfl⟩
 |false=>exact⟨_,f,trivial,λw hw=>by simp only[dk,g,ic,run w hw,im,k8];rfl⟩
 grind
theorem aaB(r:dn n β L e a){U:cp}(i:U.op= .call {callee:=.builtin .len,args:=#[x],argTypes:=#[t]})(hu:P.underlying t=some (.map pK el))(d:fh (.Hb (bS x)) e L h V):∃bH,V bH/\bH.ok L/\Yields P U a β L h bH:=by
 have f:=r.eval x;simp only[fh]at d;split at d;rename_i b hp;obtain⟨b0,l,m,⟨hm,o⟩,g⟩:=d;rw[hp]at f;refine⟨_,g,trivial,λw hw=>?_⟩;have j:=hw.hw _ _ hm;have k:(DY b).run P w= .ok (.map (l.map (kh b0)).toArray m) w:=by simp[DY,BK,j,kb]
 simp[dk,i,tZ,invoke,builtin,f,aK.c,aK.c1,Xm,gM hu,goInt,k]
 grind
theorem apx{U:cp}(b:U.op= .makeMap t none)(c:jk al a' n Any K next)(m:cX al a' β L h w)(r:dn n β L e a)(d:dN L)(hp:fZ P n .Ot U.dst e L h K):U.wp P a w next Q:=by
 obtain⟨k⟩:=hp;have hk:=k w.heap.size (m.cA.hw.out (dz _));refine r1 (v:=.map (some w.heap.size)) (bk:={w with heap:=w.heap.push (.map #[] 0)}) (by simp[dk,b,Instr.makeMap]) ?_;exact j2 c trivial (m.ag5 _) r d (x:=.v _) trivial hk
theorem aCS b0 dJ(h1:dJ.length=tG b0):(aky (km b0 dJ) (km b0 dJ)).run P w= .ok (km b0 dJ) w:=by
 simp[aky,aC6 b0 dJ h1]
theorem apv{U:cp}{k v:fM}(J:U.op= .mapUpdate t x k v)(hu:P.underlying t=some (.map pK el))(hk:AP P pK=some b0)(O:jk al a' n Any K next)(m:cX al a' β L h w)(r:dn n β L e a)(S:dN L)(hp:fZ P n (.Oj b0 (bS x) (bS k) (bS v)) U.dst e L h K):U.wp P a w next Q:=by
 have z:=r.eval x;have C:=r.eval k;have s:=r.eval v;simp only[fZ]at hp;split at hp;rename_i b dJ y xz V M;obtain⟨l,d,⟨hm,E⟩,D⟩:∃l d,yb h b b0 l d/\g8 n U.dst (.v fp) e L (h.put b (kb b0 (Sx.upsert l dJ y d) (if(jC l dJ).isSome then d else d+1))) K:=by
  rcases hp with⟨l,d,hm,k⟩|⟨l,d,hm,k⟩
  grind
  grind
 obtain⟨N,g⟩:=aeC (β:=β) V (aeB hk);rw[N]at C;rw[xz]at z;rw[M]at s;have F:=m.cA.hw _ _ hm;have G:(DY b).run P w= .ok (.map (l.map (kh b0)).toArray d) w:=by simp[DY,BK,F,kb]
 have I:∀B,(setObj b B).run P w= .ok () {w with heap:=w.heap.setIfInBounds b B}:=λB=>by simp[setObj,BK,F,kb]
 have j:=RU dJ l 0;have run:∃i9,i9=(if(jC l dJ).isSome then d else d+1)/\(XJ t (a.eval x) (a.eval k) (a.eval v)).run P w= .ok () {w with heap:=w.heap.setIfInBounds b (kb b0 (upsert l dJ y d) i9)}:=by
  cases f:p7 l dJ 0 with
  |none=>
   rw[f]at j;refine⟨d+1,aJ,?_⟩;rw[aa0 l 0 f];simp only[XJ,ic,gM hu,im,z,aK.c,aK.c1,G,C,V1 hk g,V5 hk g E,f,I,s];simp[kb,kh]
  |some p=>
   obtain⟨o,u⟩:=p;rw[f]at j;obtain⟨q,h1,dF,ae,H,R⟩:=aa1 (v:=y) (c:=d) l 0 f;rw[Nat.zero_add]at h1;subst h1;refine⟨d,aJ,?_⟩;have Z:(((l.map (kh b0)).toArray[o]?).map (·.key)).getD (km b0 dJ)=km b0 dJ:=by simp[ae,kh,H]
   simp only[XJ,ic,gM hu,im,z,aK.c,aK.c1,G,C,V1 hk g,V5 hk g E,f,Z,aCS b0 dJ g,I,s];rw[R];congr 3;simp only[kb];congr 1;apply Array.ext_getElem?;intro i;rw[Array.getElem?_modify];simp only[List.getElem?_toArray,List.map_set,List.getElem?_set,dH,List.length_map];by_cases T:o=i;subst T;obtain⟨W,X⟩:=List.getElem?_eq_some_iff.1 ae;simp[W,kh,H,X]
   grind
 obtain⟨i9,A,Y⟩:=run;rw[<-A]at D;refine Lw (bk:={w with heap:=w.heap.setIfInBounds b (kb b0 (upsert l dJ y d) i9)}) (by simp[dk,J,Y]) ?_;exact j2 O trivial (m.PQ hm _) r S (x:=.v fp) trivial D
 grind
theorem cX.aoR(m:cX al a' β L h w):cX al a' β L h w.drew:=⟨⟨m.cA.hw,λi l ak=>by cases l<;>exact m.cA.cA i _ ak⟩,m.hole,m.inj,m.lt,m.cQ,m.os,m.tape,m.output,m.size,m.frame,m.fresh⟩
theorem apz{U:cp}(j:U.op= .range t x)(hu:P.underlying t=some (.map pK el))(l:jk al a' n Any K next)(m:cX al a' β L h w)(r:dn n β L e a)(o:dN L)(hp:fZ P n (.range (bS x)) U.dst e L h K):U.wp P a w next Q:=by
 have g:=r.eval x;simp only[fZ]at hp;split at hp;rename_i b s;obtain⟨es,d,p,k⟩:=hp;rw[s]at g;have u:=m.cA.hw _ _ p;have hk:=k w.heap.size (m.cA.hw.out (dz _));refine r1 (v:=.pointer (some ⟨w.heap.size,0,none⟩)) (bk:={w with heap:=w.heap.push (.mapIter (some b) d #[] d)}) ?_ ?_;have q:(DY b).run P w= .ok (.map es d) w:=by simp[DY,BK,u]
 have i:∀f,(newObj f).run P w= .ok w.heap.size {w with heap:=w.heap.push f}:=λf=>by rfl
 simp only[dk,j,Instr.range,ic,gM hu,im,g,aK.c,aK.c1,q,k8,i];exact j2 l trivial (m.ag5 _) r o (x:=.v _) trivial hk
 grind
theorem apy{U:cp}(i:U.op= .next x false)(j:jk al a' n Any K next)(m:cX al a' β L h w)(r:dn n β L e a)(k:dN L)(hp:fZ P n (.next (bS x)) U.dst e L h K):U.wp P a w next Q:=by
 have f:=r.eval x;simp only[fZ]at hp;split at hp;rename_i q F;obtain⟨l,t,C,p,seen,es,o,A,B,d,done,D⟩:=hp;rw[F]at f;have y:=m.cA.hw _ _ o;have G:=m.cA.hw _ _ A;rcases run_next_at (P:=P) w U.type q l t C seen es p y G B d with⟨z,g⟩|⟨b,u,s,E,g⟩;refine r1 (v:=.tuple #[.bool false]) (bk:=w) (by simp[dk,i,f,aK.c,aK.c1,g]) ?_;exact j2 j trivial m r k (x:=.v _) trivial (done z);refine r1 (v:=.tuple #[.bool true,b.key,b.val]) (bk:=aGB s q (.mapIter (some l) t (seen.push b.born) p)) (by simp[dk,i,f,aK.c,aK.c1,g]) ?_;have m1:cX al a' β L h s:=by
  rcases E with rfl|rfl;omega;exact m.aoR
 exact j2 j trivial (m1.PQ o _) r k (x:=.v _) trivial (D b u)
 grind
theorem apt{U:cp}(i:U.op= .entry x)(j:jk al a' n Any K next)(m:cX al a' β L h w)(r:dn n β L e a)(l:dN L)(hp:fZ P n (.entry (bS x)) U.dst e L h K):U.wp P a w next Q:=by
 have d:=r.eval x;simp only[fZ]at hp;split at hp;rename_i q z;obtain⟨o,y,t,seen,es,b,s,p,he,g,k⟩:=hp;rw[z]at d;have f:=m.cA.hw _ _ s;have A:=m.cA.hw _ _ p;have u:=run_entry_at (P:=P) w q o y seen es t b f A he g;refine r1 (v:=.tuple #[b.key,b.val]) (bk:=w) (by simp[dk,i,d,aK.c,aK.c1,u]) ?_;exact j2 j trivial m r l (x:=.v _) trivial k
 grind
end
section
variable {P:eN}{al:J}{a':bw}{n:Nat}{β:Nat->Nat}{L:List LE}{h:J}{e:cy}{a:Act}{w:bw}
theorem ad8 k(hk:ir k=true) d K:fZ P n k d e L h K=fh k e L h λx=>g8 n d x e L h K:=by
 cases k<;>first|rfl|grind [ir]
theorem RN{U:cp}(r:dn n β L e a)(J:dN L)(hk:ir (bQ P U.op)=true)(hp:fh (bQ P U.op) e L h V):∃bH,V bH/\bH.ok L/\Yields P U a β L h bH:=by
 have bad:fh .bad e L h V->∃bH,V bH/\bH.ok L/\Yields P U a β L h bH:=λK=>K.elim;cases j:U.op with
 |move x=>rw[j]at hp;exact(aaD r j hp)
 |assign x=>rw[j]at hk;cases hk
 |pick c x y=>rw[j]at hp;exact(aaF r j hp)
 |alloc t=>rw[j]at hk;simp only[bQ]at hk;(repeat' split at hk)<;>cases hk
 |box t x=>rw[j]at hk;cases hk
 |buildSlice t len G=>rw[j]at hk;simp only[bQ]at hk;(repeat' split at hk)<;>cases hk
 |load t x=>
  rw[j]at hp;simp only[bQ]at hp;split at hp;rename_i o;refine(RO r J j o ?_);omega;exact bad hp
 |store t x y=>rw[j]at hk;simp only[bQ]at hk;(repeat' split at hk)<;>cases hk
 |nilCheck x=>rw[j]at hp;exact(aaE r j hp)
 |binOp op t x y g'=>
  rw[j]at hp;have H:fh (.arith op (bS x) (bS y)) e L h V->∃bH,V bH/\bH.ok L/\Yields P U a β L h bH:=λu=>(aph r j u);have R:fh (.cmp op (bS x) (bS y)) e L h V->∃bH,V bH/\bH.ok L/\Yields P U a β L h bH:=λu=>(apj r j u);have I:fh (.I2 op (bS x) (bS y)) e L h V->∃bH,V bH/\bH.ok L/\Yields P U a β L h bH:=λu=>(apl r j u);cases op with
  |add=>
   simp only[bQ]at hp;split at hp
   grind
   exact vS r j (λq=>by cases q.1) hp
  |sub=>
   simp only[bQ]at hp;split at hp
   grind
   exact vS r j (λq=>by cases q.1) hp
  |mul=>
   simp only[bQ]at hp;split at hp
   grind
   exact vS r j (λq=>by cases q.1) hp
  |quo=>
   simp only[bQ]at hp;split at hp
   grind
   exact vS r j (λq=>by cases q.1) hp
  |rem=>
   simp only[bQ]at hp;split at hp
   grind
   exact vS r j (λq=>by cases q.1) hp
  |eql=>
   simp only[bQ]at hp;split at hp
   grind
   split at hp;exact vS r j (λq=>by cases q.1) hp;split at hp;rename_i k hk;exact aau (neg:=false) r j hk hp;exact bad hp
  |neq=>
   simp only[bQ]at hp;split at hp
   grind
   split at hp;exact vS r j (λq=>by cases q.1) hp;split at hp;rename_i k hk;exact aau (neg:=true) r j hk hp;exact bad hp
  |lss=>
   simp only[bQ]at hp;split at hp
   grind
   exact vS r j (λq=>by cases q.1) hp
  |leq=>
   simp only[bQ]at hp;split at hp
   grind
   exact vS r j (λq=>by cases q.1) hp
  |gtr=>
   simp only[bQ]at hp;split at hp
   grind
   exact vS r j (λq=>by cases q.1) hp
  |geq=>
   simp only[bQ]at hp;split at hp
   grind
   exact vS r j (λq=>by cases q.1) hp
  |shr=>
   simp only[bQ]at hp;exact apo r j hp
  |_=>exact vS r j (λq=>by cases q.1) hp
 |unOp op t x=>
  rw[j]at hp;cases op with
  |not=>exact(apn r j hp)
  |neg=>
   simp only[bQ]at hp;split at hp;exact(apm r j hp);exact bad hp
  |_=>exact hp.elim
 |fieldAddr t x i=>
  rw[j]at hp;simp only[bQ]at hp;split at hp;rename_i f A;split at hp;rename_i o;exact(aax r j A o hp);exact bad hp;exact bad hp
 |indexAddr t x i=>
  rw[j]at hp;simp only[bQ]at hp;split at hp;rename_i el hu;split at hp;rename_i o;exact(aay r j hu o hp);exact bad hp;rename_i m el hu;split at hp;rename_i o;exact(aaz r j hu o hp);exact bad hp;exact bad hp
 |extract x i=>rw[j]at hp;exact(aav r j hp)
 |makeSlice t x y=>rw[j]at hk;simp only[bQ]at hk;(repeat' split at hk)<;>cases hk
 |makeFunc fn first W=>rw[j]at hk;cases fn<;>simp only[bQ]at hk<;>(repeat' split at hk)<;>cases hk
 |call c=>
  rw[j]at hp;obtain⟨O,args,E⟩:=c;simp only[bQ]at hp;cases O with
  |value f=>
   cases f with
   |func f=>exact hp.elim
   |tmp t=>exact hp.elim
   |const v=>exact hp.elim
   |global g=>exact hp.elim
  |invoke x y=>exact hp.elim
  |builtin b=>
   cases b with
   |append=>
    simp only at hp;split at hp;rename_i x y t g' D F;split at hp;rename_i el hu;split at hp;rename_i s S aE he;split at hp;rename_i Q;subst Q;have p:args=#[x,y]:=aJ;have B:E=#[t,t]:=aJ;subst p;subst B;exact hp.elim;exact bad hp;exact bad hp;exact bad hp;exact bad hp
   |len=>
    simp only at hp;split at hp;rename_i x t D F;have p:args=#[x]:=aJ;have B:E=#[t]:=aJ;subst p;subst B;split at hp;rename_i el hu;exact(aaA r j hu hp);rename_i pK el hu;exact(aaB r j hu hp);rename_i hu;exact aaH r j hu hp;exact hp.elim;exact bad hp
   |min=>
    simp only at hp;split at hp;rename_i x y D;have p:args=#[x,y]:=aJ;subst p;exact(MN (j0:=false) r j hp);exact bad hp
   |max=>
    simp only at hp;split at hp;rename_i x y D;have p:args=#[x,y]:=aJ;subst p;exact(MN (j0:=true) r j hp);exact bad hp
   |_=>exact hp.elim
 |ready g=>rw[j]at hk;cases hk
 |waits g=>rw[j]at hk;cases hk
 |insert t m k v=>rw[j]at hk;cases hk
 |convert s d x=>exact apk r j hp
 |sliceToArrayPointer t x=>rw[j]at hk;cases hk
 |makeInterface t x=>rw[j]at hk;cases hk
 |makeChan t x=>rw[j]at hk;cases hk
 |index t x i=>rw[j]at hk;cases hk
 |mapEntry t m k=>rw[j]at hk;cases hk
 |entryStore t m s v=>rw[j]at hk;cases hk
 |range t x=>rw[j]at hk;simp only[bQ]at hk;(repeat' split at hk)<;>cases hk
 |next x b=>rw[j]at hk;simp only[bQ]at hk;(repeat' split at hk)<;>cases hk
 |entry x=>rw[j]at hk;cases hk
 |typeAssert x t s b=>rw[j]at hk;cases hk
 |go c=>rw[j]at hk;cases hk
 |defer c=>rw[j]at hk;cases hk
 |panic x=>rw[j]at hk;cases hk
 |send c x=>rw[j]at hk;cases hk
 |recv t c b=>rw[j]at hk;cases hk
 |select cs b=>rw[j]at hk;cases hk
 |build t G=>
  rw[j]at hp;simp only[bQ]at hp;split at hp;rename_i i C;split at hp;rename_i z l w ak;split at ak;rename_i M;exact(aas r j C w M ak hp);exact(aat r j C w ak hp);exact bad hp;exact bad hp
 |makeMap t r=>rw[j]at hk;simp only[bQ]at hk;(repeat' split at hk)<;>cases hk
 |slice t x T C j0=>
  rw[j]at hp;simp only[bQ]at hp;split at hp;rename_i el hu;split at hp;rename_i o;exact(aaG r j hu o hp);exact bad hp;exact bad hp
 |field t x i=>
  rw[j]at hp;simp only[bQ]at hp;split at hp;rename_i f A;split at hp;rename_i o;refine(aaw r j A o ?_);omega;exact bad hp;exact bad hp
 |lookup t x k b=>
  rw[j]at hp;simp only[bQ]at hp;split at hp;rename_i pK el hu;split at hp;rename_i b0 z N w;exact aaC r j hu N w hp;exact bad hp;exact bad hp
 |mapUpdate t m k v=>rw[j]at hk;simp only[bQ]at hk;(repeat' split at hk)<;>cases hk
theorem apA{U:cp}(d:jk al a' n Any K next)(m:cX al a' β L h w)(r:dn n β L e a)(l:dN L)(hp:fZ P n (.raw U.op) U.dst e L h K):U.wp P a w next Q:=by
 simp only[fZ]at hp;obtain⟨B,h1,j,m1,q,t,_⟩:=xL _ _ _ _ m l hp;split at j;rename_i aG p;have ay:=xN m1.cA _ aG p;have he:U.op.operands.toList.map a.eval=aG:=by
  rw[<-ay,iD];exact mG λx _=>r.eval x
 obtain⟨u,s,ae,o,m2,i,A,z⟩:=sW j β m1 q;have g:dn n u s e a:=(r.agree (λ_ _=>rfl) t).agree z A;cases o with
 |mk v c k=>exact r1 (c w m2.cA.hw a.eval U rfl he) (j2 d trivial m2 g i (x:=.v v) trivial k)
 |put v b x y f c k=>exact r1 (c w m2.cA.hw a.eval U rfl he) (j2 d trivial (m2.PQ f y) g i (x:=.v v) trivial k)
 |aic b x y f c k=>exact Lw (c w m2.cA.hw a.eval U rfl he) (j2 d trivial (m2.PQ f y) g i (x:=.v fp) trivial k)
 grind
theorem apu{U:cp}{name:String}{args:Array fM}{p:Array fR}(d:U.op= .call {callee:=.invoke x name,args:=args,argTypes:=p})(g:jk al a' n Any K next)(m:cX al a' β L h w)(r:dn n β L e a)(i:dN L)(hp:fZ P n (.invoke name (bS x) (args.toList.map bS)) U.dst e L h K):U.wp P a w next Q:=by
 simp only[fZ]at hp;have c:=r.eval x;split at hp;rename_i t v s;rw[s]at c;obtain⟨f,rc,hm,k⟩:=hp;refine W2 g m r i k λaG l j=>?_;have he:#[rc]++args.map a.eval=aG.toArray:=by
  rw[<-l];apply xZ;simp only[Array.toList_append,zy,iD,ec];show rc::_=_::_;congr 1;exact mG λy _=>r.eval y
 have o:((#[a.eval x]++args.map a.eval).extract 1 (#[a.eval x]++args.map a.eval).size)=args.map a.eval:=by
  simp
 have q:=hm w;simp only[dk,d,tZ,invoke,ic,k8,im];have b:(#[a.eval x]++args.map a.eval)[0]?=some (a.eval x):=by rw[Array.getElem?_append_left bd];rfl
 rw[b];simp only[o];rw[c];show(callMethod (.iface t v) name _).run P w=_;simp only[callMethod,ic,ahK,im,q];rw[he,A6 j]
 grind
theorem aaN{U:cp}(d:U.op= .assign x){C:(Nat->Nat)->Prop}(hC:∀b,(∀i,i<L.length->b i=β i)->C b)(f:jk al a' n C K next)(m:cX al a' β L h w)(r:dn n β L e a)(g:dN L)(hp:fZ P n (.set (bS x)) U.dst e L h K):U.wp P a w next Q:=by
 simp only[fZ,force_eq]at hp;refine r1 (v:=((bS x).get e).c β) (bk:=w) (by simp[dk,d,r.eval x]) ?_;exact j2 f (hC β λ_ _=>rfl) m r g (r.rU x) hp
theorem RR{U:cp}(p:jk al a' n Any K next)(m:cX al a' β L h w)(r:dn n β L e a)(o:dN L)(hp:fZ P n (bQ P U.op) U.dst e L h K):U.wp P a w next Q:=by
 have fin:(∃bH,g8 n U.dst bH e L h K/\bH.ok L/\Yields P U a β L h bH)->U.wp P a w next Q:=λS=>aF4 m.cA S λbH N hk=>j2 p trivial m r o N hk
 by_cases hk:ir (bQ P U.op)=true;rw[ad8 _ hk]at hp;exact fin (RN r o hk hp);have bad:∀{q:Op},U.op=q->fZ P n (.raw q) U.dst e L h K->U.wp P a w next Q:=λX T=>apA p m r o aJ
 have G:∀{q:Op},U.op=q->ir (bQ P q)=true->False:=λX T=>hk aJ;cases j:U.op with
 |move x=>rw[j]at hp;exact fin (aaD r j (V:=λx=>g8 n U.dst x e L h K) hp)
 |assign x=>rw[j]at hp;exact aaN j (λ_ _=>trivial) p m r o hp
 |pick c x y=>rw[j]at hp;exact fin (aaF r j hp)
 |alloc t=>
  rw[j]at hp;simp only[bQ]at hp;split at hp;rename_i i C;split at hp;rename_i z B;exact aaI j C B (λ_ _=>trivial) p m r o hp
  grind
  grind
 |box t x=>rw[j]at hp;exact aaJ j (λ_ _=>trivial) p m r o hp
 |buildSlice t len R=>
  rw[j]at hp;simp only[bQ]at hp;split at hp;rename_i el hu;split at hp;rename_i s b aE he;obtain⟨i,z,C,B,A,F,Y,fr,lU⟩:=I5 he;subst A;subst lU;exact aaK j hu C B Y (λ_ _=>trivial) p m r o hp
  grind
  grind
 |load t x=>
  rw[j]at hp;simp only[bQ]at hp;split at hp;rename_i u;refine fin (RO r o j u ?_);cases H:qr P t<;>rw[H]at hp<;>exact hp
  grind
 |store t x y=>
  rw[j]at hp;simp only[bQ]at hp;split at hp;rename_i u;exact apB j u p m r o hp
  grind
 |nilCheck x=>rw[j]at hp;exact fin (aaE r j hp)
 |binOp op t x y g'=>
  rw[j]at hp;have D:=G j;cases op<;>simp only[bQ]at hp D<;>(repeat' split at hp)<;>first|exact bad j hp|grind [ir]
 |unOp op t x=>
  rw[j]at hp;have D:=G j;cases op<;>simp only[bQ]at hp D<;>(repeat' split at hp)<;>first|exact bad j hp|grind [ir]
 |fieldAddr t x i=>
  rw[j]at hp;simp only[bQ]at hp;split at hp;rename_i f E;split at hp;rename_i u;exact fin (aax r j E u hp)
  grind
  grind
 |indexAddr t x i=>
  rw[j]at hp;simp only[bQ]at hp;split at hp;rename_i el hu;split at hp;rename_i u;exact fin (aay r j hu u hp)
  grind
  rename_i m el hu;split at hp;rename_i u;exact fin (aaz r j hu u hp)
  grind
  grind
 |extract x i=>rw[j]at hp;exact fin (aav r j hp)
 |makeSlice t x y=>
  rw[j]at hp;simp only[bQ]at hp;split at hp;rename_i el hu;split at hp;rename_i s b aE he;exact aaM j hu he (λ_ _=>trivial) p m r o hp
  grind
  grind
 |makeFunc fn first nl=>
  rw[j]at hp;cases fn with
  |func f=>
   simp only[bQ]at hp;split at hp;rename_i E;exact apw j (Array.eq_empty_of_size_eq_zero E) p m r o hp
   grind
  |_=>exact bad j hp
 |call c=>
  rw[j]at hp;obtain⟨ux,args,M⟩:=c;simp only[bQ]at hp;cases ux with
  |value f=>
   cases f with
   |func f=>exact aps j p m r o hp
   |tmp t=>exact RP j p m r o hp
   |const v=>exact RP j p m r o hp
   |global g=>exact RP j p m r o hp
  |invoke x y=>exact apu j p m r o hp
  |builtin b=>
   cases b with
   |append=>
    simp only at hp;split at hp;rename_i x y t g' I O;split at hp;rename_i el hu;split at hp;rename_i s bU aE he;split at hp;rename_i yY;subst yY;have A:args=#[x,y]:=aJ;have F:M=#[t,t]:=aJ;subst A;subst F;exact apr j hu he p m r o hp
    grind
    grind
    grind
    grind
   |len=>
    simp only at hp;split at hp;rename_i x t I O;have A:args=#[x]:=aJ;have F:M=#[t]:=aJ;subst A;subst F;split at hp;rename_i el hu;exact fin (aaA r j hu hp);rename_i pK el hu;exact fin (aaB r j hu hp);rename_i hu;exact fin (aaH r j hu hp)
    grind
    grind
   |min=>
    simp only at hp;split at hp;rename_i x y I;have A:args=#[x,y]:=aJ;subst A;exact fin (MN (j0:=false) r j hp)
    grind
   |max=>
    simp only at hp;split at hp;rename_i x y I;have A:args=#[x,y]:=aJ;subst A;exact fin (MN (j0:=true) r j hp)
    grind
   |_=>grind
 |ready g=>rw[j]at hp;exact bad j hp
 |waits g=>rw[j]at hp;exact bad j hp
 |insert t m k v=>rw[j]at hp;exact bad j hp
 |convert s d x=>
  rw[j]at hp;have D:=G j;simp only[bQ]at hp D
  grind [ir]
 |sliceToArrayPointer t x=>rw[j]at hp;exact bad j hp
 |makeInterface t x=>rw[j]at hp;exact bad j hp
 |makeChan t x=>rw[j]at hp;exact bad j hp
 |index t x i=>rw[j]at hp;exact bad j hp
 |mapEntry t m k=>rw[j]at hp;exact bad j hp
 |entryStore t m s v=>rw[j]at hp;exact bad j hp
 |range t x=>
  rw[j]at hp;simp only[bQ]at hp;split at hp;rename_i pK el hu;exact apz j hu p m r o hp
  grind
 |next x b=>
  rw[j]at hp;cases b with
  |true=>exact bad j hp
  |false=>exact apy j p m r o hp
 |entry x=>rw[j]at hp;exact apt j p m r o hp
 |typeAssert x t s b=>rw[j]at hp;exact bad j hp
 |go c=>rw[j]at hp;exact bad j hp
 |defer c=>rw[j]at hp;exact bad j hp
 |panic x=>rw[j]at hp;exact bad j hp
 |send c x=>rw[j]at hp;exact bad j hp
 |recv t c b=>rw[j]at hp;exact bad j hp
 |select cs b=>rw[j]at hp;exact bad j hp
 |build t R=>
  rw[j]at hp;simp only[bQ]at hp;split at hp;rename_i i C;split at hp;rename_i z l B ak;split at ak;rename_i W;exact fin (aas r j C B W ak hp);exact fin (aat r j C B ak hp)
  grind
  grind
 |makeMap t Z=>
  rw[j]at hp;cases Z with
  |none=>exact apx j p m r o hp
  |some x=>exact bad j hp
 |slice t x cQ C j0=>
  rw[j]at hp;simp only[bQ]at hp;split at hp;rename_i el hu;split at hp;rename_i u;exact fin (aaG r j hu u hp)
  grind
  grind
 |field t x i=>
  rw[j]at hp;simp only[bQ]at hp;split at hp;rename_i f E;split at hp;rename_i u;refine fin (aaw r j E u ?_);cases H:qr P f.type<;>rw[H]at hp<;>exact hp
  grind
  grind
 |lookup t x k b=>
  rw[j]at hp;simp only[bQ]at hp;split at hp;rename_i pK el hu;split at hp;rename_i b0 z J B;exact fin (aaC r j hu J B hp)
  grind
  grind
 |mapUpdate t x k v=>
  rw[j]at hp;simp only[bQ]at hp;split at hp;rename_i pK el hu;split at hp;rename_i b0 J;exact apv j hu J p m r o hp
  grind
  grind
end
def hS(P:eN)(n:Nat)(U:cK)(e:cy)(L:List LE)(h:J)(K:fw):Prop:=
 match U.g with
 |none=>fZ P n U.k U.d e L h K
 |some (t,a)=>(match e t with
  |.v (.bool b)=>(match a with
   |true=>fT b (fZ P n U.k U.d (ji e t (.v (.bool true))) L h K) (g8 n U.d (.v fp) (ji e t (.v (.bool false))) L h K)
   |false=>fT b (g8 n U.d (.v fp) (ji e t (.v (.bool true))) L h K) (fZ P n U.k U.d (ji e t (.v (.bool false))) L h K))
  |.v (.tuple _)=>g8 n U.d (.v fp) e L h K
  |_=>False)
def wpOps(P:eN)(n:Nat):List cK->cy->List LE->J->fw->Prop
 |[],e,L,h,K=>K e L h
 |U::r,e,L,h,K=>hS P n U e L h λe L h=>wpOps P n r e L h K
section
variable {P:eN}{al:J}{a':bw}{n:Nat}{β:Nat->Nat}{L:List LE}{h:J}{e:cy}{a:Act}{w:bw}
theorem nb{e:cy}{x:aK}(a:e t=x):ji e t x=e:=by
 funext i;unfold ji;cases b:hW i t with
 |true=>simp_all
 |false=>rfl
theorem PT(r:dn n β L e a){ops:Array cp}{o:Nat}{i:cp}(h:ops[o]?=some i)(g:i.dst=some t):(∀b,e t= .v (.bool b)->lI ops a.tmps o=some b)/\(∀aG,e t= .v (.tuple aG)->lI ops a.tmps o=none):=by
 have he:=r.env t;rw[Array.getD_eq_getD_getElem?]at he;constructor;intro b f;rw[f]at he;simp only[lI,h,g,ta];cases d:a.tmps[t]?with
 |none=>simp_all[d,aK.c,aK.c1,fp]
 |some v=>simp_all[d,aK.c,aK.c1]
 intro aG f;rw[f]at he;simp only[lI,h,g,ta];cases d:a.tmps[t]?with
 |none=>rfl
 |some v=>simp_all[d,aK.c,aK.c1]
theorem Lr{ops:Array cp}{U:cp}(j:jk al a' n Any K next)(m:cX al a' β L h w)(r:dn n β L e a)(k:dN L)(hp:hS P n (fX P ops U) e L h K):
 if hF U (lI ops a.tmps)then U.wp P a w next Q else next (a.put U.dst fp) w:=by
 unfold fX at hp
 split at hp
 rename_i g c
 cases d:U.guard with
 |none=>
  rw[d]at c;injection c with c;subst c;simp only[hS]at hp;rw[aP (by simp[hF,d])];exact RR j m r k hp
 |some l=>
  obtain⟨o,y⟩:=l;rw[d]at c;simp only[xI]at c;split at c;rename_i z p;split at c;rename_i t q;injection c with c;subst c;obtain⟨s,u⟩:=PT r p q;simp only[hS]at hp;split at hp;rename_i b f;have i:=s b f;cases y<;>cases b<;>simp only[fT]at hp;rw[nb f]at hp;rw[aP (by simp[hF,d,i])];exact RR j m r k hp;rw[nb f]at hp;rw[aD (by simp[hF,d,i])];exact j2 j trivial m r k (x:=.v fp) trivial hp;rw[nb f]at hp;rw[aD (by simp[hF,d,i])];exact j2 j trivial m r k (x:=.v fp) trivial hp;rw[nb f]at hp;rw[aP (by simp[hF,d,i])];exact RR j m r k hp;rename_i aG f;have i:=u aG f;rw[aD (by simp[hF,d,i])];exact j2 j trivial m r k (x:=.v fp) trivial hp
  grind
  grind
  grind
 exact hp.elim
end
end Go.Sx
