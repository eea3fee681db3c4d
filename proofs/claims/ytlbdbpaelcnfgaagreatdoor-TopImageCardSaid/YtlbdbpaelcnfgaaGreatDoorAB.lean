/- A part of the proof that the statement holds. Conditions: none. -/
import Derived.ChangeKeysEq
import Derived.Test.YtlbdbpaelcnfgaaGreatDoorAA
open Array renaming ext'->r6,getElem?_toList->zG,size_push->NF,toList_map->wO
open Bool renaming and_eq_true->fY,false_eq_true->uh,not_eq_true'->td,not_true->agm,true_and->wQ
open ForInStep renaming yield->UC
open Go renaming Addr->ar,Exit->fU,Field->DW,Oper->b8,Operand->e3,Program->dW,TypeId->fc,Value->ao,World->bb,eqGuard->Pu,execOp->cY,getObj->Cp,madeCells->rO,resolve->zx,run_eqGuard_agg->aw3,run_equalIn_array->aw4,run_equalIn_int->Th,run_equalIn_struct->aw5,run_program->aeh,run_underlying->gj,size_madeCells->axG,typeInfo->Bq,undef->eU,yielded->j8,zeroValue->Ue
open Go.Builtin renaming len_->Un
open Go.ChangeMaps renaming setBlock->aAo
open Go.Conv renaming intToInt->Ur
open Go.Instr renaming build->agS,checkKey->qp,field->agU,findAsking->GA,findKey->BF,findNow->yk,keyThatStays->agW,lookup->agX,mapUpdate->UJ,sameBits->GB,sliceBound->NX,sliceBounds->JT
open Go.IntKind renaming bits->JV
open Go.Op renaming eqItems->UG,eqFields->U4,equal->GT,equalIn->vN
open Go.Program renaming fieldsOf->ah1
open Go.Region renaming wanted->gz
open Go.Result renaming andThen_ok->hd
open Go.Sem renaming run->w3,run_bind->aDF,run_pure->jR
open Go.Value renaming int->h'
open List renaming forIn_cons->ahh,getElem?_cons_zero->JZ,getElem?_drop->GF,getElem?_map->dV,map->GJ,map_congr_left->pK,map_cons->eO,map_map->lo,mem_map->dn,range'->ahr,range'_succ->ahs,range_eq_range'->aht,tail->J4,tail_drop->J5
open List.cons renaming injEq->yp
open Nat renaming add_comm->vL,add_zero->wX,beq->gN,ble->nT,eq_of_beq_eq_true->mJ,le_of_ble_eq_true->rh,le_refl->dd,mul_one->ew,zero_le->cO
open Option renaming bind_some->sc,isSome_none->J9,map_none->D4,map_some->vO
open PUnit renaming unit->GV
open Std.Legacy.Range renaming forIn_eq_forIn_range'->aAw,size->aAx
namespace Go.Sx
open Go.RowKit
set_option maxRecDepth 100000
set_option maxHeartbeats 0
set_option linter.all false
variable {next:Act->bb->Prop}{dt:List Int}{aG:List ao}{b bQ el oR s t:Nat}{V:aA->Prop}{v z:ao}{J:b8}{x y:e3}{K:eN}{Q:fU->Act->bb->Prop}{hy:fc}
section
variable {P:dW}{ai:I}{aV:bb}{n:Nat}{β:Nat->Nat}{L:List LE}{h:I}{e:bY}{a:Act}{w:bb}
theorem Hh(ad:Aq P t=some (s,b,aG)):∃i z,P.info? t=some i/\i.zero=some z/\i.size=s/\i.bytes=b/\z.cells.size=s/\0<s/\aG=z.cells.toList:=by
 unfold Aq at ad;split at ad;rename_i i ag;split at ad;rename_i z aY;split at ad;simp_all
 grind
 grind
 grind
theorem akq(ay:J.op= .call {callee:=.builtin .append,args:=#[x,y],argTypes:=#[t,t]})(hu:P.underlying t=some (.slice el))(he:Aq P el=some (s,b,aG))(aL:h4 ai aV n Any K next)(m:cb ai aV β L h w)(r:cJ n β L e a)(aF:de L)(hp:fz P n (.append t el s b aG (bK x) (bK y)) J.dst e L h K):J.wp P a w next Q:=by
 obtain⟨i,z,ag,aY,aJ,aI,ck,eE,mf⟩:=Hh he;have ad:=r.eval x;have aQ:=r.eval y;have fin:∀(j9:Nat->Nat)(f':List LE)(h1:I)(A B:Option ar)(k cap q c:Nat)(S:List ao->Prop),cb ai aV j9 f' h1 w->cJ n j9 f' e a->de f'->a.eval x= .slice A k cap->a.eval y= .slice B q c->(∀au,S au->yt w s B q au)->BB el s b A k cap q S f' h1 (λx L h=>gn n J.dst x e L h K)->J.wp P a w next Q:=by
  intro j9 f' h1 A B k cap q c S m1 fv fu zb Q8 c5 lA;obtain⟨bA,c4,hE,bS,bd,U,aZ,dp,eR,bc,ef,et,LM⟩:=ake (P:=P) (ty:=J.type) (c:=c) hu ag aY aJ aI ck eE m1 fu c5 lA;refine q4 (v:=.slice bA hE c4) (aZ:=aZ) (by simp[cY,ay,zx,invoke,builtin,zb,Q8,dp]) ?_;exact jd aL trivial bc (fv.agree LM et) ef (x:=.v _) trivial eR
 have app:∀(j9:Nat->Nat)(f':List LE)(A:Option ar)(k cap:Nat),cb ai aV j9 f' h w->cJ n j9 f' e a->de f'->a.eval x= .slice A k cap->a.eval y=((bK y).get e).c j9->Gg n el s b A k cap ((bK y).get e) J.dst e f' h K->J.wp P a w next Q:=by
  intro j9 f' A k cap m1 fv fu zb zc hw;unfold Gg at hw;split at hw;rename_i B q c aq;obtain⟨j',iT,ab,bB,m2,k7,oi,nk⟩:=mZ hw j9 m1 fu;exact fin j' iT ab A B k cap q c _ m2 (fv.agree nk oi) k7 zb (by rw[zc,aq];rfl) (λau aj=>aeX m2.bR aj) bB;rename_i o off q c aq;split at hw;rename_i cs ty ae;split at hw;rename_i oo AR;obtain⟨ma,an,C2,m3,Cy,Ds,_⟩:=rV oo _ _ _ m1 fu hw;split at C2;rename_i au fh;obtain⟨qQ,iK⟩:=sub_eq _ _ _ _ AR;have aw:=Bg m3.bR oo au fh;have tO:yt w s (some ⟨j9 o,off,none⟩) q au:=by
   refine⟨by rw[<-aw];simp[iK],.inr ⟨_,rfl,λp v ke=>?_⟩⟩;rw[<-aw,dV,Option.map_eq_some_iff]at ke;obtain⟨u,hh,rfl⟩:=ke;rw[add_lit];refine M3 m1.bR ae ?_;rw[qQ,List.getElem?_take]at hh;split at hh;simpa[GF]using hh;cases hh
  obtain⟨j',iT,ab,bB,m2,k7,oi,nk⟩:=mZ C2 j9 m3 Cy;exact fin j' iT ab A _ k cap q c _ m2 ((fv.agree (λ_ _=>rfl) Ds).agree nk oi) k7 zb (by rw[zc,aq];exact ho (λx=>Value.slice (some ⟨x,off,none⟩) q c) (nk o (Ds o ⟨_,ae,rfl⟩)).symm) (λTZ aj=>by rw[show TZ=au from aj,nk o (Ds o ⟨_,ae,rfl⟩)];exact tO) bB;exact C2.elim;exact hw.elim;exact hw.elim;exact hw.elim
 simp only[fz]at hp;split at hp;rename_i A k cap aq;exact app β L A k cap m r aF (by rw[ad,aq];rfl) aQ hp;rename_i l k cap aq;split at hp;rename_i cs ty ae;cases af:(gN cs.length (cap*s)&&nT k cap&&gN ty el&&nT cap 9223372036854775807)with
 |false=>rw[af]at hp;exact hp.elim
 |true=>
  rw[af]at hp;simp only[fY]at af;obtain⟨⟨⟨eS,fC⟩,pg⟩,wi⟩:=af;have eS:=mJ eS;have fC:=rh fC;have pg:=mJ pg;have wi:=rh wi;subst pg;simp only[lv]at hp;split at hp;rename_i au fh;obtain⟨bQ⟩:=hp;have su:=m.hole l _ ae rfl;have i9:=bQ (β l) su;have fg:=Bg m.bR cs au fh;have u6:=m.bR.bR l _ ae;simp only[LE.eL,fg]at u6;obtain⟨m1,kY⟩:=m.fR (b3:=.gone) ae rfl rfl rfl trivial u6;have fu:=aF.nQ (j4 ae) kY (λ_ _ e=>by cases e);have eb:au.length=cap*s:=by rw[<-fg];simp[eS]
  have cu:k*s<=cap*s:=Nat.mul_le_mul_right s fC;have jM:bz (h.put (β l) (.cells au.toArray ty (0,0))) ty s (some ⟨β l,0,none⟩) k cap (au.take (k*s)):=⟨by rw[List.length_take,eb];omega,.inr ⟨β l,au.toArray,rfl,I.bP _ _ _,fC,by simpa[maxLen]using wi,by simpa using eb,rfl⟩⟩;obtain⟨j',iT,ab,⟨rfl,rfl⟩,m2,k7,oi,nk⟩:=mZ (K:=λiT ab=>iT=fN L l .gone++[.row ty s (some ⟨β l,0,none⟩) k cap (au.take (k*s))]/\ab=ei (h.put (β l) (.cells au.toArray ty (0,0))) (some ⟨β l,0,none⟩)) (.abs ty s (some ⟨β l,0,none⟩) k cap (au.take (k*s)) jM (.done ⟨rfl,rfl⟩)) β m1 fu;have EZ:ei (h.put (β l) (.cells au.toArray ty (0,0))) (some ⟨β l,0,none⟩)=h:=by
   funext o;simp only[ei,I.del,I.put];by_cases e:o=β l;rw[aX e,e,su];rw[aE e,aE e]
  rw[EZ]at m2;have dU:=(r.agree (λ_ _=>rfl) kY).agree nk oi;exact app j' _ _ k cap m2 dU k7 (by rw[ad,aq];rfl) (dU.eval y) i9;exact hp.elim
 exact hp.elim;exact hp.elim
theorem XB(ay:J.op= .makeSlice t x y)(hu:P.underlying t=some (.slice el))(he:Aq P el=some (s,b,aG)){C:(Nat->Nat)->Prop}(hC:∀bS,(∀i,i<L.length->bS i=β i)->C bS)(aL:h4 ai aV n C K next)(m:cb ai aV β L h w)(r:cJ n β L e a)(aF:de L)(hp:fz P n (.d7 t el s b aG (bK x) (bK y)) J.dst e L h K):J.wp P a w next Q:=by
 obtain⟨i,z,ag,aY,aJ,aI,ck,eE,mf⟩:=Hh he;have ad:=r.eval x;have aQ:=r.eval y;simp only[fz]at hp;split at hp;rename_i vA nR anY anZ;have key:∀(k c:Nat)(xs:List ao),vA=k->nR=c->c*b<=281474976710656->c<=9223372036854775807->k<=c->(∀cs:Array ao,cs=rO z.cells (c*s)->xs.length=k*s/\cs.toList.take (k*s)=xs)->(∀g,gn n J.dst (.v (.slice (some g) k c)) e (L++[.row el s (some g) k c xs]) h K)->J.wp P a w next Q:=by
  rintro k c xs rfl rfl af hm HZ rK bQ;have am:=run_make (P:=P) w t el i z hu ag aY .i64 .i64 k c (by omega) (by omega) (by grind) (by omega);simp only[Int.toNat_natCast]at am;obtain⟨aM,aD⟩:=rK _ rfl;rw[<-aJ]at aD;have gW:(w.alloc (.cells (rO z.cells (c*i.size)) el)).ownsRow 0 el s (.slice (some ⟨w.heap.size,0,none⟩) k c) k xs:=⟨aM,.inr ⟨w.heap.size,c,_,rfl,cO _,heap_alloc_new w _,HZ,by grind [maxLen],by rw[axG,aJ],by grind⟩⟩;have ak:=World.grownBy_alloc w (.cells (rO z.cells (c*i.size)) el) none;obtain⟨m1,fu⟩:=m.IU aF el s;have ae:b1 (L++[LE.row el s none 0 0 []]) L.length=some (.row el s none 0 0 []):=by rw[tX];simp
  obtain⟨bS,bL,bc,et,gE⟩:=m1.grow fu ae (aZ:=w.alloc (.cells (rO z.cells (c*i.size)) el)) (by grind [Value.ownBlock]) gW (.inr rfl);have cy:∀i,i<L.length->bS i=β i:=λi ag=>gE i (by omega);have kQ:∀y:LE,fN (L++[LE.row el s none 0 0 []]) L.length y=L++[y]:=λy=>by
   rw[Bl,List.set_append_right _ _ (dd _)];simp
  have ef:=fu.nQ (j4 ae) et (λ_ _ e=>by cases e);rw[kQ]at bc et ef;refine q4 (v:=.slice (some ⟨w.heap.size,0,none⟩) k c) (aZ:=w.alloc (.cells (rO z.cells (c*i.size)) el)) (by simp[cY,ay,ad,aQ,anY,anZ,aA.c,aA.c1,am]) ?_;exact jd aL (hC bS cy) bc (r.agree (λo ae=>bL o (qg _ ae)) (λo ae=>et o (qg _ ae))) ef (x:=.v _) trivial (bQ ⟨w.heap.size,0,none⟩)
 have ajX:aG.toArray=z.cells:=by rw[mf]
 have full:∀(k:Nat)(cs:Array ao),cs=rO z.cells (k*s)->(rO aG.toArray (k*s)).toList.length=k*s/\cs.toList.take (k*s)=(rO aG.toArray (k*s)).toList:=by
  rintro k cs rfl;rw[ajX];have:(rO z.cells (k*s)).toList.length=k*s:=by rw[Array.length_toList,axG]
  grind
 cases hp with
 |mk k al aw af hm bQ=>exact key k k _ al aw af hm (dd _) (full k) bQ
 |one k af9 If aj al aw af hm bQ=>
  refine key k k _ al aw af hm (dd _) (full k) λg=>?_;rw[If,aj,ew,show[af9].toArray=#[af9]from rfl,toList_madeCells_one,<-aj]
  grind
 |room c al aw af hm bQ=>exact key 0 c [] al aw af hm (cO _) (λcs _=>by simp) bQ
 grind
theorem X4{i:Nat}{f:DW}(az:Av P t i=some f):∃a',P.underlying t=some (.struct a')/\a'[i]?=some f:=by
 unfold Av at az
 grind
theorem atu{a':Array DW}(hu:P.underlying t=some (.struct a')):∀(be:List (Nat×e3))(l:List (Nat×Nat×dB)),Dh P t be=some l->∃g:Nat×e3->Nat×Nat×dB,l=be.map g/\∀p∈be,(g p).2.2=bK p.2/\∃f,a'[p.1]?=some f/\(g p).1=f.offset/\(g p).2.1=ir P f.type:=by
 intro be;suffices h:∀(l:List (Nat×Nat×dB)),Dh P t be=some l->l=be.map (λp=>((match a'[p.1]?with|some f=>f.offset|none=>0),(match a'[p.1]?with|some f=>ir P f.type|none=>0),bK p.2))/\∀p∈be,∃f,a'[p.1]?=some f by
  grind
 induction be with
 |nil=>simp[Dh]
 |cons q be bE=>
  intro l al;obtain⟨o,x⟩:=q;simp only[Dh]at al;split at al;rename_i f az;obtain⟨yN,hh,AB⟩:=X4 az
  grind
  grind
theorem Xh(r:cJ n β L e a){t:fc}{i:TypeInfo}{be:Array (Nat×e3)}{l:List (Nat×Nat×dB)}(ay:J.op= .build t be)(ag:P.info? t=some i)(aY:i.zero=some z)(aj:TC P t=true)(al:Dh P t be.toList=some l)(ah:eX (.build z.cells.toList l) e L h V):∃bx,V bx/\bx.ok L/\Yields P J a β L h bx:=by
 unfold TC at aj;split at aj;rename_i a' hu;obtain⟨g,ak,Zj⟩:=atu hu _ _ al;simp only[eX]at ah;split at ah;rename_i cs fg;have p0:∀f∈a'.toList,iP P f.type=true:=List.all_eq_true.1 aj;refine⟨_,ah,?_,λw hw=>?_⟩;show∀x∈cs,x.h6 L;refine KN _ _ _ fg (FN _) λq aq=>?_;rw[ak,lo]at aq;obtain⟨p,hp,rfl⟩:=dn.1 aq;simp only[Function.comp];rw[(Zj p hp).1];exact r.qY p.2;rw[ak,lo]at fg;have anS:(a'.mapM λf=>(do pure (f.offset,<-sizeOf f.type):Sem (Nat×Nat))).run P w= .ok (a'.map λf=>(f.offset,ir P f.type)) w:=by
  rw[Array.mapM_eq_mapM_toList];have key:∀l:List DW,(∀f∈l,iP P f.type=true)->(l.mapM λf=>(do pure (f.offset,<-sizeOf f.type):Sem (Nat×Nat))).run P w= .ok (l.map λf=>(f.offset,ir P f.type)) w:=by
   intro l;induction l with
   |nil=>simp
   |cons f l bE=>
    intro az;obtain⟨o,ae⟩:=x5 (az f (List.mem_cons_self ..));simp only[List.mapM_cons,aDF,run_sizeOf ae,hd,jR,bE λn2 am2=>az n2 (List.mem_cons_of_mem _ am2),eO,x6 ae]
  simp only[Sem.run_map,key a'.toList p0,hd];exact ho (λz=>Result.ok z w) (r6 (by simp))
 have az:=KO (β:=β) (λo=>(a'.map λf=>(f.offset,ir P f.type))[o]?) (λp:Nat×e3=>(p.1,(bK p.2).get e)) (λp=>((g p).1,(g p).2.1,dB.get e (g p).2.2)) be.toList (z.cells.toList.map .v) cs (λp hp=>by
  grind) fg
 have nD:(GJ (λx:Nat×e3=>(x.1,aA.c β (dB.get e (bK x.2)))) be.toList)=(GJ (λx:Nat×e3=>(x.1,a.eval x.2)) be.toList):=pK λp _=>by rw[r.eval p.2]
 simp only at az;rw[nD,B7]at az;have If:z.cells.toList.toArray=z.cells:=by simp
 rw[If]at az;simp only[cY,ay,agS,aDF,Ue,Bq,aeh,hd,ag,jR,aY,gj hu,anS,wO];rw[az];rfl
 grind
 grind
theorem Xi(r:cJ n β L e a){t:fc}{i:TypeInfo}{be:Array (Nat×e3)}{l:List (Nat×Nat×dB)}(ay:J.op= .build t be)(ag:P.info? t=some i)(aY:i.zero=some z)(al:RY P t be.toList=some l)(ah:eX (.build z.cells.toList l) e L h V):∃bx,V bx/\bx.ok L/\Yields P J a β L h bx:=by
 unfold RY at al;split at al;rename_i m el hu;split at al;rename_i an';injection al with al;subst al;obtain⟨o,ae⟩:=x5 an';rw[x6 ae]at ah;simp only[eX]at ah;split at ah;rename_i cs fg;refine⟨_,ah,?_,λw hw=>?_⟩;show∀x∈cs,x.h6 L;refine KN _ _ _ fg (FN _) λq aq=>?_;rw[lo]at aq;obtain⟨p,hp,rfl⟩:=dn.1 aq;exact r.qY p.2;rw[lo]at fg;have az:=KO (β:=β) (λi=>some (i*o.size,o.size)) (λp:Nat×e3=>(p.1,(bK p.2).get e)) (λp=>(p.1*o.size,o.size,dB.get e (bK p.2))) be.toList (z.cells.toList.map .v) cs (λp hp=>⟨rfl,rfl⟩) fg;have nD:(GJ (λx:Nat×e3=>(x.1,aA.c β (dB.get e (bK x.2)))) be.toList)=(GJ (λx:Nat×e3=>(x.1,a.eval x.2)) be.toList):=pK λp _=>by rw[r.eval p.2]
 simp only at az;rw[nD,B7]at az;have If:z.cells.toList.toArray=z.cells:=by simp
 rw[If]at az;simp only[cY,ay,agS,aDF,Ue,Bq,aeh,hd,ag,jR,aY,gj hu,run_sizeOf ae,wO];rw[az];rfl
 grind
 grind
 grind
theorem akm(r:cJ n β L e a){t:fc}(ay:J.op= .unOp .neg t x)(ah:eX (.neg (bK x)) e L h V):∃bx,V bx/\bx.ok L/\Yields P J a β L h bx:=by
 have ad:=r.eval x;simp only[eX]at ah;split at ah;rename_i b hp;exact⟨_,ah.out,trivial,λw hw=>by simp[cY,ay,ad,hp,aA.c,aA.c1,Op.unary,Op.intArith]⟩
 grind
theorem KL(r:cJ n β L e a){jq:Bool}{iQ:Array fc}(ay:J.op= .call {callee:=.builtin (if jq then .max else .min),args:=#[x,y],argTypes:=iQ})(ah:eX (.IL jq (bK x) (bK y)) e L h V):∃bx,V bx/\bx.ok L/\Yields P J a β L h bx:=by
 have ad:=r.eval x;have aQ:=r.eval y;simp only[eX]at ah;split at ah;rename_i i o hp aq;rw[hp]at ad;rw[aq]at aQ;have aBI:∀c:Prop,[Decidable c]->∀(u v:Int),(if c then h' .i64 u else h' .i64 v)=h' .i64 (if c then u else v):=λc _ u v=>by grind
 cases jq with
 |true=>
  refine⟨_,ah,trivial,λw hw=>?_⟩;simp[cY,ay,zx,invoke,builtin,ad,aQ,aA.c,aA.c1,Builtin.max_,Builtin.max2];omega
 |false=>
  refine⟨_,ah,trivial,λw hw=>?_⟩;simp[cY,ay,zx,invoke,builtin,ad,aQ,aA.c,aA.c1,Builtin.min_,Builtin.min2];omega
 grind
theorem DJ(h:q2 P t=true):P.underlying t=some (.int .i64):=by
 unfold q2 at h
 grind
theorem afx(h:Nh P t=true):P.underlying t=some (.int .u64):=by
 unfold Nh at h
 grind
theorem wrap_u64{z:Int}(ai:0<=z)(h1:z<=9223372036854775807):IntKind.u64.wrap z=z:=by
 grind [IntKind.wrap,JV,IntKind.signed]
theorem JQ.out{d':IntKind}{z:Int}{V:Int->Prop}(hw:0<=z->z<=9223372036854775807->d'.wrap z=z)(x:JQ d' z V):V (d'.wrap z):=by
 cases x with
 |mk ai h1 k=>grind
 |wrap k=>exact k
theorem afw{k:IntKind}(h:Nf P t=some k):P.underlying t=some (.int k):=by
 unfold Nf at h
 grind
theorem azm(h:Jw P t=true):∃k,P.underlying t=some (.int k):=by
 unfold Jw at h;obtain⟨k,hk⟩:=Option.isSome_iff_exists.1 h;exact⟨k,afw hk⟩
theorem akk(r:cJ n β L e a){s d:fc}(ay:J.op= .convert s d x)(ah:eX (bI P J.op) e L h V):∃bx,V bx/\bx.ok L/\Yields P J a β L h bx:=by
 have ad:=r.eval x;rw[ay]at ah;simp only[bI]at ah;split at ah;rename_i av;simp only[fY]at av;simp only[eX]at ah;split at ah;rename_i z hp;have k:=ah.out wrap_u64;exact⟨_,k,trivial,λw hw=>by simp[cY,ay,ad,hp,aA.c,aA.c1,convert,gj (DJ av.1),gj (afx av.2),Ur]⟩
 grind
 split at ah;rename_i av;simp only[fY]at av;simp only[eX]at ah;split at ah;rename_i z hp;have k:=ah.out λai h1=>IntWalk.i64_in z ⟨by omega,h1⟩;exact⟨_,k,trivial,λw hw=>by simp[cY,ay,ad,hp,aA.c,aA.c1,convert,gj (DJ av.2),gj (afx av.1),Ur]⟩
 grind
 split at ah;rename_i aj;obtain⟨dt,aj⟩:=azm aj;split at ah;rename_i k hk;simp only[eX]at ah;split at ah;rename_i aBE z hp;exact⟨_,ah,trivial,λw hw=>by simp[cY,ay,ad,hp,aA.c,aA.c1,convert,gj aj,gj (afw hk),Ur]⟩
 grind
 exact ah.elim;exact ah.elim
theorem eqGuard_shr{P:dW}{t:fc}{u:ao}{w:bb}:(Pu .shr t x y u v).run P w= .ok () w:=by rfl
theorem ako(r:cJ n β L e a){t:fc}(ay:J.op= .binOp .shr t x y hy)(ah:eX (.tm .shr 0 (bK x) (bK y)) e L h V):∃bx,V bx/\bx.ok L/\Yields P J a β L h bx:=by
 have ad:=r.eval x;have aQ:=r.eval y;simp only[eX]at ah;split at ah;rename_i z hp aq;rw[hp]at ad;rw[aq]at aQ;refine⟨_,ah,trivial,λw hw=>?_⟩;simp[cY,ay,ad,aQ,aA.c,aA.c1,eqGuard_shr,binOp,Op.shift,JV];rename_i p9 u p' v _ hp aq;rw[hp]at ad;rw[aq]at aQ;obtain⟨v,am,k⟩:=ah;have ad:a.eval x= .int p9 u:=ad;have aQ:a.eval y= .int p' _:=aQ;refine⟨_,k,trivial,λw hw=>?_⟩;show(cY a.eval J).run P w= .ok (.value v) w;simp only[cY,ay,ad,aQ,aDF,Pv,hd,VV (t:=t) (hy:=0),am,jR]
 grind
theorem akl(r:cJ n β L e a){op:BinOp}{t:fc}(ay:J.op= .binOp op t x y hy)(ah:eX (.Ew op (bK x) (bK y)) e L h V):∃bx,V bx/\bx.ok L/\Yields P J a β L h bx:=by
 have ad:=r.eval x;have aQ:=r.eval y;simp only[eX]at ah;split at ah;rename_i i o hp aq;rw[hp]at ad;rw[aq]at aQ;split at ah;obtain⟨bH,ah⟩:=ah;exact⟨_,ah.out,trivial,λw hw=>by simp[cY,ay,ad,aQ,aA.c,aA.c1,binOp_quo,eqGuard_quo,Op.intDiv,bH]⟩;obtain⟨bH,ah⟩:=ah;exact⟨_,ah,trivial,λw hw=>by simp[cY,ay,ad,aQ,aA.c,aA.c1,binOp_rem,eqGuard_rem,Op.intDiv,bH]⟩
 grind
 grind
theorem Xv(r:cJ n β L e a){t el:fc}{bX ag:Option e3}(ay:J.op= .slice t x bX ag none)(hu:P.underlying t=some (.slice el))(av:iP P el=true)(ah:eX (.slice (ir P el) (bK x) (bX.map bK) (ag.map bK)) e L h V):∃bx,V bx/\bx.ok L/\Yields P J a β L h bx:=by
 have ad:=r.eval x;obtain⟨o,ae⟩:=x5 av;rw[x6 ae]at ah;have key:∀(A:Option ar)(m cap:Nat)(vA NB:Int),(bK x).get e= .v (.slice A m cap)->Gw A m cap o.size vA NB V->((bX=none/\vA=0)\/∃q,bX=some q/\(bK q).get e= .v (.int .i64 vA))->((ag=none/\NB=m)\/∃q,ag=some q/\(bK q).get e= .v (.int .i64 NB))->∃bx,V bx/\bx.ok L/\Yields P J a β L h bx:=by
  intro A m cap vA NB aD5 lA rE Zm;obtain⟨l,k,rfl,rfl,ai,h1,bQ⟩:=lA;refine⟨_,bQ (if cap=l then A else A.map (·.add (l*o.size))) (λdi=>aE (by omega)) (λmR=>aX mR.symm),trivial,λw hw=>?_⟩;have aos:a.eval x= .slice A m cap:=by rw[ad,aD5];rfl
  have bL:∀(v:ao)(y:Nat)(c:BoundsCode)(q:Nat),v= .int .i64 (q:Int)->q<=y->(NX v y c).run P w= .ok q w:=by
   rintro v y c q rfl aq;simp[NX,asIntOf,aq]
  have CV:(JT true m cap (bX.map a.eval) (ag.map a.eval) none).run P w= .ok (l,k,cap) w:=by
   have jL:∀q,bX=some q->(NX (a.eval q) k .sliceB).run P w= .ok l w:=λq aJ=>by
    rcases rE with⟨aI,_⟩|⟨l5,aI,aq⟩;rw[aJ]at aI;cases aI;rw[aJ]at aI;injection aI with aI;subst aI;exact bL _ _ _ _ (by rw[r.eval q,aq];rfl) ai
   have br:∀q,ag=some q->(NX (a.eval q) cap .sliceAcap).run P w= .ok k w:=λq aJ=>by
    rcases Zm with⟨aI,_⟩|⟨l5,aI,aq⟩;rw[aJ]at aI;cases aI;rw[aJ]at aI;injection aI with aI;subst aI;exact bL _ _ _ _ (by rw[r.eval q,aq];rfl) h1
   have Lv:bX=none->l=0:=λaJ=>by
    rcases rE with⟨_,aI⟩|⟨l5,aI,_⟩;omega;rw[aJ]at aI;cases aI
   have mm:ag=none->k=m:=λaJ=>by
    rcases Zm with⟨_,aI⟩|⟨l5,aI,_⟩;omega;rw[aJ]at aI;cases aI
   cases ag with
   |none=>
    cases bX with
    |none=>simp only[JT,D4,aDF,jR,hd,mm rfl,Lv rfl]
    |some q=>simp only[JT,D4,vO,J9,uh,k',aDF,jR,hd,<-mm rfl,jL q rfl]
   |some p=>
    cases bX with
    |none=>simp only[JT,D4,vO,la,aDF,jR,hd,br p rfl,Lv rfl]
    |some q=>simp only[JT,vO,J9,uh,k',la,aDF,jR,hd,br p rfl,jL q rfl]
  simp only[cY,ay,Instr.sliceAt,Instr.slice,aDF,gj hu,hd,aos,D4,CV,run_sizeOf ae,jR];rfl
 simp only[eX]at ah;cases bX with
 |none=>
  cases ag with
  |none=>
   simp only[D4,FR]at ah;split at ah<;>first|(rename_i aD5 _ _;exact key _ _ _ _ _ (by assumption) ah (.inl ⟨rfl,rfl⟩) (.inl ⟨rfl,rfl⟩))|(simp_all;done)
  |some q=>
   simp only[D4,vO,FR]at ah;split at ah<;>first|exact key _ _ _ _ _ (by assumption) ah (.inl ⟨rfl,rfl⟩) (.inr ⟨q,rfl,by simp_all⟩)|(simp_all;done)
 |some p=>
  cases ag with
  |none=>
   simp only[D4,vO,FR]at ah;split at ah<;>first|exact key _ _ _ _ _ (by assumption) ah (.inr ⟨p,rfl,by simp_all⟩) (.inl ⟨rfl,rfl⟩)|(simp_all;done)
  |some q=>
   simp only[vO,FR]at ah;split at ah<;>first|exact key _ _ _ _ _ (by assumption) ah (.inr ⟨p,rfl,by simp_all⟩) (.inr ⟨q,rfl,by simp_all⟩)|(simp_all;done)
theorem Dy{t:fc}(av:iP P t=true)(ak:oq P t=false){cs:Array ao}{off:Nat}(aw:cs[off]?=some v):(part t cs off).run P w= .ok v w:=by
 simp[part,MW (Ng av),ak,aw]
theorem aw'{t:fc}(av:iP P t=true)(ak:oq P t=true)(cs:Array ao)(off:Nat):(part t cs off).run P w= .ok (.agg (cs.extract off (off+ir P t))) w:=by
 obtain⟨i,ag⟩:=x5 av;simp[part,MW (Ng av),ak,run_sizeOf ag,x6 ag]
theorem Ej{x:aA}{cs:List aA}(ad:B0 x=some cs):x.c β= .agg (cs.map (aA.c1 β)).toArray:=by
 cases x with
 |a xs=>injection ad with ad;subst ad;rfl
 |v y=>
  cases y with
  |agg aLT=>
   injection ad with ad;subst ad;rw[B7];rfl
  |_=>cases ad
 |_=>cases ad
theorem Vy{x:aA}{cs:List aA}(ad:B0 x=some cs)(hk:x.ok L):∀y∈cs,y.h6 L:=by
 cases x with
 |a xs=>injection ad with ad;subst ad;exact hk
 |v y=>
  cases y with
  |agg aLT=>injection ad with ad;subst ad;exact FN _
  |_=>cases ad
 |_=>cases ad
theorem Xl(r:cJ n β L e a){t:fc}{i:Nat}{f:DW}(ay:J.op= .field t x i)(az:Av P t i=some f)(av:iP P f.type=true)(ah:eX (.field (oq P f.type) f.offset (ir P f.type) (bK x)) e L h V):∃bx,V bx/\bx.ok L/\Yields P J a β L h bx:=by
 obtain⟨a',hu,AB⟩:=X4 az;have ad:=r.eval x;simp only[eX]at ah;split at ah;rename_i cs fg;have aw:=Ej (β:=β) fg;rw[aw]at ad;split at ah;rename_i ak;split at ah;rename_i oo am;obtain⟨h1,ab⟩:=sub_eq _ _ _ _ am;refine⟨_,ah,?_,λw hw=>?_⟩;show∀y∈oo,y.h6 L;intro y aQ;rw[h1]at aQ;exact Vy fg (r.qY x) y (List.mem_of_mem_drop (List.mem_of_mem_take aQ));simp only[cY,ay,agU,aDF,gj hu,hd,AB,ad,asAgg,jR,aw' av ak];have:((cs.map (aA.c1 β)).toArray.extract f.offset (f.offset+ir P f.type))=(oo.map (aA.c1 β)).toArray:=by
  grind
 rw[this];rfl
 grind
 rename_i ak;split at ah
 grind
 rename_i y bH aQ;have aC:∀xs,y≠.a xs:=λxs e=>bH xs e;have wz:(cs.map (aA.c1 β)).toArray[f.offset]?=some (y.c1 β):=by
  rw[pw]at aQ;simp[aQ]
 refine⟨_,ah,acX (Vy fg (r.qY x) y (by rw[pw]at aQ;grind)) aC,λw hw=>?_⟩;simp only[cY,ay,agU,aDF,gj hu,hd,AB,ad,asAgg,jR,Dy av ak wz,aA.O4 aC]
 grind
 grind
theorem aw6{neg:Bool}{t:fc}{u:ao}{b:Bool}(ay:J.op= .binOp (if neg then .neq else .eql) t x y hy)(ad:a.eval x=u)(aQ:a.eval y=v)(ak:(Pu (if neg then .neq else .eql) t x y u v).run P w= .ok () w)(wt:∀w,(binOp (if neg then .neq else .eql) t u v).run P w=(do pure (.bool (flip neg (<-GT t u v))):Sem ao).run P w)(he:(GT t u v).run P w= .ok b w):(cY a.eval J).run P w= .ok (.value (.bool (flip neg b))) w:=by
 simp[cY,ay,ad,aQ,ak,wt,he]
theorem Tf:∀(a':List DW)(k:Nat)(xs aN:List aA)(us au:Array ao)(b:Bool)(d:Nat),ze P a' k=true->us.toList.drop k=xs.map (aA.c1 β)->au.toList.drop k=aN.map (aA.c1 β)->xs.length=a'.length->aN.length=a'.length->xi xs aN=some b->(U4 (d+1) us au a').run P w= .ok b w
 |[],k,xs,aN,us,au,b,d,_,_,_,ad,aQ,he=>by
  simp_all[xi,U4]
 |f::a',k,xs,aN,us,au,b,d,az,hu,ah,ad,aQ,he=>by
  simp only[ze,fY,td,sh]at az;obtain⟨⟨⟨⟨⟨f1,f2⟩,f3⟩,f4⟩,f5⟩,f6⟩:=az;have f2:=mJ f2;match xs,aN,ad,aQ with
  |x::xs,y::aN,ad,aQ=>
   unfold xi at he;split at he
   grind
   rename_i p l q r aJ aI;injection aJ with aJ pa;injection aI with aI tw;subst aJ;subst aI;subst pa;subst tw;split at he;rename_i fL av;injection he with he;subst he;have rJ:us[f.offset]?=some (.int .i64 p):=by
    have:=ho (λz=>z[0]?) hu;simp only[GF,wX,eO,JZ]at this;rw[f2,<-zG];exact this
   have Q4:au[f.offset]?=some (.int .i64 q):=by
    have:=ho (λz=>z[0]?) ah;simp only[GF,wX,eO,JZ]at this;rw[f2,<-zG];exact this
   have hh:us.toList.drop (k+1)=xs.map (aA.c1 β):=by
    have:=ho J4 hu;simpa[J5]using this
   have jZ:au.toList.drop (k+1)=aN.map (aA.c1 β):=by
    have:=ho J4 ah;simpa[J5]using this
   simp only[U4,f5,ne_eq,not_false_eq_true,la,aDF,Dy f3 f4 rJ,Dy f3 f4 Q4,hd,Th w d f.type .i64 .i64 p q (DJ f1)];by_cases wx:p=q;subst wx;simp only[beq_self_eq_true,agm,uh,k',decide_true,wQ];exact Tf a' (k+1) xs aN us au fL d f6 hh jZ (by grind) (by grind) av;simp_all
   grind
   grind
theorem Tg{el:fc}(h1:q2 P el=true)(ab:iP P el=true)(an:oq P el=false)(aR:P.cellsOf el=1):∀(m k:Nat)(xs aN:List aA)(us au:Array ao)(b:Bool)(d:Nat),us.toList.drop k=xs.map (aA.c1 β)->au.toList.drop k=aN.map (aA.c1 β)->xs.length=m->aN.length=m->xi xs aN=some b->(UG (d+1) el (P.cellsOf el) us au (ahr k m)).run P w= .ok b w
 |0,k,xs,aN,us,au,b,d,_,_,ad,aQ,he=>by
  simp_all[xi,UG]
 |m+1,k,xs,aN,us,au,b,d,hu,ah,ad,aQ,he=>by
  match xs,aN,ad,aQ with
  |x::xs,y::aN,ad,aQ=>
   unfold xi at he;split at he
   grind
   rename_i p aBY q aBZ aJ aI;injection aJ with aJ pa;injection aI with aI tw;subst aJ;subst pa;subst aI;subst tw;split at he;rename_i fL av;injection he with he;subst he;have rJ:us[k*P.cellsOf el]?=some (.int .i64 p):=by
    have:=ho (λz=>z[0]?) hu;simp only[GF,wX,eO,JZ]at this;rw[aR,ew,<-zG];exact this
   have Q4:au[k*P.cellsOf el]?=some (.int .i64 q):=by
    have:=ho (λz=>z[0]?) ah;simp only[GF,wX,eO,JZ]at this;rw[aR,ew,<-zG];exact this
   have hh:us.toList.drop (k+1)=xs.map (aA.c1 β):=by
    have:=ho J4 hu;simpa[J5]using this
   have jZ:au.toList.drop (k+1)=aN.map (aA.c1 β):=by
    have:=ho J4 ah;simpa[J5]using this
   rw[ahs];simp only[UG,aDF,Dy ab an rJ,Dy ab an Q4,hd,Th w d el .i64 .i64 p q (DJ h1)];by_cases wx:p=q;subst wx;simp only[beq_self_eq_true,agm,uh,k',decide_true,wQ];exact Tg h1 ab an aR m (k+1) xs aN us au fL d hh jZ (by grind) (by grind) av;simp_all
   grind
   grind
theorem Re{el:fc}(h:C5 P el=true):q2 P el=true/\iP P el=true/\oq P el=false/\∃i,P.info? el=some i/\i.size=1/\P.cellsOf el=1:=by
 simp only[C5,fY,td]at h;obtain⟨⟨⟨a,b⟩,c⟩,d⟩:=h;obtain⟨i,ag⟩:=x5 b;have d:=mJ d;rw[x6 ag]at d;simp_all[Program.cellsOf,ag,d]
theorem Xb{t el:fc}(hu:P.underlying t=some (.pointer el))(A:Option ar)(d:Nat):(vN (d+1) t (.pointer A) (.pointer none)).run P w= .ok A.isNone w:=by
 cases A<;>simp[vN,gj hu]
theorem Xc{t el:fc}(hu:P.underlying t=some (.slice el))(A:Option ar)(dF c1 dR c2:Nat)(d:Nat):(vN (d+1) t (.slice A dF c1) (.slice none dR c2)).run P w= .ok A.isNone w:=by
 cases A<;>simp[vN,gj hu]
theorem aj7{t:fc}{p q:Array fc}{b:Bool}(hu:P.underlying t=some (.func p q b))(d:Nat):(vN (d+1) t .nilFunc .nilFunc).run P w= .ok true w:=by
 simp[vN,gj hu]
theorem aj8{t:fc}{p q:Array fc}{b:Bool}(hu:P.underlying t=some (.func p q b))(f:_root_.Go.Fn)(u v:Array ao)(d:Nat):(vN (d+1) t (.func f u v) .nilFunc).run P w= .ok false w:=by
 simp[vN,gj hu]
theorem Xj{neg:Bool}{t:fc}(r:cJ n β L e a)(ay:J.op= .binOp (if neg then .neq else .eql) t x y hy){k:Nat}(hk:KH P t=some k)(hp:eX (.eqv neg k (bK x) (bK y)) e L h V):∃bx,V bx/\bx.ok L/\Yields P J a β L h bx:=by
 have ad:=r.eval x;have aQ:=r.eval y;have fin:∀(u v:ao)(b:Bool),a.eval x=u->a.eval y=v->(∀w,(Pu (if neg then .neq else .eql) t x y u v).run P w= .ok () w)->(∀w,(binOp (if neg then .neq else .eql) t u v).run P w=(do pure (.bool (flip neg (<-GT t u v))):Sem ao).run P w)->(∀w,(GT t u v).run P w= .ok b w)->V (.v (.bool (flip neg b)))->∃bx,V bx/\bx.ok L/\Yields P J a β L h bx:=λu v b h1 ab an aR cg fa=>
  ⟨_,fa,trivial,λw _=>aw6 ay h1 ab (an w) aR (cg w)⟩
 unfold KH at hk;split at hk;rename_i hu;injection hk with hk;subst hk;simp only[eX]at hp;split at hp;rename_i p q aJ aI;rw[aJ]at ad;rw[aI]at aQ;refine fin _ _ (p==q) ad aQ (λw=>?_) (λw=>?_) (λw=>?_) hp;cases neg<;>rfl;cases neg<;>rfl;exact run_equalIn_bool' w 9999 t p q hu
 grind
 rename_i el hu;injection hk with hk;subst hk;simp only[eX]at hp;split at hp;rename_i A aJ aI;rw[aJ]at ad;rw[aI]at aQ;refine fin _ _ A.isNone ad aQ (λw=>?_) (λw=>?_) (λw=>?_) hp;cases neg<;>rfl;cases neg<;>rfl;exact Xb hu A 9999;rename_i i off aJ aI;rw[aJ]at ad;rw[aI]at aQ;refine fin _ _ false ad aQ (λw=>?_) (λw=>?_) (λw=>?_) (by cases neg<;>exact hp);cases neg<;>rfl;cases neg<;>rfl;exact Xb hu (some ⟨β i,off,none⟩) 9999
 grind
 rename_i el hu;injection hk with hk;subst hk;simp only[eX]at hp;split at hp;rename_i A dF c1 dR c2 aJ aI;rw[aJ]at ad;rw[aI]at aQ;refine fin _ _ A.isNone ad aQ (λw=>?_) (λw=>?_) (λw=>?_) hp;cases neg<;>rfl;cases neg<;>rfl;exact Xc hu A dF c1 dR c2 9999;rename_i i off l c dR c2 aJ aI;rw[aJ]at ad;rw[aI]at aQ;refine fin _ _ false ad aQ (λw=>?_) (λw=>?_) (λw=>?_) (by cases neg<;>exact hp);cases neg<;>rfl;cases neg<;>rfl;exact Xc hu (some ⟨β i,off,none⟩) l c dR c2 9999
 grind
 rename_i ie hR kW hu;injection hk with hk;subst hk;simp only[eX]at hp;split at hp;rename_i aJ aI;rw[aJ]at ad;rw[aI]at aQ;refine fin _ _ true ad aQ (λw=>?_) (λw=>?_) (λw=>?_) hp;cases neg<;>rfl;cases neg<;>rfl;exact aj7 hu 9999;rename_i f1 f2 f3 aJ aI;rw[aJ]at ad;rw[aI]at aQ;refine fin _ _ false ad aQ (λw=>?_) (λw=>?_) (λw=>?_) (by cases neg<;>exact hp);cases neg<;>rfl;cases neg<;>rfl;exact aj8 hu f1 f2 f3 9999
 grind
 rename_i a' hu;split at hk;rename_i aw;injection hk with hk;subst hk;simp only[fY,td]at aw;obtain⟨⟨c1,c2⟩,eI⟩:=aw;rw[vL]at hp;simp only[eX]at hp;split at hp;rename_i xs aN aJ aI;cases af:(gN xs.length a'.size&&gN aN.length a'.size)with
 |false=>grind
 |true=>
  rw[af]at hp;simp only[lv]at hp;simp only[fY]at af;split at hp;rename_i b he;have ex:=Ej (β:=β) aJ;have EF:=Ej (β:=β) aI;rw[ex]at ad;rw[EF]at aQ;have rC:P.fieldsOf t=a':=by simp[ah1,hu]
  refine fin _ _ b ad aQ (λw=>?_) (λw=>?_) (λw=>?_) hp;exact aw3 w _ t x y _ _ eI;cases neg<;>rfl;show(vN (9999+1) t _ _).run P w=_;rw[aw5 w 9999 t _ _ (by grind) c2,rC];exact Tf (β:=β) a'.toList 0 xs aN _ _ b 9998 c1 (by simp) (by simp) (by simp_all) (by simp_all) he
  grind
 grind
 grind
 rename_i m el hu;split at hk;rename_i aw;injection hk with hk;subst hk;simp only[fY,td]at aw;obtain⟨c1,eI⟩:=aw;obtain⟨d1,d2,d3,i,ag,d4,d5⟩:=Re c1;rw[vL]at hp;simp only[eX]at hp;split at hp;rename_i xs aN aJ aI;cases af:(gN xs.length m&&gN aN.length m)with
 |false=>grind
 |true=>
  rw[af]at hp;simp only[lv]at hp;simp only[fY]at af;split at hp;rename_i b he;have ex:=Ej (β:=β) aJ;have EF:=Ej (β:=β) aI;rw[ex]at ad;rw[EF]at aQ;refine fin _ _ b ad aQ (λw=>?_) (λw=>?_) (λw=>?_) hp;exact aw3 w _ t x y _ _ eI;cases neg<;>rfl;show(vN (9999+1) t _ _).run P w=_;rw[aw4 w 9999 _ _ hu ag,aht];exact Tg (β:=β) d1 d2 d3 d5 m 0 xs aN _ _ b 9998 (by simp) (by simp) (mJ af.1) (mJ af.2) he
  grind
 grind
 grind
 grind
end
section
variable {P:dW}{ai:I}{aV:bb}{n:Nat}{β:Nat->Nat}{L:List LE}{h:I}{e:bY}{a:Act}{w:bb}
theorem cb.Nw(m:cb ai aV β L h w){J:Obj}(af:h b=some J)(gh:Obj):cb ai aV β L (h.put b gh) {w with heap:=w.heap.setIfInBounds b gh}:=by
 have di:b<w.heap.size:=m.bR.hw.lt (by grind);have bH:∀i l,b1 L i=some l->l.live=true->β i≠b:=λi l al ah e=>by
  have:=m.hole i l al ah
  grind
 have p6:∀o,o≠b->(w.heap.setIfInBounds b gh)[o]?=w.heap[o]? :=λo ae=>by grind
 refine⟨⟨λo J ae=>?_,λi l al=>?_⟩,λi l al ah=>?_,m.inj,λi l al ah=>by simpa using m.lt i l al ah,m.bX,m.os,m.tape,m.output,by simpa using m.size,λo ae aC=>?_,λo ae=>?_⟩;show(w.heap.setIfInBounds b gh)[o]?=some J;by_cases e:o=b;subst e;rw[I.bP]at ae;grind;rw[I.cf _ _ e]at ae;rw[p6 o e];exact m.bR.hw o J ae;have aj:=m.bR.bR i l al;cases l with
 |own Wz DI=>simp only[LE.eL]at aj⊢;rw[p6 _ (bH i _ al rfl)];exact aj
 |bV eP=>exact aj
 |row bs size A n cap xs=>
  simp only[LE.eL]at aj⊢;obtain⟨⟨h1,ab⟩,an⟩:=aj;refine⟨⟨h1,?_⟩,an⟩;rcases ab with ab|⟨g,c,a8,aJ,aI,ck,eE⟩
  grind
  injection aJ with aJ pa pT;have ak:=an _ aJ;subst aJ;exact .inr ⟨g,c,a8,by rw[pT],aI,by rw[p6 _ (by have:=bH i _ al rfl;grind)];exact ck,eE⟩
 |map f k=>simp only[LE.eL]at aj⊢;rw[p6 _ (bH i _ al rfl)];exact aj
 |gone=>trivial
 rw[I.cf _ _ (bH i l al ah)];exact m.hole i l al ah;show(w.heap.setIfInBounds b gh)[o]?=_;by_cases e:o=b;subst e;rcases m.fresh o (by grind)with e|e
 grind
 omega;rw[p6 o e];exact m.frame o ae aC;by_cases e:o=b;subst e;exact m.fresh o (by grind);rw[I.cf _ _ e]at ae;exact m.fresh o ae
theorem cb.adB(m:cb ai aV β L h w)(J:Obj):cb ai aV β L (h.put w.heap.size J) {w with heap:=w.heap.push J}:=by
 have p6:∀o,o<w.heap.size->(w.heap.push J)[o]?=w.heap[o]? :=λo ae=>by grind
 have bH:∀i l,b1 L i=some l->l.live=true->β i≠w.heap.size:=λi l al ah e=>by
  have:=m.lt i l al ah;omega
 refine⟨⟨λo gh ae=>?_,λi l al=>?_⟩,λi l al ah=>?_,m.inj,λi l al ah=>?_,m.bX,m.os,m.tape,m.output,?_,λo ae aC=>?_,λo ae=>?_⟩;show(w.heap.push J)[o]?=some gh;by_cases e:o=w.heap.size;subst e;rw[I.bP]at ae;grind;rw[I.cf _ _ e]at ae;rw[p6 o (m.bR.hw.lt (by grind))];exact m.bR.hw o gh ae;have aj:=m.bR.bR i l al;cases l with
 |own Wz DI=>grind [LE.eL]
 |bV eP=>exact aj
 |row bs size A n cap xs=>
  simp only[LE.eL]at aj⊢;obtain⟨⟨h1,ab⟩,an⟩:=aj;refine⟨⟨h1,?_⟩,an⟩
  grind
 |map f k=>grind [LE.eL]
 |gone=>trivial
 rw[I.cf _ _ (bH i l al ah)];exact m.hole i l al ah;show _<(w.heap.push J).size;rw[NF];have:=m.lt i l al ah;omega;show _<=(w.heap.push J).size;rw[NF];have:=m.size;omega;show(w.heap.push J)[o]?=_;have:=m.size;rw[p6 o (by omega)];exact m.frame o ae aC;by_cases e:o=w.heap.size;subst e;exact .inr m.size;rw[I.cf _ _ e]at ae;exact m.fresh o ae
def n3:List gr->List Int->Nat->Option (Nat×ao)
 |[],_,_=>none
 |x::l,k,i=>if k=x.k then some (i,x.v)else n3 l k (i+1)
theorem PF(k:List Int):∀(l:List gr)(i:Nat),(n3 l k i).map (·.2)=iw l k
 |[],i=>rfl
 |x::l,i=>by
  simp only[n3,iw];split;rfl;exact PF k l (i+1)
theorem XQ{k:List Int}{v:ao}{c:Nat}:∀(l:List gr)(i:Nat),n3 l k i=none->upsert l k v c=l++[⟨k,v,c⟩]
 |[],i,_=>rfl
 |x::l,i,ad=>by
  simp only[n3]at ad;split at ad
  grind
  rename_i hk;simp only[upsert,aE hk,List.cons_append,XQ l (i+1) ad]
theorem XR{k:List Int}{v u:ao}{c:Nat}{o:Nat}:∀(l:List gr)(i:Nat),n3 l k i=some (o,u)->∃q,o=i+q/\∃x,l[q]?=some x/\x.k=k/\upsert l k v c=l.set q ⟨x.k,v,x.born⟩
 |[],i,ad=>by cases ad
 |x::l,i,ad=>by
  simp only[n3]at ad;split at ad;simp_all[upsert];rename_i hk;obtain⟨q,h1,y,ab,an,aR⟩:=XR (v:=v) (c:=c) l (i+1) ad;exact⟨q+1,by omega,y,by grind,an,by simp_all[upsert,aR]⟩
theorem RC(hk:zh P t=some bQ):(bQ=0/\P.underlying t=some (.int .i64))\/(∃a',bQ=5+a'.size/\P.underlying t=some (.struct a')/\ze P a'.toList 0=true/\P.stoodInHeld t=false)\/∃m el,bQ=5+m/\P.underlying t=some (.array m el)/\C5 P el=true:=by
 unfold zh at hk;cases av:q2 P t with
 |true=>
  rw[av]at hk;injection hk with hk;exact .inl ⟨hk.symm,DJ av⟩
 |false=>
  grind
theorem aal:∀(xs:List aA)(dt:List Int),ints xs=some dt->xs=dt.map λa=>aA.v (.int .i64 a)
 |[],dt,ad=>by injection ad with ad;grind
 |x::xs,dt,ad=>by
  unfold ints at ad;split at ad
  grind
  rename_i a l aJ;injection aJ with aJ aI;subst aJ;subst aI;split at ad;rename_i r am;injection ad with ad;subst ad;rw[eO,<-aal _ r am]
  grind
  grind
theorem abd{x:aA}(ad:LZ bQ x=some dt)(tJ:bQ=0\/5<=bQ):x.c β=jN bQ dt/\dt.length=sM bQ:=by
 rcases tJ with rfl|tJ;simp only[LZ]at ad;split at ad;injection ad with ad;subst ad;exact⟨rfl,rfl⟩
 grind
 match bQ,tJ with
 |bQ+1,tJ=>
  have ad:(match B0 x with|some xs=>(match ints xs with|some dt=>bif gN (dt.length+5) (bQ+1)then some dt else none|none=>none)|none=>none)=some dt:=ad;split at ad;rename_i xs rK;split at ad;rename_i asZ xv;cases af:gN (asZ.length+5) (bQ+1)with
  |false=>grind
  |true=>
   rw[af]at ad;injection ad with ad;subst ad;have af:=mJ af;refine⟨?_,by simp only[sM];omega⟩;rw[Ej rK,aal _ _ xv];simp only[jN,lo];rfl
  grind
  grind
theorem Pt:∀(xs aN:List Int),xs.length=aN.length->xi (xs.map λa=>aA.v (.int .i64 a)) (aN.map λa=>aA.v (.int .i64 a))=some (decide (xs=aN))
 |[],[],_=>rfl
 |x::xs,y::aN,al=>by
  simp only[eO,xi,Pt xs aN (by grind),yp];simp
 |[],y::aN,al=>by grind
 |x::xs,[],al=>by grind
theorem aec(em:Bool)(d:Nat)(us:Array ao):∀(a':List DW)(k:Nat)(dt:List Int),ze P a' k=true->us.toList.drop k=dt.map (h' .i64)->dt.length=a'.length->(forIn a' GV λf(_:PUnit)=>(if f.name≠ "_"then(do qp em (d+1) f.type (<-part f.type us f.offset);pure (UC GV))else(do pure GV;pure (UC GV)):Sem (ForInStep PUnit))).run P w= .ok () w
 |[],k,dt,_,_,_=>by simp
 |f::a',k,dt,az,hu,al=>by
  simp only[ze,fY,td,sh]at az;obtain⟨⟨⟨⟨⟨f1,f2⟩,f3⟩,f4⟩,f5⟩,f6⟩:=az;have f2:=mJ f2;match dt,al with
  |q::dt,al=>
   have rJ:us[f.offset]?=some (.int .i64 q):=by
    have:=ho (λz=>z[0]?) hu
    grind
   have hh:us.toList.drop (k+1)=dt.map (h' .i64):=by
    have:=ho J4 hu;simpa[J5]using this
   have h1:(qp em (d+1) f.type (.int .i64 q)).run P w= .ok () w:=by
    simp[qp,gj (DJ f1)]
   simp only[ahh,aX f5,aDF,Dy f3 f4 rJ,hd,h1,jR];exact aec em d us a' (k+1) dt f6 hh (by grind)
theorem aw1{m:Nat}(hu:P.underlying t=some (.array m el))(n9:C5 P el=true)(em:Bool)(d:Nat)(us:Array ao)(hm:us.size=m)(ag:∀v∈us.toList,∃q,v= .int .i64 q):(qp em (d+2) t (.agg us)).run P w= .ok () w:=by
 obtain⟨d1,d2,d3,i,ank,d4,d5⟩:=Re n9;unfold qp;simp only[aDF,gj hu,hd];simp only[aAw,aAx,Nat.sub_zero,Nat.add_one_sub_one,Nat.div_one];have key:∀(c k:Nat),k+c<=m->(forIn (ahr k c) GV λi(_:PUnit)=>((do qp em (d+1) el (<-part el us (i*(<-sizeOf el)));pure (UC GV)):Sem (ForInStep PUnit))).run P w= .ok () w:=by
  intro c;induction c with
  |zero=>simp
  |succ c bE=>
   intro k hk;have di:k<us.size:=by omega
   obtain⟨q,aq⟩:=ag us[k] (by simp);have rJ:us[k*1]?=some (.int .i64 q):=by grind
   have h1:(qp em (d+1) el (.int .i64 q)).run P w= .ok () w:=by
    simp[qp,gj (DJ d1)]
   rw[ahs];simp only[ahh,aDF,run_sizeOf ank,d4,Dy d2 d3 rJ,hd,h1,jR]
   grind
 simp_all
theorem Te(hk:zh P t=some bQ)(al:dt.length=sM bQ)(em:Bool):(qp em 10000 t (jN bQ dt)).run P w= .ok () w:=by
 rcases RC hk with⟨rfl,hu⟩|⟨a',rfl,hu,az,hp⟩|⟨m,el,rfl,hu,n9⟩;match dt,al with
 |[a],_=>
  have:∀d,(qp em (d+1) t (.int .i64 a)).run P w= .ok () w:=λd=>by simp[qp,gj hu]
  exact this 9999
 have jL:dt.length=a'.toList.length:=by
  simp[al,sM]
 have fD:jN (5+a'.size) dt= .agg (dt.map (h' .i64)).toArray:=by rw[vL];rfl
 rw[fD];show(qp em (9999+1) t _).run P w=_;have:=aec (P:=P) (w:=w) em 9998 (dt.map (h' .i64)).toArray a'.toList 0 dt az (by simp) jL;unfold qp;simp only[aDF,gj hu,hd];rw[<-Array.forIn_toList];refine(ho (λz=>z.andThen λ_ aZ=>w3 P (pure ()) aZ) this).trans ?_;rfl;have jL:dt.length=m:=by
  simp[al,sM]
 have fD:jN (5+m) dt= .agg (dt.map (h' .i64)).toArray:=by rw[vL];rfl
 rw[fD];show(qp em (9999+1) t _).run P w=_;exact aw1 hu n9 em 9998 _ (by grind) λv ah=>by
  grind
theorem XT{a:Int}:∀(l:List gr)(i:Nat),(∀x∈l,x.k.length=1)->yk (.int .i64) (.int .i64 a) (l.map (jl 0)) i=some (n3 l [a] i)
 |[],i,_=>rfl
 |x::l,i,ad=>by
  have h1:=ad x (by simp);match hk:x.k,h1 with
  |[b],_=>
   have af:(jl 0 x).key= .int .i64 b:=by simp[jl,jN,hk]
   have ah:(jl 0 x).val=x.v:=rfl;simp only[eO,yk,af,Instr.sameNow,la,n3,hk,ah];by_cases qM:a=b
   grind
   have:(a==b)=false:=by grind
   rw[this];simp only[yp,and_true,aE qM];exact XT l (i+1) λy aQ=>ad y (by simp[aQ])
theorem aee{t:Nat}{a':Array DW}(hu:P.underlying t=some (.struct a'))(az:ze P a'.toList 0=true)(hp:P.stoodInHeld t=false){dt:List Int}(al:dt.length=a'.size):∀(l:List gr)(i:Nat),(∀x∈l,x.k.length=a'.size)->(GA t (jN (5+a'.size) dt) (l.map (jl (5+a'.size))) i).run P w= .ok (n3 l dt i) w
 |[],i,_=>by rfl
 |x::l,i,ad=>by
  have fD:∀k,jN (5+a'.size) k= .agg (k.map (h' .i64)).toArray:=λk=>by rw[vL];rfl
  have rC:P.fieldsOf t=a':=by simp[ah1,hu]
  have h1:=ad x (by simp);have mR:(GT t (jN (5+a'.size) dt) (jN (5+a'.size) x.k)).run P w= .ok (decide (dt=x.k)) w:=by
   rw[fD,fD];show(vN (9999+1) t _ _).run P w=_;rw[aw5 w 9999 t _ _ (by grind) hp,rC];refine Tf (β:=λ_=>0) a'.toList 0 (dt.map λa=>aA.v (.int .i64 a)) (x.k.map λa=>aA.v (.int .i64 a)) _ _ _ 9998 az ?_ ?_ (by grind) (by grind) (Pt _ _ (by omega));simp[aA.c1];simp[aA.c1]
  have xw:(jl (5+a'.size) x).key=jN (5+a'.size) x.k:=rfl;have C0:(jl (5+a'.size) x).val=x.v:=rfl;simp only[eO,GA,xw,C0,aDF,mR,hd,n3];by_cases qM:dt=x.k;simp_all;simp only[qM,decide_false,uh,k'];exact aee hu az hp al l (i+1) λy aQ=>ad y (by simp[aQ])
theorem aef{t m el:Nat}(hu:P.underlying t=some (.array m el))(n9:C5 P el=true){dt:List Int}(al:dt.length=m):∀(l:List gr)(i:Nat),(∀x∈l,x.k.length=m)->(GA t (jN (5+m) dt) (l.map (jl (5+m))) i).run P w= .ok (n3 l dt i) w
 |[],i,_=>by rfl
 |x::l,i,ad=>by
  obtain⟨d1,d2,d3,o,ae,d4,d5⟩:=Re n9;have fD:∀k,jN (5+m) k= .agg (k.map (h' .i64)).toArray:=λk=>by rw[vL];rfl
  have h1:=ad x (by simp);have mR:(GT t (jN (5+m) dt) (jN (5+m) x.k)).run P w= .ok (decide (dt=x.k)) w:=by
   rw[fD,fD];show(vN (9999+1) t _ _).run P w=_;rw[aw4 w 9999 _ _ hu ae,aht];refine Tg (β:=λ_=>0) d1 d2 d3 d5 m 0 (dt.map λa=>aA.v (.int .i64 a)) (x.k.map λa=>aA.v (.int .i64 a)) _ _ _ 9998 ?_ ?_ (by grind) (by grind) (Pt _ _ (by omega));simp[aA.c1];simp[aA.c1]
  have xw:(jl (5+m) x).key=jN (5+m) x.k:=rfl;have C0:(jl (5+m) x).val=x.v:=rfl;simp only[eO,GA,xw,C0,aDF,mR,hd,n3];by_cases qM:dt=x.k;simp_all;simp only[qM,decide_false,uh,k'];exact aef hu n9 al l (i+1) λy aQ=>ad y (by simp[aQ])
theorem Ti(hk:zh P t=some bQ)(al:dt.length=sM bQ){l:List gr}(ad:∀x∈l,x.k.length=sM bQ):(BF t (jN bQ dt) (l.map (jl bQ))).run P w= .ok (n3 l dt 0) w:=by
 rcases RC hk with⟨rfl,hu⟩|⟨a',rfl,hu,az,hp⟩|⟨m,el,rfl,hu,n9⟩;match dt,al with
 |[a],_=>
  have fD:jN 0 [a]= .int .i64 a:=rfl;simp only[BF,aDF,gj hu,hd,fD,XT l 0 ad,jR]
 have AI:sM (5+a'.size)=a'.size:=by simp[sM]
 rw[AI]at al ad;have:=aee (P:=P) (w:=w) hu az hp al l 0 ad;cases l with
 |nil=>simp[BF,gj hu,yk,n3]
 |cons x l=>
  have fD:∀k,jN (5+a'.size) k= .agg (k.map (h' .i64)).toArray:=λk=>by rw[vL];rfl
  have aC:yk (.struct a') (jN (5+a'.size) dt) ((x::l).map (jl (5+a'.size))) 0=none:=by
   rfl
  simp only[BF,aDF,gj hu,hd,aC];omega
 have AI:sM (5+m)=m:=by simp[sM]
 rw[AI]at al ad;have:=aef (P:=P) (w:=w) hu n9 al l 0 ad;cases l with
 |nil=>simp[BF,gj hu,yk,n3]
 |cons x l=>
  have fD:∀k,jN (5+m) k= .agg (k.map (h' .i64)).toArray:=λk=>by rw[vL];rfl
  have aC:yk (.array m el) (jN (5+m) dt) ((x::l).map (jl (5+m))) 0=none:=by
   rfl
  simp only[BF,aDF,gj hu,hd,aC];omega
theorem axm(bQ:Nat)(dt:List Int)(h1:dt.length=sM bQ):GB 10000 (jN bQ dt) (jN bQ dt)=true:=by
 match bQ with
 |0=>match dt,h1 with|[a],_=>simp[jN,GB]
 |bQ+1=>
  have key:∀(d:Nat)(us:Array ao),((us.toList.zip us.toList).all λ(x,y)=>GB d x y)=true->GB (d+1) (.agg us) (.agg us)=true:=λd us aP=>by
   unfold GB
   grind
  refine key 9999 _ ?_
  grind [GB]
theorem agb(aY:JK P t=some z):(Ue t).run P w= .ok z w:=by
 unfold JK at aY;split at aY;rename_i i ag;simp[Ue,Bq,ag,aY]
 grind
theorem abc(hk:zh P t=some bQ):bQ=0\/5<=bQ:=by
 rcases RC hk with⟨rfl,_⟩|⟨a',rfl,_⟩|⟨m,el,rfl,_⟩;omega;omega;omega
theorem Xr(r:cJ n β L e a){k:e3}{ok:Bool}(ay:J.op= .lookup t x k ok)(hu:P.underlying t=some (.map oR el))(hk:zh P oR=some bQ)(aY:JK P el=some z)(ah:eX (.lookup bQ z (bK x) (bK k) ok) e L h V):∃bx,V bx/\bx.ok L/\Yields P J a β L h bx:=by
 have ad:=r.eval x;have xw:=r.eval k;simp only[eX]at ah;split at ah;rename_i b dt hp aq;obtain⟨l,b',⟨hm,H0⟩,Da⟩:=ah;obtain⟨aJ,aI⟩:=abd (β:=β) aq (abc hk);rw[aJ]at xw;rw[hp]at ad;have run:∀w,jQ β L h w->(agX t (a.eval x) (a.eval k) ok).run P w= .ok (if ok then .tuple #[(iw l dt).getD z,.bool (iw l dt).isSome]else(iw l dt).getD z) w:=λw hw=>by
  have af:=hw.hw _ _ hm;have ak:(Cp b).run P w= .ok (.map (l.map (jl bQ)).toArray b') w:=by simp[Cp,w3,af,jE]
  have az:=PF dt l 0;rw[<-az];simp only[agX,aDF,gj hu,hd,ad,aA.c,aA.c1,ak,jR,xw,Te hk aI,Ti hk aI H0];cases nD:n3 l dt 0 with
  |none=>simp[agb aY]
  |some p=>simp
 cases ok with
 |true=>exact⟨_,Da,trivial,λw hw=>by simp only[cY,ay,aDF,run w hw,hd,jR];rfl⟩
 |false=>exact⟨_,Da,trivial,λw hw=>by simp only[cY,ay,aDF,run w hw,hd,jR];rfl⟩
 grind
theorem Xq(r:cJ n β L e a)(ay:J.op= .call {callee:=.builtin .len,args:=#[x],argTypes:=#[t]})(hu:P.underlying t=some (.map oR el))(ah:eX (.Fu (bK x)) e L h V):∃bx,V bx/\bx.ok L/\Yields P J a β L h bx:=by
 have ad:=r.eval x;simp only[eX]at ah;split at ah;rename_i b hp;obtain⟨bQ,l,b',⟨hm,H0⟩,Da⟩:=ah;rw[hp]at ad;refine⟨_,Da,trivial,λw hw=>?_⟩;have af:=hw.hw _ _ hm;have ak:(Cp b).run P w= .ok (.map (l.map (jl bQ)).toArray b') w:=by simp[Cp,w3,af,jE]
 simp[cY,ay,zx,invoke,builtin,ad,aA.c,aA.c1,Un,gj hu,goInt,ak]
 grind
theorem akw(ay:J.op= .makeMap t none)(aL:h4 ai aV n Any K next)(m:cb ai aV β L h w)(r:cJ n β L e a)(aF:de L)(hp:fz P n .Mi J.dst e L h K):J.wp P a w next Q:=by
 obtain⟨k⟩:=hp;have hk:=k w.heap.size (m.bR.hw.out (dd _));refine q4 (v:=.map (some w.heap.size)) (aZ:={w with heap:=w.heap.push (.map #[] 0)}) (by simp[cY,ay,Instr.makeMap]) ?_;exact jd aL trivial (m.adB _) r aF (x:=.v _) trivial hk
theorem axb(bQ:Nat)(dt:List Int)(h1:dt.length=sM bQ):(agW (jN bQ dt) (jN bQ dt)).run P w= .ok (jN bQ dt) w:=by
 simp[agW,axm bQ dt h1]
theorem aku{k v:e3}(ay:J.op= .mapUpdate t x k v)(hu:P.underlying t=some (.map oR el))(hk:zh P oR=some bQ)(aL:h4 ai aV n Any K next)(m:cb ai aV β L h w)(r:cJ n β L e a)(aF:de L)(hp:fz P n (.Mf bQ (bK x) (bK k) (bK v)) J.dst e L h K):J.wp P a w next Q:=by
 have ad:=r.eval x;have xw:=r.eval k;have C0:=r.eval v;simp only[fz]at hp;split at hp;rename_i b dt y u9 aq aQ;obtain⟨l,b',⟨hm,H0⟩,Da⟩:∃l b',wV h b bQ l b'/\gn n J.dst (.v eU) e L (h.put b (jE bQ (Sx.upsert l dt y b') (if(iw l dt).isSome then b' else b'+1))) K:=by
  rcases hp with⟨l,b',hm,k⟩|⟨l,b',hm,k⟩
  grind
  grind
 obtain⟨aJ,aI⟩:=abd (β:=β) aq (abc hk);rw[aJ]at xw;rw[u9]at ad;rw[aQ]at C0;have af:=m.bR.hw _ _ hm;have ak:(Cp b).run P w= .ok (.map (l.map (jl bQ)).toArray b') w:=by simp[Cp,w3,af,jE]
 have kQ:∀gh,(setObj b gh).run P w= .ok () {w with heap:=w.heap.setIfInBounds b gh}:=λgh=>by simp[setObj,w3,af,jE]
 have K':=PF dt l 0;have run:∃ii,ii=(if(iw l dt).isSome then b' else b'+1)/\(UJ t (a.eval x) (a.eval k) (a.eval v)).run P w= .ok () {w with heap:=w.heap.setIfInBounds b (jE bQ (upsert l dt y b') ii)}:=by
  cases nD:n3 l dt 0 with
  |none=>
   rw[nD]at K';refine⟨b'+1,by grind,?_⟩;rw[XQ l 0 nD];simp only[UJ,aDF,gj hu,hd,ad,aA.c,aA.c1,ak,xw,Te hk aI,Ti hk aI H0,nD,kQ,C0];simp[jE,jl]
  |some p=>
   obtain⟨o,u⟩:=p;rw[nD]at K';obtain⟨q,h1,cw,ab,an,aR⟩:=XR (v:=y) (c:=b') l 0 nD;rw[Nat.zero_add]at h1;subst h1;refine⟨b',by grind,?_⟩;have fS:(((l.map (jl bQ)).toArray[o]?).map (·.key)).getD (jN bQ dt)=jN bQ dt:=by simp[ab,jl,an]
   simp only[UJ,aDF,gj hu,hd,ad,aA.c,aA.c1,ak,xw,Te hk aI,Ti hk aI H0,nD,fS,axb bQ dt aI,kQ,C0];rw[aR];congr 3;simp only[jE];congr 1;apply Array.ext_getElem?;intro i;rw[Array.getElem?_modify];simp only[List.getElem?_toArray,List.map_set,List.getElem?_set,dV,List.length_map];by_cases ag:o=i;subst ag;obtain⟨cg,fa⟩:=List.getElem?_eq_some_iff.1 ab;simp[cg,jl,an,fa]
   grind
 obtain⟨ii,amJ,dp⟩:=run;rw[<-amJ]at Da;refine JE (aZ:={w with heap:=w.heap.setIfInBounds b (jE bQ (upsert l dt y b') ii)}) (by simp[cY,ay,dp]) ?_;exact jd aL trivial (m.Nw hm _) r aF (x:=.v eU) trivial Da
 grind
theorem cb.ajU(m:cb ai aV β L h w):cb ai aV β L h w.drew:=⟨⟨m.bR.hw,λi l al=>by cases l<;>exact m.bR.bR i _ al⟩,m.hole,m.inj,m.lt,m.bX,m.os,m.tape,m.output,m.size,m.frame,m.fresh⟩
theorem aky(ay:J.op= .range t x)(hu:P.underlying t=some (.map oR el))(aL:h4 ai aV n Any K next)(m:cb ai aV β L h w)(r:cJ n β L e a)(aF:de L)(hp:fz P n (.range (bK x)) J.dst e L h K):J.wp P a w next Q:=by
 have ad:=r.eval x;simp only[fz]at hp;split at hp;rename_i b u9;obtain⟨es,b',af,k⟩:=hp;rw[u9]at ad;have xo:=m.bR.hw _ _ af;have hk:=k w.heap.size (m.bR.hw.out (dd _));refine q4 (v:=.pointer (some ⟨w.heap.size,0,none⟩)) (aZ:={w with heap:=w.heap.push (.mapIter (some b) b' #[] b')}) ?_ ?_;have ak:(Cp b).run P w= .ok (.map es b') w:=by simp[Cp,w3,xo]
 have aC:∀gh,(newObj gh).run P w= .ok w.heap.size {w with heap:=w.heap.push gh}:=λgh=>by rfl
 simp only[cY,ay,Instr.range,aDF,gj hu,hd,ad,aA.c,aA.c1,ak,jR,aC];exact jd aL trivial (m.adB _) r aF (x:=.v _) trivial hk
 grind
theorem akx(ay:J.op= .next x false)(aL:h4 ai aV n Any K next)(m:cb ai aV β L h w)(r:cJ n β L e a)(aF:de L)(hp:fz P n (.next (bK x)) J.dst e L h K):J.wp P a w next Q:=by
 have ad:=r.eval x;simp only[fz]at hp;split at hp;rename_i q u9;obtain⟨aT,wH,gT,b',seen,es,am,af,fS,ZV,done,qX⟩:=hp;rw[u9]at ad;have QV:=m.bR.hw _ _ am;have xo:=m.bR.hw _ _ af;rcases run_next_at (P:=P) w J.type q aT wH gT seen es b' QV xo fS ZV with⟨aY,dp⟩|⟨jJ,Lh,cF,p6,dp⟩;refine q4 (v:=.tuple #[.bool false]) (aZ:=w) (by simp[cY,ay,ad,aA.c,aA.c1,dp]) ?_;exact jd aL trivial m r aF (x:=.v _) trivial (done aY);refine q4 (v:=.tuple #[.bool true,jJ.key,jJ.val]) (aZ:=aAo cF q (.mapIter (some aT) wH (seen.push jJ.born) b')) (by simp[cY,ay,ad,aA.c,aA.c1,dp]) ?_;have m1:cb ai aV β L h cF:=by
  rcases p6 with rfl|rfl;omega;exact m.ajU
 exact jd aL trivial (m1.Nw am _) r aF (x:=.v _) trivial (qX jJ Lh)
 grind
theorem aks(ay:J.op= .entry x)(aL:h4 ai aV n Any K next)(m:cb ai aV β L h w)(r:cJ n β L e a)(aF:de L)(hp:fz P n (.entry (bK x)) J.dst e L h K):J.wp P a w next Q:=by
 have ad:=r.eval x;simp only[fz]at hp;split at hp;rename_i q u9;obtain⟨aT,wH,b',seen,es,jJ,am,af,he,aC,k⟩:=hp;rw[u9]at ad;have QV:=m.bR.hw _ _ am;have xo:=m.bR.hw _ _ af;have dp:=run_entry_at (P:=P) w q aT wH seen es b' jJ QV xo he aC;refine q4 (v:=.tuple #[jJ.key,jJ.val]) (aZ:=w) (by simp[cY,ay,ad,aA.c,aA.c1,dp]) ?_;exact jd aL trivial m r aF (x:=.v _) trivial k
 grind
end
section
variable {P:dW}{ai:I}{aV:bb}{n:Nat}{β:Nat->Nat}{L:List LE}{h:I}{e:bY}{a:Act}{w:bb}
theorem aaN(k:kk)(hk:hD k=true)(d:Option Nat)(K:eN):fz P n k d e L h K=eX k e L h λx=>gn n d x e L h K:=by
 cases k<;>first|rfl|grind [hD]
theorem Py(r:cJ n β L e a)(aF:de L)(hk:hD (bI P J.op)=true)(hp:eX (bI P J.op) e L h V):∃bx,V bx/\bx.ok L/\Yields P J a β L h bx:=by
 have bad:eX .bad e L h V->∃bx,V bx/\bx.ok L/\Yields P J a β L h bx:=λaf=>af.elim;cases ay:J.op with
 |move x=>rw[ay]at hp;exact(Xs r ay hp)
 |assign x=>rw[ay]at hk;cases hk
 |pick c x y=>rw[ay]at hp;exact(Xu r ay hp)
 |alloc t=>rw[ay]at hk;simp only[bI]at hk;(repeat' split at hk)<;>cases hk
 |box t x=>rw[ay]at hk;cases hk
 |buildSlice t len be=>rw[ay]at hk;simp only[bI]at hk;(repeat' split at hk)<;>cases hk
 |load t x=>
  rw[ay]at hp;simp only[bI]at hp;split at hp;rename_i av;refine(Pz r aF ay av ?_);omega;exact bad hp
 |store t x y=>rw[ay]at hk;simp only[bI]at hk;(repeat' split at hk)<;>cases hk
 |nilCheck x=>rw[ay]at hp;exact(Xt r ay hp)
 |binOp op t x y hy=>
  rw[ay]at hp;have Qn:eX (.arith op (bK x) (bK y)) e L h V->∃bx,V bx/\bx.ok L/\Yields P J a β L h bx:=λaq=>(akh r ay aq);have pk:eX (.cmp op (bK x) (bK y)) e L h V->∃bx,V bx/\bx.ok L/\Yields P J a β L h bx:=λaq=>(akj r ay aq);have Y9:eX (.Ew op (bK x) (bK y)) e L h V->∃bx,V bx/\bx.ok L/\Yields P J a β L h bx:=λaq=>(akl r ay aq);cases op with
  |add=>
   simp only[bI]at hp;split at hp
   grind
   exact uR r ay (λq=>by cases q.1) hp
  |sub=>
   simp only[bI]at hp;split at hp
   grind
   exact uR r ay (λq=>by cases q.1) hp
  |mul=>
   simp only[bI]at hp;split at hp
   grind
   exact uR r ay (λq=>by cases q.1) hp
  |quo=>
   simp only[bI]at hp;split at hp
   grind
   exact uR r ay (λq=>by cases q.1) hp
  |rem=>
   simp only[bI]at hp;split at hp
   grind
   exact uR r ay (λq=>by cases q.1) hp
  |eql=>
   simp only[bI]at hp;split at hp
   grind
   split at hp;exact uR r ay (λq=>by cases q.1) hp;split at hp;rename_i k hk;exact Xj (neg:=false) r ay hk hp;exact bad hp
  |neq=>
   simp only[bI]at hp;split at hp
   grind
   split at hp;exact uR r ay (λq=>by cases q.1) hp;split at hp;rename_i k hk;exact Xj (neg:=true) r ay hk hp;exact bad hp
  |lss=>
   simp only[bI]at hp;split at hp
   grind
   exact uR r ay (λq=>by cases q.1) hp
  |leq=>
   simp only[bI]at hp;split at hp
   grind
   exact uR r ay (λq=>by cases q.1) hp
  |gtr=>
   simp only[bI]at hp;split at hp
   grind
   exact uR r ay (λq=>by cases q.1) hp
  |geq=>
   simp only[bI]at hp;split at hp
   grind
   exact uR r ay (λq=>by cases q.1) hp
  |shr=>
   simp only[bI]at hp;exact ako r ay hp
  |_=>exact uR r ay (λq=>by cases q.1) hp
 |unOp op t x=>
  rw[ay]at hp;cases op with
  |not=>exact(akn r ay hp)
  |neg=>
   simp only[bI]at hp;split at hp;exact(akm r ay hp);exact bad hp
  |_=>exact hp.elim
 |fieldAddr t x i=>
  rw[ay]at hp;simp only[bI]at hp;split at hp;rename_i f az;split at hp;rename_i av;exact(Xm r ay az av hp);exact bad hp;exact bad hp
 |indexAddr t x i=>
  rw[ay]at hp;simp only[bI]at hp;split at hp;rename_i el hu;split at hp;rename_i av;exact(Xn r ay hu av hp);exact bad hp;rename_i m el hu;split at hp;rename_i av;exact(Xo r ay hu av hp);exact bad hp;exact bad hp
 |extract x i=>rw[ay]at hp;exact(Xk r ay hp)
 |makeSlice t x y=>rw[ay]at hk;simp only[bI]at hk;(repeat' split at hk)<;>cases hk
 |makeFunc fn first iz=>rw[ay]at hk;cases fn<;>simp only[bI]at hk<;>(repeat' split at hk)<;>cases hk
 |call c=>
  rw[ay]at hp;obtain⟨tr,args,iQ⟩:=c;simp only[bI]at hp;cases tr with
  |value f=>
   cases f with
   |func f=>exact hp.elim
   |tmp t=>exact hp.elim
   |const v=>exact hp.elim
   |global g=>exact hp.elim
  |invoke x y=>exact hp.elim
  |builtin b=>
   cases b with
   |append=>
    simp only at hp;split at hp;rename_i x y t hy i8 za;split at hp;rename_i el hu;split at hp;rename_i s cj aG he;split at hp;rename_i tP;subst tP;have aJ:args=#[x,y]:=by grind
    have aI:iQ=#[t,t]:=by grind
    subst aJ;subst aI;exact hp.elim;exact bad hp;exact bad hp;exact bad hp;exact bad hp
   |len=>
    simp only at hp;split at hp;rename_i x t i8 za;have aJ:args=#[x]:=by grind
    have aI:iQ=#[t]:=by grind
    subst aJ;subst aI;split at hp;rename_i el hu;exact(Xp r ay hu hp);rename_i oR el hu;exact(Xq r ay hu hp);rename_i hu;exact Xw r ay hu hp;exact hp.elim;exact bad hp
   |min=>
    simp only at hp;split at hp;rename_i x y i8;have aJ:args=#[x,y]:=by grind
    subst aJ;exact(KL (jq:=false) r ay hp);exact bad hp
   |max=>
    simp only at hp;split at hp;rename_i x y i8;have aJ:args=#[x,y]:=by grind
    subst aJ;exact(KL (jq:=true) r ay hp);exact bad hp
   |_=>exact hp.elim
 |ready g=>rw[ay]at hk;cases hk
 |waits g=>rw[ay]at hk;cases hk
 |insert t m k v=>rw[ay]at hk;cases hk
 |convert s d x=>exact akk r ay hp
 |sliceToArrayPointer t x=>rw[ay]at hk;cases hk
 |makeInterface t x=>rw[ay]at hk;cases hk
 |makeChan t x=>rw[ay]at hk;cases hk
 |index t x i=>rw[ay]at hk;cases hk
 |mapEntry t m k=>rw[ay]at hk;cases hk
 |entryStore t m s v=>rw[ay]at hk;cases hk
 |range t x=>rw[ay]at hk;simp only[bI]at hk;(repeat' split at hk)<;>cases hk
 |next x b=>rw[ay]at hk;simp only[bI]at hk;(repeat' split at hk)<;>cases hk
 |entry x=>rw[ay]at hk;cases hk
 |typeAssert x t s b=>rw[ay]at hk;cases hk
 |go c=>rw[ay]at hk;cases hk
 |defer c=>rw[ay]at hk;cases hk
 |panic x=>rw[ay]at hk;cases hk
 |send c x=>rw[ay]at hk;cases hk
 |recv t c b=>rw[ay]at hk;cases hk
 |select cs b=>rw[ay]at hk;cases hk
 |build t be=>
  rw[ay]at hp;simp only[bI]at hp;split at hp;rename_i i ag;split at hp;rename_i z l aY al;split at al;rename_i aj;exact(Xh r ay ag aY aj al hp);exact(Xi r ay ag aY al hp);exact bad hp;exact bad hp
 |makeMap t r=>rw[ay]at hk;simp only[bI]at hk;(repeat' split at hk)<;>cases hk
 |slice t x bX ag jq=>
  rw[ay]at hp;simp only[bI]at hp;split at hp;rename_i el hu;split at hp;rename_i av;exact(Xv r ay hu av hp);exact bad hp;exact bad hp
 |field t x i=>
  rw[ay]at hp;simp only[bI]at hp;split at hp;rename_i f az;split at hp;rename_i av;refine(Xl r ay az av ?_);omega;exact bad hp;exact bad hp
 |lookup t x k b=>
  rw[ay]at hp;simp only[bI]at hp;split at hp;rename_i oR el hu;split at hp;rename_i bQ z tJ aY;exact Xr r ay hu tJ aY hp;exact bad hp;exact bad hp
 |mapUpdate t m k v=>rw[ay]at hk;simp only[bI]at hk;(repeat' split at hk)<;>cases hk
theorem akz(aL:h4 ai aV n Any K next)(m:cb ai aV β L h w)(r:cJ n β L e a)(aF:de L)(hp:fz P n (.raw J.op) J.dst e L h K):J.wp P a w next Q:=by
 simp only[fz]at hp;obtain⟨f',h1,bJ,m1,fu,kY,_⟩:=rV _ _ _ _ m aF hp;split at bJ;rename_i au fh;have aw:=s3 m1.bR _ au fh;have he:J.op.operands.toList.map a.eval=au:=by
  rw[<-aw,lo];exact pK λx _=>r.eval x
 obtain⟨j',iT,ab,bB,m2,k7,oi,nk⟩:=mZ bJ β m1 fu;have dU:cJ n j' iT e a:=(r.agree (λ_ _=>rfl) kY).agree nk oi;cases bB with
 |mk v ad k=>exact q4 (ad w m2.bR.hw a.eval J rfl he) (jd aL trivial m2 dU k7 (x:=.v v) trivial k)
 |put v b x y af ad k=>exact q4 (ad w m2.bR.hw a.eval J rfl he) (jd aL trivial (m2.Nw af y) dU k7 (x:=.v v) trivial k)
 |aeM b x y af ad k=>exact JE (ad w m2.bR.hw a.eval J rfl he) (jd aL trivial (m2.Nw af y) dU k7 (x:=.v eU) trivial k)
 grind
theorem akt{name:String}{args:Array e3}{iQ:Array fc}(ay:J.op= .call {callee:=.invoke x name,args:=args,argTypes:=iQ})(aL:h4 ai aV n Any K next)(m:cb ai aV β L h w)(r:cJ n β L e a)(aF:de L)(hp:fz P n (.invoke name (bK x) (args.toList.map bK)) J.dst e L h K):J.wp P a w next Q:=by
 simp only[fz]at hp;have ad:=r.eval x;split at hp;rename_i t v aD5;rw[aD5]at ad;obtain⟨f,rc,hm,k⟩:=hp;refine T2 aL m r aF k λau fh af=>?_;have he:#[rc]++args.map a.eval=au.toArray:=by
  rw[<-fh];apply r6;simp only[Array.toList_append,wO,lo,eO];show rc::_=_::_;congr 1;exact pK λy _=>r.eval y
 have ht:((#[a.eval x]++args.map a.eval).extract 1 (#[a.eval x]++args.map a.eval).size)=args.map a.eval:=by
  simp
 have rF:=hm w;simp only[cY,ay,zx,invoke,aDF,jR,hd];have alN:(#[a.eval x]++args.map a.eval)[0]?=some (a.eval x):=by rw[Array.getElem?_append_left (by simp)];rfl
 rw[alN];simp only[ht];rw[ad];show(callMethod (.iface t v) name _).run P w=_;simp only[callMethod,aDF,aeh,hd,rF];rw[he,xW af]
 grind
theorem XC(ay:J.op= .assign x){C:(Nat->Nat)->Prop}(hC:∀bS,(∀i,i<L.length->bS i=β i)->C bS)(aL:h4 ai aV n C K next)(m:cb ai aV β L h w)(r:cJ n β L e a)(aF:de L)(hp:fz P n (.set (bK x)) J.dst e L h K):J.wp P a w next Q:=by
 simp only[fz,force_eq]at hp;refine q4 (v:=((bK x).get e).c β) (aZ:=w) (by simp[cY,ay,r.eval x]) ?_;exact jd aL (hC β λ_ _=>rfl) m r aF (r.qY x) hp
theorem PC(aL:h4 ai aV n Any K next)(m:cb ai aV β L h w)(r:cJ n β L e a)(aF:de L)(hp:fz P n (bI P J.op) J.dst e L h K):J.wp P a w next Q:=by
 have fin:(∃bx,gn n J.dst bx e L h K/\bx.ok L/\Yields P J a β L h bx)->J.wp P a w next Q:=λad=>azZ m.bR ad λbx CY hk=>jd aL trivial m r aF CY hk
 by_cases hk:hD (bI P J.op)=true;rw[aaN _ hk]at hp;exact fin (Py r aF hk hp);have bad:∀{q:Op},J.op=q->fz P n (.raw q) J.dst e L h K->J.wp P a w next Q:=λaq af=>akz aL m r aF (by grind)
 have Sh:∀{q:Op},J.op=q->hD (bI P q)=true->False:=λaq af=>hk (by grind);cases ay:J.op with
 |move x=>rw[ay]at hp;exact fin (Xs r ay (V:=λx=>gn n J.dst x e L h K) hp)
 |assign x=>rw[ay]at hp;exact XC ay (λ_ _=>trivial) aL m r aF hp
 |pick c x y=>rw[ay]at hp;exact fin (Xu r ay hp)
 |alloc t=>
  rw[ay]at hp;simp only[bI]at hp;split at hp;rename_i i ag;split at hp;rename_i z aY;exact Xx ay ag aY (λ_ _=>trivial) aL m r aF hp
  grind
  grind
 |box t x=>rw[ay]at hp;exact Xy ay (λ_ _=>trivial) aL m r aF hp
 |buildSlice t len be=>
  rw[ay]at hp;simp only[bI]at hp;split at hp;rename_i el hu;split at hp;rename_i s b aG he;obtain⟨i,z,ag,aY,aJ,aI,ck,eE,mf⟩:=Hh he;subst aJ;subst mf;exact Xz ay hu ag aY ck (λ_ _=>trivial) aL m r aF hp
  grind
  grind
 |load t x=>
  rw[ay]at hp;simp only[bI]at hp;split at hp;rename_i av;refine fin (Pz r aF ay av ?_);cases ak:oq P t<;>rw[ak]at hp<;>exact hp
  grind
 |store t x y=>
  rw[ay]at hp;simp only[bI]at hp;split at hp;rename_i av;exact akA ay av aL m r aF hp
  grind
 |nilCheck x=>rw[ay]at hp;exact fin (Xt r ay hp)
 |binOp op t x y hy=>
  rw[ay]at hp;have FH:=Sh ay;cases op<;>simp only[bI]at hp FH<;>(repeat' split at hp)<;>first|exact bad ay hp|grind [hD]
 |unOp op t x=>
  rw[ay]at hp;have FH:=Sh ay;cases op<;>simp only[bI]at hp FH<;>(repeat' split at hp)<;>first|exact bad ay hp|grind [hD]
 |fieldAddr t x i=>
  rw[ay]at hp;simp only[bI]at hp;split at hp;rename_i f az;split at hp;rename_i av;exact fin (Xm r ay az av hp)
  grind
  grind
 |indexAddr t x i=>
  rw[ay]at hp;simp only[bI]at hp;split at hp;rename_i el hu;split at hp;rename_i av;exact fin (Xn r ay hu av hp)
  grind
  rename_i m el hu;split at hp;rename_i av;exact fin (Xo r ay hu av hp)
  grind
  grind
 |extract x i=>rw[ay]at hp;exact fin (Xk r ay hp)
 |makeSlice t x y=>
  rw[ay]at hp;simp only[bI]at hp;split at hp;rename_i el hu;split at hp;rename_i s b aG he;exact XB ay hu he (λ_ _=>trivial) aL m r aF hp
  grind
  grind
 |makeFunc fn first iz=>
  rw[ay]at hp;cases fn with
  |func f=>
   simp only[bI]at hp;split at hp;rename_i az;exact akv ay (Array.eq_empty_of_size_eq_zero az) aL m r aF hp
   grind
  |_=>exact bad ay hp
 |call c=>
  rw[ay]at hp;obtain⟨tr,args,iQ⟩:=c;simp only[bI]at hp;cases tr with
  |value f=>
   cases f with
   |func f=>exact akr ay aL m r aF hp
   |tmp t=>exact PA ay aL m r aF hp
   |const v=>exact PA ay aL m r aF hp
   |global g=>exact PA ay aL m r aF hp
  |invoke x y=>exact akt ay aL m r aF hp
  |builtin b=>
   cases b with
   |append=>
    simp only at hp;split at hp;rename_i x y t hy i8 za;split at hp;rename_i el hu;split at hp;rename_i s cj aG he;split at hp;rename_i tP;subst tP;have aJ:args=#[x,y]:=by grind
    have aI:iQ=#[t,t]:=by grind
    subst aJ;subst aI;exact akq ay hu he aL m r aF hp
    grind
    grind
    grind
    grind
   |len=>
    simp only at hp;split at hp;rename_i x t i8 za;have aJ:args=#[x]:=by grind
    have aI:iQ=#[t]:=by grind
    subst aJ;subst aI;split at hp;rename_i el hu;exact fin (Xp r ay hu hp);rename_i oR el hu;exact fin (Xq r ay hu hp);rename_i hu;exact fin (Xw r ay hu hp)
    grind
    grind
   |min=>
    simp only at hp;split at hp;rename_i x y i8;have aJ:args=#[x,y]:=by grind
    subst aJ;exact fin (KL (jq:=false) r ay hp)
    grind
   |max=>
    simp only at hp;split at hp;rename_i x y i8;have aJ:args=#[x,y]:=by grind
    subst aJ;exact fin (KL (jq:=true) r ay hp)
    grind
   |_=>grind
 |ready g=>rw[ay]at hp;exact bad ay hp
 |waits g=>rw[ay]at hp;exact bad ay hp
 |insert t m k v=>rw[ay]at hp;exact bad ay hp
 |convert s d x=>
  rw[ay]at hp;have FH:=Sh ay;simp only[bI]at hp FH
  grind [hD]
 |sliceToArrayPointer t x=>rw[ay]at hp;exact bad ay hp
 |makeInterface t x=>rw[ay]at hp;exact bad ay hp
 |makeChan t x=>rw[ay]at hp;exact bad ay hp
 |index t x i=>rw[ay]at hp;exact bad ay hp
 |mapEntry t m k=>rw[ay]at hp;exact bad ay hp
 |entryStore t m s v=>rw[ay]at hp;exact bad ay hp
 |range t x=>
  rw[ay]at hp;simp only[bI]at hp;split at hp;rename_i oR el hu;exact aky ay hu aL m r aF hp
  grind
 |next x b=>
  rw[ay]at hp;cases b with
  |true=>exact bad ay hp
  |false=>exact akx ay aL m r aF hp
 |entry x=>rw[ay]at hp;exact aks ay aL m r aF hp
 |typeAssert x t s b=>rw[ay]at hp;exact bad ay hp
 |go c=>rw[ay]at hp;exact bad ay hp
 |defer c=>rw[ay]at hp;exact bad ay hp
 |panic x=>rw[ay]at hp;exact bad ay hp
 |send c x=>rw[ay]at hp;exact bad ay hp
 |recv t c b=>rw[ay]at hp;exact bad ay hp
 |select cs b=>rw[ay]at hp;exact bad ay hp
 |build t be=>
  rw[ay]at hp;simp only[bI]at hp;split at hp;rename_i i ag;split at hp;rename_i z l aY al;split at al;rename_i aj;exact fin (Xh r ay ag aY aj al hp);exact fin (Xi r ay ag aY al hp)
  grind
  grind
 |makeMap t cT=>
  rw[ay]at hp;cases cT with
  |none=>exact akw ay aL m r aF hp
  |some x=>exact bad ay hp
 |slice t x bX ag jq=>
  rw[ay]at hp;simp only[bI]at hp;split at hp;rename_i el hu;split at hp;rename_i av;exact fin (Xv r ay hu av hp)
  grind
  grind
 |field t x i=>
  rw[ay]at hp;simp only[bI]at hp;split at hp;rename_i f az;split at hp;rename_i av;refine fin (Xl r ay az av ?_);cases ak:oq P f.type<;>rw[ak]at hp<;>exact hp
  grind
  grind
 |lookup t x k b=>
  rw[ay]at hp;simp only[bI]at hp;split at hp;rename_i oR el hu;split at hp;rename_i bQ z tJ aY;exact fin (Xr r ay hu tJ aY hp)
  grind
  grind
 |mapUpdate t x k v=>
  rw[ay]at hp;simp only[bI]at hp;split at hp;rename_i oR el hu;split at hp;rename_i bQ tJ;exact aku ay hu tJ aL m r aF hp
  grind
  grind
end
def gG(P:dW)(n:Nat)(J:cC)(e:bY)(L:List LE)(h:I)(K:eN):Prop:=
 match J.g with
 |none=>fz P n J.k J.d e L h K
 |some (t,r4)=>(match e t with
  |.v (.bool b)=>(match r4 with
   |true=>fe b (fz P n J.k J.d (h7 e t (.v (.bool true))) L h K) (gn n J.d (.v eU) (h7 e t (.v (.bool false))) L h K)
   |false=>fe b (gn n J.d (.v eU) (h7 e t (.v (.bool true))) L h K) (fz P n J.k J.d (h7 e t (.v (.bool false))) L h K))
  |.v (.tuple _)=>gn n J.d (.v eU) e L h K
  |_=>False)
def wpOps(P:dW)(n:Nat):List cC->bY->List LE->I->eN->Prop
 |[],e,L,h,K=>K e L h
 |J::r,e,L,h,K=>gG P n J e L h λe L h=>wpOps P n r e L h K
section
variable {P:dW}{ai:I}{aV:bb}{n:Nat}{β:Nat->Nat}{L:List LE}{h:I}{e:bY}{a:Act}{w:bb}
theorem l8{e:bY}{x:aA}(ad:e t=x):h7 e t x=e:=by
 funext i;unfold h7;cases af:gN i t with
 |true=>simp_all
 |false=>rfl
theorem Nx(r:cJ n β L e a){ops:Array b8}{o:Nat}{gw:b8}(ae:ops[o]?=some gw)(aB:gw.dst=some t):(∀b,e t= .v (.bool b)->j8 ops a.tmps o=some b)/\(∀au,e t= .v (.tuple au)->j8 ops a.tmps o=none):=by
 have he:=r.env t;rw[Array.getD_eq_getD_getElem?]at he;constructor;intro b af;rw[af]at he;simp only[j8,ae,aB,sc];cases aq:a.tmps[t]?with
 |none=>simp_all[aq,aA.c,aA.c1,eU]
 |some v=>simp_all[aq,aA.c,aA.c1]
 intro au af;rw[af]at he;simp only[j8,ae,aB,sc];cases aq:a.tmps[t]?with
 |none=>rfl
 |some v=>simp_all[aq,aA.c,aA.c1]
theorem Gj{ops:Array b8}(aL:h4 ai aV n Any K next)(m:cb ai aV β L h w)(r:cJ n β L e a)(aF:de L)(hp:gG P n (e5 P ops J) e L h K):
 if gz J (j8 ops a.tmps)then J.wp P a w next Q else next (a.put J.dst eU) w:=by
 unfold e5 at hp
 split at hp
 rename_i g ak
 cases eK:J.guard with
 |none=>
  rw[eK]at ak;injection ak with ak;subst ak;simp only[gG]at hp;rw[aX (by simp[gz,eK])];exact PC aL m r aF hp
 |some zf=>
  obtain⟨o,r4⟩:=zf;rw[eK]at ak;simp only[tT]at ak;split at ak;rename_i gw ae;split at ak;rename_i t av;injection ak with ak;subst ak;obtain⟨hl,aDA⟩:=Nx r ae av;simp only[gG]at hp;split at hp;rename_i b af;have aQ:=hl b af;cases r4<;>cases b<;>simp only[fe]at hp;rw[l8 af]at hp;rw[aX (by simp[gz,eK,aQ])];exact PC aL m r aF hp;rw[l8 af]at hp;rw[aE (by simp[gz,eK,aQ])];exact jd aL trivial m r aF (x:=.v eU) trivial hp;rw[l8 af]at hp;rw[aE (by simp[gz,eK,aQ])];exact jd aL trivial m r aF (x:=.v eU) trivial hp;rw[l8 af]at hp;rw[aX (by simp[gz,eK,aQ])];exact PC aL m r aF hp;rename_i au af;have aQ:=aDA au af;rw[aE (by simp[gz,eK,aQ])];exact jd aL trivial m r aF (x:=.v eU) trivial hp
  grind
  grind
  grind
 exact hp.elim
end
end Go.Sx
