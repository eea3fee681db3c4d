/- A part of the proof that the statement holds. Conditions: none. -/
import Derived.Recover
import Derived.WalkKit
import Derived.Test.YtlbdbpaelcnfgaaGreatDoorAC
import Derived.Test.YtlbdbpaelcnfgaaGreatDoorAO
import Derived.Test.YtlbdbpaelcnfgaaGreatDoorAQ
open Array renaming empty_append->agf,toArray_toList->ov
open Bool renaming and_eq_true->fY,and_false->Uk,false_and->Bw,or_eq_false_iff->Ul
open Classical renaming not_not->jw
open Go renaming Addr->ar,Code->ox,Deferred->l9,FuncId->jh,Oper->b8,Program->dW,ResultVar->w2,Value->ao,World->bb,callsD_of_wpS->Wd,calls_of_wp_defers->ajd,execOp->cY,maxLen->c',recoverD->Jc,undef->eU,wpOpsS->JA,wpS_cond->af1,wpS_of_wp->af2,wpS_region->JB,wpS_seq->JC,wp_mono->wK,wp_region_list->aCa,yielded->j8
open Go.Addr renaming mk->ou
open Go.CallsD renaming mono->agq
open Go.Deferred renaming ofValue->Bz
open Go.Exit renaming thenS->Gy
open Go.IntKind renaming bits->JV
open Go.Op renaming intArith->D1,intBits->ahT,operands->D2
open Go.Oper renaming wp->zX
open Go.Proofs.Tryz renaming func151->aia,func155->OJ,ntmps155->aic,prog->aH,results155->aie
open Go.Region renaming wanted->gz
open Go.Value renaming bool->qB,oneCell'->Aa,pointer->aik,tuple->vU
open Int renaming toNat_natCast->bq,toNat_of_nonneg->q'
open List renaming count_cons->N2,count_le_length->ag8,getD_eq_getElem?_getD->cN,getElem?_eq_getElem->bZ,getElem?_eq_none->qs,getElem?_map->dV,getElem?_range->J0,getElem?_replicate->GG,getElem?_set->zT,getElem_mem->cS,getElem_of_mem->rb,length_append->fb,length_cons->gI,length_set->k2,map_append->fm,map_cons->eO,map_map->lo,map_replicate->un,map_set->nb,mem_append->ev,mem_append_left->qu,mem_map->dn,nil_append->J3,range->aDB,replicate->bG,set_cons_succ->Oi,take_of_length_le->k4
open Nat renaming and_two_pow_sub_one_eq_mod->GQ,ble->nT,div_eq_of_lt->ahC,div_le_self->nU,div_pos->ahD,gcd->hb,gcd_comm->ahE,gcd_le_right->ahF,gcd_pos_of_pos_right->Oq,le_of_ble_eq_true->rh,le_refl->dd,le_trans->hT,lt_of_le_of_lt->UZ,mod_eq_of_lt->vM,mul_le_mul->ns,mul_one->ew,mul_pos->ahM,or_lt_two_pow->ahO,strongRecOn->Ot,succ_mul->BQ,zero_add->dJ,zero_le->cO,zero_mod->U1,zero_mul->D0
open Ne renaming symm->d9
namespace Go.Sx
open Go.RowKit
set_option maxRecDepth 100000
set_option maxHeartbeats 0
set_option linter.all false
variable {bM:List Nat}
structure Alike(w aZ:bb):Prop where
 heap:aZ.heap=w.heap
 os:aZ.os=w.os
 tape:aZ.tape=w.tape
 output:aZ.output=w.output
def Idle(P:dW)(g:jh)(cap:Array ao):Prop:=(∃fn,P.funcs[g]?=some fn/\fn.body.isSome=true/\(fn.name== "runtime.NumGoroutine")=false)/\∀w,CallsD P g cap .returning w λe u aZ=>(∃v,e= .returned v)/\u= .returning/\Alike w aZ
def DX(P:dW)(d:l9):Prop:=∃g cap,d={target:=.fn (.func g) cap,args:=#[]}/\Idle P g cap
abbrev BT:=Exit->List l9->bY->List LE->I->Prop
def Kx:Op->Option dB
 |.defer c=>(match c.callee,c.args.toList with
  |.value x,[]=>some (bK x)
  |_,_=>none)
 |_=>none
def DO(P:dW)(n:Nat):List cC->List l9->bY->List LE->I->(List l9->bY->List LE->I->Prop)->Prop
 |[],a7,e,L,h,K=>K a7 e L h
 |J::r,a7,e,L,h,K=>(match J.g,J.k with
  |none,.raw op=>(match Kx op with
   |some x=>(match x.get e with
    |.v (.func (.func g) first cap)=>bif first.isEmpty then Idle P g cap/\gn n J.d (.v eU) e L h λe L h=>DO P n r ({target:=.fn (.func g) cap,args:=#[]}::a7) e L h K else False
    |_=>False)
   |none=>gG P n J e L h λe L h=>DO P n r a7 e L h K)
  |_,_=>gG P n J e L h λe L h=>DO P n r a7 e L h K)
def Jz(P:dW)(n:Nat):IR->BT->List l9->bY->List LE->I->Prop
 |.seq a b,Q,a7,e,L,h=>Jz P n a (λx a7 e L h=>match x with|.normal=>Jz P n b Q a7 e L h|x=>Q x a7 e L h) a7 e L h
 |.ch ops,Q,a7,e,L,h=>DO P n ops a7 e L h (Q .normal)
 |ms,Q,a7,e,L,h=>c7 P n ms (λx e L h=>Q x a7 e L h) e L h
section
variable {P:dW}{ai:I}{aV:bb}{n:Nat}{β:Nat->Nat}{L:List LE}{h:I}{e:bY}{a:Act}{w:bb}
def L6(P:dW)(ai:I)(aV:bb)(n:Nat)(Q:BT):Exit->Act->bb->Prop:=λx a w=>∃(a0:Act)(a7:List l9),a={a0 with defers:=a7}/\(∀d∈a7,DX P d)/\∃β e L h,cb ai aV β L h w/\cJ n β L e a0/\de L/\Q x a7 e L h
theorem az1{J:b8}{next:Act->bb->Prop}{Q nt:Exit->Act->bb->Prop}(h:J.wp P a w next Q)(cD:∀x a w,Q x a w->nt x a w):J.wp P a w next nt:=by
 unfold zX at h⊢;generalize(cY a.eval J).run P w=r at h⊢;cases r with
 |ok x aZ=>
  cases x with
  |enter f args=>
   rw[Oper.upon_enter]at h⊢;refine Calls.mono h ?_;intro ke pF hw;cases ke with
   |returned v=>exact hw
   |panicked v7=>grind
   |outgrown=>obtain⟨a,w,q⟩:=hw;exact⟨a,w,cD _ _ _ q⟩
  |_=>exact h
 |halt x aZ=>
  cases x with
  |panic v=>exact cD _ _ _ h
  |_=>exact h
theorem aty{J op:Op}(h:bI P J= .raw op)(aB:Kx op≠none):J=op:=by
 cases J<;>simp only[bI]at h<;>(try cases h;rfl)<;>exfalso<;>revert h<;>(repeat' split)<;>intro h<;>cases h<;>simp[Kx]at aB
theorem afX{ops:Array b8}{Q:BT}:∀(l:List b8) a7 β e L h a w,(∀d∈a7,DX P d)->cb ai aV β L h w->cJ n β L e a->de L->DO P n (l.map (e5 P ops)) a7 e L h (Q .normal)->wpList P ops (L6 P ai aV n Q) l {a with defers:=a7} w
 |[],a7,β,e,L,h,a,w,iC,m,r,aF,hp=>⟨a,a7,rfl,iC,β,e,L,h,m,r,aF,hp⟩
 |J::l,a7,β,e,L,h,a,w,iC,m,r,aF,hp=>by
  have bE:=afX (ops:=ops) (Q:=Q) l;refine wpList_step λnext rH=>?_
  have plain:gG P n (e5 P ops J) e L h (λe L h=>DO P n (l.map (e5 P ops)) a7 e L h (Q .normal))->if gz J (j8 ops ({a with defers:=a7}:Act).tmps)then J.wp P {a with defers:=a7} w next (L6 P ai aV n Q)else next (({a with defers:=a7}:Act).put J.dst eU) w:=by
   intro hp;have aj:=Gj (Q:=λ_ _ _=>False) (next:=λa w=>a.defers=[]/\next {a with defers:=a7} w) (λβ e L h a w _ m r aF hk=>⟨r.defers,rH _ _ (bE a7 β e L h a w iC m r aF hk)⟩) m r aF hp;rw[show(j8 ops ({a with defers:=a7}:Act).tmps)=j8 ops a.tmps from rfl];split;rename_i hw;rw[aX hw]at aj;exact az1 (Sy a7 aj λ_ _ q=>q) (by rintro x a w ⟨_,_,q⟩;grind);rename_i hw;rw[aE hw]at aj;rw[zs];grind
  rw[eO]at hp;unfold DO at hp;split at hp;rename_i op ak hk;split at hp;rename_i x ad;split at hp;rename_i g first cap ah
  cases nD:first.isEmpty with
  |false=>grind
  |true=>
   rw[nD]at hp;obtain⟨ag,hp⟩:=hp;have QC:first=#[]:=by grind
   subst QC;unfold e5 at hk ak;cases eK:tT ops J.guard with
   |none=>grind
   |some uV=>
    rw[eK]at hk ak;simp only at hk ak;subst ak;have wu:J.guard=none:=by
     cases wu:J.guard with
     |none=>rfl
     |some p8=>
      obtain⟨o,b⟩:=p8;rw[wu]at eK
      grind [tT]
    have ay:J.op=op:=aty hk (by grind);have hw:gz J (j8 ops ({a with defers:=a7}:Act).tmps)=true:=by simp[gz,wu]
    rw[aX hw];cases op with
    |defer c=>
     simp only[Kx]at ad;split at ad;rename_i cw ks Lb;injection ad with ad;subst ad;have lA:a.eval cw= .func (.func g) #[] cap:=by rw[r.eval,ah];rfl
     have i8:c.args=#[]:=by grind
     unfold zX;rw[Hj];have:(cY a.eval J).run P w= .ok (.defer {target:=.fn (.func g) cap,args:=#[]}) w:=by
      simp[cY,ay,resolve,ks,i8,Bz,lA]
     rw[this,Oper.upon_defer];have aB:∀d∈{target:=.fn (.func g) cap,args:=#[]}::a7,DX P d:=λd aB=>by
      rcases List.mem_cons.1 aB with rfl|aB;exact⟨g,cap,rfl,ag⟩
      grind
     have:=jd (next:=λa w=>next {a with defers:={target:=.fn (.func g) cap,args:=#[]}::a7} w) (C:=Any) (λβ e L h a w _ m r aF hk=>rH _ _ (bE _ β e L h a w aB m r aF hk)) trivial m r aF (x:=.v eU) trivial hp;show next (({a with defers:={target:=.fn (.func g) cap,args:=#[]}::a7}:Act).put J.dst eU) w
     rw[zs];have amR:(e5 P ops J).d=J.dst:=by unfold e5;rw[eK]
     rw[amR]at this;exact this
     grind
    |_=>cases ad
  grind
  grind
  grind
theorem afS(p4:P.follows .mixedOrders=true):∀(c:ox)(Q:BT) a7 β e L h a w,(∀d∈a7,DX P d)->cb ai aV β L h w->cJ n β L e a->de L->Jz P n (lower P bM c) Q a7 e L h->c.wp P (L6 P ai aV n Q) {a with defers:=a7} w:=by
 intro c;have mh:∀(c:ox)(Q:BT) a7 β e L h a w,(∀d∈a7,DX P d)->cb ai aV β L h w->cJ n β L e a->de L->c7 P n (lower P bM c) (λx e L h=>Q x a7 e L h) e L h->c.wp P (L6 P ai aV n Q) {a with defers:=a7} w:=by
  intro c Q a7 β e L h a w iC m r aF hp;refine wK (afT a7 p4 c _ β e L h a w m r aF hp) ?_;rintro ex _ aZ ⟨ey,rfl,bS,bl,bd,U,bc,cT,ef,q⟩;exact⟨ey,a7,rfl,iC,bS,bl,bd,U,bc,cT,ef,q⟩
 induction c with
 |seq x y oP oQ=>
  intro Q a7 β e L h a w iC m r aF hp;refine wp_seq (wK (oP _ a7 β e L h a w iC m r aF hp) ?_);rintro ex _ aZ ⟨ey,Ez,rfl,Y8,bS,bl,bd,U,bc,cT,ef,aq⟩;cases ex with
  |normal=>exact oQ Q Ez bS bl bd U ey aZ Y8 bc cT ef aq
  |_=>exact⟨ey,Ez,rfl,Y8,bS,bl,bd,U,bc,cT,ef,aq⟩
 |region id ops d=>
  intro Q a7 β e L h a w iC m r aF hp;cases d with
  |false=>exact aCa (afX ops.toList a7 β e L h a w iC m r aF hp)
  |true=>
   refine mh _ Q a7 β e L h a w iC m r aF ?_;simp only[lower]at hp⊢;split at hp;rename_i aL;rw[aX aL];exact hp;rename_i aL;rw[aE aL];exact hp
 |skip=>exactλQ a7 β e L h a w iC m r aF hp=>mh _ Q a7 β e L h a w iC m r aF hp
 |cond=>exactλQ a7 β e L h a w iC m r aF hp=>mh _ Q a7 β e L h a w iC m r aF hp
 |block=>exactλQ a7 β e L h a w iC m r aF hp=>mh _ Q a7 β e L h a w iC m r aF hp
 |loop=>exactλQ a7 β e L h a w iC m r aF hp=>mh _ Q a7 β e L h a w iC m r aF hp
 |rangeFunc f be x y=>intro Q a7 β e L h a w iC m r aF hp;cases be;exact mh _ Q a7 β e L h a w iC m r aF hp
 |exit=>exactλQ a7 β e L h a w iC m r aF hp=>mh _ Q a7 β e L h a w iC m r aF hp
 |scope=>exactλQ a7 β e L h a w iC m r aF hp=>mh _ Q a7 β e L h a w iC m r aF hp
 |label=>exactλQ a7 β e L h a w iC m r aF hp=>mh _ Q a7 β e L h a w iC m r aF hp
 |goto=>exactλQ a7 β e L h a w iC m r aF hp=>mh _ Q a7 β e L h a w iC m r aF hp
 |ret=>exactλQ a7 β e L h a w iC m r aF hp=>mh _ Q a7 β e L h a w iC m r aF hp
 |refuse=>exactλQ a7 β e L h a w iC m r aF hp=>mh _ Q a7 β e L h a w iC m r aF hp
theorem Alike.refl(w:bb):Alike w w:=⟨rfl,rfl,rfl,rfl⟩
theorem Alike.trans{a b c:bb}(x:Alike a b)(y:Alike b c):Alike a c:=⟨y.heap.trans x.heap,y.os.trans x.os,y.tape.trans x.tape,y.output.trans x.output⟩
theorem axs{w aZ:bb}(x:Alike w aZ){i:Nat}{l:LE}(h:l.eL β i w):l.eL β i aZ:=by
 simp_all[LE.eL,x.heap,World.ownsRow]
theorem cb.alike{aZ:bb}(m:cb ai aV β L h w)(x:Alike w aZ):cb ai aV β L h aZ:=⟨⟨λo J ae=>by rw[x.heap];exact m.bR.hw o J ae,λi l al=>axs x (m.bR.bR i l al)⟩,m.hole,m.inj,λi l al ah=>by rw[x.heap];exact m.lt i l al ah,m.bX,x.os.trans m.os,x.tape.trans m.tape,x.output.trans m.output,by rw[x.heap];exact m.size,λo ae aC=>by rw[x.heap];exact m.frame o ae aC,m.fresh⟩
theorem RQ{fn:Func}{tmps:Array ao}{ax:Ending->bb->Prop}:∀(a7:List l9)(w:bb),(∀d∈a7,DX P d)->(∀aZ,Alike w aZ->∃v,(results fn tmps).run P aZ= .ok v aZ/\ax (.returned v) aZ)->Leaves P fn tmps ax a7 .returning w
 |[],w,_,h=>h w (.refl w)
 |d::a7,w,aB,h=>by
  obtain⟨g,cap,rfl,af,ag⟩:=aB d (by simp);refine leaves_cons (by simp) (f:=g) (args:=#[]++cap) ?_ ?_;simp only[invoke];exact xW af;rw[agf];refine agq (ag w) ?_;rintro e u aZ ⟨⟨v,rfl⟩,rfl,Ad⟩;exact RQ a7 aZ (λd ad=>aB d (by simp[ad])) λpF x=>h pF (Ad.trans x)
def azL(P:dW)(rs:List w2)(Q:ao->I->Prop):BT:=λx _ e L h=>s9 P rs Q x e L h
theorem agO.intro{f:jh}{fn:Func}{c:ox}{ms:IR}{rs:List w2}{args:List ao}{h:I}{Q:ao->I->Prop}(p4:P.follows .mixedOrders=true)(az:P.funcs[f]?=some fn)(af:fn.body=some c)(wq:(fn.name== "runtime.NumGoroutine")=false)(aC:fn.ntmps=n)(y':fn.results.toList=rs)(wk:lower P bM c=ms)(i8:nT args.length n=true)(ku:Jz P n ms (azL P rs Q) [] (pU args) [] h):Fn P f args.toArray h Q:=by
 refine⟨⟨fn,az,by grind,wq⟩,λw hw=>?_⟩;subst wk;subst y';subst aC;refine ajd az af ?_;have m:cb h w (λ_=>0) [] h w:=⟨⟨hw,(λi l al=>by cases al)⟩,(λi l al=>by cases al),(λi o l b3 al=>by cases al),(λi l al=>by cases al),(λi l al=>by cases al),rfl,rfl,rfl,dd _,(λ_ _ _=>rfl),(λo ae=>.inl ae)⟩;have aF:de []:=λi cs ty ag=>by cases ag
 have aj:=afS p4 (ai:=h) (aV:=w) (n:=fn.ntmps) c _ [] (λ_=>0) (pU args) [] h _ w (by simp) m (EE (rh i8) _) aF ku;refine wK aj ?_;rintro ex _ aZ ⟨ey,a7,rfl,iC,β,e,L,U,bc,cT,ef,aq⟩;have fin:vy P fn.results.toList [] e L U (λej=>kX 40 ej (λL h=>match mY L ej with
  |some au=>e9 (λ_ h=>Q (jt au) h) L h
  |none=>False) L U)->Leaves P fn ey.tmps (λe aZ=>∃v U,e= .returned v/\Q v U/\Ext h w U aZ) a7 .returning aZ:=by
  intro wy
  refine RQ a7 aZ iC λaZ Ad=>?_
  have bc:=bc.alike Ad
  obtain⟨ej,bJ,bB,eo⟩:=DP bc cT ef _ _ [] wy (by simp)
  simp only[J3]at bJ
  obtain⟨f',h1,aM,m1,fu,kY,_⟩:=rV ej _ _ _ bc ef bJ
  split at aM
  rename_i au fh
  have aw:=s3 m1.bR ej au fh
  obtain⟨j',iT,ab,hJ,m2,_,_,_⟩:=mZ aM β m1 fu
  rw[aw]at eo
  exact⟨_,Je eo,_,ab,rfl,hJ,⟨m2.bR.hw,m2.os,m2.tape,m2.output,m2.size,m2.frame,m2.fresh⟩⟩
  grind
 cases ex with
 |normal=>exact fin aq
 |ret=>exact fin aq
 |exit id=>exact aq.elim
 |goto l=>exact aq.elim
 |panic v7=>exact aq.elim
 |outgrown=>exact aq.elim
def zZ(P:dW)(d:l9)(v:ao)(h:I)(Q:I->Prop):Prop:=∃g cap,d={target:=.fn (.func g) cap,args:=#[]}/\(∃fn,P.funcs[g]?=some fn/\fn.body.isSome=true/\(fn.name== "runtime.NumGoroutine")=false)/\∀w,lI h w->CallsD P g cap (.panicking [{v:=v,recovered:=false}]) w λe u aZ=>(∃r,e= .returned r)/\u= .panicking [{v:=v,recovered:=true}]/\∃U,Q U/\Ext h w U aZ
def afR(P:dW)(rs:List w2)(Q:ao->I->Prop):BT:=λx a7 e L h=>match x,a7 with
 |.panic [p],[d]=>p={v:=p.v,recovered:=false}/\zZ P d p.v h λU=>s9 P rs Q .ret e L U
 |x,_=>s9 P rs Q x e L h
theorem agP.intro{f:jh}{fn:Func}{c:ox}{ms:IR}{rs:List w2}{args:List ao}{h:I}{Q:ao->I->Prop}(p4:P.follows .mixedOrders=true)(az:P.funcs[f]?=some fn)(af:fn.body=some c)(wq:(fn.name== "runtime.NumGoroutine")=false)(aC:fn.ntmps=n)(y':fn.results.toList=rs)(wk:lower P bM c=ms)(i8:nT args.length n=true)(ku:Jz P n ms (afR P rs Q) [] (pU args) [] h):Fn P f args.toArray h Q:=by
 refine⟨⟨fn,az,by grind,wq⟩,λw hw=>?_⟩;subst wk;subst y';subst aC;refine ajd az af ?_;have m:cb h w (λ_=>0) [] h w:=⟨⟨hw,(λi l al=>by cases al)⟩,(λi l al=>by cases al),(λi o l b3 al=>by cases al),(λi l al=>by cases al),(λi l al=>by cases al),rfl,rfl,rfl,dd _,(λ_ _ _=>rfl),(λo ae=>.inl ae)⟩;have aF:de []:=λi cs ty ag=>by cases ag
 have aj:=afS p4 (ai:=h) (aV:=w) (n:=fn.ntmps) c _ [] (λ_=>0) (pU args) [] h _ w (by simp) m (EE (rh i8) _) aF ku;refine wK aj ?_;rintro ex _ aZ ⟨ey,a7,rfl,iC,β,e,L,U,bc,cT,ef,aq⟩;have XP:∀U aZ,cb h w β L U aZ->vy P fn.results.toList [] e L U (λej=>kX 40 ej (λL h=>match mY L ej with
  |some au=>e9 (λ_ h=>Q (jt au) h) L h
  |none=>False) L U)->∃v,(results fn ey.tmps).run P aZ= .ok v aZ/\∃u ab,Ending.returned v= .returned u/\Q u ab/\Ext h w ab aZ:=by
  intro U aZ bc wy
  obtain⟨ej,bJ,bB,eo⟩:=DP bc cT ef _ _ [] wy (by simp)
  simp only[J3]at bJ
  obtain⟨f',h1,aM,m1,fu,kY,_⟩:=rV ej _ _ _ bc ef bJ
  split at aM
  rename_i au fh
  have aw:=s3 m1.bR ej au fh
  obtain⟨j',iT,ab,hJ,m2,_,_,_⟩:=mZ aM β m1 fu
  rw[aw]at eo
  exact⟨_,Je eo,_,ab,rfl,hJ,⟨m2.bR.hw,m2.os,m2.tape,m2.output,m2.size,m2.frame,m2.fresh⟩⟩
  grind
 have fin:s9 P fn.results.toList Q .ret e L U->Leaves P fn ey.tmps (λe aZ=>∃v U,e= .returned v/\Q v U/\Ext h w U aZ) a7 .returning aZ:=λwy=>RQ a7 aZ iC λaZ Ad=>XP _ _ (bc.alike Ad) wy;have p5:(∃p d,ex= .panic [p]/\a7=[d]/\p={v:=p.v,recovered:=false}/\zZ P d p.v U λU=>s9 P fn.results.toList Q .ret e L U)\/s9 P fn.results.toList Q ex e L U:=by
  unfold afR at aq
  grind
 rcases p5 with⟨p,d,rfl,rfl,hp,g,cap,rfl,af,am⟩|aq;show Leaves P fn ey.tmps _ [_] (.panicking [p]) aZ;refine leaves_cons (by simp) (f:=g) (args:=#[]++cap) ?_ ?_;simp only[invoke];exact xW af;rw[agf,hp];refine agq (am aZ bc.bR.hw) ?_;rintro aI u dw ⟨⟨r,rfl⟩,rfl,ab,aD,fk⟩;exact XP _ _ (bc.ext fk) aD;cases ex with
 |normal=>exact fin aq
 |ret=>exact fin aq
 |exit id=>exact aq.elim
 |goto l=>exact aq.elim
 |panic v7=>exact aq.elim
 |outgrown=>exact aq.elim
end
end Go.Sx
namespace Go.Sx
set_option maxRecDepth 100000
set_option maxHeartbeats 0
set_option linter.all false
variable {x y:Nat}
abbrev dI(n:Nat):ao:=.int .u64 n
theorem JG(z:Int):IntKind.u64.wrap z=z%18446744073709551616:=by rfl
theorem Nv{n:Nat}(h:n<18446744073709551616):IntKind.u64.wrap n=n:=by rw[JG];omega
section
variable {P:dW}{w:bb}{t:Nat}
theorem azt(aQ:y≠0):(binOp .rem t (dI x) (dI y)).run P w= .ok (dI (x%y)) w:=by
 simp[binOp,Op.intDiv,aQ];rw[Int.tmod_eq_emod_of_nonneg (by omega)]
theorem Nm(aQ:y≠0)(ad:x<18446744073709551616):(binOp .quo t (dI x) (dI y)).run P w= .ok (dI (x/y)) w:=by
 simp[binOp,Op.intDiv,aQ];rw[show(x:Int)/(y:Int)=((x/y:Nat):Int) by simp,Nv (UZ (nU _ _) ad)]
theorem Br{k:IntKind}(aQ:y<=64):(binOp .shr t (dI x) (.int k y)).run P w= .ok (dI (x/2^y)) w:=by
 have:min ((y:Int).toNat) IntKind.u64.bits=y:=by simp[JV];omega
 simp only[binOp,Op.shift,this];simp;rw[Int.fdiv_eq_ediv_of_nonneg _ (Int.pow_nonneg (by decide)),aE (by omega)];simp
theorem azu{k:IntKind}(aQ:y<=64)(h:x*2^y<18446744073709551616):(binOp .shl t (dI x) (.int k y)).run P w= .ok (dI (x*2^y)) w:=by
 have:min ((y:Int).toNat) IntKind.u64.bits=y:=by simp[JV];omega
 simp only[binOp,Op.shift,this];simp;rw[show(x:Int)*2^y=((x*2^y:Nat):Int) by simp,Nv h,aE (by omega)]
theorem afB(h:y<=x)(ad:x<18446744073709551616):(binOp .sub t (dI x) (dI y)).run P w= .ok (dI (x-y)) w:=by
 simp[binOp,D1,JG];omega
theorem azs(ad:x<18446744073709551616)(aQ:y<18446744073709551616):(binOp .or t (dI x) (dI y)).run P w= .ok (dI (x|||y)) w:=by
 simp[binOp,ahT];have h1:x%2^IntKind.u64.bits=x:=vM ad;have ab:y%2^IntKind.u64.bits=y:=vM aQ;rw[h1,ab,Nv];exact ahO (n:=64) ad aQ
theorem Nl(ad:x<18446744073709551616)(aQ:y<18446744073709551616):(binOp .and t (dI x) (dI y)).run P w= .ok (dI (x&&&y)) w:=by
 simp[binOp,ahT];have h1:x%2^IntKind.u64.bits=x:=vM ad;have ab:y%2^IntKind.u64.bits=y:=vM aQ;rw[h1,ab,Nv];exact Nat.and_lt_two_pow (n:=64) x aQ
end
end Go.Sx
namespace Go.Sx
open Go.Proofs
set_option maxRecDepth 100000
set_option maxHeartbeats 0
set_option linter.all false
variable {a b x:Nat}
theorem F9(a:Nat)(h:I)(a6:a<9223372036854775808):Fn aH 150 #[R a] h λv U=>v=dI a/\U=h:=by
 refine b5 ars rfl ?_;refine .mk (by omega) (by omega) ?_;exact .done ⟨rfl,rfl⟩
theorem Bn(a:Nat)(h:I)(a6:a<9223372036854775808):Fn aH 153 #[R a] h λv U=>v=dI a/\U=h:=by
 refine b5 aru rfl ?_;refine .mk (by omega) (by omega) ?_;exact .done ⟨rfl,rfl⟩
theorem Ww(a b:Nat)(h:I)(a6:a<9223372036854775808)(af:b<9223372036854775808):Fn aH 188 #[dI a,dI b] h λv U=>v=dI (hb a b)/\U=h:=by
 refine b5 arJ rfl ?_;refine .mk (Nat×Nat) [0,1] (λ(x,y)=>[.v (dI x),.v (dI y)]) (λ_=>[]) (λ(x,y) U=>U=h/\x<9223372036854775808/\y<9223372036854775808/\hb x y=hb a b) (λ(_,y)=>y) (a,b) (λ_=>rfl) ⟨rfl,a6,af,rfl⟩ rfl rfl ?_;rintro⟨x,y⟩ e U ⟨rfl,ad,aQ,ak⟩;refine aW (λq=>?_) (λq=>?_);refine .mk (dI (x%y)) (λP w=>azt (by omega)) ?_;refine⟨(y,x%y),rfl,rfl,⟨rfl,aQ,UZ (Nat.mod_le _ _) ad,?_⟩,Nat.mod_lt _ (by omega)⟩;rw[<-ak,ahE,<-Nat.gcd_rec,ahE];have:y=0:=by omega
 subst this;exact .done ⟨by show dI x=_;grind,rfl⟩
def x7:List Nat:=[0,1,56,2,57,49,28,3,61,58,42,50,38,29,17,4,62,47,59,36,45,43,51,22,53,39,33,30,24,18,12,5,63,55,48,27,60,41,37,16,46,35,44,21,52,32,23,11,54,26,40,15,34,20,31,10,25,14,19,9,13,8,7,6]
def Nj(x:Nat):Nat:=(x&&&(18446744073709551616-x))*285870213051353865%18446744073709551616/288230376151711744
def ll(x:Nat):Nat:=x7.getD (Nj x) 0
def uw(h:I):Prop:=∀k,k<64->h.cell? ⟨0,k,none⟩=some (.int .u8 (x7.getD k 0:Nat))
theorem uw.mono{h U:I}(t:uw h)(le:h.le U):uw U:=λk hk=>I.kL le (t k hk)
theorem afz(x:Nat):Nj x<64:=by
 unfold Nj;omega
theorem aus{y:Nat}(ai:0<x)(ad:x<18446744073709551616)(aQ:y=18446744073709551616-x){a:Operand}{w:bb}:vC aH (.unOp .neg 247 a) [dI x] w (dI y) w:=by
 intro kF q aq ah;simp[D2]at ah;simp[cY,aq,ah,Op.unary,D1,JG];omega
theorem wrap_small{z:Int}(ai: -9223372036854775808<=z)(h1:z<=9223372036854775807):IntKind.i64.wrap z=z:=by
 have:∀z:Int,IntKind.i64.wrap z=if 9223372036854775808<=z%18446744073709551616 then z%18446744073709551616-18446744073709551616 else z%18446744073709551616:=λz=>by
  unfold IntKind.wrap;simp[JV,IntKind.signed]
 grind
theorem azp:∀k,k<64->x7.getD k 0<=63:=by decide
theorem azo(x:Nat):ll x<=63:=azp _ (afz x)
theorem TT(x:Nat)(h:I)(ai:0<x)(ad:x<18446744073709551616)(av:uw h):Fn aH 187 #[dI x] h λv U=>v=R (ll x)/\U=h:=by
 refine b5 arI rfl ?_;obtain⟨h2,h1⟩:∃y,y=18446744073709551616-x:=⟨_,rfl⟩;obtain⟨fk,ab⟩:∃y,y=x&&&h2:=⟨_,rfl⟩;obtain⟨ig,an⟩:∃y,y=fk*285870213051353865%18446744073709551616:=⟨_,rfl⟩;obtain⟨qm,aR⟩:∃y,y=ig/2^58:=⟨_,rfl⟩;have cg:qm=Nj x:=by rw[aR,an,ab,h1];rfl
 have fa:qm<64:=by omega
 have mi:x7.getD qm 0=ll x:=by rw[cg];rfl
 have pd:=azo x;generalize ll x=y at mi pd;refine aW (λq=>by omega) (λq=>?_);refine .done (.mk (dI h2) (λw _=>aus ai ad h1) ?_);refine .mk (dI fk) (λP w=>by rw[ab];exact Nl ad (by omega)) ?_;refine .mk (dI ig) (λP w=>by rw[an];rfl) ?_;refine .mk (dI qm) (λP w=>by rw[aR];exact Br (y:=58) (by decide)) ?_;refine .mk (by omega) (by omega) ?_;refine .hp (.int .u8 (y:Nat)) (by simp only[add_lit,dJ,bq,ew];rw[<-mi];exact av _ fa) ?_;exact .done ⟨by show R _=_;rw[wrap_small (by omega) (by omega)],rfl⟩
def xu(x y:Nat):Nat:=
 let t:=((x/2^32)*(y&&&4294967295)%18446744073709551616+((x&&&4294967295)*(y&&&4294967295)%18446744073709551616)/2^32)%18446744073709551616
 (((x/2^32)*(y/2^32)%18446744073709551616+t/2^32)%18446744073709551616+(((t&&&4294967295)+(x&&&4294967295)*(y/2^32)%18446744073709551616)%18446744073709551616)/2^32)%18446744073709551616
theorem aca(x y:Nat)(h:I)(ad:x<18446744073709551616)(aQ:y<18446744073709551616):Fn aH 148 #[dI x,dI y] h λv U=>v= .tuple #[dI (xu x y),dI (x*y%18446744073709551616)]/\U=h:=by
 obtain⟨cQ,aJ⟩:∃z,z=x&&&4294967295:=⟨_,rfl⟩;obtain⟨h2,aI⟩:∃z,z=x/2^32:=⟨_,rfl⟩;obtain⟨q5,ck⟩:∃z,z=y&&&4294967295:=⟨_,rfl⟩;obtain⟨hl,eE⟩:∃z,z=y/2^32:=⟨_,rfl⟩;obtain⟨aV,mf⟩:∃z,z=cQ*q5%18446744073709551616:=⟨_,rfl⟩;obtain⟨ie,tx⟩:∃z,z=h2*q5%18446744073709551616:=⟨_,rfl⟩;obtain⟨hR,An⟩:∃z,z=aV/2^32:=⟨_,rfl⟩;obtain⟨t,B9⟩:∃z,z=(ie+hR)%18446744073709551616:=⟨_,rfl⟩;obtain⟨cF,KE⟩:∃z,z=t&&&4294967295:=⟨_,rfl⟩;obtain⟨dw,EB⟩:∃z,z=t/2^32:=⟨_,rfl⟩;obtain⟨kW,WQ⟩:∃z,z=cQ*hl%18446744073709551616:=⟨_,rfl⟩;obtain⟨iI,WR⟩:∃z,z=(cF+kW)%18446744073709551616:=⟨_,rfl⟩;obtain⟨zp,WS⟩:∃z,z=h2*hl%18446744073709551616:=⟨_,rfl⟩;obtain⟨vq,WT⟩:∃z,z=(zp+dw)%18446744073709551616:=⟨_,rfl⟩;obtain⟨I6,WU⟩:∃z,z=iI/2^32:=⟨_,rfl⟩;obtain⟨ag,WV⟩:∃z,z=(vq+I6)%18446744073709551616:=⟨_,rfl⟩;obtain⟨bX,WW⟩:∃z,z=x*y%18446744073709551616:=⟨_,rfl⟩;have KF:xu x y=ag:=by rw[WV,WU,WT,WS,WR,WQ,EB,KE,B9,An,tx,mf,eE,ck,aI,aJ];rfl
 have av:t<18446744073709551616:=by omega
 rw[KF,<-WW];clear KF;refine b5 arp rfl ?_;refine .mk (dI cQ) (λP w=>by rw[aJ];exact Nl ad (by decide)) ?_;refine .mk (dI h2) (λP w=>by rw[aI];exact Br (y:=32) (by decide)) ?_;refine .mk (dI q5) (λP w=>by rw[ck];exact Nl aQ (by decide)) ?_;refine .mk (dI hl) (λP w=>by rw[eE];exact Br (y:=32) (by decide)) ?_;refine .mk (dI aV) (λP w=>by rw[mf];rfl) ?_;refine .mk (dI ie) (λP w=>by rw[tx];rfl) ?_;refine .mk (dI hR) (λP w=>by rw[An];exact Br (y:=32) (by decide)) ?_;refine .mk (dI t) (λP w=>by rw[B9];rfl) ?_;refine .mk (dI cF) (λP w=>by rw[KE];exact Nl av (by decide)) ?_;refine .mk (dI dw) (λP w=>by rw[EB];exact Br (y:=32) (by decide)) ?_;refine .mk (dI kW) (λP w=>by rw[WQ];rfl) ?_;refine .mk (dI iI) (λP w=>by rw[WR];rfl) ?_;refine .mk (dI zp) (λP w=>by rw[WS];rfl) ?_;refine .mk (dI vq) (λP w=>by rw[WT];rfl) ?_;refine .mk (dI I6) (λP w=>by rw[WU];exact Br (y:=32) (by decide)) ?_;refine .mk (dI ag) (λP w=>by rw[WV];rfl) ?_;refine .mk (dI bX) (λP w=>by rw[WW];rfl) ?_;exact .done ⟨rfl,rfl⟩
theorem ani{y:Nat}(ad:x<4294967296)(aQ:y<4294967296):xu x y=0:=by
 have h1:x/2^32=0:=ahC ad;have ab:y/2^32=0:=ahC aQ;have an:x&&&4294967295=x:=by rw[show(4294967295:Nat)=2^32-1 from rfl,GQ];omega
 have aR:y&&&4294967295=y:=by rw[show(4294967295:Nat)=2^32-1 from rfl,GQ];omega
 have mr:x*y<=4294967295*4294967295:=ns (by omega) (by omega);have cg:x*y%18446744073709551616=x*y:=vM (by omega);have fa:x*y/4294967296<4294967296:=by omega
 have mi:x*y/4294967296&&&4294967295=x*y/4294967296:=by rw[show(4294967295:Nat)=2^32-1 from rfl,GQ];omega
 unfold xu
 grind
theorem anh(ad:x<9223372036854775808):xu x 1=0:=by
 have ab:(1:Nat)/2^32=0:=by decide
 have aR:(1:Nat)&&&4294967295=1:=by decide
 have an:x&&&4294967295=x%4294967296:=by rw[show(4294967295:Nat)=2^32-1 from rfl,GQ]
 unfold xu;simp only[ab,aR,an,Nat.mul_zero,U1,dJ,ew,show(2:Nat)^32=4294967296 from rfl];rw[show(x/4294967296%18446744073709551616+x%4294967296%18446744073709551616/4294967296)%18446744073709551616=x/4294967296 by omega];have cg:x/4294967296&&&4294967295=x/4294967296:=by
  rw[show(4294967295:Nat)=2^32-1 from rfl,GQ];omega
 omega
theorem ang(ad:x<9223372036854775808):xu 1 x=0:=by
 have ab:(1:Nat)/2^32=0:=by decide
 have aR:(1:Nat)&&&4294967295=1:=by decide
 have an:x&&&4294967295=x%4294967296:=by rw[show(4294967295:Nat)=2^32-1 from rfl,GQ]
 unfold xu;simp only[ab,aR,an,D0,U1,dJ,Nat.one_mul,show(2:Nat)^32=4294967296 from rfl];rw[show x%4294967296%18446744073709551616/4294967296%18446744073709551616=0 by omega]
 grind
theorem acc(x y:Nat)(h:I)(ad:x<4294967296)(aQ:y<4294967296):Fn aH 148 #[dI x,dI y] h λv U=>v= .tuple #[dI 0,dI (x*y)]/\U=h:=by
 have:=aca x y h (by omega) (by omega);rw[ani ad aQ,vM (UZ (ns (show x<=4294967295 by omega) (show y<=4294967295 by omega)) (by decide))]at this;omega
def uJ:Nat->Nat->Nat->Nat
 |0,a,_=>a
 |n+1,a,b=>if b=0 then a else if b/2^ll b<a then uJ n (b/2^ll b) (a-b/2^ll b)else uJ n a (b/2^ll b-a)
def pS(a b:Nat):Nat:=if a=0\/b=0 then a|||b else uJ (a/2^ll a+b+1) (a/2^ll a) b*2^ll (a|||b)
def Ni:Nat->Bool
 |0=>true
 |n+1=>nT 1 ((n+1)/2^ll (n+1))&&nT (ll (n+1)) 13&&Ni n
theorem afy:∀n,Ni n=true->∀x,0<x->x<=n->1<=x/2^ll x/\ll x<=13
 |0,_,x,ai,h1=>by omega
 |n+1,h,x,ai,h1=>by
  simp only[Ni,fY,Nat.ble_eq]at h;by_cases ad:x=n+1
  grind
  exact afy n h.2 x ai (by omega)
theorem azq:Ni 8191=true:=by kernel_rfl
theorem Ge(ai:0<x)(h1:x<=8191):1<=x/2^ll x/\ll x<=13:=afy _ azq x ai h1
theorem OX:∀(n a b:Nat),1<=a->a<=4096->b<=4096->a+b<n->1<=uJ n a b/\uJ n a b<=4096
 |0,_,_,_,_,_,h=>by omega
 |n+1,a,b,h1,ab,an,aR=>by
  unfold uJ;split;exact⟨h1,ab⟩;rename_i af;have⟨t1,_⟩:=Ge (x:=b) (by omega) (by omega);have t2:=nU b (2^ll b);split;exact OX n _ _ t1 (by omega) (by omega) (by omega);exact OX n _ _ h1 ab (by omega) (by omega)
theorem MC(a6:a<=4096)(af:b<=4096):a|||b<=8191:=by
 have:=ahO (n:=13) (show a<2^13 by omega) (show b<2^13 by omega);omega
theorem ac'(h:¬(a=0/\b=0)):0<a|||b:=by
 rcases Nat.eq_zero_or_pos (a|||b)with e|e;exact absurd (Nat.or_eq_zero_iff.1 e) h;exact e
theorem aeG{s:Nat}(a6:a<=4096)(aj:s<=13):a*2^s<=33554432:=ns a6 (Nat.pow_le_pow_right (by decide) aj:2^s<=2^13)
theorem WK(a6:a<=4096)(af:b<=4096)(h:¬(a=0/\b=0)):1<=pS a b/\pS a b<=33554432:=by
 have aL:=MC a6 af;have hp:=ac' h;unfold pS;split;omega;have⟨t1,_⟩:=Ge (x:=a) (by omega) (by omega);have t2:=nU a (2^ll a);have⟨_,t3⟩:=Ge hp aL;have⟨bL,cy⟩:=OX (a/2^ll a+b+1) _ b t1 (by omega) af (by omega);exact⟨ahM bL (Nat.pow_pos (by decide)),aeG cy t3⟩
theorem WJ(a b:Nat)(h:I)(a6:a<=4096)(af:b<=4096)(av:uw h):Fn aH 149 #[dI a,dI b] h λv U=>v=dI (pS a b)/\U=h:=by
 refine b5 arq rfl ?_;obtain⟨J,aL⟩:∃J,J=a|||b:=⟨_,rfl⟩;have H6:∀(P:dW)(w:bb),(binOp .or 0 (dI a) (dI b)).run P w= .ok (dI J) w:=λP w=>by rw[aL];exact azs (by omega) (by omega)
 have ZK:=MC a6 af;rw[<-aL]at ZK;refine aW (λaM=>?_) (λaM=>?_);refine .mk _ H6 ?_;exact .done ⟨by show dI J=_;rw[pS,aX (by omega),aL],rfl⟩;refine aW (λaD=>?_) (λaD=>?_);refine .mk _ H6 ?_;exact .done ⟨by show dI J=_;rw[pS,aX (by omega),aL],rfl⟩;have ay:0<J:=by rw[aL];exact ac' (by omega)
 have qF:pS a b=uJ (a/2^ll a+b+1) (a/2^ll a) b*2^ll J:=by rw[pS,aE (by omega),aL]
 rw[qF];obtain⟨ae',aBT⟩:=Ge (x:=a) (by omega) (by omega);obtain⟨_,afk⟩:=Ge ay ZK;obtain⟨cP,aO⟩:∃z,z=a/2^ll a:=⟨_,rfl⟩;rw[<-aO]at ae'⊢;have qJ:cP<=4096:=by rw[aO];exact hT (nU _ _) a6
 obtain⟨s,c5⟩:∃z,z=ll J:=⟨_,rfl⟩;rw[<-c5]at afk⊢;refine .mk _ H6 ?_;refine .done (.mk _ (TT J h ay (by omega) av) ?_);rintro _ h1 ⟨rfl,rfl⟩;rw[<-c5];refine .done (.mk _ (TT a _ (by omega) (by omega) av) ?_);rintro _ h1 ⟨rfl,rfl⟩;refine .mk (dI cP) (λP w=>by rw[aO];exact Br (by omega)) ?_;refine .mk (Nat×Nat) [0,1,5] (λ(x,y)=>[.v (dI x),.v (dI y),.v (R s)]) (λ_=>[]) (λ(x,y) U=>U=h1/\1<=x/\x<=4096/\y<=4096/\∃n,x+y<n/\uJ n x y=uJ (cP+b+1) cP b) (λ(x,y)=>x+y) (cP,b) (λ_=>rfl) ⟨rfl,ae',qJ,af,_,by omega,rfl⟩ rfl rfl ?_;rintro⟨x,y⟩ e U ⟨rfl,sD,hB,aQ,n,aC,ak⟩;refine aW (λq=>?_) (λq=>?_);cases n with
 |zero=>omega
 |succ n=>
  obtain⟨t1,t2⟩:=Ge (x:=y) (by omega) (by omega);have t3:=nU y (2^ll y);rw[uJ,aE (by omega)]at ak;obtain⟨c,aw⟩:∃c,c=y/2^ll y:=⟨_,rfl⟩;rw[<-aw]at t1 t3 ak;refine .done (.mk _ (TT y _ (by omega) (by omega) av) ?_);rintro _ ab ⟨rfl,rfl⟩;refine .mk (dI c) (λP w=>by rw[aw];exact Br (by omega)) ?_;refine aW (λbj=>?_) (λbj=>?_);refine .mk (dI (x-c)) (λP w=>afB (by omega) (by omega)) ?_;refine⟨(c,x-c),rfl,rfl,⟨rfl,t1,by omega,by omega,n,by omega,?_⟩,by show c+(x-c)<x+y;omega⟩;rw[<-ak,aX (by omega)];refine .mk (dI (c-x)) (λP w=>afB (by omega) (by omega)) ?_;refine⟨(x,c-x),rfl,rfl,⟨rfl,sD,by omega,by omega,n,by omega,?_⟩,by show x+(c-x)<x+y;omega⟩;rw[<-ak,aE (by omega)]
 have C4:y=0:=by omega
 subst C4;have af:uJ n x 0=x:=by
  cases n with
  |zero=>rfl
  |succ n=>rw[uJ,aX rfl]
 rw[af]at ak;refine .mk (dI (x*2^s)) (λP w=>azu (by omega) (by have:=aeG hB afk;omega)) ?_;exact .done ⟨by show dI _=_;rw[ak],rfl⟩
def vh(k d:Nat):Nat:=if k=0\/d=0 then 0 else 1/pS 1 k*k/pS (1/pS 1 k*k) d*d
theorem abp{k:Nat}(hk:k<=4096):1/pS 1 k*k<=4096:=by
 have h1:1/pS 1 k<=1:=nU _ _;have:=ns h1 hk;omega
theorem as'{k d:Nat}(hk:k<=4096)(aB:d<=4096):vh k d<=16777216:=by
 unfold vh;split;omega;have h1:=abp hk;exact ns (hT (nU _ _) h1) aB
theorem as9(k d:Nat)(B:Nat)(h:I)(hk:k<=4096)(aB:d<=4096)(av:uw h)(bW:h B=some (.cells #[R k,R d] 3 (0,0))):Fn aH 109 #[.slice (some ⟨B,0,none⟩) 2 2] h λv U=>v= .tuple #[R (vh k d),.bool true]/\U=h:=by
 refine b5 aqW rfl ?_;obtain⟨m1,hm⟩:∃z,z=1/pS 1 k*k:=⟨_,rfl⟩;have mS:m1<=4096:=by rw[hm];exact abp hk
 obtain⟨m2,oO⟩:∃z,z=m1/pS m1 d*d:=⟨_,rfl⟩;have uQ:k≠0->d≠0->vh k d=m2:=λa b=>by rw[vh,aE (by omega),oO,hm]
 have W0:k=0\/d=0->vh k d=0:=λa=>by rw[vh,aX a]
 refine .mk (Nat×Nat) [4,5,10,11,12] (λ(i,m)=>[.v (dI m),.v (.bool true),.v (.slice (some ⟨B,0,none⟩) 2 2),.v (R 2),.v (R i)]) (λ_=>[]) (λ(i,m) U=>U=h/\((i=0/\m=1)\/(i=1/\m=m1/\k≠0)\/(i=2/\m=m2/\k≠0/\d≠0))) (λ(i,_)=>2-i) (0,1) (λ_=>rfl) ⟨rfl,.inl ⟨rfl,rfl⟩⟩ rfl rfl ?_;have gT:h.cell? ((ou B 0 none).add 0)=some (R k):=bN bW rfl;have c1:h.cell? ((ou B 0 none).add 1)=some (R d):=bN bW rfl;rintro⟨i,m⟩ e U ⟨rfl,ag|ag|ag⟩;obtain⟨rfl,rfl⟩:=ag;refine .r ?_;refine .hp _ gT ?_;refine aW (λq=>?_) (λq=>?_);exact .done ⟨by rw[W0 (.inl (by omega))];rfl,rfl⟩;obtain⟨D,hs⟩:∃z,z=pS 1 k:=⟨_,rfl⟩;have P7:=(WK (a:=1) (b:=k) (by omega) hk (by omega)).1;rw[<-hs]at P7 hm;obtain⟨w,hw⟩:∃z,z=1/D:=⟨_,rfl⟩;have p6:w<=1:=by rw[hw];exact nU _ _
 rw[<-hw]at hm;refine .mk _ (F9 k _ (by omega)) (λv ab q=>by rw[q.2];exact I.le_refl _) ?_;rintro _ _ ⟨rfl,rfl⟩;refine .mk _ (WJ 1 k _ (by omega) hk av) (λv ab q=>by rw[q.2];exact I.le_refl _) ?_;rintro _ _ ⟨rfl,rfl⟩;rw[<-hs];refine .mk (dI w) (λP aZ=>by rw[hw];exact Nm (by omega) (by omega)) ?_;refine .mk _ (F9 k _ (by omega)) (λv ab q=>by rw[q.2];exact I.le_refl _) ?_;rintro _ _ ⟨rfl,rfl⟩;refine .mk _ (acc w k _ (by omega) (by omega)) (λv ab q=>by rw[q.2];exact I.le_refl _) ?_;rintro _ _ ⟨rfl,rfl⟩;rw[<-hm];refine .aLS ?_;have az:decide (((m1:Nat):Int)<=9223372036854775807)=true:=fo (by omega);exact⟨(1,m1),by show[aA.v (dI m1),aA.v (.bool (decide (((m1:Nat):Int)<=9223372036854775807))),_,_,_]=_;rw[az];rfl,rfl,⟨rfl,.inr (.inl ⟨rfl,rfl,by omega⟩)⟩,by show 2-1<2-0;decide⟩;obtain⟨rfl,rfl,mm⟩:=ag;refine .r ?_;refine .hp _ c1 ?_;refine aW (λq=>?_) (λq=>?_);exact .done ⟨by rw[W0 (.inr (by omega))];rfl,rfl⟩;obtain⟨D,hs⟩:∃z,z=pS m d:=⟨_,rfl⟩;have P7:=(WK (a:=m) (b:=d) mS aB (by omega)).1;rw[<-hs]at P7 oO;obtain⟨w,hw⟩:∃z,z=m/D:=⟨_,rfl⟩;have p6:w<=m:=by rw[hw];exact nU _ _
 rw[<-hw]at oO;have anE:m2<=4096*4096:=by rw[oO];exact ns (by omega) aB
 refine .mk _ (F9 d _ (by omega)) (λv ab q=>by rw[q.2];exact I.le_refl _) ?_;rintro _ _ ⟨rfl,rfl⟩;refine .mk _ (WJ m d _ mS aB av) (λv ab q=>by rw[q.2];exact I.le_refl _) ?_;rintro _ _ ⟨rfl,rfl⟩;rw[<-hs];refine .mk (dI w) (λP aZ=>by rw[hw];exact Nm (by omega) (by omega)) ?_;refine .mk _ (F9 d _ (by omega)) (λv ab q=>by rw[q.2];exact I.le_refl _) ?_;rintro _ _ ⟨rfl,rfl⟩;refine .mk _ (acc w d _ (by omega) (by omega)) (λv ab q=>by rw[q.2];exact I.le_refl _) ?_;rintro _ _ ⟨rfl,rfl⟩;rw[<-oO];refine .aLS ?_;have az:decide (((m2:Nat):Int)<=9223372036854775807)=true:=fo (by omega);exact⟨(2,m2),by show[aA.v (dI m2),aA.v (.bool (decide (((m2:Nat):Int)<=9223372036854775807))),_,_,_]=_;rw[az];rfl,rfl,⟨rfl,.inr (.inr ⟨rfl,rfl,mm,by omega⟩)⟩,by show 2-2<2-1;decide⟩;obtain⟨rfl,rfl,mm,Qy⟩:=ag;have anE:m<=4096*4096:=by rw[oO];exact ns (hT (nU _ _) mS) aB
 refine .mk (by omega) (by omega) ?_;exact .done ⟨by rw[uQ mm Qy];rfl,rfl⟩
end Go.Sx
namespace Go.Sx
open Go.RowKit
set_option maxRecDepth 100000
set_option maxHeartbeats 0
set_option linter.all false
def MJ:Op->Option dB
 |.panic x=>some (bK x)
 |_=>none
def Gk(P:dW)(n:Nat)(Q:dL):List cC->bY->List LE->I->Prop
 |[],e,L,h=>Q .normal e L h
 |J::r,e,L,h=>(match J.g,J.k with
  |none,.raw op=>(match MJ op with
   |some x=>(match x.get e with
    |.v (.iface t v)=>Q (.panic [{v:=.iface t v,recovered:=false}]) e L h
    |_=>False)
   |none=>gG P n J e L h λe L h=>Gk P n Q r e L h)
  |_,_=>gG P n J e L h λe L h=>Gk P n Q r e L h)
def DN(P:dW)(n:Nat):IR->dL->bY->List LE->I->Prop
 |.seq a b,Q,e,L,h=>DN P n a (λx e L h=>match x with|.normal=>DN P n b Q e L h|x=>Q x e L h) e L h
 |.cond c x y,Q,e,L,h=>(match c.get e with
  |.v (.bool b)=>fe b (DN P n x Q (ub e c true) L h) (DN P n y Q (ub e c false) L h)
  |_=>False)
 |.ch ops,Q,e,L,h=>Gk P n Q ops e L h
 |ms,Q,e,L,h=>c7 P n ms Q e L h
section
variable {P:dW}{ai:I}{aV:bb}{n:Nat}{β:Nat->Nat}{L:List LE}{h:I}{e:bY}{a:Act}{w:bb}
theorem atz{J op:Op}(h:bI P J= .raw op)(aB:MJ op≠none):J=op:=by
 cases J<;>simp only[bI]at h<;>(try cases h;rfl)<;>exfalso<;>revert h<;>(repeat' split)<;>intro h<;>cases h<;>simp[MJ]at aB
theorem afY{ops:Array b8}{Q:dL}:∀(l:List b8) β e L h a w,cb ai aV β L h w->cJ n β L e a->de L->Gk P n Q (l.map (e5 P ops)) e L h->wpList P ops (lift ai aV n Q) l a w
 |[],β,e,L,h,a,w,m,r,aF,hp=>⟨β,e,L,h,m,r,aF,hp⟩
 |J::l,β,e,L,h,a,w,m,r,aF,hp=>by
  have bE:=afY (ops:=ops) (Q:=Q) l;refine wpList_step λnext rH=>?_
  have plain:gG P n (e5 P ops J) e L h (λe L h=>Gk P n Q (l.map (e5 P ops)) e L h)->if gz J (j8 ops a.tmps)then J.wp P a w next (lift ai aV n Q)else next (a.put J.dst eU) w:=λhp=>Gj (λβ e L h a w _ m r aF hk=>rH _ _ (bE β e L h a w m r aF hk)) m r aF hp
  rw[eO]at hp;unfold Gk at hp;split at hp;rename_i op ak hk;split at hp;rename_i x ad;split at hp;rename_i t v ah;unfold e5 at hk ak;cases eK:tT ops J.guard with
  |none=>grind
  |some uV=>
   rw[eK]at hk ak;simp only at hk ak;subst ak;have wu:J.guard=none:=by
    cases wu:J.guard with
    |none=>rfl
    |some p8=>
     obtain⟨o,b⟩:=p8;rw[wu]at eK
     grind [tT]
   have ay:J.op=op:=atz hk (by grind);have hw:gz J (j8 ops a.tmps)=true:=by simp[gz,wu]
   rw[aX hw];cases op with
   |panic y=>
    simp only[MJ]at ad;injection ad with ad;subst ad;have lA:a.eval y= .iface t v:=by rw[r.eval,ah];rfl
    unfold zX;have:(cY a.eval J).run P w= .halt (.panic (.iface t v)) w:=by simp[cY,ay,lA,Instr.panic]
    rw[this,Oper.upon_panic];exact⟨β,e,L,h,m,r,aF,hp⟩
   |_=>cases ad
  grind
  grind
  grind
theorem azM{bM:List Nat}(p4:P.follows .mixedOrders=true):∀(c:ox)(Q:dL) β e L h a w,cb ai aV β L h w->cJ n β L e a->de L->DN P n (lower P bM c) Q e L h->c.wp P (lift ai aV n Q) a w:=by
 intro c;have mh:∀(c:ox)(Q:dL) β e L h a w,cb ai aV β L h w->cJ n β L e a->de L->c7 P n (lower P bM c) Q e L h->c.wp P (lift ai aV n Q) a w:=λc Q β e L h a w m r aF hp=>Ns p4 c Q β e L h a w m r aF hp;induction c with
 |seq x y oP oQ=>
  intro Q β e L h a w m r aF hp;refine wp_seq (wK (oP _ β e L h a w m r aF hp) ?_);rintro ex ey aZ ⟨bS,bl,bd,U,bc,cT,ef,aq⟩;cases ex with
  |normal=>exact oQ Q bS bl bd U ey aZ bc cT ef aq
  |_=>exact⟨bS,bl,bd,U,bc,cT,ef,aq⟩
 |region id ops d=>
  intro Q β e L h a w m r aF hp;cases d with
  |false=>exact aCa (afY ops.toList β e L h a w m r aF hp)
  |true=>
   refine mh _ Q β e L h a w m r aF ?_;simp only[lower]at hp⊢;split at hp;rename_i aL;rw[aX aL];exact hp;rename_i aL;rw[aE aL];exact hp
 |cond c x y oP oQ=>
  intro Q β e L h a w m r aF hp;simp only[lower,DN]at hp;split at hp;rename_i b af;have aw:=r.eval c;rw[af]at aw;have kQ:ub e (bK c) b=e:=by
   cases c with
   |tmp t=>exact l8 af
   |_=>rfl
  cases b with
  |true=>
   simp only[fe]at hp;rw[kQ]at hp;exact wp_cond_true aw (oP Q β e L h a w m r aF hp)
  |false=>
   simp only[fe]at hp;rw[kQ]at hp;exact wp_cond_false aw (oQ Q β e L h a w m r aF hp)
  grind
 |skip=>exactλQ β e L h a w m r aF hp=>mh _ Q β e L h a w m r aF hp
 |block=>exactλQ β e L h a w m r aF hp=>mh _ Q β e L h a w m r aF hp
 |loop=>exactλQ β e L h a w m r aF hp=>mh _ Q β e L h a w m r aF hp
 |rangeFunc f be x y=>intro Q β e L h a w m r aF hp;cases be;exact mh _ Q β e L h a w m r aF hp
 |exit=>exactλQ β e L h a w m r aF hp=>mh _ Q β e L h a w m r aF hp
 |scope=>exactλQ β e L h a w m r aF hp=>mh _ Q β e L h a w m r aF hp
 |label=>exactλQ β e L h a w m r aF hp=>mh _ Q β e L h a w m r aF hp
 |goto=>exactλQ β e L h a w m r aF hp=>mh _ Q β e L h a w m r aF hp
 |ret=>exactλQ β e L h a w m r aF hp=>mh _ Q β e L h a w m r aF hp
 |refuse=>exactλQ β e L h a w m r aF hp=>mh _ Q β e L h a w m r aF hp
theorem BA.intro{bM:List Nat}{f:jh}{fn:Func}{c:ox}{ms:IR}{args:List ao}{h:I}{v:ao}(p4:P.follows .mixedOrders=true)(az:P.funcs[f]?=some fn)(af:fn.body=some c)(wq:(fn.name== "runtime.NumGoroutine")=false)(aC:fn.ntmps=n)(wk:lower P bM c=ms)(i8:nT args.length n=true)(ku:DN P n ms (λx _ _ U=>match x with|.panic v7=>v7=[{v:=v,recovered:=false}]/\U=h|_=>False) (pU args) [] h):BA P f args.toArray h v:=by
 refine⟨⟨fn,az,by grind,wq⟩,λw hw=>?_⟩;subst wk;subst aC;refine calls_of_wp az af ?_;have m:cb h w (λ_=>0) [] h w:=⟨⟨hw,(λi l al=>by cases al)⟩,(λi l al=>by cases al),(λi o l b3 al=>by cases al),(λi l al=>by cases al),(λi l al=>by cases al),rfl,rfl,rfl,dd _,(λ_ _ _=>rfl),(λo ae=>.inl ae)⟩;have aF:de []:=λi cs ty ag=>by cases ag
 have aj:=azM p4 (ai:=h) (aV:=w) (n:=fn.ntmps) c _ (λ_=>0) (pU args) [] h _ w m (EE (rh i8) _) aF ku;refine wK aj ?_;rintro ex ey aZ ⟨β,e,L,U,bc,cT,ef,aq⟩;cases ex with
 |panic v7=>
  obtain⟨rfl,rfl⟩:=aq;exact⟨cT.defers,rfl,bc.bR.hw,bc.os,bc.tape,bc.output,bc.size,bc.frame,bc.fresh⟩
 |_=>grind
end
end Go.Sx
namespace Go.Sx
open Go.Proofs
set_option maxRecDepth 100000
set_option maxHeartbeats 0
set_option linter.all false
variable {ai h:I}{dg:List Bool}{e6 gq:List Nat}{aa:List bo}{N dst k m u v x y:Nat}{L:Nat->Nat->Prop}{f:Nat->ao}{p:Nat×Nat}{α:Type}{z:ao}
theorem aoz(x y:ao):Idle aH 151 #[x,y]:=by
 refine⟨⟨_,aia,rfl,by decide⟩,λw=>?_⟩;refine Wd aia rfl λEu cs hu=>?_;have am:Jc (Eu::cs)=none:=by simp[Jc,hu]
 apply JC;apply JB;simp[JA,go_sem,am,Tryz.ntmps151,Gy];apply JC;apply JB;simp[JA,go_sem,Gy];refine af1 (t:=false) (by rfl) ?_;refine af2 (wp_skip ?_);exact⟨rfl,_,by rw[<-hu],.tuple #[],by simp[results,Tryz.results151],⟨_,rfl⟩,rfl,.refl w⟩
def pt(a b:Nat):Bool:=decide (xu a b=0)&&decide (a*b%18446744073709551616<=9223372036854775807)
def sU(a b:Nat):Nat:=a*b%18446744073709551616
theorem acb(a b:Nat)(h:I)(a6:a<9223372036854775808)(af:b<9223372036854775808):Fn aH 191 #[R a,R b] h λv U=>v=(if pt a b=true then .tuple #[R (sU a b),.bool true]else .tuple #[R 0,.bool false])/\U=h:=by
 refine b5 arM rfl ?_;have abZ:=aca a b h (by omega) (by omega);obtain⟨c,aw⟩:∃c,c=sU a b:=⟨_,rfl⟩;obtain⟨d,aB⟩:∃c,c=xu a b:=⟨_,rfl⟩;have bm:pt a b=(decide (d=0)&&decide (c<=9223372036854775807)):=by rw[pt,aB,aw];rfl
 rw[<-aw,bm];rw[<-aB,show a*b%18446744073709551616=c by rw[aw];rfl]at abZ;refine .done (.mk _ (F9 a h (by omega)) ?_);rintro _ _ ⟨rfl,rfl⟩;refine .done (.mk _ (F9 b _ (by omega)) ?_);rintro _ _ ⟨rfl,rfl⟩;refine .done (.mk _ abZ ?_);rintro _ _ ⟨rfl,rfl⟩;refine aW (λq=>?_) (λq=>?_);exact .done ⟨by rw[gU (show¬d=0 by omega)];rfl,rfl⟩;refine aW (λaD=>?_) (λaD=>?_);exact .done ⟨by rw[gU (show¬c<=9223372036854775807 by omega),Uk];rfl,rfl⟩;refine .mk (by omega) (by omega) ?_;exact .done ⟨by rw[fo (show d=0 by omega),fo (show c<=9223372036854775807 by omega)];rfl,rfl⟩
theorem afg(a b:Nat)(h:I)(a6:a<9223372036854775808)(af:b<9223372036854775808)(az:pt a b=true):Fn aH 156 #[R a,R b] h λv U=>v=R (sU a b)/\U=h:=by
 have m:=acb a b h a6 af;rw[aX az]at m;refine b5 aaV rfl ?_;refine .done (.mk _ m ?_);rintro _ _ ⟨rfl,rfl⟩;exact .done ⟨rfl,rfl⟩
theorem aj'{w:bb}:vC aH (.makeInterface 51 (.const (.int .i64 4))) [.int .i64 4] w (.iface 51 (.int .i64 4)) w:=by
 intro kF q aq ah;simp_all[D2,cY,aq,ah,Instr.makeInterface]
theorem WH(a b:Nat)(h:I)(a6:a<9223372036854775808)(af:b<9223372036854775808)(az:pt a b=false):BA aH 156 #[R a,R b] h (.iface 51 (.int .i64 4)):=by
 have m:=acb a b h a6 af;rw[az]at m;refine BA.intro (args:=[R a,R b]) Fz Tryz.func156 rfl (by decide) Tryz.ntmps156 (aaV.low rfl) rfl ?_;refine .done (.mk _ m ?_);rintro _ _ ⟨rfl,rfl⟩;refine .done (.mk _ (λw _=>aj') ?_);exact⟨rfl,rfl⟩
theorem aeJ(n:Nat)(h:I)(aC:n<9223372036854775808):Fn aH 189 #[.bool false,dI n] h λv U=>v=R n/\U=h:=by
 refine b5 arK rfl ?_;refine aW (λq=>?_) (λq=>by omega);refine .mk (by omega) (by omega) ?_;exact .done ⟨rfl,rfl⟩
def xk(n d:Nat):ao:=.agg #[R n,R d]
theorem RZ(a b:Nat)(h:I)(a6:a<9223372036854775808)(af:b<9223372036854775808)(ai:0<b):Fn aH 152 #[.bool false,dI a,dI b] h λv U=>v=xk (a/hb a b) (b/hb a b)/\h.le U:=by
 refine b5 art rfl ?_;have ak:0<hb a b:=Oq a ai;obtain⟨g,e⟩:∃g,g=hb a b:=⟨_,rfl⟩;rw[<-e]at ak⊢;have dc:=nU a g;have c9:=nU b g;obtain⟨x,ad⟩:∃x,x=a/g:=⟨_,rfl⟩;obtain⟨y,aQ⟩:∃x,x=b/g:=⟨_,rfl⟩;rw[<-ad]at dc;rw[<-aQ]at c9;rw[<-ad,<-aQ];refine .done (.mk _ (Ww a b h a6 af) ?_);rintro _ _ ⟨rfl,rfl⟩;rw[<-e];refine .mk (dI x) (λP w=>by rw[ad];exact Nm (by omega) (by omega)) ?_;refine .mk (dI y) (λP w=>by rw[aQ];exact Nm (by omega) (by omega)) ?_;refine .mk _ (aeJ x _ (by omega)) (λv ab q=>by rw[q.2];exact I.le_refl _) ?_;rintro _ _ ⟨rfl,rfl⟩;refine .mk _ (aeJ y _ (by omega)) (λv ab q=>by rw[q.2];exact I.le_refl _) ?_;rintro _ _ ⟨rfl,rfl⟩;exact .done ⟨rfl,I.le_refl _⟩
def aDO(n d:Nat):Bool:=decide (0<d)&&decide (hb n d=1)
theorem azB(n d:Nat)(h:I)(aC:n<9223372036854775808)(aB:d<9223372036854775808):Fn aH 190 #[xk n d] h λv U=>v= .bool (aDO n d)/\U=h:=by
 refine b5 arL rfl ?_;refine aW (λq=>?_) (λq=>?_);refine .mk _ (Bn n h (by omega)) (λv ab q=>by rw[q.2];exact I.le_refl _) ?_;rintro _ _ ⟨rfl,rfl⟩;refine .mk _ (Bn d _ (by omega)) (λv ab q=>by rw[q.2];exact I.le_refl _) ?_;rintro _ _ ⟨rfl,rfl⟩;refine .mk _ (Ww n d _ (by omega) (by omega)) (λv ab q=>by rw[q.2];exact I.le_refl _) ?_;rintro _ _ ⟨rfl,rfl⟩;refine .done ⟨?_,rfl⟩;show qB (decide ((hb n d:Int)=1))=_;rw[aDO,fo (show 0<d by omega),Bool.true_and];congr 1
 grind
 refine .done ⟨?_,rfl⟩;rw[aDO,gU (show¬0<d by omega),Bw];rfl
theorem alq(l:List (Nat×Nat)):∀r∈l.map (λp=>[R p.1,R p.2]),r.length=2:=by
 grind
theorem awG(A:Option ar)(m c:Nat)(l:List (Nat×Nat))(h:I)(av:bg h 2 A m (l.map λp=>[R (p.1:Nat),R (p.2:Nat)]))(hm:m<=1000)(af:∀p∈l,p.1<9223372036854775808/\p.2<9223372036854775808):Fn aH 154 #[.slice A m c] h λv U=>v= .bool (l.all λp=>aDO p.1 p.2)/\h.le U:=by
 have al:l.length=m:=by have:=av.len;grind
 refine b5 arv rfl ?_;refine .mk Nat [5,6,7] (λk=>[.v (.slice A m c),.v (R m),.v (R k)]) (λ_=>[]) (λk U=>h.le U/\k<=m/\∀p∈l.take k,aDO p.1 p.2=true) (λk=>m-k) 0 (λ_=>rfl) ⟨I.le_refl _,cO _,by simp⟩ rfl rfl ?_;rintro k e U ⟨le,hk,ah⟩;refine aW (λq=>?_) (λq=>?_);have br:k<l.length:=by omega
 obtain⟨g,ak⟩:=av.cc (by omega);have hp:=af l[k] (cS br);refine .m g ak ?_;refine .hp [R l[k].1,R l[k].2] rfl (by rw[bq];exact(av.mono le).row ak (iM br)) ?_;refine .done (.mk _ (azB l[k].1 l[k].2 _ hp.1 hp.2) ?_);rintro _ _ ⟨rfl,rfl⟩;cases Z1:aDO l[k].1 l[k].2;refine .done ⟨?_,le⟩;have:(l.all λp=>aDO p.1 p.2)=false:=List.all_eq_false.2 ⟨l[k],cS br,by grind⟩;rw[this];rfl;refine .aLS ?_;refine⟨k+1,rfl,rfl,⟨le,by omega,λp hp=>?_⟩,by omega⟩;rw[List.take_add_one,bZ br]at hp
 grind
 refine .done ⟨?_,le⟩;rw[k4 (by omega)]at ah;rw[List.all_eq_true.2 λp hp=>ah p hp];rfl
theorem adC{eD bL:Nat}{mV nK:Obj}(af:(h.put eD mV) bL=none):((h.put eD mV).put bL nK) eD=some mV:=by
 have:eD≠bL:=λe=>by rw[<-e,I.bP]at af;cases af
 rw[I.cf _ _ this,I.bP]
theorem kT{U:I}{b:Nat}{J:Obj}(af:h b=none)(le:h.le U):h.le (U.put b J):=λo p ae=>by
 have:o≠b:=λe=>by grind
 rw[I.cf _ _ this];exact le o p ae
theorem Sk{eD bL:Nat}{mV:Obj}(af:(h.put eD mV) bL=none):h bL=none:=by
 have:bL≠eD:=λe=>by rw[e,I.bP]at af;cases af
 rwa[I.cf _ _ this]at af
theorem aut(n d:Nat)(h:I)(aC:n<9223372036854775808)(aB:d<9223372036854775808)(ai:0<d):Fn aH 110 #[R n,R d] h λv U=>v= .tuple #[xk (n/hb n d) (d/hb n d),R 0]/\h.le U:=by
 refine agO.intro (args:=[R n,R d]) Fz Tryz.func110 rfl (by decide) Tryz.ntmps110 rfl (aqX.low rfl) rfl ?_;have ak:0<hb n d:=Oq n ai;obtain⟨x,ad⟩:∃x,x=n/hb n d:=⟨_,rfl⟩;obtain⟨y,aQ⟩:∃x,x=d/hb n d:=⟨_,rfl⟩;rw[<-ad,<-aQ];refine aW (λq=>by omega) (λq=>?_);refine .mk λeD rA=>?_;refine .mk λbL eS=>?_;refine⟨aoz _ _,?_⟩;have HJ:=Sk eS;refine .done (.mk _ (Bn n _ (by omega)) ?_);rintro _ _ ⟨rfl,rfl⟩;refine .done (.mk _ (Bn d _ (by omega)) ?_);rintro _ _ ⟨rfl,rfl⟩;refine .done (.mk _ (RZ n d _ aC aB ai) ?_);rintro _ an ⟨rfl,dZ⟩;rw[<-ad,<-aQ];have le:h.le an:=I.le_trans (I.le_trans (I.du rA) (I.du eS)) dZ;refine .hp eD 0 167 [R 0,R 0] [R x,R y] rfl (dZ _ _ (adC eS)) rfl ?_;refine .hp bL 0 51 [R 0] [R 0] rfl (by rw[I.cf _ _ (λe=>by rw[e,I.bP]at eS;cases eS)];exact dZ _ _ (I.bP _ _ _)) rfl ?_;have bH:eD≠bL:=λe=>by rw[<-e,I.bP]at eS;cases eS
 refine .hp [R x,R y] rfl (λo v ah=>by rw[add_lit,dJ];exact bN (by rw[I.cf _ _ bH,I.bP]) ah) ?_;refine .hp _ (bN (I.bP _ _ _) rfl) ?_;exact .done ⟨rfl,kT HJ (kT rA le)⟩
def rQ(p q:Nat×Nat):Option (Nat×Nat):=
 if pt (p.1/hb p.1 q.2) (q.1/hb q.1 p.2)&&pt (q.2/hb p.1 q.2) (p.2/hb q.1 p.2)then some (sU (p.1/hb p.1 q.2) (q.1/hb q.1 p.2),sU (q.2/hb p.1 q.2) (p.2/hb q.1 p.2))else none
theorem at6{n d:Nat}(aC:n<9223372036854775808)(aB:d<9223372036854775808):rQ (1,1) (n,d)=some (n,d):=by
 have h1:pt 1 n=true:=by simp[pt,ang aC];omega
 have ab:pt d 1=true:=by simp[pt,anh aB];omega
 simp[rQ,h1,ab,sU];omega
theorem aoA(x y:ao):Idle aH 155 #[x,y]:=by
 refine⟨⟨_,OJ,rfl,by decide⟩,λw=>?_⟩;refine Wd OJ rfl λEu cs hu=>?_;have am:Jc (Eu::cs)=none:=by simp[Jc,hu]
 apply JC;apply JB;simp[JA,go_sem,am,aic,Gy];apply JC;apply JB;simp[JA,go_sem,Gy];refine af1 (t:=false) (by rfl) ?_;refine af2 (wp_skip ?_);exact⟨rfl,_,by rw[<-hu],.tuple #[],by simp[results,aie],⟨_,rfl⟩,rfl,.refl w⟩
theorem zZ.mono{P:dW}{d:l9}{v:ao}{Q nt:I->Prop}(x:zZ P d v h Q)(y:∀U,Q U->nt U):zZ P d v h nt:=by
 obtain⟨g,cap,h1,ab,an⟩:=x;refine⟨g,cap,h1,ab,λw hw=>agq (an w hw) ?_⟩
 grind
theorem adV(eD bL:Nat)(gT:Array ao)(x y z:Int)(h:I)(lU:gT=#[R x,R y])(ai:h eD=some (.cells gT 167 (0,0)))(h1:h bL=some (.cells #[R z] 51 (0,0)))(bH:eD≠bL):zZ aH {target:=.fn (.func 155) #[.pointer (some ⟨eD,0,none⟩),.pointer (some ⟨bL,0,none⟩)],args:=#[]} (.iface 51 (.int .i64 4)) h λU=>U=(h.put eD (.cells #[R 0,R 0] 167 (0,0))).put bL (.cells #[R 4] 51 (0,0)):=by
 subst lU;refine⟨155,_,rfl,⟨_,OJ,rfl,by decide⟩,λw hw=>?_⟩;have Ct:=aaU.low (b:=_) rfl;refine Wd OJ rfl λEu cs hu=>?_;have am:Jc (Eu::cs)=some (.iface 51 (.int .i64 4),{Eu with mode:=.panicking [{v:=.iface 51 (.int .i64 4),recovered:=true}]}::cs):=by simp[Jc,hu]
 apply JC;apply JB;simp[JA,go_sem,am,aic,Gy];apply JC;apply JB;simp[JA,go_sem,Gy];injection Ct with _ Ct;injection Ct with _ Ct;injection Ct with _ Ct _;refine af1 (t:=true) (by rfl) ?_;simp only[la];refine af2 ?_;generalize gA:(#[aik (some ⟨eD,0,none⟩),aik (some ⟨bL,0,none⟩)]++((((Array.replicate 5 eU).setIfInBounds 1 (Value.iface 51 (.int .i64 4))).setIfInBounds 0 (.iface 51 (.int .i64 4))).setIfInBounds 2 (.iface 51 (.int .i64 4))).setIfInBounds 3 (.bool true))=T;have aj:T.size=7:=by grind
 have t0:T.getD 0 eU= .pointer (some ⟨eD,0,none⟩):=by simp[<-gA]
 have t1:T.getD 1 eU= .pointer (some ⟨bL,0,none⟩):=by simp[<-gA]
 obtain⟨bl,he⟩:∃bl:bY,bl=λt=>aA.v (T.getD t eU):=⟨_,rfl⟩;have azr:bl 0= .v (.pointer (some ⟨eD,0,none⟩)):=by grind
 have o0:bl 1= .v (.pointer (some ⟨bL,0,none⟩)):=by grind
 have cG:cJ 7 (λ_=>0) [] bl {tmps:=T,defers:=[]}:=⟨rfl,aj,λt=>by rw[he];rfl,λt=>by rw[he];trivial⟩;have cV:bl=h7 (h7 bl 1 (.v (.pointer (some ⟨bL,0,none⟩)))) 0 (.v (.pointer (some ⟨eD,0,none⟩))):=by rw[l8 o0,l8 azr]
 have m:cb h w (λ_=>0) [] h w:=⟨⟨hw,(λi l al=>by cases al)⟩,(λi l al=>by cases al),(λi o l b3 al=>by cases al),(λi l al=>by cases al),(λi l al=>by cases al),rfl,rfl,rfl,dd _,(λ_ _ _=>rfl),(λo ae=>.inl ae)⟩;have AF:c7 aH 7 (.ch aat) (λx _ _ U=>x= .normal/\U=(h.put eD (.cells #[R 0,R 0] 167 (0,0))).put bL (.cells #[R 4] 51 (0,0))) bl [] h:=by
  rw[cV];refine .hp eD 0 167 [R x,R y] [R 0,R 0] rfl ai rfl ?_;refine .hp bL 0 51 [R z] [R 4] rfl (by rw[I.cf _ _ (d9 bH)];exact h1) rfl ?_;exact⟨rfl,rfl⟩
 rw[<-show _=IR.ch aat from Ct]at AF;have am4:=Ns Fz _ _ _ _ _ _ _ _ m cG (λi cs ty ag=>by cases ag) AF;refine wK am4 ?_;rintro ex ey aZ ⟨β,e,L,U,bc,cT,ef,rfl,rfl⟩;exact⟨cT.defers,_,rfl,.tuple #[],by simp[results,aie],⟨_,rfl⟩,rfl,⟨bc.bR.hw,bc.os,bc.tape,bc.output,bc.size,bc.frame,bc.fresh⟩⟩
theorem at4(B:Nat)(dF d1 dR d2:Nat)(h:I)(bW:h B=some (.cells #[R dF,R d1,R dR,R d2] 167 (0,0)))(h1:dF<9223372036854775808)(ab:d1<9223372036854775808)(an:dR<9223372036854775808)(aR:d2<9223372036854775808):Fn aH 111 #[.slice (some ⟨B,0,none⟩) 2 2] h λv U=>h.le U/\v=if(aDO dF d1&&aDO dR d2)=true then(match rQ (dF,d1) (dR,d2)with|some r=>.tuple #[xk r.1 r.2,R 0]|none=>.tuple #[xk 0 0,R 4])else .tuple #[xk 0 0,R 1]:=by
 refine agP.intro (args:=[.slice (some ⟨B,0,none⟩) 2 2]) Fz Tryz.func111 rfl (by decide) Tryz.ntmps111 rfl (aqY.low rfl) rfl ?_;have av:bg h 2 (some ⟨B,0,none⟩) 2 ([(dF,d1),(dR,d2)].map λp:Nat×Nat=>[R (p.1:Nat),R (p.2:Nat)]):=by
  refine⟨rfl,alq _,λ_=>⟨_,rfl⟩,λg ak i r am o v ah=>?_⟩;injection ak with ak;subst ak;rw[add_lit,dJ];refine bN bW ?_
  grind
 have am:=awG _ _ 2 _ h av (by decide) (by grind);have aj0:=at6 h1 ab;refine .done (.mk _ am ?_);rintro _ cg ⟨rfl,fW⟩;have gv:([(dF,d1),(dR,d2)].all λp=>aDO p.1 p.2)=(aDO dF d1&&aDO dR d2):=by simp
 rw[gv];cases ah:(aDO dF d1&&aDO dR d2);exact .done ⟨fW,rfl⟩;have HN:0<d1:=by
  grind [aDO]
 have uY:0<d2:=by
  grind [aDO]
 refine .mk λeD rA=>?_;refine .mk λbL eS=>?_;refine⟨aoA _ _,?_⟩;have HJ:=Sk eS;have bH:eD≠bL:=λe=>by rw[<-e,I.bP]at eS;cases eS
 refine .hp eD 0 167 [R 0,R 0] [R 1,R 1] rfl (adC eS) rfl ?_;refine .mk (Nat×Nat×Nat) [2,3,14,15,16] (λ(i,_,_)=>[.p 0 0,.p 1 0,.v (.slice (some ⟨B,0,none⟩) 2 2),.v (R 2),.v (R i)]) (λ_=>[.bV eD,.bV bL]) (λ(i,a,b) U=>cg.le U/\U eD=some (.cells #[R a,R b] 167 (0,0))/\U bL=some (.cells #[R 0] 51 (0,0))/\((i=0/\a=1/\b=1)\/(i=1/\a=dF/\b=d1)\/(i=2/\rQ (dF,d1) (dR,d2)=some (a,b)))) (λ(i,_,_)=>2-i) (0,1,1) (λ_=>rfl) ⟨?_,I.bP _ _ _,?_,.inl ⟨rfl,rfl,rfl⟩⟩ rfl rfl ?_;exact kT rA (I.le_trans (I.du rA) (I.du eS));rw[I.cf _ _ (d9 bH),I.bP];rfl;rintro⟨i,a,b⟩ e fa ⟨hv,lU,ks,ag⟩;have gF:=I.le_trans fW hv;refine aW (λq=>?_) (λq=>?_)
 .obtain⟨n,d,a6,af,aC,aB,amq,Qy,jM,rH⟩:∃n d:Nat,a<9223372036854775808/\b<9223372036854775808/\n<9223372036854775808/\d<9223372036854775808/\0<b/\0<d/\(∀o v,[R n,R d][o]?=some v->fa.cell? (((ou B 0 none).add (i*2)).add o)=some v)/\((i=0/\rQ (a,b) (n,d)=some (dF,d1))\/(i=1/\rQ (a,b) (n,d)=rQ (dF,d1) (dR,d2))):=by
   rcases ag with⟨rfl,rfl,rfl⟩|⟨rfl,rfl,rfl⟩|⟨rfl,_⟩;exact⟨dF,d1,by decide,by decide,h1,ab,by decide,HN,λo v ae=>(av.mono gF).row rfl (i:=0) rfl o v ae,.inl ⟨rfl,aj0⟩⟩;exact⟨dR,d2,h1,ab,an,aR,HN,uY,λo v ae=>(av.mono gF).row rfl (i:=1) rfl o v ae,.inr ⟨rfl,rfl⟩⟩;omega
  obtain⟨h2,aJ⟩:∃x,x=a/hb a d:=⟨_,rfl⟩;obtain⟨hl,aI⟩:∃x,x=d/hb a d:=⟨_,rfl⟩;obtain⟨fk,ck⟩:∃x,x=n/hb n b:=⟨_,rfl⟩;obtain⟨aDA,eE⟩:∃x,x=b/hb n b:=⟨_,rfl⟩;have dc:h2<=a:=by rw[aJ];exact nU _ _
  have c9:hl<=d:=by rw[aI];exact nU _ _
  have ha:fk<=n:=by rw[ck];exact nU _ _
  have gm:aDA<=b:=by rw[eE];exact nU _ _
  have qF:rQ (a,b) (n,d)=if pt h2 fk&&pt hl aDA then some (sU h2 fk,sU hl aDA)else none:=by rw[aJ,aI,ck,eE];rfl
  refine .r ?_;refine .hp [R n,R d] rfl (by grind) ?_;refine .hp (R a) (bN lU rfl) ?_;refine .hp (R a) (bN lU rfl) ?_;refine⟨?_,?_⟩;all_goals refine .mk _ (Bn a _ (by omega)) (λv ab q=>by rw[q.2];exact I.le_refl _) ?_
  all_goals rintro _ _ ⟨rfl,rfl⟩
  all_goals conv=>whnf
  all_goals try refine⟨?_,?_⟩
  all_goals refine .mk _ (Bn d _ (by omega)) (λv ab q=>by rw[q.2];exact I.le_refl _) ?_
  all_goals rintro _ _ ⟨rfl,rfl⟩
  all_goals conv=>whnf
  all_goals try refine⟨?_,?_⟩
  all_goals refine .mk _ (RZ a d _ (by omega) (by omega) Qy) (λv ab q=>q.2) ?_
  all_goals rintro _ mi ⟨rfl,mv⟩
  all_goals rw[<-aJ,<-aI]
  all_goals conv=>whnf
  all_goals refine .hp (R b) (bN (mv _ _ lU) rfl) ?_
  all_goals conv=>whnf
  all_goals refine⟨?_,?_⟩
  all_goals refine .mk _ (Bn n _ (by omega)) (λv ab q=>by rw[q.2];exact I.le_refl _) ?_
  all_goals rintro _ _ ⟨rfl,rfl⟩
  all_goals conv=>whnf
  all_goals try refine⟨?_,?_⟩
  all_goals refine .mk _ (Bn b _ (by omega)) (λv ab q=>by rw[q.2];exact I.le_refl _) ?_
  all_goals rintro _ _ ⟨rfl,rfl⟩
  all_goals conv=>whnf
  all_goals try refine⟨?_,?_⟩
  all_goals refine .mk _ (RZ n b _ (by omega) (by omega) amq) (λv ab q=>q.2) ?_
  all_goals rintro _ pd ⟨rfl,qU⟩
  all_goals rw[<-ck,<-eE]
  all_goals conv=>whnf
  all_goals have O2:=qU _ _ (mv _ _ lU)
  all_goals have d8:=qU _ _ (mv _ _ ks)
  all_goals have vf:=I.le_trans hv (I.le_trans mv qU)
  all_goals by_cases f1:pt h2 fk=true
  all_goals first
   |(
    refine .go ?_
    refine .mk _ (afg h2 fk _ (by omega) (by omega) f1) (λv ab q=>by rw[q.2];exact I.le_refl _) ?_
    rintro _ _ ⟨rfl,rfl⟩
    by_cases f2:pt hl aDA=true
    refine .go ?_
    refine .mk _ (afg hl aDA _ (by omega) (by omega) f2) (λv ab q=>by rw[q.2];exact I.le_refl _) ?_
    rintro _ _ ⟨rfl,rfl⟩
    refine .hp eD 0 167 [R a,R b] [R (sU h2 fk),R (sU hl aDA)] rfl O2 rfl ?_
    refine .aLS ?_
    rw[f1,f2]at qF
    refine⟨(i+1,sU h2 fk,sU hl aDA),rfl,rfl,⟨kT rA vf,I.bP _ _ _,by rw[I.cf _ _ (d9 bH)];exact d8,?_⟩,by grind⟩
    grind
    have f2:pt hl aDA=false:=by grind
    refine .die 156 _ [R hl,R aDA] _ rfl rfl rfl (WH hl aDA _ (by omega) (by omega) f2) ?_
    intro bl tE
    have g2:bl 2= .p 0 0:=(tE 2 (by decide)).trans rfl
    have g3:bl 3= .p 1 0:=(tE 3 (by decide)).trans rfl
    rw[show bl=h7 (h7 bl 3 (.p 1 0)) 2 (.p 0 0) by rw[l8 g3,l8 g2]]
    refine⟨rfl,?_⟩
    refine zZ.mono (adV eD bL _ a b 0 _ rfl O2 d8 bH) ?_
    rintro _ rfl
    refine .hp [R 0,R 0] rfl (λo v ah=>by rw[add_lit,dJ];exact bN (by rw[I.cf _ _ bH,I.bP]) ah) ?_
    refine .hp (R 4) (bN (I.bP _ _ _) rfl) ?_
    refine .done ⟨I.le_trans fW (kT HJ (kT rA vf)),?_⟩
    rcases rH with⟨_,aP⟩|⟨_,aP⟩
    grind
    rw[qF,f2,Uk]at aP;rw[<-aP];rfl)
   |(
    have f1:pt h2 fk=false:=by grind
    refine .die 156 _ [R h2,R fk] _ rfl rfl rfl (WH h2 fk _ (by omega) (by omega) f1) ?_
    intro bl tE
    have g2:bl 2= .p 0 0:=(tE 2 (by decide)).trans rfl
    have g3:bl 3= .p 1 0:=(tE 3 (by decide)).trans rfl
    rw[show bl=h7 (h7 bl 3 (.p 1 0)) 2 (.p 0 0) by rw[l8 g3,l8 g2]]
    refine⟨rfl,?_⟩
    refine zZ.mono (adV eD bL _ a b 0 _ rfl O2 d8 bH) ?_
    rintro _ rfl
    refine .hp [R 0,R 0] rfl (λo v ah=>by rw[add_lit,dJ];exact bN (by rw[I.cf _ _ bH,I.bP]) ah) ?_
    refine .hp (R 4) (bN (I.bP _ _ _) rfl) ?_
    refine .done ⟨I.le_trans fW (kT HJ (kT rA vf)),?_⟩
    rcases rH with⟨_,aP⟩|⟨_,aP⟩
    grind
    rw[qF,f1,Bw]at aP;rw[<-aP];rfl)
 have:i=2/\rQ (dF,d1) (dR,d2)=some (a,b):=by
  grind
 obtain⟨rfl,rr⟩:=this;rw[rr];have abq:∀mi:I,mi eD=some (.cells #[R a,R b] 167 (0,0))->∀(o:Nat)(v:ao),[R a,R b][o]?=some v->mi.cell? ((ou eD 0 none).add o)=some v:=λmi aP o v ah=>by rw[add_lit,dJ];exact bN aP ah
 refine .hp [R a,R b] rfl (abq _ lU) ?_;refine .hp eD 0 167 [R a,R b] [R a,R b] rfl lU rfl ?_;refine .hp bL 0 51 [R 0] [R 0] rfl (by rw[I.cf _ _ (d9 bH)];exact ks) rfl ?_;refine .hp [R a,R b] rfl (abq _ (by rw[I.cf _ _ bH,I.bP])) ?_;refine .hp (R 0) (bN (I.bP _ _ _) rfl) ?_;exact .done ⟨I.le_trans fW (kT HJ (kT rA hv)),rfl⟩
def lk(p:Nat×Nat)(x y:Nat):(Nat×Nat)×Bool:=
 if aDO p.1 p.2&&aDO (x/hb x y) (y/hb x y)then(match rQ p (x/hb x y,y/hb x y)with
  |some m=>(m,decide (m.1<=4096)&&decide (m.2<=4096))
  |none=>((0,0),false))else((0,0),false)
def yb(p:Nat×Nat):Prop:=p.1<9223372036854775808/\p.2<9223372036854775808
theorem at5{q m:Nat×Nat}(h:rQ p q=some m):yb m:=by
 unfold rQ at h;split at h;rename_i az;simp[pt]at az;injection h with h;subst h;unfold sU yb;omega
 grind
theorem ayx(p:Nat×Nat)(x y:Nat):yb (lk p x y).1:=by
 unfold lk;split;split;rename_i h;exact at5 h;exact⟨by decide,by decide⟩;exact⟨by decide,by decide⟩
theorem ayy(h:(lk p x y).2=true):(lk p x y).1.1<=4096/\(lk p x y).1.2<=4096:=by
 unfold lk at h⊢
 grind
theorem afi(h:(lk p x y).2=true)(h1:p.1<=4096)(ab:p.2<=4096)(aQ:y<=64):0<(lk p x y).1.2:=by
 unfold lk at h⊢;split;rename_i ah;rw[aX ah]at h;simp only[fY,aDO,sh]at ah;obtain⟨⟨hp,_⟩,aq,_⟩:=ah;split;rename_i m hm;unfold rQ at hm;split at hm;injection hm with hm;subst hm;simp only at aq⊢;have g1:0<y/hb x y/hb p.1 (y/hb x y):=ahD (ahF _ aq) (Oq _ aq);have g2:0<p.2/hb (x/hb x y) p.2:=ahD (ahF _ hp) (Oq _ hp);have o0:y/hb x y/hb p.1 (y/hb x y)<=64:=hT (nU _ _) (hT (nU _ _) aQ);have hI:p.2/hb (x/hb x y) p.2<=4096:=hT (nU _ _) ab;unfold sU;generalize y/hb x y/hb p.1 (y/hb x y)=c at g1 o0⊢;generalize p.2/hb (x/hb x y) p.2=d at g2 hI⊢;have:=ns o0 hI;have:=ahM g1 g2;omega
 grind
 grind
 grind
theorem afh(p:Nat×Nat)(x y:Nat)(h:I)(hp:yb p)(ad:x<=64)(aQ:y<=64)(C4:0<y):Fn aH 49 #[xk p.1 p.2,R x,R y] h λv U=>h.le U/\v= .tuple #[xk (lk p x y).1.1 (lk p x y).1.2,.bool (lk p x y).2]:=by
 obtain⟨n,d⟩:=p;obtain⟨h1,ab⟩:=hp;simp only at h1 ab;refine b5 asi rfl ?_;obtain⟨fv,aJ⟩:∃z,z=x/hb x y:=⟨_,rfl⟩;obtain⟨dU,aI⟩:∃z,z=y/hb x y:=⟨_,rfl⟩;have dc:fv<=x:=by rw[aJ];exact nU _ _
 have c9:dU<=y:=by rw[aI];exact nU _ _
 have iY:lk (n,d) x y=if aDO n d&&aDO fv dU then(match rQ (n,d) (fv,dU)with
  |some m=>(m,decide (m.1<=4096)&&decide (m.2<=4096))
  |none=>((0,0),false))else((0,0),false):=by
  rw[lk,<-aJ,<-aI]
 rw[iY];refine .done (.mk _ (aut x y h (by omega) (by omega) C4) ?_);rintro _ a6 ⟨rfl,atd⟩;rw[<-aJ,<-aI];refine .mk λB bW=>?_;refine .done (.mk _ (at4 B n d fv dU _ (I.bP _ _ _) h1 ab (by omega) (by omega)) ?_);rintro _ af ⟨ate,rfl⟩;have le:h.le af:=I.le_trans atd (I.le_trans (I.du bW) ate);cases ah:(aDO n d&&aDO fv dU)
 .refine⟨?_,?_⟩;all_goals conv=>whnf
  all_goals exact .done ⟨le,rfl⟩
 cases hm:rQ (n,d) (fv,dU)with
 |none=>
  refine⟨?_,?_⟩;all_goals conv=>whnf
  all_goals exact .done ⟨le,rfl⟩
 |some m=>
  obtain⟨m1,m2⟩:=m;refine aW (λq=>?_) (λq=>?_);all_goals conv=>whnf
  all_goals refine⟨?_,?_⟩
  all_goals conv=>whnf
  all_goals refine .done ⟨le,?_⟩
  all_goals have Y6:decide ((m2:Int)<=4096)=decide (m2<=4096):=decide_eq_decide.2 (by omega)
  all_goals simp only[la]
  show vU #[xk m1 m2,.bool (decide ((m2:Int)<=4096))]=_
  grind
  show vU #[xk m1 m2,.bool (decide ((m2:Int)<=4096))]=_
  grind
  rw[gU (show¬m1<=4096 by omega),Bw];rfl;rw[gU (show¬m1<=4096 by omega),Bw];rfl
def Cf(up:List Nat):Nat->Nat->Nat
 |0,v=>v
 |f+1,v=>if up.getD v v=v then v else Cf up f (up.getD v v)
def jU(up:List Nat)(v:Nat):Nat:=Cf up (v+1) v
structure w6(N:Nat)(up:List Nat):Prop where
 len:up.length=N
 le:∀v,up.getD v v<=v
theorem akR{up:List Nat}(ok:w6 N up):∀(v f n2:Nat),v<f->v<n2->Cf up f v=Cf up n2 v:=by
 intro v;induction v using Ot with
 |_ v bE=>
  intro f n2 h1 ab;obtain⟨f,rfl⟩:∃k,f=k+1:=⟨f-1,by omega⟩;obtain⟨n2,rfl⟩:∃k,n2=k+1:=⟨n2-1,by omega⟩;unfold Cf;split;rfl;rename_i bH;have:=ok.le v
  grind
theorem KQ{up:List Nat}(ok:w6 N up)(h:up.getD v v≠v):jU up (up.getD v v)=jU up v:=by
 have:=ok.le v;unfold jU;conv=>rhs;unfold Cf
 rw[aE h];exact akR ok _ _ _ (by omega) (by omega)
theorem Hl{up:List Nat}(h:up.getD v v=v):jU up v=v:=by
 unfold jU Cf
 grind
theorem PI{up:List Nat}(ok:w6 N up):∀v,jU up v<=v:=by
 intro v;induction v using Ot with
 |_ v bE=>
  by_cases h:up.getD v v=v;rw[Hl h];omega;have:=ok.le v;rw[<-KQ ok h]
  grind
theorem PE(tp g N:Nat)(up:List Nat)(v:Nat)(h:I)(La:h tp=some (.cells #[.slice (some ⟨g,0,none⟩) N N] 27 (0,0)))(ak:h g=some (.cells (up.map λz:Nat=>R (z:Int)).toArray 3 (0,0)))(ok:w6 N up)(ah:v<N):Fn aH 107 #[R v,.pointer (some ⟨tp,0,none⟩)] h λr U=>r=R (jU up v)/\U=h:=by
 refine b5 aqU rfl ?_;refine .mk Nat [0,1] (λx=>[.v (R x),.v (.pointer (some ⟨tp,0,none⟩))]) (λ_=>[]) (λx U=>U=h/\x<=v/\jU up x=jU up v) (λx=>x) v (λ_=>rfl) ⟨rfl,dd _,rfl⟩ rfl rfl ?_;rintro x e U ⟨rfl,ad,am⟩;have sE:x<up.length:=by grind [ok.len]
 have aw:U.cell? ((ou g 0 none).add (x*1))=some (R (up.getD x x)):=by
  rw[add_lit,dJ,ew];exact bN ak (by grind)
 have cu:=ok.le x;have iD:=KQ ok (v:=x);have xz:=Hl (up:=up) (v:=x);generalize up.getD x x=y at aw cu iD xz;refine .hp _ (bN La rfl) ?_;refine .r ?_;refine .hp _ (by rw[bq];exact aw) ?_;refine aW (λq=>?_) (λq=>?_);refine .hp _ (bN La rfl) ?_;refine .r ?_;refine .hp _ (by rw[bq];exact aw) ?_;exact⟨y,rfl,rfl,⟨rfl,by omega,by omega⟩,by omega⟩;exact .done ⟨by rw[<-am,xz (by omega)];rfl,rfl⟩
def DF(aDC:List Nat×List Nat)(i:Nat)(a:bo):List Nat×List Nat:=
 if jU aDC.1 a.src.toNat=jU aDC.1 a.dst.toNat then aDC else(aDC.1.set (max (jU aDC.1 a.src.toNat) (jU aDC.1 a.dst.toNat)) (min (jU aDC.1 a.src.toNat) (jU aDC.1 a.dst.toNat)),aDC.2++[i])
def gb(N:Nat)(aa:List bo):Nat->List Nat×List Nat
 |0=>(aDB N,[])
 |k+1=>match aa[k]?with
  |some a=>DF (gb N aa k) k a
  |none=>gb N aa k
def ep(N:Nat)(aa:List bo):List Nat:=(gb N aa aa.length).2
def aDD(N:Nat)(aa:List bo):List Nat:=(aDB N).map (jU (gb N aa aa.length).1)
theorem w6.set{N:Nat}{up:List Nat}(ok:w6 N up){i o:Nat}(h:o<=i):w6 N (up.set i o):=by
 refine⟨by simp[ok.len],λv=>?_⟩;rw[cN,zT];split;rename_i e;subst e;split;exact h;exact dd _;rw[<-cN];exact ok.le v
theorem azA(N:Nat):w6 N (aDB N):=by
 refine⟨by simp,λv=>?_⟩;rw[cN];by_cases h:v<N;rw[J0 h];exact dd _;rw[qs (by simpa using h)];exact dd _
theorem Hr(N:Nat)(aa:List bo):∀k,w6 N (gb N aa k).1
 |0=>azA N
 |k+1=>by
  have bE:=Hr N aa k;unfold gb;split;unfold DF;split;exact bE;exact bE.set (by omega);exact bE
theorem KW(N:Nat)(aa:List bo):∀k,(gb N aa k).2.length<=k
 |0=>by simp[gb]
 |k+1=>by
  have bE:=KW N aa k;unfold gb;split;unfold DF;split;omega;simp;omega;omega
def agQ(h:I)(N:Nat)(aa:List bo)(v:ao)(U:I):Prop:=
 h.le U/\(e' N aa≠0->v= .tuple #[.agg #[.slice none 0 0,.slice none 0 0],R (e' N aa)])/\
  (e' N aa=0->∃T c H,v= .tuple #[.agg #[.slice T (ep N aa).length c,.slice (some H) N N],R 0]/\bg U 1 T (ep N aa).length ((ep N aa).map λz:Nat=>[R (z:Int)])/\bg U 1 (some H) N ((aDD N aa).map λz:Nat=>[R (z:Int)]))
def qI(f:Nat->ao)(z:ao)(m k:Nat):List ao:=(aDB k).map f++bG (m-k) z
theorem XN(h:k<=m):(qI f z m k).length=m:=by simp[qI];omega
theorem XO(h:k<m):(qI f z m k).set k (f k)=qI f z m (k+1):=by
 unfold qI;rw[List.set_append_right _ _ (by simp),List.length_map,List.length_range,Nat.sub_self,List.range_succ,fm,List.append_assoc];congr 1;rw[show m-k=(m- (k+1))+1 by omega,List.replicate_succ];rfl
theorem XM:qI f z m m=(aDB m).map f:=by simp[qI]
theorem bz.acJ{n c:Nat}{A:Option ar}{l:List Nat}(x:bz h 3 1 A n c (l.map λz:Nat=>R (z:Int))):bg h 1 A n (l.map λz:Nat=>[R (z:Int)]):=by
 have:=x.dr;rw[lo]at this;exact this
theorem acR(N n cx:Nat)(A:Option ar)(aa:List bo)(h:I)(av:bg h 5 A n (aa.map bo.cells))(aC:n<=9223372036854775806):Fn aH 46 #[my N A n cx] h λv U=>agQ h N aa v U:=by
 have al:aa.length=n:=by simpa using av.len
 refine b5 asf rfl ?_;refine .done (.mk _ (Kq N A n cx aa h av aC) ?_);rintro _ _ ⟨rfl,rfl⟩;refine aW (λq=>?_) (λq=>?_);exact .done ⟨I.le_refl _,λ_=>rfl,λe=>absurd e q⟩;have aj:e' N aa=0:=jw.1 q;obtain⟨HF,uW,wo,dk⟩:=lO aj;refine .one N (R 0) rfl rfl rfl rfl (by omega) (by omega) λez=>?_;refine .mk Nat [1,2,5,24,25] (λk=>[.p 0 0,.p 1 0,.p 3 0,.v (R N),.v (R k)]) (λk=>[.own [.v (R N),.v (.slice A n cx)] 33,.own [.v (.slice none 0 0),.v (.slice none 0 0)] 159,.row 3 1 (some ez) N N (sW N k),.own [.v (.slice (some ez) N N)] 27]) (λk U=>U=_/\k<=N) (λk=>N-k) 0 (λ_=>rfl) ⟨rfl,cO _⟩ rfl (by simp[sW,R]) ?_;rintro k e h1 ⟨rfl,hk⟩;refine aW (λaM=>?_) (λaM=>?_);have br:k<N:=by omega
 refine .m ez rfl ?_;refine .row 2 3 1 ez N N (sW N k) (sW N (k+1)) k rfl (by rw[bq,ew]) (by rw[ib _ _ _ (by rw[ada hk];exact br),adb br]) ?_;refine .aLS ?_;exact⟨k+1,rfl,rfl,⟨rfl,br⟩,by show N- (k+1)<N-k;omega⟩;have yW:N=k:=by omega
 subst yW;refine .mk λtp La=>?_;refine .one N (R 0) rfl rfl rfl rfl (by omega) (by omega) λAx=>?_;refine .lj (.bV 2 3 1 (some ez) N N (sW N N) rfl λab cn Tb f2=>.abs 3 1 none 0 0 [] ⟨rfl,.inl ⟨rfl,rfl,rfl⟩⟩ (.done ?_));obtain⟨_,Tb|⟨wg,a8,rD,jK,_,_,fg,nj⟩⟩:=Tb;cases Tb.1;injection rD with rD;subst rD;have amN:a8=((gb N aa 0).1.map λz:Nat=>R (z:Int)).toArray:=by
  rw[k4 (by simp[fg])]at nj;rw[<-ov (xs:=a8),nj];simp[sW,gb]
 have E3:h1 wg=none:=by
  have:=f2 _ rfl;simp only at this;exact Sk this
 have Q0:wg≠tp:=λe=>by
  have:=f2 _ rfl;simp only at this;rw[e,I.bP]at this;cases this
 obtain⟨bW,Yy⟩:∃bW:Nat->I,bW=λk=>ab.put wg (.cells ((gb N aa k).1.map λz:Nat=>R (z:Int)).toArray 3 (0,0)):=⟨_,rfl⟩;have EN:∀k,bW k=ab.put wg (.cells ((gb N aa k).1.map λz:Nat=>R (z:Int)).toArray 3 (0,0)):=λk=>by rw[Yy]
 clear Yy;have Yx:ab=bW 0:=by rw[EN];exact(I.rW (by rw[jK,amN])).symm
 have Cv:∀k,bW k tp=some (.cells #[.slice (some ⟨wg,0,none⟩) N N] 27 (0,0)):=λk=>by
  rw[EN,I.cf _ _ (d9 Q0)];exact cn _ _ (I.bP _ _ _)
 have yQ:∀k,bW k wg=some (.cells ((gb N aa k).1.map λz:Nat=>R (z:Int)).toArray 3 (0,0)):=λk=>by rw[EN];exact I.bP _ _ _
 have HA:∀k,h1.le (bW k):=λk=>by
  rw[EN];exact kT E3 (I.le_trans (I.du La) cn)
 have Yz:∀k u,u=(gb N aa (k+1)).1->(bW k).put wg (.cells (u.map λz:Nat=>R (z:Int)).toArray 3 (0,0))=bW (k+1):=λk u hu=>by
  rw[EN,EN,hu];funext o;unfold I.put;split<;>rfl
 refine .mk (Nat×Option ar×Nat) [2,5,7,8,39,40,41] (λ(k,_,_)=>[.p 1 0,.p 3 0,.v (.func (.func 107) #[] #[.pointer (some ⟨tp,0,none⟩)]),.p 5 0,.v (.slice A n cx),.v (R n),.v (R k)]) (λ(k,T,c)=>[.own [.v (R N),.v (.slice A n cx)] 33,.own [.v (.slice none 0 0),.v (.slice none 0 0)] 159,.gone,.bV tp,.row 3 1 (some Ax) N N (bG N (R 0)),.own [.v (.slice T (gb N aa k).2.length c),.v (.slice (some Ax) N N)] 159,.row 3 1 T (gb N aa k).2.length c ((gb N aa k).2.map λz:Nat=>R (z:Int))]) (λ(k,_,_) U=>U=bW k/\k<=n) (λ(k,_,_)=>n-k) (0,none,0) (λ_=>rfl) ⟨Yx,cO _⟩ rfl rfl ?_;rintro⟨k,T,c⟩ aI an ⟨rfl,E8⟩;have rJ:=Hr N aa k;refine aW (λaD=>?_) (λaD=>?_);have br:k<aa.length:=by omega
 have tK:=dk aa[k] (cS br);obtain⟨g,ak⟩:=av.cc (by omega);refine .m g ak ?_;refine .hp aa[k].cells rfl (by rw[bq];exact(av.mono (HA k)).row ak (iM br)) ?_;obtain⟨fq,s1,d0,d1,_⟩:=vl tK;have a':=PE tp wg N (gb N aa k).1 aa[k].src.toNat (bW k) (Cv k) (yQ k) rJ (by omega);have fd:=PE tp wg N (gb N aa k).1 aa[k].dst.toNat (bW k) (Cv k) (yQ k) rJ (by omega);have ls:=PI rJ aa[k].src.toNat;have ld:=PI rJ aa[k].dst.toNat;rw[q' fq]at a';rw[q' d0]at fd;have oI:gb N aa (k+1)=DF (gb N aa k) k aa[k]:=by rw[gb,bZ br]
 unfold DF at oI;generalize rK:jU (gb N aa k).1 aa[k].src.toNat=xs at a' ls oI;generalize aBu:jU (gb N aa k).1 aa[k].dst.toNat=wL at fd ld oI;refine .mk _ a' (λv ab q=>by rw[q.2];exact I.le_refl _) ?_;rintro _ _ ⟨rfl,rfl⟩;refine .done (.mk _ fd ?_);rintro _ _ ⟨rfl,aP⟩;subst aP;refine aW (λbj=>?_) (λbj=>?_);have bH:¬xs=wL:=by omega
 rw[aE bH]at oI;have gA:=KW N aa k;refine .done (.cR 6 _ [R k] rfl rfl (by simp[Aa,R]) (by simp[c'];omega) (by omega) λah' bu aAZ=>?_);refine .hp _ (bN (Cv k) rfl) ?_;conv=>whnf
 have ZG:max (xs:Int) wL=((max xs wL:Nat):Int):=by omega
 have anK:min (xs:Int) wL=((min xs wL:Nat):Int):=by omega
 rw[ZG,anK];refine .r ?_;refine .hp wg (max xs wL) 3 ((gb N aa k).1.map λz:Nat=>R (z:Int)) (((gb N aa k).1.set (max xs wL) (min xs wL)).map λz:Nat=>R (z:Int)) (by rw[add_lit,dJ,bq,ew]) (yQ k) (by rw[ib _ _ _ (by simp[rJ.len];omega),nb];rfl) ?_;refine .aLS ?_;have aJ:(gb N aa (k+1)).1=(gb N aa k).1.set (max xs wL) (min xs wL):=by rw[oI]
 have aI:(gb N aa (k+1)).2=(gb N aa k).2++[k]:=by rw[oI]
 refine⟨(k+1,ah',bu),?_,?_,⟨Yz k _ aJ.symm,by omega⟩,by show n- (k+1)<n-k;omega⟩;rfl;simp only[aI];simp;have bH:xs=wL:=by omega
 rw[aX bH]at oI;refine .aLS ?_;refine⟨(k+1,T,c),rfl,?_,⟨?_,by omega⟩,by show n- (k+1)<n-k;omega⟩;simp only[oI];rfl;rw[<-Yz k (gb N aa k).1 (by rw[oI]),I.rW (yQ k)];have oN:aa.length=k:=by omega
 subst oN;obtain⟨up,K4⟩:∃u,u=(gb N aa aa.length).1:=⟨_,rfl⟩;have Cv:=Cv aa.length;have yQ:=yQ aa.length;have HA:=HA aa.length;rw[<-K4]at rJ yQ;generalize bW aa.length=eC at Cv yQ HA;have aj4:bG N (R 0)=qI (λz=>R (jU up z:Nat)) (R 0) N 0:=by simp[qI]
 refine .mk Nat [2,7,8,74,75] (λo=>[.p 1 0,.v (.func (.func 107) #[] #[.pointer (some ⟨tp,0,none⟩)]),.p 5 0,.v (R N),.v (R o)]) (λo=>[.own [.v (R N),.v (.slice A n cx)] 33,.own [.v (.slice none 0 0),.v (.slice none 0 0)] 159,.gone,.bV tp,.row 3 1 (some Ax) N N (qI (λz=>R (jU up z:Nat)) (R 0) N o),.own [.v (.slice T (ep N aa).length c),.v (.slice (some Ax) N N)] 159,.row 3 1 T (ep N aa).length c ((ep N aa).map λz:Nat=>R (z:Int))]) (λo U=>U=eC/\o<=N) (λo=>N-o) 0 (λ_=>rfl) ⟨rfl,cO _⟩ rfl (by simp only[aj4];rfl) ?_;rintro o ck an ⟨rfl,ae⟩;refine aW (λbj=>?_) (λbj=>?_);have en:o<N:=by omega
 refine .mk _ (PE tp wg N up o _ Cv yQ rJ en) (λv ab q=>by rw[q.2];exact I.le_refl _) ?_;rintro _ _ ⟨rfl,aP⟩;subst aP;refine .m Ax rfl ?_;refine .row 4 3 1 Ax N N _ (qI (λz=>R (jU up z:Nat)) (R 0) N (o+1)) o rfl (by rw[bq,ew]) (by rw[ib _ _ _ (by rw[XN ae];exact en)];exact ho some (XO en)) ?_;refine .aLS ?_;exact⟨o+1,rfl,rfl,⟨rfl,en⟩,by show N- (o+1)<N-o;omega⟩;have anq:N=o:=by omega
 subst anq;rw[XM];refine .bV 4 3 1 (some Ax) N N _ rfl λcg fW mA f5=>.bV 6 3 1 T (ep N aa).length c _ rfl λfa hv pz f6=>.done ⟨I.le_trans HA (I.le_trans fW hv),λe=>absurd aj e,λ_=>⟨T,c,Ax,?_,?_,?_⟩⟩;rfl;exact pz.acJ;rw[aDD,<-K4];have:=(mA.mono hv).dr;rw[lo]at this;rw[lo];exact this
def mD(p:Int×Bool):List ao:=[R p.1,.bool p.2]
structure OB(h:I)(hP jC off cap:Nat)(a8:List ao)(e6:List Nat):Prop where
 box:h hP=some (.cells #[.slice (some ⟨jC,off,none⟩) e6.length cap] 27 (0,0))
 n0:h jC=some (.cells a8.toArray 3 (0,0))
 abn:e6.length<=cap
 room:off+cap<=a8.length
 at_:∀o u,(e6.map λz:Nat=>R (z:Int))[o]?=some u->a8[off+o]?=some u
structure vP(N lJ lK kK hP gd lR e4:Nat)(ai h:I)(dg:List Bool)(gq e6:List Nat):Prop where
 eR:h lJ=some (.cells #[.slice (some ⟨gd,0,none⟩) N N] 193 (0,0))
 db:h lK=some (.cells #[.slice (some ⟨lR,0,none⟩) N N] 78 (0,0))
 gA:h kK=some (.cells #[.slice (some ⟨e4,0,none⟩) N N] 27 (0,0))
 rX:h gd=some (.cells (dg.map qB).toArray 4 (0,0))
 nP:∃kx:List (Int×Bool),kx.length=N/\h lR=some (.cells (kx.map mD).flatten.toArray 173 (0,0))
 s0:h e4=some (.cells (gq.map λz:Nat=>R (z:Int)).toArray 3 (0,0))
 xH:dg.length=N
 cB:gq.length=N
 q:∃jC off cap a8,OB h hP jC off cap a8 e6/\jC≠e4/\ai jC=none
 Kj:kK≠hP
 le:ai.le h
 Cd:ai gd=none
 sk:ai lR=none
 iZ:ai e4=none
 Ce:ai hP=none
theorem lh{a b:Nat}{x y:Array ao}{t:Nat}(a6:h a=some (.cells x t (0,0)))(af:h b=some (.cells y u (0,0)))(bH:t≠u):a≠b:=λe=>by
 rw[e,af]at a6;injection a6 with a6;injection a6 with _ a6;exact bH a6.symm
theorem ax0(l:List (Int×Bool)):∀(i:Nat)(p:Int×Bool),i<l.length->over (l.map mD).flatten (i*2) (mD p)=some ((l.set i p).map mD).flatten:=by
 induction l with
 |nil=>intro i p h;simp at h
 |cons a l bE=>
  intro i p h;cases i with
  |zero=>
   rw[D0];show over (R a.1:: .bool a.2::(l.map mD).flatten) 0 [R p.1,.bool p.2]=_;simp[over,mD]
  |succ i=>
   have U:=bE i p (by simpa using h);rw[BQ];show over (R a.1:: .bool a.2::(l.map mD).flatten) (i*2+2) (mD p)=_;simp only[over,U];simp[mD]
def vj(dg:List Bool)(u:Nat):List Bool:=if dg.getD u false=true then dg else dg.set u true
def zk(dg:List Bool)(gq:List Nat)(u b:Nat):List Nat:=if dg.getD u false=true then gq else gq.set u b
def xK(dg:List Bool)(e6:List Nat)(u:Nat):List Nat:=if dg.getD u false=true then e6 else e6++[u]
theorem abz(N lJ lK kK hP gd lR e4 u b:Nat)(z:Int)(t:Bool)(ai h:I)(dg:List Bool)(gq e6:List Nat)(p:vP N lJ lK kK hP gd lR e4 ai h dg gq e6)(hu:u<N)(hw:e6.length<=1000):Fn aH 112 #[R u,R b,.agg #[R z,.bool t],.pointer (some ⟨lJ,0,none⟩),.pointer (some ⟨lK,0,none⟩),.pointer (some ⟨kK,0,none⟩),.pointer (some ⟨hP,0,none⟩)] h λ_ U=>vP N lJ lK kK hP gd lR e4 ai U (vj dg u) (zk dg gq u b) (xK dg e6 u):=by
 refine b5 aqZ rfl ?_;have AI:u<dg.length:=by rw[p.xH];exact hu
 have aw:h.cell? ((ou gd 0 none).add (u*1))=some (.bool (dg.getD u false)):=by
  rw[add_lit,dJ,ew];exact bN p.rX (by rw[dV,bZ AI,cN,bZ AI];rfl)
 refine .hp _ (bN p.eR rfl) ?_;refine .r ?_;refine .hp _ (by rw[bq];exact aw) ?_;cases hk:dg.getD u false
 .obtain⟨kx,CL,sA⟩:=p.nP;obtain⟨jC,off,cap,a8,Q,AC,Hw⟩:=p.q;have acf:=lh p.rX sA (by decide);have acg:=lh p.rX p.s0 (by decide);have acl:=lh sA p.s0 (by decide);have aci:=lh p.rX p.db (by decide);have acj:=lh p.rX p.gA (by decide);have ack:=lh p.rX Q.box (by decide);have at9:=lh p.rX p.eR (by decide);have ach:=lh p.rX Q.n0 (by decide);have aub:=lh sA p.db (by decide);have acn:=lh sA p.gA (by decide);have aco:=lh sA Q.box (by decide);have aua:=lh sA p.eR (by decide);have acm:=lh sA Q.n0 (by decide);have aue:=lh p.s0 p.db (by decide);have auf:=lh p.s0 p.gA (by decide);have acp:=lh p.s0 Q.box (by decide);have aud:=lh p.s0 p.eR (by decide);obtain⟨aO,gv⟩:∃q,q=h.put gd (.cells ((dg.set u true).map qB).toArray 4 (0,0)):=⟨_,rfl⟩;obtain⟨bW,sj⟩:∃q,q=aO.put lR (.cells (((kx.set u (z,t)).map mD).flatten).toArray 173 (0,0)):=⟨_,rfl⟩;obtain⟨hC,wa⟩:∃q,q=bW.put e4 (.cells ((gq.set u b).map λz:Nat=>R (z:Int)).toArray 3 (0,0)):=⟨_,rfl⟩;have G2:aO lK=some (.cells #[.slice (some ⟨lR,0,none⟩) N N] 78 (0,0)):=by rw[gv,I.cf _ _ (d9 aci)];exact p.db
  have Ac:aO kK=some (.cells #[.slice (some ⟨e4,0,none⟩) N N] 27 (0,0)):=by rw[gv,I.cf _ _ (d9 acj)];exact p.gA
  have aiX:bW kK=some (.cells #[.slice (some ⟨e4,0,none⟩) N N] 27 (0,0)):=by rw[sj,I.cf _ _ (d9 acn)];exact Ac
  have aiJ:aO lR=some (.cells (kx.map mD).flatten.toArray 173 (0,0)):=by rw[gv,I.cf _ _ (d9 acf)];exact sA
  have ai1:bW e4=some (.cells (gq.map λz:Nat=>R (z:Int)).toArray 3 (0,0)):=by rw[sj,I.cf _ _ (d9 acl),gv,I.cf _ _ (d9 acg)];exact p.s0
  have yC:hC hP=some (.cells #[.slice (some ⟨jC,off,none⟩) e6.length cap] 27 (0,0)):=by rw[wa,I.cf _ _ (d9 acp),sj,I.cf _ _ (d9 aco),gv,I.cf _ _ (d9 ack)];exact Q.box
  refine .hp _ (bN p.eR rfl) ?_;refine .r ?_;have Sn:over (dg.map qB) u [.bool true]=some ((dg.set u true).map qB):=by rw[ib _ _ _ (by simpa using AI),nb]
  have So:over (kx.map mD).flatten (u*2) [R z,.bool t]=some ((kx.set u (z,t)).map mD).flatten:=ax0 kx u (z,t) (by omega);have Sp:over (gq.map λz:Nat=>R (z:Int)) u [R b]=some ((gq.set u b).map λz:Nat=>R (z:Int)):=by rw[ib _ _ _ (by simp[p.cB];exact hu),nb]
  have cc:∀g k,(ou g 0 none).add ((u:Int).toNat*k)=⟨g,u*k,none⟩:=λg k=>by rw[add_lit,dJ,bq]
  have ajj:hC jC=some (.cells a8.toArray 3 (0,0)):=by rw[wa,I.cf _ _ AC,sj,I.cf _ _ (d9 acm),gv,I.cf _ _ (d9 ach)];exact Q.n0
  have acq:=lh Q.n0 Q.box (by decide);have HB:∀o J,o≠gd->o≠lR->o≠e4->h o=some J->hC o=some J:=λo J C9 AY Rs ae=>by
   rw[wa,I.cf _ _ Rs,sj,I.cf _ _ AY,gv,I.cf _ _ C9];exact ae
  have fin:∀bm:I,(∃PS Mw c4 WB,OB bm hP PS Mw c4 WB (e6++[u])/\PS≠e4/\ai PS=none)->(∀o J,o≠hP->o≠jC->hC o=some J->bm o=some J)->vP N lJ lK kK hP gd lR e4 ai bm (vj dg u) (zk dg gq u b) (xK dg e6 u):=λbm aq br=>by
   have ve:dg.getD u false≠true:=by rw[hk];decide
   rw[vj,zk,xK,aE ve,aE ve,aE ve];have PT:∀o ty cs,h o=some (.cells cs ty (0,0))->ty≠3->o≠jC:=λo ty cs ae bH=>lh ae Q.n0 bH;refine⟨br _ _ (lh p.eR Q.box (by decide)) (PT _ _ _ p.eR (by decide)) (HB _ _ (d9 at9) (d9 aua) (d9 aud) p.eR),br _ _ (lh p.db Q.box (by decide)) (PT _ _ _ p.db (by decide)) (HB _ _ (d9 aci) (d9 aub) (d9 aue) p.db),br _ _ p.Kj (PT _ _ _ p.gA (by decide)) (HB _ _ (d9 acj) (d9 acn) (d9 auf) p.gA),br _ _ ack ach ?_,⟨kx.set u (z,t),by simp[CL],br _ _ aco acm ?_⟩,br _ _ acp (d9 AC) ?_,by simp[p.xH],by simp[p.cB],aq,p.Kj,λo J ae=>?_,p.Cd,p.sk,p.iZ,p.Ce⟩;rw[wa,I.cf _ _ acg,sj,I.cf _ _ acf,gv,I.bP];rw[wa,I.cf _ _ acl,sj,I.bP];rw[wa,I.bP];have bH:∀{x:Nat},ai x=none->o≠x:=λad e=>by rw[e,ad]at ae;cases ae
   exact br _ _ (bH p.Ce) (bH Hw) (HB _ _ (bH p.Cd) (bH p.sk) (bH p.iZ) (p.le _ _ ae))
  have akO:e6.length+1<=cap->vP N lJ lK kK hP gd lR e4 ai ((hC.put jC (.cells (a8.set (off+e6.length) (R u)).toArray 3 (0,0))).put hP (.cells #[.slice (some ⟨jC,off,none⟩) (e6.length+1) cap] 27 (0,0))) (vj dg u) (zk dg gq u b) (xK dg e6 u):=λcu=>by
   refine fin _ ⟨jC,off,cap,a8.set (off+e6.length) (R u),⟨by rw[I.bP,fb];rfl,by rw[I.cf _ _ acq,I.bP],by simp;exact cu,by rw[k2];exact Q.room,λo v ae=>?_⟩,AC,Hw⟩ λo J C9 AY ae=>by rw[I.cf _ _ C9,I.cf _ _ AY];exact ae
   rw[fm,List.getElem?_append]at ae;have rI:=Q.room;rw[zT];split at ae;rename_i di;simp at di;rw[aE (by omega)];exact Q.at_ o v ae;rename_i E2;simp at E2;have ano:o=e6.length:=by
    have:=(List.getElem?_eq_some_iff.1 ae).1;simp at this;omega
   subst ano;rw[aX rfl,aX (by omega)];simpa using ae
  have akP:∀(b7:ar)(c4:Nat)(fa:I),(hC.put hP (.cells #[.slice (some b7) (e6.length+1) c4] 27 (0,0))).le fa->bz fa 3 1 (some b7) (e6.length+1) c4 ((e6.map λz:Nat=>R (z:Int))++[R u])->(∀g,some b7=some g->(hC.put hP (.cells #[.slice (some b7) (e6.length+1) c4] 27 (0,0))) g.block=none)->vP N lJ lK kK hP gd lR e4 ai fa (vj dg u) (zk dg gq u b) (xK dg e6 u):=λb7 c4 fa hv pz f6=>by
   obtain⟨_,pz|⟨dQ,ajJ,dT,amM,AL,rG,fg,nj⟩⟩:=pz;cases pz.1;injection dT with dT;subst dT;have AE:=f6 _ rfl;simp only at AE;have AD:dQ≠hP:=λe=>by rw[e,I.bP]at AE;cases AE
   have Ln:hC dQ=none:=by rwa[I.cf _ _ AD]at AE
   have ana:dQ≠e4:=λe=>by rw[e,wa,I.bP]at Ln;cases Ln
   refine fin _ ⟨dQ,0,c4,ajJ.toList,⟨hv _ _ (by rw[I.bP,fb];rfl),amM,by simp;exact AL,by simp[fg],λo v ae=>?_⟩,ana,?_⟩ λo J C9 AY ae=>hv _ _ (by rw[I.cf _ _ C9];exact ae);rw[fm,eO,List.map_nil,<-nj]at ae;rw[dJ];rw[List.getElem?_take]at ae;split at ae;exact ae;cases ae;cases ds:ai dQ with
   |none=>rfl
   |some J=>
    have bH:∀{x:Nat},ai x=none->dQ≠x:=λad e=>by rw[e,ad]at ds;cases ds
    rw[HB _ _ (bH p.Cd) (bH p.sk) (bH p.iZ) (p.le _ _ ds)]at Ln;cases Ln
  repeat'(first
   |(refine⟨?_,?_⟩<;>conv=>whnf)
   |(refine .hp _ (bN p.db rfl) ?_;conv=>whnf)
   |(refine .hp _ (bN G2 rfl) ?_;conv=>whnf)
   |(refine .hp _ (bN p.gA rfl) ?_;conv=>whnf)
   |(refine .hp _ (bN Ac rfl) ?_;conv=>whnf)
   |(refine .hp _ (bN aiX rfl) ?_;conv=>whnf)
   |(refine .r ?_;conv=>whnf)
   |(refine .hp gd u 4 _ _ (by rw[cc,ew]) p.rX Sn ?_;rw[<-gv];conv=>whnf)
   |(refine .hp lR (u*2) 173 _ _ (by rw[cc]) aiJ So ?_;rw[<-sj];conv=>whnf)
   |(refine .hp e4 u 3 _ _ (by rw[cc,ew]) ai1 Sp ?_;rw[<-wa];conv=>whnf))
  all_goals refine .hp _ (bN yC rfl) ?_
  all_goals conv=>whnf
  all_goals refine .done (.mem jC off a8 (a8.set (off+e6.length) (R u)) [R u] (e6.map λz:Nat=>R (z:Int)) rfl ajj rfl (by simp[Aa,R]) (by decide) (by simp) Q.at_ (λcu=>by rw[ew,ib _ _ _ (by have:=Q.room;omega)]) (by simp[c'];omega) (by omega) (λcu=>?_) (λdi b7 c4 cu=>?_))
  all_goals conv=>whnf
  all_goals refine .hp hP 0 27 _ [_] rfl (by first|exact yC|(rw[I.cf _ _ (d9 acq)];exact yC)) rfl ?_
  all_goals conv=>whnf
  all_goals first
   |exact .done (akO cu)
   |exact .bV 2 3 1 (some b7) (e6.length+1) c4 _ rfl λfa hv pz f6=>.done (akP b7 c4 fa hv pz f6)
 exact .done (by rw[vj,zk,xK,aX hk,aX hk,aX hk];exact p)
inductive ka(L:Nat->Nat->Prop):Nat->Nat->Prop
 |refl (u:Nat):ka L u u
 |step {u v w:Nat} (h:L u v) (c:ka L v w):ka L u w
theorem ka.trans{w:Nat}(x:ka L u v)(y:ka L v w):ka L u w:=by
 induction x with
 |refl=>exact y
 |step h _ bE=>exact .step h (bE y)
theorem ka.symm(aj:∀u v,L u v->L v u)(x:ka L u v):ka L v u:=by
 induction x with
 |refl=>exact .refl _
 |step h _ bE=>exact bE.trans (.step (aj _ _ h) (.refl _))
theorem ka.mono{bd:Nat->Nat->Prop}(aj:∀u v,L u v->bd u v)(x:ka L u v):ka bd u v:=by
 induction x with
 |refl=>exact .refl _
 |step h _ bE=>exact .step (aj _ _ h) bE
def na(aa:List bo)(hG:List Nat)(u v:Nat):Prop:=∃i∈hG,∃a,aa[i]?=some a/\((a.src.toNat=u/\a.dst.toNat=v)\/(a.dst.toNat=u/\a.src.toNat=v))
theorem na.symm{hG:List Nat}(u v:Nat)(h:na aa hG u v):na aa hG v u:=by
 obtain⟨i,ag,a,a6,h⟩:=h;exact⟨i,ag,a,a6,h.elim (λq=>.inr ⟨q.2,q.1⟩) (λq=>.inl ⟨q.2,q.1⟩)⟩
theorem na.mono{hG aft:List Nat}(aj:∀i∈hG,i∈aft)(u v:Nat)(h:na aa hG u v):na aa aft u v:=by
 obtain⟨i,ag,a,a6,h⟩:=h;exact⟨i,aj i ag,a,a6,h⟩
theorem PH{up:List Nat}(ok:w6 N up)(h:∀v,ka L v (up.getD v v)):∀v,ka L v (jU up v):=by
 intro v;induction v using Ot with
 |_ v bE=>
  by_cases e:up.getD v v=v;rw[Hl e];exact .refl _;have:=ok.le v;rw[<-KQ ok e];exact(h v).trans (bE _ (by omega))
theorem PP(N:Nat)(aa:List bo):∀k v,ka (na aa (gb N aa k).2) v ((gb N aa k).1.getD v v)
 |0,v=>by
  have:(gb N aa 0).1.getD v v=v:=by
   show(aDB N).getD v v=v;rw[cN];by_cases h:v<N;rw[J0 h];rfl;rw[qs (by simpa using h)];rfl
  rw[this];exact .refl _
 |k+1,v=>by
  have bE:=PP N aa k;have pW:=PH (Hr N aa k) bE;unfold gb;split;rename_i a a6;unfold DF;split;exact bE v;have up:∀u w,ka (na aa (gb N aa k).2) u w->ka (na aa ((gb N aa k).2++[k])) u w:=λu w c=>c.mono (na.mono λi ag=>qu _ ag);have hk:na aa ((gb N aa k).2++[k]) a.src.toNat a.dst.toNat:=⟨k,by simp,a,a6,.inl ⟨rfl,rfl⟩⟩;have mr:ka (na aa ((gb N aa k).2++[k])) (jU (gb N aa k).1 a.src.toNat) (jU (gb N aa k).1 a.dst.toNat):=(ka.symm na.symm (up _ _ (pW a.src.toNat))).trans (.step hk (up _ _ (pW a.dst.toNat)));generalize jU (gb N aa k).1 a.src.toNat=x at mr⊢;generalize jU (gb N aa k).1 a.dst.toNat=y at mr⊢;show ka _ v (((gb N aa k).1.set (max x y) (min x y)).getD v v);rw[cN,zT];split;rename_i e;subst e;split;show ka _ _ (min x y);by_cases cu:x<=y;rw[Nat.max_eq_right cu,Nat.min_eq_left cu];exact ka.symm na.symm mr;rw[Nat.max_eq_left (by omega),Nat.min_eq_right (by omega)];exact mr;exact .refl _;rw[<-cN];exact up _ _ (bE v);exact bE v
theorem anO(hu:u<N)(ah:v<N)(h:(aDD N aa).getD u 0=(aDD N aa).getD v 0):ka (na aa (ep N aa)) u v:=by
 have ak:∀w,w<N->(aDD N aa).getD w 0=jU (gb N aa aa.length).1 w:=λw hw=>by
  rw[aDD,cN,dV,J0 hw];rfl
 rw[ak u hu,ak v ah]at h;have pW:=PH (Hr N aa aa.length) (PP N aa aa.length);exact(pW u).trans (by rw[h];exact ka.symm na.symm (pW v))
theorem TS(N:Nat)(aa:List bo):∀k,∀i∈(gb N aa k).2,i<k
 |0,i,ag=>by simp[gb]at ag
 |k+1,i,ag=>by
  have bE:=TS N aa k;unfold gb at ag;split at ag;unfold DF at ag;split at ag;have:=bE i ag;omega;rcases ev.1 ag with ag|ag;have:=bE i ag;omega;simp at ag;omega;have:=bE i ag;omega
structure qn(N dst:Nat)(L:Nat->Nat->Prop)(zq:Nat->Prop)(dg:List Bool)(gq e6:List Nat):Prop where
 xH:dg.length=N
 cB:gq.length=N
 root:dg.getD dst false=true
 gl:∀u∈e6,dg.getD u false=true
 done:∀u,dg.getD u false=true->u∉e6->¬zq u->∀v,L u v->dg.getD v false=true
 fZ:∃r:Nat->Nat,(∀u,dg.getD u false=true->r u+dg.count false+1<=N)/\∀u,dg.getD u false=true->u≠dst->dg.getD (gq.getD u 0) false=true/\r (gq.getD u 0)<r u
theorem abf(h:dg.getD u false=true):u<dg.length:=by
 rw[cN]at h;rcases Nat.lt_or_ge u dg.length with U|U;exact U;rw[qs U]at h;simp at h
theorem PV(l:List α)(i o:Nat)(x d:α)(ag:i<l.length):(l.set i x).getD o d=if o=i then x else l.getD o d:=by
 rw[cN,zT];split;rename_i e;subst e;rw[aX rfl];simp;rename_i e;rw[aE (d9 e),<-cN]
theorem Wy(dg:List Bool):∀u,u<dg.length->dg.getD u false=false->(dg.set u true).count false+1=dg.count false:=by
 induction dg with
 |nil=>intro u h;simp at h
 |cons a l bE=>
  intro u h az;cases u with
  |zero=>
   simp at az;subst az;simp
  |succ u=>
   have:=bE u (by simpa using h) (by simpa using az);rw[Oi,N2,N2];omega
theorem qn.aby{zq:Nat->Prop}(b:qn N dst L zq dg gq e6)(hu:u<N)(ah:dg.getD v false=true):qn N dst L zq (vj dg u) (zk dg gq u v) (xK dg e6 u)/\(vj dg u).getD u false=true/\(∀w,dg.getD w false=true->(vj dg u).getD w false=true)/\(vj dg u).count false+(xK dg e6 u).length=dg.count false+e6.length:=by
 by_cases hk:dg.getD u false=true;rw[vj,zk,xK,aX hk,aX hk,aX hk];exact⟨b,hk,λ_ h=>h,rfl⟩;rw[vj,zk,xK,aE hk,aE hk,aE hk];have AT:u<dg.length:=by rw[b.xH];exact hu
 have aod:u<gq.length:=by rw[b.cB];exact hu
 have ans:dg.getD u false=false:=by simpa using hk
 have iB:∀o,(dg.set u true).getD o false=if o=u then true else dg.getD o false:=λo=>PV _ _ _ _ _ AT;have gt:∀o,(gq.set u v).getD o 0=if o=u then v else gq.getD o 0:=λo=>PV _ _ _ _ _ aod;have mono:∀w,dg.getD w false=true->(dg.set u true).getD w false=true:=λw h=>by rw[iB];split;rfl;exact h
 have aw:=Wy dg u AT ans;obtain⟨r,fv,dU⟩:=b.fZ;refine⟨⟨by simp[b.xH],by simp[b.cB],mono _ b.root,λw hw=>?_,λw h1 ab an x ad=>?_,λx=>if x=u then r v+1 else r x,λw hw=>?_,λw hw aB=>?_⟩,by rw[iB,aX rfl],mono,by simp;omega⟩;rcases ev.1 hw with hw|hw;exact mono _ (b.gl w hw);simp at hw;rw[hw,iB,aX rfl];by_cases e:w=u;exact absurd (by simp[e]) ab;rw[iB,aE e]at h1;exact mono _ (b.done w h1 (λh=>ab (qu _ h)) an x ad);simp only;by_cases e:w=u;rw[aX e];have:=fv v ah;omega;rw[aE e];rw[iB,aE e]at hw;have:=fv w hw;omega;simp only;have aoh:v≠u:=λe=>by rw[e]at ah;exact hk ah
 by_cases e:w=u;subst e;rw[gt,aX rfl,aX rfl,aE aoh];exact⟨mono _ ah,by omega⟩;rw[iB,aE e]at hw;obtain⟨aM,aD⟩:=dU w hw aB;rw[gt,aE e,aE e];have bH:gq.getD w 0≠u:=λh=>by rw[h]at aM;exact hk aM
 rw[aE bH];exact⟨mono _ aM,aD⟩
theorem qn.all(aj:∀u v,L u v->L v u)(b:qn N dst L (λ_=>False) dg gq [])(c:ka L u dst):dg.getD u false=true:=by
 have key:∀{x y:Nat},ka L x y->dg.getD x false=true->dg.getD y false=true:=λ{x y} c=>by
  induction c with
  |refl=>exact id
  |step h _ bE=>exactλhk=>bE (b.done _ hk (by simp) (by simp) _ h)
 exact key (ka.symm aj c) b.root
theorem qn.start(L:Nat->Nat->Prop)(aB:dst<N)(gq:List Nat)(av:gq.length=N):qn N dst L (λ_=>False) ((bG N false).set dst true) gq [dst]/\((bG N false).set dst true).count false+1=N:=by
 have al:dst<(bG N false).length:=by simpa using aB
 have iB:∀o,((bG N false).set dst true).getD o false=if o=dst then true else false:=λo=>by
  rw[PV _ _ _ _ _ al];split;rfl;rw[cN,GG];split<;>rfl
 have aw:=Wy (bG N false) dst al (by rw[cN,GG];split<;>rfl);rw[List.count_replicate_self]at aw;refine⟨⟨by simp,av,by rw[iB,aX rfl],λu hu=>by simp at hu;rw[hu,iB,aX rfl],λu h1 ab _=>?_,λ_=>0,λu _=>by simp only;omega,λu h1 ab=>?_⟩,aw⟩;rw[iB]at h1;split at h1;rename_i e;exact absurd (by simp[e]) ab;cases h1;rw[iB,aE ab]at h1;cases h1
theorem qn.pop(b:qn N dst L (λ_=>False) dg gq (v::e6)):qn N dst L (λu=>u=v) dg gq e6:=⟨b.xH,b.cB,b.root,λu hu=>b.gl u (by simp[hu]),λu h1 ab an=>b.done u h1 (by simp;exact⟨an,ab⟩) (by simp),b.fZ⟩
theorem qn.close(b:qn N dst L (λu=>u=v) dg gq e6)(h:∀w,L v w->dg.getD w false=true):qn N dst L (λ_=>False) dg gq e6:=
 ⟨b.xH,b.cB,b.root,b.gl,λu h1 ab _=>by
  by_cases e:u=v;rw[e];exact h;exact b.done u h1 ab e,b.fZ⟩
def ahZ(h:I)(v:ao)(U:I):Prop:=h.le U/\∃A m c e,∃kx:List (Int×Bool),v= .tuple #[.slice A m c,R e]/\m<=64/\bg U 2 A m (kx.map mD)
theorem vP.pop{lJ lK kK hP gd lR e4 jC off cap:Nat}{a8:List ao}(p:vP N lJ lK kK hP gd lR e4 ai h dg gq (v::e6))(Q:OB h hP jC off cap a8 (v::e6))(AC:jC≠e4)(Hw:ai jC=none){B:Option ar}(bL:1<cap->B=(some (ou jC off none)).map (·.add (1*1)))(cy:1=cap->B=some ⟨jC,off,none⟩):vP N lJ lK kK hP gd lR e4 ai (h.put hP (.cells #[.slice B e6.length (cap-1)] 27 (0,0))) dg gq e6:=by
 have bH:∀{o:Nat}{ty:Nat}{cs:Array ao},h o=some (.cells cs ty (0,0))->ty≠27->o≠hP:=λae av=>lh ae Q.box av;obtain⟨kx,dF,dR⟩:=p.nP;have aw:=Q.abn;have am:=Q.room;simp only[gI]at aw;refine⟨by rw[I.cf _ _ (bH p.eR (by decide))];exact p.eR,by rw[I.cf _ _ (bH p.db (by decide))];exact p.db,by rw[I.cf _ _ p.Kj];exact p.gA,by rw[I.cf _ _ (bH p.rX (by decide))];exact p.rX,⟨kx,dF,by rw[I.cf _ _ (bH dR (by decide))];exact dR⟩,by rw[I.cf _ _ (bH p.s0 (by decide))];exact p.s0,p.xH,p.cB,?_,p.Kj,kT p.Ce p.le,p.Cd,p.sk,p.iZ,p.Ce⟩;by_cases Y3:1<cap;refine⟨jC,off+1,cap-1,a8,⟨by rw[I.bP,bL Y3];rfl,by rw[I.cf _ _ (bH Q.n0 (by decide))];exact Q.n0,by omega,by omega,λo u ae=>?_⟩,AC,Hw⟩;have:=Q.at_ (o+1) u (by grind)
 grind
 have hw:e6=[]:=List.eq_nil_of_length_eq_zero (by omega);subst hw;refine⟨jC,off,cap-1,a8,⟨by rw[I.bP,cy (by omega)],by rw[I.cf _ _ (bH Q.n0 (by decide))];exact Q.n0,by simp,by omega,λo u ae=>by grind⟩,AC,Hw⟩
theorem atI(m:Nat):(madeCells (#[R 0,.bool false]:Array ao) (m*2)).toList=((bG m ((0:Int),false)).map mD).flatten:=by
 rw[R3 (s:=2) rfl m,un];rfl
theorem avx(N n cx src dst:Nat)(A:Option ar)(aa:List bo)(h:I)(av:bg h 5 A n (aa.map bo.cells))(aC:n<=9223372036854775806)(tO:src<N)(Lg:dst<N):Fn aH 50 #[my N A n cx,R src,R dst] h λv U=>ahZ h v U:=by
 have al:aa.length=n:=by simpa using av.len
 refine b5 asj rfl ?_;refine .done (.mk _ (acR N n cx A aa h av aC) ?_);rintro _ h1 ⟨cr,f1,f2⟩;by_cases aj:e' N aa=0;obtain⟨T,c,H,rfl,oY,x2⟩:=f2 aj;obtain⟨HF,uW,wo,dk⟩:=lO aj;have Db:(aDD N aa).length=N:=by simp[aDD]
 have xe:∀u,u<N->h1.cell? (H.add (u*1))=some (R ((aDD N aa).getD u 0:Nat)):=λu hu=>by
  have hh:u<(aDD N aa).length:=by omega
  rw[cN,bZ hh];exact x2.one rfl (i:=u) (iM hh) rfl
 refine aW (λq=>by omega) (λq=>?_);refine aW (λq=>by omega) (λq=>?_);refine .r ?_;refine .hp _ (by rw[bq];exact xe src tO) ?_;refine .r ?_;refine .hp _ (by rw[bq];exact xe dst Lg) ?_;refine aW (λaD=>?_) (λaD=>?_);exact .done ⟨cr,none,0,0,110,[],rfl,by decide,bg.nil _ _ _⟩;have amL:=anO (aa:=aa) tO Lg (by omega);refine .mk N rfl rfl (by omega) (by omega) λG2=>?_;refine .one N (R 0) rfl rfl rfl rfl (by omega) (by omega) λAc=>?_;refine .one N (.bool false) rfl rfl rfl rfl (by omega) (by omega) λG1=>?_;refine .m G1 rfl ?_;refine .row 6 4 1 G1 N N (bG N (.bool false)) ((bG N (.bool false)).set dst (.bool true)) dst rfl (by simp) (by rw[ib _ _ _ (by grind)]) ?_;refine .mk λlJ Qp=>?_;refine .mk λlK Qq=>?_;refine .mk λkK Qr=>?_;refine .mk λjC QE=>?_;refine .mk λhP HK=>?_;have aM:h1.le (h1.put lJ (.cells #[.slice (some G1) N N] 193 (0,0))):=I.du Qp;have aD:=I.du (J:=.cells #[.slice (some G2) N N] 78 (0,0)) Qq;have bj:=I.du (J:=.cells #[.slice (some Ac) N N] 27 (0,0)) Qr;have bT:=I.du (J:=.cells #[R dst] 3 (0,0)) QE;have dz:=I.du (J:=.cells #[.slice (some ⟨jC,0,none⟩) 1 1] 27 (0,0)) HK;have af':h1 lJ=none:=Qp;have aB2:h1 lK=none:=I.none_le aM Qq;have aB3:h1 kK=none:=I.none_le (I.le_trans aM aD) Qr;have Uc:h1 jC=none:=I.none_le (I.le_trans aM (I.le_trans aD bj)) QE;have aAc:h1 hP=none:=I.none_le (I.le_trans aM (I.le_trans aD (I.le_trans bj bT))) HK;have fv:=I.le_trans aD (I.le_trans bj (I.le_trans bT dz)) _ _ (I.bP _ _ _);have dU:=I.le_trans bj (I.le_trans bT dz) _ _ (I.bP _ _ _);have gi:=I.le_trans bT dz _ _ (I.bP _ _ _);have fT:=dz _ _ (I.bP _ _ _);have mA:=I.bP ((((h1.put lJ (.cells #[.slice (some G1) N N] 193 (0,0))).put lK (.cells #[.slice (some G2) N N] 78 (0,0))).put kK (.cells #[.slice (some Ac) N N] 27 (0,0))).put jC (.cells #[R dst] 3 (0,0))) hP (.cells #[.slice (some ⟨jC,0,none⟩) 1 1] 27 (0,0));have auc:kK≠hP:=λe=>by
  rw[<-e,bT _ _ (I.bP _ _ _)]at HK;cases HK
 have A1:=I.le_trans aM (I.le_trans aD (I.le_trans bj (I.le_trans bT dz)));clear aM aD bj bT dz Qp Qq Qr QE HK;refine .lj (.bV 2 173 2 (some G2) N N _ rfl λab cn nP sk=>.bV 4 3 1 (some Ac) N N _ rfl λan dZ s0 iZ=>.bV 6 4 1 (some G1) N N _ rfl λaR cW rX Cd=>.done ?_);have sO:=I.le_trans cn (I.le_trans dZ cW);have mC:=cn _ _ fT;have w1:=sO _ _ fv;have uu:=sO _ _ dU;have U9:=sO _ _ gi;have U':=sO _ _ fT;have D8:=sO _ _ mA;have eA:=I.le_trans A1 sO;obtain⟨_,nP|⟨lR,V8,tz,amH,_,_,axi,ae8⟩⟩:=nP;omega;injection tz with tz;subst tz;obtain⟨_,s0|⟨e4,kd,iY,amI,_,_,axj,ae9⟩⟩:=s0;omega;injection iY with iY;subst iY;obtain⟨_,rX|⟨gd,G8,hq,amG,_,_,axh,ae7⟩⟩:=rX;omega;injection hq with hq;subst hq;have So:V8=((bG N ((0:Int),false)).map mD).flatten.toArray:=by
  rw[k4 (by simp[axi])]at ae8;rw[<-ov (xs:=V8),ae8];exact ho List.toArray (atI N)
 have Sp:kd=((bG N 0).map λz:Nat=>R (z:Int)).toArray:=by
  rw[k4 (by simp[axj])]at ae9;rw[<-ov (xs:=kd),ae9,un];rfl
 have Sn:G8=(((bG N false).set dst true).map qB).toArray:=by
  rw[k4 (by simp[axh])]at ae7;rw[<-ov (xs:=G8),ae7,nb,un]
 have aAf:h1 lR=none:=I.none_le A1 (sk _ rfl);have aAg:h1 e4=none:=I.none_le (I.le_trans A1 cn) (iZ _ rfl);have aAe:h1 gd=none:=I.none_le (I.le_trans A1 (I.le_trans cn dZ)) (Cd _ rfl);have aug:jC≠e4:=λe=>by
  grind
 have D5:vP N lJ lK kK hP gd lR e4 h1 aR ((bG N false).set dst true) (bG N 0) [dst]:=by
  refine⟨w1,uu,U9,by grind,⟨bG N (0,false),by simp,by rw[cW _ _ (dZ _ _ amH),So]⟩,by rw[cW _ _ amI,Sp],by simp,by simp,⟨jC,0,1,[R dst],⟨D8,U',by simp,by simp,λo u ae=>by grind⟩,aug,Uc⟩,auc,eA,aAe,aAf,aAg,aAc⟩
 have pq:(ep N aa).length<=aa.length:=KW N aa aa.length;obtain⟨zI,gT⟩:=qn.start (na aa (ep N aa)) Lg (bG N 0) (by simp);clear w1 uu U9 U' D8 fv dU gi fT mA mC sO sk iZ Cd;refine .mk (List Bool×List Nat×List Nat) [1,2,3,8,10,11,13,14] (λ_=>[.v (R src),.v (R dst),.p 0 0,.p 1 0,.p 3 0,.p 5 0,.p 9 0,.v (.func (.func 112) #[] #[.pointer (some ⟨lJ,0,none⟩),.pointer (some ⟨lK,0,none⟩),.pointer (some ⟨kK,0,none⟩),.pointer (some ⟨hP,0,none⟩)])]) (λ_=>[.own [.v (R N),.v (.slice A n cx)] 33,.own [.v (.slice T (ep N aa).length c),.v (.slice (some H) N N)] 159,.gone,.bV lK,.gone,.bV kK,.gone,.bV lJ,.bV jC,.bV hP]) (λ(dg,gq,e6) U=>vP N lJ lK kK hP gd lR e4 h1 U dg gq e6/\qn N dst (na aa (ep N aa)) (λ_=>False) dg gq e6/\dg.count false+e6.length<=N) (λ(dg,_,e6)=>dg.count false+e6.length) ((bG N false).set dst true,bG N 0,[dst]) (λ_=>rfl) ⟨D5,zI,by grind⟩ rfl rfl ?_;rintro⟨dg,gq,e6⟩ e cg ⟨p,b,HM⟩;obtain⟨aAO,off,cap,a8,Q,AC,alO⟩:=p.q;refine .hp _ (bN Q.box rfl) ?_;refine aW (λbj=>?_) (λbj=>?_);match e6,p,b,HM,Q,bj with
 |[],_,_,_,_,bj=>grind
 |v::e6,p,b,HM,Q,bj=>
  simp only[gI]at HM;have ah:=b.gl v (by simp);have aoe:v<N:=by grind [b.xH]
  refine .hp _ (bN Q.box rfl) ?_;refine .mk _ rfl (by decide) (by simp) ?_;refine .hp (R v) (by rw[add_lit];exact bN Q.n0 (Q.at_ 0 _ rfl)) ?_;refine .hp _ (bN Q.box rfl) ?_;refine .mk 1 (e6.length+1) rfl rfl (by omega) Q.abn λB bL cy=>?_;refine .hp hP 0 27 _ [.slice B e6.length (cap-1)] rfl Q.box rfl ?_;have hR:=p.pop Q AC alO bL cy;have gE:=b.pop;generalize cg.put hP (.cells [Value.slice B e6.length (cap-1)].toArray 27 (0,0))=fa at hR;obtain⟨S,c5⟩:∃S,S=dg.count false+e6.length:=⟨_,rfl⟩;refine .mk (Nat×List Bool×List Nat×List Nat) [1,2,3,8,10,11,13,14,15,79,80,81] (λ(i,_)=>[.v (R src),.v (R dst),.p 0 0,.p 1 0,.p 3 0,.p 5 0,.p 9 0,.v (.func (.func 112) #[] #[.pointer (some ⟨lJ,0,none⟩),.pointer (some ⟨lK,0,none⟩),.pointer (some ⟨kK,0,none⟩),.pointer (some ⟨hP,0,none⟩)]),.v (R v),.v (.slice T (ep N aa).length c),.v (R (ep N aa).length),.v (R i)]) (λ_=>[.own [.v (R N),.v (.slice A n cx)] 33,.own [.v (.slice T (ep N aa).length c),.v (.slice (some H) N N)] 159,.gone,.bV lK,.gone,.bV kK,.gone,.bV lJ,.bV jC,.bV hP]) (λ(i,dg,gq,e6) U=>vP N lJ lK kK hP gd lR e4 h1 U dg gq e6/\qn N dst (na aa (ep N aa)) (λu=>u=v) dg gq e6/\dg.getD v false=true/\dg.count false+e6.length<=S/\i<=(ep N aa).length/\∀o<i,∀x a,(ep N aa)[o]?=some x->aa[x]?=some a->(a.dst.toNat=v->dg.getD a.src.toNat false=true)/\(a.src.toNat=v->dg.getD a.dst.toNat false=true)) (λ(i,_)=>(ep N aa).length-i) (0,dg,gq,e6) (λ_=>rfl) ⟨hR,gE,ah,by omega,cO _,λo ae=>by omega⟩ rfl rfl ?_;clear hR gE ah b p Q;rintro⟨i,dg,gq,T8⟩ aI mi ⟨p,b,ah,aA1,ag,l0⟩;refine aW (λbT=>?_) (λbT=>?_);have ea:i<(ep N aa).length:=by omega
  have ad:=TS N aa aa.length _ (cS ea);have C3:(ep N aa)[i]?=some (ep N aa)[i]:=bZ ea;obtain⟨g,ak⟩:=oY.cc (by omega);obtain⟨ez,rD⟩:=av.cc (by omega);have kd:=(oY.mono p.le).one ak (iM ea) rfl;generalize(ep N aa)[i]=x at ad C3 kd;have nO:=(av.mono (I.le_trans cr p.le)).row rD (iM ad);have tK:=vl (dk aa[x] (cS ad));have CC:aa[x]?=some aa[x]:=bZ ad;generalize aa[x]=a at nO tK CC;obtain⟨fq,s1,d0,d1,_⟩:=tK;refine .m g ak ?_;refine .hp (R x) (by simp_all) ?_;refine .m ez rD ?_;refine .hp a.cells rfl (by simp_all) ?_;refine aW (λdz=>?_) (λdz=>?_);have IJ:=abz N lJ lK kK hP gd lR e4 a.src.toNat v x false h1 mi dg gq T8 p (by omega) (by omega);rw[q' fq]at IJ;obtain⟨cy,bJ,bB,eo⟩:=b.aby (u:=a.src.toNat) (by omega) ah;refine .done (.mk _ IJ ?_);rintro _ pd SL;refine .aLS ?_;refine⟨(i+1,_,_,_),rfl,rfl,⟨SL,cy,bB _ ah,by omega,ea,λo ae y ey aQ fI=>?_⟩,by grind⟩;by_cases jY:o=i;subst jY;rw[C3]at aQ;injection aQ with aQ;subst aQ;rw[CC]at fI;injection fI with fI;subst fI;exact⟨λ_=>bJ,λ_=>by simp_all⟩;obtain⟨hJ,z2⟩:=l0 o (by omega) y ey aQ fI;exact⟨λaP=>bB _ (hJ aP),λaP=>bB _ (z2 aP)⟩;refine aW (λj6=>?_) (λj6=>?_);have IJ:=abz N lJ lK kK hP gd lR e4 a.dst.toNat v x true h1 mi dg gq T8 p (by omega) (by omega);rw[q' d0]at IJ;obtain⟨cy,bJ,bB,eo⟩:=b.aby (u:=a.dst.toNat) (by omega) ah;refine .done (.mk _ IJ ?_);rintro _ pd SL;refine .aLS ?_;refine⟨(i+1,_,_,_),rfl,rfl,⟨SL,cy,bB _ ah,by omega,ea,λo ae y ey aQ fI=>?_⟩,by grind⟩;by_cases jY:o=i;subst jY;rw[C3]at aQ;injection aQ with aQ;subst aQ;rw[CC]at fI;injection fI with fI;subst fI;exact⟨λaP=>by omega,λ_=>bJ⟩;obtain⟨hJ,z2⟩:=l0 o (by omega) y ey aQ fI;exact⟨λaP=>bB _ (hJ aP),λaP=>bB _ (z2 aP)⟩;refine .aLS ?_;refine⟨(i+1,_,_,_),rfl,rfl,⟨p,b,ah,by omega,ea,λo ae y ey aQ fI=>?_⟩,by grind⟩;by_cases jY:o=i;subst jY;rw[C3]at aQ;injection aQ with aQ;subst aQ;rw[CC]at fI;injection fI with fI;subst fI;omega;exact l0 o (by omega) y ey aQ fI;refine⟨(dg,gq,T8),rfl,rfl,⟨p,b.close λw hw=>?_,by omega⟩,by grind⟩;obtain⟨x,ad,a,a6,aB⟩:=hw;obtain⟨o,ae,anr⟩:=rb ad;obtain⟨hJ,z2⟩:=l0 o (by omega) x a (by grind) a6;rcases aB with⟨aJ,aI⟩|⟨aJ,aI⟩
  grind
  grind
 match e6,p,b,HM,Q,bj with
 |_::_,_,_,_,_,bj=>exact absurd (by simp) bj
 |[],p,b,HM,Q,bj=>
  have xv:=b.all na.symm amL;obtain⟨r,zu,gK⟩:=b.fZ;obtain⟨kx,CL,sA⟩:=p.nP;refine .lj (.abs 173 2 none 0 0 [] ⟨rfl,.inl ⟨rfl,rfl,rfl⟩⟩ (.done ?_));refine .mk (Nat×Option ar×Nat×List (Int×Bool)) [2,10,11,19,20] (λ(x,P,bu,l)=>[.v (R dst),.p 3 0,.p 5 0,.v (.slice P l.length bu),.v (R x)]) (λ(_,P,bu,l)=>[.own [.v (R N),.v (.slice A n cx)] 33,.own [.v (.slice T (ep N aa).length c),.v (.slice (some H) N N)] 159,.gone,.bV lK,.gone,.bV kK,.gone,.bV lJ,.bV jC,.bV hP,.row 173 2 P l.length bu (l.map mD).flatten]) (λ(x,_,_,l) U=>U=cg/\dg.getD x false=true/\l.length+r x<=N) (λ(x,_,_,_)=>r x) (src,none,0,[]) (λ_=>rfl) ⟨rfl,xv,by have:=zu src xv;simp;omega⟩ rfl rfl ?_;rintro⟨x,P,bu,l⟩ aI fa ⟨rfl,ad,y0⟩;have aoq:x<N:=by have:=abf ad;rw[b.xH]at this;exact this
  refine aW (λbT=>?_) (λbT=>?_);obtain⟨cF,dw⟩:=gK x ad (by omega);have Z6:x<gq.length:=by rw[p.cB];exact aoq
  have aor:x<kx.length:=by omega
  have V9:∀o v,(mD kx[x])[o]?=some v->fa.cell? (((ou lR 0 none).add (x*2)).add o)=some v:=λo v ae=>by
   rw[add_lit,add_lit,dJ];exact bN sA (Ci (size:=2) (kx.map mD) (λr am=>by obtain⟨p,_,rfl⟩:=dn.1 am;rfl) x o _ v (iM aor) ae)
  have Ah:fa.cell? ((ou e4 0 none).add (x*1))=some (R (gq.getD x 0:Nat)):=by
   rw[add_lit,dJ,ew];exact bN p.s0 (by rw[dV,bZ Z6,cN,bZ Z6];rfl)
  generalize kx[x]=sp at V9;generalize gq.getD x 0=y at cF dw Ah;refine .hp _ (bN p.db rfl) ?_;refine .r ?_;refine .hp (mD sp) rfl (by rw[bq];exact V9) ?_;refine .done (.cR 10 _ (mD sp) rfl rfl (by simp[mD,Aa,R]) (by simp[c'];omega) (by omega) λahX c2 aAY=>?_);refine .hp _ (bN p.gA rfl) ?_;refine .r ?_;refine .hp _ (by rw[bq];exact Ah) ?_;refine⟨(y,ahX,c2,l++[sp]),by simp only[fb,gI,List.length_nil];rfl,?_,⟨rfl,cF,by simp;omega⟩,dw⟩;simp;rfl;refine .bV 10 173 2 P l.length bu _ rfl λmi mv Jb f7=>.done ⟨I.le_trans cr (I.le_trans p.le mv),P,l.length,bu,0,l,rfl,by omega,Jb.dG (λr am=>by obtain⟨p,_,rfl⟩:=dn.1 am;rfl) (by decide)⟩
 obtain rfl:=f1 aj;refine aW (λq=>?_) (λq=>absurd aj (by simpa using q));exact .done ⟨cr,none,0,0,_,[],rfl,by decide,bg.nil _ _ _⟩
def kN(p:Nat×Nat):List ao:=[R p.1,R p.2]
structure vS(N lL h5 kp:Nat)(ai h:I)(s:List (Nat×Nat))(f:Bool):Prop where
 c5:h lL=some (.cells #[.slice (some ⟨h5,0,none⟩) N N] 162 (0,0))
 SY:h h5=some (.cells (s.map kN).flatten.toArray 167 (0,0))
 bm:h kp=some (.cells #[.bool f] 4 (0,0))
 DA:s.length=N
 le:ai.le h
 aga:ai h5=none
 Nz:ai kp=none
def kZ(s:List (Nat×Nat)×Bool)(u v x y:Nat):Bool×(List (Nat×Nat)×Bool):=
 if s.1.getD u (0,0)=(0,0)\/s.1.getD v (0,0)≠(0,0)then(false,s)else((lk (s.1.getD u (0,0)) x y).2,(s.1.set v (lk (s.1.getD u (0,0)) x y).1,s.2&&(lk (s.1.getD u (0,0)) x y).2))
theorem PQ(s:List (Nat×Nat)):∀r∈s.map kN,r.length=2:=λr am=>by obtain⟨p,_,rfl⟩:=dn.1 am;rfl
theorem Yd(l:List (Nat×Nat)):∀(i:Nat)(p:Nat×Nat),i<l.length->over (l.map kN).flatten (i*2) (kN p)=some ((l.set i p).map kN).flatten:=by
 induction l with
 |nil=>intro i p h;simp at h
 |cons a l bE=>
  intro i p h;cases i with
  |zero=>
   rw[D0];show over (R a.1::R a.2::(l.map kN).flatten) 0 [R p.1,R p.2]=_;simp[over,kN]
  |succ i=>
   have U:=bE i p (by simpa using h);rw[BQ];show over (R a.1::R a.2::(l.map kN).flatten) (i*2+2) (kN p)=_;simp only[over,U];simp[kN]
theorem vS.row{lL h5 kp:Nat}{s:List (Nat×Nat)}{f:Bool}(x:vS N lL h5 kp ai h s f)(hu:u<N):∀o v,(kN (s.getD u (0,0)))[o]?=some v->h.cell? (((ou h5 0 none).add (u*2)).add o)=some v:=λo v ae=>by
 have hh:u<s.length:=by rw[x.DA];exact hu
 rw[cN,bZ hh]at ae;rw[add_lit,add_lit,dJ];exact bN x.SY (Ci (size:=2) (s.map kN) (PQ s) u o _ v (iM hh) ae)
theorem ae1(N lL h5 kp u v x y:Nat)(ai h:I)(s:List (Nat×Nat))(f:Bool)(p:vS N lL h5 kp ai h s f)(hu:u<N)(ah:v<N)(ad:x<=64)(aQ:y<=64)(C4:0<y)(af:∀q∈s,yb q):Fn aH 108 #[R u,R v,R x,R y,.pointer (some ⟨lL,0,none⟩),.pointer (some ⟨kp,0,none⟩)] h λr U=>r= .bool (kZ (s,f) u v x y).1/\vS N lL h5 kp ai U (kZ (s,f) u v x y).2.1 (kZ (s,f) u v x y).2.2:=by
 refine b5 aqV rfl ?_;have Tc:=p.row hu;have Tm:=p.row ah;have bW:yb (s.getD u (0,0)):=by
  have hh:u<s.length:=by rw[p.DA];exact hu
  rw[cN,bZ hh];exact af _ (cS hh)
 have oI:kZ (s,f) u v x y=if s.getD u (0,0)=(0,0)\/s.getD v (0,0)≠(0,0)then(false,(s,f))else((lk (s.getD u (0,0)) x y).2,(s.set v (lk (s.getD u (0,0)) x y).1,f&&(lk (s.getD u (0,0)) x y).2)):=rfl;rw[oI];generalize s.getD u (0,0)=a at Tc bW⊢;generalize s.getD v (0,0)=b at Tm⊢;obtain⟨cP,a2⟩:=a;obtain⟨bL,cy⟩:=b;have t49:=λh=>afh (cP,a2) x y h bW ad aQ C4;generalize lk (cP,a2) x y=g at t49⊢;obtain⟨⟨g1,g2⟩,dQ⟩:=g;refine .hp _ (bN p.c5 rfl) ?_;refine .r ?_;refine .hp (kN (cP,a2)) rfl (by rw[bq];exact Tc) ?_;refine uK (λq=>?_) (λq=>?_);have:(cP,a2)=(0,0):=by simp[flip]at q;simp;omega
 rw[aX (.inl this)];exact .done ⟨rfl,p⟩;have kw:¬(cP,a2)=(0,0):=by simp[flip]at q;simp;omega
 refine .hp _ (bN p.c5 rfl) ?_;refine .r ?_;refine .hp (kN (bL,cy)) rfl (by rw[bq];exact Tm) ?_;refine uK (λaD=>?_) (λaD=>?_);have:(bL,cy)≠(0,0):=by simp[flip]at aD;simp;omega
 rw[aX (.inr this)];exact .done ⟨rfl,p⟩;have c6:¬(bL,cy)≠(0,0):=by simp[flip]at aD;simp;omega
 rw[aE (by rintro(h1|h1);exact kw h1;exact c6 h1)];refine .hp _ (bN p.c5 rfl) ?_;refine .r ?_;refine .hp (kN (cP,a2)) rfl (by rw[bq];exact Tc) ?_;refine .done (.mk _ (t49 h) ?_);rintro _ h1 ⟨cr,rfl⟩;have fv:=cr _ _ p.c5;have dU:=cr _ _ p.SY;have gi:=cr _ _ p.bm;refine .hp _ (bN fv rfl) ?_;refine .hp _ (bN gi rfl) ?_;have fin:∀z,z=(f&&dQ)->vS N lL h5 kp ai ((h1.put h5 (.cells ((s.set v (g1,g2)).map kN).flatten.toArray 167 (0,0))).put kp (.cells #[.bool z] 4 (0,0))) (s.set v (g1,g2)) (f&&dQ):=λz aY=>by
  subst aY;exact⟨by rw[I.cf _ _ (lh fv gi (by decide)),I.cf _ _ (lh fv dU (by decide))];exact fv,by rw[I.cf _ _ (lh dU gi (by decide)),I.bP],I.bP _ _ _,by simp[p.DA],kT p.Nz (kT p.aga (I.le_trans p.le cr)),p.aga,p.Nz⟩
 have acP:=Yd s v (g1,g2) (by rw[p.DA];exact ah);cases f;refine .r ?_;refine .hp h5 (v*2) 167 _ _ (by rw[add_lit,dJ,bq]) dU acP ?_;refine .hp kp 0 4 [.bool false] [.bool false] rfl (by rw[I.cf _ _ (d9 (lh dU gi (by decide)))];exact gi) rfl ?_;exact .done ⟨rfl,fin false (by simp)⟩;refine .r ?_;refine .hp h5 (v*2) 167 _ _ (by rw[add_lit,dJ,bq]) dU acP ?_;refine .hp kp 0 4 [.bool true] [.bool dQ] rfl (by rw[I.cf _ _ (d9 (lh dU gi (by decide)))];exact gi) rfl ?_;exact .done ⟨rfl,fin dQ (by simp)⟩
abbrev oD:=List (Nat×Nat)×Bool
def w8(s:oD)(qX:Bool)(a:bo):oD×Bool:=
 if(kZ s a.src.toNat a.dst.toNat a.fR.toNat a.take.toNat).1=true then((kZ s a.src.toNat a.dst.toNat a.fR.toNat a.take.toNat).2,true)else
 ((kZ (kZ s a.src.toNat a.dst.toNat a.fR.toNat a.take.toNat).2 a.dst.toNat a.src.toNat a.take.toNat a.fR.toNat).2,(kZ (kZ s a.src.toNat a.dst.toNat a.fR.toNat a.take.toNat).2 a.dst.toNat a.src.toNat a.take.toNat a.fR.toNat).1||qX)
def l6(aa:List bo)(hG:List Nat)(s:oD):Nat->oD×Bool
 |0=>(s,false)
 |k+1=>match hG[k]?with
  |some i=>(match aa[i]?with
   |some a=>w8 (l6 aa hG s k).1 (l6 aa hG s k).2 a
   |none=>l6 aa hG s k)
  |none=>l6 aa hG s k
def qh(aa:List bo)(hG:List Nat)(s:oD):oD×Bool:=l6 aa hG s hG.length
def x0(aa:List bo)(hG:List Nat):Nat->oD->oD
 |0,s=>s
 |f+1,s=>if(qh aa hG s).2=true/\(qh aa hG s).1.2=true then x0 aa hG f (qh aa hG s).1 else(qh aa hG s).1
def lE(N:Nat)(home:List Nat)(k:Nat):List (Nat×Nat):=(aDB N).map λv=>if v<k/\home.getD v 0=v then(1,1)else(0,0)
def iN(N:Nat)(aa:List bo):oD:=x0 aa (ep N aa) (N+1) (lE N (aDD N aa) N,true)
structure ys(N:Nat)(s:oD):Prop where
 len:s.1.length=N
 B2:∀q∈s.1,yb q
 fit:s.2=true->∀q∈s.1,q.1<=4096/\q.2<=4096/\(q=(0,0)\/0<q.2)
def nR(s:oD):Nat:=s.1.count (0,0)
theorem ab8{l:List α}{i:Nat}{x y:α}(h:y∈l.set i x):y∈l\/y=x:=by
 rcases List.mem_or_eq_of_mem_set h with h|h;exact .inl h;exact .inr h
theorem EK{l:List α}{i:Nat}{d:α}(h:i<l.length):l.getD i d∈l:=by
 rw[cN,bZ h];exact cS h
theorem ajI(l:List (Nat×Nat)):∀(u:Nat)(g:Nat×Nat),u<l.length->l.getD u (0,0)=(0,0)->g≠(0,0)->(l.set u g).count (0,0)+1=l.count (0,0):=by
 induction l with
 |nil=>intro u g h;simp at h
 |cons a l bE=>
  intro u g h az ak;cases u with
  |zero=>
   have:a=(0,0):=az;subst this;rw[List.set_cons_zero,List.count_cons_of_ne ak,List.count_cons_self]
  |succ u=>
   have:=bE u g (by simpa using h) (by simpa using az) ak;rw[Oi,N2,N2];omega
theorem TB{s:oD}(J:ys N s)(hu:u<N)(ah:v<N)(aQ:y<=64):ys N (kZ s u v x y).2/\((kZ s u v x y).2.2=true->s.2=true/\((kZ s u v x y).1=false->(kZ s u v x y).2=s/\(s.1.getD u (0,0)≠(0,0)->s.1.getD v (0,0)≠(0,0)))/\((kZ s u v x y).1=true->nR (kZ s u v x y).2<nR s))/\(∀w,s.1.getD w (0,0)≠(0,0)->(kZ s u v x y).2.1.getD w (0,0)≠(0,0)):=by
 unfold kZ;split;rename_i aw;refine⟨J,λh=>⟨h,λ_=>⟨rfl,λh1 ab=>?_⟩,(λh=>by cases h)⟩,λw h=>h⟩;rcases aw with aw|aw;exact h1 aw;exact aw ab;rename_i aw;have Ff:v<s.1.length:=by rw[J.len];exact ah
 have AT:u<s.1.length:=by rw[J.len];exact hu
 have aY:s.1.getD v (0,0)=(0,0):=by
  by_cases e:s.1.getD v (0,0)=(0,0);exact e;exact absurd (.inr e) aw
 have ZF:=EK (d:=(0,0)) AT;refine⟨⟨by simp[J.len],λq aq=>?_,λaz q aq=>?_⟩,λaz=>?_,λw hw=>?_⟩;rcases ab8 aq with aq|rfl;exact J.B2 q aq;exact ayx _ _ _;simp only[fY]at az;rcases ab8 aq with aq|rfl;exact J.fit az.1 q aq;have:=ayy az.2;obtain⟨cP,a2,_⟩:=J.fit az.1 _ ZF;exact⟨this.1,this.2,.inr (afi az.2 cP a2 aQ)⟩;simp only[fY]at az;refine⟨az.1,(λh=>by rw[az.2]at h;cases h),λ_=>?_⟩;obtain⟨cP,a2,_⟩:=J.fit az.1 _ ZF;have hp:=afi az.2 cP a2 aQ;have:=ajI s.1 v (lk (s.1.getD u (0,0)) x y).1 Ff aY (λe=>by rw[e]at hp;simp at hp);unfold nR;simp only;omega;simp only;rw[cN,zT];split;rename_i e;subst e;exact absurd aY hw;rw[<-cN];exact hw
structure OE(N:Nat)(s s6:oD)(qX:Bool):Prop where
 ok:ys N s6
 mono:∀w,s.1.getD w (0,0)≠(0,0)->s6.1.getD w (0,0)≠(0,0)
 f:s6.2=true->s.2=true/\(qX=false->s6=s)/\(qX=true->nR s6<nR s)/\nR s6<=nR s
theorem aiT{fq s:oD}{qX:Bool}(J:OE N fq s qX){a:bo}(a6:og N a=0):OE N fq (w8 s qX a).1 (w8 s qX a).2/\((w8 s qX a).1.2=true->(w8 s qX a).2=false->(fq.1.getD a.src.toNat (0,0)≠(0,0)↔fq.1.getD a.dst.toNat (0,0)≠(0,0)))/\((w8 s qX a).1.2=true->s.2=true)/\((w8 s qX a).2=false->qX=false):=by
 obtain⟨z0,hJ,z2,z3,z4,z5,aB0,aB1,_⟩:=vl a6;obtain⟨ie,hR,kW⟩:=TB J.ok (u:=a.src.toNat) (v:=a.dst.toNat) (x:=a.fR.toNat) (y:=a.take.toNat) (by omega) (by omega) (by omega);unfold w8;generalize kZ s a.src.toNat a.dst.toNat a.fR.toNat a.take.toNat=fv at ie hR kW;split;rename_i h1;refine⟨⟨ie,λw hw=>kW w (J.mono w hw),λaz=>?_⟩,(λ_ h=>by cases h),λaz=>(hR az).1,(λh=>by cases h)⟩;obtain⟨aM,aD,bj⟩:=hR az;obtain⟨o0,_,_,afA⟩:=J.f aM;have:=bj h1;exact⟨o0,(λh=>by cases h),(λ_=>by simp only;omega),by simp only;omega⟩;rename_i h1;have h1:fv.1=false:=by simpa using h1
 obtain⟨t1,t2,t3⟩:=TB ie (u:=a.dst.toNat) (v:=a.src.toNat) (x:=a.take.toNat) (y:=a.fR.toNat) (by omega) (by omega) (by omega);generalize kZ fv.2 a.dst.toNat a.src.toNat a.take.toNat a.fR.toNat=dU at t1 t2 t3;refine⟨⟨t1,λw hw=>t3 w (kW w (J.mono w hw)),λaz=>?_⟩,λaz hm=>?_,λaz=>(hR (t2 az).1).1,λhm=>by simp only[Ul]at hm;exact hm.2⟩;obtain⟨aM,aD,bj⟩:=t2 az;obtain⟨v1,v2,v3⟩:=hR aM;obtain⟨o0,hI,ue,afA⟩:=J.f v1;obtain⟨aJ,_⟩:=v2 h1;rw[aJ]at aD bj;refine⟨o0,λh=>?_,λh=>?_,?_⟩;simp only[Ul]at h;exact(aD h.1).1.trans (hI h.2);cases am:dU.1 with
 |true=>have:=bj am;simp only;omega
 |false=>
  rw[am]at h;simp only;rw[(aD am).1];exact ue (by simpa using h)
 cases am:dU.1 with
 |true=>have:=bj am;simp only;omega
 |false=>simp only;rw[(aD am).1];exact afA
 simp only[Ul]at hm;obtain⟨aM,aD,_⟩:=t2 az;obtain⟨v1,v2,_⟩:=hR aM;obtain⟨aJ,cF⟩:=v2 h1;rw[aJ]at aD;obtain⟨_,dw⟩:=aD hm.1;obtain⟨_,hI,_⟩:=J.f v1;rw[hI hm.2]at cF dw;exact⟨cF,dw⟩
theorem S8{N:Nat}{aa:List bo}(hG:List Nat){s:oD}(J:ys N s)(a6:∀a∈aa,og N a=0):∀k,OE N s (l6 aa hG s k).1 (l6 aa hG s k).2/\((l6 aa hG s k).1.2=true->(l6 aa hG s k).2=false->∀o<k,∀i a,hG[o]?=some i->aa[i]?=some a->(s.1.getD a.src.toNat (0,0)≠(0,0)↔s.1.getD a.dst.toNat (0,0)≠(0,0)))
 |0=>⟨⟨J,λ_ h=>h,λh=>⟨h,λ_=>rfl,(λh=>by cases h),dd _⟩⟩,λ_ _ o ae=>by omega⟩
 |k+1=>by
  obtain⟨bE,vd⟩:=S8 hG J a6 k;unfold l6;split;rename_i i ag;split;rename_i a K9;obtain⟨h1,ab,an,aR⟩:=aiT bE (a6 a (List.mem_of_getElem? K9));refine⟨h1,λaz hm o ae sG ey ea fI=>?_⟩;by_cases e:o=k;subst e;rw[ag]at ea;injection ea with ea;subst ea;rw[K9]at fI;injection fI with fI;subst fI;exact ab az hm;exact vd (an az) (aR hm) o (by omega) sG ey ea fI;refine⟨bE,λaz hm o ae sG ey ea fI=>?_⟩;by_cases e:o=k;subst e;rename_i aC;rw[ag]at ea;injection ea with ea;subst ea;rw[aC]at fI;cases fI;exact vd az hm o (by omega) sG ey ea fI;refine⟨bE,λaz hm o ae sG ey ea fI=>?_⟩;by_cases e:o=k;subst e;rename_i aC;rw[aC]at ea;cases ea;exact vd az hm o (by omega) sG ey ea fI
theorem aeW{N:Nat}{aa:List bo}(a6:∀a∈aa,og N a=0)(hG:List Nat):∀(f:Nat)(s:oD),ys N s->s.2=true->nR s<f->ys N (x0 aa hG f s)/\(∀w,s.1.getD w (0,0)≠(0,0)->(x0 aa hG f s).1.getD w (0,0)≠(0,0))/\((x0 aa hG f s).2=true->∀u v,na aa hG u v->((x0 aa hG f s).1.getD u (0,0)≠(0,0)↔(x0 aa hG f s).1.getD v (0,0)≠(0,0)))
 |0,s,_,_,h=>by omega
 |f+1,s,J,aj,aY=>by
  obtain⟨r,wG⟩:=S8 hG J a6 hG.length;unfold x0;split;rename_i aw;have:=(r.f aw.2).2.2.1 aw.1;unfold qh at aw;obtain⟨cP,a2,a3⟩:=aeW a6 hG f (qh aa hG s).1 r.ok aw.2 (by unfold qh;omega);exact⟨cP,λw hw=>a2 w (r.mono w hw),a3⟩;rename_i aw;refine⟨r.ok,r.mono,λaz u v al=>?_⟩;unfold qh at aw az⊢;have hm:(l6 aa hG s hG.length).2=false:=by
   cases e:(l6 aa hG s hG.length).2 with
   |false=>rfl
   |true=>exact absurd ⟨e,az⟩ aw
  have aJ:=(r.f az).2.1 hm;rw[aJ];obtain⟨i,ag,a,K9,aB⟩:=al;obtain⟨o,ae,jY⟩:=rb ag;have:=wG az hm o ae i a (by rw[bZ ae,jY]) K9;rcases aB with⟨aM,aD⟩|⟨aM,aD⟩;rw[<-aM,<-aD];exact this;rw[<-aM,<-aD];exact this.symm
theorem Bm(N:Nat)(home:List Nat)(k:Nat):(lE N home k).length=N:=by simp[lE]
theorem axz{home:List Nat}(ah:v<N):(lE N home k).getD v (0,0)=if v<k/\home.getD v 0=v then(1,1)else(0,0):=by
 rw[lE,cN,dV,J0 ah];rfl
theorem aeF(N:Nat)(home:List Nat)(k:Nat):ys N (lE N home k,true):=by
 have key:∀q∈lE N home k,q=(1,1)\/q=(0,0):=λq aq=>by
  obtain⟨v,_,rfl⟩:=dn.1 aq;split;exact .inl rfl;exact .inr rfl
 refine⟨Bm _ _ _,λq aq=>?_,λ_ q aq=>?_⟩;rcases key q aq with rfl|rfl<;>exact⟨by decide,by decide⟩;rcases key q aq with rfl|rfl<;>decide
theorem anP(ah:v<N):(aDD N aa).getD v 0<=v/\(aDD N aa).getD ((aDD N aa).getD v 0) 0=(aDD N aa).getD v 0/\ka (na aa (ep N aa)) v ((aDD N aa).getD v 0):=by
 have ok:=Hr N aa aa.length;have ak:∀w,w<N->(aDD N aa).getD w 0=jU (gb N aa aa.length).1 w:=λw hw=>by
  rw[aDD,cN,dV,J0 hw];rfl
 have cu:=PI ok v;rw[ak v ah,ak _ (by omega)];refine⟨cu,?_,PH ok (PP N aa aa.length) v⟩;have root:∀w,(gb N aa aa.length).1.getD (jU (gb N aa aa.length).1 w) (jU (gb N aa aa.length).1 w)=jU (gb N aa aa.length).1 w:=by
  intro w;induction w using Ot with
  |_ w bE=>
   by_cases e:(gb N aa aa.length).1.getD w w=w;rw[Hl e];exact e;have:=ok.le w;rw[<-KQ ok e];exact bE _ (by omega)
 exact Hl (root v)
theorem ajF{p:Nat->Prop}(h:∀u v,L u v->(p u↔p v))(c:ka L u v):p u↔p v:=by
 induction c with
 |refl=>exact Iff.rfl
 |step al _ bE=>exact(h _ _ al).trans bE
theorem axQ(a6:∀a∈aa,og N a=0):ys N (iN N aa)/\((iN N aa).2=true->∀v,v<N->0<((iN N aa).1.getD v (0,0)).2/\((iN N aa).1.getD v (0,0)).1<=4096/\((iN N aa).1.getD v (0,0)).2<=4096):=by
 have aY:nR (lE N (aDD N aa) N,true)<N+1:=by
  have:=ag8 (a:=((0:Nat),(0:Nat))) (l:=lE N (aDD N aa) N);rw[Bm]at this;unfold nR;simp only;omega
 obtain⟨J,m,l⟩:=aeW a6 (ep N aa) (N+1) (lE N (aDD N aa) N,true) (aeF _ _ _) rfl aY;refine⟨J,λaz v ah=>?_⟩;obtain⟨h1,ab,an⟩:=anP (aa:=aa) ah;have am:(iN N aa).1.getD ((aDD N aa).getD v 0) (0,0)≠(0,0):=m _ (by
  show(lE N (aDD N aa) N).getD _ _≠_;rw[axz (by omega),aX ⟨by omega,ab⟩];decide)
 have bH:=(ajF (p:=λu=>(iN N aa).1.getD u (0,0)≠(0,0)) (l az) an).2 am;have Ff:v<(iN N aa).1.length:=by rw[show(iN N aa).1.length=N from J.len];exact ah
 obtain⟨cP,a2,a3⟩:=J.fit az _ (EK (d:=(0,0)) Ff);refine⟨?_,cP,a2⟩;rcases a3 with a3|a3;exact absurd a3 bH;exact a3
theorem atG(m:Nat):(madeCells (#[R 0,R 0]:Array ao) (m*2)).toList=((bG m ((0:Nat),(0:Nat))).map kN).flatten:=by
 rw[R3 (s:=2) rfl m,un];rfl
theorem axB(N:Nat)(home:List Nat):lE N home 0=bG N (0,0):=by
 unfold lE;apply List.ext_getElem;simp;intro i h1 ab;simp
theorem axA{home:List Nat}(hk:k<N):lE N home (k+1)=if home.getD k 0=k then(lE N home k).set k (1,1)else lE N home k:=by
 have e:∀k v,v<N->(lE N home k)[v]?=some (if v<k/\home.getD v 0=v then(1,1)else(0,0)):=λk v ah=>by
  rw[lE,dV,J0 ah];rfl
 have ne:∀k v,¬v<N->(lE N home k)[v]?=none:=λk v ah=>qs (by rw[Bm];omega);apply List.ext_getElem?;intro v;by_cases ah:v<N;by_cases fD:v=k;subst fD;rw[e _ _ ah];by_cases aP:home.getD v 0=v;rw[aX aP,aX ⟨by omega,aP⟩,zT,aX rfl,aX (by rw[Bm];exact hk)];rw[aE aP,aE (λh=>aP h.2),e _ _ ah,aE (λh=>aP h.2)];have ag:(v<k+1/\home.getD v 0=v)↔(v<k/\home.getD v 0=v):=⟨λh=>⟨by omega,h.2⟩,λh=>⟨by omega,h.2⟩⟩;rw[e _ _ ah];simp only[ag];split;rename_i h1;split;rw[zT,aE (d9 fD),e _ _ ah,aX h1];rw[e _ _ ah,aX h1];rename_i h1;split;rw[zT,aE (d9 fD),e _ _ ah,aE h1];rw[e _ _ ah,aE h1];rw[ne _ _ ah];split;rw[qs (by rw[k2,Bm];omega)];rw[ne _ _ ah]
def Ve(h:I)(N:Nat)(s:oD)(v:ao)(U:I):Prop:=h.le U/\∃g,v= .tuple #[.slice (some ⟨g,0,none⟩) N N,.bool s.2]/\U g=some (.cells (s.1.map kN).flatten.toArray 167 (0,0))
theorem axP(N n cx c:Nat)(A T:Option ar)(H:ar)(aa:List bo)(h:I)(av:bg h 5 A n (aa.map bo.cells))(aj:e' N aa=0)(oY:bg h 1 T (ep N aa).length ((ep N aa).map λz:Nat=>[R (z:Int)]))(x2:bg h 1 (some H) N ((aDD N aa).map λz:Nat=>[R (z:Int)])):Fn aH 47 #[my N A n cx,.agg #[.slice T (ep N aa).length c,.slice (some H) N N]] h λv U=>Ve h N (iN N aa) v U:=by
 have al:aa.length=n:=by simpa using av.len
 obtain⟨HF,uW,wo,dk⟩:=lO aj;have Db:(aDD N aa).length=N:=by simp[aDD]
 have pq:(ep N aa).length<=aa.length:=KW N aa aa.length;refine b5 asg rfl ?_;refine .mk N rfl rfl (by omega) (by omega) λez=>?_;refine .mk Nat [2,3,6,19,20,21] (λk=>[.p 0 0,.p 1 0,.p 3 0,.v (.slice (some H) N N),.v (R N),.v (R k)]) (λk=>[.own [.v (R N),.v (.slice A n cx)] 33,.own [.v (.slice T (ep N aa).length c),.v (.slice (some H) N N)] 159,.row 167 2 (some ez) N N ((lE N (aDD N aa) k).map kN).flatten,.own [.v (.slice (some ez) N N)] 162]) (λk U=>U=h/\k<=N) (λk=>N-k) 0 (λ_=>rfl) ⟨rfl,cO _⟩ rfl (by rw[axB,<-atG];rfl) ?_;rintro k e h1 ⟨rfl,hk⟩;refine aW (λaM=>?_) (λaM=>?_);have br:k<N:=by omega
 have xe:h1.cell? (H.add (k*1))=some (R ((aDD N aa).getD k 0:Nat)):=by
  have hh:k<(aDD N aa).length:=by omega
  rw[cN,bZ hh];exact x2.one rfl (i:=k) (iM hh) rfl
 have oI:=axA (home:=aDD N aa) br;refine .m H rfl ?_;refine .hp _ (by rw[bq];exact xe) ?_;refine aW (λaD=>?_) (λaD=>?_);rw[aX (by omega)]at oI;refine .m ez rfl ?_;refine .row 2 167 2 ez N N _ ((lE N (aDD N aa) (k+1)).map kN).flatten (k*2) rfl (by rw[bq]) (by rw[oI];exact Yd _ k (1,1) (by rw[Bm];exact br)) ?_;refine .aLS ?_;exact⟨k+1,rfl,rfl,⟨rfl,br⟩,by show N- (k+1)<N-k;omega⟩;rw[aE (by omega)]at oI;refine .aLS ?_;exact⟨k+1,rfl,by simp only[oI];rfl,⟨rfl,br⟩,by show N- (k+1)<N-k;omega⟩;have yW:N=k:=by omega
 subst yW;refine .mk λlL amw=>?_;refine .mk λkp YX=>?_;have L2:=I.du (J:=.cells #[.slice (some ez) N N] 162 (0,0)) amw;have xI:=I.du (J:=.cells #[.bool true] 4 (0,0)) YX;have Nz:h1 kp=none:=I.none_le L2 YX;have A1:=I.le_trans L2 xI;have fv:=xI _ _ (I.bP h1 lL (.cells #[.slice (some ez) N N] 162 (0,0)));have dU:=I.bP (h1.put lL (.cells #[.slice (some ez) N N] 162 (0,0))) kp (.cells #[.bool true] 4 (0,0));refine .lj (.bV 2 167 2 (some ez) N N _ rfl λab cn nP sk=>.done ?_);have w1:=cn _ _ fv;have uu:=cn _ _ dU;have Uc:=I.none_le A1 (sk _ rfl);have eA:=I.le_trans A1 cn;obtain⟨_,nP|⟨h5,a8,nh,jK,_,_,fg,nj⟩⟩:=nP;cases nP.1;injection nh with nh;subst nh;have Sq:a8=((lE N (aDD N aa) N).map kN).flatten.toArray:=by
  rw[k4 (by simp[fg])]at nj;rw[<-ov (xs:=a8),nj]
 have D5:vS N lL h5 kp h1 ab (lE N (aDD N aa) N) true:=⟨w1,by rw[jK,Sq],uu,Bm _ _ _,eA,Uc,Nz⟩;have ahS:=aeF N (aDD N aa) N;have aY:nR (lE N (aDD N aa) N,true)<N+1:=by
  have:=ag8 (a:=((0:Nat),(0:Nat))) (l:=lE N (aDD N aa) N);rw[Bm]at this;unfold nR;simp only;omega
 clear w1 uu fv dU L2 xI A1 sk cn eA;refine .mk (Nat×oD×Bool) [2,3,6,9,10,11] (λ(_,_,m)=>[.p 0 0,.p 1 0,.p 3 0,.p 4 0,.v (.func (.func 108) #[] #[.pointer (some ⟨lL,0,none⟩),.pointer (some ⟨kp,0,none⟩)]),.v (.bool m)]) (λ_=>[.own [.v (R N),.v (.slice A n cx)] 33,.own [.v (.slice T (ep N aa).length c),.v (.slice (some H) N N)] 159,.gone,.bV lL,.bV kp]) (λ(f,s,m) U=>vS N lL h5 kp h1 U s.1 s.2/\ys N s/\((m=true/\s.2=true/\nR s<f/\x0 aa (ep N aa) f s=iN N aa)\/((m=false\/s.2=false)/\s=iN N aa))) (λ(f,_,m)=>if m=true then f+1 else 0) (N+1,(lE N (aDD N aa) N,true),true) (λ_=>rfl) ⟨D5,ahS,.inl ⟨rfl,rfl,aY,rfl⟩⟩ rfl rfl ?_;rintro⟨f,s,m⟩ ck an ⟨p,J,hm⟩;rcases hm with⟨rfl,iK,aBw,va⟩|⟨anH,va⟩;have bm:=p.bm;rw[iK]at bm;refine .hp _ (bN bm rfl) ?_;obtain⟨f,rfl⟩:∃g,f=g+1:=⟨f-1,by omega⟩;have cG:=S8 (ep N aa) J dk;refine .mk Nat [2,3,6,9,10,11,40,41,42] (λk=>[.p 0 0,.p 1 0,.p 3 0,.p 4 0,.v (.func (.func 108) #[] #[.pointer (some ⟨lL,0,none⟩),.pointer (some ⟨kp,0,none⟩)]),.v (.bool (l6 aa (ep N aa) s k).2),.v (.slice T (ep N aa).length c),.v (R (ep N aa).length),.v (R k)]) (λ_=>[.own [.v (R N),.v (.slice A n cx)] 33,.own [.v (.slice T (ep N aa).length c),.v (.slice (some H) N N)] 159,.gone,.bV lL,.bV kp]) (λk U=>vS N lL h5 kp h1 U (l6 aa (ep N aa) s k).1.1 (l6 aa (ep N aa) s k).1.2/\k<=(ep N aa).length) (λk=>(ep N aa).length-k) 0 (λ_=>rfl) ⟨p,cO _⟩ rfl rfl ?_;rintro k eE aR ⟨zp,aBa⟩;refine aW (λbT=>?_) (λbT=>?_);have br:k<(ep N aa).length:=by omega
 have ad:=TS N aa aa.length _ (cS br);have C3:(ep N aa)[k]?=some (ep N aa)[k]:=bZ br;obtain⟨g,ak⟩:=oY.cc (by omega);obtain⟨ez,rD⟩:=av.cc (by omega);have kd:=(oY.mono zp.le).one ak (iM br) rfl;generalize(ep N aa)[k]=x at ad C3 kd;have nO:=(av.mono zp.le).row rD (iM ad);have tK:=vl (dk aa[x] (cS ad));have CC:aa[x]?=some aa[x]:=bZ ad;have hq:l6 aa (ep N aa) s (k+1)=w8 (l6 aa (ep N aa) s k).1 (l6 aa (ep N aa) s k).2 aa[x]:=by rw[l6,C3];simp only[CC]
 have hO:=(cG k).1.ok;generalize aa[x]=a at nO tK CC hq;obtain⟨fq,s1,d0,d1,g0,g1,t0,t1,_⟩:=tK;obtain⟨YD,_,_⟩:=TB hO (u:=a.src.toNat) (v:=a.dst.toNat) (x:=a.fR.toNat) (y:=a.take.toNat) (by omega) (by omega) (by omega);have st1:=ae1 N lL h5 kp a.src.toNat a.dst.toNat a.fR.toNat a.take.toNat h1 aR _ _ zp (by omega) (by omega) (by omega) (by omega) (by omega) hO.B2;have st2:=λcg(s6:oD)(vq:vS N lL h5 kp h1 cg s6.1 s6.2)(jy:∀q∈s6.1,yb q)=>ae1 N lL h5 kp a.dst.toNat a.src.toNat a.take.toNat a.fR.toNat h1 cg s6.1 s6.2 vq (by omega) (by omega) (by omega) (by omega) (by omega) jy;rw[q' fq,q' d0,q' (show 0<=a.fR by omega),q' (show 0<=a.take by omega)]at st1;simp only[q' fq,q' d0,q' (show 0<=a.fR by omega),q' (show 0<=a.take by omega)]at st2;unfold w8 at hq;generalize Fc:(l6 aa (ep N aa) s k).2=m0 at hq;have st1:Fn aH 108 #[R a.src,R a.dst,R a.fR,R a.take,.pointer (some ⟨lL,0,none⟩),.pointer (some ⟨kp,0,none⟩)] aR λr U=>r= .bool (kZ (l6 aa (ep N aa) s k).1 a.src.toNat a.dst.toNat a.fR.toNat a.take.toNat).1/\vS N lL h5 kp h1 U (kZ (l6 aa (ep N aa) s k).1 a.src.toNat a.dst.toNat a.fR.toNat a.take.toNat).2.1 (kZ (l6 aa (ep N aa) s k).1 a.src.toNat a.dst.toNat a.fR.toNat a.take.toNat).2.2:=st1;generalize kZ (l6 aa (ep N aa) s k).1 a.src.toNat a.dst.toNat a.fR.toNat a.take.toNat=w at YD st1 hq;obtain⟨fX,w⟩:=w;refine .m g ak ?_;refine .hp (R x) (by rw[bq];exact kd) ?_;refine .m ez rD ?_;refine .hp a.cells rfl (by rw[bq];exact nO) ?_;refine .done (.mk _ st1 ?_);rintro _ cg ⟨rfl,vq⟩;cases fX;have st2:Fn aH 108 #[R a.dst,R a.src,R a.take,R a.fR,.pointer (some ⟨lL,0,none⟩),.pointer (some ⟨kp,0,none⟩)] cg λr U=>r= .bool (kZ w a.dst.toNat a.src.toNat a.take.toNat a.fR.toNat).1/\vS N lL h5 kp h1 U (kZ w a.dst.toNat a.src.toNat a.take.toNat a.fR.toNat).2.1 (kZ w a.dst.toNat a.src.toNat a.take.toNat a.fR.toNat).2.2:=st2 cg w vq YD.B2;simp only[Bool.false_eq_true,k']at hq;generalize kZ w a.dst.toNat a.src.toNat a.take.toNat a.fR.toNat=z at st2 hq;obtain⟨Ud,z⟩:=z;refine .done (.mk _ st2 ?_);rintro _ fa ⟨rfl,I6⟩;cases Ud;refine .aLS ?_;refine⟨k+1,?_,rfl,⟨by rw[hq];exact I6,br⟩,by show(ep N aa).length- (k+1)<(ep N aa).length-k;omega⟩;rw[hq,<-Fc];rfl;refine .aLS ?_;refine⟨k+1,?_,rfl,⟨by rw[hq];exact I6,br⟩,by show(ep N aa).length- (k+1)<(ep N aa).length-k;omega⟩;rw[hq];rfl;simp only[la]at hq;refine .aLS ?_;refine⟨k+1,?_,rfl,⟨by rw[hq];exact vq,br⟩,by show(ep N aa).length- (k+1)<(ep N aa).length-k;omega⟩;rw[hq];rfl;have oN:k=(ep N aa).length:=by omega
 have hO:=(cG k).1;have am:l6 aa (ep N aa) s k=qh aa (ep N aa) s:=by rw[oN];rfl
 rw[am]at hO zp;rw[x0]at va;by_cases aw:(qh aa (ep N aa) s).2=true/\(qh aa (ep N aa) s).1.2=true;rw[aX aw]at va;have:=(hO.f aw.2).2.2.1 aw.1;exact⟨(f,(qh aa (ep N aa) s).1,(qh aa (ep N aa) s).2),by rw[am];rfl,rfl,⟨zp,hO.ok,.inl ⟨aw.1,aw.2,by omega,va⟩⟩,by simp only[aw.1,la];omega⟩;rw[aE aw]at va;refine⟨(0,(qh aa (ep N aa) s).1,(qh aa (ep N aa) s).2),by rw[am];rfl,rfl,⟨zp,hO.ok,.inr ⟨?_,va⟩⟩,?_⟩;cases h1:(qh aa (ep N aa) s).2 with
 |false=>exact .inl rfl
 |true=>
  cases ab:(qh aa (ep N aa) s).1.2 with
  |false=>exact .inr rfl
  |true=>exact absurd ⟨h1,ab⟩ aw
 simp only[la];split<;>omega;have fin:Ve h1 N (iN N aa) (.tuple #[.slice (some ⟨h5,0,none⟩) N N,.bool s.2]) an:=⟨p.le,h5,by rw[va],by rw[<-va];exact p.SY⟩;cases m;refine .hp _ (bN p.c5 rfl) ?_;refine .hp _ (bN p.bm rfl) ?_;exact .done fin;have iK:s.2=false:=by
  rcases anH with h|h;cases h;exact h
 have bm:=p.bm;rw[iK]at bm;refine .hp _ (bN bm rfl) ?_;refine .hp _ (bN p.c5 rfl) ?_;refine .hp _ (bN p.bm rfl) ?_;exact .done fin
def zi(home:List Nat)(s:List (Nat×Nat))(hm:Nat):Nat->Option Nat
 |0=>some 1
 |v+1=>match zi home s hm v with
  |none=>none
  |some k=>if home.getD v 0=hm then(if 4096<vh k (s.getD v (0,0)).2 then none else some (vh k (s.getD v (0,0)).2))else some k
def t'(home:List Nat)(s:List (Nat×Nat))(hm k:Nat)(r:List Nat):Nat->Option (List Nat)
 |0=>some r
 |v+1=>match t' home s hm k r v with
  |none=>none
  |some r=>if home.getD v 0=hm then(if 4096<k/(s.getD v (0,0)).2*(s.getD v (0,0)).1 then none else some (r.set v (k/(s.getD v (0,0)).2*(s.getD v (0,0)).1)))else some r
def Bj(N:Nat)(home:List Nat)(s:List (Nat×Nat))(hm:Nat)(r:List Nat):Option (List Nat):=match zi home s hm N with
 |none=>none
 |some k=>t' home s hm k r N
theorem abo{home:List Nat}{s:List (Nat×Nat)}{hm:Nat}:∀d v,zi home s hm v=none->zi home s hm (v+d)=none
 |0,v,h=>h
 |d+1,v,h=>by
  have:=abo d v h;show zi home s hm (v+d+1)=none;rw[zi,this]
theorem adZ{home:List Nat}{s:List (Nat×Nat)}{hm k:Nat}{r:List Nat}:∀d v,t' home s hm k r v=none->t' home s hm k r (v+d)=none
 |0,v,h=>h
 |d+1,v,h=>by
  have:=adZ d v h;show t' home s hm k r (v+d+1)=none;rw[t',this]
structure uv(N eJ:Nat)(ai h:I)(r:List Nat):Prop where
 n0:h eJ=some (.cells (r.map λz:Nat=>R (z:Int)).toArray 3 (0,0))
 len:r.length=N
 le:ai.le h
 z:ai eJ=none
theorem uv.up{eJ:Nat}{U:I}{r:List Nat}(p:uv N eJ ai h r)(le:h.le U):uv N eJ ai U r:=⟨le _ _ p.n0,p.len,I.le_trans p.le le,p.z⟩
theorem axq(N eJ hm c cB:Nat)(T:Option ar)(S H:ar)(home:List Nat)(s:List (Nat×Nat))(ai h:I)(r:List Nat)(p:uv N eJ ai h r)(db:N<=32)(wJ:uw ai)(x2:bg ai 1 (some H) N (home.map λz:Nat=>[R (z:Int)]))(Jt:bg ai 2 (some S) N (s.map kN))(aj:∀v,v<N->0<(s.getD v (0,0)).2/\(s.getD v (0,0)).1<=4096/\(s.getD v (0,0)).2<=4096):
 Fn aH 48 #[.agg #[.slice T cB c,.slice (some H) N N],.slice (some S) N N,R hm,.slice (some ⟨eJ,0,none⟩) N N] h λv U=>match Bj N home s hm r with
  |some cT=>v= .bool true/\uv N eJ ai U cT
  |none=>v= .bool false/\∃cT,uv N eJ ai U cT:=by
 refine b5 ash rfl ?_
 have Db:home.length=N:=by simpa using x2.len
 have L2:s.length=N:=by simpa using Jt.len
 have xe:∀{h1:I}{v:Nat},ai.le h1->v<N->h1.cell? (H.add (v*1))=some (R (home.getD v 0:Nat)):=λ{h1 v} le ah=>by
  have hh:v<home.length:=by omega
  rw[cN,bZ hh];exact(x2.mono le).one rfl (i:=v) (iM hh) rfl
 have V':∀{h1:I}{v:Nat},ai.le h1->v<N->h1.cell? ((S.add (v*2)).add 0)=some (R ((s.getD v (0,0)).1:Nat))/\h1.cell? ((S.add (v*2)).add 1)=some (R ((s.getD v (0,0)).2:Nat)):=λ{h1 v} le ah=>by
  have hh:v<s.length:=by omega
  rw[cN,bZ hh];have:=(Jt.mono le).row rfl (i:=v) (iM hh);exact⟨this 0 _ rfl,this 1 _ rfl⟩
 refine .mk (Nat×Nat) [1,2,3,4,9,17,18,19] (λ(v,k)=>[.v (.slice (some S) N N),.v (R hm),.v (.slice (some ⟨eJ,0,none⟩) N N),.p 0 0,.v (R k),.v (.slice (some H) N N),.v (R N),.v (R v)]) (λ_=>[.own [.v (.slice T cB c),.v (.slice (some H) N N)] 159]) (λ(v,k) U=>uv N eJ ai U r/\v<=N/\k<=4096/\zi home s hm v=some k) (λ(v,_)=>N-v) (0,1) (λ_=>rfl) ⟨p,cO _,by decide,rfl⟩ rfl rfl ?_
 rintro⟨v,k⟩ e h1 ⟨p,aoe,hk,aF⟩
 refine aW (λq=>?_) (λq=>?_)
 have ah:v<N:=by omega
 have uQ:zi home s hm (v+1)=if home.getD v 0=hm then(if 4096<vh k (s.getD v (0,0)).2 then none else some (vh k (s.getD v (0,0)).2))else some k:=by rw[zi,aF]
 obtain⟨qQ,iK,xA⟩:=aj v ah
 obtain⟨c1,c2⟩:=V' p.le ah
 refine .m H rfl ?_
 refine .hp _ (by rw[bq];exact xe p.le ah) ?_
 refine aW (λaD=>?_) (λaD=>?_)
 rw[aE (by omega)]at uQ
 refine .aLS ?_
 exact⟨(v+1,k),rfl,rfl,⟨p,ah,hk,uQ⟩,by show N- (v+1)<N-v;omega⟩
 rw[aX (by omega)]at uQ
 generalize s.getD v (0,0)=f at uQ qQ iK xA c1 c2
 obtain⟨f1,f2⟩:=f
 have Zx:=as' hk xA
 have abi:=λB ab=>as9 k f2 B ab hk xA
 simp only at uQ Zx
 generalize vh k f2=l at uQ Zx abi
 refine .m S rfl ?_
 refine .hp (R f2) (by rw[bq];exact c2) ?_
 refine .mk λB bW=>?_
 refine .done (.mk _ (abi B _ (wJ.mono (I.le_trans p.le (I.du bW))) (I.bP _ _ _)) ?_)
 rintro _ _ ⟨rfl,rfl⟩
 have hR:=p.up (I.du (J:=.cells #[R k,R f2] 3 (0,0)) bW)
 refine aW (λbj=>?_) (λbj=>?_)
 rw[aX (by omega)]at uQ
 have tz:Bj N home s hm r=none:=by
  have:=abo (N- (v+1)) _ uQ;rw[show v+1+(N- (v+1))=N by omega]at this;rw[Bj,this]
 refine .done ?_
 rw[tz]
 exact⟨rfl,r,hR⟩
 rw[aE (by omega)]at uQ
 refine .aLS ?_
 exact⟨(v+1,l),rfl,rfl,⟨hR,ah,by omega,uQ⟩,by show N- (v+1)<N-v;omega⟩
 have Q2:v=N:=by omega
 subst Q2
 have oI:Bj v home s hm r=t' home s hm k r v:=by rw[Bj,aF]
 refine .mk (Nat×List Nat) [1,2,3,9,47,48,49] (λ(w,_)=>[.v (.slice (some S) v v),.v (R hm),.v (.slice (some ⟨eJ,0,none⟩) v v),.v (R k),.v (.slice (some H) v v),.v (R v),.v (R w)]) (λ_=>[]) (λ(w,cT) U=>uv v eJ ai U cT/\w<=v/\t' home s hm k r w=some cT) (λ(w,_)=>v-w) (0,r) (λ_=>rfl) ⟨p,cO _,rfl⟩ rfl rfl ?_
 rintro⟨w,cT⟩ aI ab ⟨p,aBt,cG⟩
 refine aW (λaD=>?_) (λaD=>?_)
 have ah:w<v:=by omega
 have rr:t' home s hm k r (w+1)=if home.getD w 0=hm then(if 4096<k/(s.getD w (0,0)).2*(s.getD w (0,0)).1 then none else some (cT.set w (k/(s.getD w (0,0)).2*(s.getD w (0,0)).1)))else some cT:=by rw[t',cG]
 obtain⟨qQ,iK,xA⟩:=aj w ah
 obtain⟨c1,c2⟩:=V' p.le ah
 refine .m H rfl ?_
 refine .hp _ (by rw[bq];exact xe p.le ah) ?_
 refine aW (λbj=>?_) (λbj=>?_)
 rw[aX (by omega)]at rr
 generalize s.getD w (0,0)=f at rr qQ iK xA c1 c2
 obtain⟨f1,f2⟩:=f
 simp only at qQ iK xA c1 c2 rr
 have aB:k/f2<=4096:=hT (nU _ _) hk
 have rF:k/f2*f1<=4096*4096:=ns aB iK
 have E0:(k:Int).tdiv f2=((k/f2:Nat):Int):=by rw[Int.tdiv_eq_ediv_of_nonneg (by omega)];simp
 generalize k/f2=d at aB rF E0 rr
 have u2:(d:Int)*f1=((d*f1:Nat):Int):=by simp
 generalize d*f1=x at rF u2 rr
 refine .m S rfl ?_
 refine .hp (R f2) (by rw[bq];exact c2) ?_
 refine .mk (by omega) ?_
 rw[E0]
 refine .aLS ?_
 refine .m S rfl ?_
 refine .hp (R f1) (by rw[bq];exact c1) ?_
 conv=>whnf
 rw[u2]
 refine .aLS ?_
 refine .r ?_
 have auQ:over (cT.map λz:Nat=>R (z:Int)) w [R x]=some ((cT.set w x).map λz:Nat=>R (z:Int)):=by rw[ib _ _ _ (by simp[p.len];exact ah),nb]
 refine .hp eJ w 3 _ _ (by rw[add_lit,dJ,bq,ew]) p.n0 auQ ?_
 have kW:uv v eJ ai (ab.put eJ (.cells ((cT.set w x).map λz:Nat=>R (z:Int)).toArray 3 (0,0))) (cT.set w x):=⟨I.bP _ _ _,by simp[p.len],kT p.z p.le,p.z⟩
 have ai9:(ab.put eJ (.cells ((cT.set w x).map λz:Nat=>R (z:Int)).toArray 3 (0,0))).cell? ((ou eJ 0 none).add (w*1))=some (R x):=by
  rw[add_lit,dJ,ew];exact bN kW.n0 (by rw[dV,zT,aX rfl,aX (by rw[p.len];exact ah)];rfl)
 refine .r ?_
 refine .hp (R x) (by rw[bq];exact ai9) ?_
 refine aW (λbT=>?_) (λbT=>?_)
 rw[aX (by omega)]at rr
 have tz:t' home s hm k r v=none:=by
  have:=adZ (v- (w+1)) _ rr;rw[show w+1+(v- (w+1))=v by omega]at this;exact this
 refine .done ?_
 rw[oI,tz]
 exact⟨rfl,_,kW⟩
 rw[aE (by omega)]at rr
 refine .aLS ?_
 exact⟨(w+1,_),rfl,rfl,⟨kW,ah,rr⟩,by show v- (w+1)<v-w;omega⟩
 rw[aE (by omega)]at rr
 refine .aLS ?_
 exact⟨(w+1,cT),rfl,rfl,⟨p,ah,rr⟩,by show v- (w+1)<v-w;omega⟩
 have aoi:w=v:=by omega
 subst aoi
 refine .done ?_
 rw[oI,cG]
 exact⟨rfl,p⟩
end Go.Sx
