/- A part of the proof that the statement holds. Conditions: none. -/
import Derived.Test.YtlbdbpaelcnfgaaGreatDoorProg
import Derived.Test.YtlbdbpaelcnfgaaGreatDoorAC
open Bool renaming and_eq_true->fY
open Go renaming Code->ox,Deferred->l9,Value->ao,World->bb,wpIn_loop_ghost->afV,wpIn_mono->Bs
open Go.Code renaming loop->NK
open Go.Deferred renaming ofValue->Bz
open Go.Fence renaming wide->NS
open Go.Proofs.Tryz renaming prog->aH
open Go.World renaming alloc_heap_new->ain,putObj_heap_other->tk,putObj_size->rl,size_alloc->Vk
open List renaming pairwise_cons->Og
open List.Pairwise renaming nil->ag5
open Nat renaming ble->nT,le_of_ble_eq_true->rh,le_refl->dd
open Option renaming isSome_iff_exists->Ou
namespace Go.Sx
open Go.RowKit
set_option maxRecDepth 100000
set_option maxHeartbeats 0
set_option linter.all false
variable {bM:List Nat}
section
variable {P:Program}{ai h1:I}{aV cF:bb}{n:Nat}{β:Nat->Nat}{L:List LE}{h:I}{e:bY}{a:Act}{w:bb}{ro:Option Nat}{a7:List l9}
theorem av6{x y:ox}(oP:GX P n bM x)(oQ:GX P n bM y){f:Operand}{p bk fq:Nat}{first iz:Array ao}{Q:dL}(d:yf fq h1 cF a7)(m:cb h1 cF β L h w)(r:cJ n β L e a)(aF:de L)(nD:(bK f).get e= .v (.func (.func bk) first iz))(hp:Uz P n bk first.toList iz.toList p (λQ e L h=>nn P n true (lower P bM x) (λx e L h=>match x with|.normal=>nn P n true (lower P bM y) Q e L h|_=>False) e L h) Q e L h):
 (Code.rangeFunc f #[p] x y).wpIn (Fr none) 0 P (qV fq false a7 h1 cF n Q) {a with defers:=a7} w:=by
 obtain⟨c0,hp⟩:=hp
 obtain⟨f',ab,bJ,m1,fu,kY,_⟩:=rV _ _ _ _ m aF hp
 split at bJ
 rotate_left
 grind
 rename_i au fh
 have aw:=s3 m1.bR _ au fh
 obtain⟨j',iT,an,bB,m2,k7,oi,nk⟩:=mZ bJ β m1 fu
 have dU:cJ n j' iT e a:=(r.agree (λ_ _=>rfl) kY).agree nk oi
 have am7:({a with defers:=a7}:Act).eval f= .func (.func bk) first iz:=by
  have:=r.eval f;rw[nD]at this;have he:({a with defers:=a7}:Act).eval=a.eval:=by rfl
  rw[he];exact this
 have aog:c0.map (λt=>a.tmps.getD t undef)=au:=by
  rw[<-aw,List.map_map];exact List.map_congr_left λt _=>r.env t
 obtain⟨T,xs,ba,oz,K3,ZE,anV,al6,gA,round,done,stop⟩:=bB
 have tM:p<n:=Nat.lt_of_succ_le (rh anV)
 refine wpIn_rangeFunc λfn _=>?_
 let D:=w.heap.size
 let l:=w.heap.size+1
 let vt:Go.Loop:={state:=.ready,pending:=none,fn:=fn,tmps:=a.tmps,params:=#[p],assign:=x,body:=y,defers:=D}
 let rj:bb:=(w.alloc (.deferred (some []))).alloc (.loop vt)
 have HG:rj.heap.size=w.heap.size+2:=by show((w.heap.push _).push _).size=_;simp
 have YM:∀o,o<w.heap.size->rj.heap[o]?=w.heap[o]? :=λo ae=>by
  show((w.alloc _).alloc _).heap[o]?=_;rw[QB _ _ (by simp only[Vk];omega),QB _ _ ae]
 have amd:rj.heap[D]?=some (.deferred (some [])):=by
  show((w.alloc _).alloc _).heap[_]?=_;rw[QB _ _ (by simp only[Vk];omega)];exact ain _ _
 have ame:rj.heap[l]?=some (.loop vt):=by
  have:=ain (w.alloc (.deferred (some []))) (.loop vt);rw[Vk]at this;omega
 have alS:an l=none:=m2.bR.hw.out (by omega)
 have ig:Ext an w (an.put l (.loop vt)) rj:=⟨λo J ae=>by
  by_cases e:o=l;subst e;rw[I.bP]at ae;grind;rw[I.cf _ _ e]at ae;rw[YM o (m2.bR.hw.lt (by grind))];exact m2.bR.hw o J ae,rfl,rfl,rfl,by omega,λo ae _=>YM o ae,λo ae=>by
  by_cases e:o=l;omega;rw[I.cf _ _ e]at ae;grind⟩
 have m3:=m2.ext ig
 obtain⟨aR,iW,m4,yU⟩:=m3.awo
 have lZ:∀i k,b1 iT i=some k->k.live=true->j' i<w.heap.size:=λi k hk ah=>m2.lt i k hk ah
 have alT:aR D=none:=by
  cases q:aR D with
  |none=>rfl
  |some J=>
   exfalso;rcases yU D (by grind)with aP|⟨i,k,hk,ah,he⟩;rw[I.cf _ _ (by omega)]at aP;exact aP (m2.bR.hw.out (dd _))
   grind
 have P3:aR l≠none:=by
  rcases m4.fresh l (by rw[I.bP];simp)with aP|aP;omega;omega
 have d4:yf fq aR rj ({target:=.collected D,args:=#[]}::a7):=by
  have aj:=m2.size;refine⟨by rw[HG];have:=d.size;omega,λPk HP=>?_,?_⟩;rcases List.mem_cons.1 HP with rfl|HP;exact⟨D,rfl,Nat.le_trans d.size aj,by omega,alT,amd⟩;obtain⟨Gt,aM,aD,bj,bT,dz⟩:=d.each Pk HP;refine⟨Gt,aM,aD,by omega,iW.none_ bj bT,?_⟩;rw[iW.frame Gt bj bT];exact dz;refine Og.2 ⟨λPk HP he=>?_,d.diff⟩;obtain⟨Gt,aM,aD,bj,bT,dz⟩:=d.each Pk HP
  grind
 have Lj:=K3 l (λpre H=>∃aP,H=aP.put l (.loop vt)/\aP l=none/\ba pre aP) (λpre H=>∃ex c aP,aa7 ex=some c/\H=aP.put l (.loop {vt with state:=.done,pending:=some c})/\aP l=none/\oz ex pre aP) (λpre H⟨aP,aM,aD,bj⟩=>by rw[aM];exact ZE _ _ (I.du aD) (gA pre aP bj))
  (λpre z H⟨aP,aM,aD,bj⟩ y7=>by
   subst aM;exact awM oP oQ tM r.size aog aD vt rfl λds=>round ds pre z aP bj y7)
  _ ⟨an,rfl,alS,al6⟩
 have i8:first++#[.func (.yield l) #[] #[]]++iz=(first.toList++(.func (.yield l) #[] #[]::iz.toList)).toArray:=by
  simp
 refine⟨l,_,rj,{target:=.fn (.func bk) iz,args:=first++#[.func (.yield l) #[] #[]]},rj,bk,_,rj,run_enterLoop_outer fn a.tmps #[p] x y,?_,λ_ _=>trivial,?_,λaP=>(by cases aP),We ((Lj.run rj m4.bR.hw).mono ?_)⟩
 have lA:({a with defers:=a7}:Act).eval (.const (.func (.yield l) #[] #[]))= .func (.yield l) #[] #[]:=rfl
 simp[resolve,Bz,am7,lA]
 show(callFunc bk (first++#[.func (.yield l) #[] #[]]++iz)).run P rj=_
 rw[i8]
 exact xW Lj.body
 rintro ke aZ ⟨v,lH,rfl,aq,ad⟩
 have m5:=m4.ext ad
 show∃jump jf,(Instr.endLoop l).run P aZ= .ok jump jf/\_
 rcases aq with⟨aP,rfl,aD,bj⟩|⟨pre,y7,ex,c,aP,ae,rfl,aD,bj⟩
 have AU:=ad.hw l _ (I.bP _ _ _)
 refine⟨_,_,run_endLoop AU (by simp),?_⟩
 exact⟨aR,rj,_,j',e,iT,aP,a,iW,d4,(λe=>by cases e),m5.drop aD P3,dU,rfl,k7,done aP bj⟩
 have AU:=ad.hw l _ (I.bP _ _ _)
 refine⟨_,_,run_endLoop AU (by simp),?_⟩
 have iD:=stop ex pre aP y7 bj
 cases ex with
 |exit id=>
  injection ae with ae;subst ae;exact wpIn_exit ⟨aR,rj,_,j',e,iT,aP,a,iW,d4,(λe=>by cases e),m5.drop aD P3,dU,rfl,k7,iD⟩
 |ret=>
  injection ae with ae;subst ae;exact wpIn_ret ⟨aR,rj,_,j',e,iT,aP,a,iW,d4,(λe=>by cases e),m5.drop aD P3,dU,rfl,k7,iD⟩
 |_=>cases ae
theorem azN:∀(c:ox)(rd:Bool)(ro:Option Nat)(_:rd=false->ro=none)(Q:dL)(fq:Nat)(h1:I)(cF:bb)(a7:List l9)(β:Nat->Nat)(e:bY)(L:List LE)(h:I)(a:Act)(w:bb),yf fq h1 cF a7->cb h1 cF β L h w->cJ n β L e a->de L->nn P n rd (lower P bM c) Q e L h->c.wpIn (Fr ro) 0 P (qV fq rd a7 h1 cF n Q) {a with defers:=a7} w:=by
 intro c;induction c with
 |skip=>exactλrd ro hg Q fq h1 cF a7 β e L h a w d m r aF hp=>wpIn_skip (qV.IM d m r aF hp)
 |region id ops IX=>
  intro rd ro hg Q fq h1 cF a7 β e L h a w d m r aF hp;cases IX with
  |false=>
   refine wpIn_region_list ?_;exact afZ (K:=Q .normal) (λβ e L h a w _ m r aF hk=>qV.IM d m r aF hk) ops.toList β e L h a w m r aF hp
  |true=>
   simp only[lower]at hp;split at hp;exact hp.elim;exact hp.elim
 |seq x y oP oQ=>
  intro rd ro hg Q fq h1 cF a7 β e L h a w d m r aF hp;refine wpIn_seq (Bs (oP rd ro hg _ fq h1 cF a7 β e L h a w d m r aF hp) ?_);rintro ex ey aZ ⟨ab,dw,iX,bS,bl,bd,U,a0,cy,d2,aD,bc,cT,rfl,ef,aq⟩;cases ex with
  |normal=>exact Bs (oQ rd ro hg Q fq ab dw iX bS bl bd U a0 aZ d2 bc cT ef aq) λex a w aP=>aP.trans cy aD λ_ _ _=>id
  |_=>exact⟨ab,dw,iX,bS,bl,bd,U,a0,cy,d2,aD,bc,cT,rfl,ef,aq⟩
 |cond c x y oP oQ=>
  intro rd ro hg Q fq h1 cF a7 β e L h a w d m r aF hp;simp only[lower,nn]at hp;split at hp;rename_i b af;have aw:=r.eval c;rw[af]at aw;have eZ:({a with defers:=a7}:Act).eval c= .bool b:=by
   have he:({a with defers:=a7}:Act).eval=a.eval:=by rfl
   rw[he];exact aw
  have kQ:ub e (bK c) b=e:=by
   cases c with
   |tmp t=>exact l8 af
   |_=>rfl
  cases b with
  |true=>
   simp only[fe]at hp;rw[kQ]at hp;exact wpIn_cond_true eZ (oP rd ro hg Q fq h1 cF a7 β e L h a w d m r aF hp)
  |false=>
   simp only[fe]at hp;rw[kQ]at hp;exact wpIn_cond_false eZ (oQ rd ro hg Q fq h1 cF a7 β e L h a w d m r aF hp)
  grind
 |block id b bE=>
  intro rd ro hg Q fq h1 cF a7 β e L h a w d m r aF hp;refine wpIn_block (Bs (bE rd ro hg _ fq h1 cF a7 β e L h a w d m r aF hp) ?_);rintro ex ey aZ ⟨ab,dw,iX,bS,bl,bd,U,a0,cy,d2,aD,bc,cT,rfl,ef,aq⟩;cases ex with
  |exit o=>
   simp only[Exit.inBlock];simp only at aq;cases af:Nat.beq o id with
   |true=>
    rw[af]at aq;rw[aX (Nat.eq_of_beq_eq_true af)];exact⟨ab,dw,iX,bS,bl,bd,U,a0,cy,d2,aD,bc,cT,rfl,ef,aq⟩
   |false=>
    rw[af]at aq;rw[aE (λyK=>by simp_all)];exact⟨ab,dw,iX,bS,bl,bd,U,a0,cy,d2,aD,bc,cT,rfl,ef,aq⟩
  |_=>exact⟨ab,dw,iX,bS,bl,bd,U,a0,cy,d2,aD,bc,cT,rfl,ef,aq⟩
 |loop b bE=>
  intro rd ro hg Q fq h1 cF a7 β e L h a w d m r aF hp;simp only[lower,nn]at hp;have Hu:∀(X:Type)(c0:List Nat)(dr:X->List aA)(cz:X->List LE)(ax:X->I->Prop)(eM:X->Nat)(cQ:X)(dk:∀x,((dr x).all (ky (cz x))&&py (cz x) (cz x))=true),(∃β e h,ax cQ h/\cb h1 cF β (cz cQ) h w/\cJ n β (cz cQ) (iR e c0 (dr cQ)) a)->(∀x e h,ax x h->e9 (λL h=>nn P n rd (lower P bM b) (λex bl bd U=>match ex with
   |.normal=>e9 (λbd U=>∃cw,c0.map bl=dr cw/\bd.take (cz cw).length=cz cw/\ax cw U/\eM cw<eM x) bd U
   |ex=>Q ex bl bd U) (iR e c0 (dr x)) L h) (cz x) h)->(NK b).wpIn (Fr ro) 0 P (qV fq rd a7 h1 cF n Q) {a with defers:=a7} w:=by
   intro X c0 dr cz ax eM cQ dk iD round
   have wv:=λx=>(fY _ _).mp (dk x)
   obtain⟨β,e,h,jX,m,r⟩:=iD
   refine afV (λk a w=>∃x ab dw iX β e h a0,eM x=k/\ax x h/\ow h1 cF ab dw/\yf fq ab dw iX/\(rd=true->iX=a7/\ab=h1/\dw=cF)/\cb ab dw β (cz x) h w/\cJ n β (cz x) (iR e c0 (dr x)) a0/\a={a0 with defers:=iX}) (eM cQ) ⟨cQ,h1,cF,a7,β,e,h,a,rfl,jX,ow.refl _ _,d,λ_=>⟨rfl,rfl,rfl⟩,m,r,rfl⟩ ?_
   rintro k a w ⟨x,ab,dw,iX,β,e,h,a0,rfl,cG,cy,d2,aD,m,r,rfl⟩
   obtain⟨j9,f',an,bJ,m1,fu,kY,sF⟩:=mZ (round x e h cG) β m (My (wv x).2)
   refine Bs (bE rd ro hg _ fq ab dw iX j9 _ _ an a0 w d2 m1 (r.agree sF kY) fu bJ) ?_
   rintro ex ey aZ ⟨aR,jf,uP,bS,bl,bd,U,cP,iW,d4,bT,bc,cT,rfl,ef,aq⟩
   have jy:=cy.trans iW
   have dz:rd=true->uP=a7/\aR=h1/\jf=cF:=λam=>⟨(bT am).1.trans (aD am).1,(bT am).2.1.trans (aD am).2.1,(bT am).2.2.trans (aD am).2.2⟩
   cases ex with
   |normal=>
    obtain⟨j',iT,fa,⟨cw,hl,g5,wN,vz⟩,m2,k7,oi,nk⟩:=mZ aq bS bc ef;exact⟨eM cw,vz,cw,aR,jf,uP,j',_,fa,cP,rfl,wN,jy,d4,dz,by rw[<-g5];exact m2.trim _,(cT.agree nk oi).forget hl (wv cw).1,rfl⟩
   |_=>exact⟨aR,jf,uP,bS,bl,bd,U,cP,jy,d4,dz,bc,cT,rfl,ef,aq⟩
  have go:∀(X:Type)(c0:List Nat)(dr:X->List aA)(cz:X->List LE)(ax:X->I->Prop)(eM:X->Nat)(cQ:X)(dk:∀x,((dr x).all (ky (cz x))&&py (cz x) (cz x))=true),(∃β e h,ax cQ h/\cb h1 cF β (cz cQ) h w/\cJ n β (cz cQ) (iR e c0 (dr cQ)) a)->(∀x e h,ax x h->nn P n rd (lower P bM b) (λex bl bd U=>match ex with
   |.normal=>∃cw,c0.map bl=dr cw/\bd.take (cz cw).length=cz cw/\ax cw U/\eM cw<eM x
   |ex=>Q ex bl bd U) (iR e c0 (dr x)) (cz x) h)->(NK b).wpIn (Fr ro) 0 P (qV fq rd a7 h1 cF n Q) {a with defers:=a7} w:=by
   intro X c0 dr cz ax eM cQ dk iD round
   have wv:=λx=>(fY _ _).mp (dk x)
   obtain⟨β,e,h,jX,m,r⟩:=iD
   refine afV (λk a w=>∃x ab dw iX β e h a0,eM x=k/\ax x h/\ow h1 cF ab dw/\yf fq ab dw iX/\(rd=true->iX=a7/\ab=h1/\dw=cF)/\cb ab dw β (cz x) h w/\cJ n β (cz x) (iR e c0 (dr x)) a0/\a={a0 with defers:=iX}) (eM cQ) ⟨cQ,h1,cF,a7,β,e,h,a,rfl,jX,ow.refl _ _,d,λ_=>⟨rfl,rfl,rfl⟩,m,r,rfl⟩ ?_
   rintro k a w ⟨x,ab,dw,iX,β,e,h,a0,rfl,cG,cy,d2,aD,m,r,rfl⟩
   refine Bs (bE rd ro hg _ fq ab dw iX β _ _ h a0 w d2 m r (My (wv x).2) (round x e h cG)) ?_
   rintro ex ey aZ ⟨aR,jf,uP,bS,bl,bd,U,cP,iW,d4,bT,bc,cT,rfl,ef,aq⟩
   have jy:=cy.trans iW
   have dz:rd=true->uP=a7/\aR=h1/\jf=cF:=λam=>⟨(bT am).1.trans (aD am).1,(bT am).2.1.trans (aD am).2.1,(bT am).2.2.trans (aD am).2.2⟩
   cases ex with
   |normal=>
    obtain⟨cw,hl,g5,wN,vz⟩:=aq;exact⟨eM cw,vz,cw,aR,jf,uP,bS,_,U,cP,rfl,wN,jy,d4,dz,by rw[<-g5];exact bc.trim _,cT.forget hl (wv cw).1,rfl⟩
   |_=>exact⟨aR,jf,uP,bS,bl,bd,U,cP,jy,d4,dz,bc,cT,rfl,ef,aq⟩
  rcases hp with hp|⟨ve,hp⟩;rotate_left;refine afV (λk a w=>∃ab dw iX β e L h a0,ow h1 cF ab dw/\yf fq ab dw iX/\(rd=true->iX=a7/\ab=h1/\dw=cF)/\cb ab dw β L h w/\cJ n β L e a0/\a={a0 with defers:=iX}/\de L/\TV (λQ e L h=>nn P n rd (lower P bM b) Q e L h) Q k e L h) ve ⟨h1,cF,a7,β,e,L,h,a,ow.refl _ _,d,λ_=>⟨rfl,rfl,rfl⟩,m,r,rfl,aF,hp⟩ ?_;rintro k a w ⟨ab,dw,iX,β,e,L,h,a0,cy,d2,aD,m,r,rfl,aF,hp⟩;cases k with
  |zero=>exact hp.elim
  |succ k=>
   refine Bs (bE rd ro hg _ fq ab dw iX β e L h a0 w d2 m r aF hp) ?_;rintro ex ey aZ ⟨aR,jf,uP,bS,bl,bd,U,cP,iW,d4,bT,bc,cT,rfl,ef,aq⟩;have jy:=cy.trans iW;have dz:rd=true->uP=a7/\aR=h1/\jf=cF:=λam=>⟨(bT am).1.trans (aD am).1,(bT am).2.1.trans (aD am).2.1,(bT am).2.2.trans (aD am).2.2⟩;cases ex with
   |normal=>exact⟨k,Nat.lt_succ_self k,aR,jf,uP,bS,bl,bd,U,cP,jy,d4,dz,bc,cT,rfl,ef,aq⟩
   |_=>exact⟨aR,jf,uP,bS,bl,bd,U,cP,jy,d4,dz,bc,cT,rfl,ef,aq⟩
  obtain⟨Ua,hp⟩:=te.norm hp;obtain⟨L,h,hp,m,aF,QU,_⟩:=rV Ua _ _ _ m aF hp;have r:=r.agree (λ_ _=>rfl) QU;obtain⟨β,L,h,hp,m,aF,AP,sF⟩:=mZ hp β m aF;have r:=r.agree sF AP;cases hp with
  |mk X c0 dr cz ax eM cQ dk jX he mP round=>
   exact go X c0 dr cz ax eM cQ dk ⟨β,_,_,jX,by rw[<-mP];exact m.trim _,r.forget he ((fY _ _).mp (dk cQ)).1⟩ round
  |zl perm X c0 dr cz ax eM cQ dk jX he aB mP round=>
   exact go X c0 dr cz ax eM cQ dk ⟨_,_,_,jX,m.perm aB mP,r.perm he ((fY _ _).mp (dk cQ)).1⟩ round
  |kU perm X c0 dr cz ax eM cQ dk jX he aB mP round=>
   exact Hu X c0 dr cz ax eM cQ dk ⟨_,_,_,jX,m.perm aB mP,r.perm he ((fY _ _).mp (dk cQ)).1⟩ round
  |FA perm X c0 dr cz ax eM cQ dk jX he aB mP round=>
   exact Hu X c0 dr cz ax eM cQ dk ⟨_,_,_,jX,m.perm aB mP,(r.res m.bR).perm he ((fY _ _).mp (dk cQ)).1⟩ round
 |rangeFunc f be x y oP oQ=>
  intro rd ro hg Q fq h1 cF a7 β e L h a w d m r aF hp;simp only[lower,nn]at hp;split at hp;rename_i p bk first iz u' nD
  rw[hg rfl];have AO:be=#[p]:=Array.ext' u';subst AO;have adS:∀(c:ox),(∀(rd:Bool)(ro:Option Nat)(_:rd=false->ro=none)(Q:dL)(fq:Nat)(h1:I)(cF:bb)(a7:List l9)(β:Nat->Nat)(e:bY)(L:List LE)(h:I)(a:Act)(w:bb),yf fq h1 cF a7->cb h1 cF β L h w->cJ n β L e a->de L->nn P n rd (lower P bM c) Q e L h->c.wpIn (Fr ro) 0 P (qV fq rd a7 h1 cF n Q) {a with defers:=a7} w)->GX P n bM c:=λc bE l Q h1 cF β e L h a w m r aF hp=>
   bE true (some l) (λe=>by cases e) Q 0 h1 cF [] β e L h a w ⟨Nat.zero_le _,(λd aB=>by cases aB),ag5⟩ m r aF hp
  exact av6 (adS x oP) (adS y oQ) d m r aF nD hp
  grind
 |exit id=>exactλrd ro hg Q fq h1 cF a7 β e L h a w d m r aF hp=>wpIn_exit (qV.IM d m r aF hp)
 |scope b bE=>intro rd ro hg Q fq h1 cF a7 β e L h a w d m r aF hp;exact hp.elim
 |label l=>exactλrd ro hg Q fq h1 cF a7 β e L h a w d m r aF hp=>wpIn_label (qV.IM d m r aF hp)
 |goto l=>intro rd ro hg Q fq h1 cF a7 β e L h a w d m r aF hp;exact hp.elim
 |ret=>exactλrd ro hg Q fq h1 cF a7 β e L h a w d m r aF hp=>wpIn_ret (qV.IM d m r aF hp)
 |refuse azJ=>intro rd ro hg Q fq h1 cF a7 β e L h a w d m r aF hp;exact hp.elim
theorem cb.shut(m:cb ai aV β L h w){D:Nat}{J:Obj}(h1:aV.heap.size<=D)(aC:h D=none)(bH:∀i k,b1 L i=some k->k.live=true->β i≠D):cb ai aV β L h (w.putObj D J):=by
 refine⟨⟨λo gh ae=>?_,λi k hk=>Tv (m.bR.bR i k hk) (bH i k hk)⟩,m.hole,m.inj,λi k hk ah=>by rw[rl];exact m.lt i k hk ah,m.bX,m.os,m.tape,m.output,by rw[rl];exact m.size,λo ae en=>?_,m.fresh⟩;rw[tk (λe=>by grind)];exact m.bR.hw o gh ae;rw[tk (by omega)];exact m.frame o ae en
theorem abB{fn:Func}{tmps:Array ao}{ax:Ending->bb->Prop}:∀(a7:List l9)(w:bb),(a7.Pairwise (·≠·))->(∀d∈a7,∃D,d={target:=.collected D,args:=#[]}/\aV.heap.size<=D/\h D=none/\(∀i k,b1 L i=some k->k.live=true->β i≠D)/\w.heap[D]?=some (.deferred (some [])))->cb ai aV β L h w->(∀aZ,cb ai aV β L h aZ->∃v,(results fn tmps).run P aZ= .ok v aZ/\ax (.returned v) aZ)->LeavesInM NS 0 P fn tmps ax a7 .returning w
 |[],w,_,_,m,CH=>CH w m
 |d::a7,w,aB,p0,m,CH=>by
  obtain⟨D,rfl,aM,aD,bj,bT⟩:=p0 d (List.mem_cons_self ..);have hp:=Og.1 aB;refine⟨(by simp),.inl ⟨D,w.putObj D (.deferred none),rfl,run_takeDeferred bT,?_⟩⟩;refine abB a7 _ hp.2 (λlx EX=>?_) (m.shut aM aD bj) CH;obtain⟨Gt,rfl,hJ,z2,z3,z4⟩:=p0 lx (List.mem_cons_of_mem _ EX);refine⟨Gt,rfl,hJ,z2,z3,?_⟩;rw[tk (λe=>hp.1 _ EX (by rw[e]))];exact z4
theorem UB.intro{f:FuncId}{fn:Func}{c:ox}{ms:IR}{rs:List ResultVar}{args:List ao}{h:I}{Q:ao->I->Prop}(az:P.funcs[f]?=some fn)(af:fn.body=some c)(wq:(fn.name== "runtime.NumGoroutine")=false)(aC:fn.ntmps=n)(y':fn.results.toList=rs)(wk:lower P bM c=ms)(i8:nT args.length n=true)(ku:nn P n false ms (s9 P rs Q) (pU args) [] h):Fn P f args.toArray h Q:=by
 refine⟨⟨fn,az,by grind,wq⟩,λw hw=>?_⟩;subst wk;subst y';subst aC;refine(callsIn_wide (n:=0)).1 (callsIn_of_wp_marks az af trivial ?_);have m:cb h w (λ_=>0) [] h w:=⟨⟨hw,(λi l al=>by cases al)⟩,(λi l al=>by cases al),(λi o l b3 al=>by cases al),(λi l al=>by cases al),(λi l al=>by cases al),rfl,rfl,rfl,dd _,(λ_ _ _=>rfl),(λo ae=>.inl ae)⟩;have aF:de []:=λi cs ty ag=>by cases ag
 have aj:=azN (n:=fn.ntmps) c false none (λ_=>rfl) _ w.heap.size h w [] (λ_=>0) (pU args) [] h _ w ⟨dd _,(λd aB=>by cases aB),ag5⟩ m (EE (rh i8) _) aF ku;refine Bs aj ?_;rintro ex ey aZ ⟨ab,dw,iX,β,e,L,U,a0,cy,d2,_,bc,cT,rfl,ef,aq⟩;have fin:vy P fn.results.toList [] e L U (λej=>kX 40 ej (λL h=>match mY L ej with
  |some au=>e9 (λ_ h=>Q (jt au) h) L h
  |none=>False) L U)->LeavesInM NS 0 P fn a0.tmps (λke aZ=>∃v U,ke= .returned v/\Q v U/\Ext h w U aZ) iX .returning aZ:=by
  intro wy
  refine abB (ai:=h) (aV:=w) (β:=β) (L:=L) (h:=U) iX aZ d2.diff (λd aB=>?_) (bc.base cy) λpF abY=>?_
  obtain⟨D,aM,aD,bj,bT,dz⟩:=d2.each d aB
  refine⟨D,aM,aD,bc.out bj bT,λi k hk ah he=>?_,?_⟩
  rcases bc.bX i k hk ah with aP|aP
  grind
  omega
  rw[bc.frame D bj bT];exact dz
  obtain⟨ej,bJ,bB,eo⟩:=DP abY cT ef _ _ [] wy (by simp)
  simp only[List.nil_append]at bJ
  obtain⟨f',h1,aM,m1,fu,kY,_⟩:=rV ej _ _ _ abY ef bJ
  split at aM
  rename_i au fh
  have aw:=s3 m1.bR ej au fh
  obtain⟨j',iT,an,hJ,m2,_,_,_⟩:=mZ aM β m1 fu
  rw[aw]at eo
  exact⟨_,Je eo,_,an,rfl,hJ,⟨m2.bR.hw,m2.os,m2.tape,m2.output,m2.size,m2.frame,m2.fresh⟩⟩
  grind
 cases ex with
 |normal=>exact fin aq
 |ret=>exact fin aq
 |exit id=>exact aq.elim
 |goto l=>exact aq.elim
 |panic v7=>exact aq.elim
 |outgrown=>exact aq.elim
end
end Go.Sx
namespace Go.Sx
open Go.Proofs
set_option maxRecDepth 100000
set_option maxHeartbeats 0
set_option linter.all false
def qW:List Nat:=[55,30,126,128,129,28,74,131,132,73,77,81,82,83,84,85,134,135,185,186,89,48,108,112,39,40,41,97,98,99,100,101,142,144,145,146,88,33,1050,1100,1111,1131,1151,2156]
theorem Fz:Tryz.prog.follows .mixedOrders=true:=by kernel_rfl
structure b4(f n:Nat)where
 fn:Func
 az:Tryz.prog.funcs[f]?=some fn
 acD:fn.ntmps=n
 dD:(fn.name== "runtime.NumGoroutine")=false
 af:fn.body.isSome=true
 o:{x:IR//lower aH qW (fn.body.getD .skip)=x}
section
variable {f n:Nat}{args:List ao}{h:I}{Q:ao->I->Prop}
theorem b5(o:b4 f n)(a6:nT args.length n=true)(hw:c7 aH n o.o.1 (s9 aH o.fn.results.toList Q) (pU args) [] h):Fn aH f args.toArray h Q:=by
 obtain⟨c,aw⟩:=Ou.1 o.af;refine Fn.intro Fz o.az aw o.dD o.acD rfl (ms:=o.o.1) (bM:=qW) ?_ a6 hw;rw[<-o.o.2,aw];rfl
theorem agN(o:b4 f n)(a6:nT args.length n=true)(hw:e9 (λL h=>c7 aH n o.o.1 (s9 aH o.fn.results.toList Q) (pU args) L h) [] h):Fn aH f args.toArray h Q:=by
 obtain⟨c,aw⟩:=Ou.1 o.af;refine Fn.aoJ Fz o.az aw o.dD o.acD rfl (ms:=o.o.1) (bM:=qW) ?_ a6 hw;rw[<-o.o.2,aw];rfl
end
def cl:ox->ox|.seq a _=>a|.cond _ a _=>a|.block _ b=>b|.loop b=>b|.scope b=>b|c=>c
def tt:ox->ox|.seq _ b=>b|.cond _ _ b=>b|c=>c
def hQ:ox->Operand|.cond c _ _=>c|_=>.tmp 0
def ci:ox->Nat|.block i _=>i|_=>0
def d':ox->Nat|.seq _ _=>1|.cond _ _ _=>2|.block _ _=>3|.loop _=>4|_=>0
section
variable {c:ox}{x y:IR}{z:dB}{i:Nat}
theorem aS(aj:d' c=1)(h1:lower aH qW (cl c)=x)(ab:lower aH qW (tt c)=y):lower aH qW c= .seq x y:=by
 subst h1;subst ab;cases c with
 |seq a b=>rw[lower];rfl
 |_=>cases aj
theorem uN(aj:d' c=2)(ai:bK (hQ c)=z)(h1:lower aH qW (cl c)=x)(ab:lower aH qW (tt c)=y):lower aH qW c= .cond z x y:=by
 subst ai;subst h1;subst ab;cases c with
 |cond a b d=>rw[lower];rfl
 |_=>cases aj
theorem eV(aj:d' c=3)(h1:lower aH qW (cl c)=x):lower aH qW c= .block (ci c) x:=by
 subst h1;cases c with
 |block a b=>rw[lower];rfl
 |_=>cases aj
theorem iL(aj:d' c=4)(h1:lower aH qW (cl c)=x):lower aH qW c= .loop x:=by
 subst h1;cases c with
 |loop a=>rw[lower];rfl
 |_=>cases aj
theorem rS{c:ox}(J:hn)(h:lower aH qW c= .xP J):lower aH qW c= .xP J:=h
end
abbrev i(n:Int):dB:=.c (.int .i64 n)
abbrev J(d:Nat)(k:kk):cC:=⟨some d,none,k⟩
abbrev bU(k:kk):cC:=⟨none,none,k⟩
abbrev u(x:cC)(r:hn):hn:=.v x false false r
abbrev o1(x:cC)(r:hn):hn:=.v x true false r
abbrev aBW(x:cC)(r:hn):hn:=.v x true true r
abbrev bf(x:cC)(r:hn):hn:=.w x false r
abbrev us(x:cC)(r:hn):hn:=.w x true r
end Go.Sx
