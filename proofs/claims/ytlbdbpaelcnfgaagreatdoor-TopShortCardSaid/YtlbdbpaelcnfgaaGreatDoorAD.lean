/- A part of the proof that the statement holds. Conditions: none. -/
import Derived.Test.YtlbdbpaelcnfgaaGreatDoorProg
import Derived.Test.YtlbdbpaelcnfgaaGreatDoorAC
open Bool renaming and_eq_true->fY
open Go renaming Code->ox,Deferred->l9,Exit->fU,FuncId->jh,Program->dW,Value->ao,World->bb,run_endRound->aed,wpIn_loop_ghost->afV,wpIn_mono->Bs
open Go.Code renaming loop->NK
open Go.Deferred renaming ofValue->Bz
open Go.Fence renaming wide->NS
open Go.Proofs.Tryz renaming prog->aH
open Go.Value renaming int->h'
open Go.World renaming alloc_heap_new->ain,putObj_heap_other->tk,putObj_heap_same->OL,putObj_size->rl,size_alloc->Vk
open List renaming map_map->lo,pairwise_cons->Og
open List.Pairwise renaming nil->ag5
open Nat renaming beq->gN,ble->nT,le_of_ble_eq_true->rh,le_refl->dd,le_trans->hT,lt_of_lt_of_le->BN
open Option renaming isSome_iff_exists->Ou
namespace Go.Sx
open Go.RowKit
set_option maxRecDepth 100000
set_option maxHeartbeats 0
set_option linter.all false
variable{bM:List Nat}{l:Nat}{J:Obj}
def Iter(P:dW)(g:jh)(lead zC:List ao)(T:I->Prop)(xs:List Int):Prop:=
 ∀(l:Nat)(ba oz:List Int->I->Prop),(∀pre h,ba pre h->T h)->
  (∀pre x h,ba pre h->pre++[x]<+:xs->G0 P l #[.int .i64 x] h λv U=>(v= .bool true/\ba (pre++[x]) U)\/(v= .bool false/\oz (pre++[x]) U))->
  ∀h,ba [] h->Fn P g (lead++(.func (.yield l) #[] #[]::zC)).toArray h λ_ U=>ba xs U\/∃pre,pre<+:xs/\oz pre U
inductive agF(P:dW)(n:Nat)(g:jh)(lead zC:List ao)(p:Nat)(B:dL->bY->List LE->I->Prop)(Q:dL)(e:bY)(c0:List Nat)(au:List ao)(L:List LE)(h:I):Prop
 |mk (T:I->Prop) (xs:List Int) (ba:List Int->I->Prop) (oz:fU->List Int->I->Prop) (K3:Iter P g lead zC T xs) (ZE:∀h U,h.le U->T h->T U)
  (hp:Nat.blt p n=true) (ai:ba [] h) (gA:∀pre h,ba pre h->T h)
  (round:∀ds pre x h,ba pre h->pre++[x]<+:xs->B (λex _ bd U=>match ex with
   |.normal=>e9 (λ_ U=>ba (pre++[x]) U) bd U
   |.exit id=>e9 (λ_ U=>oz (.exit id) (pre++[x]) U) bd U
   |.ret=>e9 (λ_ U=>oz .ret (pre++[x]) U) bd U
   |_=>False) (h7 (iR ds c0 (au.map .v)) p (.v (.int .i64 x))) [] h)
  (done:∀U,ba xs U->Q .normal e L U)
  (stop:∀ex pre U,pre<+:xs->oz ex pre U->Q ex e L U)
inductive Uz(P:dW)(n:Nat)(g:jh)(lead zC:List ao)(p:Nat)(B:dL->bY->List LE->I->Prop)(Q:dL)(e:bY)(L:List LE)(h:I):Prop
 |mk (c0:List Nat) (k:kX 40 (c0.map e) (λL h=>match mY L (c0.map e)with
  |some au=>e9 (λL h=>agF P n g lead zC p B Q e c0 au L h) L h
  |none=>False) L h)
def TV(B:dL->bY->List LE->I->Prop)(Q:dL):Nat->bY->List LE->I->Prop
 |0,_,_,_=>False
 |k+1,e,L,h=>B (λex e L h=>match ex with|.normal=>TV B Q k e L h|ex=>Q ex e L h) e L h
inductive agH(B:dL->bY->List LE->I->Prop)(Q:dL)(e:bY)(L:List LE)(h:I):Prop
 |base (x:te B Q e L h)
 |aBV (k:Nat) (x:TV B Q k e L h)
def nn(P:dW)(n:Nat)(rd:Bool):IR->dL->bY->List LE->I->Prop
 |.skip,Q,e,L,h=>Q .normal e L h
 |.ch ops,Q,e,L,h=>Nt P n ops e L h (Q .normal)
 |.seq a b,Q,e,L,h=>nn P n rd a (λx e L h=>match x with|.normal=>nn P n rd b Q e L h|x=>Q x e L h) e L h
 |.cond c x y,Q,e,L,h=>(match c.get e with
  |.v (.bool b)=>fe b (nn P n rd x Q (ub e c true) L h) (nn P n rd y Q (ub e c false) L h)
  |_=>False)
 |.block id b,Q,e,L,h=>nn P n rd b (λx e L h=>match x with|.exit o=>bif gN o id then Q .normal e L h else Q (.exit o) e L h|x=>Q x e L h) e L h
 |.loop b,Q,e,L,h=>agH (λQ e L h=>nn P n rd b Q e L h) Q e L h
 |.exit id,Q,e,L,h=>Q (.exit id) e L h
 |.label,Q,e,L,h=>Q .normal e L h
 |.ret,Q,e,L,h=>Q .ret e L h
 |.ad4 f be a b,Q,e,L,h=>(match rd,be,f.get e with
  |false,[p],.v (.func (.func g) first iz)=>Uz P n g first.toList iz.toList p (λQ e L h=>nn P n true a (λx e L h=>match x with|.normal=>nn P n true b Q e L h|_=>False) e L h) Q e L h
  |_,_,_=>False)
 |_,_,_,_,_=>False
structure ow(ai:I)(aV:bb)(h1:I)(cF:bb):Prop where
 fresh:∀o,h1 o≠none->ai o≠none\/aV.heap.size<=o
 os:cF.os=aV.os
 tape:cF.tape=aV.tape
 output:cF.output=aV.output
 size:aV.heap.size<=cF.heap.size
 frame:∀o,o<aV.heap.size->ai o=none->cF.heap[o]?=aV.heap[o]?
section
variable{P:dW}{ai h1:I}{aV cF:bb}{n:Nat}{β:Nat->Nat}{L:List LE}{h:I}{e:bY}{a:Act}{w:bb}{ro:Option Nat}{a7:List l9}
theorem ow.refl(h:I)(w:bb):ow h w h w:=⟨λ_=>.inl,rfl,rfl,rfl,dd _,λ_ _ _=>rfl⟩
theorem ow.none_(b:ow ai aV h1 cF){o:Nat}(ae:o<aV.heap.size)(aC:ai o=none):h1 o=none:=by
 cases e:h1 o with
 |none=>rfl
 |some J=>
  rcases b.fresh o (by rw[e];simp)with aP|aP;exact absurd aC aP;omega
theorem ow.trans{ab:I}{dw:bb}(b:ow ai aV h1 cF)(c:ow h1 cF ab dw):ow ai aV ab dw:=
 ⟨λo ae=>by
  rcases c.fresh o ae with aP|aP;exact b.fresh o aP;exact .inr (hT b.size aP),c.os.trans b.os,c.tape.trans b.tape,c.output.trans b.output,hT b.size c.size,λo ae aC=>by
  rw[c.frame o (BN ae b.size) (b.none_ ae aC)];exact b.frame o ae aC⟩
theorem cb.base(b:ow ai aV h1 cF)(m:cb h1 cF β L h w):cb ai aV β L h w:=
 ⟨m.bR,m.hole,m.inj,m.lt,λi l al ah=>by
  rcases m.bX i l al ah with aP|aP;exact b.fresh _ aP;exact .inr (hT b.size aP),m.os.trans b.os,m.tape.trans b.tape,m.output.trans b.output,hT b.size m.size,λo ae aC=>by
  rw[m.frame o (BN ae b.size) (b.none_ ae aC)];exact b.frame o ae aC,λo ae=>by
  rcases m.fresh o ae with aP|aP;exact b.fresh o aP;exact .inr (hT b.size aP)⟩
theorem Tv{i:Nat}{k:LE}(aj:k.eL β i w)(bH:k.live=true->β i≠l):k.eL β i (w.putObj l J):=by
 cases k with
 |own cs ty=>simp only[LE.eL]at aj⊢;rw[tk (bH rfl)];exact aj
 |bV b=>exact aj
 |row bs size A n cap xs=>
  simp only[LE.eL]at aj⊢;obtain⟨⟨h1,ab⟩,an⟩:=aj;refine⟨⟨h1,?_⟩,an⟩;rcases ab with ab|⟨g,c,a8,aJ,aI,ck,eE⟩;exact .inl ab;injection aJ with aJ pa pT;have ak:=an _ aJ;subst aJ;simp only at ak;exact .inr ⟨g,c,a8,by rw[pT],aI,by rw[tk (by rw[ak];exact bH rfl)];exact ck,eE⟩
 |map f e1=>simp only[LE.eL]at aj⊢;rw[tk (bH rfl)];exact aj
 |gone=>trivial
theorem cb.avL(m:cb ai aV β L h w)(al:l<aV.heap.size)(aC:ai l=none)(J gh:Obj)(he:J=gh):cb ai (aV.putObj l J) β L h (w.putObj l gh):=by
 subst he;have bH:∀i k,b1 L i=some k->k.live=true->β i≠l:=λi k hk ah e=>by
  rcases m.bX i k hk ah with aP|aP;rw[e]at aP;exact aP aC;omega
 have aP:h l=none:=by
  cases q:h l with
  |none=>rfl
  |some J=>
   rcases m.fresh l (by rw[q];simp)with aP|aP;exact absurd aC aP;omega
 refine⟨⟨λo gh ae=>?_,λi k hk=>Tv (m.bR.bR i k hk) (bH i k hk)⟩,m.hole,m.inj,λi k hk ah=>by rw[rl];exact m.lt i k hk ah,λi k hk ah=>by rw[rl];exact m.bX i k hk ah,m.os,m.tape,m.output,by rw[rl,rl];exact m.size,λo ae en=>?_,λo ae=>by rw[rl];exact m.fresh o ae⟩;rw[tk (λe=>by rw[e,aP]at ae;cases ae)];exact m.bR.hw o gh ae;rw[rl]at ae;by_cases e:o=l;subst e;rw[OL ae,OL (BN ae m.size)];rw[tk e,tk e];exact m.frame o ae en
theorem cb.out(m:cb ai aV β L h w)(al:l<aV.heap.size)(aC:ai l=none):h l=none:=by
 cases q:h l with
 |none=>rfl
 |some J=>
  rcases m.fresh l (by rw[q];simp)with aP|aP;exact absurd aC aP;omega
theorem akE{mV nK eW:Obj}(m:cb ai (aV.putObj l nK) β L h w)(al:l<aV.heap.size)(aC:ai l=none):Ext (ai.put l mV) aV (h.put l eW) (w.putObj l eW):=by
 have aj:=m.size;rw[rl]at aj;refine⟨λo J ae=>?_,m.os,m.tape,m.output,by rw[rl];exact aj,λo ae en=>?_,λo ae=>?_⟩;by_cases e:o=l;subst e;rw[I.bP]at ae;rw[OL (BN al aj)];exact ae;rw[I.cf _ _ e]at ae;rw[tk e];exact m.bR.hw o J ae;by_cases e:o=l;subst e;rw[I.bP]at en;cases en;rw[I.cf _ _ e]at en;rw[tk e,m.frame o (by rw[rl];exact ae) en,tk e];by_cases e:o=l;subst e;rw[I.bP];exact .inl (by simp);rw[I.cf _ _ e]at ae⊢;rcases m.fresh o ae with aP|aP;exact .inl aP;rw[rl]at aP;exact .inr aP
structure yf(fq:Nat)(h1:I)(cF:bb)(a7:List l9):Prop where
 size:fq<=cF.heap.size
 each:∀d∈a7,∃D,d={target:=.collected D,args:=#[]}/\fq<=D/\D<cF.heap.size/\h1 D=none/\cF.heap[D]?=some (.deferred (some []))
 diff:a7.Pairwise (·≠·)
def qV(fq:Nat)(rd:Bool)(a7:List l9)(h1:I)(cF:bb)(n:Nat)(Q:dL):fU->Act->bb->Prop:=λx a w=>
 ∃ab dw iX β e L h a0,ow h1 cF ab dw/\yf fq ab dw iX/\(rd=true->iX=a7/\ab=h1/\dw=cF)/\cb ab dw β L h w/\cJ n β L e a0/\a={a0 with defers:=iX}/\de L/\Q x e L h
theorem qV.trans{fq:Nat}{rd:Bool}{iX:List l9}{ab:I}{dw:bb}{Q nt:dL}{x:fU}(b:ow h1 cF ab dw)(af:rd=true->iX=a7/\ab=h1/\dw=cF)(aq:∀e L h,Q x e L h->nt x e L h)(al:qV fq rd iX ab dw n Q x a w):qV fq rd a7 h1 cF n nt x a w:=by
 obtain⟨an,iI,ajW,β,e,L,h,a0,aM,aD,bj,bT,dz,j6,Bf,avX⟩:=al;refine⟨an,iI,ajW,β,e,L,h,a0,b.trans aM,aD,λam=>?_,bT,dz,j6,Bf,aq _ _ _ avX⟩;obtain⟨cP,a2,a3⟩:=af am;obtain⟨bL,cy,gE⟩:=bj am;exact⟨bL.trans cP,cy.trans a2,gE.trans a3⟩
theorem qV.IM{fq:Nat}{rd:Bool}{Q:dL}{x:fU}(d:yf fq h1 cF a7)(m:cb h1 cF β L h w)(r:cJ n β L e a)(aF:de L)(q:Q x e L h):qV fq rd a7 h1 cF n Q x {a with defers:=a7} w:=⟨h1,cF,a7,β,e,L,h,a,ow.refl _ _,d,λ_=>⟨rfl,rfl,rfl⟩,m,r,rfl,aF,q⟩
open Classical in
theorem cb.awo(m:cb ai aV β L h w):∃h1,ow ai aV h1 w/\cb h1 w β L h w/\∀o,h1 o≠none->h o≠none\/∃i k,b1 L i=some k/\k.live=true/\β i=o:=by
 let S:Nat->Prop:=λo=>h o≠none\/∃i k,b1 L i=some k/\k.live=true/\β i=o;have c5:∀o,S o->ai o≠none\/aV.heap.size<=o:=λo ae=>by
  rcases ae with ae|⟨i,k,hk,ah,rfl⟩;exact m.fresh o ae;exact m.bX i k hk ah
 let h1:I:=λo=>if S o then some (.deferred none)else none;have K1:∀o,h1 o≠none↔S o:=λo=>by
  show(if S o then some (Obj.deferred none)else none)≠none↔_;by_cases aj:S o<;>simp[aj]
 refine⟨h1,⟨λo ae=>c5 o ((K1 o).1 ae),m.os,m.tape,m.output,m.size,m.frame⟩,⟨m.bR,m.hole,m.inj,m.lt,λi k hk ah=>.inl ((K1 _).2 (.inr ⟨i,k,hk,ah,rfl⟩)),rfl,rfl,rfl,dd _,λ_ _ _=>rfl,λo ae=>.inl ((K1 o).2 (.inl ae))⟩,λo ae=>(K1 o).1 ae⟩
theorem cb.drop{gh:Obj}(m:cb ai aV β L (h.put l J) w)(aC:h l=none)(PZ:ai l≠none):cb ai aV β L h (w.putObj l gh):=by
 have bH:∀i k,b1 L i=some k->k.live=true->β i≠l:=λi k hk ah e=>by
  have:=m.hole i k hk ah;rw[e,I.bP]at this;cases this
 refine⟨⟨λo gh ae=>?_,λi k hk=>Tv (m.bR.bR i k hk) (bH i k hk)⟩,λi k hk ah=>?_,m.inj,λi k hk ah=>by rw[rl];exact m.lt i k hk ah,m.bX,m.os,m.tape,m.output,by rw[rl];exact m.size,λo ae en=>?_,λo ae=>?_⟩;have E6:o≠l:=λe=>by rw[e,aC]at ae;cases ae
 rw[tk E6];exact m.bR.hw o gh (by rw[I.cf _ _ E6];exact ae);have:=m.hole i k hk ah;rwa[I.cf _ _ (bH i k hk ah)]at this;have E6:o≠l:=λe=>by rw[e]at en;exact PZ en
 rw[tk E6];exact m.frame o ae en;have E6:o≠l:=λe=>by rw[e]at ae;exact ae aC
 exact m.fresh o (by rw[I.cf _ _ E6];exact ae)
theorem QB(w:bb)(J:Obj){o:Nat}(ae:o<w.heap.size):(w.alloc J).heap[o]?=w.heap[o]? :=by
 show(w.heap.push J)[o]?=_;rw[Array.getElem?_push,aE (by omega)]
def aa7:fU->Option ox
 |.exit id=>some (.exit id)
 |.ret=>some .ret
 |_=>none
abbrev GX(P:dW)(n:Nat)(bM:List Nat)(c:ox):Prop:=∀(l:Nat)(Q:dL) h1 cF β e L h a w,cb h1 cF β L h w->cJ n β L e a->de L->nn P n true (lower P bM c) Q e L h->c.wpIn (Fr (some l)) 0 P (qV 0 true [] h1 cF n Q) {a with defers:=[]} w
theorem awM{x y:ox}(oP:GX P n bM x)(oQ:GX P n bM y){p:Nat}(hp:p<n){c0:List Nat}{au:List ao}{tmps:Array ao}(aj:tmps.size=n)(fh:c0.map (λt=>tmps.getD t undef)=au){ba:List Int->I->Prop}{oz:fU->List Int->I->Prop}{pre:List Int}{z:Int}{fn:jh}{D:Nat}(al:h l=none)(vt:Go.Loop)(an2:vt={state:=.ready,pending:=none,fn:=fn,tmps:=tmps,params:=#[p],assign:=x,body:=y,defers:=D})
 (am:∀ds,nn P n true (lower P bM x) (λx e L h=>match x with
  |.normal=>nn P n true (lower P bM y) (λex _ bd U=>match ex with
   |.normal=>e9 (λ_ U=>ba (pre++[z]) U) bd U
   |.exit id=>e9 (λ_ U=>oz (.exit id) (pre++[z]) U) bd U
   |.ret=>e9 (λ_ U=>oz .ret (pre++[z]) U) bd U
   |_=>False) e L h
  |_=>False) (h7 (iR ds c0 (au.map .v)) p (.v (.int .i64 z))) [] h):
 G0 P l #[.int .i64 z] (h.put l (.loop vt)) λv lH=>(v= .bool true/\∃aP,lH=aP.put l (.loop vt)/\aP l=none/\ba (pre++[z]) aP)\/
  (v= .bool false/\∃ex c aP,aa7 ex=some c/\lH=aP.put l (.loop {vt with state:=.done,pending:=some c})/\aP l=none/\oz ex (pre++[z]) aP):=by
 subst an2
 intro w hw
 have AU:=hw l _ (I.bP _ _ _)
 have di:l<w.heap.size:=(Array.getElem?_eq_some_iff.1 AU).1
 have aok:lI h w:=hw.mono (I.du al)
 refine⟨_,_,_,_,run_yield AU rfl,?_⟩
 have LI:((#[p]:Array Nat).zip #[h' .i64 z]).foldl (λtmps(t,a)=>tmps.setIfInBounds t a) tmps=(({tmps:=tmps,defers:=[]}:Act).put (some p) (.int .i64 z)).tmps:=by
  simp[Act.put]
 refine roundIn_of_wpIn trivial ?_
 show Code.wpIn _ _ _ _ _ {tmps:=((#[p]:Array Nat).zip #[h' .i64 z]).foldl (λtmps(t,a)=>tmps.setIfInBounds t a) tmps,defers:=[]} _
 rw[LI]
 have m0:cb h w (λ_=>0) [] h w:=⟨⟨aok,(λi l al=>by cases al)⟩,(λi l al=>by cases al),(λi o l b3 al=>by cases al),(λi l al=>by cases al),(λi l al=>by cases al),rfl,rfl,rfl,dd _,(λ_ _ _=>rfl),(λo ae=>.inl ae)⟩
 have vr:cJ n (λ_=>0) [] (λt=>.v (tmps.getD t undef)) {tmps:=tmps,defers:=[]}:=⟨rfl,aj,λt=>rfl,λt=>trivial⟩
 have fv:=vr.forget (c0:=c0) (xs:=au.map .v) (bd:=[]) (by rw[<-fh,lo];rfl) (by
  rw[List.all_eq_true];intro u hu;obtain⟨v,_,rfl⟩:=List.mem_map.1 hu;rfl)
 have dU:=fv.put hp (x:=.v (.int .i64 z)) trivial
 have YA:de []:=λi cs ty ag=>by cases ag
 refine Bs (oP l _ h w _ _ [] h _ w m0 dU YA (am _)) ?_
 rintro ex cP cF ⟨ab,dw,iX,β,e,L,U,a0,_,_,bj,m1,avY,rfl,fu,aq⟩
 obtain⟨aJ,aI,ck⟩:=bj rfl
 subst aJ
 rw[aI,ck]at m1
 clear aI ck
 cases ex with
 |normal=>
  simp only[Exit.then]at aq⊢;have p6:=(m1.frame l di al).trans AU;refine⟨_,run_beginRound p6 rfl,?_⟩;have m2:=m1.avL di al (.loop {state:=.busy,pending:=none,fn:=fn,tmps:=tmps,params:=#[p],assign:=x,body:=y,defers:=D}) _ rfl;refine Bs (oQ l _ _ _ β e L U a0 _ m2 avY fu aq) ?_;rintro ex a2 iI ⟨aR,jf,uP,NC,ck,ma,an,a3,_,_,dz,m3,gi,rfl,Cy,Fb⟩;obtain⟨aJ,aI,ck⟩:=dz rfl;subst aJ;rw[aI,ck]at m3;clear aI ck;have C2:=(m3.frame l (by rw[rl];exact di) al).trans (OL di);have fin:∀{K:I->Prop}(eW:Obj),e9 (λ_ h=>K h) ma an->∃aP,K aP/\aP l=none/\Ext (h.put l (.loop {state:=.ready,pending:=none,fn:=fn,tmps:=tmps,params:=#[p],assign:=x,body:=y,defers:=D})) w (aP.put l eW) (iI.putObj l eW):=by
   intro K eW hk;obtain⟨aB4,aAq,cg,mu,m5,_,_,_⟩:=mZ hk NC m3 Cy;exact⟨cg,mu,m5.out (by rw[rl];exact di) al,akE m5 di al⟩
  cases ex with
  |normal=>
   obtain⟨aP,bJ,bB,eo⟩:=fin _ Fb;exact⟨_,_,aed none C2,_,_,rfl,.inl ⟨rfl,aP,rfl,bB,bJ⟩,eo⟩
  |exit id=>
   obtain⟨aP,bJ,bB,eo⟩:=fin _ Fb;exact⟨_,_,aed (some (.exit id)) C2,_,_,rfl,.inr ⟨rfl,.exit id,_,aP,rfl,rfl,bB,bJ⟩,eo⟩
  |ret=>
   obtain⟨aP,bJ,bB,eo⟩:=fin _ Fb;exact⟨_,_,aed (some .ret) C2,_,_,rfl,.inr ⟨rfl,.ret,_,aP,rfl,rfl,bB,bJ⟩,eo⟩
  |goto t=>exact Fb.elim
  |panic v7=>exact Fb.elim
  |outgrown=>exact Fb.elim
 |_=>exact aq.elim
end
section
variable{P:dW}{ai h1:I}{aV cF:bb}{n:Nat}{β:Nat->Nat}{L:List LE}{h:I}{e:bY}{a:Act}{w:bb}{ro:Option Nat}{a7:List l9}
theorem av6{x y:ox}(oP:GX P n bM x)(oQ:GX P n bM y){f:Operand}{p bk fq:Nat}{first iz:Array ao}{Q:dL}(d:yf fq h1 cF a7)(m:cb h1 cF β L h w)(r:cJ n β L e a)(aF:de L)(nD:(bK f).get e= .v (.func (.func bk) first iz))(hp:Uz P n bk first.toList iz.toList p (λQ e L h=>nn P n true (lower P bM x) (λx e L h=>match x with|.normal=>nn P n true (lower P bM y) Q e L h|_=>False) e L h) Q e L h):
 (Code.rangeFunc f #[p] x y).wpIn (Fr none) 0 P (qV fq false a7 h1 cF n Q) {a with defers:=a7} w:=by
 obtain⟨c0,hp⟩:=hp
 obtain⟨f',ab,bJ,m1,fu,kY,_⟩:=rV _ _ _ _ m aF hp
 split at bJ
 rotate_left
 grind
 rename_i au fh
 have aw:=s3 m1.bR _ au fh
 obtain⟨j',iT,an,bB,m2,k7,oi,nk⟩:=mZ bJ β m1 fu
 have dU:cJ n j' iT e a:=(r.agree (λ_ _=>rfl) kY).agree nk oi
 have am7:({a with defers:=a7}:Act).eval f= .func (.func bk) first iz:=by
  have:=r.eval f;rw[nD]at this;have he:({a with defers:=a7}:Act).eval=a.eval:=by rfl
  rw[he];exact this
 have aog:c0.map (λt=>a.tmps.getD t undef)=au:=by
  rw[<-aw,lo];exact List.map_congr_left λt _=>r.env t
 obtain⟨T,xs,ba,oz,K3,ZE,anV,al6,gA,round,done,stop⟩:=bB
 have tM:p<n:=Nat.lt_of_succ_le (rh anV)
 refine wpIn_rangeFunc λfn _=>?_
 let D:=w.heap.size
 let l:=w.heap.size+1
 let vt:Go.Loop:={state:=.ready,pending:=none,fn:=fn,tmps:=a.tmps,params:=#[p],assign:=x,body:=y,defers:=D}
 let rj:bb:=(w.alloc (.deferred (some []))).alloc (.loop vt)
 have HG:rj.heap.size=w.heap.size+2:=by show((w.heap.push _).push _).size=_;simp
 have YM:∀o,o<w.heap.size->rj.heap[o]?=w.heap[o]? :=λo ae=>by
  show((w.alloc _).alloc _).heap[o]?=_;rw[QB _ _ (by simp only[Vk];omega),QB _ _ ae]
 have amd:rj.heap[D]?=some (.deferred (some [])):=by
  show((w.alloc _).alloc _).heap[_]?=_;rw[QB _ _ (by simp only[Vk];omega)];exact ain _ _
 have ame:rj.heap[l]?=some (.loop vt):=by
  have:=ain (w.alloc (.deferred (some []))) (.loop vt);rw[Vk]at this;omega
 have alS:an l=none:=m2.bR.hw.out (by omega)
 have ig:Ext an w (an.put l (.loop vt)) rj:=⟨λo J ae=>by
  by_cases e:o=l;subst e;rw[I.bP]at ae;grind;rw[I.cf _ _ e]at ae;rw[YM o (m2.bR.hw.lt (by grind))];exact m2.bR.hw o J ae,rfl,rfl,rfl,by omega,λo ae _=>YM o ae,λo ae=>by
  by_cases e:o=l;omega;rw[I.cf _ _ e]at ae;grind⟩
 have m3:=m2.ext ig
 obtain⟨aR,iW,m4,yU⟩:=m3.awo
 have lZ:∀i k,b1 iT i=some k->k.live=true->j' i<w.heap.size:=λi k hk ah=>m2.lt i k hk ah
 have alT:aR D=none:=by
  cases q:aR D with
  |none=>rfl
  |some J=>
   exfalso;rcases yU D (by grind)with aP|⟨i,k,hk,ah,he⟩;rw[I.cf _ _ (by omega)]at aP;exact aP (m2.bR.hw.out (dd _))
   grind
 have P3:aR l≠none:=by
  rcases m4.fresh l (by rw[I.bP];simp)with aP|aP;omega;omega
 have d4:yf fq aR rj ({target:=.collected D,args:=#[]}::a7):=by
  have aj:=m2.size;refine⟨by rw[HG];have:=d.size;omega,λPk HP=>?_,?_⟩;rcases List.mem_cons.1 HP with rfl|HP;exact⟨D,rfl,hT d.size aj,by omega,alT,amd⟩;obtain⟨Gt,aM,aD,bj,bT,dz⟩:=d.each Pk HP;refine⟨Gt,aM,aD,by omega,iW.none_ bj bT,?_⟩;rw[iW.frame Gt bj bT];exact dz;refine Og.2 ⟨λPk HP he=>?_,d.diff⟩;obtain⟨Gt,aM,aD,bj,bT,dz⟩:=d.each Pk HP
  grind
 have Lj:=K3 l (λpre H=>∃aP,H=aP.put l (.loop vt)/\aP l=none/\ba pre aP) (λpre H=>∃ex c aP,aa7 ex=some c/\H=aP.put l (.loop {vt with state:=.done,pending:=some c})/\aP l=none/\oz ex pre aP) (λpre H⟨aP,aM,aD,bj⟩=>by rw[aM];exact ZE _ _ (I.du aD) (gA pre aP bj))
  (λpre z H⟨aP,aM,aD,bj⟩ y7=>by
   subst aM;exact awM oP oQ tM r.size aog aD vt rfl λds=>round ds pre z aP bj y7)
  _ ⟨an,rfl,alS,al6⟩
 have i8:first++#[.func (.yield l) #[] #[]]++iz=(first.toList++(.func (.yield l) #[] #[]::iz.toList)).toArray:=by
  simp
 refine⟨l,_,rj,{target:=.fn (.func bk) iz,args:=first++#[.func (.yield l) #[] #[]]},rj,bk,_,rj,run_enterLoop_outer fn a.tmps #[p] x y,?_,λ_ _=>trivial,?_,λaP=>(by cases aP),We ((Lj.run rj m4.bR.hw).mono ?_)⟩
 have lA:({a with defers:=a7}:Act).eval (.const (.func (.yield l) #[] #[]))= .func (.yield l) #[] #[]:=rfl
 simp[resolve,Bz,am7,lA]
 show(callFunc bk (first++#[.func (.yield l) #[] #[]]++iz)).run P rj=_
 rw[i8]
 exact xW Lj.body
 rintro ke aZ ⟨v,lH,rfl,aq,ad⟩
 have m5:=m4.ext ad
 show∃jump jf,(Instr.endLoop l).run P aZ= .ok jump jf/\_
 rcases aq with⟨aP,rfl,aD,bj⟩|⟨pre,y7,ex,c,aP,ae,rfl,aD,bj⟩
 have AU:=ad.hw l _ (I.bP _ _ _)
 refine⟨_,_,run_endLoop AU (by simp),?_⟩
 exact⟨aR,rj,_,j',e,iT,aP,a,iW,d4,(λe=>by cases e),m5.drop aD P3,dU,rfl,k7,done aP bj⟩
 have AU:=ad.hw l _ (I.bP _ _ _)
 refine⟨_,_,run_endLoop AU (by simp),?_⟩
 have iD:=stop ex pre aP y7 bj
 cases ex with
 |exit id=>
  injection ae with ae;subst ae;exact wpIn_exit ⟨aR,rj,_,j',e,iT,aP,a,iW,d4,(λe=>by cases e),m5.drop aD P3,dU,rfl,k7,iD⟩
 |ret=>
  injection ae with ae;subst ae;exact wpIn_ret ⟨aR,rj,_,j',e,iT,aP,a,iW,d4,(λe=>by cases e),m5.drop aD P3,dU,rfl,k7,iD⟩
 |_=>cases ae
theorem azN:∀(c:ox)(rd:Bool)(ro:Option Nat)(_:rd=false->ro=none)(Q:dL)(fq:Nat)(h1:I)(cF:bb)(a7:List l9)(β:Nat->Nat)(e:bY)(L:List LE)(h:I)(a:Act)(w:bb),yf fq h1 cF a7->cb h1 cF β L h w->cJ n β L e a->de L->nn P n rd (lower P bM c) Q e L h->c.wpIn (Fr ro) 0 P (qV fq rd a7 h1 cF n Q) {a with defers:=a7} w:=by
 intro c;induction c with
 |skip=>exactλrd ro hg Q fq h1 cF a7 β e L h a w d m r aF hp=>wpIn_skip (qV.IM d m r aF hp)
 |region id ops IX=>
  intro rd ro hg Q fq h1 cF a7 β e L h a w d m r aF hp;cases IX with
  |false=>
   refine wpIn_region_list ?_;exact afZ (K:=Q .normal) (λβ e L h a w _ m r aF hk=>qV.IM d m r aF hk) ops.toList β e L h a w m r aF hp
  |true=>
   simp only[lower]at hp;split at hp;exact hp.elim;exact hp.elim
 |seq x y oP oQ=>
  intro rd ro hg Q fq h1 cF a7 β e L h a w d m r aF hp;refine wpIn_seq (Bs (oP rd ro hg _ fq h1 cF a7 β e L h a w d m r aF hp) ?_);rintro ex ey aZ ⟨ab,dw,iX,bS,bl,bd,U,a0,cy,d2,aD,bc,cT,rfl,ef,aq⟩;cases ex with
  |normal=>exact Bs (oQ rd ro hg Q fq ab dw iX bS bl bd U a0 aZ d2 bc cT ef aq) λex a w aP=>aP.trans cy aD λ_ _ _=>id
  |_=>exact⟨ab,dw,iX,bS,bl,bd,U,a0,cy,d2,aD,bc,cT,rfl,ef,aq⟩
 |cond c x y oP oQ=>
  intro rd ro hg Q fq h1 cF a7 β e L h a w d m r aF hp;simp only[lower,nn]at hp;split at hp;rename_i b af;have aw:=r.eval c;rw[af]at aw;have eZ:({a with defers:=a7}:Act).eval c= .bool b:=by
   have he:({a with defers:=a7}:Act).eval=a.eval:=by rfl
   rw[he];exact aw
  have kQ:ub e (bK c) b=e:=by
   cases c with
   |tmp t=>exact l8 af
   |_=>rfl
  cases b with
  |true=>
   simp only[fe]at hp;rw[kQ]at hp;exact wpIn_cond_true eZ (oP rd ro hg Q fq h1 cF a7 β e L h a w d m r aF hp)
  |false=>
   simp only[fe]at hp;rw[kQ]at hp;exact wpIn_cond_false eZ (oQ rd ro hg Q fq h1 cF a7 β e L h a w d m r aF hp)
  grind
 |block id b bE=>
  intro rd ro hg Q fq h1 cF a7 β e L h a w d m r aF hp;refine wpIn_block (Bs (bE rd ro hg _ fq h1 cF a7 β e L h a w d m r aF hp) ?_);rintro ex ey aZ ⟨ab,dw,iX,bS,bl,bd,U,a0,cy,d2,aD,bc,cT,rfl,ef,aq⟩;cases ex with
  |exit o=>
   simp only[Exit.inBlock];simp only at aq;cases af:gN o id with
   |true=>
    rw[af]at aq;rw[aX (Nat.eq_of_beq_eq_true af)];exact⟨ab,dw,iX,bS,bl,bd,U,a0,cy,d2,aD,bc,cT,rfl,ef,aq⟩
   |false=>
    rw[af]at aq;rw[aE (λyK=>by simp_all)];exact⟨ab,dw,iX,bS,bl,bd,U,a0,cy,d2,aD,bc,cT,rfl,ef,aq⟩
  |_=>exact⟨ab,dw,iX,bS,bl,bd,U,a0,cy,d2,aD,bc,cT,rfl,ef,aq⟩
 |loop b bE=>
  intro rd ro hg Q fq h1 cF a7 β e L h a w d m r aF hp;simp only[lower,nn]at hp;have Hu:∀(X:Type)(c0:List Nat)(dr:X->List aA)(cz:X->List LE)(ax:X->I->Prop)(eM:X->Nat)(cQ:X)(dk:∀x,((dr x).all (ky (cz x))&&py (cz x) (cz x))=true),(∃β e h,ax cQ h/\cb h1 cF β (cz cQ) h w/\cJ n β (cz cQ) (iR e c0 (dr cQ)) a)->(∀x e h,ax x h->e9 (λL h=>nn P n rd (lower P bM b) (λex bl bd U=>match ex with
   |.normal=>e9 (λbd U=>∃cw,c0.map bl=dr cw/\bd.take (cz cw).length=cz cw/\ax cw U/\eM cw<eM x) bd U
   |ex=>Q ex bl bd U) (iR e c0 (dr x)) L h) (cz x) h)->(NK b).wpIn (Fr ro) 0 P (qV fq rd a7 h1 cF n Q) {a with defers:=a7} w:=by
   intro X c0 dr cz ax eM cQ dk iD round
   have wv:=λx=>(fY _ _).mp (dk x)
   obtain⟨β,e,h,jX,m,r⟩:=iD
   refine afV (λk a w=>∃x ab dw iX β e h a0,eM x=k/\ax x h/\ow h1 cF ab dw/\yf fq ab dw iX/\(rd=true->iX=a7/\ab=h1/\dw=cF)/\cb ab dw β (cz x) h w/\cJ n β (cz x) (iR e c0 (dr x)) a0/\a={a0 with defers:=iX}) (eM cQ) ⟨cQ,h1,cF,a7,β,e,h,a,rfl,jX,ow.refl _ _,d,λ_=>⟨rfl,rfl,rfl⟩,m,r,rfl⟩ ?_
   rintro k a w ⟨x,ab,dw,iX,β,e,h,a0,rfl,cG,cy,d2,aD,m,r,rfl⟩
   obtain⟨j9,f',an,bJ,m1,fu,kY,sF⟩:=mZ (round x e h cG) β m (My (wv x).2)
   refine Bs (bE rd ro hg _ fq ab dw iX j9 _ _ an a0 w d2 m1 (r.agree sF kY) fu bJ) ?_
   rintro ex ey aZ ⟨aR,jf,uP,bS,bl,bd,U,cP,iW,d4,bT,bc,cT,rfl,ef,aq⟩
   have jy:=cy.trans iW
   have dz:rd=true->uP=a7/\aR=h1/\jf=cF:=λam=>⟨(bT am).1.trans (aD am).1,(bT am).2.1.trans (aD am).2.1,(bT am).2.2.trans (aD am).2.2⟩
   cases ex with
   |normal=>
    obtain⟨j',iT,fa,⟨cw,hl,g5,wN,vz⟩,m2,k7,oi,nk⟩:=mZ aq bS bc ef;exact⟨eM cw,vz,cw,aR,jf,uP,j',_,fa,cP,rfl,wN,jy,d4,dz,by rw[<-g5];exact m2.trim _,(cT.agree nk oi).forget hl (wv cw).1,rfl⟩
   |_=>exact⟨aR,jf,uP,bS,bl,bd,U,cP,jy,d4,dz,bc,cT,rfl,ef,aq⟩
  have go:∀(X:Type)(c0:List Nat)(dr:X->List aA)(cz:X->List LE)(ax:X->I->Prop)(eM:X->Nat)(cQ:X)(dk:∀x,((dr x).all (ky (cz x))&&py (cz x) (cz x))=true),(∃β e h,ax cQ h/\cb h1 cF β (cz cQ) h w/\cJ n β (cz cQ) (iR e c0 (dr cQ)) a)->(∀x e h,ax x h->nn P n rd (lower P bM b) (λex bl bd U=>match ex with
   |.normal=>∃cw,c0.map bl=dr cw/\bd.take (cz cw).length=cz cw/\ax cw U/\eM cw<eM x
   |ex=>Q ex bl bd U) (iR e c0 (dr x)) (cz x) h)->(NK b).wpIn (Fr ro) 0 P (qV fq rd a7 h1 cF n Q) {a with defers:=a7} w:=by
   intro X c0 dr cz ax eM cQ dk iD round
   have wv:=λx=>(fY _ _).mp (dk x)
   obtain⟨β,e,h,jX,m,r⟩:=iD
   refine afV (λk a w=>∃x ab dw iX β e h a0,eM x=k/\ax x h/\ow h1 cF ab dw/\yf fq ab dw iX/\(rd=true->iX=a7/\ab=h1/\dw=cF)/\cb ab dw β (cz x) h w/\cJ n β (cz x) (iR e c0 (dr x)) a0/\a={a0 with defers:=iX}) (eM cQ) ⟨cQ,h1,cF,a7,β,e,h,a,rfl,jX,ow.refl _ _,d,λ_=>⟨rfl,rfl,rfl⟩,m,r,rfl⟩ ?_
   rintro k a w ⟨x,ab,dw,iX,β,e,h,a0,rfl,cG,cy,d2,aD,m,r,rfl⟩
   refine Bs (bE rd ro hg _ fq ab dw iX β _ _ h a0 w d2 m r (My (wv x).2) (round x e h cG)) ?_
   rintro ex ey aZ ⟨aR,jf,uP,bS,bl,bd,U,cP,iW,d4,bT,bc,cT,rfl,ef,aq⟩
   have jy:=cy.trans iW
   have dz:rd=true->uP=a7/\aR=h1/\jf=cF:=λam=>⟨(bT am).1.trans (aD am).1,(bT am).2.1.trans (aD am).2.1,(bT am).2.2.trans (aD am).2.2⟩
   cases ex with
   |normal=>
    obtain⟨cw,hl,g5,wN,vz⟩:=aq;exact⟨eM cw,vz,cw,aR,jf,uP,bS,_,U,cP,rfl,wN,jy,d4,dz,by rw[<-g5];exact bc.trim _,cT.forget hl (wv cw).1,rfl⟩
   |_=>exact⟨aR,jf,uP,bS,bl,bd,U,cP,jy,d4,dz,bc,cT,rfl,ef,aq⟩
  rcases hp with hp|⟨ve,hp⟩;rotate_left;refine afV (λk a w=>∃ab dw iX β e L h a0,ow h1 cF ab dw/\yf fq ab dw iX/\(rd=true->iX=a7/\ab=h1/\dw=cF)/\cb ab dw β L h w/\cJ n β L e a0/\a={a0 with defers:=iX}/\de L/\TV (λQ e L h=>nn P n rd (lower P bM b) Q e L h) Q k e L h) ve ⟨h1,cF,a7,β,e,L,h,a,ow.refl _ _,d,λ_=>⟨rfl,rfl,rfl⟩,m,r,rfl,aF,hp⟩ ?_;rintro k a w ⟨ab,dw,iX,β,e,L,h,a0,cy,d2,aD,m,r,rfl,aF,hp⟩;cases k with
  |zero=>exact hp.elim
  |succ k=>
   refine Bs (bE rd ro hg _ fq ab dw iX β e L h a0 w d2 m r aF hp) ?_;rintro ex ey aZ ⟨aR,jf,uP,bS,bl,bd,U,cP,iW,d4,bT,bc,cT,rfl,ef,aq⟩;have jy:=cy.trans iW;have dz:rd=true->uP=a7/\aR=h1/\jf=cF:=λam=>⟨(bT am).1.trans (aD am).1,(bT am).2.1.trans (aD am).2.1,(bT am).2.2.trans (aD am).2.2⟩;cases ex with
   |normal=>exact⟨k,Nat.lt_succ_self k,aR,jf,uP,bS,bl,bd,U,cP,jy,d4,dz,bc,cT,rfl,ef,aq⟩
   |_=>exact⟨aR,jf,uP,bS,bl,bd,U,cP,jy,d4,dz,bc,cT,rfl,ef,aq⟩
  obtain⟨Ua,hp⟩:=te.norm hp;obtain⟨L,h,hp,m,aF,QU,_⟩:=rV Ua _ _ _ m aF hp;have r:=r.agree (λ_ _=>rfl) QU;obtain⟨β,L,h,hp,m,aF,AP,sF⟩:=mZ hp β m aF;have r:=r.agree sF AP;cases hp with
  |mk X c0 dr cz ax eM cQ dk jX he mP round=>
   exact go X c0 dr cz ax eM cQ dk ⟨β,_,_,jX,by rw[<-mP];exact m.trim _,r.forget he ((fY _ _).mp (dk cQ)).1⟩ round
  |zl perm X c0 dr cz ax eM cQ dk jX he aB mP round=>
   exact go X c0 dr cz ax eM cQ dk ⟨_,_,_,jX,m.perm aB mP,r.perm he ((fY _ _).mp (dk cQ)).1⟩ round
  |kU perm X c0 dr cz ax eM cQ dk jX he aB mP round=>
   exact Hu X c0 dr cz ax eM cQ dk ⟨_,_,_,jX,m.perm aB mP,r.perm he ((fY _ _).mp (dk cQ)).1⟩ round
  |FA perm X c0 dr cz ax eM cQ dk jX he aB mP round=>
   exact Hu X c0 dr cz ax eM cQ dk ⟨_,_,_,jX,m.perm aB mP,(r.res m.bR).perm he ((fY _ _).mp (dk cQ)).1⟩ round
 |rangeFunc f be x y oP oQ=>
  intro rd ro hg Q fq h1 cF a7 β e L h a w d m r aF hp;simp only[lower,nn]at hp;split at hp;rename_i p bk first iz u' nD
  rw[hg rfl];have AO:be=#[p]:=Array.ext' u';subst AO;have adS:∀(c:ox),(∀(rd:Bool)(ro:Option Nat)(_:rd=false->ro=none)(Q:dL)(fq:Nat)(h1:I)(cF:bb)(a7:List l9)(β:Nat->Nat)(e:bY)(L:List LE)(h:I)(a:Act)(w:bb),yf fq h1 cF a7->cb h1 cF β L h w->cJ n β L e a->de L->nn P n rd (lower P bM c) Q e L h->c.wpIn (Fr ro) 0 P (qV fq rd a7 h1 cF n Q) {a with defers:=a7} w)->GX P n bM c:=λc bE l Q h1 cF β e L h a w m r aF hp=>
   bE true (some l) (λe=>by cases e) Q 0 h1 cF [] β e L h a w ⟨Nat.zero_le _,(λd aB=>by cases aB),ag5⟩ m r aF hp
  exact av6 (adS x oP) (adS y oQ) d m r aF nD hp
  grind
 |exit id=>exactλrd ro hg Q fq h1 cF a7 β e L h a w d m r aF hp=>wpIn_exit (qV.IM d m r aF hp)
 |scope b bE=>intro rd ro hg Q fq h1 cF a7 β e L h a w d m r aF hp;exact hp.elim
 |label l=>exactλrd ro hg Q fq h1 cF a7 β e L h a w d m r aF hp=>wpIn_label (qV.IM d m r aF hp)
 |goto l=>intro rd ro hg Q fq h1 cF a7 β e L h a w d m r aF hp;exact hp.elim
 |ret=>exactλrd ro hg Q fq h1 cF a7 β e L h a w d m r aF hp=>wpIn_ret (qV.IM d m r aF hp)
 |refuse azJ=>intro rd ro hg Q fq h1 cF a7 β e L h a w d m r aF hp;exact hp.elim
theorem cb.shut(m:cb ai aV β L h w){D:Nat}(h1:aV.heap.size<=D)(aC:h D=none)(bH:∀i k,b1 L i=some k->k.live=true->β i≠D):cb ai aV β L h (w.putObj D J):=by
 refine⟨⟨λo gh ae=>?_,λi k hk=>Tv (m.bR.bR i k hk) (bH i k hk)⟩,m.hole,m.inj,λi k hk ah=>by rw[rl];exact m.lt i k hk ah,m.bX,m.os,m.tape,m.output,by rw[rl];exact m.size,λo ae en=>?_,m.fresh⟩;rw[tk (λe=>by grind)];exact m.bR.hw o gh ae;rw[tk (by omega)];exact m.frame o ae en
theorem abB{fn:Func}{tmps:Array ao}{ax:Ending->bb->Prop}:∀(a7:List l9)(w:bb),(a7.Pairwise (·≠·))->(∀d∈a7,∃D,d={target:=.collected D,args:=#[]}/\aV.heap.size<=D/\h D=none/\(∀i k,b1 L i=some k->k.live=true->β i≠D)/\w.heap[D]?=some (.deferred (some [])))->cb ai aV β L h w->(∀aZ,cb ai aV β L h aZ->∃v,(results fn tmps).run P aZ= .ok v aZ/\ax (.returned v) aZ)->LeavesInM NS 0 P fn tmps ax a7 .returning w
 |[],w,_,_,m,CH=>CH w m
 |d::a7,w,aB,p0,m,CH=>by
  obtain⟨D,rfl,aM,aD,bj,bT⟩:=p0 d (List.mem_cons_self ..);have hp:=Og.1 aB;refine⟨(by simp),.inl ⟨D,w.putObj D (.deferred none),rfl,run_takeDeferred bT,?_⟩⟩;refine abB a7 _ hp.2 (λlx EX=>?_) (m.shut aM aD bj) CH;obtain⟨Gt,rfl,hJ,z2,z3,z4⟩:=p0 lx (List.mem_cons_of_mem _ EX);refine⟨Gt,rfl,hJ,z2,z3,?_⟩;rw[tk (λe=>hp.1 _ EX (by rw[e]))];exact z4
theorem UB.intro{f:jh}{fn:Func}{c:ox}{ms:IR}{rs:List ResultVar}{args:List ao}{h:I}{Q:ao->I->Prop}(az:P.funcs[f]?=some fn)(af:fn.body=some c)(wq:(fn.name== "runtime.NumGoroutine")=false)(aC:fn.ntmps=n)(y':fn.results.toList=rs)(wk:lower P bM c=ms)(i8:nT args.length n=true)(ku:nn P n false ms (s9 P rs Q) (pU args) [] h):Fn P f args.toArray h Q:=by
 refine⟨⟨fn,az,by grind,wq⟩,λw hw=>?_⟩;subst wk;subst y';subst aC;refine(callsIn_wide (n:=0)).1 (callsIn_of_wp_marks az af trivial ?_);have m:cb h w (λ_=>0) [] h w:=⟨⟨hw,(λi l al=>by cases al)⟩,(λi l al=>by cases al),(λi o l b3 al=>by cases al),(λi l al=>by cases al),(λi l al=>by cases al),rfl,rfl,rfl,dd _,(λ_ _ _=>rfl),(λo ae=>.inl ae)⟩;have aF:de []:=λi cs ty ag=>by cases ag
 have aj:=azN (n:=fn.ntmps) c false none (λ_=>rfl) _ w.heap.size h w [] (λ_=>0) (pU args) [] h _ w ⟨dd _,(λd aB=>by cases aB),ag5⟩ m (EE (rh i8) _) aF ku;refine Bs aj ?_;rintro ex ey aZ ⟨ab,dw,iX,β,e,L,U,a0,cy,d2,_,bc,cT,rfl,ef,aq⟩;have fin:vy P fn.results.toList [] e L U (λej=>kX 40 ej (λL h=>match mY L ej with
  |some au=>e9 (λ_ h=>Q (jt au) h) L h
  |none=>False) L U)->LeavesInM NS 0 P fn a0.tmps (λke aZ=>∃v U,ke= .returned v/\Q v U/\Ext h w U aZ) iX .returning aZ:=by
  intro wy
  refine abB (ai:=h) (aV:=w) (β:=β) (L:=L) (h:=U) iX aZ d2.diff (λd aB=>?_) (bc.base cy) λpF abY=>?_
  obtain⟨D,aM,aD,bj,bT,dz⟩:=d2.each d aB
  refine⟨D,aM,aD,bc.out bj bT,λi k hk ah he=>?_,?_⟩
  rcases bc.bX i k hk ah with aP|aP
  grind
  omega
  rw[bc.frame D bj bT];exact dz
  obtain⟨ej,bJ,bB,eo⟩:=DP abY cT ef _ _ [] wy (by simp)
  simp only[List.nil_append]at bJ
  obtain⟨f',h1,aM,m1,fu,kY,_⟩:=rV ej _ _ _ abY ef bJ
  split at aM
  rename_i au fh
  have aw:=s3 m1.bR ej au fh
  obtain⟨j',iT,an,hJ,m2,_,_,_⟩:=mZ aM β m1 fu
  rw[aw]at eo
  exact⟨_,Je eo,_,an,rfl,hJ,⟨m2.bR.hw,m2.os,m2.tape,m2.output,m2.size,m2.frame,m2.fresh⟩⟩
  grind
 cases ex with
 |normal=>exact fin aq
 |ret=>exact fin aq
 |exit id=>exact aq.elim
 |goto l=>exact aq.elim
 |panic v7=>exact aq.elim
 |outgrown=>exact aq.elim
end
end Go.Sx
namespace Go.Sx
open Go.Proofs
set_option maxRecDepth 100000
set_option maxHeartbeats 0
set_option linter.all false
def qW:List Nat:=[55,30,126,128,129,28,74,131,132,73,77,81,82,83,84,85,134,135,185,186,89,48,108,112,39,40,41,97,98,99,100,101,142,144,145,146,88,33,1050,1100,1111,1131,1151,2156]
theorem Fz:Tryz.prog.follows .mixedOrders=true:=by kernel_rfl
structure b4(f n:Nat)where
 fn:Func
 az:Tryz.prog.funcs[f]?=some fn
 acD:fn.ntmps=n
 dD:(fn.name== "runtime.NumGoroutine")=false
 af:fn.body.isSome=true
 o:{x:IR//lower aH qW (fn.body.getD .skip)=x}
section
variable{f n:Nat}{args:List ao}{h:I}{Q:ao->I->Prop}
theorem b5(o:b4 f n)(a6:nT args.length n=true)(hw:c7 aH n o.o.1 (s9 aH o.fn.results.toList Q) (pU args) [] h):Fn aH f args.toArray h Q:=by
 obtain⟨c,aw⟩:=Ou.1 o.af;refine Fn.intro Fz o.az aw o.dD o.acD rfl (ms:=o.o.1) (bM:=qW) ?_ a6 hw;rw[<-o.o.2,aw];rfl
theorem agN(o:b4 f n)(a6:nT args.length n=true)(hw:e9 (λL h=>c7 aH n o.o.1 (s9 aH o.fn.results.toList Q) (pU args) L h) [] h):Fn aH f args.toArray h Q:=by
 obtain⟨c,aw⟩:=Ou.1 o.af;refine Fn.aoJ Fz o.az aw o.dD o.acD rfl (ms:=o.o.1) (bM:=qW) ?_ a6 hw;rw[<-o.o.2,aw];rfl
end
def cl:ox->ox|.seq a _=>a|.cond _ a _=>a|.block _ b=>b|.loop b=>b|.scope b=>b|c=>c
def tt:ox->ox|.seq _ b=>b|.cond _ _ b=>b|c=>c
def hQ:ox->Operand|.cond c _ _=>c|_=>.tmp 0
def ci:ox->Nat|.block i _=>i|_=>0
def d':ox->Nat|.seq _ _=>1|.cond _ _ _=>2|.block _ _=>3|.loop _=>4|_=>0
section
variable{c:ox}{x y:IR}{z:dB}{i:Nat}
theorem aS(aj:d' c=1)(h1:lower aH qW (cl c)=x)(ab:lower aH qW (tt c)=y):lower aH qW c= .seq x y:=by
 subst h1;subst ab;cases c with
 |seq a b=>rw[lower];rfl
 |_=>cases aj
theorem uN(aj:d' c=2)(ai:bK (hQ c)=z)(h1:lower aH qW (cl c)=x)(ab:lower aH qW (tt c)=y):lower aH qW c= .cond z x y:=by
 subst ai;subst h1;subst ab;cases c with
 |cond a b d=>rw[lower];rfl
 |_=>cases aj
theorem eV(aj:d' c=3)(h1:lower aH qW (cl c)=x):lower aH qW c= .block (ci c) x:=by
 subst h1;cases c with
 |block a b=>rw[lower];rfl
 |_=>cases aj
theorem iL(aj:d' c=4)(h1:lower aH qW (cl c)=x):lower aH qW c= .loop x:=by
 subst h1;cases c with
 |loop a=>rw[lower];rfl
 |_=>cases aj
theorem rS{c:ox}(J:hn)(h:lower aH qW c= .xP J):lower aH qW c= .xP J:=h
end
abbrev i(n:Int):dB:=.c (.int .i64 n)
abbrev J(d:Nat)(k:kk):cC:=⟨some d,none,k⟩
abbrev bU(k:kk):cC:=⟨none,none,k⟩
abbrev u(x:cC)(r:hn):hn:=.v x false false r
abbrev o1(x:cC)(r:hn):hn:=.v x true false r
abbrev aBW(x:cC)(r:hn):hn:=.v x true true r
abbrev bf(x:cC)(r:hn):hn:=.w x false r
abbrev us(x:cC)(r:hn):hn:=.w x true r
end Go.Sx
