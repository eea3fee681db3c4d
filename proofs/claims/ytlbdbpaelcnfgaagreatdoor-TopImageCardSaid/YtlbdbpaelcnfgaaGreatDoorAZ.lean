/- A part of the proof that the statement holds. Conditions: none. -/
import Derived.Test.YtlbdbpaelcnfgaaGreatDoorRows
import Derived.Test.YtlbdbpaelcnfgaaGreatDoorAC
import Derived.Test.YtlbdbpaelcnfgaaGreatDoorAP
import Derived.Test.YtlbdbpaelcnfgaaGreatDoorAQ
import Derived.Test.YtlbdbpaelcnfgaaGreatDoorAX
import Derived.Test.YtlbdbpaelcnfgaaGreatDoorAY
open Decidable renaming byContradiction->zM
open Go renaming Addr->ar,DataW->oy,MemPlace->vK,Program->dW,TypeId->fc,Value->ao,World->bb
open Go.DataW renaming trod->zL,trod_int->By,trod_slice->aGJ,trod_string->Ut,trod_struct->NM,weights->yg,weightsAll->agw,weightsEach->JO
open Go.Proofs.Tryz renaming prog->aH,underlying100->aif,underlying24->aig,underlying26->Vh,underlying27->Kd,underlying3->BX,underlying30->aGS,underlying9->Ef,underlying96->aii,underlying98->aij
open Go.World renaming cells?_some->aio
open Int renaming le_refl->JU,toNat_natCast->bq
open List renaming getD_eq_getElem?_getD->cN,getElem?_eq_getElem->bZ,getElem?_map->dV,getElem_mem->cS,getElem_of_mem->rb,length_map->ih,map->GJ,map_cons->eO,map_map->lo,map_nil->zU,mem_append_left->qu,mem_cons->dC,mem_map->dn,not_mem_nil->th,range->aDB,replicate->bG,take_of_length_le->k4
open List.cons renaming injEq->yp
open Nat renaming le_refl->dd,sub_self->yq,zero_le->cO
open Option renaming bind_eq_some_iff->U5
open Option.some renaming inj->oB
open Prod.mk renaming injEq->Oy
namespace Go.Sx
set_option maxRecDepth 100000
set_option maxHeartbeats 0
set_option linter.all false
def I.over(a h1 h:I):I:=λo=>match a o with
 |some J=>some J
 |none=>match h1 o with
  |some _=>none
  |none=>h o
theorem Fn.frame{P:dW}{f:FuncId}{args:Array ao}{h1 h:I}{Q:ao->I->Prop}(x:Fn P f args h1 Q)(le:h1.le h):Fn P f args h λv U=>∃Hx,Q v Hx/\Hx.le U/\(∀o J,h1 o=none->h o=some J->U o=some J)/\∀o,Hx o≠none->h1 o≠none\/h o=none:=by
 refine⟨x.body,λw hw=>(x.run w (hw.mono le)).mono ?_⟩;rintro e aZ ⟨v,a,aJ,q,ext⟩;have cR:∀{o:Nat}{J:Obj},h o=some J->o<w.heap.size:=λae=>(Array.getElem?_eq_some_iff.1 (hw _ _ ae)).1;have apart:∀{o:Nat}{J:Obj},h1 o=none->h o=some J->a o=none:=λ{o J} n ae=>by
  cases a6:a o with
  |none=>rfl
  |some gh=>
   rcases ext.fresh o (by rw[a6];nofun)with q|q;exact absurd n q;have:=cR ae;omega
 refine⟨v,a.over h1 h,aJ,⟨a,q,λo J ae=>by unfold I.over;rw[ae],λo J n ae=>by unfold I.over;rw[apart n ae,n];exact ae,λo ae=>?_⟩,⟨λo J ae=>?_,ext.os,ext.tape,ext.output,ext.size,λo aj ae=>?_,λo ae=>?_⟩⟩;rcases ext.fresh o ae with q|q;exact .inl q;refine .inr ?_;cases aP:h o with
 |none=>rfl
 |some J=>have:=cR aP;omega
 unfold I.over at ae;cases a6:a o with
 |some gh=>rw[a6]at ae;exact ext.hw o J (by rw[a6];exact ae)
 |none=>
  rw[a6]at ae;cases aEo:h1 o with
  |some gh=>rw[aEo]at ae;cases ae
  |none=>
   rw[aEo]at ae;rw[ext.frame o (cR ae) aEo];exact hw o J ae
 refine ext.frame o aj ?_;cases aEo:h1 o with
 |none=>rfl
 |some J=>rw[le _ _ aEo]at ae;cases ae
 unfold I.over at ae;cases a6:a o with
 |some gh=>
  rcases ext.fresh o (by rw[a6];nofun)with q|q;refine .inl λn=>?_;cases aEo:h1 o with
  |none=>exact q aEo
  |some J=>rw[le _ _ aEo]at n;cases n
  exact .inr q
 |none=>
  rw[a6]at ae;cases aEo:h1 o with
  |some gh=>rw[aEo]at ae;exact absurd rfl ae
  |none=>rw[aEo]at ae;exact .inl ae
theorem adY{home:List Nat}{s:List (Nat×Nat)}{hm k:Nat}{r:List Nat}(am:∀q∈r,q<=4096):∀(v:Nat)(cT:List Nat),t' home s hm k r v=some cT->∀q∈cT,q<=4096
 |0,cT,h=>by injection h with h;subst h;exact am
 |v+1,cT,h=>by
  rw[t']at h;split at h;cases h;rename_i fv h1;have bE:=adY am v fv h1;split at h;split at h;cases h;injection h with h;subst h;intro q aq;rcases List.mem_or_eq_of_mem_set aq with aq|rfl;exact bE q aq;omega;injection h with h;subst h;exact bE
theorem aeS{N:Nat}{aa:List bo}:∀(v:Nat)(r:List Nat),oX N aa v=some r->∀q∈r,q<=4096
 |0,r,h=>by
  rw[oX]at h;split at h;injection h with h;subst h;intro q aq;rw[(List.mem_replicate.1 aq).2];omega;cases h
 |v+1,r,h=>by
  rw[oX]at h;split at h;cases h;rename_i fv h1;have bE:=aeS v fv h1;split at h;rw[Bj]at h;split at h;cases h;exact adY bE _ _ h;injection h with h;subst h;exact bE
theorem axK{N:Nat}{aa:List bo}{r:List Nat}(h:vu N aa=some r):∀q∈r,q<=4096:=by
 rw[vu]at h;split at h;split at h;cases h;rename_i fv h1;split at h;injection h with h;subst h;exact aeS _ _ h1;cases h;cases h
theorem VC{N:Nat}{aa:List bo}:∀(l f:List Int),(fA N aa l f).1=0->∀z∈l,0<=z/\z<N
 |[],_,_,z,aY=>by cases aY
 |v::l,f,h,z,aY=>by
  rw[fA]at h;split at h;cases h;rename_i h1;split at h;rcases dC.1 aY with rfl|aY;omega;exact VC l _ h z aY;cases h
theorem RW{N:Nat}{aa:List bo}{aG:List Int}(h:l2 N aa aG=0):aG.length<=2048/\∀z∈aG,0<=z/\z<N:=by
 have h1:(eh N aa aG).1=0:=by
  refine zM λq=>?_;unfold l2 at h;rw[aX q]at h;exact q h
 unfold eh at h1;split at h1;split at h1;cases h1;rename_i q;rw[bq]at h1;exact⟨by omega,VC _ _ h1⟩;rename_i q;exact absurd h1 q
theorem awC{α:Type}{w:List α}{x:α}(ad:x∈w):∀{k:Nat},1<=k->x∈rep k w
 |k+1,_=>by rw[rep];exact qu _ ad
theorem KU{n:Nat}:∀(f:cX),nW f->(∀x∈hr f,0<=x/\x<(n:Int))->zW n f/\ud n f=false
 |.nil,_,_=>⟨trivial,rfl⟩
 |.cons t k b r,⟨h1,ab,an⟩,h=>by
  have am:=KU r an λx ad=>h x (by rw[hr];exact List.mem_append_right _ ad);have af:∀x∈(bif b.leaf then[k]else hr b),0<=x/\x<(n:Int):=λx ad=>h x (by rw[hr];exact qu _ (awC ad (by omega)));cases al:b.leaf with
  |true=>
   rw[al,lv]at af;have hk:=af k (List.mem_singleton_self _);have rn:b= .nil:=by cases b with|nil=>rfl|cons=>cases al
   subst rn;refine⟨⟨λ_=>hk,trivial,am.1⟩,?_⟩;rw[ud,am.2,ud,al,gU (by omega)];rfl
  |false=>
   rw[al,pR]at af;have fC:=KU b ab af;refine⟨⟨λq=>(by rw[al]at q;cases q),fC.1,am.1⟩,?_⟩;rw[ud,am.2,fC.2,al];rfl
end Go.Sx
namespace Go.Sx
open Go.Proofs
set_option maxRecDepth 100000
set_option maxHeartbeats 0
set_option linter.all false
variable {h:I}{aG:List Int}{ac bO c1 c2 cE cM:Nat}{ct dE eF gv hf iu:Option ar}{g:eY}
def j2(l:List Nat):List Int:=l.map λz:Nat=>(z:Int)
def Bu(g:eY)(aG:List Int):Prop:=mO g≠0\/vu g.bt.length (fH g)=none\/(∃d6,vu g.bt.length (fH g)=some d6/\r1 g.bt.length (fH g) d6 aG=none)\/∃d6 l,vu g.bt.length (fH g)=some d6/\r1 g.bt.length (fH g) d6 aG=some l/\(l2 g.bt.length (fH g) (j2 l)≠0\/∃os bC dA,os.Perm (aDB (fH g).length)/\o8 (kg (eh g.bt.length (fH g) (j2 l)).2 (fH g).length) (lg (eh g.bt.length (fH g) (j2 l)).2) (fH g).length os bC dA/\1024<oZ bC)
def az':Array ao:=#[R 0,.slice none 0 0,.slice none 0 0,.slice none 0 0,.slice none 0 0,.slice none 0 0,R 0,R 0,R 0,R 0,R 0,.slice none 0 0,.slice none 0 0,.slice none 0 0]
structure wW where
 tU:Option ar
 A5:Nat
 ax:ar
 h9:Option ar
 lc:Nat
 l:List Nat
 BM:Option ar
 dD:Nat
 A6:Nat
 bX:bw
 qw:Option ar
 T:Int
 p:km
variable {x:wW}
def wW.val(g:eY)(x:wW):ao:=.agg #[R g.bt.length,.slice x.tU (fH g).length x.A5,.slice (some x.ax) g.bt.length g.bt.length,.slice x.h9 x.l.length x.lc,.slice x.BM x.dD x.A6,.slice x.qw (fH g).length (fH g).length,R x.T,R x.p.mem,R x.p.bF,R x.p.ins,R x.p.outs,.slice x.p.im x.p.parts.length x.p.cH,.slice x.p.eA x.p.lines.length x.p.lc,.slice x.p.ct x.p.ops.length x.p.bO]
structure uo(g:eY)(aG:List Int)(U:I)(x:wW):Prop where
 g0:mO g=0
 cB:bg U 1 x.h9 x.l.length (gZ (j2 x.l))
 nest:hU U x.BM x.dD x.bX
 bF:x.bX.bF<=2048
 sf:Gs (j2 x.l) x.bX.bn.dK
 dK:x.bX.bn.dK=(pQ (j2 x.l)).2
 ok:x.p.ok U
 ex:∃d6 os bC dA,vu g.bt.length (fH g)=some d6/\r1 g.bt.length (fH g) d6 aG=some x.l/\l2 g.bt.length (fH g) (j2 x.l)=0/\os.Perm (aDB (fH g).length)/\o8 (kg (eh g.bt.length (fH g) (j2 x.l)).2 (fH g).length) (lg (eh g.bt.length (fH g) (j2 x.l)).2) (fH g).length os bC dA/\x.T=oZ bC/\On g bC x.T x.bX.bn x.p/\x.p.yh (jH (jV g) x.bX.bn+1:Nat)
theorem abS{N:Int}{aa:List bo}(h:l2 N aa aG=0):(eh N aa aG).1=0:=by
 refine zM λq=>?_;unfold l2 at h;rw[aX q]at h;exact q h
theorem ayI{N:Int}{aa:List bo}(h:l2 N aa aG=0){i:Nat}(ag:i<aa.length):aa[i].start<=(lg (eh N aa aG).2).getD i 0:=by
 have h1:=abS h;have dm:=(RX h1).1;have am:ee aa (bG N.toNat 0)∈(eh N aa aG).2:=by
  unfold eh at h1⊢;split at h1;rename_i q;rw[aX q];split at h1;cases h1;rename_i aD;rw[aE aD];exact List.mem_cons_self;rename_i q;exact absurd h1 q
 have:=dm.up i ag _ am;have e:(ee aa (bG N.toNat 0)).getD i 0=aa[i].start:=by
  have aY:∀o,(bG N.toNat (0:Int)).getD o 0=0:=λo=>by rw[cN,List.getElem?_replicate];split<;>rfl
  rw[cN,ee,dV,bZ ag];simp only[Option.map_some,Option.getD_some,qj,aY];omega
 rw[e]at this;exact this
theorem ajx{l:List Int}(h:∀z∈l,0<=z/\z<32)(al:l.length<=2048):(pQ l).1=0/\Gs l (pQ l).2:=by
 have af:∀x∈l,¬uH x:=λx ad q=>by have:=h x ad;unfold uH at q;omega
 have:¬∃x∈l,uH x:=λ⟨x,ad,q⟩=>af x ad q;unfold pQ;rw[aE (by omega),aE this];exact⟨rfl,Gs.of al af⟩
theorem avJ(ok:g.ok h){os:List Nat}{bC:List cL}{dA:List Bool}(l0:l2 g.bt.length (fH g) aG=0)(hX:os.Perm (aDB (fH g).length))(dp:o8 (kg (eh g.bt.length (fH g) aG).2 (fH g).length) (lg (eh g.bt.length (fH g) aG).2) (fH g).length os bC dA):bC.length=g.cp.length/\0<=oZ bC/\(∀i(_:i<bC.length)(_:i<g.cp.length),0<=bC[i].1/\bC[i].1+bC[i].2<=oZ bC/\(g.cp[i].n:Int)<=bC[i].2)/\∀i(_:i<bC.length)(_:i<g.cp.length),0<=bC[i].1/\0<=bC[i].2/\bC[i].1+bC[i].2<=oZ bC/\((g.cp[i]).st.length:Int)<=bC[i].2:=by
 have hp:=RX (abS l0);have aY:∀i,0<=q0 (lg (eh g.bt.length (fH g) aG).2) i:=λi=>by
  by_cases q:i<(fH g).length;exact(hp.2 i q).1;unfold q0;rw[cN,List.getElem?_eq_none (by rw[hp.1.len];omega)];exact JU _
 have fin:=aw7 dp aY hX;have abL:(fH g).length=g.cp.length:=by simp[fH]
 have key:∀i(_:i<bC.length)(_:i<g.cp.length),0<=bC[i].1/\bC[i].1+bC[i].2<=oZ bC/\(g.cp[i].n:Int)<=bC[i].2:=by
  intro i ag ae;have e:kC bC i=bC[i]:=by unfold kC;rw[cN,bZ ag];rfl
  have h1:=fin.base i (by omega);have ab:=fin.size i (by omega);rw[e]at h1 ab;refine⟨h1,ayP (cS ag),?_⟩;rw[ab];have:=ayI l0 (i:=i) (by omega);have aI:(fH g)[i].start=(g.cp[i].n:Int):=by simp[fH,EJ]
  rw[aI]at this;exact this
 refine⟨by rw[<-abL];exact fin.len,(afr.1 (JU _)).1,key,λi ag ae=>?_⟩;have h1:=key i ag ae;have ab:=(ok.Ao _ (cS ae)).dG.len;rw[ih]at ab;exact⟨h1.1,by omega,h1.2.1,by omega⟩
theorem ab2(g:eY)(h:I)(ok:g.ok h)(wJ:uw h)(P:Option ar)(k c2:Nat)(aG:List Int)(q1:bg h 1 P k (gZ aG))(hk:k<=70368744177664):Fn aH 7 #[.agg g.cells.toArray,.slice P k c2] h λv U=>h.le U/\((v= .tuple #[.agg az',.bool false]/\Bu g aG)\/∃x:wW,v= .tuple #[x.val g,.bool true]/\uo g aG U x):=by
 have acN:=auT g h ok;have gc:g.cells=[.string g.dD,.slice g.hf g.bt.length g.ac,.slice g.gv g.cp.length g.cM,.slice g.eF g.ins.length g.cE,.slice g.ct g.outs.length g.bO]:=rfl;rw[gc]at acN⊢;refine b5 asy rfl ?_;refine aK λgS dy gY=>?_;refine dy _ _ _ ?_;refine aK λgO dx eG=>?_;refine .done (.mk _ acN ?_);rintro _ h1 ⟨cr,FH,rfl,⟨aBJ,tU,dD,A5,rfl⟩,aC⟩;by_cases g0:mO g=0
 .obtain⟨tU,A5,aj5,nP,_⟩:=aC g0;rw[aj5];rw[g0];refine dx _ _ _ ?_;refine aK λgu df fK=>?_;refine aK λgk ed eH=>?_;refine ed _ _ _ ?_;refine df _ _ _ ?_;refine aK λhA dY hL=>?_;have dc:=nP.dG (rows:=(fH g).map bo.cells) (λr am=>by obtain⟨x,_,rfl⟩:=dn.1 am;rfl) (by decide);have iB:=K0 g0;have u':∀a∈g.bt,a.n<=1000:=λa a6=>by
   have h1:=Tw (iB.F8 a a6);have ab:=(ok.act a a6).dG.len;rw[ih]at ab;omega
  have v':=iB.v';have a32:=iB.a32;have abL:(fH g).length=g.cp.length:=by simp[fH]
  refine .done (.mk _ (axJ g.bt.length (fH g).length A5 tU (fH g) h1 dc (by omega) (wJ.mono cr)) ?_);rintro v2 ab ⟨cn,aj⟩;split at aj;rotate_left;rename_i CX;obtain⟨bQ,yK,dO,ad5,rc,Uo,kM,hQ,rfl,bH⟩:=aj;have bad:Bu g aG:=.inr (.inl CX);refine dY _ _ _ ?_;refine aK λhc eT hi=>?_;refine aK λkb fE i'=>?_;conv=>whnf
  by_cases Zc:yK=0;rw[gU (by omega)];conv=>whnf
  refine fE _ _ _ ?_;conv=>whnf
  rw[fo (by intro q;exact bH ⟨q,Zc⟩)];conv=>whnf
  refine hi _ _ _ _ nofun ?_;exact .done ⟨I.le_trans cr cn,.inl ⟨rfl,bad⟩⟩;rw[fo (by omega)];conv=>whnf
  refine fE _ _ _ ?_;refine hi _ _ _ _ nofun ?_;exact .done ⟨I.le_trans cr cn,.inl ⟨rfl,bad⟩⟩;rename_i d6 CX;obtain⟨ik,ax,rfl,mE⟩:=aj;have awH:=axK CX;refine dY _ _ _ ?_;refine aK λhc eT hi=>?_;refine aK λkb fE i'=>?_;refine fE _ _ _ ?_;refine eT _ _ _ ?_;refine aK λkc gg j1=>?_;refine .done (.mk _ (awW g.bt.length (fH g).length A5 g.bt.length g.bt.length k c2 tU (some ax) P (fH g) d6 aG ab (dc.mono cn) (by omega) mE (λq aq=>by have:=awH q aq;omega) (by omega) ((q1.mono cr).mono cn) hk) ?_);rintro v3 an ⟨dZ,xA⟩;split at xA;rotate_left;rename_i xB;obtain⟨dE,bB,aAD,lm,eo,eI,ck,rfl,bH⟩:=xA;have bad:Bu g aG:=.inr (.inr (.inl ⟨d6,CX,xB⟩));refine gg _ _ _ ?_;refine aK λko g' ja=>?_;refine aK λlq gX kR=>?_;conv=>whnf
  by_cases Zc:ck=0;rw[gU (by omega)];conv=>whnf
  refine gX _ _ _ ?_;conv=>whnf
  rw[fo (by omega)];conv=>whnf
  refine ja _ _ _ _ nofun ?_;exact .done ⟨I.le_trans cr (I.le_trans cn dZ),.inl ⟨rfl,bad⟩⟩;rw[fo (by omega)];conv=>whnf
  refine gX _ _ _ ?_;refine ja _ _ _ _ nofun ?_;exact .done ⟨I.le_trans cr (I.le_trans cn dZ),.inl ⟨rfl,bad⟩⟩;rename_i l xB;obtain⟨aBc,h9,lc,rfl,ayo⟩:=xA;refine gg _ _ _ ?_;refine aK λko g' ja=>?_;refine aK λlq gX kR=>?_;refine gX _ _ _ ?_;refine g' _ _ _ ?_;refine aK λsd lC sK=>?_;have TJ:bg an 1 h9 l.length ((j2 l).map λz=>[R z]):=by unfold j2;rw[lo];exact ayo
  refine .done (.mk _ (avF g.bt.length (fH g).length A5 (fH g) tU h9 l.length lc (j2 l) an ((dc.mono cn).mono dZ) (by omega) TJ (λ_=>True) λ_=>axU _ (by omega) _) ?_);rintro v4 aR ⟨cW,wi,am9⟩;by_cases l0:l2 g.bt.length (fH g) (j2 l)=0;rotate_left;rw[wi l0];have bad:Bu g aG:=.inr (.inr (.inr ⟨d6,l,CX,xB,.inl l0⟩));refine lC _ _ _ ?_;refine aK λqx lD pr=>?_;refine aK λut nJ xG=>?_;conv=>whnf
  rw[fo l0];refine nJ _ _ _ ?_;refine pr _ _ _ _ nofun ?_;exact .done ⟨I.le_trans cr (I.le_trans cn (I.le_trans dZ cW)),.inl ⟨rfl,bad⟩⟩;obtain⟨os,bC,dA,hX,_,dp,CE,an7⟩:=am9 l0;by_cases gA:oZ bC<=1024;rotate_left;rw[CE (by omega)];have bad:Bu g aG:=.inr (.inr (.inr ⟨d6,l,CX,xB,.inr ⟨os,bC,dA,hX,dp,by omega⟩⟩));refine lC _ _ _ ?_;refine aK λqx lD pr=>?_;refine aK λut nJ xG=>?_;refine nJ _ _ _ ?_;refine pr _ _ _ _ nofun ?_;exact .done ⟨I.le_trans cr (I.le_trans cn (I.le_trans dZ cW)),.inl ⟨rfl,bad⟩⟩;obtain⟨qw,rfl,ayp⟩:=an7 gA;refine lC _ _ _ ?_;refine aK λqx lD pr=>?_;refine aK λut nJ xG=>?_;refine nJ _ _ _ ?_;refine lD _ _ _ ?_;refine aK λBU rL Fm=>?_;refine .done (.mk _ (ajA (j2 l) h9 l.length lc aR (TJ.mono cW)) ?_);rintro v5 cg ⟨fW,BM,dD,A6,bX,rfl,azv,rE⟩;have L9:=RW l0;have db:g.bt.length<=32:=iB.a32;obtain⟨lU,pk⟩:=ajx (l:=j2 l) (λz aY=>⟨(L9.2 z aY).1,by have:=(L9.2 z aY).2;omega⟩) L9.1;rw[lU];rw[<-rE]at pk;refine rL _ _ _ ?_;have sat:=azv.sat.mono (I.sub_le _ _);have bF:bX.bF<=2048:=by rw[Mb,rE];exact ajw _
  have pj:=pk.e';have ml:=pk.uU;rw[zm]at pj ml;have xy:=(aFx pj).1;have mn:=KU (n:=g.bt.length) bX.bn xy (by rw[ml];exact L9.2);have tM:=avJ ok l0 hX dp;have n9:=Xa (ax:=jV g) bX.bn xy 0 0;have iD:=(M9 (ax:=jV g) (λr am=>PJ am) bX.bn xy).1;have tP:=(aFx pj).2;refine .done (.mk _ (atJ g cg ((((ok.mono cr).mono cn).mono dZ).mono (I.le_trans cW fW)) g0 (some qw) (fH g).length (fH g).length (oZ bC) bC (ayp.mono fW) (by omega) (by omega) tM.2.1 gA tM.2.2.1 bX BM dD A6 sat pj mn.2 mn.1 (by omega) (by omega) u') ?_);rintro v6 fa ⟨hv,p,rfl,avK,made⟩;have avB:=atF g0 (by omega) tM.2.1 gA tM.2.2.2 pj made;refine .done ⟨I.le_trans cr (I.le_trans cn (I.le_trans dZ (I.le_trans cW (I.le_trans fW hv)))),.inr ⟨⟨tU,A5,ax,h9,lc,l,BM,dD,A6,bX,some qw,oZ bC,p⟩,rfl,?_⟩⟩;refine⟨g0,(TJ.mono cW|>.mono fW).mono hv,sat.mono hv,bF,pk,rE,avK,d6,os,bC,dA,CX,xB,l0,hX,dp,rfl,made,avB⟩
 refine dx _ _ _ ?_;refine aK λgu df fK=>?_;refine aK λgk ed eH=>?_;conv=>whnf
 rw[fo g0];refine ed _ _ _ ?_;refine fK _ _ _ _ nofun ?_;exact .done ⟨cr,.inl ⟨rfl,.inl g0⟩⟩
theorem axw(L:List (List Int))(n i:Nat)(ag:i<L.length)(aC:i<n):(L.take i++bG (n-i) []).set i L[i]=L.take (i+1)++bG (n- (i+1)) []:=by
 have e:n-i=(n- (i+1))+1:=by omega
 have av:(L.take i).length=i:=by simp;omega
 rw[List.set_append_right _ _ (by omega),av,yq,e,List.replicate_succ,List.set_cons_zero,List.take_add_one,bZ ag,List.append_assoc];rfl
theorem ab1(p:km)(T:Int)(h:I)(ok:p.ok h)(fV:p.yh T)(NR:Option ar)(pW:Nat)(F:List dO)(Gc:bg h 1 NR F.length (F.map λd=>[d.val]))(bm:∀d∈F,d.ok h/\d.l.length<=17592186044416):Fn aH 9 #[.agg p.cells.toArray,.slice NR F.length pW] h λv U=>∃aT B m,v=b0 aT/\h.le B/\cU B U aT m/\m.x={j3 p with da:=(F.map dO.l).take p.ins.toNat++bG (p.ins.toNat-F.length) []}:=by
 have t6:p.cells=[R p.mem,R p.bF,R p.ins,R p.outs,.slice p.im p.parts.length p.cH,.slice p.eA p.lines.length p.lc,.slice p.ct p.ops.length p.bO]:=rfl;have n27:=auu p T h ok fV;rw[t6]at n27⊢;refine b5 asM rfl ?_;refine aK λgS dy gY=>?_;refine dy _ _ _ ?_;refine aK λgO dx eG=>?_;refine .done (.mk _ n27 ?_);rintro _ h1 ⟨aT,B,m,rfl,gF,k,ad,Li⟩;refine dx _ _ _ ?_;refine aK λgu df fK=>?_;refine aK λgk ed eH=>?_;refine ed _ _ _ ?_;refine df _ _ _ ?_;refine aK λhA dY hL=>?_;refine aK λhc eT hi=>?_;refine eT _ _ _ ?_;refine fG λkc gg j1=>?_;have vd:p.ins.toNat<=1000:=by have:=fV.i1;omega
 have ip:(p.ins.toNat:Int)=p.ins:=by have:=fV.i0;omega
 refine .lj (.done (.mk (Nat×I×e8) [1,2,5,7] (λ(i,_,_)=>[.v (.slice NR F.length pW),.p 0 0,.v (b0 aT),.v (R i)]) (λ_=>[.own (([R p.mem,R p.bF,R p.ins,R p.outs,.slice p.im p.parts.length p.cH,.slice p.eA p.lines.length p.lc,.slice p.ct p.ops.length p.bO]:List ao).map .v) 42]) (λ(i,dS,bc) U=>cU dS U aT bc/\h.le dS/\i<=F.length/\i<=p.ins.toNat/\bc.x={j3 p with da:=(F.map dO.l).take i++bG (p.ins.toNat-i) []}/\bc.da.length=p.ins.toNat/\∀o(ae:o<bc.da.length),i<=o->bc.da[o]=ED) (λ(i,_,_)=>F.length-i) (0,B,m) (λ_=>rfl) ⟨k,gF,cO _,cO _,by rw[ad];rfl,by rw[Li];simp,λo ae _=>by simp[Li]⟩ rfl rfl ?_));rintro⟨i,dS,bc⟩ e ab ⟨bB,L3,aA8,Lp,hB,qO,Ih⟩;refine aK λko g' ja=>?_;refine aK λlq gX kR=>?_;conv=>whnf
 by_cases aM:i<F.length;rw[fo (by omega)];refine gX _ _ _ ?_;refine ot rfl (λq=>?_) (λq=>?_);have aD:(i:Int)<p.ins:=qb q;refine g' _ _ _ ?_;refine aK λsd lC sK=>?_;refine fG λqx lD pr=>?_;refine aK λut nJ xG=>?_;obtain⟨ij,HS⟩:=Gc.cc (by omega);have Df:=I.le_trans L3 bB.le;refine .m ij HS ?_;refine .hp F[i].val (by rw[bq];exact(Gc.mono Df).one HS (iM aM) rfl) ?_;have aB:=bm _ (cS aM);refine .done (.mk _ (akL bB i (by omega) (Ih i (by omega) (dd _)) F[i].A F[i].l.length F[i].c F[i].l (aB.1.mono Df) aB.2) ?_);rintro _ an ⟨rfl,zJ,m3,RN,eo,Ie,d3,HR⟩;refine nJ _ _ _ ?_;refine pr _ _ _ _ nofun (lC _ _ _ ?_);refine .aLS ?_;refine⟨(i+1,zJ,m3),rfl,rfl,⟨eo,I.le_trans L3 RN,by omega,by omega,?_,by rw[HR];simpa using qO,λo ae u0=>?_⟩,by show F.length- (i+1)<F.length-i;omega⟩;rw[Ie,hB];have:=axw (F.map dO.l) p.ins.toNat i (by simpa using aM) (by omega);rw[List.getElem_map]at this;simp only[this];have e:m3.da[o]?=(bc.da.set i d3)[o]? :=by rw[HR]
 have en:o<bc.da.length:=by have U:=ae;rw[HR]at U;simpa using U
 rw[bZ ae,List.getElem?_set_ne (by omega),bZ en,Ih o en (by omega)]at e;exact oB e;have aD:¬(i:Int)<p.ins:=tZ q;refine ja _ _ _ _ nofun ?_;have aJ:i=p.ins.toNat:=by omega
 refine gg _ _ _ (dY _ _ _ ?_);conv=>whnf
 refine .done ⟨aT,dS,bc,rfl,L3,bB,?_⟩;rw[hB,aJ,yq,Nat.sub_eq_zero_of_le (by omega)];rw[gU (by omega)];refine gX _ _ _ ?_;refine ot rfl nofun (λq=>?_);refine ja _ _ _ _ nofun ?_;have aJ:i=F.length:=by omega
 refine gg _ _ _ (dY _ _ _ ?_);refine .done ⟨aT,dS,bc,rfl,L3,bB,?_⟩;rw[hB,aJ,k4 (by simp),k4 (by simp;omega)]
def ez(hf gv eF ct iu dE:Option ar)(ac cM cE bO c1 c2:Nat):eY:=⟨⟨#[103]⟩,hf,ac,[⟨⟨#[97]⟩,2,iu,1,c1,[2]⟩,⟨⟨#[98]⟩,3,dE,1,c2,[3]⟩],gv,cM,[⟨0,0,1,0,none,0,0,[]⟩],eF,cE,[⟨⟨#[120]⟩,0,0⟩],ct,bO,[⟨⟨#[121]⟩,1,0⟩]⟩
def nY:List bo:=[⟨0,1,2,3,0⟩]
def XV:List (List b6):=[[⟨4,0,1⟩,⟨5,0,0⟩,⟨6,0,2⟩],[⟨3,0,3⟩,⟨5,1,0⟩,⟨7,0,1⟩]]
theorem aiz:mO (ez hf gv eF ct iu dE ac cM cE bO c1 c2)=0:=by rfl
theorem Vn:fH (ez hf gv eF ct iu dE ac cM cE bO c1 c2)=nY:=by rfl
theorem aix:jV (ez hf gv eF ct iu dE ac cM cE bO c1 c2)=XV:=by rfl
theorem Vt:vu 2 nY=some [3,2]:=by decide+kernel
theorem Vs:r1 2 nY [3,2] []=some [0,0,1,0,1]:=by decide+kernel
theorem aiA:l2 2 nY [0,0,1,0,1]=0:=by decide+kernel
theorem Vp:lg (eh 2 nY [0,0,1,0,1]).2=[4]:=by decide+kernel
theorem Vq:kg (eh 2 nY [0,0,1,0,1]).2 1=[]:=by decide+kernel
theorem Vr{os:List Nat}{bC:List cL}{dA:List Bool}(hp:os.Perm (aDB 1))(r:o8 [] [4] 1 os bC dA):bC=[(0,4)]:=by
 have aL:os=[0]:=List.perm_singleton.1 hp;cases r with
 |nil=>cases aL
 |step a aN h aj=>
  rename_i oh awA aBO;have ab:oh=[]/\a=0:=by
   cases oh with
   |nil=>injection aL with e _;exact⟨rfl,e⟩
   |cons b t=>injection aL with _ e;exact absurd e (by simp)
  obtain⟨rfl,rfl⟩:=ab;have am:awA=[(0,0)]:=by
   generalize e:([]:List Nat)=aBN at h;cases h with
   |nil=>rfl
   |step=>exact absurd e.symm (by simp)
  have aQ:aN=[]:=List.length_eq_zero_iff.1 (by have:=aj.1.length_eq;simpa[il,k5]using this);subst am aQ;rfl
def Sz:List b6:=[⟨1,0,2⟩,⟨4,0,1⟩,⟨5,0,0⟩,⟨6,0,2⟩,⟨2,0,1⟩,⟨3,0,3⟩,⟨5,1,0⟩,⟨7,0,1⟩,⟨4,0,1⟩,⟨5,0,0⟩,⟨6,0,2⟩,⟨3,0,3⟩,⟨5,1,0⟩,⟨7,0,1⟩]
theorem Vo:ga XV (fp (pQ [0,0,1,0,1]).2) 0 0=Sz/\jk (fp (pQ [0,0,1,0,1]).2) 0 0=1:=by decide+kernel
def SJ:km:={mem:=4,bF:=1,ins:=1,outs:=1,im:=none,cH:=0,parts:=[⟨2,none,0,0,[2]⟩,⟨3,none,0,0,[3]⟩],eA:=none,lc:=0,lines:=[⟨0,4,none,0,0,[]⟩],ct:=none,bO:=0,ops:=Sz++[⟨0,0,0⟩]}
theorem aiB:∃x,runM 200 {j3 SJ with da:=[[7,8,9]]} 1=some (x,1)/\x.wr=[[7,0]]:=⟨_,rfl,rfl⟩
theorem avu:∀{l:List nc},l.map (λx=>(x.tag,x.be))=[(2,[2]),(3,[3])]->∃q6 bJ c1 hz bB c2,l=[⟨2,q6,bJ,c1,[2]⟩,⟨3,hz,bB,c2,[3]⟩]
 |[⟨t1,q6,bJ,c1,ie⟩,⟨t2,hz,bB,c2,hR⟩],h=>by
  simp only[eO,zU,yp,Oy,and_true]at h;obtain⟨⟨rfl,rfl⟩,rfl,rfl⟩:=h;exact⟨q6,bJ,c1,hz,bB,c2,rfl⟩
theorem atp:∀{l:List h9},l.map (λx=>(x.base,x.size,x.st))=[(0,4,[])]->∃q6 bJ c1,l=[⟨0,4,q6,bJ,c1,[]⟩]
 |[⟨bL,s1,Us,dF,d1,st1⟩],h=>by
  simp only[eO,zU,yp,Oy,and_true]at h;obtain⟨rfl,rfl,rfl⟩:=h;exact⟨Us,dF,d1,rfl⟩
theorem aiC{U:I}(m:uo (ez hf gv eF ct iu dE ac cM cE bO c1 c2) [] U x):j3 x.p=j3 SJ/\x.p.ins=1/\x.p.outs=1/\∃T,x.p.yh T:=by
 obtain⟨_,_,_,_,_,yT,_,d6,os,bC,dA,aJ,aI,ck,eE,mf,tx,An,B9⟩:=m;rw[Vn]at aJ aI eE mf;have f1:d6=[3,2]:=(oB (Vt.symm.trans aJ)).symm;subst f1;have f2:x.l=[0,0,1,0,1]:=(oB (Vs.symm.trans aI)).symm;rw[f2]at mf yT;have f3:bC=[(0,4)]:=Vr (os:=os) (dA:=dA) eE (by
  have q:o8 (kg (eh (2:Nat) nY (j2 [0,0,1,0,1])).2 nY.length) (lg (eh (2:Nat) nY (j2 [0,0,1,0,1])).2) 1 os bC dA:=mf;rw[show lg (eh (2:Nat) nY (j2 [0,0,1,0,1])).2=[4]from Vp,show kg (eh (2:Nat) nY (j2 [0,0,1,0,1])).2 nY.length=[]from Vq]at q;exact q)
 subst f3;obtain⟨m1,m2,m3,m4,m5,m6,m7⟩:=An;have B':x.bX.bn=fp (pQ [0,0,1,0,1]).2:=by rw[<-zm x.bX.bn,yT];rfl
 rw[aix,B',Vo.1]at m7;rw[B',Vo.2]at m2;refine⟨?_,m3,m4,_,B9⟩;rw[tx]at m1;generalize x.p=p at*;obtain⟨mem,bF,ins,outs,im,cH,parts,eA,lc,lines,ct,bO,ops⟩:=p;have m1:mem=4:=m1;have m2:bF=1:=m2;have m3:ins=1:=m3;have m4:outs=1:=m4;have m5:parts.map (λx=>(x.tag,x.be))=[(2,[2]),(3,[3])]:=m5;have m6:lines.map (λx=>(x.base,x.size,x.st))=[(0,4,[])]:=m6;have m7:ops=Sz++[⟨0,0,0⟩]:=m7;subst m1 m2 m3 m4 m7;obtain⟨q6,bJ,c1,hz,bB,c2,rfl⟩:=avu m5;obtain⟨Us,dF,d1,rfl⟩:=atp m6;rfl
abbrev se(l:List ao)(t:Nat):Obj:=.cells l.toArray t (0,0)
def A9:Obj:=se [R 2] 3
def Dm:Obj:=se [R 3] 3
def FP(bL cy:Nat):Obj:=se [.string ⟨#[97]⟩,.int .u8 2,.slice (some ⟨bL,0,none⟩) 1 1,.string ⟨#[98]⟩,.int .u8 3,.slice (some ⟨cy,0,none⟩) 1 1] 96
def I0:Obj:=se [R 0,R 0,R 1,R 0,.slice none 0 0] 98
def MA:Obj:=se [.string ⟨#[120]⟩,R 0,R 0] 100
def Sw:Obj:=se [.string ⟨#[121]⟩,R 1,R 0] 100
def uF(b:Nat):Option ar:=some ⟨b,0,none⟩
def aO(h:I)(bL cy gE iW jy pO:Nat):I:=(((((h.put bL A9).put cy Dm).put gE (FP bL cy)).put iW I0).put jy MA).put pO Sw
theorem alV{bL cy gE iW jy pO:Nat}(aM:h bL=none)(aD:(h.put bL A9) cy=none)(bj:((h.put bL A9).put cy Dm) gE=none)(bT:(((h.put bL A9).put cy Dm).put gE (FP bL cy)) iW=none)(dz:((((h.put bL A9).put cy Dm).put gE (FP bL cy)).put iW I0) jy=none)(j6:(((((h.put bL A9).put cy Dm).put gE (FP bL cy)).put iW I0).put jy MA) pO=none):h.le (aO h bL cy gE iW jy pO)/\(ez (uF gE) (uF iW) (uF jy) (uF pO) (uF bL) (uF cy) 2 1 1 1 1 1).ok (aO h bL cy gE iW jy pO):=by
 have sN:I.le _ (aO h bL cy gE iW jy pO):=I.du j6;have l1:=I.le_trans (I.du (J:=MA) dz) sN;have gm:=I.le_trans (I.du (J:=I0) bT) l1;have ha:=I.le_trans (I.du (J:=FP bL cy) bj) gm;have c9:=I.le_trans (I.du (J:=Dm) aD) ha;have dc:=I.le_trans (I.du (J:=A9) aM) c9;have aJ:=c9 _ _ (I.bP h bL A9);have aI:=ha _ _ (I.bP _ cy Dm);have ck:=gm _ _ (I.bP _ gE (FP bL cy));have eE:=l1 _ _ (I.bP _ iW I0);have mf:=sN _ _ (I.bP _ jy MA);have tx:aO h bL cy gE iW jy pO pO=some Sw:=I.bP _ pO Sw;refine⟨dc,(by decide:(1:Nat)<=4611686018427387904),bg.lit ck rfl (by simp[ez,h8.cells]) rfl,?_,bg.lit eE rfl (by simp[ez,GE.cells]) rfl,?_,bg.lit mf rfl (by simp[ez,k0.cells]) rfl,?_,bg.lit tx rfl (by simp[ez,k0.cells]) rfl,?_⟩;intro a a6;simp only[ez,dC,th,or_false]at a6;rcases a6 with rfl|rfl;exact⟨bg.lit aJ rfl (by simp) rfl,(by decide:(1:Nat)*8<=140737488355328),(by decide:(1:Nat)<=4611686018427387904)⟩;exact⟨bg.lit aI rfl (by simp) rfl,(by decide:(1:Nat)*8<=140737488355328),(by decide:(1:Nat)<=4611686018427387904)⟩;intro a a6;simp only[ez,dC,th,or_false]at a6;subst a6;exact⟨bg.nil _ _ _,(by decide:(0:Nat)*8<=140737488355328)⟩;intro a a6;simp only[ez,dC,th,or_false]at a6;subst a6;exact(by decide:(1:Nat)<=4611686018427387904);intro a a6;simp only[ez,dC,th,or_false]at a6;subst a6;exact(by decide:(1:Nat)<=4611686018427387904)
theorem aiy:¬Bu (ez hf gv eF ct iu dE ac cM cE bO c1 c2) []:=by
 unfold Bu;rw[Vn];have es:vu (ez hf gv eF ct iu dE ac cM cE bO c1 c2).bt.length nY=some [3,2]:=Vt;have Ap:r1 (ez hf gv eF ct iu dE ac cM cE bO c1 c2).bt.length nY [3,2] []=some [0,0,1,0,1]:=Vs;rw[es];rintro(q|q|⟨d6,aM,aD⟩|⟨d6,l,aM,aD,bj⟩);exact q aiz;cases q;cases aM;rw[Ap]at aD;cases aD;cases aM;rw[Ap]at aD;cases aD;rcases bj with bj|⟨os,bC,dA,ie,hR,kW⟩;exact bj aiA;have q:o8 (kg (eh (2:Nat) nY (j2 [0,0,1,0,1])).2 nY.length) (lg (eh (2:Nat) nY (j2 [0,0,1,0,1])).2) 1 os bC dA:=hR;rw[show lg (eh (2:Nat) nY (j2 [0,0,1,0,1])).2=[4]from Vp,show kg (eh (2:Nat) nY (j2 [0,0,1,0,1])).2 nY.length=[]from Vq]at q;rw[Vr ie q]at kW;exact absurd kW (by decide)
theorem VP(h:I)(wJ:uw h):Fn aH 8 #[] h λv U=>v= .bool true/\h.le U:=by
 refine b5 asH rfl ?_;refine aK λgS dy gY=>?_;refine dy _ _ _ ?_;refine aK λgO dx eG=>?_;refine dx _ _ _ ?_;refine aK λgu df fK=>?_;refine .mk λbL eS=>?_;refine .mk λcy fC=>?_;refine .mk λgE pg=>?_;refine .mk λiW wi=>?_;refine .mk λjy amr=>?_;refine .mk λpO ams=>?_;have aP:=alV eS fC pg wi amr ams;refine .done (.mk _ (ab2 _ (aO h bL cy gE iW jy pO) aP.2 (wJ.mono aP.1) none 0 0 [] (bg.nil _ _ _) (by decide)) ?_);rintro _ h1 ⟨cr,⟨_,bad⟩|⟨x,rfl,mk⟩⟩;exact absurd bad aiy;obtain⟨jJ,Ap,aAL,T,Au⟩:=aiC mk;refine df _ _ _ ?_;refine aK λgk ed eH=>?_;refine aK λhA dY hL=>?_;refine dY _ _ _ ?_;refine ed _ _ _ ?_;refine aK λhc eT hi=>?_;refine .mk λuG amt=>?_;refine .mk λyy amu=>?_;have vf:I.le _ ((h1.put uG (se [R 7,R 8,R 9] 3)).put yy (se [.slice (uF uG) 3 3] 27)):=I.du amu;have B9:((h1.put uG (se [R 7,R 8,R 9] 3)).put yy (se [.slice (uF uG) 3 3] 27)) yy=some (se [.slice (uF uG) 3 3] 27):=I.bP _ _ _;have An:=vf _ _ (I.bP h1 uG (se [R 7,R 8,R 9] 3));have A0:=I.le_trans (I.du (J:=se [R 7,R 8,R 9] 3) amt) vf;refine .done (.mk _ (ab1 x.p T _ (mk.ok.mono A0) Au (uF yy) 1 [⟨uF uG,3,[7,8,9]⟩] (bg.lit B9 rfl (by simp[dO.val]) rfl) (λd aB=>?_)) ?_);rw[List.mem_singleton]at aB;subst aB;exact⟨bg.lit An rfl (by simp[gZ]) rfl,(by decide:(3:Nat)<=17592186044416)⟩;rintro _ ab ⟨aT,B,m,rfl,gF,k,ad⟩;have v0:aD4 x.p 200 m.x:=by rw[ad];exact aD4.start Au (by rw[Ap];rfl) (by decide)
 rw[jJ,Ap]at ad;have ad:m.x={j3 SJ with da:=[[7,8,9]]}:=ad;obtain⟨wM,dp,Q7⟩:=aiB;refine eT _ _ _ ?_;refine aK λkb fE i'=>?_;refine aK λkc gg j1=>?_;refine gg _ _ _ ?_;refine fE _ _ _ ?_;refine aK λko g' ja=>?_;refine .done (.mk _ (awV k 1 (by decide) (by rw[ad];decide) Au 200 v0 wM 1 (by rw[ad];exact dp)) ?_);rintro _ an ⟨zJ,m3,rfl,RN,eo,Ie,_⟩;refine g' _ _ _ ?_;refine aK λlq gX kR=>?_;conv=>whnf
 rw[fo rfl];refine .done (.mk _ (avg eo 0 (by rw[Ie,Q7];decide) (by rw[Ie,Q7];decide)) ?_);rw[Ie,Q7];intro v aR SG;obtain⟨cW,A,c,rfl,Nb⟩:=SG.dG;refine .mk λB3 amv=>?_;have Fp:aR.le (aR.put B3 (se [R 7,R 0] 3)):=I.du amv;refine .done (.mk _ (aet A (uF B3) 2 2 c 2 [7,0] [7,0] _ (Nb.mono Fp) (bg.lit (cs:=[R 7,R 0]) (I.bP aR B3 _) rfl (by simp) rfl) (by decide)) ?_);rintro _ cg ⟨rfl,rfl⟩;refine gX _ _ _ ?_;exact .done ⟨rfl,I.le_trans aP.1 (I.le_trans cr (I.le_trans A0 (I.le_trans gF (I.le_trans RN (I.le_trans eo.le (I.le_trans cW Fp))))))⟩
theorem aJ'{p q:km}(s:aFs p q):j3 q=j3 p:=by
 have h1:q.parts.map (λx=>l7 (bD x.tag x.be).2.1)=p.parts.map λx=>l7 (bD x.tag x.be).2.1:=by
  have:=ho (GJ λy:Int×List Int=>l7 (bD y.1 y.2).2.1) s.parts;rw[lo,lo]at this;exact this
 have ab:q.parts.map B5=p.parts.map B5:=by
  have:=ho (GJ λy:Int×List Int=>(⟨y.1.toNat,y.2,F' y.1.toNat y.2,0,(bD y.1 y.2).2.1,(bD y.1 y.2).2.2⟩:lG)) s.parts;rw[lo,lo]at this;exact this
 have an:q.lines.map (λx=>(⟨x.base,x.size,0,x.st.length⟩:m'))=p.lines.map λx=>⟨x.base,x.size,0,x.st.length⟩:=by
  have:=ho (GJ λy:Int×Int×List Int=>(⟨y.1,y.2.1,0,y.2.2.length⟩:m')) s.lines;rw[lo,lo]at this;exact this
 have aR:∀(l b3:List h9)(m:List Int),b3.map (λx=>(x.base,x.size,x.st))=l.map (λx=>(x.base,x.size,x.st))->xL b3 m=xL l m:=by
  intro l;induction l with
  |nil=>intro b3 m h;cases b3 with
   |nil=>rfl
   |cons=>cases h
  |cons x l bE=>intro b3 m h;cases b3 with
   |nil=>cases h
   |cons y b3=>
    rw[eO,eO]at h;injection h with aJ aI;injection aJ with aJ ck;injection ck with ck eE;rw[xL,xL,aJ,eE];exact bE _ _ aI
 unfold j3;rw[h1,ab,an,aR _ _ _ s.lines,s.mem,s.ins,s.outs,s.ops,s.bF]
theorem uo.Au(m:uo g aG h x):x.p.yh (jH (jV g) x.bX.bn+1:Nat):=by
 obtain⟨_,_,_,_,_,_,_,_,_,_,_,ck⟩:=m.ex;exact ck
theorem uo.run(m:uo g aG h x){da:List (List Int)}(az:da.length=x.p.ins.toNat)(n:Nat)(aC:n<=8):∃T F r,x.p.yh T/\aD4 x.p F {j3 x.p with da:=da}/\runM F {j3 x.p with da:=da} (0+(n:Int))=some r:=by
 have pj:=m.sf.e';rw[zm]at pj;obtain⟨hp,av⟩:=aFx pj;obtain⟨_,_,_,_,_,_,_,_,_,_,md,Au⟩:=m.ex;have XL:=Au.XL;have cG:∀r∈jV g,∀J∈r,3<=J.k:=λr am J aL=>(akW m.g0 r am J aL).three;have aw:jk x.bX.bn 0 0<=({j3 x.p with da:=da}:kl).er.length:=by
  show _<=(bG x.p.bF.toNat (0:Int)).length;rw[List.length_replicate];have:=md.2.1;omega
 obtain⟨r,am,_⟩:=aKy (jV g) cG x.bX.bn hp (aGE _ hp av) n {j3 x.p with da:=da} md.2.2.2.2.2.2 rfl aw;have hmul:n*(jH (jV g) x.bX.bn+1)<=8*131072:=Nat.mul_le_mul aC (by omega);exact⟨_,_,r,Au,aD4.start Au az (by omega),am⟩
noncomputable def aI':IR:=aHp.o.1.r.r.r.r.r.r.r.r.r.r.r.r.r.r.l.r.l.l
structure aFr(g:eY):Prop where
 be:∀a∈g.bt,∀z∈a.be,aDU z
 st:∀e∈g.cp,∀z∈e.st,aDU z
theorem uo.bytes{g:eY}{aG:List Int}{h:I}{x:wW}(m:uo g aG h x)(r:aFr g):aEv x.p:=by
 have Au:=m.Au;obtain⟨_,_,_,_,_,_,_,_,_,_,md,_⟩:=m.ex;refine Au.bytes (λy aQ z aY=>?_) λy aQ z aY=>?_;have h1:(y.tag,y.be)∈g.bt.map λa=>(a.tag,a.be):=by rw[<-md.2.2.2.2.1];exact dn.2 ⟨y,aQ,rfl⟩
 obtain⟨a,a6,e⟩:=dn.1 h1;injection e with _ aI;exact r.be a a6 z (by rw[aI];exact aY);have h1:(y.base,y.size,y.st)∈x.p.lines.map λx=>(x.base,x.size,x.st):=dn.2 ⟨y,aQ,rfl⟩;rw[md.2.2.2.2.2.1]at h1;obtain⟨i,ag,e⟩:=rb h1;rw[List.getElem_zipWith]at e;injection e with _ e;injection e with _ e;have Zp:i<g.cp.length:=by rw[List.length_zipWith]at ag;omega
 exact r.st _ (cS Zp) z (by rw[e];exact aY)
structure aEX(p:km)(h:I)(aT rn:Nat)(x:kl):Prop where
 a:∃B m,cU B h aT m/\m.x=x
 b:∃B m,cU B h rn m/\m.x=x
 w:aD3 p 0 x
theorem aEX.up{p:km}{h U:I}{aT rn:Nat}{x:kl}(t:aEX p h aT rn x)(le:h.le U):aEX p U aT rn x:=by
 obtain⟨⟨B,m,k,ad⟩,⟨dS,bc,e1,AV⟩,w⟩:=t;exact⟨⟨B,m,k.up le,ad⟩,⟨dS,bc,e1.up le,AV⟩,w⟩
theorem aKf(Q:dL)(e:bY)(g:eY)(p:km){ai:I}{aT rn:Nat}{x:kl}(t:aEX p ai aT rn x)(aL:g.outs.length=p.outs.toNat)(hp:p.outs<=16)(UQ:List LE)(he:[3,12,13,18].map e=([.p 0 0,.v (b0 aT),.v (b0 rn),.v (R (0:Nat))]:List aA).map (aCq [1]))(aF:sY UQ [1]=some (([.own (([.string g.dD,.slice g.hf g.bt.length g.ac,.slice g.gv g.cp.length g.cM,.slice g.eF g.ins.length g.cE,.slice g.ct g.outs.length g.bO]:List ao).map .v) 26]:List LE).map (pA [1])))(cD:∀e L U,ai.le U->Q (.exit 0) e L U):kH (λQ e L h=>c7 aH 123 aI' Q e L h) Q e UQ ai:=by
 refine .zl [1] Nat [3,12,13,18] (λi=>[.p 0 0,.v (b0 aT),.v (b0 rn),.v (R i)]) (λ_=>[.own (([.string g.dD,.slice g.hf g.bt.length g.ac,.slice g.gv g.cp.length g.cM,.slice g.eF g.ins.length g.cE,.slice g.ct g.outs.length g.bO]:List ao).map .v) 26]) (λi U=>ai.le U/\i<=g.outs.length) (λi=>g.outs.length-i) 0 (λ_=>rfl) ⟨I.le_refl _,cO _⟩ he rfl aF ?_;rintro i e h ⟨le,ag⟩;have t2:=t.up le;refine aK λgS dy gY=>?_;refine aK λgO dx eG=>?_;refine dx _ _ _ ?_;refine aW (λq=>?_) (λq=>?_);refine dy _ _ _ ?_;refine aK λgu df fK=>?_;refine fG λgk ed eH=>?_;obtain⟨⟨B,m,k,ad⟩,⟨dS,bc,e1,AV⟩,w⟩:=t2;have wl:=w.wr;have AG:i<x.wr.length:=by omega
 have fX:=w.pG _ (cS AG);have nK:=avg k i (by rw[ad];exact AG) (by rw[ad,aE9 AG];omega);rw[ad]at nK;refine aK λhA dY hL=>?_;refine .done (.mk _ nK ?_);rintro v1 h1 aGx;obtain⟨cr,iu,c1,rfl,t1⟩:=aGx.dG;have eW:=avg (e1.up cr) i (by rw[AV];exact AG) (by rw[AV,aE9 AG];omega);rw[AV]at eW;refine .done (.mk _ eW ?_);rintro v2 ab aGy;obtain⟨cn,dE,c2,rfl,t2⟩:=aGy.dG;have aEJ:=aet iu dE _ _ c1 c2 _ _ ab (t1.mono cn) t2 (by rw[aE9 AG];omega);rw[fo rfl]at aEJ;refine .done (.mk _ aEJ ?_);rintro _ _ ⟨rfl,rfl⟩;refine dY _ _ _ ?_;refine eH _ _ _ _ nofun (df _ _ _ ?_);refine .aLS ?_;exact⟨i+1,rfl,rfl,⟨I.le_trans le (I.le_trans cr cn),by omega⟩,by show g.outs.length- (i+1)<g.outs.length-i;omega⟩;refine gY _ _ _ _ nofun ?_;exact cD _ _ h le
theorem aI6(g:eY)(h:I)(ok:g.ok h)(wJ:uw h)(aFk:aFr g)(P:Option ar)(k c2:Nat)(aG:List Int)(q1:bg h 1 P k (gZ aG))(hk:k<=70368744177664)(NR:Option ar)(pW:Nat)(F:List dO)(Gc:bg h 1 NR F.length (F.map λd=>[d.val]))(bm:∀d∈F,d.ok h/\d.l.length<=17592186044416)(jc:Int):Fn aH 6 #[.agg #[.string g.dD,.slice g.hf g.bt.length g.ac,.slice g.gv g.cp.length g.cM,.slice g.eF g.ins.length g.cE,.slice g.ct g.outs.length g.bO,.slice P k c2,.slice NR F.length pW,R jc]] h λv U=>v= .bool true/\h.le U:=by
 have m7:=ab2 g h ok wJ P k c2 aG q1 hk;have gc:g.cells=[.string g.dD,.slice g.hf g.bt.length g.ac,.slice g.gv g.cp.length g.cM,.slice g.eF g.ins.length g.cE,.slice g.ct g.outs.length g.bO]:=rfl;rw[gc]at m7;refine b5 aHp rfl ?_;refine aK λgS dy gY=>?_;refine dy _ _ _ ?_;refine aK λgO dx eG=>?_;refine dx _ _ _ ?_;refine aK λgu df fK=>?_;refine df _ _ _ ?_;refine aK λgk ed eH=>?_;refine ed _ _ _ ?_;refine aK λhA dY hL=>?_;refine .done (.mk _ m7 ?_);rintro _ h1 ⟨cr,⟨rfl,bad⟩|⟨x,rfl,mk⟩⟩;refine dY _ _ _ ?_;refine aK λhc eT hi=>?_;refine aK λkb fE i'=>?_;refine fE _ _ _ ?_;refine .done (.mk _ (VP h1 (wJ.mono cr)) ?_);rintro _ ab ⟨rfl,cn⟩;refine hi _ _ _ _ nofun ?_;exact .done ⟨rfl,I.le_trans cr cn⟩;refine dY _ _ _ ?_;refine aK λhc eT hi=>?_;refine aK λkb fE i'=>?_;have out:∀e L,c7 aH 123 (.seq (.ch [⟨some 42,none,.call 8 []⟩,⟨some 2,none,.set (.t 42)⟩]) .ret) hc e L h1:=by
  intro e L;refine .done (.mk _ (VP h1 (wJ.mono cr)) ?_);rintro _ ab ⟨rfl,cn⟩;refine hi _ _ _ _ nofun ?_;exact .done ⟨rfl,I.le_trans cr cn⟩
 refine aW (λq=>?_) (λaM=>?_);refine fE _ _ _ ?_;exact out _ _;refine fE _ _ _ ?_;refine aW (c:=8<jc) (λq=>out _ _) (λaD=>?_);clear out;refine eT _ _ _ ?_;obtain⟨n,rfl⟩:∃n:Nat,jc=n:=⟨jc.toNat,by omega⟩;have aC:n<=8:=by omega
 have tn:=mk.bytes aFk;have aFA:=mk.Au;have AF:g.outs.length=x.p.outs.toNat:=by
  obtain⟨_,_,_,_,_,_,_,_,_,_,md,_⟩:=mk.ex;rw[md.2.2.2.1];omega
 have t6:x.p.cells=[R x.p.mem,R x.p.bF,R x.p.ins,R x.p.outs,.slice x.p.im x.p.parts.length x.p.cH,.slice x.p.eA x.p.lines.length x.p.lc,.slice x.p.ct x.p.ops.length x.p.bO]:=rfl;have aF6:=aIH x.p _ h1 mk.ok aFA tn;rw[t6]at aF6;refine aK λkc gg j1=>?_;refine .done (.mk _ aF6 ?_);rintro _ ab ⟨cn,rfl⟩;refine gg _ _ _ ?_;refine aK λko g' ja=>?_;refine .done (.mk _ (aIz x.p _ ab aFA tn) ?_);rintro _ an ⟨dZ,q,rfl,same,aFQ⟩;have aHE:q.cells=[R q.mem,R q.bF,R q.ins,R q.outs,.slice q.im q.parts.length q.cH,.slice q.eA q.lines.length q.lc,.slice q.ct q.ops.length q.bO]:=rfl;rw[aHE];refine g' _ _ _ ?_;have aFe:=I.le_trans cr (I.le_trans cn dZ);have m9:=ab1 x.p _ an (mk.ok.mono (I.le_trans cn dZ)) aFA NR pW F (Gc.mono aFe) (λd aB=>⟨(bm d aB).1.mono aFe,(bm d aB).2⟩);rw[t6]at m9;refine aK λlq gX kR=>?_;refine .done (.mk _ m9 ?_);rintro _ aR ⟨aT,B,m,rfl,gF,abe,ZG⟩;refine gX _ _ _ ?_;have aGl:=I.le_trans aFe gF;have aGu:=ab1 q _ B (aFQ.mono gF) (aFA.same same) NR pW F (Gc.mono aGl) (λd aB=>⟨(bm d aB).1.mono aGl,(bm d aB).2⟩);rw[aHE]at aGu;refine aK λsd lC sK=>?_;refine .done (.mk _ (aGu.frame abe.le) ?_);rintro _ cg ⟨g1,⟨rn,aK4,pu,rfl,aGp,dg,sA⟩,aFM,rM,fresh⟩;refine lC _ _ _ ?_;have aHB:aR.le cg:=λo J ae=>by
  cases bW:B o with
  |none=>exact rM o J bW ae
  |some gh=>
   have e:=abe.le _ _ bW;rw[ae]at e;injection e with e;rw[e];exact aFM _ _ (dg.le _ _ (aGp _ _ bW))
 have ml:((F.map dO.l).take x.p.ins.toNat++bG (x.p.ins.toNat-F.length) []).length=x.p.ins.toNat:=by simp;omega
 obtain⟨T,aGK,r,aEY,afJ,dp⟩:=mk.run ml n aC;obtain⟨wM,al⟩:=r;rw[aJ' same,same.ins]at sA;have awI:=awV abe n aC (by rw[ZG];exact⟨JU 0,(by decide:(0:Int)<=1000000000)⟩) aEY aGK (by rw[ZG];exact afJ) wM al (by rw[ZG];exact dp);have ad5:=awV dg n aC (by rw[sA];exact⟨JU 0,(by decide:(0:Int)<=1000000000)⟩) aEY aGK (by rw[sA];exact afJ) wM al (by rw[sA];exact dp);refine aK λqx lD pr=>?_;refine aK λut nJ xG=>?_;refine nJ _ _ _ ?_;refine lD _ _ _ ?_;refine aK λBU rL Fm=>?_;refine .done (.mk _ (awI.frame aHB) ?_);rintro _ fa ⟨g2,⟨dS,bc,rfl,aGo,aFd,rF,aE1⟩,aGr,aHs,aG8⟩;refine rL _ _ _ ?_;have aHA:g1.le fa:=λo J ae=>by
  cases aFb:aR o with
  |none=>exact aHs o J aFb (aFM _ _ ae)
  |some FI=>
   rcases fresh o (by rw[ae];nofun)with bW|bW;cases aEP:B o with
   |none=>exact absurd aEP bW
   |some px=>
    have e:=dg.le _ _ (aGp _ _ aEP);rw[ae]at e;injection e with e;rw[e];exact aGr _ _ (aFd.le _ _ (aGo _ _ aEP))
   rw[bW]at aFb;cases aFb
 refine aK λD7 AZ C'=>?_;refine .done (.mk _ (ad5.frame aHA) ?_);rintro _ mi ⟨g3,⟨aIa,hE,rfl,aJY,aGk,wm,_⟩,aGs,aHt,aIL⟩;refine AZ _ _ _ ?_;have aGm:g2.le mi:=λo J ae=>by
  cases aF9:g1 o with
  |none=>exact aHt o J aF9 (aGr _ _ ae)
  |some nK=>
   have aG':=aFM _ _ aF9;rcases aG8 o (by rw[ae];nofun)with aFb|aIT;rcases fresh o (by rw[aF9];nofun)with bW|aIS;cases aEP:B o with
   |none=>exact absurd aEP bW
   |some px=>
    have e:=aFd.le _ _ (aGo _ _ aEP);rw[ae]at e;injection e with e;rw[e];exact aGs _ _ (aGk.le _ _ (aJY _ _ (aGp _ _ aEP)))
   exact absurd aIS aFb;rw[aIT]at aG';cases aG'
 have aHw:h.le mi:=I.le_trans aFe (I.le_trans gF (I.le_trans aGo (I.le_trans aFd.le aGm)));have two:aEX x.p mi aT rn wM:=⟨⟨dS,bc,aFd.up aGm,rF⟩,⟨aIa,hE,aGk.up aGs,wm⟩,aE1⟩;clear aGm aHA rM aHs aHt fresh aG8 aIL aFM aGr aGs abe dg aFd aGk awI ad5 afJ dp aHB;have aKN:=wJ.mono aHw;clear gF aGl aFe Gc q1 bm wJ ok mk same aFQ m7 m9 aGu aF6;have aLu:=aEY.m1;have aLt:=aEY.m0;have aLs:=aEY.li;have aIK:=aEY.nK;have y2:wM.mem.length<=100000:=by have:=aE1.mem;omega
 refine aK λOz Iq aa8=>?_;refine aK λU7 Ir Iu=>?_;refine aW (λq=>absurd rfl q) (λ_=>?_);obtain⟨⟨aH9,aJ6,aGi,Z5⟩,⟨aH',dM,cv,aFc⟩,w⟩:=two;have nK:=atU aGi (by rw[Z5];exact y2);rw[Z5]at nK;refine .done (.mk _ nK ?_);rintro v1 pd aGx;obtain⟨qU,iu,c1,rfl,t1⟩:=aGx.dG;have eW:=atU (cv.up qU) (by rw[aFc];exact y2);rw[aFc]at eW;refine .done (.mk _ eW ?_);rintro v2 Yv aGy;obtain⟨Iz,dE,aF5,rfl,t2⟩:=aGy.dG;have aEJ:=aet iu dE _ _ c1 aF5 _ _ Yv (t1.mono Iz) t2 (by omega);rw[fo rfl]at aEJ;refine .done (.mk _ aEJ ?_);rintro _ _ ⟨rfl,rfl⟩;have aGn:=I.le_trans qU Iz;have l4:=aGX (aGi.up aGn) x.p.lines.length (by rw[Z5];exact w.dv) (by omega);rw[Z5]at l4;refine .done (.mk _ l4 ?_);rintro v3 aLv aKg;obtain⟨aHx,lm,eI,rfl,t3⟩:=aKg.dG;have FI:=aGX (cv.up (I.le_trans aGn aHx)) x.p.lines.length (by rw[aFc];exact w.dv) (by omega);rw[aFc]at FI;refine .done (.mk _ FI ?_);rintro v4 aIP aKh;obtain⟨aHy,agc,tq,rfl,t4⟩:=aKh.dG;have aEJ:=aet lm agc _ _ eI tq _ _ aIP (t3.mono aHy) t4 (by omega);rw[fo rfl]at aEJ;refine .done (.mk _ aEJ ?_);rintro _ aY ⟨rfl,rfl⟩;have aFL:=I.le_trans aGn (I.le_trans aHx aHy);refine Ir _ _ _ ?_;refine Iq _ _ _ ?_;refine aK λU8 Is aa9=>?_;refine aK λOA It aa'=>?_;refine It _ _ _ ?_;refine fG λah2 Rz asV=>?_;have two:aEX x.p aY aT rn wM:=⟨⟨aH9,aJ6,aGi.up aFL,Z5⟩,⟨aH',dM,cv.up aFL,aFc⟩,w⟩;refine .lj (.done (aKf ah2 _ g x.p two AF aIK _ rfl rfl λe L aIQ aHz=>?_));refine Rz _ _ _ (Is _ _ _ ?_);refine .done (.mk _ (VP aIQ ((aKN.mono aFL).mono aHz)) ?_);rintro _ aLw ⟨rfl,aJX⟩;exact .done ⟨rfl,I.le_trans aHw (I.le_trans aFL (I.le_trans aHz aJX))⟩
end Go.Sx
namespace Go.Proofs.YtlbdbpaelcnfgaaGreatDoor
open Go.Sx Go.RowKit Go.ChangeShapes Go.WideShapes
set_option maxRecDepth 100000
theorem Tryz.own:ownKnob Tryz.prog.godebug=none:=by rfl
theorem Tryz.laidOut:laidOutB aH=true:=by kernel_rfl
theorem V2:Tryz.prog.bytesOf 3=8:=by rfl
section
variable {H:Type}{enc:fc×ao->H}{P:dW}
theorem MB{α:Type}{cells:α->List ao}{size:Nat}{W:bb}{spare:Nat->Bool}{held:Bool}{t e k6:Nat}{v:ao}{x:oy H×List vK}(Ok:α->oy H->Prop)(eb:∀a,(cells a).length=size)(av:P.underlying t=some (.slice e))(hC:P.cellsOf e=size)(jM:∀k6 cs y,zL enc P W 0 spare held k6 e cs=some y->∃a,cs=cells a/\Ok a y.1)(h:zL enc P W 0 spare held k6 t [v]=some x):∃(A:Option ar)(n cap:Nat)(l:List α),v= .slice A n cap/\bg (I.of W) size A n (l.map cells)/\n<=cap/\∀a∈l,∃y,Ok a y/\∀k∈y.weights P e,k∈x.1.weights P t:=by
 rcases aGJ av h with⟨nN,aM⟩|⟨a,len,cap,elems,iH,n,rfl,fg,rfl,af,al,hm,aBe,n9,_⟩;injection nN with nN;exact⟨none,0,0,[],nN,bg.nil _ _ _,dd _,nofun⟩;injection fg with fg;obtain⟨l,yZ,y0⟩:=Pa (λi(b:α)=>(∀o u,(cells b)[o]?=some u->W.cell? (a.add (i*size+o))=some u)/\∃y∈elems,Ok b y.1) len λi ag=>by
  have hk:=n9 i ag;rw[bZ (by omega),hC]at hk;obtain⟨gQ,aw,Ic⟩:=U5.1 hk;obtain⟨b,rfl,dk⟩:=jM _ _ _ Ic;obtain⟨_,uX,mQ⟩:=aio aw;refine⟨b,λo u hu=>?_,_,cS (by omega),dk⟩;have ae:=(List.getElem?_eq_some_iff.1 hu).1;rw[eb]at ae;have:=mQ o ae;rw[uE]at this
  grind
 refine⟨some a,len,cap,l,fg,⟨by grind,λr am=>?_,λ_=>⟨a,rfl⟩,λg ak i r am o u hu=>?_⟩,al,λb k8=>?_⟩
 grind
 injection ak with ak;subst ak;rw[dV]at am;obtain⟨b,eS,rfl⟩:=Option.map_eq_some_iff.1 am;exact Sr ((y0 i b eS).1 o u hu);obtain⟨i,ag,rfl⟩:=rb k8;obtain⟨_,y,aQ,dk⟩:=y0 i _ (bZ ag);refine⟨y.1,dk,λk hk=>?_⟩;simp only[yg,av];refine List.mem_cons_of_mem _ (qu _ ?_);have:∀(l:List (oy H)),y.1∈l->k∈agw P e l:=by
  intro l;induction l with
  |nil=>simp
  |cons z l bE=>
   intro q;rw[agw]
   grind
 grind
end
section
variable {H:Type}{enc:fc×ao->H}
theorem ac6{W:bb}{k6:Nat}{v:ao}{x:oy H×List vK}(h:zL enc aH W 0 (λ_=>true) true k6 27 [v]=some x):∃(A:Option ar)(n cap:Nat)(l:List Int),v= .slice A n cap/\bg (I.of W) 1 A n (l.map λz=>[R z])/\(∀z∈l,aDU z)/\∀B,(∀k∈x.1.weights aH 27,k<=B)->n*8<=B:=by
 obtain⟨A,n,cap,l,rfl,ab,_,el,sp,aR⟩:=ac7 Kd BX (by rfl) h;refine⟨A,n,cap,l,rfl,ab,λz aY=>?_,λB bW=>?_⟩;obtain⟨i,ag,rfl⟩:=rb aY;have anA:l.length=n:=by simpa using ab.len
 rcases aGJ Kd h with⟨nN,_⟩|⟨a,len,c4,elems,iH,m,_,fg,_,_,_,_,al,n9,_⟩
 grind
 injection fg with fg;injection fg with aO aC _;subst aO aC;have hk:=n9 i (by omega);rw[bZ (by omega)]at hk;obtain⟨gQ,aw,Ic⟩:=U5.1 hk;obtain⟨af9,rfl,_,wf⟩:=By BX Ic;obtain⟨_,uX,mQ⟩:=aio aw;have ai:=ab.cell a rfl i _ (by rw[dV,bZ ag];rfl) 0 _ rfl;have h1:=Sr (mQ 0 Nat.one_pos);rw[uE,(by rfl:Tryz.prog.cellsOf 3=1),ai]at h1;injection h1 with h1;injection h1 with _ h1;subst h1;simp only[Lit.wf,Bool.and_eq_true,decide_eq_true_eq]at wf;exact wf;rcases aR with⟨aR,cg⟩|⟨aR,cg⟩;have:=bW ((el.length+sp.length)*8) (by simp[aR,yg,Kd,V2]);omega;omega
theorem three{α:Type}:∀{l:List α},l.length=3->∃a b c,l=[a,b,c]
 |[a,b,c],_=>⟨a,b,c,rfl⟩
theorem KR{α:Type}:∀{l:List α},l.length=5->∃a b c d e,l=[a,b,c,d,e]
 |[a,b,c,d,e],_=>⟨a,b,c,d,e,rfl⟩
theorem part{P:dW}{a':Array Field}{W:bb}{n:Nat}{cs:List ao}{aN:List (oy H×List vK)}(az:∀(i:Nat)(f:Field),a'[i]?=some f->zL enc P W 0 (λ_=>true) true n f.type ((cs.drop f.offset).take (P.cellsOf f.type))=aN[i]?)(o t off:Nat)(ae:∃f,a'[o]?=some f/\f.type=t/\f.offset=off)(aw:P.cellsOf t=1):zL enc P W 0 (λ_=>true) true n t ((cs.drop off).take 1)=aN[o]? :=by
 grind
def ky:Nat:=140737488355328
theorem awQ{W:bb}(k6:Nat)(cs:List ao)(y:oy H×List vK)(h:zL enc aH W 0 (λ_=>true) true k6 96 cs=some y):∃a:h8,cs=a.cells/\((∀k∈y.1.weights aH 96,k<=ky)->a.ok (I.of W))/\∀z∈a.be,aDU z:=by
 obtain⟨aN,hE,_,aQ,uX,mT,az⟩:=NM aii h;obtain⟨gT,c1,c2,rfl⟩:=three (uX.trans (by rfl:Tryz.prog.cellsOf 96=3));obtain⟨q5,hl,aDA,rfl⟩:=three mT;have nN:_=some q5:=part az 0 9 0 ⟨_,rfl,rfl,rfl⟩ (by rfl);have aM:_=some hl:=part az 1 94 1 ⟨_,rfl,rfl,rfl⟩ (by rfl);have aD:_=some aDA:=part az 2 27 2 ⟨_,rfl,rfl,rfl⟩ (by rfl);obtain⟨s,ds,aV,aj⟩:=Ut Ef nN;obtain⟨z,aJ,_⟩:=By Tryz.underlying94 aM;obtain⟨A,n,c,l,aI,t,oo,hw⟩:=ac6 (v:=c2) aD;injection ds with ds;injection aJ with aJ;have ds:gT= .string s:=ds;have aJ:c1= .int .u8 z:=aJ;subst ds aJ aI;have lT:y.1.weights aH 96=q5.1.weights aH 9++(hl.1.weights aH 94++(aDA.1.weights aH 27++[])):=by simp[aQ,yg,JO,aii]
 rw[lT];refine⟨⟨s,z,A,n,c,l⟩,rfl,λhk=>⟨t,hw _ λk br=>hk k (by grind),?_⟩,oo⟩;have:=hk s.size (by simp[aV,yg]);unfold ky at this
 grind
theorem awR{W:bb}(k6:Nat)(cs:List ao)(y:oy H×List vK)(h:zL enc aH W 0 (λ_=>true) true k6 98 cs=some y):∃a:GE,cs=a.cells/\((∀k∈y.1.weights aH 98,k<=ky)->a.ok (I.of W))/\∀z∈a.st,aDU z:=by
 obtain⟨aN,hE,_,aQ,uX,mT,az⟩:=NM aij h;obtain⟨gT,c1,c2,eI,tq,rfl⟩:=KR (uX.trans (by rfl:Tryz.prog.cellsOf 98=5));obtain⟨q5,hl,aDA,wN,vz,rfl⟩:=KR mT;have nN:_=some q5:=part az 0 3 0 ⟨_,rfl,rfl,rfl⟩ (by rfl);have aM:_=some hl:=part az 1 3 1 ⟨_,rfl,rfl,rfl⟩ (by rfl);have aD:_=some aDA:=part az 2 3 2 ⟨_,rfl,rfl,rfl⟩ (by rfl);have bj:_=some wN:=part az 3 3 3 ⟨_,rfl,rfl,rfl⟩ (by rfl);have bT:_=some vz:=part az 4 27 4 ⟨_,rfl,rfl,rfl⟩ (by rfl);obtain⟨z0,ds,_⟩:=By BX nN;obtain⟨hJ,aJ,_⟩:=By BX aM;obtain⟨z2,aI,_⟩:=By BX aD;obtain⟨z3,ck,_⟩:=By BX bj;obtain⟨A,n,c,l,eE,t,oo,hw⟩:=ac6 (v:=tq) bT;injection ds with ds;injection aJ with aJ;injection aI with aI;injection ck with ck;have ds:gT=R z0:=ds;have aJ:c1=R hJ:=aJ;have aI:c2=R z2:=aI;have ck:eI=R z3:=ck;subst ds aJ aI ck eE;have lT:y.1.weights aH 98=q5.1.weights aH 3++(hl.1.weights aH 3++(aDA.1.weights aH 3++(wN.1.weights aH 3++(vz.1.weights aH 27++[])))):=by simp[aQ,yg,JO,aij]
 rw[lT];exact⟨⟨z0,hJ,z2,z3,A,n,c,l⟩,rfl,λhk=>⟨t,hw _ λk br=>hk k (by grind)⟩,oo⟩
theorem ad9{W:bb}(k6:Nat)(cs:List ao)(y:oy H×List vK)(h:zL enc aH W 0 (λ_=>true) true k6 100 cs=some y):∃a:k0,cs=a.cells/\((∀k∈y.1.weights aH 100,k<=ky)->a.dD.size<=ky):=by
 obtain⟨aN,hE,_,aQ,uX,mT,az⟩:=NM aif h;obtain⟨gT,c1,c2,rfl⟩:=three (uX.trans (by rfl:Tryz.prog.cellsOf 100=3));obtain⟨q5,hl,aDA,rfl⟩:=three mT;have nN:_=some q5:=part az 0 9 0 ⟨_,rfl,rfl,rfl⟩ (by rfl);have aM:_=some hl:=part az 1 3 1 ⟨_,rfl,rfl,rfl⟩ (by rfl);have aD:_=some aDA:=part az 2 3 2 ⟨_,rfl,rfl,rfl⟩ (by rfl);obtain⟨s,ds,aV,aj⟩:=Ut Ef nN;obtain⟨hJ,aJ,_⟩:=By BX aM;obtain⟨z2,aI,_⟩:=By BX aD;injection ds with ds;injection aJ with aJ;injection aI with aI;have ds:gT= .string s:=ds;have aJ:c1=R hJ:=aJ;have aI:c2=R z2:=aI;subst ds aJ aI;have lT:y.1.weights aH 100=q5.1.weights aH 9++(hl.1.weights aH 3++(aDA.1.weights aH 3++[])):=by simp[aQ,yg,JO,aif]
 rw[lT];exact⟨⟨s,hJ,z2⟩,rfl,λhk=>hk s.size (by simp[aV,yg])⟩
theorem ava{W:bb}{k6:Nat}{cs:List ao}{d:oy H×List vK}(am3:zL enc aH W 0 (λ_=>true) true k6 26 cs=some d)(hk:∀k∈d.1.weights aH 26,k<=ky):∃g:eY,cs=g.cells/\g.ok (I.of W)/\aFr g:=by
 obtain⟨aN,hE,_,aQ,uX,mT,az⟩:=NM Vh am3;obtain⟨gT,c1,c2,eI,tq,rfl⟩:=KR (l:=cs) (uX.trans (by rfl:Tryz.prog.cellsOf 26=5));obtain⟨q5,hl,aDA,wN,vz,rfl⟩:=KR mT;have nN:_=some q5:=part az 0 9 0 ⟨_,rfl,rfl,rfl⟩ (by rfl);have aM:_=some hl:=part az 1 22 1 ⟨_,rfl,rfl,rfl⟩ (by rfl);have aD:_=some aDA:=part az 2 23 2 ⟨_,rfl,rfl,rfl⟩ (by rfl);have bj:_=some wN:=part az 3 24 3 ⟨_,rfl,rfl,rfl⟩ (by rfl);have bT:_=some vz:=part az 4 24 4 ⟨_,rfl,rfl,rfl⟩ (by rfl);obtain⟨s,ds,aV,aj⟩:=Ut Ef nN;obtain⟨hf,aiR,ac,Ad,aJ,t1,_,nK⟩:=MB (v:=c1) (size:=3) (cells:=h8.cells) (λ(a:h8)(y:oy H)=>((∀k∈y.weights aH 96,k<=ky)->a.ok (I.of W))/\∀z∈a.be,aDU z) (λ_=>rfl) Tryz.underlying22 (by rfl) awQ aM;obtain⟨gv,jJ,cM,el,aI,t2,_,eW⟩:=MB (v:=c2) (size:=5) (cells:=GE.cells) (λ(a:GE)(y:oy H)=>((∀k∈y.weights aH 98,k<=ky)->a.ok (I.of W))/\∀z∈a.st,aDU z) (λ_=>rfl) Tryz.underlying23 (by rfl) awR aD;obtain⟨eF,aoE,cE,vd,ck,t3,_,l4⟩:=MB (v:=eI) (size:=3) (cells:=k0.cells) (λ(a:k0)(y:oy H)=>(∀k∈y.weights aH 100,k<=ky)->a.dD.size<=ky) (λ_=>rfl) aig (by rfl) ad9 bj;obtain⟨ct,ok,bO,ol,eE,t4,_,FI⟩:=MB (v:=tq) (size:=3) (cells:=k0.cells) (λ(a:k0)(y:oy H)=>(∀k∈y.weights aH 100,k<=ky)->a.dD.size<=ky) (λ_=>rfl) aig (by rfl) ad9 bT;injection ds with ds;have ds:gT= .string s:=ds;subst ds aJ aI ck eE;have aB:d.1= .agg ([q5,hl,aDA,wN,vz].map (·.1)):=by rw[aQ]
 have lT:d.1.weights aH 26=q5.1.weights aH 9++(hl.1.weights aH 22++(aDA.1.weights aH 23++(wN.1.weights aH 24++(vz.1.weights aH 24++[])))):=by simp[aB,yg,JO,Vh]
 rw[lT]at hk;have atf:Ad.length=aiR:=by simpa using t1.len
 have atg:el.length=jJ:=by simpa using t2.len
 have ath:vd.length=aoE:=by simpa using t3.len
 have ati:ol.length=ok:=by simpa using t4.len
 subst atf atg ath ati;have B4:ky<=4611686018427387904:=by decide
 refine⟨⟨s,hf,ac,Ad,gv,cM,el,eF,cE,vd,ct,bO,ol⟩,rfl,⟨?_,t1,λa a6=>?_,t2,λa a6=>?_,t3,λa a6=>?_,t4,λa a6=>?_⟩,λa a6=>?_,λa a6=>?_⟩;exact Nat.le_trans (hk s.size (by simp[aV,yg])) B4
 grind
 grind
 grind
 grind
 grind
 grind
theorem aKx{W:bb}(k6:Nat)(cs:List ao)(y:oy H×List vK)(h:zL enc aH W 0 (λ_=>true) true k6 27 cs=some y):∃a:dO,cs=[a.val]/\((∀k∈y.1.weights aH 27,k<=ky)->a.ok (I.of W)/\a.l.length<=17592186044416):=by
 obtain⟨v,rfl⟩:∃v,cs=[v]:=by
  rcases aGJ Kd h with⟨nN,_⟩|⟨_,_,_,_,_,_,_,nN,_⟩<;>exact⟨_,nN⟩
 obtain⟨A,n,c,l,rfl,t,_,hw⟩:=ac6 h;have anA:l.length=n:=by simpa using t.len
 subst anA;exact⟨⟨A,c,l⟩,rfl,λhk=>⟨t,by have:=hw _ hk;unfold ky at this;grind⟩⟩
theorem eight{α:Type}:∀{l:List α},l.length=8->∃a b c d e f g h,l=[a,b,c,d,e,f,g,h]
 |[a,b,c,d,e,f,g,h],_=>⟨a,b,c,d,e,f,g,h,rfl⟩
theorem four{α:Type}:∀{l:List α},l.length=4->∃a b c d,l=[a,b,c,d]
 |[a,b,c,d],_=>⟨a,b,c,d,rfl⟩
theorem aKc{W:bb}{v:ao}{d:oy H}{p:List vK}{r:Reach}{eD:Nat}(ah:Value.okWide aH W r eD 30 v)(h:DataW.Trod enc aH W 0 (λ_=>true) true 30 v d p)(hk:∀k∈d.weights aH 30,k<=ky):∃(g:eY)(P:Option ar)(k c2:Nat)(aG:List Int)(NR:Option ar)(pW:Nat)(F:List dO)(jc:Int),v= .agg #[.string g.dD,.slice g.hf g.bt.length g.ac,.slice g.gv g.cp.length g.cM,.slice g.eF g.ins.length g.cE,.slice g.ct g.outs.length g.bO,.slice P k c2,.slice NR F.length pW,R jc]/\g.ok (I.of W)/\aFr g/\bg (I.of W) 1 P k (gZ aG)/\k<=70368744177664/\bg (I.of W) 1 NR F.length (F.map λd=>[d.val])/\∀d∈F,d.ok (I.of W)/\d.l.length<=17592186044416:=by
 obtain⟨cs,rfl,ht⟩:=okWide_struct aGS ah;obtain⟨k6,am3⟩:=h;obtain⟨cs⟩:=cs;obtain⟨aN,hE,_,aQ,uX,mT,az⟩:=NM aGS am3;obtain⟨a0,cP,a2,a3,a4,c1,c2,eI,rfl⟩:=eight (l:=cs) (uX.trans (by rfl:Tryz.prog.cellsOf 30=8));obtain⟨q5,hl,aDA,wN,rfl⟩:=four mT;have nN:_=some q5:=az 0 _ rfl;have aM:_=some hl:=part az 1 27 5 ⟨_,rfl,rfl,rfl⟩ (by rfl);have aD:_=some aDA:=part az 2 28 6 ⟨_,rfl,rfl,rfl⟩ (by rfl);have bj:_=some wN:=part az 3 3 7 ⟨_,rfl,rfl,rfl⟩ (by rfl);have aB:d= .agg ([q5,hl,aDA,wN].map (·.1)):=(Prod.mk.inj aQ).1;have lT:d.weights aH 30=q5.1.weights aH 26++(hl.1.weights aH 27++(aDA.1.weights aH 28++(wN.1.weights aH 3++[]))):=by simp[aB,yg,JO,aGS]
 rw[lT]at hk;have nN:zL enc aH W 0 (λ_=>true) true hE 26 ([a0,cP,a2,a3,a4,c1,c2,eI].take (Tryz.prog.cellsOf 26))=some q5:=nN;rw[(by rfl:Tryz.prog.cellsOf 26=5)]at nN;obtain⟨g,nh,alI,aFk⟩:=ava nN λk br=>hk k (by grind);injection nh with ds nh;injection nh with aJ nh;injection nh with aI nh;injection nh with ck nh;injection nh with eE _;obtain⟨P,k,cH,aG,mf,q1,_,aIZ⟩:=ac6 (v:=c1) aM;obtain⟨NR,fn,pW,F,tx,Gc,_,aKb⟩:=MB (v:=c2) (size:=1) (cells:=λa:dO=>[a.val]) (λ(a:dO)(y:oy H)=>(∀k∈y.weights aH 27,k<=ky)->a.ok (I.of W)/\a.l.length<=17592186044416) (λ_=>rfl) Tryz.underlying28 (by rfl) aKx aD;obtain⟨z,An,_⟩:=By BX bj;injection An with An;have An:eI=R z:=An;have aJ2:F.length=fn:=by simpa using Gc.len
 subst ds aJ aI ck eE mf tx An aJ2;refine⟨g,P,k,cH,aG,NR,pW,F,z,rfl,alI,aFk,q1,?_,Gc,λa a6=>?_⟩;have:=aIZ ky λk br=>hk k (by grind);unfold ky at this;omega;obtain⟨y,q,w⟩:=aKb a a6;simp_all
theorem W1{P:dW}{eg:List fc}{a7:List (oy H)}{o:Nat}{t:fc}{d:oy H}(h:(JO P eg a7).all (λk=>decide (k<=reachBytes))=true)(av:eg[o]?=some t)(aB:a7[o]?=some d):∀k∈d.weights P t,k<=140737488355328:=λk hk=>by
 have:=List.all_eq_true.1 h k (DataW.weights_mem_each av aB k hk)
 grind [reachBytes]
end
end Go.Proofs.YtlbdbpaelcnfgaaGreatDoor
