/- A part of the proof that the statement holds. Conditions: none. -/
import Derived.Test.YtlbdbpaelcnfgaaGreatDoorAU
open Bool renaming and_eq_true->fY
open Classical renaming not_not->jw
open Go renaming Addr->ar,Value->ao,maxLen->c'
open Go.Proofs.Tryz renaming prog->aH
open Go.Value renaming slice->oE
open Int renaming emod_lt_of_pos->NY,emod_nonneg->NZ,tmod_eq_emod_of_nonneg->ag2,toNat_natCast->bq
open List renaming append_assoc->mb,append_nil->zR,drop_append_of_le_length->ag',drop_eq_getElem_cons->o6,drop_eq_nil_of_le->tg,drop_take->aha,drop_zero->aB6,eq_nil_of_length_eq_zero->ra,flatMap_cons->JX,flatten_nil->ahf,getD_eq_getElem?_getD->cN,getElem?_drop->GF,getElem?_eq_getElem->bZ,getElem?_eq_some_iff->qt,getElem?_map->dV,getElem?_take->GH,getElem_append_left->ahk,getElem_append_right->N9,getElem_mem->cS,getElem_of_mem->rb,getElem_set_ne->UU,getElem_set_self->GI,length_append->fb,length_cons->gI,length_drop->k1,length_map->ih,length_replicate->Ob,length_set->k2,length_take->sa,map_append->fm,map_drop->GK,map_map->lo,map_nil->zU,map_replicate->un,map_set->nb,map_take->GM,mem_append->ev,mem_cons->dC,mem_cons_of_mem->iv,mem_cons_self->iU,mem_flatMap->qv,mem_map->dn,mem_map_of_mem->pL,mem_replicate->Oe,mem_singleton->fx,mem_singleton_self->Of,nodup_append->nS,nodup_cons->k3,not_mem_nil->th,replicate->bG,take_append_drop->BI,take_left->BJ,take_length->pM,take_of_length_le->k4
open Nat renaming add_sub_cancel_left->ahA,le_refl->dd,lt_succ_self->ri,mul_one->ew,zero_add->dJ,zero_le->cO
open Ne renaming symm->d9
open Option renaming bind_eq_some_iff->U5
open Option.some renaming inj->oB
open Prod renaming snd->ek
namespace Go.Sx
open Go.Proofs
set_option maxRecDepth 100000
set_option maxHeartbeats 0
set_option linter.all false
variable {a8:Array ao}{base dv op:Int}{dh:List (Nat×Nat)}{l:List Int}{xs:List ao}{O a aT b bs c cK cj cm cv d' jb n o size t:Nat}{J:Obj}{A:Option ar}{w:ao}{g:ar}{m:e8}{x:lG}
theorem ax6(l:List Int)(x:Int):l7 (l++[x])=l7 l+x:=by simp[l7]
theorem ae6:∀(l:List Int),tj l->0<=l7 l/\l7 l<=64*l.length:=by
 intro l;have key:∀(l:List Int)(a:Int),tj l->a<=l.foldl (·+·) a/\l.foldl (·+·) a<=a+64*l.length:=by
  intro l;induction l with
  |nil=>intro a _;simp
  |cons x l bE=>
   intro a h;have ad:=h x (iU ..);have:=bE (a+x) λr am=>h r (iv _ am);rw[List.foldl_cons,gI];omega
 intro h;have:=key l 0 h;unfold l7;omega
structure wP(ai h:I)(qc:List Nat)(dh:List (Nat×Nat))(o':List lG):Prop where
 len:dh.length=o'.length
 lM:∀i(h1:i<dh.length)(ab:i<o'.length),ln (h.on λo=>o∉qc/\o∉dh.map ek) h dh[i].1 dh[i].2 o'[i]
 gR:(dh.map ek).Nodup
 new:∀q∈dh,ai q.2=none
theorem ln.to{B dS h U:I}(k:ln B h cj cv x)(le:B.le dS)(e:h cv=U cv)(z:dS cv=none):ln dS U cj cv x:=by
 obtain⟨a,b,c,d,bl,f,g1,g2,g3,g4⟩:=k;exact⟨le _ _ a,z,c,d,bl,f,g1,by rw[<-e];exact g2,g3.mono le,g4.1.mono le,g4.2.mono le⟩
theorem ln.some_{B h:I}(k:ln B h cj cv x):h cv≠none:=by
 obtain⟨_,_,_,_,_,_,_,g2,_⟩:=k;rw[g2];nofun
theorem wP.up{ai h U:I}{qc:List Nat}{o':List lG}(x:wP ai h qc dh o')(le:h.le U):wP ai U qc dh o':=by
 refine⟨x.len,λi h1 ab=>?_,x.gR,x.new⟩;have b:=x.lM i h1 ab;have aj:=b.some_;refine b.to (λo J ae=>?_) ?_ ?_;have q:=I.vp (by rw[ae];nofun);rw[I.mX q]at ae;rw[I.mX (S:=λo=>o∉qc/\o∉dh.map ek) q];exact le _ _ ae;cases hk:h dh[i].2 with
 |none=>exact absurd hk aj
 |some J=>exact(le _ _ hk).symm
 unfold I.on;rw[aE λq=>q.2 (pL (cS h1))]
theorem wP.add{ai h U:I}{qc:List Nat}{o':List lG}(x:wP ai h qc dh o')(abt:ai.le h)(le:h.le U)(aL:∀b∈qc,ai b≠none){y:lG}(hk:h cv=none)(b:ln (od h U cv) U cj cv y):wP ai U qc (dh++[(cj,cv)]) (o'++[y]):=by
 have al:=x.len;have cR:∀q∈dh.map ek,h q≠none:=λq aq=>by
  obtain⟨r,am,rfl⟩:=dn.1 aq;obtain⟨i,ag,rfl⟩:=rb am;exact(x.lM i ag (by omega)).some_
 have own:∀q∈qc,h q≠none:=λq aq e=>aL q aq (I.none_le abt e);have em:(dh++[(cj,cv)]).map ek=dh.map ek++[cv]:=by simp
 refine⟨by simp[al],λi h1 ab=>?_,?_,?_⟩;by_cases ag:i<dh.length;have bi:=x.lM i ag (by omega);have aj:=bi.some_;have aJ:(dh++[(cj,cv)])[i]=dh[i]:=ahk ag;have aI:(o'++[y])[i]=o'[i]'(by omega):=ahk (by omega);rw[aJ,aI];refine bi.to (λo J ae=>?_) ?_ ?_;have q:=I.vp (by rw[ae];nofun);rw[I.mX q]at ae;rw[I.mX (S:=λo=>o∉qc/\o∉(dh++[(cj,cv)]).map ek) ⟨q.1,by rw[em];simp only[ev,fx,not_or];exact⟨q.2,λe=>by rw[e,hk]at ae;cases ae⟩⟩];exact le _ _ ae;cases hk:h dh[i].2 with
 |none=>exact absurd hk aj
 |some J=>exact(le _ _ hk).symm
 unfold I.on;rw[aE λq=>q.2 (by rw[em];exact List.mem_append_left _ (pL (cS ag)))];have Lp:i=dh.length:=by simp at h1;omega
 have aJ:(dh++[(cj,cv)])[i]=(cj,cv):=by rw[N9 (by omega)];simp
 have aI:(o'++[y])[i]=y:=by rw[N9 (by omega)];simp
 rw[aJ,aI];refine b.to (λo J ae=>?_) rfl ?_;unfold od at ae;have q:=I.vp (by rw[ae];nofun);rw[I.mX q]at ae;rw[I.mX (S:=λo=>o∉qc/\o∉(dh++[(cj,cv)]).map ek) ⟨λm=>own o m q.1,by rw[em];simp only[ev,fx,not_or];exact⟨λm=>cR o m q.1,q.2⟩⟩];exact ae;unfold I.on;rw[aE λq=>q.2 (by rw[em];simp)];rw[em,nS];exact⟨x.gR,by simp,λa a6 b af=>by rw[fx]at af;subst af;exactλe=>cR a a6 (by rw[e];exact hk)⟩;intro q aq;rcases ev.1 aq with aq|aq;exact x.new q aq;rw[fx]at aq;subst aq;exact I.none_le abt hk
section
variable (p:km)(dM T ff fn fX wn:Nat)(eA:Option ar)(dv lc:Nat)(ct:Option ar)(on bO c8 kM:Nat)
theorem ax7(Q:dL)(e:bY)(h:I)(k:Nat)(kJ iO:Option ar)(lr iq:Nat)(zK z1:List ao)(cj:Nat)(t0 t1:ao)(eF:Option ar)(cE m:Nat)(ins:List Int)(e2:bg h 1 eF m (gZ ins))(am:tj ins)(hm:m<=16)(he:[5,10,12,89,90,91,111,112,113].map e=[.p 1 0,.v (b0 cj),.v (R 0),.v (.slice p.im p.parts.length p.cH),.v (R p.parts.length),.v (R k),.v (.slice eF m cE),.v (R m),.v (R (0:Nat))])(cD:∀e,[5,10,12,89,90,91].map e=[.p 1 0,.v (b0 cj),.v (R (l7 ins)),.v (.slice p.im p.parts.length p.cH),.v (R p.parts.length),.v (R k)]->Q (.exit 4) e [.own [.v (R p.mem),.v (R p.bF),.v (R p.ins),.v (R p.outs),.v (.slice p.im p.parts.length p.cH),.v (.slice p.eA p.lines.length p.lc),.v (.slice p.ct p.ops.length p.bO)] 42,.own [.v (.slice (some ⟨dM,0,none⟩) T T),.v (.slice eA dv lc),.v (.slice (some ⟨ff,0,none⟩) fn fn),.v (.slice (some ⟨fX,0,none⟩) wn wn),.v (.slice ct on bO),.v (.slice iO k iq),.v (.slice kJ k lr),.v (.slice (some ⟨c8,0,none⟩) kM kM),.v (.slice none 0 0),.v (R 0),.v (R 0),.v (.bool false),.v (R 0),.v (.int .u8 0),.v (R 0),.v (.slice none 0 0),.v (.int .u8 0)] 115,.gone,.row 121 1 kJ k lr zK,.row 3 1 iO k iq z1,.own [.v t0,.v t1] 138] h):kH (λQ e L h=>c7 aH 143 aqc Q e L h) Q e [.own [.v (R p.mem),.v (R p.bF),.v (R p.ins),.v (R p.outs),.v (.slice p.im p.parts.length p.cH),.v (.slice p.eA p.lines.length p.lc),.v (.slice p.ct p.ops.length p.bO)] 42,.own [.v (.slice (some ⟨dM,0,none⟩) T T),.v (.slice eA dv lc),.v (.slice (some ⟨ff,0,none⟩) fn fn),.v (.slice (some ⟨fX,0,none⟩) wn wn),.v (.slice ct on bO),.v (.slice iO k iq),.v (.slice kJ k lr),.v (.slice (some ⟨c8,0,none⟩) kM kM),.v (.slice none 0 0),.v (R 0),.v (R 0),.v (.bool false),.v (R 0),.v (.int .u8 0),.v (R 0),.v (.slice none 0 0),.v (.int .u8 0)] 115,.gone,.row 121 1 kJ k lr zK,.row 3 1 iO k iq z1,.own [.v t0,.v t1] 138] h:=by
 refine .mk Nat [5,10,12,89,90,91,111,112,113] (λo=>[.p 1 0,.v (b0 cj),.v (R (l7 (ins.take o))),.v (.slice p.im p.parts.length p.cH),.v (R p.parts.length),.v (R k),.v (.slice eF m cE),.v (R m),.v (R o)]) (λ_=>[.own [.v (R p.mem),.v (R p.bF),.v (R p.ins),.v (R p.outs),.v (.slice p.im p.parts.length p.cH),.v (.slice p.eA p.lines.length p.lc),.v (.slice p.ct p.ops.length p.bO)] 42,.own [.v (.slice (some ⟨dM,0,none⟩) T T),.v (.slice eA dv lc),.v (.slice (some ⟨ff,0,none⟩) fn fn),.v (.slice (some ⟨fX,0,none⟩) wn wn),.v (.slice ct on bO),.v (.slice iO k iq),.v (.slice kJ k lr),.v (.slice (some ⟨c8,0,none⟩) kM kM),.v (.slice none 0 0),.v (R 0),.v (R 0),.v (.bool false),.v (R 0),.v (.int .u8 0),.v (R 0),.v (.slice none 0 0),.v (.int .u8 0)] 115,.gone,.row 121 1 kJ k lr zK,.row 3 1 iO k iq z1,.own [.v t0,.v t1] 138]) (λo U=>U=h/\o<=m) (λo=>m-o) 0 (λ_=>rfl) ⟨rfl,cO _⟩ he rfl ?_;rintro o e _ ⟨rfl,hk⟩;have al:ins.length=m:=by simpa using e2.len
 refine aK λgS dy gY=>?_;refine dy _ _ _ ?_;refine aK λgO dx eG=>?_;refine aW (λq=>?_) (λq=>?_);have ae:o<ins.length:=by omega
 obtain⟨g,ak⟩:=e2.cc (by omega);have c:=e2.one ak (i:=o) (r:=[R ins[o]]) (by rw[dV,bZ ae];rfl) rfl;have hS:ins.take (o+1)=ins.take o++[ins[o]]:=kh ae;have s1:=ae6 (ins.take o) λr sB=>am r (List.mem_of_mem_take sB);have s2:=am _ (cS ae);have hN:(ins.take o).length<=16:=by rw[sa];omega
 have mC:=ax6 (ins.take o) ins[o];rw[<-hS]at mC;generalize ins[o]=x at c s2 mC;refine dx _ _ _ ?_;refine aK λgu df fK=>?_;refine fG λgk ed eH=>?_;refine aK λhA dY hL=>?_;refine .mk g ak (by omega) (by omega) ?_;refine .hp (R x) (by rw[bq];exact c) ?_;refine dY _ _ _ ?_;refine .ok (by omega) (by omega) ?_;refine eH _ _ _ _ nofun (df _ _ _ ?_);refine .ok (by omega) (by omega) ?_;refine⟨o+1,?_,rfl,⟨rfl,by omega⟩,by show m- (o+1)<m-o;omega⟩;show _=[_,_,aA.v (R (l7 (ins.take (o+1)))),_,_,_,_,_,_];rw[mC];rfl;refine eG _ _ _ _ nofun ?_;refine cD _ ?_;show _=[_,_,aA.v (R (l7 ins)),_,_,_];rw[show l7 ins=l7 (ins.take o) by rw[k4 (by omega)]];rfl
theorem aux(Q:dL)(e:bY)(ai:I)(qc:List Nat)(ok:p.ok ai)(aL:∀b∈qc,ai b≠none)(aC:p.parts.length<=32)(aj:∀x∈p.parts,(bD x.tag x.be).1=0)(he:[5,89,90,91].map e=[.p 1 0,.v (.slice p.im p.parts.length p.cH),.v (R p.parts.length),.v (R (0:Nat))])(cD:∀e U kJ lr iO iq dh zK z1,[5].map e=[.p 1 0]->ai.le U->wP ai U qc dh (p.parts.map B5)->zK=dh.map (λq=>b0 q.1)->z1=(p.parts.map λx=>R (l7 (bD x.tag x.be).2.1))->Q (.exit 2) e [.own [.v (R p.mem),.v (R p.bF),.v (R p.ins),.v (R p.outs),.v (.slice p.im p.parts.length p.cH),.v (.slice p.eA p.lines.length p.lc),.v (.slice p.ct p.ops.length p.bO)] 42,.own [.v (.slice (some ⟨dM,0,none⟩) T T),.v (.slice eA dv lc),.v (.slice (some ⟨ff,0,none⟩) fn fn),.v (.slice (some ⟨fX,0,none⟩) wn wn),.v (.slice ct on bO),.v (.slice iO p.parts.length iq),.v (.slice kJ p.parts.length lr),.v (.slice (some ⟨c8,0,none⟩) kM kM),.v (.slice none 0 0),.v (R 0),.v (R 0),.v (.bool false),.v (R 0),.v (.int .u8 0),.v (R 0),.v (.slice none 0 0),.v (.int .u8 0)] 115,.gone,.row 121 1 kJ p.parts.length lr zK,.row 3 1 iO p.parts.length iq z1] U):kH (λQ e L h=>c7 aH 143 aqb Q e L h) Q e [.own [.v (R p.mem),.v (R p.bF),.v (R p.ins),.v (R p.outs),.v (.slice p.im p.parts.length p.cH),.v (.slice p.eA p.lines.length p.lc),.v (.slice p.ct p.ops.length p.bO)] 42,.own [.v (.slice (some ⟨dM,0,none⟩) T T),.v (.slice eA dv lc),.v (.slice (some ⟨ff,0,none⟩) fn fn),.v (.slice (some ⟨fX,0,none⟩) wn wn),.v (.slice ct on bO),.v (.slice none 0 0),.v (.slice none 0 0),.v (.slice (some ⟨c8,0,none⟩) kM kM),.v (.slice none 0 0),.v (R 0),.v (R 0),.v (.bool false),.v (R 0),.v (.int .u8 0),.v (R 0),.v (.slice none 0 0),.v (.int .u8 0)] 115,.gone,.row 121 1 none 0 0 [],.row 3 1 none 0 0 []] ai:=by
 refine .mk (Nat×Option ar×Nat×Option ar×Nat×List (Nat×Nat)) [5,89,90,91] (λ(k,_)=>[.p 1 0,.v (.slice p.im p.parts.length p.cH),.v (R p.parts.length),.v (R k)]) (λ(k,kJ,lr,iO,iq,dh)=>[.own [.v (R p.mem),.v (R p.bF),.v (R p.ins),.v (R p.outs),.v (.slice p.im p.parts.length p.cH),.v (.slice p.eA p.lines.length p.lc),.v (.slice p.ct p.ops.length p.bO)] 42,.own [.v (.slice (some ⟨dM,0,none⟩) T T),.v (.slice eA dv lc),.v (.slice (some ⟨ff,0,none⟩) fn fn),.v (.slice (some ⟨fX,0,none⟩) wn wn),.v (.slice ct on bO),.v (.slice iO k iq),.v (.slice kJ k lr),.v (.slice (some ⟨c8,0,none⟩) kM kM),.v (.slice none 0 0),.v (R 0),.v (R 0),.v (.bool false),.v (R 0),.v (.int .u8 0),.v (R 0),.v (.slice none 0 0),.v (.int .u8 0)] 115,.gone,.row 121 1 kJ k lr (dh.map λq=>b0 q.1),.row 3 1 iO k iq ((p.parts.take k).map λx=>R (l7 (bD x.tag x.be).2.1))]) (λ(k,_,_,_,_,dh) U=>ai.le U/\k<=p.parts.length/\wP ai U qc dh ((p.parts.take k).map B5)) (λ(k,_)=>p.parts.length-k) (0,none,0,none,0,[]) (λ_=>rfl) ⟨I.le_refl _,cO _,rfl,(by simp),.nil,(by simp)⟩ he rfl ?_;clear he;rintro⟨k,kJ,lr,iO,iq,dh⟩ e h ⟨le,hk,tn⟩;refine aK λgS dy gY=>?_;refine dy _ _ _ ?_;refine aK λgO dx eG=>?_;refine aW (λq=>?_) (λq=>?_)
 .have ae:k<p.parts.length:=by omega
  obtain⟨g,ak⟩:=ok.parts.cc (by omega);have c:=(ok.parts.mono le).row ak (i:=k) (r:=nc.cells p.parts[k]) (by rw[dV,bZ ae];rfl);have s1:=aj _ (cS ae);have h6:=(ok.part _ (cS ae)).mono le;have hS:p.parts.take (k+1)=p.parts.take k++[p.parts[k]]:=kh ae;generalize p.parts[k]=x at c s1 h6 hS;obtain⟨tag,A,n,hQ,be⟩:=x;simp only at s1;obtain⟨⟨t,rfl,t1,t2⟩,_⟩:=aeE s1;have u':=Tw s1;have tM:be.length=n:=by simpa using h6.len
  have eS:B5 ⟨t,A,n,hQ,be⟩=⟨t,be,F' t be,0,(bD t be).2.1,(bD t be).2.2⟩:=by simp[B5]
  have sC:(bD (t:Int) be).2.1.length<=16/\(bD (t:Int) be).2.2.length<=16:=zz (t:Int) be;have xz:=Jp (t:Int) be;refine dx _ _ _ ?_;refine aK λgu df fK=>?_;refine fG λgk ed eH=>?_;refine aK λhA dY hL=>?_;refine .mk g ak (by omega) (by omega) ?_;refine .hp [.int .u8 t,.slice A n hQ] rfl (by rw[bq];exact c) ?_;refine dY _ _ _ ?_;refine aK λhc eT hi=>?_;refine .done (.mk _ (auv t A n hQ be h h6 (by omega) s1) ?_);rintro _ ab ⟨cn,cj,cv,rfl,E7,ix⟩;refine eT _ _ _ ?_;refine aK λkb fE i'=>?_;refine aK λkc gg j1=>?_;refine gg _ _ _ ?_;refine fE _ _ _ ?_;refine aK λko g' ja=>?_;refine g' _ _ _ ?_;refine aK λlq gX kR=>?_;refine .done (.mk _ (aeD ix (I.zn _ _) (by simp only;omega) (by simp only;omega) t1 t2) ?_);rintro _ an ⟨dZ,eF,cE,aBL,FJ,rfl,e2,_⟩;have ai4:=(tn.add le cn aL E7 ix).up dZ;refine gX _ _ _ ?_;refine aK λsd lC sK=>?_;refine aK λqx lD pr=>?_;refine lD _ _ _ ?_;refine fG λut nJ xG=>?_;refine .lj (.done (ax7 p dM T ff fn fX wn eA dv lc ct on bO c8 kM ut _ an k kJ iO lr iq _ _ cj (.int .u8 t) (.slice A n hQ) eF cE _ _ e2 xz.1 sC.1 rfl λe he=>?_));refine nJ _ _ _ (lC _ _ _ ?_);rw[<-fr [5,10,12,89,90,91] e,he];have an6:=ae6 _ xz.1;have sj:(dh++[(cj,cv)]).map (λq=>b0 q.1)=dh.map (λq=>b0 q.1)++[b0 cj]:=by simp
  have iY:(p.parts.take (k+1)).map (λx=>R (l7 (bD x.tag x.be).2.1))=(p.parts.take k).map (λx=>R (l7 (bD x.tag x.be).2.1))++[R (l7 (bD (t:Int) be).2.1)]:=by rw[hS];simp
  have ai5:wP ai an qc (dh++[(cj,cv)]) ((p.parts.take (k+1)).map B5):=by
   rw[hS,fm,List.map_singleton,eS];exact ai4
  have fin:∀(e:bY)(L:List LE)(w9:Option ar)(w':Nat)(x1:Option ar)(x4:Nat),[5,89,90,91].map e=[.p 1 0,.v (.slice p.im p.parts.length p.cH),.v (R p.parts.length),.v (R k)]->L.take 5=[.own [.v (R p.mem),.v (R p.bF),.v (R p.ins),.v (R p.outs),.v (.slice p.im p.parts.length p.cH),.v (.slice p.eA p.lines.length p.lc),.v (.slice p.ct p.ops.length p.bO)] 42,.own [.v (.slice (some ⟨dM,0,none⟩) T T),.v (.slice eA dv lc),.v (.slice (some ⟨ff,0,none⟩) fn fn),.v (.slice (some ⟨fX,0,none⟩) wn wn),.v (.slice ct on bO),.v (.slice x1 (k+1) x4),.v (.slice w9 (k+1) w'),.v (.slice (some ⟨c8,0,none⟩) kM kM),.v (.slice none 0 0),.v (R 0),.v (R 0),.v (.bool false),.v (R 0),.v (.int .u8 0),.v (R 0),.v (.slice none 0 0),.v (.int .u8 0)] 115,.gone,.row 121 1 w9 (k+1) w' ((dh.map λq=>b0 q.1)++[b0 cj]),.row 3 1 x1 (k+1) x4 (((p.parts.take k).map λx=>R (l7 (bD x.tag x.be).2.1))++[R (l7 (bD (t:Int) be).2.1)])]->gk .normal e L an:=by
   intro e L w9 w' x1 x4 gD k7;refine eH _ _ _ _ nofun (df _ _ _ ?_);rw[<-fr [5,89,90,91] e,gD];refine .ok (by omega) (by omega) ?_;refine⟨(k+1,w9,w',x1,x4,dh++[(cj,cv)]),rfl,?_,⟨I.le_trans le (I.le_trans cn dZ),ae,ai5⟩,by show p.parts.length- (k+1)<p.parts.length-k;omega⟩;show L.take 5=[.own [.v (R p.mem),.v (R p.bF),.v (R p.ins),.v (R p.outs),.v (.slice p.im p.parts.length p.cH),.v (.slice p.eA p.lines.length p.lc),.v (.slice p.ct p.ops.length p.bO)] 42,.own [.v (.slice (some ⟨dM,0,none⟩) T T),.v (.slice eA dv lc),.v (.slice (some ⟨ff,0,none⟩) fn fn),.v (.slice (some ⟨fX,0,none⟩) wn wn),.v (.slice ct on bO),.v (.slice x1 (k+1) x4),.v (.slice w9 (k+1) w'),.v (.slice (some ⟨c8,0,none⟩) kM kM),.v (.slice none 0 0),.v (R 0),.v (R 0),.v (.bool false),.v (R 0),.v (.int .u8 0),.v (R 0),.v (.slice none 0 0),.v (.int .u8 0)] 115,.gone,.row 121 1 w9 (k+1) w' ((dh++[(cj,cv)]).map λq=>b0 q.1),.row 3 1 x1 (k+1) x4 ((p.parts.take (k+1)).map λx=>R (l7 (bD x.tag x.be).2.1))];rw[k7,sj,iY]
  have jq:k+1<=c':=by unfold c';omega
  refine⟨?_,?_⟩
  .refine⟨?_,?_⟩;all_goals
    refine .cR 3 _ [b0 cj] rfl rfl (by intro u hu;rw[fx]at hu;subst hu;rfl) jq (by omega) λw9 w' _=>?_
    refine .cR 4 _ [R (l7 (bD (t:Int) be).2.1)] rfl rfl (by intro u hu;rw[fx]at hu;subst hu;rfl) jq (by omega) λx1 x4 _=>?_
    exact fin _ _ w9 w' x1 x4 rfl rfl
  refine .cR 3 _ [b0 cj] rfl rfl (by intro u hu;rw[fx]at hu;subst hu;rfl) jq (by omega) λw9 w' _=>?_;refine .cR 4 _ [R (l7 (bD (t:Int) be).2.1)] rfl rfl (by intro u hu;rw[fx]at hu;subst hu;rfl) jq (by omega) λx1 x4 _=>?_;exact fin _ _ w9 w' x1 x4 rfl rfl
 refine eG _ _ _ _ nofun ?_;obtain rfl:k=p.parts.length:=by omega
 refine cD _ _ kJ lr iO iq dh _ _ rfl le ?_ rfl (by rw[pM]);rw[pM]at tn;exact tn
end
def ED:dO:=⟨none,0,[]⟩
theorem R4:∀(l:List h9)(m:List Int)(T:Nat),m.length=T->(∀x∈l,0<=x.base/\x.base+x.st.length<=T)->(xL l m).length=T
 |[],_,_,h,_=>h
 |x::l,m,T,h,aj=>by
  have ad:=aj x (iU ..);exact R4 l _ T (by rw[abl (by omega)];exact h) λy aQ=>aj y (iv _ aQ)
theorem bz.ty{h:I}{cap:Nat}(r:bz h bs size (some g) n cap xs):∃a8,h g.block=some (.cells a8 bs (0,0)):=by
 obtain⟨b,ax,rfl,af,_⟩:=r.split;exact⟨_,af⟩
theorem fM{h:I}{x y:Array ao}{s:Nat}(a6:h a=some (.cells x s (0,0)))(af:h b=some (.cells y t (0,0)))(aC:s≠t):a≠b:=λe=>by
 rw[e,af]at a6;injection a6 with a6;injection a6 with _ q;exact aC q.symm
noncomputable def I.xX(h:I)(S:List Nat):I:=h.on λo=>o∉S
variable {B U aR h:I}{K:List LE->I->Prop}
theorem I.axn(h:I)(S:List Nat):(h.xX S).le h:=I.zn _ _
theorem I.Dz{S:List Nat}(ae:o∈S):h.xX S o=none:=by
 unfold I.xX I.on;rw[aE λq=>q ae]
theorem I.aeu{S:List Nat}(ae:o∉S):h.xX S o=h o:=I.mX ae
theorem bz.xX{h:I}{bs size n cap:Nat}{A:Option ar}{xs:List ao}{S:List Nat}(x:bz h bs size A n cap xs)(c5:∀g,A=some g->g.block∉S):bz (h.xX S) bs size A n cap xs:=bz.on x c5
theorem oT(e:A=some g):g.block∈jj A:=by subst e;exact Of _
theorem oe(h:o∈jj A):∃g,A=some g/\g.block=o:=by
 cases A with
 |none=>cases h
 |some g=>rw[jj,fx]at h;exact⟨g,rfl,h.symm⟩
theorem atE{p:km}{cg fa pd:I}{N C dM ff fX c8:Nat}{eA ct kJ iO:Option ar}{lc bO lr iq:Nat}(db:p.mem=N)(hC:p.bF=C)(gf:p.ins=cm)(hO:p.outs=O)(aj:∀x∈p.lines,0<=x.base/\x.base+x.st.length<=p.mem)(fW:h.le cg)(hm:cg dM=some (gB (j3 p).mem))(az:cg ff=some (.cells (bG cm (oE none 0 0)).toArray 27 (0,0)))(hw:cg fX=some (.cells (bG O (oE none 0 0)).toArray 27 (0,0)))(aw:cg c8=some (gB (bG C 0)))(wG:bz cg 152 4 eA p.lines.length lc (sQ (j3 p).lines))(m0:h dM=none)(f0:h ff=none)(aV:h fX=none)(gT:h c8=none)(rN:∀g,eA=some g->h g.block=none)(Mp:ff≠fX)(Sg:dM≠c8)(ro:bz cg 66 3 ct p.ops.length bO (gJ p.ops))(hv:cg.le fa)(tn:wP cg fa ([dM,ff,fX,c8]++jj eA) dh (p.parts.map B5))(oK:fa aT=none){cs:Array ao}(fg:cs=#[.slice (some ⟨dM,0,none⟩) N N,.slice eA p.lines.length lc,.slice (some ⟨ff,0,none⟩) cm cm,.slice (some ⟨fX,0,none⟩) O O,.slice ct p.ops.length bO,.slice iO p.parts.length iq,.slice kJ p.parts.length lr,.slice (some ⟨c8,0,none⟩) C C,.slice none 0 0,R 0,R 0,.bool false,R 0,.int .u8 0,R 0,.slice none 0 0,.int .u8 0])(qU:(fa.put aT (.cells cs 115 (0,0))).le pd)(Jb:bz pd 121 1 kJ p.parts.length lr (dh.map λq=>b0 q.1))(f7:∀g,kJ=some g->(fa.put aT (.cells cs 115 (0,0))) g.block=none)(FZ:bz pd 3 1 iO p.parts.length iq (p.parts.map λx=>R (l7 (bD x.tag x.be).2.1)))(f8:∀g,iO=some g->(fa.put aT (.cells cs 115 (0,0))) g.block=none):∃B m,h.le B/\cU B pd aT m/\m.x=j3 p/\m.da=bG p.ins.toNat ED:=by
 have Dd:cg.le pd:=I.le_trans hv (I.le_trans (I.du oK) qU);have qN:∀q∈dh,fa q.2≠none:=λq aq=>by
  obtain⟨i,ag,rfl⟩:=rb aq;exact(tn.lM i ag (by have:=tn.len;omega)).some_
 have adn:∀o∈[dM,ff,fX,c8]++jj eA,cg o≠none/\h o=none:=λo ae=>by
  simp only[ev,dC,th,or_false]at ae;rcases ae with(rfl|rfl|rfl|rfl)|ae;exact⟨by rw[hm];nofun,m0⟩;exact⟨by rw[az];nofun,f0⟩;exact⟨by rw[hw];nofun,aV⟩;exact⟨by rw[aw];nofun,gT⟩;obtain⟨g,ak,rfl⟩:=oe ae;subst ak;exact⟨wG.mem rfl,rN g rfl⟩
 obtain⟨S,c5⟩:∃S,S=aT::([dM,ff,fX,c8]++jj eA++dh.map ek):=⟨_,rfl⟩;have wA:∀o,o∈S↔o=aT\/o∈[dM,ff,fX,c8]++jj eA\/o∈dh.map ek:=λo=>by rw[c5,dC,ev]
 have ah7:∀o∈S,(fa.put aT (.cells cs 115 (0,0))) o≠none:=λo ae=>by
  rcases(wA o).1 ae with rfl|ae|ae;rw[I.bP];nofun;have:=(adn o ae).1;cases q:cg o with
  |none=>exact absurd q this
  |some J=>rw[I.du oK _ _ (hv _ _ q)];nofun
  obtain⟨q,aq,rfl⟩:=dn.1 ae;have:=qN q aq;cases e:fa q.2 with
  |none=>exact absurd e this
  |some J=>rw[I.du oK _ _ e];nofun
 have new:∀{A:Option ar},(∀g,A=some g->(fa.put aT (.cells cs 115 (0,0))) g.block=none)->∀g,A=some g->g.block∉S:=λf g ak ae=>ah7 _ ae (f g ak);have y2:(j3 p).mem.length=N:=R4 _ _ N (by simp[db]) λx ad=>by have:=aj x ad;omega
 refine⟨pd.xX S,⟨j3 p,dM,eA,lc,ff,bG cm ED,fX,bG O ED,ct,bO,iO,iq,kJ,lr,dh,c8,none,0⟩,λo J ae=>?_,?_,rfl,by rw[gf];rfl⟩;rw[I.aeu];exact Dd _ _ (fW _ _ ae);intro en;rcases(wA o).1 en with rfl|en|en;rw[I.none_le (I.le_trans fW hv) oK]at ae;cases ae;rw[(adn o en).2]at ae;cases ae;obtain⟨q,aq,rfl⟩:=dn.1 en;rw[I.none_le fW (tn.new q aq)]at ae;cases ae;have out:∀{A:Option ar}{n c:Nat}{xs:List ao},bz cg 66 3 A n c xs->∀g,A=some g->g.block∉S:=by
  intro A n c xs r g ak ae;subst ak;obtain⟨a8,ak⟩:=r.ty;rcases(wA _).1 ae with e|ae|ae;rw[e,I.none_le hv oK]at ak;cases ak;simp only[ev,dC,th,or_false]at ae;rcases ae with(e|e|e|e)|ae;exact fM ak hm (by decide) e;exact fM ak az (by decide) e;exact fM ak hw (by decide) e;exact fM ak aw (by decide) e;obtain⟨b7,dT,e⟩:=oe ae;subst dT;obtain⟨WB,al⟩:=wG.ty;exact fM ak al (by decide) e.symm;obtain⟨q,aq,e⟩:=dn.1 ae;rw[<-e,tn.new q aq]at ak;cases ak
 have h2:(j3 p).lines.length=p.lines.length:=by simp[j3]
 have fk:(j3 p).ops.length=p.ops.length:=rfl;have ig:(j3 p).pD.length=p.parts.length:=by simp[j3]
 have qm:(j3 p).jz.length=p.parts.length:=by simp[j3]
 have DQ:(j3 p).er.length=C:=by simp[j3,hC]
 refine⟨I.axn _ _,I.Dz ((wA _).2 (.inl rfl)),?_,Dd _ _ hm,I.Dz ((wA _).2 (.inr (.inl (by simp)))),?_,λg ak=>I.Dz ((wA _).2 (.inr (.inl (List.mem_append_right _ (oT ak))))),?_,I.Dz ((wA _).2 (.inr (.inl (by simp)))),?_,?_,?_,I.Dz ((wA _).2 (.inr (.inl (by simp)))),?_,?_,?_,Mp,?_,?_,?_,?_,λi h1 ab=>?_,tn.gR,?_,I.Dz ((wA _).2 (.inr (.inl (by simp)))),.inl ⟨rfl,rfl,rfl⟩,nofun,?_⟩;rw[qU _ _ (I.bP _ _ _),fg];simp only[e8.cells,y2,h2,fk,ig,qm,DQ,Ob];rfl;simp only[h2];exact wG.mono Dd;have:=Dd _ _ az;simp only[un];exact this;simp only[un,j3,gf,bq];rfl;intro d aB;obtain⟨_,rfl⟩:=Oe.1 aB;exact⟨bg.nil _ _ _,dd _⟩;have:=Dd _ _ hw;simp only[un];exact this;simp only[un,j3,hO,bq];rfl;intro d aB;obtain⟨_,rfl⟩:=Oe.1 aB;exact⟨rfl,.inl ⟨rfl,rfl,rfl⟩⟩;intro d aB g ak;obtain⟨_,rfl⟩:=Oe.1 aB;cases ak;exact((ro.mono Dd).xX (S:=S) (out ro)).dG (λr am=>by obtain⟨x,_,rfl⟩:=dn.1 am;rfl) (by decide);simp only[ig];have e:(p.parts.map λx=>R (l7 (bD x.tag x.be).2.1))=(j3 p).pD.map R:=by simp[j3]
 rw[e]at FZ;exact(FZ.xX (S:=S) (new f8)).one;simp only[qm];have:=(Jb.xX (S:=S) (new f7)).dr;rw[lo]at this;exact this;simp only[qm];have:=tn.len;simpa using this;have b:=tn.lM i h1 ab;refine b.to (λo J ae=>?_) ?_ ?_;have q:=I.vp (by rw[ae];nofun);rw[I.mX q]at ae;rw[I.aeu];exact qU _ _ (I.du oK _ _ ae);intro en;rcases(wA o).1 en with rfl|en|en;rw[oK]at ae;cases ae;exact q.1 en;exact q.2 en;have aj:=b.some_;cases e:fa dh[i].2 with
 |none=>exact absurd e aj
 |some J=>exact(qU _ _ (I.du oK _ _ e)).symm
 exact I.Dz ((wA _).2 (.inr (.inr (pL (cS h1)))));simp only[j3,hC,bq];exact Dd _ _ aw;have:(bG O ED).flatMap (λd=>jj d.A)=[]:=by
  rw[List.flatMap_eq_nil_iff];intro d aB;obtain⟨_,rfl⟩:=Oe.1 aB;rfl
 rw[this];simpa[jj]using Sg
theorem rW(af:h b=some J):h.put b J=h:=by
 funext o;simp only[I.put];split;rename_i e;rw[e,af];rfl
theorem bz.whole(r:bz h bs size (some g) n n xs):∃b,g=⟨b,0,none⟩/\h b=some (.cells xs.toArray bs (0,0)):=by
 obtain⟨b,ax,e,af,al,_⟩:=r.split;rw[Nat.sub_self,Nat.zero_mul]at al;rw[ra al,zR]at af;exact⟨b,e,af⟩
theorem PR{bk kO:ar}{ab:I}{aN:List ao}(ux uy uz uA uB:LE)(k:∀an,ab.le an->bz an 27 1 (some bk) cm cm xs->bz an 27 1 (some kO) O O aN->ab bk.block=none->ab kO.block=none->bk.block≠kO.block->e9 K [ux,uy,uz,uA,uB,.gone,.gone] an):e9 K [ux,uy,uz,uA,uB,.row 27 1 (some bk) cm cm xs,.row 27 1 (some kO) O O aN] ab:=.bV 5 27 1 (some bk) cm cm _ rfl λ_ dZ gi f3=>.bV 6 27 1 (some kO) O O _ rfl λaR cW fT f4=>k aR (I.le_trans dZ cW) (gi.mono cW) fT (f3 bk rfl) (I.none_le dZ (f4 kO rfl)) λe=>gi.mem rfl (by rw[e];exact f4 kO rfl)
theorem alA{bk kO:ar}{ab:I}{aN:List ao}(ux uy uz uA uB:LE)(k:∀an,ab.le an->bz an 27 1 (some bk) cm cm xs->bz an 27 1 (some kO) O O aN->ab bk.block=none->ab kO.block=none->bk.block≠kO.block->e9 K [ux,uy,uz,uA,uB,.gone,.gone] an):e9 K [ux,uy,uz,uA,uB,.row 27 1 (some kO) O O aN,.row 27 1 (some bk) cm cm xs] ab:=.bV 5 27 1 (some kO) O O _ rfl λ_ dZ gi f3=>.bV 6 27 1 (some bk) cm cm _ rfl λaR cW fT f4=>k aR (I.le_trans dZ cW) fT (gi.mono cW) (I.none_le dZ (f4 bk rfl)) (f3 kO rfl) λe=>gi.mem rfl (by rw[<-e];exact f4 bk rfl)
theorem auu(p:km)(T:Int)(h:I)(ok:p.ok h)(fV:p.yh T):Fn aH 27 #[.agg p.cells.toArray] h λv U=>∃aT B m,v= .tuple #[b0 aT,R 0]/\h.le B/\cU B U aT m/\m.x=j3 p/\m.da=bG p.ins.toNat ED:=by
 have a0:=fV.m0;have cP:=fV.m1;have bL:=fV.gT;have cy:=fV.c1;have gE:=fV.i0;have iW:=fV.i1;have jy:=fV.mV;have pO:=fV.nK;have uG:=fV.SM;have yy:=fV.li;have B3:=fV.op;have t6:p.cells=[R p.mem,R p.bF,R p.ins,R p.outs,.slice p.im p.parts.length p.cH,.slice p.eA p.lines.length p.lc,.slice p.ct p.ops.length p.bO]:=rfl;have V5:=ajk p T h ok fV;rw[t6]at V5⊢;refine b5 LW rfl ?_;refine aK λgS dy gY=>?_;refine dy _ _ _ ?_;refine aK λgO dx eG=>?_;refine aK λgu df fK=>?_;refine .done (.mk _ V5 ?_);rintro _ h1 ⟨rfl,cr⟩;refine df _ _ _ ?_;refine dx _ _ _ ?_;refine aK λgk ed eH=>?_;obtain⟨N,db⟩:∃N:Nat,p.mem=N:=⟨p.mem.toNat,by omega⟩;obtain⟨C,hC⟩:∃N:Nat,p.bF=N:=⟨p.bF.toNat,by omega⟩;obtain⟨cm,gf⟩:∃N:Nat,p.ins=N:=⟨p.ins.toNat,by omega⟩;obtain⟨O,hO⟩:∃N:Nat,p.outs=N:=⟨p.outs.toNat,by omega⟩;have iH:∀(e:bY)(ct:Option ar)(bO:Nat)(gc:ar)(w1 uu:LE),[1,5].map e=[.p 0 0,.p 3 0]->(∀(K:List LE->I->Prop)(Y X:LE)(cB:List LE),(∀ab,h1.le ab->bz ab 66 3 ct p.ops.length bO (gJ p.ops)->bz ab 3 1 (some gc) C C (bG C (R 0))->(∀g,ct=some g->h1 g.block=none)->h1 gc.block=none->e9 K (Y:: .gone:: .gone::X::cB) ab)->e9 K (Y::w1::uu::X::cB) h1)->gk .normal e [.own (rU p) 42,w1,uu,.own [.v (.slice none 0 0),.v (.slice none 0 0),.v (.slice none 0 0),.v (.slice none 0 0),.v (.slice ct p.ops.length bO),.v (.slice none 0 0),.v (.slice none 0 0),.v (.slice (some gc) C C),.v (.slice none 0 0),.v (R 0),.v (R 0),.v (.bool false),.v (R 0),.v (.int .u8 0),.v (R 0),.v (.slice none 0 0),.v (.int .u8 0)] 115] h1:=by
  intro e ct bO gc w1 uu he anW;refine ed _ _ _ ?_;rw[<-fr [1,5] e,he];refine aK λhA dY hL=>?_;refine .one N (R 0) rfl rfl db db (by omega) (by omega) λCq=>?_;refine dY _ _ _ ?_;refine aK λhc eT hi=>?_;have MR:∀(e:bY)(bk kO:ar)(D8 OC:LE),[1,5].map e=[.p 0 0,.p 3 0]->(∀(K:List LE->I->Prop)(ux uy uz uA uB:LE)(ab:I),(∀an,ab.le an->bz an 27 1 (some bk) cm cm (bG cm (.slice none 0 0))->bz an 27 1 (some kO) O O (bG O (.slice none 0 0))->ab bk.block=none->ab kO.block=none->bk.block≠kO.block->e9 K [ux,uy,uz,uA,uB,.gone,.gone] an)->e9 K [ux,uy,uz,uA,uB,D8,OC] ab)->hc .normal e [.own (rU p) 42,w1,uu,.own [.v (.slice (some Cq) N N),.v (.slice none 0 0),.v (.slice (some bk) cm cm),.v (.slice (some kO) O O),.v (.slice ct p.ops.length bO),.v (.slice none 0 0),.v (.slice none 0 0),.v (.slice (some gc) C C),.v (.slice none 0 0),.v (R 0),.v (R 0),.v (.bool false),.v (R 0),.v (.int .u8 0),.v (R 0),.v (.slice none 0 0),.v (.int .u8 0)] 115,.row 3 1 (some Cq) N N (bG N (R 0)),D8,OC] h1:=by
   intro e bk kO D8 OC he anX;refine eT _ _ _ ?_;rw[<-fr [1,5] e,he];refine aK λkb fE i'=>?_;refine aK λkc gg j1=>?_;refine gg _ _ _ ?_;refine fG λko g' ja=>?_;refine .lj (anW _ _ _ _ λab cn ro rc bn pW=>anX _ _ _ _ _ _ _ λan dZ awF axe tA pc Mp=>.bV 4 3 1 (some Cq) N N _ rfl λaR cW awI Aw=>.abs 152 4 none 0 0 [] ⟨rfl,.inl ⟨rfl,rfl,rfl⟩⟩ (.done ?_));have Aw:=Aw Cq rfl;have awJ:bz aR 3 1 (some Cq) N N ((bG N (0:Int)).map R):=by rw[un];exact awI
   have awj:bz ab 3 1 (some gc) C C ((bG C (0:Int)).map R):=by rw[un];exact rc
   obtain⟨dM,rfl,xx⟩:=awJ.whole;obtain⟨c8,rfl,Lc⟩:=awj.whole;obtain⟨ff,rfl,Zf⟩:=awF.whole;obtain⟨fX,rfl,Z4⟩:=axe.whole;simp only at Aw tA pc pW Mp;have abu:h1.le aR:=I.le_trans cn (I.le_trans dZ cW);have m1:h1 dM=none:=I.none_le (I.le_trans cn dZ) Aw;have anQ:aR.put dM (gB (bG N 0))=aR:=rW xx;show kH _ _ _ _ aR;rw[<-anQ];refine auw ko _ p h1 aR (ok.mono cr) dM N ff cm fX O ct p.ops.length bO c8 C abu m1 yy (by omega) (bG N 0) (by simp) (λx ad=>by have:=fV.ch x ad;omega) [0,3,7] _ rfl rfl rfl λe eA lc rows he CS=>?_;refine g' _ _ _ (fE _ _ _ ?_);rw[<-fr [1,5] e,he];have fW:aR.le (aR.put dM (gB (xL p.lines (bG N 0))))\/True:=.inr trivial;refine aK λlq gX kR=>?_;refine aK λsd lC sK=>?_;refine lC _ _ _ ?_;refine fG λqx lD pr=>?_;generalize hH:aR.put dM (gB (xL p.lines (bG N 0)))=H;have Db:h1.le H:=by rw[<-hH];exact kT m1 abu
   refine .lj (.bV 2 152 4 eA p.lines.length lc rows rfl λcg fW mA f5=>.abs 121 1 none 0 0 [] ⟨rfl,.inl ⟨rfl,rfl,rfl⟩⟩ (.abs 3 1 none 0 0 [] ⟨rfl,.inl ⟨rfl,rfl,rfl⟩⟩ (.done ?_)));show kH _ _ _ _ cg;have Se:ff≠dM:=fM (cW _ _ Zf) xx (by decide);have acx:dM≠c8:=λe=>by
    have:=I.none_le dZ Aw;rw[e,Lc]at this;cases this
   have b2:∀{o:Nat}{J:Obj},aR o=some J->o≠dM->cg o=some J:=λ{o J} ae bH=>fW _ _ (by rw[<-hH,I.cf _ _ bH];exact ae);have ZA:cg dM=some (gB (j3 p).mem):=fW _ _ (by rw[<-hH,I.bP];simp[j3,db]);have Sg:dM≠c8:=acx;have Ze:=b2 (cW _ _ Zf) Se;have Z3:=b2 (cW _ _ Z4) (fM (cW _ _ Z4) xx (by decide));have Y0:=b2 (cW _ _ (dZ _ _ Lc)) acx.symm;have ua:bz cg 66 3 ct p.ops.length bO (gJ p.ops):=by
    have fT:=(ro.mono dZ).mono cW;have:bz H 66 3 ct p.ops.length bO (gJ p.ops):=by
     rw[<-hH];refine bz.ju fT λg ak e=>?_;subst ak;obtain⟨a8,ak⟩:=fT.ty;rw[e,xx]at ak;injection ak with ak;injection ak with _ q;cases q
    exact this.mono fW
   refine aux p dM N ff cm fX O eA p.lines.length lc ct p.ops.length bO c8 C qx _ cg ([dM,ff,fX,c8]++jj eA) (ok.mono (I.le_trans cr (I.le_trans Db fW))) ?_ uG fV.F8 rfl λe fa kJ lr iO iq dh zK z1 he hv tn alX amb=>?_;intro o ae;simp only[ev,dC,th,or_false]at ae;rcases ae with(rfl|rfl|rfl|rfl)|ae;rw[ZA];nofun;rw[Ze];nofun;rw[Z3];nofun;rw[Y0];nofun;obtain⟨g,ak,rfl⟩:=oe ae;subst ak;exact mA.mem rfl;refine lD _ _ _ (gX _ _ _ ?_);rw[<-fr [5] e,he];refine .mk λaT oK=>?_;refine .bV 3 121 1 kJ p.parts.length lr zK rfl λmi mv Jb f7=>.bV 4 3 1 iO p.parts.length iq z1 rfl λpd qU FZ f8=>.done ?_;subst alX amb CS;obtain⟨B,m,aM,aD,bj⟩:=atE db hC gf hO (λx ad=>by have:=fV.ch x ad;omega) (I.le_trans cr (I.le_trans Db fW)) ZA Ze Z3 Y0 mA (I.none_le cr m1) (I.none_le cr (I.none_le cn tA)) (I.none_le cr (I.none_le cn pc)) (I.none_le cr pW) (λg ak=>I.none_le cr (I.none_le Db (f5 g ak))) Mp Sg ua hv tn oK rfl (I.le_trans mv qU) (Jb.mono qU) f7 FZ (λg ak=>I.none_le mv (f8 g ak));exact⟨aT,B,m,rfl,aM,aD,bj⟩
  refine⟨?_,?_⟩
  .refine .one cm (.slice none 0 0) rfl rfl gf gf (by omega) (by omega) λbk=>?_;refine⟨?_,?_⟩
   .refine⟨?_,?_⟩;all_goals
     refine .one O (.slice none 0 0) rfl rfl hO hO (by omega) (by omega) λkO=>?_
     exact MR _ bk kO _ _ rfl λK ux uy uz uA uB ab k=>PR _ _ _ _ _ k
   refine .one O (.slice none 0 0) rfl rfl hO hO (by omega) (by omega) λkO=>?_;exact MR _ bk kO _ _ rfl λK ux uy uz uA uB ab k=>PR _ _ _ _ _ k
  refine⟨?_,?_⟩
  .refine .one cm (.slice none 0 0) rfl rfl gf gf (by omega) (by omega) λbk=>?_;refine⟨?_,?_⟩;all_goals
    refine .one O (.slice none 0 0) rfl rfl hO hO (by omega) (by omega) λkO=>?_
    exact MR _ bk kO _ _ rfl λK ux uy uz uA uB ab k=>PR _ _ _ _ _ k
  refine .one O (.slice none 0 0) rfl rfl hO hO (by omega) (by omega) λkO=>?_;refine .one cm (.slice none 0 0) rfl rfl gf gf (by omega) (by omega) λbk=>?_;exact MR _ bk kO _ _ rfl λK ux uy uz uA uB ab k=>alA _ _ _ _ _ k
 refine⟨?_,?_⟩;refine .fresh (gJ p.ops) rfl rfl rfl ((ok.ops.mono cr).src _) (Dn _) (by unfold c';omega) (by omega) λct bO _=>?_;refine .one C (R 0) rfl rfl hC hC (by omega) (by omega) λgc=>?_;exact iH _ ct bO gc _ _ rfl λK Y X cB k=>.bV 1 66 3 ct p.ops.length bO _ rfl λab cn dU f2=>.bV 2 3 1 (some gc) C C _ rfl λan dZ gi f3=>k an (I.le_trans cn dZ) (dU.mono dZ) gi f2 (I.none_le cn (f3 gc rfl));refine .one C (R 0) rfl rfl hC hC (by omega) (by omega) λgc=>?_;refine .fresh (gJ p.ops) rfl rfl rfl ((ok.ops.mono cr).src _) (Dn _) (by unfold c';omega) (by omega) λct bO _=>?_;exact iH _ ct bO gc _ _ rfl λK Y X cB k=>.bV 1 3 1 (some gc) C C _ rfl λab cn dU f2=>.bV 2 66 3 ct p.ops.length bO _ rfl λan dZ gi f3=>k an (I.le_trans cn dZ) gi (dU.mono dZ) (λg ak=>I.none_le cn (f3 g ak)) (f2 gc rfl)
theorem G5(t:Nat):298<=B6 t:=by
 unfold B6;split<;>decide
theorem ln.ty(k:ln B h cj cv x):∃a8,h cv=some (.cells a8 (B6 x.tag) (0,0)):=by
 obtain⟨_,_,_,_,_,g,_⟩:=k.ex;exact⟨_,g⟩
theorem iS.ju(x:iS h A l c)(e:∀g,A=some g->g.block≠b):iS (h.put b J) A l c:=by
 rcases x with x|⟨eP,off,a8,aM,aD,bj⟩;exact .inl x;exact .inr ⟨eP,off,a8,aM,by rw[I.cf _ _ (e _ aM)];exact aD,bj⟩
theorem iS.mono(x:iS h A l c)(le:h.le U):iS U A l c:=by
 rcases x with x|⟨eP,off,a8,aM,aD,bj⟩;exact .inl x;exact .inr ⟨eP,off,a8,aM,le _ _ aD,bj⟩
theorem iS.ty(x:iS h (some g) l c):∃a8,h g.block=some (.cells a8 3 (0,0)):=by
 rcases x with⟨x,_⟩|⟨eP,off,a8,aM,aD,bj⟩;cases x;injection aM with aM;subst aM;exact⟨_,aD⟩
section
variable {B h:I}{aT b:Nat}{m:e8}{J:Obj}{a8:Array ao}{t:Nat}
structure yu(B h:I)(aT:Nat)(m:e8)(t:Nat)(b:Nat)(J:Obj):Prop where
 le:B.le (h.put b J)
 box:t≠115->(h.put b J) aT=some (.cells m.cells.toArray 115 (0,0))
 mem:m.dM≠b->(h.put b J) m.dM=some (gB m.x.mem)
 mx:t≠152->bz (h.put b J) 152 4 m.eA m.x.lines.length m.lc (sQ m.x.lines)
 da:m.ff≠b->(h.put b J) m.ff=some (.cells (m.da.map dO.val).toArray 27 (0,0))
 wr:m.fX≠b->(h.put b J) m.fX=some (.cells (m.wr.map dO.val).toArray 27 (0,0))
 jg:(∀d∈m.wr,b∉jj d.A)->∀d∈m.wr,bz (h.put b J) 3 1 d.A d.l.length d.c (d.l.map R)
 lM:t<298->∀i(h1:i<m.dh.length)(ab:i<m.x.jz.length),ln B (h.put b J) m.dh[i].1 m.dh[i].2 m.x.jz[i]
 er:m.c8≠b->(h.put b J) m.c8=some (gB m.x.er)
 hand:b∉jj m.aO->iS (h.put b J) m.aO m.x.hand m.aw
theorem cU.stay(k:cU B h aT m)(af:h b=some (.cells a8 t (0,0)))(eD:B b=none):yu B h aT m t b J:=by
 refine⟨kT eD k.le,λe=>?_,λe=>?_,λe=>?_,λe=>?_,λe=>?_,λe d aB=>?_,λe i h1 ab=>?_,λe=>?_,λe=>?_⟩;rw[I.cf _ _ (fM k.box af (d9 e))];exact k.box;rw[I.cf _ _ e];exact k.mem;refine bz.ju k.mx λg ak=>?_;have r:=k.mx;rw[ak]at r;obtain⟨bu,eZ⟩:=r.ty;exact fM eZ af (d9 e);rw[I.cf _ _ e];exact k.da;rw[I.cf _ _ e];exact k.wr;exact bz.ju (k.jg d aB) λg ak q=>e d aB (by rw[<-q];exact oT ak);have ix:=k.lM i h1 ab;obtain⟨bu,eZ⟩:=ix.ty;have:=G5 m.x.jz[i].tag;exact ix.to (I.le_refl _) (I.cf _ _ (fM eZ af (by omega))).symm ix.zg;rw[I.cf _ _ e];exact k.er;exact k.hand.ju λg ak q=>e (by rw[<-q];exact oT ak)
theorem cU.aex(k:cU B h aT m)(l:List Int)(A:Option ar)(c:Nat)(next jc:Int)(st:Bool)(A2:Int)(L8:Nat)(hY:Int)(abM:Nat)(aP:iS h A l c)(ai:∀g,A=some g->B g.block=none)(sep:(m.dM::m.c8::(jj A++m.wr.flatMap λd=>jj d.A)).Nodup){J:Obj}(aL:J= .cells ({m with x:={m.x with hand:=l,next:=next,jc:=jc,zB:=st,A2:=A2,IH:=L8,II:=hY,IE:=abM},aO:=A,aw:=c}:e8).cells.toArray 115 (0,0)):cU B (h.put aT J) aT {m with x:={m.x with hand:=l,next:=next,jc:=jc,zB:=st,A2:=A2,IH:=L8,II:=hY,IE:=abM},aO:=A,aw:=c}:=by
 have s:yu B h aT m 115 aT J:=k.stay k.box k.qD;have hZ:∀{o:Nat}{a8:Array ao}{t:Nat},h o=some (.cells a8 t (0,0))->t≠115->o≠aT:=λae av=>fM ae k.box av;refine⟨s.le,k.qD,by rw[I.bP,aL],s.mem (hZ k.mem (by decide)),k.ob,s.mx (by decide),k.sP,s.da (hZ k.da (by decide)),k.sm,k.qH,k.pX,s.wr (hZ k.wr (by decide)),k.s',k.pG,s.jg λd aB q=>?_,k.ql,k.pc,k.ops,k.r3,k.rp,k.rq,s.lM (by decide),k.sL,s.er (hZ k.er (by decide)),k.sg,aP.ju λg ak=>?_,ai,sep⟩;obtain⟨g,ak,e⟩:=oe q;have r:=k.jg d aB;rw[ak]at r;obtain⟨bu,eZ⟩:=r.ty;exact hZ eZ (by decide) e;subst ak;obtain⟨bu,eZ⟩:=aP.ty;exact hZ eZ (by decide)
theorem cU.Eo(k:cU B h aT m):m.dM≠m.c8/\m.c8∉jj m.aO/\m.dM∉jj m.aO/\∀d∈m.wr,m.c8∉jj d.A/\m.dM∉jj d.A:=by
 have s:=k.sep;rw[k3,k3]at s;obtain⟨s1,s2,_⟩:=s;simp only[dC,ev,qv,not_or]at s1 s2;exact⟨s1.1,s2.1,s1.2.1,λd aB=>⟨λq=>s2.2 ⟨d,aB,q⟩,λq=>s1.2.2 ⟨d,aB,q⟩⟩⟩
theorem cU.aey(k:cU B h aT m)(l:List Int)(al:l.length=m.x.er.length):cU B (h.put m.c8 (gB l)) aT {m with x:={m.x with er:=l}}:=by
 have s:yu B h aT m 3 m.c8 (gB l):=k.stay k.er k.sg;obtain⟨dF,dR,hZ,xN⟩:=k.Eo;refine⟨s.le,k.qD,?_,s.mem dF,k.ob,s.mx (by decide),k.sP,s.da (fM k.da k.er (by decide)),k.sm,k.qH,k.pX,s.wr (fM k.wr k.er (by decide)),k.s',k.pG,s.jg λd aB=>(xN d aB).1,k.ql,k.pc,k.ops,k.r3,k.rp,k.rq,s.lM (by decide),k.sL,I.bP _ _ _,k.sg,s.hand dR,k.pf,k.sep⟩;rw[s.box (by decide)];simp only[e8.cells,al]
theorem cU.aeA(k:cU B h aT m)(l:List Int)(al:l.length=m.x.mem.length):cU B (h.put m.dM (gB l)) aT {m with x:={m.x with mem:=l}}:=by
 have s:yu B h aT m 3 m.dM (gB l):=k.stay k.mem k.ob;obtain⟨dF,dR,hZ,xN⟩:=k.Eo;refine⟨s.le,k.qD,?_,I.bP _ _ _,k.ob,s.mx (by decide),k.sP,s.da (fM k.da k.mem (by decide)),k.sm,k.qH,k.pX,s.wr (fM k.wr k.mem (by decide)),k.s',k.pG,s.jg λd aB=>(xN d aB).2,k.ql,k.pc,k.ops,k.r3,k.rp,k.rq,s.lM (by decide),k.sL,s.er (d9 dF),k.sg,s.hand hZ,k.pf,k.sep⟩;rw[s.box (by decide)];simp only[e8.cells,al]
theorem cU.axu(k:cU B h aT m)(ak:m.eA=some g){J:Obj}(l:List m')(al:l.length=m.x.lines.length)(r:bz (h.put g.block J) 152 4 m.eA l.length m.lc (sQ l)):cU B (h.put g.block J) aT {m with x:={m.x with lines:=l}}:=by
 have vr:=k.mx;rw[ak]at vr;obtain⟨a8,aw⟩:=vr.ty;have eD:=k.sP g ak;have s:yu B h aT m 152 g.block J:=k.stay aw eD;refine⟨s.le,k.qD,?_,s.mem (fM k.mem aw (by decide)),k.ob,r,k.sP,s.da (fM k.da aw (by decide)),k.sm,k.qH,k.pX,s.wr (fM k.wr aw (by decide)),k.s',k.pG,s.jg λd aB q=>?_,k.ql,k.pc,k.ops,k.r3,k.rp,k.rq,s.lM (by decide),k.sL,s.er (fM k.er aw (by decide)),k.sg,s.hand λq=>?_,k.pf,k.sep⟩;rw[s.box (by decide)];simp only[e8.cells,al];obtain⟨b7,dT,e⟩:=oe q;have r:=k.jg d aB;rw[dT]at r;obtain⟨bu,eZ⟩:=r.ty;exact fM eZ aw (by decide) e;obtain⟨b7,dT,e⟩:=oe q;have r:=k.hand;rw[dT]at r;obtain⟨bu,eZ⟩:=r.ty;exact fM eZ aw (by decide) e
theorem cU.aez(k:cU B h aT m)(f:List dO)(al:f.length=m.da.length)(az:∀d∈f,d.ok B/\d.l.length<=d.c):cU B (h.put m.ff (.cells (f.map dO.val).toArray 27 (0,0))) aT {m with x:={m.x with da:=f.map dO.l},da:=f}:=by
 have s:yu B h aT m 27 m.ff (.cells (f.map dO.val).toArray 27 (0,0)):=k.stay k.da k.sm;refine⟨s.le,k.qD,?_,s.mem (fM k.mem k.da (by decide)),k.ob,s.mx (by decide),k.sP,I.bP _ _ _,k.sm,rfl,az,s.wr (d9 k.pc),k.s',k.pG,s.jg λd aB q=>?_,k.ql,k.pc,k.ops,k.r3,k.rp,k.rq,s.lM (by decide),k.sL,s.er (fM k.er k.da (by decide)),k.sg,s.hand λq=>?_,k.pf,k.sep⟩;rw[s.box (by decide)];simp only[e8.cells,al];obtain⟨b7,dT,e⟩:=oe q;have r:=k.jg d aB;rw[dT]at r;obtain⟨bu,eZ⟩:=r.ty;exact fM eZ k.da (by decide) e;obtain⟨b7,dT,e⟩:=oe q;have r:=k.hand;rw[dT]at r;obtain⟨bu,eZ⟩:=r.ty;exact fM eZ k.da (by decide) e
noncomputable def I.grow(B h U:I):I:=U.on λo=>B o≠none\/h o=none
theorem Cs{B h:I}(dc:B.le h)(c9:h.le U):B.le (B.grow h U):=λo J ae=>by
 unfold I.grow;rw[I.mX (S:=λo=>B o≠none\/h o=none) (.inl (by rw[ae];nofun))];exact c9 _ _ (dc _ _ ae)
theorem xm{B h:I}(h1:B o=none)(ab:h o≠none):B.grow h U o=none:=by
 unfold I.grow I.on;rw[aE];rintro(q|q);exact q h1;exact ab q
theorem cU.grow{U:I}(k:cU B h aT m)(le:h.le U):cU (B.grow h U) U aT m:=by
 have rx:=Cs k.le le;have tB:∀{o:Nat}{x:Obj},B o=none->h o=some x->B.grow h U o=none:=λh1 ab=>xm h1 (by rw[ab];nofun);refine⟨I.zn _ _,tB k.qD k.box,le _ _ k.box,le _ _ k.mem,tB k.ob k.mem,k.mx.mono le,λg ak=>?_,le _ _ k.da,tB k.sm k.da,k.qH,λd aB=>⟨(k.pX d aB).1.mono rx,(k.pX d aB).2⟩,le _ _ k.wr,tB k.s' k.wr,k.pG,λd aB=>(k.jg d aB).mono le,λd aB g ak=>?_,k.pc,k.ops.mono rx,k.r3.mono rx,k.rp.mono rx,k.rq,λi h1 ab=>?_,k.sL,le _ _ k.er,tB k.sg k.er,k.hand.mono le,λg ak=>?_,k.sep⟩;have r:=k.mx;rw[ak]at r;exact xm (k.sP g ak) (r.mem rfl);have r:=k.jg d aB;rw[ak]at r;exact xm (k.ql d aB g ak) (r.mem rfl);have ix:=k.lM i h1 ab;have aj:=ix.some_;refine ix.to rx ?_ (xm ix.zg aj);cases e:h m.dh[i].2 with
 |none=>exact absurd e aj
 |some J=>exact(le _ _ e).symm
 have r:=k.hand;rw[ak]at r;obtain⟨bu,eZ⟩:=r.ty;exact tB (k.pf g ak) eZ
end
def nf(base size s:Int)(n:Nat):List Int:=(List.range n).map λ(k:Nat)=>base+(s+k)%size
theorem Wl(base size s:Int)(n:Nat):nf base size s (n+1)=nf base size s n++[base+(s+n)%size]:=by
 simp[nf,List.range_succ]
theorem Wh(g:ar)(base size at_ xb:Int)(n:Nat)(h:I)(gT:h.cell? g=some (R base))(c1:h.cell? (g.add 1)=some (R size))(c2:h.cell? (g.add 2)=some (R at_))(af:0<=base/\base<=100000)(aj:0<n->1<=size)(iK:size<=100000)(a6:0<=at_/\at_<=100000)(aQ:0<=xb/\xb<=100000)(aC:n<=1000):Fn aH 179 #[.pointer (some g),R xb,R n] h λv U=>h.le U/\∃A c,v= .slice A n c/\bz U 3 1 A n c ((nf base size (at_+xb) n).map R)/\∀g,A=some g->h g.block=none:=by
 refine b5 arC rfl ?_;refine aK λgS dy gY=>?_;refine dy _ _ _ ?_;refine aK λgO dx eG=>?_;refine dx _ _ _ ?_;refine aK λgu df fK=>?_;refine aK λgk ed eH=>?_;refine ed _ _ _ ?_;refine fG λhA dY hL=>?_;refine .lj (.abs 3 1 none 0 0 [] ⟨rfl,.inl ⟨rfl,rfl,rfl⟩⟩ (.done ?_));show kH _ _ _ _ h;refine .mk (Nat×Option ar×Nat) [0,1,7,9,10] (λ(k,A,c)=>[.v (.pointer (some g)),.v (R xb),.v (.slice A k c),.v (R n),.v (R k)]) (λ(k,A,c)=>[.row 3 1 A k c ((nf base size (at_+xb) k).map R)]) (λ(k,_,_) U=>U=h/\k<=n) (λ(k,_,_)=>n-k) (0,none,0) (λ_=>rfl) ⟨rfl,cO _⟩ rfl rfl ?_;rintro⟨k,A,c⟩ e _ ⟨rfl,hk⟩;refine aK λhc eT hi=>?_;refine eT _ _ _ ?_;refine aK λkb fE i'=>?_;refine aW (λq=>?_) (λq=>?_);have qQ:=aj (by omega);refine fE _ _ _ ?_;refine aK λkc gg j1=>?_;refine fG λko g' ja=>?_;refine aK λlq gX kR=>?_;refine gX _ _ _ ?_;refine .hp (R base) (by rw[add_zero,add_zero];exact gT) ?_;refine .hp (R at_) c2 ?_;refine .ok (by omega) (by omega) ?_;refine .ok (by omega) (by omega) ?_;refine .hp (R size) (by rw[add_zero];exact c1) ?_;conv=>whnf
 have sw:=NZ (at_+xb+k) (b:=size) (by omega);have mS:=NY (at_+xb+k) (b:=size) (by omega);rw[ag2 (by omega)];refine .mk (by omega) (.ok (by omega) (by omega) ?_);refine .cR 0 _ [R (base+(at_+xb+k)%size)] rfl rfl (by intro u hu;rw[fx]at hu;subst hu;rfl) (by unfold c';omega) (by omega) λbA bu _=>?_;refine ja _ _ _ _ nofun (gg _ _ _ ?_);refine .ok (by omega) (by omega) ?_;refine⟨(k+1,bA,bu),rfl,?_,⟨rfl,by omega⟩,by show n- (k+1)<n-k;omega⟩;show _=[LE.row 3 1 bA (k+1) bu ((nf base size (at_+xb) (k+1)).map R)];rw[Wl,fm];rfl;refine i' _ _ _ _ nofun (dY _ _ _ (df _ _ _ ?_));obtain rfl:k=n:=by omega
 refine .bV 0 3 1 A k c _ rfl λU le r f=>.done ⟨le,A,c,rfl,r,f⟩
def jx(h U:I):Prop:=∀o a8,h o=some (.cells a8 113 (0,0))->U o=some (.cells a8 113 (0,0))
theorem jx.of_le(le:h.le U):jx h U:=λ_ _ e=>le _ _ e
theorem jx.trans{a b c:I}(x:jx a b)(y:jx b c):jx a c:=λo a8 e=>y o a8 (x o a8 e)
theorem jx.put{h:I}{b:Nat}{J:Obj}{a8:Array ao}{t:Nat}(af:h b=some (.cells a8 t (0,0)))(av:t≠113):jx h (h.put b J):=λo c e=>by
 rw[I.cf _ _ (fM e af (d9 av))];exact e
theorem abO(l:List m'):∀r∈l.map m'.cells,r.length=4:=λr am=>by obtain⟨x,_,rfl⟩:=dn.1 am;rfl
theorem atm{l:List m'}{x:m'}{v:ao}(a6:a<l.length)(ae:o<4)(ad:x.cells=(l[a].cells).set o v):(sQ l).set (a*4+o) v=sQ (l.set a x):=by
 unfold sQ;rw[X3 _ (abO l) a o l[a].cells v (by rw[dV,bZ a6];rfl) ae,<-ad,nb]
def ym(B h dS:I):Prop:=∀o a8,h o=some (.cells a8 113 (0,0))->B o=none->dS o=none
theorem ym.grow{B h U:I}:ym B h (B.grow h U):=λ_ _ e b=>xm b (by rw[e];nofun)
theorem ym.trans{dS Uj:I}(x:ym B h dS)(Iv:jx h U)(y:ym dS U Uj):ym B h Uj:=λo a8 e b=>y o a8 (Iv o a8 e) (x o a8 e b)
section
variable {B h:I}{aT:Nat}{m:e8}
theorem cU.abN(k:cU B h aT m):bg h 4 m.eA m.x.lines.length (m.x.lines.map m'.cells):=k.mx.dG (abO _) (by decide)
theorem cU.Fv(k:cU B h aT m)(a6:a<m.x.lines.length):∃jb,m.eA=some ⟨jb,0,none⟩/\∀o v,(m.x.lines[a].cells)[o]?=some v->h.cell? ((⟨jb,a*4,none⟩:ar).add o)=some v:=by
 obtain⟨g,ak⟩:=k.abN.cc (by omega);obtain⟨jb,ax,e,_⟩:=(show bz h 152 4 (some g) m.x.lines.length m.lc (sQ m.x.lines)from by rw[<-ak];exact k.mx).split;subst e;refine⟨jb,ak,λo v ah=>?_⟩;have:=k.abN.row ak (i:=a) (r:=m.x.lines[a].cells) (by rw[dV,bZ a6];rfl) o v ah;rwa[add_lit,dJ]at this
theorem cU.RU(k:cU B h aT m)(p3:m.eA=some ⟨jb,0,none⟩)(a6:a<m.x.lines.length)(ae:o<4){x:m'}{v:ao}(ad:x.cells=(m.x.lines[a].cells).set o v):∃cs gQ:List ao,h jb=some (.cells cs.toArray 152 (0,0))/\over cs (a*4+o) [v]=some gQ/\jx h (h.put jb (.cells gQ.toArray 152 (0,0)))/\cU B (h.put jb (.cells gQ.toArray 152 (0,0))) aT {m with x:={m.x with lines:=m.x.lines.set a x}}:=by
 obtain⟨g,cs,gQ,e,af,aL,r⟩:=k.mx.write (off:=a*4+o) (by omega) v;rw[p3]at e;injection e with e;injection e with e;subst e;rw[atm a6 ae ad]at r;refine⟨cs,gQ,af,aL,.put af (by decide),k.axu p3 _ (by simp) ?_⟩;rw[k2];exact r
theorem bz.grown(r:bz U bs size A n c xs)(f:∀g,A=some g->h g.block=none):bz (B.grow h U) bs size A n c xs:=bz.on r λg ak=>.inr (f g ak)
def vw(mem:List Int)(base size s:Int)(n:Nat):List Int:=(nf base size s n).map λc=>mem.getD c.toNat 0
theorem ayD(mem:List Int)(base size s:Int)(n:Nat):vw mem base size s (n+1)=vw mem base size s n++[mem.getD (base+(s+n)%size).toNat 0]:=by
 rw[vw,Wl,fm];rfl
theorem Wj{size s:Int}{k:Nat}(hk:k<n):(nf base size s n)[k]?=some (base+(s+k)%size):=by
 simp[nf,hk]
theorem cU.atS(k:cU B h aT m)(aw:c<m.x.mem.length):h.cell? ((⟨m.dM,0,none⟩:ar).add (c*1))=some (R (m.x.mem.getD c 0)):=by
 rw[add_lit,dJ,ew];refine bN k.mem ?_;simp[cN,bZ aw]
theorem awn(k:cU B h aT m)(Q:dL)(e:bY)(wD Sb:ao)(w:ao)(qC:Option ar)(jP n:Nat)(base size s:Int)(lT:bg h 1 qC n (gZ (nf base size s n)))(af:0<=base)(aj:1<=size)(tC:base+size<=m.x.mem.length)(aC:n<=1000)(he:[0,1,2,8,9,15,16,17].map e=[.v (b0 aT),.v wD,.v Sb,.v w,.v (.slice none 0 0),.v (.slice qC n jP),.v (R n),.v (R (0:Nat))])(cD:∀e A c rows,[0,1,2,8,9].map e=[.v (b0 aT),.v wD,.v Sb,.v w,.v (.slice A n c)]->rows=(vw m.x.mem base size s n).map R->Q (.exit 0) e [.row 3 1 A n c rows] h):kH (λQ e L h=>c7 aH 57 ao' Q e L h) Q e [.row 3 1 none 0 0 []] h:=by
 refine .mk (Nat×Option ar×Nat) [0,1,2,8,9,15,16,17] (λ(o,A,c)=>[.v (b0 aT),.v wD,.v Sb,.v w,.v (.slice A o c),.v (.slice qC n jP),.v (R n),.v (R o)]) (λ(o,A,c)=>[.row 3 1 A o c ((vw m.x.mem base size s o).map R)]) (λ(o,_,_) U=>U=h/\o<=n) (λ(o,_,_)=>n-o) (0,none,0) (λ_=>rfl) ⟨rfl,cO _⟩ he rfl ?_;rintro⟨o,A,c⟩ e U ⟨ex,hk⟩;rw[ex];refine aK λhc eT hi=>?_;refine eT _ _ _ ?_;refine aK λkb fE i'=>?_;refine aW (λq=>?_) (λq=>?_);obtain⟨g,ak⟩:=lT.cc (by omega);have yC:=lT.one ak (i:=o) (r:=[R (base+(s+o)%size)]) (by unfold gZ;rw[dV,Wj (by omega)];rfl) rfl;have sw:=NZ (s+o) (b:=size) (by omega);have mS:=NY (s+o) (b:=size) (by omega);have aeP:=ayD m.x.mem base size s o;have Ig:0<=base+(s+(o:Int))%size:=by omega
 have LL:base+(s+(o:Int))%size<m.x.mem.length:=by omega
 generalize base+(s+(o:Int))%size=z at yC aeP Ig LL;refine fE _ _ _ ?_;refine aK λkc gg j1=>?_;refine fG λko g' ja=>?_;refine aK λlq gX kR=>?_;refine .mk g ak (by omega) (by omega) ?_;refine .hp (R z) (by rw[bq];exact yC) ?_;refine gX _ _ _ ?_;refine .hp (mK m.dM m.x.mem.length) (bN k.box rfl) ?_;refine .mk ⟨m.dM,0,none⟩ rfl Ig LL ?_;refine .hp _ (k.atS (by omega)) ?_;refine .done (.cR 0 _ [R (m.x.mem.getD z.toNat 0)] rfl rfl (by intro u hu;rw[fx]at hu;subst hu;rfl) (by unfold c';omega) (by omega) λbA bu _=>?_);refine ja _ _ _ _ nofun (gg _ _ _ ?_);refine .ok (by omega) (by omega) ?_;refine⟨(o+1,bA,bu),rfl,?_,⟨rfl,by omega⟩,by show n- (o+1)<n-o;omega⟩;show _=[LE.row 3 1 bA (o+1) bu ((vw m.x.mem base size s (o+1)).map R)];rw[aeP,fm];rfl;refine i' _ _ _ _ nofun ?_;obtain rfl:o=n:=by omega
 exact cD _ A c _ rfl rfl
theorem awl(k:cU B h aT m)(p3:m.eA=some ⟨jb,0,none⟩)(a6:a<m.x.lines.length){size at_ bF:Int}(ad:m.x.lines[a]=⟨base,size,at_,bF⟩)(n:Nat)(af:0<=base)(aj:1<=size)(tC:base+size<=m.x.mem.length)(hm:m.x.mem.length<=100000)(mQ:0<=at_/\at_<=100000)(tD:0<=bF/\bF<=100000)(aC:n<=1000):Fn aH 134 #[b0 aT,.pointer (some ⟨jb,a*4,none⟩),R n] h λv U=>jx h U/\∃dS iO iq s7 jP,v= .tuple #[.slice iO n iq,.slice s7 n jP]/\B.le dS/\ym B h dS/\cU dS U aT {m with x:={m.x with lines:=m.x.lines.set a ⟨base,size,(at_+n)%size,bF-n⟩}}/\bg dS 1 iO n (gZ (vw m.x.mem base size at_ n)):=by
 obtain⟨RL,e,lu⟩:=k.Fv a6;rw[p3]at e;injection e with e;injection e with e;subst e;rw[ad]at lu;refine b5 aaR rfl ?_;refine aK λgS dy gY=>?_;refine dy _ _ _ ?_;refine aK λgO dx eG=>?_;refine .done (.mk _ (Wh ⟨jb,a*4,none⟩ base size at_ 0 n h (by have:=lu 0 _ rfl;rwa[add_zero]at this) (lu 1 _ rfl) (lu 2 _ rfl) ⟨af,by omega⟩ (λ_=>aj) (by omega) mQ (by decide) aC) ?_);rintro _ h1 ⟨cr,qC,jP,rfl,MN,Ce⟩;rw[Int.add_zero]at MN;have bJ:=k.grow cr;have V7:∀o v,((⟨base,size,at_,bF⟩:m').cells)[o]?=some v->h1.cell? ((⟨jb,a*4,none⟩:ar).add o)=some v:=λo v ah=>I.kL cr (lu o v ah);refine dx _ _ _ ?_;refine aK λgu df fK=>?_;refine df _ _ _ ?_;refine aK λgk ed eH=>?_;refine aK λhA dY hL=>?_;refine dY _ _ _ ?_;refine fG λhc eT hi=>?_;refine .lj (.abs 3 1 none 0 0 [] ⟨rfl,.inl ⟨rfl,rfl,rfl⟩⟩ (.done ?_));show kH _ _ _ _ h1;refine awn bJ hc _ (.pointer (some ⟨jb,a*4,none⟩)) (R n) (.slice qC n jP) qC jP n base size at_ MN.one af aj tC aC rfl λe A c rows he CS=>?_;refine eT _ _ _ (ed _ _ _ ?_);rw[<-fr [0,1,2,8,9] e,he];refine aK λkb fE i'=>?_;refine .hp (R at_) (V7 2 _ rfl) ?_;refine .ok (by omega) (by omega) ?_;refine .hp (R size) (by rw[add_zero];exact V7 1 _ rfl) ?_;conv=>whnf
 have sw:=NZ (at_+n) (b:=size) (by omega);have mS:=NY (at_+n) (b:=size) (by omega);rw[ag2 (by omega)];refine .mk (by omega) ?_;obtain⟨cs,gQ,aM,aD,bj,bB⟩:=bJ.RU p3 a6 (o:=2) (by decide) (x:=⟨base,size,(at_+n)%size,bF⟩) (v:=R ((at_+n)%size)) (by rw[ad];rfl);refine .hp jb (a*4+2) 152 cs gQ (by rw[add_lit]) aM aD ?_;generalize h1.put jb _=ab at bj bB;have rz:a<(m.x.lines.set a ⟨base,size,(at_+n)%size,bF⟩).length:=by rw[k2];exact a6
 obtain⟨RL,bl,G9⟩:=bB.Fv rz;simp only at bl;rw[p3]at bl;injection bl with bl;injection bl with bl;subst bl;simp only[GI]at G9;refine fE _ _ _ ?_;refine aK λkc gg j1=>?_;refine .hp (R bF) (G9 3 _ rfl) ?_;refine .ok (by omega) (by omega) ?_;obtain⟨a7,Ez,ie,hR,kW,eo⟩:=bB.RU p3 rz (o:=3) (by decide) (x:=⟨base,size,(at_+n)%size,bF-n⟩) (v:=R (bF-n)) (by simp only[GI];rfl);refine .hp jb (a*4+3) 152 a7 Ez (by rw[add_lit]) ie hR ?_;generalize ab.put jb _=an at kW eo;simp only[List.set_set]at eo;refine gg _ _ _ ?_;refine .bV 0 3 1 A n c rows rfl λaR cW fT f4=>.done ⟨((jx.of_le cr).trans bj).trans (kW.trans (jx.of_le cW)),_,A,c,qC,jP,rfl,I.le_trans (Cs k.le cr) (Cs eo.le cW),ym.trans .grow (((jx.of_le cr).trans bj).trans kW) .grow,eo.grow cW,?_⟩;subst CS;exact(fT.grown f4).one
end
def lQ(op:Int)(k:Nat)(dv:Int)(w:ao)(halt:Nat):Obj:=.cells #[R op,.int .u8 k,R dv,w,.int .u8 halt] 113 (0,0)
def nq(B:I)(aT cK:Nat)(op:Int)(k:Nat)(dv:Int)(cw:kl)(halt:Nat)(U:I):Prop:=∃dS bc A n c,B.le dS/\cU dS U aT bc/\bc.x=cw/\U cK=some (lQ op k dv (.slice A n c) halt)
section
variable {B h:I}{aT:Nat}{m:e8}
theorem cU.M6(k:cU B h aT m)(n p:Int):cU B (h.put aT (.cells ({m with x:={m.x with next:=n,jc:=p}}:e8).cells.toArray 115 (0,0))) aT {m with x:={m.x with next:=n,jc:=p}}:=k.aex m.x.hand m.aO m.aw n p m.x.zB m.x.A2 m.x.IH m.x.II m.x.IE k.hand k.pf k.sep rfl
theorem cU.Jo(k:cU B h aT m)(l:List Int)(A:Option ar)(c:Nat)(aP:iS h A l c)(ai:∀g,A=some g->B g.block=none)(sep:(m.dM::m.c8::(jj A++m.wr.flatMap λd=>jj d.A)).Nodup):cU B (h.put aT (.cells ({m with x:={m.x with hand:=l},aO:=A,aw:=c}:e8).cells.toArray 115 (0,0))) aT {m with x:={m.x with hand:=l},aO:=A,aw:=c}:=k.aex l A c m.x.next m.x.jc m.x.zB m.x.A2 m.x.IH m.x.II m.x.IE aP ai sep rfl
theorem jx.Bc(k:cU B h aT m)(J:Obj):jx h (h.put aT J):=.put k.box (by decide)
theorem cU.xT(k:cU B h aT m)(he:h cK=some (.cells a8 113 (0,0)))(eD:B cK=none)(J:Obj):cU B (h.put cK J) aT m:=by
 have s:yu B h aT m 113 cK J:=k.stay he eD;refine⟨s.le,k.qD,s.box (by decide),s.mem (fM k.mem he (by decide)),k.ob,s.mx (by decide),k.sP,s.da (fM k.da he (by decide)),k.sm,k.qH,k.pX,s.wr (fM k.wr he (by decide)),k.s',k.pG,s.jg λd aB q=>?_,k.ql,k.pc,k.ops,k.r3,k.rp,k.rq,s.lM (by decide),k.sL,s.er (fM k.er he (by decide)),k.sg,s.hand λq=>?_,k.pf,k.sep⟩;obtain⟨b7,dT,e⟩:=oe q;have r:=k.jg d aB;rw[dT]at r;obtain⟨bu,eZ⟩:=r.ty;exact fM eZ he (by decide) e;obtain⟨b7,dT,e⟩:=oe q;have r:=k.hand;rw[dT]at r;obtain⟨bu,eZ⟩:=r.ty;exact fM eZ he (by decide) e
theorem aly(k:cU B h aT m)(n:Int)(al:m.x.hand.length<=100000)(aC:0<=n/\n<=100000):Fn aH 133 #[b0 aT,R n] h λv U=>v= .bool (decide (64<(m.x.hand.length:Int)+n))/\U=h:=by
 refine b5 aaQ rfl ?_;refine .hp _ (bN k.box rfl) ?_;refine .ok (by omega) (by omega) ?_;exact .done ⟨rfl,rfl⟩
theorem cU.WA(k:cU B h aT m)(aw:c<m.x.er.length):h.cell? ((⟨m.c8,0,none⟩:ar).add (c*1))=some (R m.x.er[c]):=by
 rw[add_lit,dJ,ew];exact bN k.er (by simp[aw])
theorem jx.er(k:cU B h aT m)(J:Obj):jx h (h.put m.c8 J):=.put k.er (by decide)
theorem amX(k:cU B h aT m)(he:h cK=some (lQ op d' dv (.slice none 0 0) 0))(a b:Int)(a6:0<=a)(rz:a<m.x.er.length):Fn aH 79 #[b0 aT,.agg #[w,R a,R b],b0 cK] h λ_ U=>nq B aT cK op d' dv {m.x with er:=m.x.er.set a.toNat b} 0 U:=by
 refine b5 asG rfl ?_;refine .hp _ (bN k.box rfl) ?_;refine .mk ⟨m.c8,0,none⟩ rfl a6 rz ?_;refine .hp m.c8 (0+a.toNat*1) 3 (m.x.er.map R) ((m.x.er.set a.toNat b).map R) (by rw[add_lit]) k.er (FT (by omega) b) ?_;exact .done ⟨B,_,none,0,0,I.le_refl _,k.aey (m.x.er.set a.toNat b) (by simp),rfl,jx.er k _ _ _ he⟩
theorem aiY(k:cU B h aT m)(he:h cK=some (lQ op d' dv (.slice none 0 0) 0))(a b:Int)(a6:0<=a)(rz:a.toNat<m.x.er.length)(aw: -100000<=m.x.er[a.toNat]/\m.x.er[a.toNat]<=100000)(af:0<=b/\b<=1000000):Fn aH 80 #[b0 aT,.agg #[w,R a,R b],b0 cK] h λ_ U=>nq B aT cK op d' dv {m.x with er:=m.x.er.set a.toNat (m.x.er[a.toNat]-1),next:=if 0<m.x.er[a.toNat]-1 then b-1 else m.x.next} 0 U:=by
 refine b5 asI rfl ?_;have bB:=k.aey (m.x.er.set a.toNat (m.x.er[a.toNat]-1)) (by simp);have gD:=jx.er k (gB (m.x.er.set a.toNat (m.x.er[a.toNat]-1))) _ _ he;have hQ:=k.WA rz;refine aK λgS dy gY=>?_;refine dy _ _ _ ?_;refine aK λgO dx eG=>?_;refine .hp _ (bN k.box rfl) ?_;refine .mk ⟨m.c8,0,none⟩ rfl a6 (by omega) ?_;refine .hp _ hQ ?_;refine .ok (by omega) (by omega) ?_;refine .mk ⟨m.c8,0,none⟩ rfl a6 (by omega) ?_;refine .hp m.c8 (0+a.toNat*1) 3 (m.x.er.map R) ((m.x.er.set a.toNat (m.x.er[a.toNat]-1)).map R) (by rw[add_lit]) k.er (FT rz _) ?_;have c2:=bB.WA (c:=a.toNat) (by simp only[k2];exact rz);simp only[GI]at c2;refine dx _ _ _ ?_;refine aK λgu df fK=>?_;refine .hp _ (bN bB.box rfl) ?_;refine .mk ⟨m.c8,0,none⟩ rfl a6 (by simp only[k2];omega) ?_;refine .hp _ c2 ?_;refine df _ _ _ ?_;refine aW (λq=>?_) (λq=>?_);rw[aX (by omega)];refine .ok (by omega) (by omega) ?_;refine .hp aT 9 115 _ ({m with x:={m.x with er:=m.x.er.set a.toNat (m.x.er[a.toNat]-1),next:=b-1}}:e8).cells rfl bB.box rfl ?_;exact .done ⟨B,_,none,0,0,I.le_refl _,bB.M6 (b-1) m.x.jc,rfl,jx.Bc bB _ _ _ gD⟩;rw[aE (by omega)];exact .done ⟨B,_,none,0,0,I.le_refl _,bB,rfl,gD⟩
theorem aj6(k:cU B h aT m)(he:h cK=some (lQ op d' dv (.slice none 0 0) 0))(eD:B cK=none)(hp:0<=m.x.jc/\m.x.jc<=1000000000):Fn aH 78 #[b0 aT,.agg #[w,R 0,R 0],b0 cK] h λ_ U=>if m.x.hand=[]then nq B aT cK op d' dv {m.x with jc:=m.x.jc+1,next:= -1} 1 U else nq B aT cK op d' dv m.x 4 U:=by
 refine b5 asF rfl ?_;refine aK λgS dy gY=>?_;refine dy _ _ _ ?_;refine aK λgO dx eG=>?_;refine aK λgu df fK=>?_;refine .hp _ (bN k.box rfl) ?_;refine df _ _ _ ?_;refine aW (λq=>?_) (λq=>?_);have bH:¬m.x.hand=[]:=λe=>by rw[e]at q;simp at q
 refine .hp cK 4 113 _ [R op,.int .u8 d',R dv,.slice none 0 0,.int .u8 (4:Nat)] rfl he rfl ?_;refine eG _ _ _ _ nofun ?_;refine .done ?_;show(if m.x.hand=[]then _ else _);rw[aE bH];exact⟨B,m,none,0,0,I.le_refl _,k.xT he eD _,rfl,I.bP _ _ _⟩;have bH:m.x.hand=[]:=ra (by omega);refine dx _ _ _ ?_;refine .hp cK 4 113 _ [R op,.int .u8 d',R dv,.slice none 0 0,.int .u8 (1:Nat)] rfl he rfl ?_;have bJ:=k.xT he eD (.cells [R op,.int .u8 d',R dv,.slice none 0 0,.int .u8 (1:Nat)].toArray 113 (0,0));have pn:=I.bP h cK (.cells [R op,.int .u8 d',R dv,.slice none 0 0,.int .u8 (1:Nat)].toArray 113 (0,0));generalize h.put cK _=h1 at bJ pn;refine .hp (R m.x.jc) (bN bJ.box rfl) ?_;refine .ok (by omega) (by omega) ?_;refine .hp aT 10 115 _ ({m with x:={m.x with jc:=m.x.jc+1}}:e8).cells rfl bJ.box rfl ?_;have bB:=bJ.M6 m.x.next (m.x.jc+1);have gD:=jx.Bc bJ (.cells ({m with x:={m.x with jc:=m.x.jc+1}}:e8).cells.toArray 115 (0,0)) _ _ pn;generalize h1.put aT _=ab at bB gD;refine .hp aT 9 115 _ ({m with x:={m.x with next:= -1,jc:=m.x.jc+1}}:e8).cells rfl bB.box rfl ?_;refine .done ?_;show(if m.x.hand=[]then _ else _);rw[aX bH];exact⟨B,_,none,0,0,I.le_refl _,bB.M6 (-1) (m.x.jc+1),rfl,jx.Bc bB _ _ _ gD⟩
end
section
variable {B h:I}{aT:Nat}{m:e8}
theorem cU.amj(k:cU B h aT m){off:Nat}(aO:m.aO=some ⟨b,off,none⟩)(aP:iS (h.put b J) m.aO m.x.hand m.aw):cU B (h.put b J) aT m/\jx h (h.put b J):=by
 have r:=k.hand;rw[aO]at r;obtain⟨a8,aw⟩:=r.ty;simp only at aw;have eD:=k.pf _ aO;simp only at eD;have s:yu B h aT m 3 b J:=k.stay aw eD;have bin:b∈jj m.aO:=by rw[aO];exact Of _
 obtain⟨dF,dR,hZ,xN⟩:=k.Eo;have sp:=k.sep;rw[k3,k3,nS]at sp;refine⟨⟨s.le,k.qD,s.box (by decide),s.mem (λe=>hZ (by rw[e];exact bin)),k.ob,s.mx (by decide),k.sP,s.da (fM k.da aw (by decide)),k.sm,k.qH,k.pX,s.wr (fM k.wr aw (by decide)),k.s',k.pG,s.jg λd aB q=>sp.2.2.2.2 b bin b (qv.2 ⟨d,aB,q⟩) rfl,k.ql,k.pc,k.ops,k.r3,k.rp,k.rq,s.lM (by decide),k.sL,s.er (λe=>dR (by rw[e];exact bin)),k.sg,aP,k.pf,k.sep⟩,.put aw (by decide)⟩
theorem cU.YQ(k:cU B h aT m)(l:List Int)(A:Option ar)(c:Nat)(aL:J= .cells ({m with x:={m.x with hand:=l},aO:=A,aw:=c}:e8).cells.toArray 115 (0,0))(cW:(h.put aT J).le aR)(r:bz aR 3 1 A l.length c (l.map R))(f:∀g,A=some g->(h.put aT J) g.block=none):cU B aR aT {m with x:={m.x with hand:=l},aO:=A,aw:=c}:=by
 have s:yu B h aT m 115 aT J:=k.stay k.box k.qD;have hZ:∀{o:Nat}{a8:Array ao}{t:Nat},h o=some (.cells a8 t (0,0))->t≠115->o≠aT:=λae av=>fM ae k.box av;have jg:=s.jg λd aB q=>by
  obtain⟨g,ak,e⟩:=oe q;have r:=k.jg d aB;rw[ak]at r;obtain⟨bu,eZ⟩:=r.ty;exact hZ eZ (by decide) e
 have kv:=s.mem (hZ k.mem (by decide));have hQ:=s.er (hZ k.er (by decide));refine⟨I.le_trans s.le cW,k.qD,by rw[cW _ _ (I.bP _ _ _),aL],cW _ _ kv,k.ob,(s.mx (by decide)).mono cW,k.sP,cW _ _ (s.da (hZ k.da (by decide))),k.sm,k.qH,k.pX,cW _ _ (s.wr (hZ k.wr (by decide))),k.s',k.pG,λd aB=>(jg d aB).mono cW,k.ql,k.pc,k.ops,k.r3,k.rp,k.rq,λi h1 ab=>(s.lM (by decide) i h1 ab).up cW,k.sL,cW _ _ hQ,k.sg,?_,λg ak=>I.none_le s.le (f g ak),?_⟩;cases A with
 |none=>
  obtain⟨aM,⟨_,aD,bj⟩|⟨b,a8,q,_⟩⟩:=r;rw[ih]at aM;exact .inl ⟨rfl,ra aD,bj⟩;cases q
 |some g=>
  obtain⟨b,ax,rfl,af,cG,aC,aw,_⟩:=r.split;have lc:(l.map R++ax).length=c:=by simp only[fb,ih,cG];omega
  refine .inr ⟨b,0,l.map R++ax,rfl,af,?_,λ_=>by rw[lc];exact dJ _,cO _,aC,by rw[lc];exact aw⟩;rw[aB6,<-ih (f:=R),BJ]
 have sp:=k.sep;rw[k3,k3,nS]at sp⊢;obtain⟨s1,s2,hN,mC,zy⟩:=sp;simp only[dC,ev,not_or]at s1 s2⊢;have c6:∀o∈jj A,(h.put aT J) o=none:=λo ae=>by
  obtain⟨g,ak,e⟩:=oe ae;rw[<-e];exact f g ak
 refine⟨⟨s1.1,λq=>?_,s1.2.2⟩,⟨λq=>?_,s2.2⟩,?_,mC,λa a6 b af e=>?_⟩;have:=c6 _ q;rw[kv]at this;cases this;have:=c6 _ q;rw[hQ]at this;cases this;cases A<;>simp[jj];subst e;obtain⟨d,aB,q⟩:=qv.1 af;obtain⟨g,ak,e⟩:=oe q;have r:=jg d aB;rw[ak]at r;obtain⟨bu,eZ⟩:=r.ty;have:=c6 _ a6;rw[<-e,eZ]at this;cases this
theorem VG(k:cU B h aT m){S:List ao->Prop}{L:List LE}{K:aA->List LE->I->Prop}{au:List Int}(aj:S (au.map R))(ah:au.length=n)(ai:0<n)(al:m.x.hand.length+n<=100000)(bJ:∀U,cU B U aT m->jx h U->iS U m.aO (m.x.hand++au) m.aw->K (.v (.slice m.aO (m.x.hand.length+n) m.aw)) L U)(bB:∀bA bu,K (.v (.slice bA (m.x.hand.length+n) bu)) (L++[.row 3 1 bA (m.x.hand.length+n) bu ((m.x.hand++au).map R)]) h):BB 3 1 8 m.aO m.x.hand.length m.aw n S L h K:=by
 have c1:∀u∈au.map R,u.oneCell'=true:=λu hu=>by obtain⟨x,_,rfl⟩:=dn.1 hu;rfl
 have jq:m.x.hand.length+n<=c':=by unfold c';omega
 have hk:=k.hand;rcases hk with⟨aM,aD,bj⟩|⟨b,off,a8,aM,aD,bj,bT,Bf,dz,j6⟩;refine .fresh (au.map R) aM (by rw[aD];rfl) bj aj c1 (by omega) (by omega) λbA bu _=>?_;have:=bB bA bu;rw[aD]at this;simpa using this;have ck:∀o u,(m.x.hand.map R)[o]?=some u->a8[off+o]?=some u:=λo u ae=>by
  rw[<-bj,GH]at ae;split at ae;rwa[GF]at ae;cases ae
 have jK:a8=a8.take (off+m.x.hand.length)++((a8.drop (off+m.x.hand.length)).take n++(a8.drop (off+m.x.hand.length)).drop n):=by
  rw[BI,BI]
 refine .mem b off a8 (a8.take (off+m.x.hand.length)++(au.map R++(a8.drop (off+m.x.hand.length)).drop n)) (au.map R) (m.x.hand.map R) aM aD aj c1 ai (by rw[ih,ew]) ck (λaw=>?_) jq (by omega) (λaw=>?_) (λaw b7 bu _=>?_);have bT:=bT (by omega);have lt:(a8.take (off+m.x.hand.length)).length=off+m.x.hand.length*1:=by rw[sa];omega
 have:=SD ((a8.drop (off+m.x.hand.length)).take n) (au.map R) ((a8.drop (off+m.x.hand.length)).drop n) (by rw[ih,sa,k1];omega) (a8.take (off+m.x.hand.length));rw[<-jK,lt]at this;exact this;have ad:∀(w:List Int),w=m.x.hand\/w=m.x.hand++au->iS (h.put b (.cells (a8.take (off+m.x.hand.length)++(au.map R++(a8.drop (off+m.x.hand.length)).drop n)).toArray 3 (0,0))) m.aO w m.aw:=by
  intro w hw;have bT:=bT (by omega);refine .inr ⟨b,off,_,aM,I.bP _ _ _,?_,λ_=>?_,?_,?_,?_⟩;have aj1:(a8.take (off+m.x.hand.length)++(au.map R++(a8.drop (off+m.x.hand.length)).drop n)).drop off=m.x.hand.map R++(au.map R++(a8.drop (off+m.x.hand.length)).drop n):=by
   rw[ag' (by rw[sa];omega),aha,ahA,bj]
  rw[aj1];rcases hw with rfl|rfl;rw[<-ih (f:=R),BJ];rw[<-mb,<-fm,<-ih (f:=R),BJ];simp only[fb,sa,ih,k1];omega;simp only[fb,sa,ih,k1];omega;rcases hw with rfl|rfl;exact dz;rw[fb];omega;simp only[fb,sa,ih,k1];omega
 obtain⟨m1,m2⟩:=k.amj aM (ad _ (.inl rfl));exact bJ _ m1 m2 (ad _ (.inr rfl));have:=bB (some b7) bu;rw[fm]at this;exact this
end
theorem SW(h:I)(J gh:Obj)(e:a≠b):(h.put a J).put b gh=(h.put b gh).put a J:=by
 funext o;simp only[I.put];by_cases aM:o=b;subst aM;rw[aX rfl,aE (d9 e),aX rfl];rw[aE aM,aE aM]
section
variable {B h:I}{aT:Nat}{m:e8}
def DH(x:kl)(a:Nat)(l:m')(n:Nat):kl:={x with lines:=x.lines.set a ⟨l.base,l.size,(l.at_+n)%l.size,l.bF-n⟩,hand:=x.hand++vw x.mem l.base l.size l.at_ n}
theorem Wk(a b c:Int)(n:Nat):(nf a b c n).length=n:=by simp[nf]
theorem TP(mem:List Int)(a b c:Int)(n:Nat):(vw mem a b c n).length=n:=by simp[vw,Wk]
theorem ayt(k:cU B h aT m)(he:h cK=some (lQ op d' dv (.slice none 0 0) 0))(eD:B cK=none)(a n:Nat)(l:m')(a6:a<m.x.lines.length)(ad:m.x.lines[a]=l)(af:0<=l.base)(aj:1<=l.size)(tC:l.base+l.size<=m.x.mem.length)(hm:m.x.mem.length<=100000)(mQ:0<=l.at_/\l.at_<=100000)(tD:0<=l.bF/\l.bF<=100000)(dF:1<=n)(aC:n<=1000)(aP:m.x.hand.length<=1000):Fn aH 81 #[b0 aT,.agg #[w,R a,R n],b0 cK] h λ_ U=>if l.bF<n\/64<m.x.hand.length+n then nq B aT cK op d' dv m.x 4 U else nq B aT cK op d' dv (DH m.x a l n) 0 U:=by
 obtain⟨jb,p3,lu⟩:=k.Fv a6;rw[ad]at lu;refine b5 aa3 rfl ?_;have f133:=aly k n (by omega) ⟨by omega,by omega⟩;have avZ:=awl k p3 a6 ad n af aj tC hm mQ tD aC;refine aK λgS dy gY=>?_;refine dy _ _ _ ?_;refine aK λgO dx eG=>?_;refine .hp (.slice m.eA m.x.lines.length m.lc) (bN k.box rfl) ?_;refine .mk ⟨jb,0,none⟩ p3 (by omega) (by omega) ?_;refine dx _ _ _ ?_;have Hf:(⟨jb,0,none⟩:ar).add (a*4)=⟨jb,a*4,none⟩:=by rw[add_lit,dJ]
 rw[bq,Hf];have Jv:∀(e:bY)(Q:dL),[2].map e=[.v (b0 cK)]->(∀e L,Q .ret e L (h.put cK (lQ op d' dv (.slice none 0 0) 4)))->c7 aH 56 (.seq (.ch aqC) .ret) Q e [.own [.v w,.v (R a),.v (R n)] 66] h:=by
  intro e Q gD cD;rw[<-fr [2] e,gD];refine .hp cK 4 113 _ [R op,.int .u8 d',R dv,.slice none 0 0,.int .u8 (4:Nat)] rfl he rfl ?_;exact cD _ _
 have qk:nq B aT cK op d' dv m.x 4 (h.put cK (lQ op d' dv (.slice none 0 0) 4)):=⟨B,m,none,0,0,I.le_refl _,k.xT he eD _,rfl,I.bP _ _ _⟩;refine aK λgu df fK=>?_;refine aK λgk ed eH=>?_;refine .hp (R l.bF) (lu 3 _ rfl) ?_;conv=>whnf
 by_cases di:l.bF<n;rw[fo di];refine ed _ _ _ ?_;refine ot rfl (λ_=>?_) nofun;refine Jv _ _ rfl λe L=>?_;refine fK _ _ _ _ nofun ?_;conv=>whnf
 refine .done ?_;show(if l.bF<n\/64<m.x.hand.length+n then _ else _);rw[aX (.inl di)];exact qk;rw[gU di];refine .mk _ f133 (λv U q=>by rw[q.2];exact I.le_refl _) ?_;rintro _ hB ⟨rfl,ex⟩;rw[ex];refine ed _ _ _ ?_;refine ot rfl (λq=>?_) (λq=>?_);refine Jv _ _ rfl λe L=>?_;refine fK _ _ _ _ nofun ?_;refine .done ?_;show(if l.bF<n\/64<m.x.hand.length+n then _ else _);rw[aX (.inr (by have:=qb q;omega))];exact qk;have u4:¬(l.bF<n\/64<m.x.hand.length+n):=by have:=tZ q;omega
 refine df _ _ _ ?_;refine aK λhA dY hL=>?_;refine .done (.mk _ avZ ?_);rintro _ h1 ⟨Iv,dS,iO,iq,s7,jP,rfl,gF,cv,bJ,oY⟩;have pn:=Iv _ _ he;have Wi:∀{A:Option ar}{c:Nat},over ({m with x:={m.x with lines:=m.x.lines.set a ⟨l.base,l.size,(l.at_+n)%l.size,l.bF-n⟩}}:e8).cells 8 [.slice A (m.x.hand.length+n) c]=some ({m with x:=DH m.x a l n,aO:=A,aw:=c}:e8).cells:=by
  intro A c;show some _=some _;simp only[e8.cells,DH,fb,TP]
 have rA:=cv _ _ he eD;refine dY _ _ _ ?_;refine aK λhc eT hi=>?_;refine .hp (.slice m.aO m.x.hand.length m.aw) (bN bJ.box rfl) ?_;refine .done (VG bJ (au:=vw m.x.mem l.base l.size l.at_ n) (by rw[<-xj];exact(oY.mono bJ.le).src _) (TP _ _ _ _ _) (by omega) (by simp only;omega) (λab bB Fo HV=>?_) (λbA bu=>?_));have gD:=Fo _ _ pn;have eo:=bB.Jo _ m.aO m.aw HV bB.pf bB.sep;have sq:=jx.Bc bB (.cells ({m with x:=DH m.x a l n}:e8).cells.toArray 115 (0,0)) _ _ gD;refine .hp aT 8 115 _ ({m with x:=DH m.x a l n}:e8).cells rfl bB.box Wi ?_;refine eT _ _ _ ?_;refine .hp cK 3 113 _ [R op,.int .u8 d',R dv,.slice s7 n jP,.int .u8 (0:Nat)] rfl sq rfl ?_;refine .done ?_;show(if l.bF<n\/64<m.x.hand.length+n then _ else _);rw[aE u4];exact⟨dS,_,s7,n,jP,gF,eo.xT sq rA _,rfl,I.bP _ _ _⟩;refine .hp aT 8 115 _ ({m with x:=DH m.x a l n,aO:=bA,aw:=bu}:e8).cells rfl bJ.box Wi ?_;have Hg:aT≠cK:=fM bJ.box pn (by decide);refine eT _ _ _ ?_;refine .hp cK 3 113 _ [R op,.int .u8 d',R dv,.slice s7 n jP,.int .u8 (0:Nat)] rfl (by rw[I.cf _ _ (d9 Hg)];exact pn) rfl ?_;refine .bV 1 3 1 bA _ bu _ rfl λaR cW fT f4=>.done ?_;show(if l.bF<n\/64<m.x.hand.length+n then _ else _);rw[aE u4];rw[SW _ _ _ Hg]at cW f4;have bB:=(bJ.xT pn rA (.cells [R op,.int .u8 d',R dv,.slice s7 n jP,.int .u8 (0:Nat)].toArray 113 (0,0))).YQ (m.x.hand++vw m.x.mem l.base l.size l.at_ n) bA bu rfl cW (by rw[fb,TP];exact fT) f4;exact⟨dS,_,s7,n,jP,gF,bB,rfl,cW _ _ (by rw[I.cf _ _ (d9 Hg)];exact I.bP _ _ _)⟩
end
def vg:List Int->List Int->List Int->List Int
 |mem,c::cs,t::eg=>vg (mem.set c.toNat t) cs eg
 |mem,_,_=>mem
theorem abm:∀(cs mem eg:List Int),(vg mem cs eg).length=mem.length
 |[],mem,_=>rfl
 |c::cs,mem,[]=>rfl
 |c::cs,mem,t::eg=>by rw[vg,abm cs];simp
section
variable {B h:I}{aT:Nat}{m:e8}
theorem as8(k:cU B h aT m)(Q:dL)(e:bY)(wD w:ao)(qC w5:Option ar)(jP iq n:Nat)(cI:List Int)(base size s:Int)(lT:bg h 1 qC n (gZ (nf base size s n)))(gA:bg h 1 w5 n (gZ cI))(amf:∀g,qC=some g->0<n->g.block≠m.dM)(Qi:∀g,w5=some g->0<n->g.block≠m.dM)(af:0<=base)(aj:1<=size)(tC:base+size<=m.x.mem.length)(aC:n<=1000)(he:[0,1,2,7,18,19,20].map e=[.v (b0 aT),.v wD,.v (.slice w5 n iq),.v w,.v (.slice qC n jP),.v (R n),.v (R (0:Nat))])(cD:∀e,[0,1,2,7].map e=[.v (b0 aT),.v wD,.v (.slice w5 n iq),.v w]->Q (.exit 0) e [] (h.put m.dM (gB (vg m.x.mem (nf base size s n) cI)))):kH (λQ e L h=>c7 aH 45 apa Q e L h) Q e [] h:=by
 have al:cI.length=n:=by simpa using gA.len
 refine .mk (Nat×List Int) [0,1,2,7,18,19,20] (λ(o,_)=>[.v (b0 aT),.v wD,.v (.slice w5 n iq),.v w,.v (.slice qC n jP),.v (R n),.v (R o)]) (λ_=>[]) (λ(o,mem) U=>U=h.put m.dM (gB mem)/\o<=n/\mem.length=m.x.mem.length/\vg mem ((nf base size s n).drop o) (cI.drop o)=vg m.x.mem (nf base size s n) cI) (λ(o,_)=>n-o) (0,m.x.mem) (λ_=>rfl) ⟨(rW k.mem).symm,cO _,rfl,rfl⟩ he rfl ?_;rintro⟨o,mem⟩ e U ⟨ex,hk,y2,hm⟩;rw[ex];have bB:=k.aeA mem y2;refine aK λhc eT hi=>?_;refine eT _ _ _ ?_;refine aK λkb fE i'=>?_;refine aW (λq=>?_) (λq=>?_);obtain⟨g,ak⟩:=lT.cc (by omega);obtain⟨g2,gV⟩:=gA.cc (by omega);have aw:(nf base size s n)[o]?=some (base+(s+o)%size):=Wj (by omega);have ae:o<cI.length:=by omega
 have yC:=(lT.FW (J:=gB mem) amf).one ak (i:=o) (r:=[R (base+(s+o)%size)]) (by unfold gZ;rw[dV,aw];rfl) rfl;have kd:=(gA.FW (J:=gB mem) Qi).one gV (i:=o) (r:=[R cI[o]]) (by unfold gZ;rw[dV,bZ ae];rfl) rfl;have sw:=NZ (s+o) (b:=size) (by omega);have mS:=NY (s+o) (b:=size) (by omega);obtain⟨uX,eZ⟩:=qt.1 aw;rw[o6 uX,o6 ae,eZ,vg]at hm;have Ig:0<=base+(s+(o:Int))%size:=by omega
 have LL:base+(s+(o:Int))%size<m.x.mem.length:=by omega
 generalize base+(s+(o:Int))%size=z at yC Ig LL hm;generalize cI[o]=hS at kd hm;refine fE _ _ _ ?_;refine aK λkc gg j1=>?_;refine fG λko g' ja=>?_;refine aK λlq gX kR=>?_;refine .mk g ak (by omega) (by omega) ?_;refine .hp (R z) (by rw[bq];exact yC) ?_;refine gX _ _ _ ?_;refine .hp _ (bN bB.box rfl) ?_;refine .mk g2 gV (by omega) (by omega) ?_;refine .hp (R hS) (by rw[bq];exact kd) ?_;refine .mk ⟨m.dM,0,none⟩ rfl Ig (by simp only;omega) ?_;refine .hp m.dM (0+z.toNat*1) 3 (mem.map R) ((mem.set z.toNat hS).map R) (by rw[add_lit]) bB.mem (FT (by omega) hS) ?_;refine ja _ _ _ _ nofun (gg _ _ _ ?_);refine .ok (by omega) (by omega) ?_;exact⟨(o+1,mem.set z.toNat hS),rfl,rfl,⟨sZ _ _ _ _,by omega,by rw[k2];exact y2,hm⟩,by show n- (o+1)<n-o;omega⟩;refine i' _ _ _ _ nofun ?_;obtain rfl:o=n:=by omega
 have aJ:(nf base size s o).drop o=[]:=tg (by rw[Wk];exact dd _);rw[aJ]at hm;have aI:vg mem [] (cI.drop o)=mem:=rfl;rw[aI]at hm;rw[hm];exact cD _ rfl
theorem as5(k:cU B h aT m)(p3:m.eA=some ⟨jb,0,none⟩)(a6:a<m.x.lines.length){size at_ bF:Int}(ad:m.x.lines[a]=⟨base,size,at_,bF⟩)(w5:Option ar)(iq n:Nat)(cI:List Int)(gA:bg h 1 w5 n (gZ cI))(Qi:∀g,w5=some g->0<n->g.block≠m.dM)(af:0<=base)(aj:1<=size)(tC:base+size<=m.x.mem.length)(hm:m.x.mem.length<=100000)(mQ:0<=at_/\at_<=100000)(tD:0<=bF/\bF<=100000)(aC:n<=1000):Fn aH 135 #[b0 aT,.pointer (some ⟨jb,a*4,none⟩),.slice w5 n iq] h λv U=>jx h U/\∃dS s7 jP,v= .slice s7 n jP/\B.le dS/\ym B h dS/\cU dS U aT {m with x:={m.x with mem:=vg m.x.mem (nf base size (at_+bF) n) cI,lines:=m.x.lines.set a ⟨base,size,at_,bF+n⟩}}:=by
 obtain⟨RL,e,lu⟩:=k.Fv a6;rw[p3]at e;injection e with e;injection e with e;subst e;rw[ad]at lu;refine b5 aaS rfl ?_;refine aK λgS dy gY=>?_;refine dy _ _ _ ?_;refine aK λgO dx eG=>?_;refine .hp (R bF) (lu 3 _ rfl) ?_;refine .done (.mk _ (Wh ⟨jb,a*4,none⟩ base size at_ bF n h (by have:=lu 0 _ rfl;rwa[add_zero]at this) (lu 1 _ rfl) (lu 2 _ rfl) ⟨af,by omega⟩ (λ_=>aj) (by omega) mQ tD aC) ?_);rintro _ h1 ⟨cr,qC,jP,rfl,MN,Ce⟩;have bJ:=k.grow cr;refine dx _ _ _ ?_;refine aK λgu df fK=>?_;refine aK λgk ed eH=>?_;refine ed _ _ _ ?_;refine fG λhA dY hL=>?_;refine .lj (.done (as8 bJ hA _ (.pointer (some ⟨jb,a*4,none⟩)) (.slice qC n jP) qC w5 jP iq n cI base size (at_+bF) MN.one (gA.mono cr) (λg ak _ e=>?_) Qi af aj tC aC rfl λe he=>?_));have:=Ce g ak;rw[e,k.mem]at this;cases this;refine dY _ _ _ (df _ _ _ ?_);rw[<-fr [0,1,2,7] e,he];have bB:=bJ.aeA (vg m.x.mem (nf base size (at_+bF) n) cI) (abm _ _ _);have Fo:jx h1 (h1.put m.dM (gB (vg m.x.mem (nf base size (at_+bF) n) cI))):=.put bJ.mem (by decide);generalize h1.put m.dM _=ab at bB Fo;obtain⟨RL,bl,G9⟩:=bB.Fv (a:=a) a6;simp only at bl;rw[p3]at bl;injection bl with bl;injection bl with bl;subst bl;simp only[ad]at G9;refine aK λhc eT hi=>?_;refine .hp (R bF) (G9 3 _ rfl) ?_;refine .ok (by omega) (by omega) ?_;obtain⟨a7,Ez,ie,hR,kW,eo⟩:=bB.RU p3 (a:=a) a6 (o:=3) (by decide) (x:=⟨base,size,at_,bF+n⟩) (v:=R (bF+n)) (by simp only[ad];rfl);refine .hp jb (a*4+3) 152 a7 Ez (by rw[add_lit]) ie hR ?_;refine eT _ _ _ ?_;exact .done ⟨((jx.of_le cr).trans Fo).trans kW,_,qC,jP,rfl,Cs k.le cr,.grow,eo⟩
end
theorem iS.dG(x:iS h A l c):bg h 1 A l.length (gZ l)/\l.length<=c:=by
 rcases x with⟨rfl,rfl,rfl⟩|⟨b,off,a8,rfl,af,e,_,_,aw,_⟩;exact⟨bg.nil _ _ _,dd _⟩;refine⟨⟨by simp[gZ],λr am=>by obtain⟨z,_,rfl⟩:=dn.1 am;rfl,λ_=>⟨_,rfl⟩,λg ak i r am o v ah=>?_⟩,aw⟩;injection ak with ak;subst ak;unfold gZ at am;rw[dV]at am;cases aY:l[i]?with
 |none=>rw[aY]at am;cases am
 |some z=>
  rw[aY]at am;injection am with am;subst am;cases o with
  |succ o=>cases ah
  |zero=>
   injection ah with ah;subst ah;have ab:(l.map R)[i]?=some (R z):=by rw[dV,aY];rfl
   rw[<-e,GH]at ab;split at ab;rw[GF]at ab;rw[add_lit,ew,Nat.add_zero];unfold I.cell?;simp only[af,Option.isSome_none,Bool.false_eq_true,k',List.getElem?_toArray];exact ab;cases ab
theorem iS.drop{h:I}{A vB:Option ar}{l:List Int}{c k:Nat}(x:iS h A l c)(hk:k<=l.length)(h1:k<c->vB=A.map (·.add (k*1)))(ab:k=c->vB=A):iS h vB (l.drop k) (c-k)/\jj vB=jj A:=by
 rcases x with⟨rfl,rfl,rfl⟩|⟨b,off,a8,rfl,af,e,ks,aL,aw,hm⟩;have mm:k=0:=by simpa using hk
 subst mm;rw[ab rfl];exact⟨.inl ⟨rfl,rfl,rfl⟩,rfl⟩;by_cases q:k<c;rw[h1 q,Option.map_some,add_lit,ew];refine⟨.inr ⟨b,off+k,a8,rfl,af,?_,λ_=>?_,?_,?_,hm⟩,rfl⟩;rw[k1,<-List.drop_drop,GK,<-e,aha];have:=ks (by omega);omega;have:=ks (by omega);omega;rw[k1];omega;have HZ:k=c:=by omega
 rw[ab HZ];have aB:l.drop k=[]:=tg (by omega);refine⟨.inr ⟨b,off,a8,rfl,af,by rw[aB];rfl,λl5=>by omega,aL,by rw[aB];exact cO _,hm⟩,rfl⟩
theorem M7{vB:Option ar}(h1:0<c->vB=A.map (·.add (0*1)))(ab:0=c->vB=A):vB=A:=by
 by_cases q:0<c;rw[h1 q];cases A with
 |none=>rfl
 |some g=>simp[add_zero]
 exact ab (by omega)
section
variable {B h:I}{aT:Nat}{m:e8}
def KZ(x:kl)(a:Nat)(l:m')(n:Nat):kl:={x with mem:=vg x.mem (nf l.base l.size (l.at_+l.bF) n) (x.hand.take n),lines:=x.lines.set a ⟨l.base,l.size,l.at_,l.bF+n⟩,hand:=x.hand.drop n}
theorem alH(k:cU B h aT m)(he:h cK=some (lQ op d' dv (.slice none 0 0) 0))(eD:B cK=none)(a n:Nat)(l:m')(a6:a<m.x.lines.length)(ad:m.x.lines[a]=l)(af:0<=l.base)(aj:1<=l.size)(tC:l.base+l.size<=m.x.mem.length)(hm:m.x.mem.length<=100000)(mQ:0<=l.at_/\l.at_<=100000)(tD:0<=l.bF/\l.bF<=100000)(dF:1<=n)(aC:n<=1000)(aP:m.x.hand.length<=1000):Fn aH 84 #[b0 aT,.agg #[w,R a,R n],b0 cK] h λ_ U=>if m.x.hand.length<n\/l.size<l.bF+n then nq B aT cK op d' dv m.x 4 U else nq B aT cK op d' dv (KZ m.x a l n) 0 U:=by
 obtain⟨jb,p3,lu⟩:=k.Fv a6;rw[ad]at lu;refine b5 aa4 rfl ?_;refine aK λgS dy gY=>?_;refine dy _ _ _ ?_;refine aK λgO dx eG=>?_;refine .hp (.slice m.eA m.x.lines.length m.lc) (bN k.box rfl) ?_;refine .mk ⟨jb,0,none⟩ p3 (by omega) (by omega) ?_;refine dx _ _ _ ?_;have Hf:(⟨jb,0,none⟩:ar).add (a*4)=⟨jb,a*4,none⟩:=by rw[add_lit,dJ]
 rw[bq,Hf];have Jv:∀(e:bY)(Q:dL),[2].map e=[.v (b0 cK)]->(∀e L,Q .ret e L (h.put cK (lQ op d' dv (.slice none 0 0) 4)))->c7 aH 66 (.seq (.ch aqI) .ret) Q e [.own [.v w,.v (R a),.v (R n)] 66] h:=by
  intro e Q gD cD;rw[<-fr [2] e,gD];refine .hp cK 4 113 _ [R op,.int .u8 d',R dv,.slice none 0 0,.int .u8 (4:Nat)] rfl he rfl ?_;exact cD _ _
 have qk:nq B aT cK op d' dv m.x 4 (h.put cK (lQ op d' dv (.slice none 0 0) 4)):=⟨B,m,none,0,0,I.le_refl _,k.xT he eD _,rfl,I.bP _ _ _⟩;refine aK λgu df fK=>?_;refine aK λgk ed eH=>?_;refine .hp (.slice m.aO m.x.hand.length m.aw) (bN k.box rfl) ?_;conv=>whnf
 by_cases di:m.x.hand.length<n;rw[fo (by omega)];refine ed _ _ _ ?_;refine ot rfl (λ_=>?_) nofun;refine Jv _ _ rfl λe L=>?_;refine fK _ _ _ _ nofun ?_;conv=>whnf
 refine .done ?_;show(if m.x.hand.length<n\/l.size<l.bF+n then _ else _);rw[aX (.inl di)];exact qk;rw[gU (by omega)];refine .hp (R l.bF) (lu 3 _ rfl) ?_;refine .ok (by omega) (by omega) ?_;refine .hp (R l.size) (by rw[add_zero];exact lu 1 _ rfl) ?_;refine ed _ _ _ ?_;refine ot rfl (λq=>?_) (λq=>?_);refine Jv _ _ rfl λe L=>?_;refine fK _ _ _ _ nofun ?_;refine .done ?_;show(if m.x.hand.length<n\/l.size<l.bF+n then _ else _);rw[aX (.inr (qb q))];exact qk;have u4:¬(m.x.hand.length<n\/l.size<l.bF+n):=by have:=tZ q;omega
 obtain⟨av,HX⟩:=k.hand.dG;have as0:=as5 k p3 a6 ad m.aO m.aw n (m.x.hand.take n) (by unfold gZ;rw[GM];exact av.take (by omega)) (λg ak _ e=>k.Eo.2.2.1 (by rw[<-e];exact oT ak)) af aj tC hm mQ tD aC;refine df _ _ _ ?_;refine aK λhA dY hL=>?_;refine .hp (.slice m.aO m.x.hand.length m.aw) (bN k.box rfl) ?_;refine .mk 0 n rfl rfl (by omega) (by omega) λq6 n7 pe=>?_;rw[M7 n7 pe];refine .done (.mk _ as0 ?_);rintro _ h1 ⟨Iv,dS,s7,jP,rfl,gF,cv,bJ⟩;have pn:=Iv _ _ he;have rA:=cv _ _ he eD;refine .hp cK 3 113 _ [R op,.int .u8 d',R dv,.slice s7 n jP,.int .u8 (0:Nat)] rfl pn rfl ?_;have bB:=bJ.xT pn rA (.cells [R op,.int .u8 d',R dv,.slice s7 n jP,.int .u8 (0:Nat)].toArray 113 (0,0));have gD:=I.bP h1 cK (.cells [R op,.int .u8 d',R dv,.slice s7 n jP,.int .u8 (0:Nat)].toArray 113 (0,0));generalize h1.put cK _=ab at bB gD;refine dY _ _ _ ?_;refine .hp (.slice m.aO m.x.hand.length m.aw) (bN bB.box rfl) ?_;refine .mk n m.x.hand.length rfl rfl (by omega) HX λhz pe EM=>?_;obtain⟨aB,qN⟩:=bB.hand.drop (vB:=hz) (k:=n) (by simp only;omega) pe EM;have eo:=bB.Jo (m.x.hand.drop n) hz (m.aw-n) aB (λg ak=>by
  have q:g.block∈jj m.aO:=by rw[<-qN];exact oT ak
  obtain⟨b7,dT,e⟩:=oe q;rw[<-e];exact bB.pf b7 dT) (by have:=bB.sep;simp only at this⊢;rw[qN];exact this)
 refine .hp aT 8 115 _ ({m with x:=KZ m.x a l n,aO:=hz,aw:=m.aw-n}:e8).cells rfl bB.box ?_ ?_;show some _=some _;simp only[e8.cells,KZ,k1];refine .done ?_;show(if m.x.hand.length<n\/l.size<l.bF+n then _ else _);rw[aE u4];exact⟨dS,_,s7,n,jP,gF,eo,rfl,jx.Bc bB _ _ _ gD⟩
end
def tu:List Int->List Int->List (List Int)
 |_,[]=>[]
 |l,r::rs=>l.take r.toNat::tu (l.drop r.toNat) rs
def Hc:List Int->List Int->Prop
 |_,[]=>True
 |l,r::rs=>0<=r/\r<=l.length/\Hc (l.drop r.toNat) rs
theorem bz.xJ{cv:Nat}{h U:I}{bs size n c:Nat}{A:Option ar}{xs:List ao}(r:bz h bs size A n c xs)(le:I.xJ cv h U)(e:∀g,A=some g->g.block≠cv):bz U bs size A n c xs:=by
 obtain⟨h1,ab⟩:=r;refine⟨h1,?_⟩;rcases ab with ab|⟨b,a8,aM,aD,bj⟩;exact .inl ab;exact .inr ⟨b,a8,aM,le _ _ (e _ aM) aD,bj⟩
theorem iS.xJ{cv:Nat}{h U:I}{A:Option ar}{l:List Int}{c:Nat}(x:iS h A l c)(le:I.xJ cv h U)(e:∀g,A=some g->g.block≠cv):iS U A l c:=by
 rcases x with x|⟨eP,off,a8,aM,aD,bj⟩;exact .inl x;exact .inr ⟨eP,off,a8,aM,le _ _ (e _ aM) aD,bj⟩
section
variable {B h:I}{aT:Nat}{m:e8}
theorem cU.uT(k:cU B h aT m)(a6:a<m.dh.length)(rz:a<m.x.jz.length){cw:lG}(le:I.xJ m.dh[a].2 h U)(ix:ln B U m.dh[a].1 m.dh[a].2 cw):cU (B.grow h U) U aT {m with x:={m.x with jz:=m.x.jz.set a cw}}:=by
 have eD:=k.lM a a6 rz;obtain⟨aBD,hk⟩:=eD.ty;have B4:=G5 m.x.jz[a].tag;have ne:∀{o:Nat}{a8:Array ao}{t:Nat},h o=some (.cells a8 t (0,0))->t<298->o≠m.dh[a].2:=λae av=>fM ae hk (by omega);have b2:∀{o:Nat}{a8:Array ao}{t:Nat},h o=some (.cells a8 t (0,0))->t<298->U o=some (.cells a8 t (0,0)):=λae av=>le _ _ (ne ae av) ae;have rx:B.le (B.grow h U):=λo J ae=>by
  unfold I.grow;rw[I.mX (S:=λo=>B o≠none\/h o=none) (.inl (by rw[ae];nofun))];refine le _ _ (λe=>?_) (k.le _ _ ae);rw[e,eD.zg]at ae;cases ae
 have tB:∀{o:Nat}{x:Obj},B o=none->h o=some x->B.grow h U o=none:=λh1 ab=>xm h1 (by rw[ab];nofun);have aB:m.x.jz.length=(m.x.jz.set a cw).length:=by simp
 refine⟨I.zn _ _,tB k.qD k.box,?_,b2 k.mem (by decide),tB k.ob k.mem,k.mx.xJ le λg ak=>?_,λg ak=>?_,b2 k.da (by decide),tB k.sm k.da,k.qH,λd aB=>⟨(k.pX d aB).1.mono rx,(k.pX d aB).2⟩,b2 k.wr (by decide),tB k.s' k.wr,k.pG,λd aB=>(k.jg d aB).xJ le λg ak=>?_,λd aB g ak=>?_,k.pc,k.ops.mono rx,k.r3.mono rx,?_,?_,λi h1 ab=>?_,k.sL,b2 k.er (by decide),tB k.sg k.er,k.hand.xJ le λg ak=>?_,λg ak=>?_,k.sep⟩;rw[b2 k.box (by decide)];simp only[e8.cells,k2];have r:=k.mx;rw[ak]at r;obtain⟨bu,eZ⟩:=r.ty;exact ne eZ (by decide);have r:=k.mx;rw[ak]at r;exact xm (k.sP g ak) (r.mem rfl);have r:=k.jg d aB;rw[ak]at r;obtain⟨bu,eZ⟩:=r.ty;exact ne eZ (by decide);have r:=k.jg d aB;rw[ak]at r;exact xm (k.ql d aB g ak) (r.mem rfl);have:=k.rp.mono rx;simp only[k2];exact this;simp only[k2];exact k.rq;simp only[k2]at ab;by_cases e:i=a;subst e;simp only[GI];exact ix.to rx rfl (xm eD.zg eD.some_);simp only[UU (d9 e)];have bi:=k.lM i h1 ab;have aj:=bi.some_;have A6:m.dh[i].2≠m.dh[a].2:=λq=>e ((List.getElem_inj (xs:=m.dh.map ek) (i:=i) (j:=a) (h₀:=by simpa using h1) (h₁:=by simpa using a6) k.sL).1 (by simpa using q));refine bi.to rx ?_ (xm bi.zg aj);cases q:h m.dh[i].2 with
 |none=>exact absurd q aj
 |some J=>exact(le _ _ A6 q).symm
 have r:=k.hand;rw[ak]at r;obtain⟨bu,eZ⟩:=r.ty;exact ne eZ (by decide);have r:=k.hand;rw[ak]at r;obtain⟨bu,eZ⟩:=r.ty;exact tB (k.pf g ak) eZ
theorem alK{B h:I}(dc:B.le h)(eD:B cv=none)(le:I.xJ cv h U):B.le (B.grow h U):=λo J ae=>by
 unfold I.grow;rw[I.mX (S:=λo=>B o≠none\/h o=none) (.inl (by rw[ae];nofun))];refine le _ _ (λe=>?_) (dc _ _ ae);rw[e,eD]at ae;cases ae
theorem auC{B h:I}:(od h U cv).le (B.grow h U):=λo J ae=>by
 unfold od at ae;have q:=I.vp (by rw[ae];nofun);rw[I.mX q]at ae;unfold I.grow;rw[I.mX (S:=λo=>B o≠none\/h o=none) (.inr q.1)];exact ae
theorem cU.up{U:I}(k:cU B h aT m)(le:h.le U):cU B U aT m:=⟨I.le_trans k.le le,k.qD,le _ _ k.box,le _ _ k.mem,k.ob,k.mx.mono le,k.sP,le _ _ k.da,k.sm,k.qH,k.pX,le _ _ k.wr,k.s',k.pG,λd aB=>(k.jg d aB).mono le,k.ql,k.pc,k.ops,k.r3,k.rp,k.rq,λi h1 ab=>(k.lM i h1 ab).up le,k.sL,le _ _ k.er,k.sg,k.hand.mono le,k.pf,k.sep⟩
theorem ajK(Q:dL)(e:bY)(h:I)(aT cK:Nat)(w j5 on:ao)(cj:Nat)(eF:Option ar)(cE n:Nat)(ins:List Int)(e2:bg h 1 eF n (gZ ins))(aO:Option ar)(hand:List Int)(aw:Nat)(aP:iS h aO hand aw)(aB:Hc hand ins)(aC:n<=1000)(he:[0,2,6,7,8,51,52,53].map e=[.v (b0 aT),.v (b0 cK),.v (b0 cj),.v (.slice none 0 0),.v (.slice aO hand.length aw),.v (.slice eF n cE),.v (R n),.v (R (0:Nat))])(cD:∀e A c(D:List dO),[0,2,6,7].map e=[.v (b0 aT),.v (b0 cK),.v (b0 cj),.v (.slice A n c)]->D.map dO.l=tu hand ins->(∀d∈D,d.ok h)->D.length=n->Q (.exit 0) e [.own [.v w,.v j5,.v on] 66,.row 27 1 A n c (D.map dO.val)] h):kH (λQ e L h=>c7 aH 97 aqF Q e L h) Q e [.own [.v w,.v j5,.v on] 66,.row 27 1 none 0 0 []] h:=by
 have al:ins.length=n:=by simpa using e2.len
 refine .mk (Nat×Option ar×Nat×List dO×Option ar×List Int×Nat) [0,2,6,7,8,51,52,53] (λ(o,A,c,D,nO,iH,rc)=>[.v (b0 aT),.v (b0 cK),.v (b0 cj),.v (.slice A o c),.v (.slice nO iH.length rc),.v (.slice eF n cE),.v (R n),.v (R o)]) (λ(o,A,c,D,_)=>[.own [.v w,.v j5,.v on] 66,.row 27 1 A o c (D.map dO.val)]) (λ(o,_,_,D,nO,iH,rc) U=>U=h/\o<=n/\iS h nO iH rc/\Hc iH (ins.drop o)/\D.map dO.l++tu iH (ins.drop o)=tu hand ins/\(∀d∈D,d.ok h)/\D.length=o) (λ(o,_)=>n-o) (0,none,0,[],aO,hand,aw) (λ_=>rfl) ⟨rfl,cO _,aP,aB,rfl,(by simp),rfl⟩ he rfl ?_;clear he aP aB;rintro⟨o,A,c,D,nO,iH,rc⟩ e U ⟨ex,hk,aP,aB,hm,hs,EO⟩;rw[ex];refine aK λhc eT hi=>?_;refine eT _ _ _ ?_;refine aK λkb fE i'=>?_;refine aW (λq=>?_) (λq=>?_);obtain⟨g,ak⟩:=e2.cc (by omega);have ae:o<ins.length:=by omega
 have V6:=e2.one ak (i:=o) (r:=[R ins[o]]) (by unfold gZ;rw[dV,bZ ae];rfl) rfl;rw[o6 ae]at aB hm;rw[tu]at hm;obtain⟨d1,d2,d3⟩:=aB;generalize ins[o]=r at V6 d1 d2 d3 hm;obtain⟨r,rfl⟩:∃k:Nat,r=k:=⟨r.toNat,by omega⟩;rw[bq]at d3 hm;obtain⟨av,HX⟩:=aP.dG;refine fE _ _ _ ?_;refine aK λkc gg j1=>?_;refine fG λko g' ja=>?_;refine aK λlq gX kR=>?_;refine .mk g ak (by omega) (by omega) ?_;refine .hp (R r) (by rw[bq];exact V6) ?_;refine gX _ _ _ ?_;refine aK λsd lC sK=>?_;refine .mk 0 r rfl rfl (by omega) (by omega) λq6 n7 pe=>?_;rw[M7 n7 pe];refine .done (.cR 1 _ [.slice nO r rc] rfl rfl (by intro u hu;rw[fx]at hu;subst hu;rfl) (by unfold c';omega) (by omega) λbA bu _=>?_);refine lC _ _ _ ?_;refine .mk r iH.length rfl rfl (by omega) HX λhz pe EM=>?_;obtain⟨HQ,_⟩:=aP.drop (vB:=hz) (k:=r) (by omega) pe EM;refine ja _ _ _ _ nofun (gg _ _ _ ?_);refine .ok (by omega) (by omega) ?_;have cB:(iH.take r).length=r:=by rw[sa];omega
 refine⟨(o+1,bA,bu,D++[⟨nO,rc,iH.take r⟩],hz,iH.drop r,rc-r),?_,?_,⟨rfl,by omega,HQ,d3,by rw[fm,mb];exact hm,λd aB=>?_,by simp[EO]⟩,by show n- (o+1)<n-o;omega⟩;show _=[_,_,_,_,aA.v (.slice hz (iH.drop r).length (rc-r)),_,_,_];rw[k1];rfl;show _=[_,LE.row 27 1 bA (o+1) bu ((D++[(⟨nO,rc,iH.take r⟩:dO)]).map dO.val)];rw[fm];show _=[_,LE.row 27 1 bA (o+1) bu (D.map dO.val++[.slice nO (iH.take r).length rc])];rw[cB];rfl;rcases ev.1 aB with aB|aB;exact hs d aB;rw[fx]at aB;subst aB;show bg h 1 nO (iH.take r).length (gZ (iH.take r));rw[cB];unfold gZ;rw[GM];exact av.take (by omega);refine i' _ _ _ _ nofun ?_;obtain rfl:o=n:=by omega
 have aJ:ins.drop o=[]:=tg (by omega);rw[aJ,tu,zR]at hm;exact cD _ A c D rfl hm hs EO
end
section
variable {B:I}{aT:Nat}
theorem aml(Q:dL)(e:bY)(UQ:List LE)(zJ an:I)(m:e8)(k:cU zJ an aT m)(hm:m.x.hand=[]){ke:Array ao}(lA:an cK=some (.cells ke 113 (0,0)))(w j5 on:ao)(A:Option ar)(c n:Nat)(D:List dO)(hs:RowsIn zJ A D)(EO:D.length=n)(al1:∀d∈D,0<d.l.length/\d.l.length<=64)(aC:n<=100)(aF:sY UQ [0]=some (([.own [.v w,.v j5,.v on] 66]:List LE).map (pA [0])))(he:[0,81,82,83].map e=([.v (b0 aT),.v (.slice A n c),.v (R n),.v (R (0:Nat))]:List aA).map (aCq [0]))(cD:∀e U bc,[0].map e=[.v (b0 aT)]->cU zJ U aT bc->bc.x={m.x with hand:=(D.map dO.l).flatten}->U cK=some (.cells ke 113 (0,0))->Q (.exit 2) e [.own [.v w,.v j5,.v on] 66] U):kH (λQ e L h=>c7 aH 97 aqG Q e L h) Q e UQ an:=by
 refine .kU [0] (Nat×e8) [0,81,82,83] (λ(o,_)=>[.v (b0 aT),.v (.slice A n c),.v (R n),.v (R o)]) (λ_=>[.own [.v w,.v j5,.v on] 66]) (λ(o,bc) U=>cU zJ U aT bc/\bc.x={m.x with hand:=((D.take o).map dO.l).flatten}/\U cK=some (.cells ke 113 (0,0))/\o<=n/\bc.x.hand.length<=64*o) (λ(o,_)=>n-o) (0,m) (λ_=>rfl) ⟨k,by rw[List.take_zero,zU,ahf,<-hm],lA,cO _,by rw[hm];exact cO _⟩ he rfl aF ?_;clear he aF lA k;rintro⟨o,bc⟩ e h ⟨k,ad,lA,hk,eb⟩;refine .done ?_;refine aK λhc eT hi=>?_;refine eT _ _ _ ?_;refine aK λkb fE i'=>?_;refine aW (λq=>?_) (λq=>?_);have ae:o<D.length:=by omega
 obtain⟨g,ak⟩:=hs.dG.cc (by omega);have yB:=(hs.dG.mono k.le).one ak (i:=o) (r:=[D[o].val]) (by unfold Jk;rw[dV,bZ ae];rfl) rfl;have Ey:=(hs.row _ (cS ae)).mono k.le;obtain⟨WL,He⟩:=al1 _ (cS ae);have hS:D.take (o+1)=D.take o++[D[o]]:=kh ae;have AV:((D.take (o+1)).map dO.l).flatten=bc.x.hand++D[o].l:=by rw[hS,ad,fm,List.flatten_append];simp only[List.map_cons,zU,List.flatten_cons,ahf,zR]
 generalize D[o]=d at yB Ey WL He AV;refine fE _ _ _ ?_;refine aK λkc gg j1=>?_;refine fG λko g' ja=>?_;refine aK λlq gX kR=>?_;refine .mk g ak (by omega) (by omega) ?_;refine .hp (.slice d.A d.l.length d.c) (by rw[bq];exact yB) ?_;refine gX _ _ _ ?_;have fin:∀(e:bY)(L:List LE)(ab:I)(m2:e8),[0,81,82,83].map e=[.v (b0 aT),.v (.slice A n c),.v (R n),.v (R o)]->m2.x={bc.x with hand:=bc.x.hand++d.l}->(∀K:List LE->I->Prop,(∀ma aR,ma.take 1=[.own [.v w,.v j5,.v on] 66]->cU zJ aR aT m2->aR cK=some (.cells ke 113 (0,0))->K ma aR)->e9 K L ab)->ko .normal e L ab:=by
  intro e L ab m2 gD oO sC;refine ja _ _ _ _ nofun (gg _ _ _ ?_);rw[<-fr [0,81,82,83] e,gD];refine .ok (by omega) (by omega) ?_;refine sC _ λma aR ha oa eE=>⟨(o+1,m2),rfl,ha,⟨oa,by rw[oO,AV,ad],eE,by omega,?_⟩,by show n- (o+1)<n-o;omega⟩;rw[oO];simp only[fb];omega
 refine .hp (.slice bc.aO bc.x.hand.length bc.aw) (bN k.box rfl) ?_;refine .done (VG k (au:=d.l) (n:=d.l.length) (by rw[<-xj];exact Ey.src _) rfl WL (by omega) (λab bB Fo HV=>?_) (λbA bu=>?_));have gD:=Fo _ _ lA;have eo:=bB.Jo _ bc.aO bc.aw HV bB.pf bB.sep;have sq:=jx.Bc bB (.cells ({bc with x:={bc.x with hand:=bc.x.hand++d.l}}:e8).cells.toArray 115 (0,0)) _ _ gD;refine .hp aT 8 115 _ ({bc with x:={bc.x with hand:=bc.x.hand++d.l}}:e8).cells rfl bB.box (by show some _=some _;simp only[e8.cells,fb]) ?_;exact fin _ _ _ _ rfl rfl λK eR=>.done (eR _ _ rfl eo sq);refine .hp aT 8 115 _ ({bc with x:={bc.x with hand:=bc.x.hand++d.l},aO:=bA,aw:=bu}:e8).cells rfl k.box (by show some _=some _;simp only[e8.cells,fb]) ?_;have Hg:aT≠cK:=fM k.box lA (by decide);refine fin _ _ _ ({bc with x:={bc.x with hand:=bc.x.hand++d.l},aO:=bA,aw:=bu}:e8) rfl rfl λK eR=>.bV 1 3 1 bA _ bu _ rfl λaR cW fT f4=>.done (eR _ _ rfl ?_ (cW _ _ (by rw[I.cf _ _ (d9 Hg)];exact lA)));exact k.YQ (bc.x.hand++d.l) bA bu rfl cW (by rw[fb];exact fT) f4;refine i' _ _ _ _ nofun ?_;obtain rfl:o=n:=by omega
 exact cD _ _ bc rfl k (by rw[ad,k4 (by omega)]) lA
def Km(x:kl)(a:Nat)(cw:lG)(outs:List (List Int)):kl:={x with jz:=x.jz.set a cw,hand:=outs.flatten}
theorem ays{B:I}{aT:Nat}(k:cU B h aT m)(a6:a<m.x.pD.length):∃g,m.iO=some g/\h.cell? (g.add (a*1))=some (R m.x.pD[a]):=by
 obtain⟨g,ak⟩:=k.r3.cc (by omega);exact⟨g,ak,(k.r3.mono k.le).one ak (i:=a) (r:=[R m.x.pD[a]]) (by unfold gZ;rw[dV,bZ a6];rfl) rfl⟩
theorem call83{B:I}(k:cU B h aT m){on:ao}(he:h cK=some (lQ op d' dv (.slice none 0 0) 0))(eD:B cK=none)(a:Nat)(a6:a<m.x.jz.length)(mQ:a<m.x.pD.length)(x:lG)(ad:m.x.jz[a]=x)(aP:m.x.hand.length<=1000)(t1:1<=x.tag)(t2:x.tag<=11)(ag:x.ins.length<=16)(aL:x.outs.length<=16)(aB:(m.x.hand.length:Int)=m.x.pD[a]->Hc m.x.hand x.ins)(cw:lG)(outs:List (List Int))(CQ:∀J∈outs,0<J.length/\J.length<=64)(aBn:outs.length<=100)(az:∀cj cv,ln B h cj cv x->∀ab cm cE(D:List dO) n,h.le ab->RowsIn ab cm D->D.length=n->D.map dO.l=tu m.x.hand x.ins->Fn aH 89 #[b0 cj,.slice cm n cE] ab (NT B ab cj cv cw outs)):Fn aH 83 #[b0 aT,.agg #[w,R a,on],b0 cK] h λ_ U=>if(m.x.hand.length:Int)=m.x.pD[a]then nq B aT cK op d' dv (Km m.x a cw outs) 0 U else nq B aT cK op d' dv m.x 4 U:=by
 have qM:a<m.dh.length:=by rw[k.rq];exact a6
 have ix:=k.lM a qM a6;rw[ad]at ix;obtain⟨dQ,AD⟩:=k.rp.cc (by omega);have dP:=(k.rp.mono k.le).one AD (i:=a) (r:=[b0 m.dh[a].1]) (by rw[dV,bZ qM];rfl) rfl;obtain⟨gt,tF,kd⟩:=ays k mQ;refine b5 Ru rfl ?_;refine aK λgS dy gY=>?_;refine dy _ _ _ ?_;refine aK λgO dx eG=>?_;refine .hp (.slice m.kJ m.x.jz.length m.lr) (bN k.box rfl) ?_;refine .mk dQ AD (by omega) (by omega) ?_;refine .hp (b0 m.dh[a].1) (by rw[bq];exact dP) ?_;refine dx _ _ _ ?_;refine aK λgu df fK=>?_;refine aK λgk ed eH=>?_;refine .hp (.slice m.aO m.x.hand.length m.aw) (bN k.box rfl) ?_;refine .hp (.slice m.iO m.x.pD.length m.iq) (bN k.box rfl) ?_;refine .mk gt tF (by omega) (by omega) ?_;refine .hp (R m.x.pD[a]) (by rw[bq];exact kd) ?_;refine ed _ _ _ ?_;refine ot rfl (λq=>?_) (λq=>?_);have bH:=qb q;refine .hp cK 4 113 _ [R op,.int .u8 d',R dv,.slice none 0 0,.int .u8 (4:Nat)] rfl he rfl ?_;refine fK _ _ _ _ nofun ?_;refine .done ?_;show(if(m.x.hand.length:Int)=m.x.pD[a]then _ else _);rw[aE bH];exact⟨B,m,none,0,0,I.le_refl _,k.xT he eD _,rfl,I.bP _ _ _⟩;have bH:(m.x.hand.length:Int)=m.x.pD[a]:=jw.1 (tZ q);have aB:=aB bH;refine df _ _ _ ?_;refine aK λhA dY hL=>?_;refine dY _ _ _ ?_;refine aK λhc eT hi=>?_;refine .hp (.slice m.aO m.x.hand.length m.aw) (bN k.box rfl) ?_;refine eT _ _ _ ?_;refine aK λkb fE i'=>?_;refine .done (.mk _ (aeD ix k.le (by omega) (by omega) t1 t2) ?_);rintro _ h1 ⟨cr,eF,cE,ct,bO,rfl,e2,_⟩;refine fE _ _ _ ?_;refine aK λkc gg j1=>?_;refine aK λko g' ja=>?_;refine g' _ _ _ ?_;refine fG λlq gX kR=>?_;refine .lj (.abs 27 1 none 0 0 [] ⟨rfl,.inl ⟨rfl,rfl,rfl⟩⟩ (.done ?_));show kH _ _ _ _ h1;refine ajK lq _ h1 aT cK w (R a) on _ eF cE _ x.ins e2 m.aO m.x.hand m.aw (k.hand.mono cr) aB (by omega) rfl λe A c D gD lS al2 EO=>?_;refine gX _ _ _ (gg _ _ _ ?_);rw[<-fr [0,2,6,7] e,gD];refine aK λsd lC sK=>?_;refine .bV 1 27 1 A x.ins.length c (D.map dO.val) rfl λab cn dU f2=>.done (.mk _ (az _ _ ix ab A c D x.ins.length (I.le_trans cr cn) ⟨?_,λd aB=>(al2 d aB).mono cn⟩ EO lS) ?_);have:=dU.dr;rw[lo]at this;rw[EO];exact this;rintro _ an ⟨Fw,aiZ,h8,gc,NU,rfl,ge,Hv⟩;have bB:=k.up (I.le_trans cr cn);have eo:=bB.uT qM a6 Fw aiZ;have alJ:=Hv.mono (auC (B:=B));have gF:=alK bB.le ix.zg Fw;have sq:an cK=some (lQ op d' dv (.slice none 0 0) 0):=by
  have aI:=cn _ _ (cr _ _ he);obtain⟨a8,aw⟩:=(bB.lM a qM a6).ty;have B4:=G5 m.x.jz[a].tag;exact Fw _ _ (fM aI aw (by omega)) aI
 have oa:=eo.Jo [] none 0 (.inl ⟨rfl,rfl,rfl⟩) nofun (by
  have s:=eo.sep;rw[k3,k3,nS]at s;simp only[dC,ev,not_or]at s;simp only[jj,List.nil_append,k3,dC,not_or];exact⟨⟨s.1.1,s.1.2.2⟩,s.2.1.2,s.2.2.2.1⟩)
 have CG:=jx.Bc eo (.cells ({m with x:=Km m.x a cw [],aO:=none,aw:=0}:e8).cells.toArray 115 (0,0)) _ _ sq;have aAT:NU.length=outs.length:=by rw[<-ge,ih]
 refine lC _ _ _ ?_;refine aK λqx lD pr=>?_;refine lD _ _ _ ?_;refine aK λut nJ xG=>?_;refine .hp aT 8 115 _ ({m with x:=Km m.x a cw [],aO:=none,aw:=0}:e8).cells rfl eo.box rfl ?_;refine nJ _ _ _ ?_;refine aK λBU rL Fm=>?_;refine rL _ _ _ ?_;refine fG λD7 AZ C'=>?_;refine .lj (.done (aml D7 _ _ (B.grow ab an) _ _ oa rfl CG w (R a) on h8 gc NU.length NU alJ rfl (λd aB=>CQ _ (by rw[<-ge];exact pL aB)) (by omega) rfl rfl λe cg bc Y' mu aoo akb=>?_));refine AZ _ _ _ ?_;refine .done ?_;show(if(m.x.hand.length:Int)=m.x.pD[a]then _ else _);rw[aX bH];exact⟨_,bc,none,0,0,gF,mu,by rw[aoo,ge];rfl,akb⟩
end
def NW(ax:LE)(A:Option ar)(l:List Int)(c:Nat):Prop:=(A=none/\l=[]/\c=0/\ax= .row 3 1 none 0 0 [])\/∃(b off N iJ:Nat)(xs:List ao),A=some ⟨b,off,none⟩/\ax= .row 3 1 (some ⟨b,0,none⟩) N iJ xs/\N=off+l.length/\(0<c->off+c=iJ)/\off<=iJ/\iJ<=c'/\xs.drop off=l.map R/\xs.length=N/\l.length<=c
theorem amo(x:iS h A l c)(X:LE)(bQ:∀ax,NW ax A l c->K [X,ax] (ei h A)):e9 K [X] h:=by
 rcases x with⟨rfl,rfl,rfl⟩|⟨b,off,a8,rfl,af,e,ks,aL,aw,hm⟩;exact .abs 3 1 none 0 0 [] ⟨rfl,.inl ⟨rfl,rfl,rfl⟩⟩ (.done (bQ _ (.inl ⟨rfl,rfl,rfl,rfl⟩)));have eb:off+l.length<=a8.length:=by
  by_cases q:0<c;have:=ks q;omega;omega
 have ad:(a8.take (off+l.length)).length=off+l.length:=by rw[sa];omega
 refine .abs 3 1 (some ⟨b,0,none⟩) (off+l.length) a8.length (a8.take (off+l.length)) ⟨by rw[ad,ew],.inr ⟨b,a8.toArray,rfl,af,eb,hm,by simp,by rw[ew]⟩⟩ (.done ?_);exact bQ _ (.inr ⟨b,off,_,_,_,rfl,rfl,rfl,ks,aL,hm,by rw[aha,ahA,e],ad,aw⟩)
theorem YR{off N iJ:Nat}(r:bz aR 3 1 (some ⟨b,0,none⟩) N iJ xs)(db:N=off+l.length)(ks:0<c->off+c=iJ)(aL:off<=iJ)(hm:iJ<=c')(aB:xs.drop off=l.map R)(aw:l.length<=c):iS aR (some ⟨b,off,none⟩) l c:=by
 obtain⟨eP,ax,e,af,cG,aC,_,ad⟩:=r.split;injection e with e;subst e;have lc:(xs++ax).length=iJ:=by rw[fb,ad,cG];omega
 refine .inr ⟨b,off,xs++ax,rfl,af,?_,λq=>by rw[lc];exact ks q,by rw[lc];exact aL,aw,by rw[lc];exact hm⟩;rw[ag' (by omega),aB,<-ih (f:=R),BJ]
theorem YS{ax:LE}(am:NW ax A l c)(X:LE)(bQ:∀aR,h.le aR->iS aR A l c->(∀g,A=some g->h g.block=none)->e9 K [X,.gone] aR):e9 K [X,ax] h:=by
 rcases am with⟨rfl,rfl,rfl,rfl⟩|⟨b,off,N,iJ,xs,rfl,rfl,db,ks,aL,hm,aB,ad,aw⟩;exact .bV 1 3 1 none 0 0 [] rfl λaR le r f=>bQ aR le (.inl ⟨rfl,rfl,rfl⟩) nofun;exact .bV 1 3 1 (some ⟨b,0,none⟩) N iJ xs rfl λaR le r f=>bQ aR le (YR r db ks aL hm aB aw) λg ak=>by injection ak with ak;subst ak;exact f ⟨b,0,none⟩ rfl
theorem amp{ax:LE}{au:List Int}(am:NW ax A l c){S:List ao->Prop}{X:LE}{K:aA->List LE->Prop}(aj:S (au.map R))(ah:au.length=n)(ai:0<n)(al:l.length+n<=100000)(bQ:∀bA bu cB,(∀(o5:List LE->I->Prop)(h:I),(∀iT aR,h.le aR->iS aR bA (l++au) bu->(∀g,bA=some g->h g.block=none)->e9 o5 iT aR)->e9 o5 (X::cB) h)->K (.v (.slice bA (l.length+n) bu)) (X::cB)):fQ 3 1 8 A l.length c n S [X,ax] K:=by
 have c1:∀u∈au.map R,u.oneCell'=true:=λu hu=>by obtain⟨x,_,rfl⟩:=dn.1 hu;rfl
 have jq:l.length+n<=c':=by unfold c';omega
 have fresh:∀{aR:I}{bA:Option ar}{bu:Nat},bz aR 3 1 bA (l.length+n) bu ((l++au).map R)->iS aR bA (l++au) bu:=by
  intro aR bA bu r;have hY:(l++au).length=l.length+n:=by rw[fb,ah]
  cases bA with
  |none=>
   obtain⟨aM,⟨_,aD,bj⟩|⟨b,a8,q,_⟩⟩:=r;omega;cases q
  |some g=>
   obtain⟨b,ax,rfl,af,cG,aC,aw,_⟩:=r.split;have lc:((l++au).map R++ax).length=bu:=by rw[fb,ih,hY,cG];omega
   refine .inr ⟨b,0,(l++au).map R++ax,rfl,af,?_,λ_=>by rw[lc];exact dJ _,cO _,by rw[hY];exact aC,by rw[lc];exact aw⟩;rw[aB6,<-ih (f:=R),BJ]
 rcases am with⟨rfl,rfl,rfl,rfl⟩|⟨b,off,N,iJ,xs,rfl,rfl,db,ks,aL,hm,aB,ad,aw⟩;refine .cR 1 [] (au.map R) rfl aj c1 jq (by omega) λbA bu _=>?_;exact bQ bA bu _ λo5 h Iw=>.bV 1 3 1 bA (0+n) bu _ rfl λaR le r f=>Iw _ aR le (fresh r) f;refine .off 1 b off N iJ xs (au.map R) rfl rfl (by rw[ew,ew];exact db) (λq=>by rw[ew,ew,ks (by omega)]) aj c1 ai jq (by omega) (λaq=>?_) (λaq b7 bu eZ=>?_);refine bQ _ c _ λo5 h Iw=>.bV 1 3 1 (some ⟨b,0,none⟩) (N+n) iJ (xs++au.map R) rfl λaR le r f=>Iw _ aR le (YR r (by rw[fb,ah,db];omega) ks aL hm ?_ (by rw[fb,ah];exact aq)) λg ak=>by injection ak with ak;subst ak;exact f ⟨b,0,none⟩ rfl
 rw[ag' (by omega),aB,fm];refine bQ (some b7) bu _ λo5 h Iw=>.bV 2 3 1 (some b7) (l.length+n) bu (xs.drop off++au.map R) rfl λaR le r f=>Iw _ aR le (fresh (by rw[aB,<-fm]at r;exact r)) f
theorem Ky(h:I)(A:Option ar)(J:Obj)(bH:∀g,A=some g->g.block≠b):ei (h.put b J) A=(ei h A).put b J:=by
 cases A with
 |none=>rfl
 |some g=>
  have:=bH g rfl;funext o;simp only[ei,I.del,I.put];by_cases q:o=g.block;subst q;rw[aX rfl,aE this,aX rfl];rw[aE q,aE q]
theorem n1(bH:∀g,A=some g->o≠g.block):ei h A o=h o:=by
 cases A with
 |none=>rfl
 |some g=>exact I.lP _ (bH g rfl)
section
variable {B h:I}{aT:Nat}{m:e8}
theorem cU.xn(k:cU B h aT m)(ae:h o=some (.cells a8 t (0,0)))(av:t≠3):∀g,m.aO=some g->o≠g.block:=λg ak=>by
 have r:=k.hand;rw[ak]at r;obtain⟨bu,eZ⟩:=r.ty;exact fM ae eZ av
theorem cU.YP(k:cU B h aT m)(l:List Int)(A:Option ar)(c:Nat)(aL:J= .cells ({m with x:={m.x with hand:=l},aO:=A,aw:=c}:e8).cells.toArray 115 (0,0))(cW:((ei h m.aO).put aT J).le aR)(aP:iS aR A l c)(f:∀g,A=some g->((ei h m.aO).put aT J) g.block=none):cU B aR aT {m with x:={m.x with hand:=l},aO:=A,aw:=c}:=by
 have b2:∀{o:Nat}{x:Obj},h o=some x->o≠aT->(∀g,m.aO=some g->o≠g.block)->aR o=some x:=λae dF dR=>cW _ _ (by rw[I.cf _ _ dF,n1 dR];exact ae);have mt:∀{o:Nat}{a8:Array ao}{t:Nat},h o=some (.cells a8 t (0,0))->t≠115->t≠3->aR o=some (.cells a8 t (0,0)):=λae dF dR=>b2 ae (fM ae k.box dF) (k.xn ae dR);obtain⟨dF,dR,hZ,xN⟩:=k.Eo;have sp:=k.sep;rw[k3,k3,nS]at sp;obtain⟨s1,s2,hN,mC,zy⟩:=sp;have kv:aR m.dM=some (gB m.x.mem):=b2 k.mem (fM k.mem k.box (by decide)) λg ak e=>hZ (by rw[e];exact oT ak);have hQ:aR m.c8=some (gB m.x.er):=b2 k.er (fM k.er k.box (by decide)) λg ak e=>dR (by rw[e];exact oT ak);have ql:∀d∈m.wr,∀g,d.A=some g->∀b7,m.aO=some b7->g.block≠b7.block:=λd aB g ak b7 dT e=>zy b7.block (oT dT) g.block (qv.2 ⟨d,aB,oT ak⟩) e.symm;have Jh:∀{bs size n c:Nat}{A:Option ar}{xs:List ao},bz h bs size A n c xs->(∀g,A=some g->g.block≠aT/\∀b7,m.aO=some b7->g.block≠b7.block)->bz aR bs size A n c xs:=by
  intro bs size n c A xs r aO;obtain⟨h1,ab⟩:=r;refine⟨h1,?_⟩;rcases ab with ab|⟨b,a8,aM,aD,bj⟩;exact .inl ab;have:=aO _ aM;exact .inr ⟨b,a8,aM,b2 aD this.1 this.2,bj⟩
 have jg:∀d∈m.wr,bz aR 3 1 d.A d.l.length d.c (d.l.map R):=λd aB=>Jh (k.jg d aB) λg ak=>by
  have r:=k.jg d aB;rw[ak]at r;obtain⟨bu,eZ⟩:=r.ty;exact⟨fM eZ k.box (by decide),λb7 dT=>ql d aB g ak b7 dT⟩
 have gF:B.le ((ei h m.aO).put aT J):=kT k.qD λo x ae=>by
  rw[n1 λg ak e=>by rw[e,k.pf g ak]at ae;cases ae];exact k.le _ _ ae
 have c6:∀o∈jj A,((ei h m.aO).put aT J) o=none:=λo ae=>by
  obtain⟨g,ak,e⟩:=oe ae;rw[<-e];exact f g ak
 have RB:∀{o:Nat}{a8:Array ao},h o=some (.cells a8 3 (0,0))->(∀g,m.aO=some g->o≠g.block)->((ei h m.aO).put aT J) o≠none:=λae aC=>by
  rw[I.cf _ _ (fM ae k.box (by decide)),n1 aC,ae];nofun
 refine⟨I.le_trans gF cW,k.qD,by rw[cW _ _ (I.bP _ _ _),aL],kv,k.ob,Jh k.mx λg ak=>?_,k.sP,mt k.da (by decide) (by decide),k.sm,k.qH,k.pX,mt k.wr (by decide) (by decide),k.s',k.pG,jg,k.ql,k.pc,k.ops,k.r3,k.rp,k.rq,λi h1 ab=>?_,k.sL,hQ,k.sg,aP,λg ak=>I.none_le gF (f g ak),?_⟩;have r:=k.mx;rw[ak]at r;obtain⟨bu,eZ⟩:=r.ty;exact⟨fM eZ k.box (by decide),k.xn eZ (by decide)⟩;have ix:=k.lM i h1 ab;obtain⟨bu,eZ⟩:=ix.ty;have B4:=G5 m.x.jz[i].tag;exact ix.to (I.le_refl _) (by rw[eZ,mt eZ (by omega) (by omega)]) ix.zg;rw[k3,k3,nS];simp only[dC,ev,not_or]at s1 s2⊢;refine⟨⟨s1.1,λq=>RB k.mem (λg ak e=>hZ (by rw[e];exact oT ak)) (c6 _ q),s1.2.2⟩,⟨λq=>RB k.er (λg ak e=>dR (by rw[e];exact oT ak)) (c6 _ q),s2.2⟩,?_,mC,λa a6 b af e=>?_⟩;cases A<;>simp[jj];subst e;obtain⟨d,aB,q⟩:=qv.1 af;obtain⟨g,ak,e⟩:=oe q;have r:=k.jg d aB;rw[ak]at r;obtain⟨bu,eZ⟩:=r.ty;rw[e]at eZ;exact RB eZ (λb7 dT bl=>ql d aB g ak b7 dT (by rw[e];exact bl)) (c6 _ a6)
theorem cU.amn(k:cU B h aT m)(cW:(ei h m.aO).le aR)(aP:iS aR m.aO m.x.hand m.aw)(f:∀g,m.aO=some g->(ei h m.aO) g.block=none):cU B aR aT m:=by
 have YZ:(ei h m.aO) aT=some (.cells m.cells.toArray 115 (0,0)):=by rw[n1 (k.xn k.box (by decide))];exact k.box
 exact k.YP m.x.hand m.aO m.aw rfl (by rw[rW YZ];exact cW) aP (by rw[rW YZ];exact f)
end
section
variable {B h:I}{aT:Nat}{m:e8}
def S5(x:kl)(a n:Nat):kl:={x with hand:=x.hand++(x.da.getD a []).take n,da:=x.da.set a ((x.da.getD a []).drop n)}
theorem cU.akJ(k:cU B h aT m)(a6:a<m.da.length):h.cell? ((⟨m.ff,0,none⟩:ar).add (a*1))=some m.da[a].val:=by
 rw[add_lit,dJ,ew];exact bN k.da (by simp[a6])
theorem akK(k:cU B h aT m):m.da.length=m.x.da.length:=by rw[<-k.qH,ih]
theorem alz{cs:List ao}{al aw:Nat}(af:h aT=some (.cells cs.toArray 115 (0,0)))(pd:cs[8]?=some (.slice A al aw))(n:Int)(qO:al<=100000)(aC:0<=n/\n<=100000):Fn aH 133 #[b0 aT,R n] h λv U=>v= .bool (decide (64<(al:Int)+n))/\U=h:=by
 refine b5 aaQ rfl ?_;refine .hp (.slice A al aw) (bN af pd) ?_;refine .ok (by omega) (by omega) ?_;exact .done ⟨rfl,rfl⟩
theorem cU.RO(k:cU B h aT m):B.le (ei h m.aO):=λo x ae=>by
 rw[n1 λg ak e=>by rw[e,k.pf g ak]at ae;cases ae];exact k.le _ _ ae
theorem ayu{h:I}{d:dO}(x:d.ok h)(aC:n<=d.l.length):bg h 1 d.A n (gZ (d.l.take n)):=by
 unfold gZ;rw[GM];exact bg.take x aC
theorem awm(k:cU B h aT m)(he:h cK=some (lQ op d' dv (.slice none 0 0) 0))(eD:B cK=none)(a n:Nat)(a6:a<m.x.da.length)(dF:1<=n)(aC:n<=1000)(aP:m.x.hand.length<=1000):Fn aH 82 #[b0 aT,.agg #[w,R a,R n],b0 cK] h λ_ U=>if 64<m.x.hand.length+n then nq B aT cK op d' dv m.x 4 U else if(m.x.da.getD a []).length<n then nq B aT cK op d' dv m.x 2 U else nq B aT cK op d' dv (S5 m.x a n) 0 U:=by
 have fI:a<m.da.length:=by rw[akK k];exact a6
 obtain⟨d,aB⟩:∃d,m.da[a]=d:=⟨_,rfl⟩;obtain⟨Ey,WC⟩:=k.pX _ (cS fI);rw[aB]at Ey WC;have xq:m.x.da.getD a []=d.l:=by
  rw[<-k.qH,cN,dV,bZ fI,aB];rfl
 obtain⟨hs,lS⟩:∃hs,hs=ei h m.aO:=⟨_,rfl⟩;have vZ:hs aT=some (.cells m.cells.toArray 115 (0,0)):=by rw[lS,n1 (k.xn k.box (by decide))];exact k.box
 have XK:hs m.ff=some (.cells (m.da.map dO.val).toArray 27 (0,0)):=by rw[lS,n1 (k.xn k.da (by decide))];exact k.da
 have xt:hs cK=some (lQ op d' dv (.slice none 0 0) 0):=by rw[lS,n1 (k.xn he (by decide))];exact he
 have RO:B.le hs:=by rw[lS];exact k.RO
 have pW:hs.cell? ((⟨m.ff,0,none⟩:ar).add (a*1))=some d.val:=by
  rw[add_lit,dJ,ew];exact bN XK (by simp[fI,aB])
 refine b5 asJ rfl ?_;have f133:=alz vZ (A:=m.aO) (al:=m.x.hand.length) (aw:=m.aw) rfl n (by omega) ⟨by omega,by omega⟩;have qk:∀(t:Nat)(aR:I),(hs.put cK (lQ op d' dv (.slice none 0 0) t)).le aR->iS aR m.aO m.x.hand m.aw->(∀g,m.aO=some g->(hs.put cK (lQ op d' dv (.slice none 0 0) t)) g.block=none)->nq B aT cK op d' dv m.x t aR:=by
  intro t aR cW yU f4;rw[lS,<-Ky h m.aO _ λg ak e=>k.xn he (by decide) g ak e.symm]at cW f4;refine⟨B,m,none,0,0,I.le_refl _,(k.xT he eD _).amn cW yU f4,rfl,cW _ _ ?_⟩;rw[n1 (k.xn he (by decide)),I.bP]
 rw[xq];refine aK λgS dy gY=>?_;refine dy _ _ _ ?_;refine fG λgO dx eG=>?_;refine aK λgu df fK=>?_;refine amo k.hand _ λax cG=>?_;rw[<-lS];refine .mk _ f133 ?_;rintro _ ad ⟨rfl,ex⟩;rw[ex];refine df _ _ _ ?_;refine ot rfl (λq=>?_) (λq=>?_);refine .hp cK 4 113 _ [R op,.int .u8 d',R dv,.slice none 0 0,.int .u8 (4:Nat)] rfl xt rfl ?_;refine eG _ _ _ _ nofun ?_;refine YS cG _ λaR cW yU f4=>.done ?_;show(if 64<m.x.hand.length+n then _ else _);rw[aX (by have:=qb q;omega)];exact qk 4 aR cW yU f4;have acB:¬64<m.x.hand.length+n:=by have:=tZ q;omega
 refine aK λgk ed eH=>?_;refine .hp (mK m.ff m.da.length) (bN vZ rfl) ?_;refine .mk ⟨m.ff,0,none⟩ rfl (by omega) (by omega) ?_;refine .hp (.slice d.A d.l.length d.c) (by rw[bq];exact pW) ?_;refine ed _ _ _ ?_;refine ot rfl (λq=>?_) (λq=>?_);refine .hp cK 4 113 _ [R op,.int .u8 d',R dv,.slice none 0 0,.int .u8 (2:Nat)] rfl xt rfl ?_;refine eG _ _ _ _ nofun ?_;refine YS cG _ λaR cW yU f4=>.done ?_;show(if 64<m.x.hand.length+n then _ else if d.l.length<n then _ else _);rw[aE acB,aX (by have:=qb q;omega)];exact qk 2 aR cW yU f4;have auH:¬d.l.length<n:=by have:=tZ q;omega
 refine aK λhA dY hL=>?_;refine .hp (.slice m.aO m.x.hand.length m.aw) (bN vZ rfl) ?_;refine .hp (mK m.ff m.da.length) (bN vZ rfl) ?_;refine .mk ⟨m.ff,0,none⟩ rfl (by omega) (by omega) ?_;refine .hp (.slice d.A d.l.length d.c) (by rw[bq];exact pW) ?_;refine .mk 0 n rfl rfl (by omega) (by omega) λq6 n7 pe=>?_;rw[M7 n7 pe];have lt:(d.l.take n).length=n:=by rw[sa];omega
 refine amp cG (au:=d.l.take n) (by rw[<-xj];exact(bg.mono (ayu Ey (by omega)) RO).src _) lt (by omega) (by omega) λbA bu cB cv=>?_;obtain⟨eW,E'⟩:∃eW,eW=({m with x:={m.x with hand:=m.x.hand++d.l.take n},aO:=bA,aw:=bu}:e8).cells:=⟨_,rfl⟩;refine .hp aT 8 115 _ eW rfl vZ (by rw[E'];show some _=some _;simp only[e8.cells,fb,lt,Nat.sub_zero]) ?_;have G6:(hs.put aT (.cells eW.toArray 115 (0,0))) aT=some (.cells eW.toArray 115 (0,0)):=I.bP _ _ _;have acO:eW[2]?=some (mK m.ff m.da.length):=by rw[E'];rfl
 have IS:m.ff≠aT:=fM k.da k.box (by decide);have XJ:(hs.put aT (.cells eW.toArray 115 (0,0))) m.ff=some (.cells (m.da.map dO.val).toArray 27 (0,0)):=by rw[I.cf _ _ IS];exact XK
 refine dY _ _ _ ?_;refine .hp (mK m.ff m.da.length) (bN G6 acO) ?_;refine .hp (mK m.ff m.da.length) (bN G6 acO) ?_;refine .mk ⟨m.ff,0,none⟩ rfl (by omega) (by omega) ?_;refine .hp (.slice d.A d.l.length d.c) (by rw[bq,add_lit,dJ,ew];exact bN XJ (by simp[fI,aB,dO.val])) ?_;refine .mk n d.l.length rfl rfl (by omega) WC λhz pe EM=>?_;refine .mk ⟨m.ff,0,none⟩ rfl (by omega) (by omega) ?_;have ld:(d.l.drop n).length=d.l.length-n:=k1;refine .hp m.ff (0+a*1) 27 (m.da.map dO.val) ((m.da.set a ⟨hz,d.c-n,d.l.drop n⟩).map dO.val) (by rw[add_lit,bq]) XJ ?_ ?_;rw[dJ,ew,ib _ _ _ (by rw[ih];exact fI),nb];show some ((m.da.map dO.val).set a (.slice hz (d.l.length-n) (d.c-n)))=some ((m.da.map dO.val).set a (.slice hz (d.l.drop n).length (d.c-n)));rw[ld];refine eG _ _ _ _ nofun ?_;refine cv _ _ λiT aR cW yU f4=>.done ?_;show(if 64<m.x.hand.length+n then _ else if d.l.length<n then _ else _);rw[aE acB,aE auH];have au3:(⟨hz,d.c-n,d.l.drop n⟩:dO).ok B:=by
  show bg B 1 hz (d.l.drop n).length (gZ (d.l.drop n));rw[ld];unfold gZ;rw[GK];exact bg.drop Ey (λq=>pe (by omega)) (by omega)
 have bJ:=k.aez (m.da.set a ⟨hz,d.c-n,d.l.drop n⟩) (by simp) (λy aQ=>by
  rcases List.mem_or_eq_of_mem_set aQ with aQ|rfl;exact k.pX y aQ;exact⟨au3,by show(d.l.drop n).length<=d.c-n;omega⟩)
 rw[SW _ _ _ (d9 IS),lS,<-Ky h m.aO _ (λg ak e=>k.xn k.da (by decide) g ak e.symm)]at cW f4;have bB:=bJ.YP (m.x.hand++d.l.take n) bA bu (by rw[E'];simp only[e8.cells,k2]) cW yU f4;have Sd:cK≠aT:=fM he k.box (by decide);have Se:cK≠m.ff:=fM he k.da (by decide);refine⟨B,_,none,0,0,I.le_refl _,bB,?_,cW _ _ ?_⟩;simp only[S5,xq];rw[nb,k.qH];rw[I.cf _ _ Sd,n1 (k.xn he (by decide)),I.cf _ _ Se];exact he
end
theorem X5{α:Type}(f:α->List Nat):∀(l:List α),(l.flatMap f).Nodup->∀(i o:Nat)(ag:i<l.length)(ae:o<l.length),i≠o->∀x∈f l[i],x∉f l[o]
 |[],_,i,_,ag,_,_,_,_=>absurd ag (Nat.not_lt_zero _)
 |a::l,h,i,o,ag,ae,bH,x,ad=>by
  rw[JX,nS]at h;obtain⟨_,ab,an⟩:=h;intro hB;cases i with
  |zero=>
   cases o with
   |zero=>exact bH rfl
   |succ o=>exact an x ad x (qv.2 ⟨_,cS (by simpa using ae),hB⟩) rfl
  |succ i=>
   cases o with
   |zero=>exact an x hB x (qv.2 ⟨_,cS (by simpa using ag),ad⟩) rfl
   |succ o=>exact X5 f l ab i o (by simpa using ag) (by simpa using ae) (λe=>bH (by rw[e])) x ad hB
theorem KV{α:Type}(f:α->List Nat){l:List α}{y:α}{x:Nat}(ad:x∈(l.set a y).flatMap f):x∈f y\/∃(i:Nat)(ag:i<l.length),i≠a/\x∈f l[i]:=by
 obtain⟨z,aY,ad⟩:=qv.1 ad;obtain⟨i,ag,rfl⟩:=rb aY;rw[k2]at ag;by_cases e:i=a;subst e;rw[GI]at ad;exact .inl ad;rw[UU (d9 e)]at ad;exact .inr ⟨i,ag,e,ad⟩
theorem X6{α:Type}(f:α->List Nat):∀(l:List α)(a:Nat)(y:α),(l.flatMap f).Nodup->(f y).Nodup->(∀(i:Nat)(ag:i<l.length),i≠a->∀x∈f y,x∉f l[i])->((l.set a y).flatMap f).Nodup
 |[],_,_,h,_,_=>h
 |b::l,0,y,h,h1,ab=>by
  rw[List.set_cons_zero,JX,nS];rw[JX,nS]at h;refine⟨h1,h.2.1,λu hu v ah e=>?_⟩;subst e;obtain⟨z,aY,ad⟩:=qv.1 ah;obtain⟨i,ag,rfl⟩:=rb aY;exact ab (i+1) (by simpa using ag) (by omega) u hu ad
 |b::l,a+1,y,h,h1,ab=>by
  rw[List.set_cons_succ,JX,nS];rw[JX,nS]at h;refine⟨h.1,X6 f l a y h.2.1 h1 λi ag bH x ad=>ab (i+1) (by simpa using ag) (by omega) x ad,λu hu v ah e=>?_⟩;subst e;rcases KV f ah with q|⟨i,ag,_,q⟩;exact ab 0 (by simp) (by omega) u q hu;exact h.2.2 u hu u (qv.2 ⟨_,cS ag,q⟩) rfl
section
variable {B h:I}{aT:Nat}{m:e8}
def T7(x:kl)(a n:Nat):kl:={x with wr:=x.wr.set a (x.wr.getD a []++x.hand.take n),hand:=x.hand.drop n}
theorem cU.np(k:cU B h aT m){d:dO}(aB:d∈m.wr)(ae:h o=some (.cells a8 t (0,0)))(av:t≠3):∀g,d.A=some g->o≠g.block:=λg ak=>by
 have r:=k.jg d aB;rw[ak]at r;obtain⟨bu,eZ⟩:=r.ty;exact fM ae eZ av
theorem cU.af3(k:cU B h aT m)(a6:a<m.wr.length)(l:List Int)(A:Option ar)(c:Nat)(aL:J= .cells ((m.wr.set a ⟨A,c,l⟩).map dO.val).toArray 27 (0,0))(cW:((ei h m.wr[a].A).put m.fX J).le aR)(r:bz aR 3 1 A l.length c (l.map R))(f:∀g,A=some g->((ei h m.wr[a].A).put m.fX J) g.block=none):cU B aR aT {m with x:={m.x with wr:=(m.wr.set a ⟨A,c,l⟩).map dO.l},wr:=m.wr.set a ⟨A,c,l⟩}:=by
 have EY:=cS a6;have b2:∀{o:Nat}{x:Obj},h o=some x->o≠m.fX->(∀g,m.wr[a].A=some g->o≠g.block)->aR o=some x:=λae dF dR=>cW _ _ (by rw[I.cf _ _ dF,n1 dR];exact ae);have mt:∀{o:Nat}{a8:Array ao}{t:Nat},h o=some (.cells a8 t (0,0))->t≠27->t≠3->aR o=some (.cells a8 t (0,0)):=λae dF dR=>b2 ae (fM ae k.wr dF) (k.np EY ae dR);obtain⟨dF,dR,hZ,xN⟩:=k.Eo;obtain⟨tq,m4⟩:=xN _ EY;have sp:=k.sep;rw[k3,k3,nS]at sp;obtain⟨s1,s2,hN,mC,zy⟩:=sp;have ab':∀g,m.wr[a].A=some g->m.dM≠g.block:=λg ak e=>m4 (by rw[e];exact oT ak);have Wu:∀g,m.wr[a].A=some g->m.c8≠g.block:=λg ak e=>tq (by rw[e];exact oT ak);have bH:∀g,m.wr[a].A=some g->∀b7,m.aO=some b7->b7.block≠g.block:=λg ak b7 dT e=>zy b7.block (oT dT) g.block (qv.2 ⟨_,EY,oT ak⟩) e;have one:∀(i:Nat)(ag:i<m.wr.length),i≠a->∀g,m.wr[i].A=some g->∀b7,m.wr[a].A=some b7->g.block≠b7.block:=λi ag e g ak b7 dT q=>X5 _ _ mC i a ag a6 e g.block (oT ak) (by rw[q];exact oT dT);have kv:aR m.dM=some (gB m.x.mem):=b2 k.mem (fM k.mem k.wr (by decide)) ab';have hQ:aR m.c8=some (gB m.x.er):=b2 k.er (fM k.er k.wr (by decide)) Wu;have Jh:∀{bs size n c:Nat}{A:Option ar}{xs:List ao},bz h bs size A n c xs->(∀g,A=some g->g.block≠m.fX/\∀b7,m.wr[a].A=some b7->g.block≠b7.block)->bz aR bs size A n c xs:=by
  intro bs size n c A xs r aO;obtain⟨h1,ab⟩:=r;refine⟨h1,?_⟩;rcases ab with ab|⟨b,a8,aM,aD,bj⟩;exact .inl ab;have:=aO _ aM;exact .inr ⟨b,a8,aM,b2 aD this.1 this.2,bj⟩
 have amm:iS aR m.aO m.x.hand m.aw:=by
  have aP:=k.hand;have LJ:=k.hand;rcases aP with x|⟨eP,off,a8,aM,aD,bj⟩;exact .inl x;exact .inr ⟨eP,off,a8,aM,b2 aD (fM aD k.wr (by decide)) (λg ak=>bH g ak _ aM),bj⟩
 have gF:B.le ((ei h m.wr[a].A).put m.fX J):=kT k.s' λo x ae=>by
  rw[n1 λg ak e=>by rw[e,k.ql _ EY g ak]at ae;cases ae];exact k.le _ _ ae
 have rM:∀{o:Nat}{a8:Array ao},h o=some (.cells a8 3 (0,0))->(∀g,m.wr[a].A=some g->o≠g.block)->∀g,A=some g->g.block≠o:=λae aC g ak e=>by
  have:=f g ak;rw[e,I.cf _ _ (fM ae k.wr (by decide)),n1 aC,ae]at this;cases this
 have rows:∀d∈m.wr.set a ⟨A,c,l⟩,bz aR 3 1 d.A d.l.length d.c (d.l.map R)/\∀g,d.A=some g->B g.block=none:=by
  intro d aB;obtain⟨i,ag,rfl⟩:=rb aB;rw[k2]at ag;by_cases e:i=a;subst e;simp only[GI];exact⟨r,λg ak=>I.none_le gF (f g ak)⟩;simp only[UU (d9 e)];refine⟨Jh (k.jg _ (cS ag)) λg ak=>⟨?_,one i ag e g ak⟩,k.ql _ (cS ag)⟩;have r:=k.jg _ (cS ag);rw[ak]at r;obtain⟨bu,eZ⟩:=r.ty;exact fM eZ k.wr (by decide)
 refine⟨I.le_trans gF cW,k.qD,?_,kv,k.ob,Jh k.mx λg ak=>?_,k.sP,b2 k.da k.pc (k.np EY k.da (by decide)),k.sm,k.qH,k.pX,by rw[cW _ _ (I.bP _ _ _),aL],k.s',rfl,λd aB=>(rows d aB).1,λd aB=>(rows d aB).2,k.pc,k.ops,k.r3,k.rp,k.rq,λi h1 ab=>?_,k.sL,hQ,k.sg,amm,k.pf,?_⟩;rw[mt k.box (by decide) (by decide)];simp only[e8.cells,k2];have r:=k.mx;rw[ak]at r;obtain⟨bu,eZ⟩:=r.ty;exact⟨fM eZ k.wr (by decide),k.np EY eZ (by decide)⟩;have ix:=k.lM i h1 ab;obtain⟨bu,eZ⟩:=ix.ty;have B4:=G5 m.x.jz[i].tag;exact ix.to (I.le_refl _) (by rw[eZ,mt eZ (by omega) (by omega)]) ix.zg;have tU:∀x∈jj A,∃g,A=some g/\g.block=x:=λx ad=>oe ad;rw[k3,k3,nS];simp only[dC,ev,not_or]at s1 s2⊢;refine⟨⟨s1.1,s1.2.1,λq=>?_⟩,⟨s2.1,λq=>?_⟩,hN,X6 _ _ _ _ mC (by cases A<;>simp[jj]) λi ag e x ad q=>?_,λu hu v ah e=>?_⟩;rcases KV _ q with q|⟨i,ag,_,q⟩;obtain⟨g,ak,e⟩:=tU _ q;exact rM k.mem ab' g ak e;exact s1.2.2 (qv.2 ⟨_,cS ag,q⟩);rcases KV _ q with q|⟨i,ag,_,q⟩;obtain⟨g,ak,e⟩:=tU _ q;exact rM k.er Wu g ak e;exact s2.2 (qv.2 ⟨_,cS ag,q⟩);obtain⟨g,ak,bl⟩:=tU _ ad;obtain⟨g2,gV,aI⟩:=oe q;have r:=k.jg _ (cS ag);rw[gV]at r;obtain⟨bu,eZ⟩:=r.ty;exact rM eZ (one i ag e g2 gV) g ak (by rw[bl,aI]);subst e;rcases KV _ ah with q|⟨i,ag,_,q⟩;obtain⟨g,ak,e⟩:=tU _ q;obtain⟨g2,gV,aI⟩:=oe hu;have r:=k.hand;rw[gV]at r;obtain⟨bu,eZ⟩:=r.ty;exact rM eZ (λb7 dT=>bH b7 dT g2 gV) g ak (by rw[e,aI]);exact zy u hu u (qv.2 ⟨_,cS ag,q⟩) rfl
end
section
variable {B h:I}{aT:Nat}{m:e8}
theorem az2(k:cU B h aT m)(he:h cK=some (lQ op d' dv (.slice none 0 0) 0))(eD:B cK=none)(a n:Nat)(a6:a<m.x.wr.length)(dF:1<=n)(aC:n<=1000)(aP:m.x.hand.length<=1000)(hw:(m.x.wr.getD a []).length<=100000):Fn aH 85 #[b0 aT,.agg #[w,R a,R n],b0 cK] h λ_ U=>if m.x.hand.length<n then nq B aT cK op d' dv m.x 4 U else nq B aT cK op d' dv (T7 m.x a n) 0 U:=by
 have fI:a<m.wr.length:=by rw[<-ih (f:=dO.l),k.pG];exact a6
 obtain⟨d,aB⟩:∃d,m.wr[a]=d:=⟨_,rfl⟩;have uZ:d∈m.wr:=by rw[<-aB];exact cS fI
 have HQ:=k.jg d uZ;have xq:m.x.wr.getD a []=d.l:=by
  rw[<-k.pG,cN,dV,bZ fI,aB];rfl
 rw[xq]at hw;obtain⟨hs,lS⟩:∃hs,hs=ei h d.A:=⟨_,rfl⟩;have vZ:hs aT=some (.cells m.cells.toArray 115 (0,0)):=by rw[lS,n1 (k.np uZ k.box (by decide))];exact k.box
 have af5:hs m.fX=some (.cells (m.wr.map dO.val).toArray 27 (0,0)):=by rw[lS,n1 (k.np uZ k.wr (by decide))];exact k.wr
 have xt:hs cK=some (lQ op d' dv (.slice none 0 0) 0):=by rw[lS,n1 (k.np uZ he (by decide))];exact he
 have jP:hs.cell? ((⟨m.fX,0,none⟩:ar).add (a*1))=some d.val:=by
  rw[add_lit,dJ,ew];exact bN af5 (by simp[fI,aB])
 have amk:iS hs m.aO m.x.hand m.aw:=by
  rcases k.hand with x|⟨eP,off,a8,aM,aD,bj⟩;exact .inl x;refine .inr ⟨eP,off,a8,aM,?_,bj⟩;rw[lS,n1 λg ak e=>?_];exact aD;have sp:=k.sep;rw[k3,k3,nS]at sp;refine sp.2.2.2.2 eP ?_ eP (qv.2 ⟨d,uZ,?_⟩) rfl;rw[aM];exact Of _;rw[e];exact oT ak
 obtain⟨gA,HX⟩:=amk.dG;have qk:∀(aR:I),(hs.put cK (lQ op d' dv (.slice none 0 0) 4)).le aR->bz aR 3 1 d.A d.l.length d.c (d.l.map R)->(∀g,d.A=some g->(hs.put cK (lQ op d' dv (.slice none 0 0) 4)) g.block=none)->nq B aT cK op d' dv m.x 4 aR:=by
  intro aR cW fT f4;rw[lS,<-Ky h d.A _ λg ak e=>k.np uZ he (by decide) g ak e.symm]at cW f4;have bJ:=k.xT he eD (lQ op d' dv (.slice none 0 0) 4);have kQ:m.wr.set a ⟨d.A,d.c,d.l⟩=m.wr:=by rw[<-aB];exact List.set_getElem_self fI
  have afO:(ei (h.put cK (lQ op d' dv (.slice none 0 0) 4)) d.A) m.fX=some (.cells ((m.wr.set a ⟨d.A,d.c,d.l⟩).map dO.val).toArray 27 (0,0)):=by
   rw[n1 (bJ.np uZ bJ.wr (by decide)),kQ];exact bJ.wr
  have bB:=bJ.af3 (a:=a) fI d.l d.A d.c rfl (by rw[aB,rW afO];exact cW) fT (by rw[aB,rW afO];exact f4);refine⟨B,_,none,0,0,I.le_refl _,bB,?_,cW _ _ ?_⟩;simp only[kQ,k.pG];rw[n1 (k.np uZ he (by decide)),I.bP]
 refine agN asK rfl ?_;refine .abs 3 1 d.A d.l.length d.c (d.l.map R) HQ (.done ?_);rw[<-lS];refine aK λgS dy gY=>?_;refine dy _ _ _ ?_;refine aK λgO dx eG=>?_;refine aK λgu df fK=>?_;refine .hp (.slice m.aO m.x.hand.length m.aw) (bN vZ rfl) ?_;refine df _ _ _ ?_;refine ot rfl (λq=>?_) (λq=>?_);refine .hp cK 4 113 _ [R op,.int .u8 d',R dv,.slice none 0 0,.int .u8 (4:Nat)] rfl xt rfl ?_;refine eG _ _ _ _ nofun ?_;refine .bV 0 3 1 d.A d.l.length d.c _ rfl λaR cW fT f4=>.done ?_;show(if m.x.hand.length<n then _ else _);rw[aX (by have:=qb q;omega)];exact qk aR cW fT f4;have no:¬m.x.hand.length<n:=by have:=tZ q;omega
 refine dx _ _ _ ?_;refine aK λgk ed eH=>?_;refine .hp (mK m.fX m.wr.length) (bN vZ rfl) ?_;refine .hp (mK m.fX m.wr.length) (bN vZ rfl) ?_;refine .mk ⟨m.fX,0,none⟩ rfl (by omega) (by omega) ?_;refine .hp (.slice d.A d.l.length d.c) (by rw[bq];exact jP) ?_;refine .hp (.slice m.aO m.x.hand.length m.aw) (bN vZ rfl) ?_;refine .mk 0 n rfl rfl (by omega) (by omega) λq6 n7 pe=>?_;rw[M7 n7 pe];have lt:(m.x.hand.take n).length=n:=by rw[sa];omega
 have tO:∀L,Src L hs 1 m.aO n ((m.x.hand.take n).map R):=λL=>by
  have:=(show bg hs 1 m.aO n (gZ (m.x.hand.take n)) by unfold gZ;rw[GM];exact gA.take (by omega)).src L;unfold gZ at this;rw[xj]at this;exact this
 refine .cR 0 (d.l.map R) ((m.x.hand.take n).map R) rfl (tO _) (λu hu=>by obtain⟨x,_,rfl⟩:=dn.1 hu;rfl) (by unfold c';omega) (by omega) λbA bu _=>?_;refine .mk ⟨m.fX,0,none⟩ rfl (by omega) (by omega) ?_;have lw:(d.l++m.x.hand.take n).length=d.l.length+n:=by rw[fb,lt]
 refine .hp m.fX (0+a*1) 27 (m.wr.map dO.val) ((m.wr.set a ⟨bA,bu,d.l++m.x.hand.take n⟩).map dO.val) (by rw[add_lit,bq]) af5 ?_ ?_;rw[dJ,ew,ib _ _ _ (by rw[ih];exact fI),nb];show some ((m.wr.map dO.val).set a (.slice bA (d.l.length+n) bu))=some ((m.wr.map dO.val).set a (.slice bA (d.l++m.x.hand.take n).length bu));rw[lw];have acL:m.fX≠aT:=fM k.wr k.box (by decide);have G6:(hs.put m.fX (.cells ((m.wr.set a ⟨bA,bu,d.l++m.x.hand.take n⟩).map dO.val).toArray 27 (0,0))) aT=some (.cells m.cells.toArray 115 (0,0)):=by rw[I.cf _ _ (d9 acL)];exact vZ
 refine ed _ _ _ ?_;refine .hp (.slice m.aO m.x.hand.length m.aw) (bN G6 rfl) ?_;refine .mk n m.x.hand.length rfl rfl (by omega) HX λhz pe EM=>?_;obtain⟨eW,E'⟩:∃eW,eW=({m with x:={m.x with hand:=m.x.hand.drop n},aO:=hz,aw:=m.aw-n}:e8).cells:=⟨_,rfl⟩;refine .hp aT 8 115 _ eW rfl G6 (by rw[E'];show some _=some _;simp only[e8.cells,k1]) ?_;refine .bV 0 3 1 bA _ bu _ rfl λaR cW fT f4=>.done ?_;show(if m.x.hand.length<n then _ else _);rw[aE no];obtain⟨amT,qN⟩:=k.hand.drop (vB:=hz) (k:=n) (by omega) pe EM;have bJ:=k.Jo (m.x.hand.drop n) hz (m.aw-n) amT (λg ak=>by
  have q:g.block∈jj m.aO:=by rw[<-qN];exact oT ak
  obtain⟨b7,dT,e⟩:=oe q;rw[<-e];exact k.pf b7 dT) (by have:=k.sep;rw[qN];exact this)
 rw[<-E']at bJ;rw[SW _ _ _ acL,lS,<-Ky h d.A _ (λg ak e=>k.np uZ k.box (by decide) g ak e.symm)]at cW f4;have bB:=bJ.af3 (a:=a) fI (d.l++m.x.hand.take n) bA bu rfl (by simp only[aB];exact cW) (by rw[lw,fm];exact fT) (by simp only[aB];exact f4);have Sd:cK≠aT:=fM he k.box (by decide);have new:cK≠m.fX:=fM he k.wr (by decide);refine⟨B,_,none,0,0,I.le_refl _,bB,?_,cW _ _ ?_⟩;simp only[T7,xq];rw[nb,k.pG];rw[I.cf _ _ new,n1 (k.np uZ he (by decide)),I.cf _ _ Sd];exact he
end
def PK(x:lG)(ins:List (List Int)):Option (List (List Int)×lG):=
 match x.tag,ins,x.outs with
 |2,[z::_],[n]=>if 1<=n/\n<=64 then some ([z::bG (n.toNat-1) 0],{x with n:=x.n+1})else none
 |3,[z::_],_=>some ([[z]],{x with n:=x.n+1})
 |_,_,_=>none
def Kw:List Int->List Int->Bool
 |_,[]=>true
 |l,r::rs=>decide (0<=r)&&(decide (r<=l.length)&&Kw (l.drop r.toNat) rs)
theorem WD:∀(rs l:List Int),Kw l rs=true->Hc l rs
 |[],_,_=>trivial
 |r::rs,l,h=>by
  rw[Kw,fY,fY,sh,sh]at h;exact⟨h.1,h.2.1,WD rs _ h.2.2⟩
def L7(x:kl)(l:m')(n:Nat):Prop:=0<=l.base/\1<=l.size/\l.base+l.size<=x.mem.length/\x.mem.length<=100000/\(0<=l.at_/\l.at_<=100000)/\(0<=l.bF/\l.bF<=100000)/\1<=n/\n<=1000/\x.hand.length<=1000
instance (x:kl)(l:m')(n:Nat):Decidable (L7 x l n):=by unfold L7;infer_instance
def tl(x:kl)(J:b6):Option (kl×Nat):=
 match J.k with
 |0=>if J.a=0/\J.b=0/\0<=x.jc/\x.jc<=1000000000 then some (if x.hand=[]then({x with jc:=x.jc+1,next:= -1},1)else(x,4))else none
 |1=>if 0<=J.a/\J.a<x.er.length then some ({x with er:=x.er.set J.a.toNat J.b},0)else none
 |2=>if h:J.a.toNat<x.er.length then
  if 0<=J.a/\(-100000<=x.er[J.a.toNat]/\x.er[J.a.toNat]<=100000)/\0<=J.b/\J.b<=1000000 then some ({x with er:=x.er.set J.a.toNat (x.er[J.a.toNat]-1),next:=if 0<x.er[J.a.toNat]-1 then J.b-1 else x.next},0)else none
  else none
 |3=>if h:J.a.toNat<x.lines.length then
  if 0<=J.a/\0<=J.b/\L7 x x.lines[J.a.toNat] J.b.toNat then some (if x.lines[J.a.toNat].bF<J.b.toNat\/64<x.hand.length+J.b.toNat then(x,4)else(DH x J.a.toNat x.lines[J.a.toNat] J.b.toNat,0))else none
  else none
 |4=>if 0<=J.a/\J.a.toNat<x.da.length/\1<=J.b/\J.b<=1000/\x.hand.length<=1000 then some (if 64<x.hand.length+J.b.toNat then(x,4)else if(x.da.getD J.a.toNat []).length<J.b.toNat then(x,2)else(S5 x J.a.toNat J.b.toNat,0))else none
 |5=>if h:J.a.toNat<x.jz.length/\J.a.toNat<x.pD.length then
  if 0<=J.a/\x.hand.length<=1000/\(x.jz[J.a.toNat]'h.1).ins.length<=16/\(x.jz[J.a.toNat]'h.1).outs.length<=16/\0<=(x.jz[J.a.toNat]'h.1).n/\(x.jz[J.a.toNat]'h.1).n<=1000000000000/\(tu x.hand (x.jz[J.a.toNat]'h.1).ins).map (λl=>(l.length:Int))=(x.jz[J.a.toNat]'h.1).ins/\Kw x.hand (x.jz[J.a.toNat]'h.1).ins=true then
   if(x.hand.length:Int)=x.pD[J.a.toNat]'h.2 then(PK (x.jz[J.a.toNat]'h.1) (tu x.hand (x.jz[J.a.toNat]'h.1).ins)).map λr=>(Km x J.a.toNat r.2 r.1,0)else none
  else none
  else none
 |6=>if h:J.a.toNat<x.lines.length then
  if 0<=J.a/\0<=J.b/\L7 x x.lines[J.a.toNat] J.b.toNat then some (if x.hand.length<J.b.toNat\/x.lines[J.a.toNat].size<x.lines[J.a.toNat].bF+J.b.toNat then(x,4)else(KZ x J.a.toNat x.lines[J.a.toNat] J.b.toNat,0))else none
  else none
 |7=>if 0<=J.a/\J.a.toNat<x.wr.length/\1<=J.b/\J.b<=1000/\x.hand.length<=1000/\(x.wr.getD J.a.toNat []).length<=100000 then some (if x.hand.length<J.b.toNat then(x,4)else(T7 x J.a.toNat J.b.toNat,0))else none
 |_=>none
def Js(x:kl):Option (kl×Nat):=
 if x.zB=true then none else
 if 0<=x.next/\x.next<=1000000 then
  match x.ops[x.next.toNat]?with
  |none=>none
  |some J=>(tl x J).bind λr=>
   if r.2=0\/r.2=1 then(if-1<=r.1.next/\r.1.next<=1000000 then some ({r.1 with next:=r.1.next+1},r.2)else none)
   else if r.2=2 then some r else none
 else none
def runM:Nat->kl->Int->Option (kl×Nat)
 |0,_,_=>none
 |f+1,x,to=>if x.jc<to then(Js x).bind λr=>if r.2=0\/r.2=1 then runM f r.1 to else some r else some (x,1)
theorem Io{p:Prop}[Decidable p]{x y cw:kl}{i halt:Nat}(h:(if p then(x,i)else(y,o))=(cw,halt)):(p/\x=cw/\i=halt)\/(¬p/\y=cw/\o=halt):=by
 by_cases q:p;rw[aX q]at h;injection h with h1 ab;exact .inl ⟨q,h1,ab⟩;rw[aE q]at h;injection h with h1 ab;exact .inr ⟨q,h1,ab⟩
theorem XX{cw:lG}{hand:List Int}{outs:List (List Int)}(ix:ln B h cj cv x)(le:B.le h)(ag:x.ins.length<=16)(aL:x.outs.length<=16)(aC:0<=x.n/\x.n<=1000000000000)(al:(tu hand x.ins).map (λl=>(l.length:Int))=x.ins)(az:PK x (tu hand x.ins)=some (outs,cw)):(1<=x.tag/\x.tag<=11)/\(∀J∈outs,0<J.length/\J.length<=64)/\outs.length<=100/\∀ab cm cE(D:List dO) n,h.le ab->RowsIn ab cm D->D.length=n->D.map dO.l=tu hand x.ins->Fn aH 89 #[b0 cj,.slice cm n cE] ab (NT B ab cj cv cw outs):=by
 obtain⟨tag,be,st,pu,ins,os⟩:=x;unfold PK at az;simp only at az al ag aL aC;have lens:∀{D:List dO},D.map dO.l=tu hand ins->D.map (λd=>(d.l.length:Int))=ins:=λ{D} e=>by
  rw[<-al,<-e,lo];rfl
 split at az;rename_i z l n aI;split at az;rename_i aBl;injection az with az;injection az with E1 wj;subst E1 wj;obtain⟨N,rfl⟩:∃N:Nat,n=N:=⟨n.toNat,by omega⟩;refine⟨⟨by simp,by simp⟩,λJ aL=>?_,by simp,λab cm cE D m cn gf hs lS=>?_⟩;rw[fx]at aL;subst aL;simp only[gI,Ob];omega;have tw:=aI;rw[<-lS]at tw;obtain⟨d,rfl⟩:∃d,D=[d]:=by
  rcases D with _|⟨d,_|_⟩;cases tw;exact⟨d,rfl⟩;simp at tw
 injection tw with eE _;have mS:m=1:=by rw[<-hs];rfl
 subst mS;refine XW (ix.up cn) (I.le_trans le cn) (by simp) (by simp) ag aL aC cm cE [d] 1 rfl gf (lens lS) _ λan dZ G4=>?_;have:=azz G4 (I.le_trans le (I.le_trans cn dZ)) N (by rfl) (by omega) (by omega) cm cE d z _ eE (gf.mono dZ);rw[bq];exact this;cases az;rename_i z l aI;injection az with az;injection az with E1 wj;subst E1 wj;refine⟨⟨by simp,by simp⟩,λJ aL=>?_,by simp,λab cm cE D m cn gf hs lS=>?_⟩;rw[fx]at aL;subst aL;simp;have tw:=aI;rw[<-lS]at tw;obtain⟨d,rfl⟩:∃d,D=[d]:=by
  rcases D with _|⟨d,_|_⟩;cases tw;exact⟨d,rfl⟩;simp at tw
 injection tw with eE _;have mS:m=1:=by rw[<-hs];rfl
 subst mS;refine XW (ix.up cn) (I.le_trans le cn) (by simp) (by simp) ag aL aC cm cE [d] 1 rfl gf (lens lS) _ λan dZ G4=>?_;exact ajT G4.some_ cm cE d z _ eE (gf.mono dZ);cases az
theorem aiV(k:cU B h aT m)(he:h cK=some (lQ op d' dv (.slice none 0 0) 0))(eD:B cK=none)(J:b6)(cw:kl)(halt:Nat)(QP:tl m.x J=some (cw,halt)):J.k<8/\Fn aH (78+J.k) #[b0 aT,.agg #[.int .u8 J.k,R J.a,R J.b],b0 cK] h λ_ U=>nq B aT cK op d' dv cw halt U:=by
 obtain⟨bQ,a,b⟩:=J;match bQ,QP with
 |0,aL=>
  simp only[tl]at aL;split at aL;rename_i aw;obtain⟨rfl,rfl,hp⟩:=aw;have aL:=oB aL;refine⟨by simp,(aj6 k (w:=.int .u8 (0:Nat)) he eD hp).mono λv U q=>?_⟩;rcases Io aL with⟨aM,rfl,rfl⟩|⟨aM,rfl,rfl⟩;rw[aX aM]at q;exact q;rw[aE aM]at q;exact q;cases aL
 |1,aL=>
  simp only[tl]at aL;split at aL;rename_i aw;have aL:=oB aL;injection aL with h1 ab;subst h1 ab;exact⟨by simp,amX k he a b aw.1 aw.2⟩;cases aL
 |2,aL=>
  simp only[tl]at aL;split at aL;rename_i aw;split at aL;rename_i aB;have aL:=oB aL;injection aL with h1 ab;subst h1 ab;exact⟨by simp,aiY k he a b aB.1 aw aB.2.1 aB.2.2⟩;cases aL;cases aL
 |3,aL=>
  simp only[tl]at aL;split at aL;rename_i aw;split at aL;rename_i aB;obtain⟨h1,ab,dc,c9,ha,gm,l1,sN,A0,vf,Fp⟩:=aB;have aL:=oB aL;obtain⟨a,rfl⟩:∃n:Nat,a=n:=⟨a.toNat,by omega⟩;obtain⟨b,rfl⟩:∃n:Nat,b=n:=⟨b.toNat,by omega⟩;simp only[bq]at aw dc c9 ha l1 sN A0 vf aL;refine⟨by simp,(ayt k (w:=.int .u8 (3:Nat)) he eD a b _ aw rfl dc c9 ha gm l1 sN A0 vf Fp).mono λv U q=>?_⟩;rcases Io aL with⟨aM,rfl,rfl⟩|⟨aM,rfl,rfl⟩;rw[aX aM]at q;exact q;rw[aE aM]at q;exact q;cases aL;cases aL
 |4,aL=>
  simp only[tl]at aL;split at aL;rename_i aB;obtain⟨h1,ab,an,aR,cg⟩:=aB;have aL:=oB aL;obtain⟨a,rfl⟩:∃n:Nat,a=n:=⟨a.toNat,by omega⟩;obtain⟨b,rfl⟩:∃n:Nat,b=n:=⟨b.toNat,by omega⟩;simp only[bq]at ab aL;refine⟨by simp,(awm k (w:=.int .u8 (4:Nat)) he eD a b ab (by omega) (by omega) cg).mono λv U q=>?_⟩;by_cases aM:64<m.x.hand.length+b;rw[aX aM]at q aL;injection aL with aJ aI;subst aJ aI;exact q;rw[aE aM]at q aL;rcases Io aL with⟨aM,rfl,rfl⟩|⟨aM,rfl,rfl⟩;rw[aX aM]at q;exact q;rw[aE aM]at q;exact q;cases aL
 |5,aL=>
  simp only[tl]at aL;split at aL;rename_i aw;split at aL;rename_i aB;obtain⟨h1,ab,an,aR,cg,fa,mi,pd⟩:=aB;obtain⟨a,rfl⟩:∃n:Nat,a=n:=⟨a.toNat,by omega⟩;simp only[bq]at aw an aR cg fa mi pd aL;split at aL;rename_i mR;obtain⟨r,am,e⟩:=Option.map_eq_some_iff.1 aL;injection e with aJ aI;subst aJ aI;obtain⟨outs,az7⟩:=r;have qM:a<m.dh.length:=by rw[k.rq];exact aw.1
  obtain⟨⟨t1,t2⟩,nK,eW,l4⟩:=XX (k.lM a qM aw.1) k.le an aR ⟨cg,fa⟩ mi am;refine⟨by simp,(call83 k (w:=.int .u8 (5:Nat)) he eD a aw.1 aw.2 _ rfl ab t1 t2 an aR (λ_=>WD _ _ pd) az7 outs nK eW λcj cv ix ab cm cE D n cn gf hs lS=>?_).mono λv U q=>?_⟩;exact(XX ix k.le an aR ⟨cg,fa⟩ mi am).2.2.2 ab cm cE D n cn gf hs lS;rw[aX mR]at q;exact q;cases aL;cases aL;cases aL
 |6,aL=>
  simp only[tl]at aL;split at aL;rename_i aw;split at aL;rename_i aB;obtain⟨h1,ab,dc,c9,ha,gm,l1,sN,A0,vf,Fp⟩:=aB;have aL:=oB aL;obtain⟨a,rfl⟩:∃n:Nat,a=n:=⟨a.toNat,by omega⟩;obtain⟨b,rfl⟩:∃n:Nat,b=n:=⟨b.toNat,by omega⟩;simp only[bq]at aw dc c9 ha l1 sN A0 vf aL;refine⟨by simp,(alH k (w:=.int .u8 (6:Nat)) he eD a b _ aw rfl dc c9 ha gm l1 sN A0 vf Fp).mono λv U q=>?_⟩;rcases Io aL with⟨aM,rfl,rfl⟩|⟨aM,rfl,rfl⟩;rw[aX aM]at q;exact q;rw[aE aM]at q;exact q;cases aL;cases aL
 |7,aL=>
  simp only[tl]at aL;split at aL;rename_i aB;obtain⟨h1,ab,an,aR,cg,fa⟩:=aB;have aL:=oB aL;obtain⟨a,rfl⟩:∃n:Nat,a=n:=⟨a.toNat,by omega⟩;obtain⟨b,rfl⟩:∃n:Nat,b=n:=⟨b.toNat,by omega⟩;simp only[bq]at ab fa aL;refine⟨by simp,(az2 k (w:=.int .u8 (7:Nat)) he eD a b ab (by omega) (by omega) cg fa).mono λv U q=>?_⟩;rcases Io aL with⟨aM,rfl,rfl⟩|⟨aM,rfl,rfl⟩;rw[aX aM]at q;exact q;rw[aE aM]at q;exact q;cases aL
 |n+8,aL=>simp[tl]at aL
abbrev xl(n:Nat):ao:=.func (.func n) #[] #[]
def aff:List ao:=[xl 78,xl 79,xl 80,xl 81,xl 82,xl 83,xl 84,xl 85]
def Nd:Obj:=.cells aff.toArray 221 (0,0)
theorem ayw{k:Nat}(h:k<8):aff[k]?=some (xl (78+k)):=by
 have:k=0\/k=1\/k=2\/k=3\/k=4\/k=5\/k=6\/k=7:=by omega
 rcases this with rfl|rfl|rfl|rfl|rfl|rfl|rfl|rfl<;>rfl
theorem aiU{x:kl}{J:b6}{r:kl×Nat}(h:tl x J=some r):J.k<8:=by
 obtain⟨k,a,b⟩:=J;by_cases q:k<8;exact q;obtain⟨n,rfl⟩:∃n,k=n+8:=⟨k-8,by omega⟩;simp[tl]at h
theorem ayr(h:I):Fn aH 29 #[] h λv U=>h.le U/\∃je,v= .slice (some ⟨je,0,none⟩) 8 8/\h je=none/\U je=some Nd:=by
 refine b5 ar7 rfl ?_;refine .mk λb af=>?_;exact .done ⟨I.du af,b,rfl,af,I.bP _ _ _⟩
section
variable {B h:I}{aT:Nat}{m:e8}
theorem axZ(k:cU B h aT m){je:Nat}(bW:B je=some Nd)(cw:kl)(halt:Nat)(aj:Js m.x=some (cw,halt)):Fn aH 30 #[b0 aT,.slice (some ⟨je,0,none⟩) 8 8] h λv U=>∃dS bc gT c1 c2 eI,v= .agg #[gT,c1,c2,eI,.int .u8 halt]/\B.le dS/\cU dS U aT bc/\bc.x=cw:=by
 unfold Js at aj;split at aj;cases aj;rename_i iD;have iD:m.x.zB=false:=by cases q:m.x.zB<;>simp_all
 split at aj;rotate_left;cases aj;rename_i aC;obtain⟨kx,sA⟩:∃n:Nat,m.x.next=n:=⟨m.x.next.toNat,by omega⟩;rw[sA,bq]at aj;split at aj;cases aj;rename_i J ay;obtain⟨r,am,aj⟩:=U5.1 aj;obtain⟨wM,al⟩:=r;simp only at aj;have va:((al=0\/al=1)/\(-1<=wM.next/\wM.next<=1000000)/\cw={wM with next:=wM.next+1}/\halt=al)\/(al=2/\cw=wM/\halt=al):=by
  by_cases q:al=0\/al=1;rw[aX q]at aj;split at aj;rename_i aD;have aj:=oB aj;injection aj with aJ aI;exact .inl ⟨q,aD,aJ.symm,aI.symm⟩;cases aj;rw[aE q]at aj;split at aj;rename_i aD;have aj:=oB aj;injection aj with aJ aI;exact .inr ⟨aD,aJ.symm,aI.symm⟩;cases aj
 clear aj;obtain⟨ag,mo⟩:=qt.1 ay;have Zs:=aiU am;obtain⟨bh,HT⟩:=k.ops.cc (by omega);have lN:=(k.ops.mono k.le).row HT (i:=kx) (r:=b6.cells J) (by rw[dV,ay];rfl);refine b5 Rt rfl ?_;refine aK λgS dy gY=>?_;refine dy _ _ _ ?_;refine aK λgO dx eG=>?_;refine aK λgu df fK=>?_;refine .hp (.bool m.x.zB) (bN k.box rfl) ?_;rw[iD];refine df _ _ _ ?_;refine dx _ _ _ ?_;refine aK λgk ed eH=>?_;refine .hp (.slice m.ct m.x.ops.length m.bO) (bN k.box rfl) ?_;refine .hp (R m.x.next) (bN k.box rfl) ?_;rw[sA];refine .mk bh HT (by omega) (by omega) ?_;refine .hp [.int .u8 J.k,R J.a,R J.b] rfl (by rw[bq];exact lN) ?_;refine ed _ _ _ ?_;refine aK λhA dY hL=>?_;refine .hp (R m.x.next) (bN k.box rfl) ?_;rw[sA];refine dY _ _ _ ?_;obtain⟨bQ,j5,px⟩:=J;have iH:∀(e:bY)(dv:Int)(Q:dL),[0,1,4,6,7].map e=[.v (b0 aT),.v (.slice (some ⟨je,0,none⟩) 8 8),.p 0 0,.p 1 0,.p 2 0]->(∀e U cK,[0,4,6,7].map e=[.v (b0 aT),.p 0 0,.p 1 0,.p 2 0]->nq B aT cK kx bQ dv wM al U->Q .normal e [.own [.v (R 0),.v (.int .u8 0),.v (R 0),.v (.slice none 0 0),.v (.int .u8 0)] 113,.own [.v (.int .u8 bQ),.v (R j5),.v (R px)] 66,.bV cK] U)->c7 aH 77 (.xP aqf) Q e [.own [.v (R 0),.v (.int .u8 0),.v (R 0),.v (.slice none 0 0),.v (.int .u8 0)] 113,.own [.v (.int .u8 bQ),.v (R j5),.v (R px)] 66,.own [.v (R kx),.v (.int .u8 bQ),.v (R dv),.v (.slice none 0 0),.v (.int .u8 0)] 113] h:=by
  intro e dv Q gD cD;rw[<-fr [0,1,4,6,7] e,gD];refine .mk ⟨je,0,none⟩ rfl (by omega) (by simp only at Zs;omega) ?_;refine .hp (xl (78+bQ)) (by rw[bq,add_lit,dJ,ew];exact bN (k.le _ _ bW) (ayw Zs)) ?_;refine .mk λcK Zb=>?_;obtain⟨_,arm⟩:=aiV (k.up (I.du (J:=lQ kx bQ dv (.slice none 0 0) 0) Zb)) (cK:=cK) (I.bP _ _ _) (I.none_le k.le Zb) ⟨bQ,j5,px⟩ wM al am;refine .done (.mk _ arm ?_);intro v U q;exact cD _ U cK rfl q
 refine aK λhc eT hi=>?_;have last:∀(e:bY)(dv:Int),[0,1,4,6,7].map e=[.v (b0 aT),.v (.slice (some ⟨je,0,none⟩) 8 8),.p 0 0,.p 1 0,.p 2 0]->hc .normal e [.own [.v (R 0),.v (.int .u8 0),.v (R 0),.v (.slice none 0 0),.v (.int .u8 0)] 113,.own [.v (.int .u8 bQ),.v (R j5),.v (R px)] 66,.own [.v (R kx),.v (.int .u8 bQ),.v (R dv),.v (.slice none 0 0),.v (.int .u8 0)] 113] h:=by
  intro e dv gD;refine eT _ _ _ ?_;refine aK λkc gg j1=>?_;refine iH e dv kc gD λe U cK sq aiS=>?_;refine gg _ _ _ ?_;rw[<-fr [0,4,6,7] e,sq];obtain⟨dS,m1,A,n,c,gF,bJ,sD,lA⟩:=aiS;refine aK λko g' ja=>?_;refine aK λlq gX kR=>?_;refine .hp (.int .u8 al) (bN lA rfl) ?_;refine gX _ _ _ ?_;refine fG λsd lC sK=>?_;have fin:∀(e:bY)(ab:I)(m2:e8),[4,7].map e=[.p 0 0,.p 2 0]->cU dS ab aT m2->m2.x=cw->halt=al->ab cK=some (lQ kx bQ dv (.slice A n c) al)->ko .normal e [.own [.v (R 0),.v (.int .u8 0),.v (R 0),.v (.slice none 0 0),.v (.int .u8 0)] 113,.own [.v (.int .u8 bQ),.v (R j5),.v (R px)] 66,.bV cK] ab:=by
   intro e ab m2 CG bB hB HW Y';refine g' _ _ _ ?_;rw[<-fr [4,7] e,CG];refine .hp [R kx,.int .u8 bQ,R dv,.slice A n c,.int .u8 al] rfl (λo v ah=>by rw[add_lit,dJ];exact bN Y' ah) ?_;refine .done ⟨dS,m2,R kx,.int .u8 bQ,R dv,.slice A n c,?_,gF,bB,hB⟩;rw[HW];rfl
  rcases va with⟨anu,af,hB,HW⟩|⟨rfl,hB,HW⟩;rw[<-sD]at af hB;have acM:∀(e:bY),[0,4,7].map e=[.v (b0 aT),.p 0 0,.p 2 0]->c7 aH 77 (.ch aqg) sd e [.own [.v (R 0),.v (.int .u8 0),.v (R 0),.v (.slice none 0 0),.v (.int .u8 0)] 113,.own [.v (.int .u8 bQ),.v (R j5),.v (R px)] 66,.bV cK] U:=by
   intro e CG;rw[<-fr [0,4,7] e,CG];refine .hp (R m1.x.next) (bN bJ.box rfl) ?_;refine .ok (by omega) (by omega) ?_;refine .hp aT 9 115 _ ({m1 with x:={m1.x with next:=m1.x.next+1}}:e8).cells rfl bJ.box rfl ?_;refine sK _ _ _ _ nofun ?_;exact fin _ _ _ rfl (bJ.M6 (m1.x.next+1) m1.x.jc) hB.symm HW (jx.Bc bJ _ _ _ lA)
  rcases anu with rfl|rfl;refine aK λqx lD pr=>?_;refine lD _ _ _ ?_;refine ot rfl (λ_=>?_) nofun;exact acM _ rfl;refine aK λqx lD pr=>?_;refine lD _ _ _ ?_;refine ot rfl (λ_=>?_) nofun;exact acM _ rfl;refine sK _ _ _ _ nofun ?_;exact fin _ _ m1 rfl bJ (sD.trans hB.symm) HW lA
 refine aK λkb fE i'=>?_;conv=>whnf
 by_cases an:bQ=3;rw[fo (by simp only;omega)];refine fE _ _ _ ?_;conv=>whnf
 exact last _ j5 rfl;rw[gU (by simp only;omega)];refine fE _ _ _ ?_;refine ot rfl (λq=>?_) (λq=>?_);exact last _ j5 rfl;exact last _ (-1) rfl
end
theorem ax2{x cw:kl}{al:Nat}(h:Js x=some (cw,al)):al=0\/al=1\/al=2:=by
 unfold Js at h;split at h;cases h;split at h;rotate_left;cases h;split at h;cases h;obtain⟨r,_,h⟩:=U5.1 h;split at h;rename_i q;split at h;have h:=oB h;injection h with _ e;omega;cases h;split at h;rename_i q;have h:=oB h;rw[h]at q;exact .inr (.inr q);cases h
section
variable {aT:Nat}
theorem awY(Q:dL)(e:bY)(zI ai:I)(m0:e8)(ve:cU zI ai aT m0){je:Nat}(bW:zI je=some Nd)(to:Int)(F:Nat)(cw:kl)(halt:Nat)(am:runM F m0.x to=some (cw,halt))(he:[0,6,7].map e=[.v (b0 aT),.v (.slice (some ⟨je,0,none⟩) 8 8),.v (R to)])(Qe:∀U dS bc,halt=1->zI.le dS->cU dS U aT bc->bc.x=cw->∀e,Q (.exit 0) e [] U)(Qf:∀e U dS bc,zI.le dS->cU dS U aT bc->bc.x=cw->[4,5].map e=[.v (.int .u8 halt),.v (R 0)]->Q .ret e [] U):kH (λQ e L h=>c7 aH 41 aoM Q e L h) Q e [] ai:=by
 refine .mk (Nat×I×e8) [0,6,7] (λ_=>[.v (b0 aT),.v (.slice (some ⟨je,0,none⟩) 8 8),.v (R to)]) (λ_=>[]) (λ(f,dS,bc) U=>cU dS U aT bc/\zI.le dS/\runM f bc.x to=some (cw,halt)) (λ(f,_)=>f) (F,zI,m0) (λ_=>rfl) ⟨ve,I.le_refl _,am⟩ he rfl ?_;rintro⟨f,dS,bc⟩ e h ⟨k,gF,am⟩;cases f with
 |zero=>cases am
 |succ f=>
  rw[runM]at am;refine aK λhc eT hi=>?_;refine aK λkb fE i'=>?_;refine .hp (R bc.x.jc) (bN k.box rfl) ?_;refine fE _ _ _ ?_;refine ot rfl (λq=>?_) (λq=>?_);rw[aX (qb q)]at am;obtain⟨r,aj,am⟩:=U5.1 am;obtain⟨wM,al⟩:=r;refine eT _ _ _ ?_;refine fG λkc gg j1=>?_;refine aK λko g' ja=>?_;refine .done (.mk _ (axZ k (gF _ _ bW) wM al aj) ?_);rintro _ ab ⟨hz,m2,gT,c1,c2,eI,rfl,cn,bB,hB⟩;refine g' _ _ _ ?_;rcases ax2 aj with rfl|rfl|rfl;rw[aX (.inl rfl)]at am;refine j1 _ _ _ _ nofun ?_;exact⟨(f,hz,m2),rfl,rfl,⟨bB,I.le_trans gF cn,by rw[hB];exact am⟩,ri _⟩;rw[aX (.inr rfl)]at am;refine j1 _ _ _ _ nofun ?_;exact⟨(f,hz,m2),rfl,rfl,⟨bB,I.le_trans gF cn,by rw[hB];exact am⟩,ri _⟩;rw[aE (by simp)]at am;have am:=oB am;injection am with aJ aI;refine j1 _ _ _ _ nofun ?_;exact Qf _ _ hz m2 (I.le_trans gF cn) bB (hB.trans aJ) (by rw[<-aI];rfl);rw[aE (tZ q)]at am;have am:=oB am;injection am with aJ aI;refine hi _ _ _ _ nofun ?_;exact Qe _ dS bc aI.symm gF k aJ _
theorem awV(k:cU B h aT m)(n:Nat)(aC:n<=8)(hp:0<=m.x.jc/\m.x.jc<=1000000000)(F:Nat)(cw:kl)(halt:Nat)(am:runM F m.x (m.x.jc+n)=some (cw,halt)):Fn aH 10 #[b0 aT,R n] h λv U=>∃dS bc,v= .tuple #[.int .u8 halt,R 0]/\B.le dS/\cU dS U aT bc/\bc.x=cw:=by
 refine b5 aaO rfl ?_;refine aK λgS dy gY=>?_;refine dy _ _ _ ?_;refine aK λgO dx eG=>?_;refine dx _ _ _ ?_;refine aK λgu df fK=>?_;refine aK λgk ed eH=>?_;conv=>whnf
 rw[gU (by omega)];refine ed _ _ _ ?_;refine aW (λq=>by omega) (λ_=>?_);refine df _ _ _ ?_;refine aK λhA dY hL=>?_;refine .done (.mk _ (ayr h) ?_);rintro _ h1 ⟨cr,je,rfl,ayv,AS⟩;refine dY _ _ _ ?_;refine aK λhc eT hi=>?_;refine aK λkb fE i'=>?_;refine .hp (R m.x.jc) (bN (cr _ _ k.box) rfl) ?_;refine .ok (by omega) (by omega) ?_;refine fE _ _ _ ?_;refine fG λkc gg j1=>?_;have bJ:=k.grow cr;have bW:(B.grow h h1) je=some Nd:=by
  unfold I.grow;rw[I.mX (S:=λo=>B o≠none\/h o=none) (.inr ayv)];exact AS
 refine .lj (.done (awY kc _ (B.grow h h1) h1 m bJ bW (m.x.jc+n) F cw halt am rfl (λU dS bc aJ gF e1 AV e=>?_) (λe U dS bc gF e1 AV he=>?_)));refine gg _ _ _ (eT _ _ _ ?_);refine .done ⟨dS,bc,?_,I.le_trans (Cs k.le cr) gF,e1,AV⟩;rw[aJ];rfl;refine j1 _ _ _ _ nofun (hi _ _ _ _ nofun ?_);rw[<-fr [4,5] e,he];exact .done ⟨dS,bc,rfl,I.le_trans (Cs k.le cr) gF,e1,AV⟩
end
end Go.Sx
