/- A part of the proof that the statement holds. Conditions: none. -/
import Derived.Test.YtlbdbpaelcnfgaaGreatDoorAP
import Derived.Test.YtlbdbpaelcnfgaaGreatDoorAS
open Array renaming toArray_toList->ov
open Bool renaming and_eq_true->fY,false_and->Bw,false_or->agl,or_eq_false_iff->Ul,true_and->wQ
open Classical renaming not_not->jw
open Go renaming Addr->ar,Value->ao,madeCells->rO,maxLen->c'
open Go.Addr renaming mk->ou
open Go.Proofs.Tryz renaming prog->aH
open Go.Value renaming oneCell'->Aa
open Int renaming toNat_natCast->bq,toNat_of_nonneg->q'
open List renaming all_eq_false->US,all_eq_true->oA,append_assoc->mb,count_cons->N2,count_le_length->ag8,ext_getElem->vH,ext_getElem?->ahb,flatten_cons->qr,getD_cons_succ->ahi,getD_eq_getElem?_getD->cN,getElem?_append_left->N7,getElem?_eq_getElem->bZ,getElem?_eq_none->qs,getElem?_eq_some_iff->qt,getElem?_map->dV,getElem?_range->J0,getElem?_set->zT,getElem?_set_self->ahj,getElem_mem->cS,getElem_of_mem->rb,getElem_set->vI,length->e7,length_append->fb,length_cons->gI,length_drop->k1,length_eq_zero_iff->ahm,length_map->ih,length_nil->N',length_set->k2,map_append->fm,map_cons->eO,map_replicate->un,map_set->nb,map_singleton->GL,mem_append->ev,mem_append_left->qu,mem_append_right->wT,mem_flatten->aho,mem_map->dn,mem_of_getElem?->DZ,mem_singleton->fx,range->g6,replicate->bG,set_append_right->wU,set_cons_succ->Oi,sum_append->ahu,sum_cons->Ol,take_append_drop->BI,take_length->pM,take_of_length_le->k4
open List.Perm renaming nodup_iff->ag6
open Nat renaming add_mul->ti,add_zero->wX,beq->gN,le_refl->dd,mul_le_mul->ns,mul_one->ew,sub_self->yq,zero_add->dJ,zero_le->cO,zero_mul->D0
open Ne renaming symm->d9
open Option renaming map_eq_some_iff->D3
open Prod renaming fst->kn,snd->ek
namespace Go.Sx
open Go.Proofs
set_option maxRecDepth 100000
set_option maxHeartbeats 0
set_option linter.all false
variable {ai cq h:I}{eg:List Int}{L:List LE}{fZ left:List Nat}{sp:List ao}{aa:List bo}{N a aT b bk c cZ cl fe g gd gt hK i k m n op u v:Nat}{A:Option ar}{F V:ao}
def ahZ(h:I)(v:ao)(U:I):Prop:=h.le U/\∃A m c e,∃kx:List (Int×Bool),v= .tuple #[.slice A m c,R e]/\m<=64/\bg U 2 A m (kx.map mD)
theorem vP.pop{lJ lK kK hP lR e4 jC off cap:Nat}{dg:List Bool}{gq e6:List Nat}{a8:List ao}(p:vP N lJ lK kK hP gd lR e4 ai h dg gq (v::e6))(Q:OB h hP jC off cap a8 (v::e6))(AC:jC≠e4)(Hw:ai jC=none){B:Option ar}(bL:1<cap->B=(some (ou jC off none)).map (·.add (1*1)))(cy:1=cap->B=some ⟨jC,off,none⟩):vP N lJ lK kK hP gd lR e4 ai (h.put hP (.cells #[.slice B e6.length (cap-1)] 27 (0,0))) dg gq e6:=by
 have bH:∀{o:Nat}{ty:Nat}{cs:Array ao},h o=some (.cells cs ty (0,0))->ty≠27->o≠hP:=λae av=>lh ae Q.box av;obtain⟨kx,dF,dR⟩:=p.nP;have aw:=Q.abn;have am:=Q.room;simp only[gI]at aw;refine⟨by rw[I.cf _ _ (bH p.eR (by decide))];exact p.eR,by rw[I.cf _ _ (bH p.db (by decide))];exact p.db,by rw[I.cf _ _ p.Kj];exact p.gA,by rw[I.cf _ _ (bH p.rX (by decide))];exact p.rX,⟨kx,dF,by rw[I.cf _ _ (bH dR (by decide))];exact dR⟩,by rw[I.cf _ _ (bH p.s0 (by decide))];exact p.s0,p.xH,p.cB,?_,p.Kj,kT p.Ce p.le,p.Cd,p.sk,p.iZ,p.Ce⟩;by_cases Y3:1<cap;refine⟨jC,off+1,cap-1,a8,⟨by rw[I.bP,bL Y3];simp[add_lit],by rw[I.cf _ _ (bH Q.n0 (by decide))];exact Q.n0,by omega,by omega,λo u ae=>?_⟩,AC,Hw⟩;have:=Q.at_ (o+1) u (by simpa using ae);rw[show off+1+o=off+(o+1) by omega];exact this;have hw:e6=[]:=List.eq_nil_of_length_eq_zero (by omega);subst hw;refine⟨jC,off,cap-1,a8,⟨by rw[I.bP,cy (by omega)],by rw[I.cf _ _ (bH Q.n0 (by decide))];exact Q.n0,by simp,by omega,λo u ae=>by simp at ae⟩,AC,Hw⟩
theorem atI(m:Nat):(rO (#[R 0,.bool false]:Array ao) (m*2)).toList=((bG m ((0:Int),false)).map mD).flatten:=by
 rw[R3 (s:=2) rfl m,un];rfl
theorem avx(N n cx src dst:Nat)(A:Option ar)(aa:List bo)(h:I)(av:bg h 5 A n (aa.map bo.cells))(aC:n<=9223372036854775806)(tO:src<N)(Lg:dst<N):Fn aH 50 #[my N A n cx,R src,R dst] h λv U=>ahZ h v U:=by
 have al:aa.length=n:=by simpa using av.len
 refine b5 asj rfl ?_;refine .done (.mk _ (acR N n cx A aa h av aC) ?_);rintro _ h1 ⟨cr,f1,f2⟩;by_cases aj:e' N aa=0;obtain⟨T,c,H,rfl,oY,x2⟩:=f2 aj;obtain⟨HF,uW,wo,dk⟩:=lO aj;have Db:(g9 N aa).length=N:=by simp[g9]
 have xe:∀u,u<N->h1.cell? (H.add (u*1))=some (R ((g9 N aa).getD u 0:Nat)):=λu hu=>by
  have hh:u<(g9 N aa).length:=by omega
  rw[cN,bZ hh];exact x2.one rfl (i:=u) (iM hh) rfl
 refine aW (λq=>by omega) (λq=>?_);refine aW (λq=>by omega) (λq=>?_);refine .mk _ rfl (by omega) (by omega) ?_;refine .hp _ (by rw[bq];exact xe src tO) ?_;refine .mk _ rfl (by omega) (by omega) ?_;refine .hp _ (by rw[bq];exact xe dst Lg) ?_;refine aW (λaD=>?_) (λaD=>?_);exact .done ⟨cr,none,0,0,110,[],rfl,by decide,bg.nil _ _ _⟩;have amL:=anO (aa:=aa) tO Lg (by omega);refine .mk N rfl rfl (by omega) (by omega) λG2=>?_;refine .one N (R 0) rfl rfl rfl rfl (by omega) (by omega) λAc=>?_;refine .one N (.bool false) rfl rfl rfl rfl (by omega) (by omega) λG1=>?_;refine .mk G1 rfl (by omega) (by omega) ?_;refine .row 6 4 1 G1 N N (bG N (.bool false)) ((bG N (.bool false)).set dst (.bool true)) dst rfl (by rw[bq,ew]) (by rw[ib _ _ _ (by simpa using Lg)]) ?_;refine .mk λlJ Qp=>?_;refine .mk λlK Qq=>?_;refine .mk λkK Qr=>?_;refine .mk λjC QE=>?_;refine .mk λhP HK=>?_;have aM:h1.le (h1.put lJ (.cells #[.slice (some G1) N N] 193 (0,0))):=I.du Qp;have aD:=I.du (J:=.cells #[.slice (some G2) N N] 78 (0,0)) Qq;have bj:=I.du (J:=.cells #[.slice (some Ac) N N] 27 (0,0)) Qr;have bT:=I.du (J:=.cells #[R dst] 3 (0,0)) QE;have dz:=I.du (J:=.cells #[.slice (some ⟨jC,0,none⟩) 1 1] 27 (0,0)) HK;have af':h1 lJ=none:=Qp;have aB2:h1 lK=none:=I.none_le aM Qq;have aB3:h1 kK=none:=I.none_le (I.le_trans aM aD) Qr;have Uc:h1 jC=none:=I.none_le (I.le_trans aM (I.le_trans aD bj)) QE;have aAc:h1 hP=none:=I.none_le (I.le_trans aM (I.le_trans aD (I.le_trans bj bT))) HK;have fv:=I.le_trans aD (I.le_trans bj (I.le_trans bT dz)) _ _ (I.bP _ _ _);have dU:=I.le_trans bj (I.le_trans bT dz) _ _ (I.bP _ _ _);have gi:=I.le_trans bT dz _ _ (I.bP _ _ _);have fT:=dz _ _ (I.bP _ _ _);have mA:=I.bP ((((h1.put lJ (.cells #[.slice (some G1) N N] 193 (0,0))).put lK (.cells #[.slice (some G2) N N] 78 (0,0))).put kK (.cells #[.slice (some Ac) N N] 27 (0,0))).put jC (.cells #[R dst] 3 (0,0))) hP (.cells #[.slice (some ⟨jC,0,none⟩) 1 1] 27 (0,0));have auc:kK≠hP:=λe=>by
  rw[<-e,bT _ _ (I.bP _ _ _)]at HK;cases HK
 have A1:=I.le_trans aM (I.le_trans aD (I.le_trans bj (I.le_trans bT dz)));clear aM aD bj bT dz Qp Qq Qr QE HK;refine .lj (.bV 2 173 2 (some G2) N N _ rfl λab cn nP sk=>.bV 4 3 1 (some Ac) N N _ rfl λan dZ s0 iZ=>.bV 6 4 1 (some G1) N N _ rfl λaR cW rX Cd=>.done ?_);have sO:=I.le_trans cn (I.le_trans dZ cW);have mC:=cn _ _ fT;have w1:=sO _ _ fv;have uu:=sO _ _ dU;have U9:=sO _ _ gi;have U':=sO _ _ fT;have D8:=sO _ _ mA;have eA:=I.le_trans A1 sO;obtain⟨_,nP|⟨lR,V8,tz,amH,_,_,axi,ae8⟩⟩:=nP;cases nP.1;injection tz with tz;subst tz;obtain⟨_,s0|⟨e4,kd,iY,amI,_,_,axj,ae9⟩⟩:=s0;cases s0.1;injection iY with iY;subst iY;obtain⟨_,rX|⟨gd,G8,hq,amG,_,_,axh,ae7⟩⟩:=rX;cases rX.1;injection hq with hq;subst hq;have So:V8=((bG N ((0:Int),false)).map mD).flatten.toArray:=by
  rw[k4 (by simp[axi])]at ae8;rw[<-ov (xs:=V8),ae8];exact ho List.toArray (atI N)
 have Sp:kd=((bG N 0).map λz:Nat=>R (z:Int)).toArray:=by
  rw[k4 (by simp[axj])]at ae9;rw[<-ov (xs:=kd),ae9,un];rfl
 have Sn:G8=(((bG N false).set dst true).map Value.bool).toArray:=by
  rw[k4 (by simp[axh])]at ae7;rw[<-ov (xs:=G8),ae7,nb,un]
 have aAf:h1 lR=none:=I.none_le A1 (sk _ rfl);have aAg:h1 e4=none:=I.none_le (I.le_trans A1 cn) (iZ _ rfl);have aAe:h1 gd=none:=I.none_le (I.le_trans A1 (I.le_trans cn dZ)) (Cd _ rfl);have aug:jC≠e4:=λe=>by
  have:=iZ _ rfl;rw[<-e]at this;rw[mC]at this;cases this
 have D5:vP N lJ lK kK hP gd lR e4 h1 aR ((bG N false).set dst true) (bG N 0) [dst]:=by
  refine⟨w1,uu,U9,by rw[amG,Sn],⟨bG N (0,false),by simp,by rw[cW _ _ (dZ _ _ amH),So]⟩,by rw[cW _ _ amI,Sp],by simp,by simp,⟨jC,0,1,[R dst],⟨D8,U',by simp,by simp,λo u ae=>by simpa using ae⟩,aug,Uc⟩,auc,eA,aAe,aAf,aAg,aAc⟩
 have pq:(ep N aa).length<=aa.length:=KW N aa aa.length;obtain⟨zI,gT⟩:=qn.start (na aa (ep N aa)) Lg (bG N 0) (by simp);clear w1 uu U9 U' D8 fv dU gi fT mA mC sO sk iZ Cd;refine .mk (List Bool×List Nat×List Nat) [1,2,3,8,10,11,13,14] (λ_=>[.v (R src),.v (R dst),.p 0 0,.p 1 0,.p 3 0,.p 5 0,.p 9 0,.v (.func (.func 112) #[] #[.pointer (some ⟨lJ,0,none⟩),.pointer (some ⟨lK,0,none⟩),.pointer (some ⟨kK,0,none⟩),.pointer (some ⟨hP,0,none⟩)])]) (λ_=>[.own [.v (R N),.v (.slice A n cx)] 33,.own [.v (.slice T (ep N aa).length c),.v (.slice (some H) N N)] 159,.gone,.bV lK,.gone,.bV kK,.gone,.bV lJ,.bV jC,.bV hP]) (λ(dg,gq,e6) U=>vP N lJ lK kK hP gd lR e4 h1 U dg gq e6/\qn N dst (na aa (ep N aa)) (λ_=>False) dg gq e6/\dg.count false+e6.length<=N) (λ(dg,_,e6)=>dg.count false+e6.length) ((bG N false).set dst true,bG N 0,[dst]) (λ_=>rfl) ⟨D5,zI,by simp;omega⟩ rfl rfl ?_;rintro⟨dg,gq,e6⟩ e cg ⟨p,b,HM⟩;obtain⟨aAO,off,cap,a8,Q,AC,alO⟩:=p.q;refine .hp _ (bN Q.box rfl) ?_;refine aW (λbj=>?_) (λbj=>?_);match e6,p,b,HM,Q,bj with
 |[],_,_,_,_,bj=>exact absurd bj (by simp)
 |v::e6,p,b,HM,Q,bj=>
  simp only[gI]at HM;have ah:=b.gl v (by simp);have aoe:v<N:=by have:=abf ah;rw[b.xH]at this;exact this
  refine .hp _ (bN Q.box rfl) ?_;refine .mk _ rfl (by decide) (by simp) ?_;refine .hp (R v) (by rw[add_lit];exact bN Q.n0 (Q.at_ 0 _ rfl)) ?_;refine .hp _ (bN Q.box rfl) ?_;refine .mk 1 (e6.length+1) rfl rfl (by omega) Q.abn λB bL cy=>?_;refine .hp hP 0 27 _ [.slice B e6.length (cap-1)] rfl Q.box rfl ?_;have hR:=p.pop Q AC alO bL cy;have gE:=b.pop;generalize cg.put hP (.cells [Value.slice B e6.length (cap-1)].toArray 27 (0,0))=fa at hR;obtain⟨S,c5⟩:∃S,S=dg.count false+e6.length:=⟨_,rfl⟩;refine .mk (Nat×List Bool×List Nat×List Nat) [1,2,3,8,10,11,13,14,15,79,80,81] (λ(i,_)=>[.v (R src),.v (R dst),.p 0 0,.p 1 0,.p 3 0,.p 5 0,.p 9 0,.v (.func (.func 112) #[] #[.pointer (some ⟨lJ,0,none⟩),.pointer (some ⟨lK,0,none⟩),.pointer (some ⟨kK,0,none⟩),.pointer (some ⟨hP,0,none⟩)]),.v (R v),.v (.slice T (ep N aa).length c),.v (R (ep N aa).length),.v (R i)]) (λ_=>[.own [.v (R N),.v (.slice A n cx)] 33,.own [.v (.slice T (ep N aa).length c),.v (.slice (some H) N N)] 159,.gone,.bV lK,.gone,.bV kK,.gone,.bV lJ,.bV jC,.bV hP]) (λ(i,dg,gq,e6) U=>vP N lJ lK kK hP gd lR e4 h1 U dg gq e6/\qn N dst (na aa (ep N aa)) (λu=>u=v) dg gq e6/\dg.getD v false=true/\dg.count false+e6.length<=S/\i<=(ep N aa).length/\∀o<i,∀x a,(ep N aa)[o]?=some x->aa[x]?=some a->(a.dst.toNat=v->dg.getD a.src.toNat false=true)/\(a.src.toNat=v->dg.getD a.dst.toNat false=true)) (λ(i,_)=>(ep N aa).length-i) (0,dg,gq,e6) (λ_=>rfl) ⟨hR,gE,ah,by omega,cO _,λo ae=>by omega⟩ rfl rfl ?_;clear hR gE ah b p Q;rintro⟨i,dg,gq,T8⟩ aI mi ⟨p,b,ah,aA1,ag,l0⟩;refine aW (λbT=>?_) (λbT=>?_);have ea:i<(ep N aa).length:=by omega
  have ad:=TS N aa aa.length _ (cS ea);have C3:(ep N aa)[i]?=some (ep N aa)[i]:=bZ ea;obtain⟨g,ak⟩:=oY.cc (by omega);obtain⟨ez,rD⟩:=av.cc (by omega);have kd:=(oY.mono p.le).one ak (iM ea) rfl;generalize(ep N aa)[i]=x at ad C3 kd;have nO:=(av.mono (I.le_trans cr p.le)).row rD (iM ad);have tK:=vl (dk aa[x] (cS ad));have CC:aa[x]?=some aa[x]:=bZ ad;generalize aa[x]=a at nO tK CC;obtain⟨fq,s1,d0,d1,_⟩:=tK;refine .mk g ak (by omega) (by omega) ?_;refine .hp (R x) (by rw[bq];exact kd) ?_;refine .mk ez rD (by omega) (by omega) ?_;refine .hp a.cells rfl (by rw[bq];exact nO) ?_;refine aW (λdz=>?_) (λdz=>?_);have IJ:=abz N lJ lK kK hP gd lR e4 a.src.toNat v x false h1 mi dg gq T8 p (by omega) (by omega);rw[q' fq]at IJ;obtain⟨cy,bJ,bB,eo⟩:=b.aby (u:=a.src.toNat) (by omega) ah;refine .done (.mk _ IJ ?_);rintro _ pd SL;refine .ok (by omega) (by omega) ?_;refine⟨(i+1,_,_,_),rfl,rfl,⟨SL,cy,bB _ ah,by omega,ea,λo ae y ey aQ fI=>?_⟩,by show(ep N aa).length- (i+1)<(ep N aa).length-i;omega⟩;by_cases jY:o=i;subst jY;rw[C3]at aQ;injection aQ with aQ;subst aQ;rw[CC]at fI;injection fI with fI;subst fI;exact⟨λ_=>bJ,λ_=>by rw[show a.dst.toNat=v by omega];exact bB _ ah⟩;obtain⟨hJ,z2⟩:=l0 o (by omega) y ey aQ fI;exact⟨λaP=>bB _ (hJ aP),λaP=>bB _ (z2 aP)⟩;refine aW (λj6=>?_) (λj6=>?_);have IJ:=abz N lJ lK kK hP gd lR e4 a.dst.toNat v x true h1 mi dg gq T8 p (by omega) (by omega);rw[q' d0]at IJ;obtain⟨cy,bJ,bB,eo⟩:=b.aby (u:=a.dst.toNat) (by omega) ah;refine .done (.mk _ IJ ?_);rintro _ pd SL;refine .ok (by omega) (by omega) ?_;refine⟨(i+1,_,_,_),rfl,rfl,⟨SL,cy,bB _ ah,by omega,ea,λo ae y ey aQ fI=>?_⟩,by show(ep N aa).length- (i+1)<(ep N aa).length-i;omega⟩;by_cases jY:o=i;subst jY;rw[C3]at aQ;injection aQ with aQ;subst aQ;rw[CC]at fI;injection fI with fI;subst fI;exact⟨λaP=>by omega,λ_=>bJ⟩;obtain⟨hJ,z2⟩:=l0 o (by omega) y ey aQ fI;exact⟨λaP=>bB _ (hJ aP),λaP=>bB _ (z2 aP)⟩;refine .ok (by omega) (by omega) ?_;refine⟨(i+1,_,_,_),rfl,rfl,⟨p,b,ah,by omega,ea,λo ae y ey aQ fI=>?_⟩,by show(ep N aa).length- (i+1)<(ep N aa).length-i;omega⟩;by_cases jY:o=i;subst jY;rw[C3]at aQ;injection aQ with aQ;subst aQ;rw[CC]at fI;injection fI with fI;subst fI;exact⟨λaP=>by omega,λaP=>by omega⟩;exact l0 o (by omega) y ey aQ fI;refine⟨(dg,gq,T8),rfl,rfl,⟨p,b.close λw hw=>?_,by omega⟩,by simp only[gI];omega⟩;obtain⟨x,ad,a,a6,aB⟩:=hw;obtain⟨o,ae,anr⟩:=rb ad;obtain⟨hJ,z2⟩:=l0 o (by omega) x a (by rw[bZ ae,anr]) a6;rcases aB with⟨aJ,aI⟩|⟨aJ,aI⟩;rw[<-aI];exact z2 aJ;rw[<-aI];exact hJ aJ
 match e6,p,b,HM,Q,bj with
 |_::_,_,_,_,_,bj=>exact absurd (by simp) bj
 |[],p,b,HM,Q,bj=>
  have xv:=b.all na.symm amL;obtain⟨r,zu,gK⟩:=b.fZ;obtain⟨kx,CL,sA⟩:=p.nP;refine .lj (.abs 173 2 none 0 0 [] ⟨rfl,.inl ⟨rfl,rfl,rfl⟩⟩ (.done ?_));refine .mk (Nat×Option ar×Nat×List (Int×Bool)) [2,10,11,19,20] (λ(x,P,bu,l)=>[.v (R dst),.p 3 0,.p 5 0,.v (.slice P l.length bu),.v (R x)]) (λ(_,P,bu,l)=>[.own [.v (R N),.v (.slice A n cx)] 33,.own [.v (.slice T (ep N aa).length c),.v (.slice (some H) N N)] 159,.gone,.bV lK,.gone,.bV kK,.gone,.bV lJ,.bV jC,.bV hP,.row 173 2 P l.length bu (l.map mD).flatten]) (λ(x,_,_,l) U=>U=cg/\dg.getD x false=true/\l.length+r x<=N) (λ(x,_,_,_)=>r x) (src,none,0,[]) (λ_=>rfl) ⟨rfl,xv,by have:=zu src xv;simp;omega⟩ rfl rfl ?_;rintro⟨x,P,bu,l⟩ aI fa ⟨rfl,ad,y0⟩;have aoq:x<N:=by have:=abf ad;rw[b.xH]at this;exact this
  refine aW (λbT=>?_) (λbT=>?_);obtain⟨cF,dw⟩:=gK x ad (by omega);have Z6:x<gq.length:=by rw[p.cB];exact aoq
  have aor:x<kx.length:=by omega
  have V9:∀o v,(mD kx[x])[o]?=some v->fa.cell? (((ou lR 0 none).add (x*2)).add o)=some v:=λo v ae=>by
   rw[add_lit,add_lit,dJ];exact bN sA (Ci (size:=2) (kx.map mD) (λr am=>by obtain⟨p,_,rfl⟩:=dn.1 am;rfl) x o _ v (iM aor) ae)
  have Ah:fa.cell? ((ou e4 0 none).add (x*1))=some (R (gq.getD x 0:Nat)):=by
   rw[add_lit,dJ,ew];exact bN p.s0 (by rw[dV,bZ Z6,cN,bZ Z6];rfl)
  generalize kx[x]=sp at V9;generalize gq.getD x 0=y at cF dw Ah;refine .hp _ (bN p.db rfl) ?_;refine .mk _ rfl (by omega) (by omega) ?_;refine .hp (mD sp) rfl (by rw[bq];exact V9) ?_;refine .done (.cR 10 _ (mD sp) rfl rfl (by simp[mD,Aa,R]) (by simp[c'];omega) (by omega) λahX c2 aAY=>?_);refine .hp _ (bN p.gA rfl) ?_;refine .mk _ rfl (by omega) (by omega) ?_;refine .hp _ (by rw[bq];exact Ah) ?_;refine⟨(y,ahX,c2,l++[sp]),by simp only[fb,gI,N'];rfl,?_,⟨rfl,cF,by simp;omega⟩,dw⟩;simp;rfl;refine .bV 10 173 2 P l.length bu _ rfl λmi mv Jb f7=>.done ⟨I.le_trans cr (I.le_trans p.le mv),P,l.length,bu,0,l,rfl,by omega,Jb.dG (λr am=>by obtain⟨p,_,rfl⟩:=dn.1 am;rfl) (by decide)⟩
 obtain rfl:=f1 aj;refine aW (λq=>?_) (λq=>absurd aj (by simpa using q));exact .done ⟨cr,none,0,0,_,[],rfl,by decide,bg.nil _ _ _⟩
def kN(p:Nat×Nat):List ao:=[R p.1,R p.2]
structure vS(N lL h5 kp:Nat)(ai h:I)(s:List (Nat×Nat))(f:Bool):Prop where
 c5:h lL=some (.cells #[.slice (some ⟨h5,0,none⟩) N N] 162 (0,0))
 SY:h h5=some (.cells (s.map kN).flatten.toArray 167 (0,0))
 bm:h kp=some (.cells #[.bool f] 4 (0,0))
 DA:s.length=N
 le:ai.le h
 aga:ai h5=none
 Nz:ai kp=none
def kZ(s:List (Nat×Nat)×Bool)(u v x y:Nat):Bool×(List (Nat×Nat)×Bool):=
 if s.1.getD u (0,0)=(0,0)\/s.1.getD v (0,0)≠(0,0)then(false,s)else((lk (s.1.getD u (0,0)) x y).2,(s.1.set v (lk (s.1.getD u (0,0)) x y).1,s.2&&(lk (s.1.getD u (0,0)) x y).2))
theorem PQ(s:List (Nat×Nat)):∀r∈s.map kN,r.length=2:=λr am=>by obtain⟨p,_,rfl⟩:=dn.1 am;rfl
theorem Yd(l:List (Nat×Nat)):∀(i:Nat)(p:Nat×Nat),i<l.length->over (l.map kN).flatten (i*2) (kN p)=some ((l.set i p).map kN).flatten:=by
 induction l with
 |nil=>intro i p h;simp at h
 |cons a l bE=>
  intro i p h;cases i with
  |zero=>
   rw[D0];show over (R a.1::R a.2::(l.map kN).flatten) 0 [R p.1,R p.2]=_;simp[over,kN]
  |succ i=>
   have U:=bE i p (by simpa using h);rw[Nat.succ_mul];show over (R a.1::R a.2::(l.map kN).flatten) (i*2+2) (kN p)=_;simp only[over,U];simp[kN]
theorem vS.row{lL h5 kp:Nat}{s:List (Nat×Nat)}{f:Bool}(x:vS N lL h5 kp ai h s f)(hu:u<N):∀o v,(kN (s.getD u (0,0)))[o]?=some v->h.cell? (((ou h5 0 none).add (u*2)).add o)=some v:=λo v ae=>by
 have hh:u<s.length:=by rw[x.DA];exact hu
 rw[cN,bZ hh]at ae;rw[add_lit,add_lit,dJ];exact bN x.SY (Ci (size:=2) (s.map kN) (PQ s) u o _ v (iM hh) ae)
theorem ae1(N lL h5 kp u v x y:Nat)(ai h:I)(s:List (Nat×Nat))(f:Bool)(p:vS N lL h5 kp ai h s f)(hu:u<N)(ah:v<N)(ad:x<=64)(aQ:y<=64)(C4:0<y)(af:∀q∈s,yb q):Fn aH 108 #[R u,R v,R x,R y,.pointer (some ⟨lL,0,none⟩),.pointer (some ⟨kp,0,none⟩)] h λr U=>r= .bool (kZ (s,f) u v x y).1/\vS N lL h5 kp ai U (kZ (s,f) u v x y).2.1 (kZ (s,f) u v x y).2.2:=by
 refine b5 aqV rfl ?_;have Tc:=p.row hu;have Tm:=p.row ah;have bW:yb (s.getD u (0,0)):=by
  have hh:u<s.length:=by rw[p.DA];exact hu
  rw[cN,bZ hh];exact af _ (cS hh)
 have oI:kZ (s,f) u v x y=if s.getD u (0,0)=(0,0)\/s.getD v (0,0)≠(0,0)then(false,(s,f))else((lk (s.getD u (0,0)) x y).2,(s.set v (lk (s.getD u (0,0)) x y).1,f&&(lk (s.getD u (0,0)) x y).2)):=rfl;rw[oI];generalize s.getD u (0,0)=a at Tc bW⊢;generalize s.getD v (0,0)=b at Tm⊢;obtain⟨cP,a2⟩:=a;obtain⟨bL,cy⟩:=b;have t49:=λh=>afh (cP,a2) x y h bW ad aQ C4;generalize lk (cP,a2) x y=g at t49⊢;obtain⟨⟨g1,g2⟩,dQ⟩:=g;refine .hp _ (bN p.c5 rfl) ?_;refine .mk _ rfl (by omega) (by omega) ?_;refine .hp (kN (cP,a2)) rfl (by rw[bq];exact Tc) ?_;refine uK (λq=>?_) (λq=>?_);have:(cP,a2)=(0,0):=by simp[flip]at q;simp;omega
 rw[aX (.inl this)];exact .done ⟨rfl,p⟩;have kw:¬(cP,a2)=(0,0):=by simp[flip]at q;simp;omega
 refine .hp _ (bN p.c5 rfl) ?_;refine .mk _ rfl (by omega) (by omega) ?_;refine .hp (kN (bL,cy)) rfl (by rw[bq];exact Tm) ?_;refine uK (λaD=>?_) (λaD=>?_);have:(bL,cy)≠(0,0):=by simp[flip]at aD;simp;omega
 rw[aX (.inr this)];exact .done ⟨rfl,p⟩;have c6:¬(bL,cy)≠(0,0):=by simp[flip]at aD;simp;omega
 rw[aE (by rintro(h1|h1);exact kw h1;exact c6 h1)];refine .hp _ (bN p.c5 rfl) ?_;refine .mk _ rfl (by omega) (by omega) ?_;refine .hp (kN (cP,a2)) rfl (by rw[bq];exact Tc) ?_;refine .done (.mk _ (t49 h) ?_);rintro _ h1 ⟨cr,rfl⟩;have fv:=cr _ _ p.c5;have dU:=cr _ _ p.SY;have gi:=cr _ _ p.bm;refine .hp _ (bN fv rfl) ?_;refine .hp _ (bN gi rfl) ?_;have fin:∀z,z=(f&&dQ)->vS N lL h5 kp ai ((h1.put h5 (.cells ((s.set v (g1,g2)).map kN).flatten.toArray 167 (0,0))).put kp (.cells #[.bool z] 4 (0,0))) (s.set v (g1,g2)) (f&&dQ):=λz aY=>by
  subst aY;exact⟨by rw[I.cf _ _ (lh fv gi (by decide)),I.cf _ _ (lh fv dU (by decide))];exact fv,by rw[I.cf _ _ (lh dU gi (by decide)),I.bP],I.bP _ _ _,by simp[p.DA],kT p.Nz (kT p.aga (I.le_trans p.le cr)),p.aga,p.Nz⟩
 have acP:=Yd s v (g1,g2) (by rw[p.DA];exact ah);cases f;refine .mk _ rfl (by omega) (by omega) ?_;refine .hp h5 (v*2) 167 _ _ (by rw[add_lit,dJ,bq]) dU acP ?_;refine .hp kp 0 4 [.bool false] [.bool false] rfl (by rw[I.cf _ _ (d9 (lh dU gi (by decide)))];exact gi) rfl ?_;exact .done ⟨rfl,fin false (by simp)⟩;refine .mk _ rfl (by omega) (by omega) ?_;refine .hp h5 (v*2) 167 _ _ (by rw[add_lit,dJ,bq]) dU acP ?_;refine .hp kp 0 4 [.bool true] [.bool dQ] rfl (by rw[I.cf _ _ (d9 (lh dU gi (by decide)))];exact gi) rfl ?_;exact .done ⟨rfl,fin dQ (by simp)⟩
abbrev oD:=List (Nat×Nat)×Bool
def w8(s:oD)(qX:Bool)(a:bo):oD×Bool:=
 if(kZ s a.src.toNat a.dst.toNat a.fR.toNat a.take.toNat).1=true then((kZ s a.src.toNat a.dst.toNat a.fR.toNat a.take.toNat).2,true)else
 ((kZ (kZ s a.src.toNat a.dst.toNat a.fR.toNat a.take.toNat).2 a.dst.toNat a.src.toNat a.take.toNat a.fR.toNat).2,(kZ (kZ s a.src.toNat a.dst.toNat a.fR.toNat a.take.toNat).2 a.dst.toNat a.src.toNat a.take.toNat a.fR.toNat).1||qX)
def l6(aa:List bo)(hG:List Nat)(s:oD):Nat->oD×Bool
 |0=>(s,false)
 |k+1=>match hG[k]?with
  |some i=>(match aa[i]?with
   |some a=>w8 (l6 aa hG s k).1 (l6 aa hG s k).2 a
   |none=>l6 aa hG s k)
  |none=>l6 aa hG s k
def qh(aa:List bo)(hG:List Nat)(s:oD):oD×Bool:=l6 aa hG s hG.length
def x0(aa:List bo)(hG:List Nat):Nat->oD->oD
 |0,s=>s
 |f+1,s=>if(qh aa hG s).2=true/\(qh aa hG s).1.2=true then x0 aa hG f (qh aa hG s).1 else(qh aa hG s).1
def lE(N:Nat)(home:List Nat)(k:Nat):List (Nat×Nat):=(g6 N).map λv=>if v<k/\home.getD v 0=v then(1,1)else(0,0)
def iN(N:Nat)(aa:List bo):oD:=x0 aa (ep N aa) (N+1) (lE N (g9 N aa) N,true)
structure ys(N:Nat)(s:oD):Prop where
 len:s.1.length=N
 B2:∀q∈s.1,yb q
 fit:s.2=true->∀q∈s.1,q.1<=4096/\q.2<=4096/\(q=(0,0)\/0<q.2)
def nR(s:oD):Nat:=s.1.count (0,0)
theorem ab8{α:Type}{l:List α}{x y:α}(h:y∈l.set i x):y∈l\/y=x:=by
 rcases List.mem_or_eq_of_mem_set h with h|h;exact .inl h;exact .inr h
theorem EK{α:Type}{l:List α}{d:α}(h:i<l.length):l.getD i d∈l:=by
 rw[cN,bZ h];exact cS h
theorem ajI(l:List (Nat×Nat)):∀(u:Nat)(g:Nat×Nat),u<l.length->l.getD u (0,0)=(0,0)->g≠(0,0)->(l.set u g).count (0,0)+1=l.count (0,0):=by
 induction l with
 |nil=>intro u g h;simp at h
 |cons a l bE=>
  intro u g h az ak;cases u with
  |zero=>
   have:a=(0,0):=az;subst this;rw[List.set_cons_zero,List.count_cons_of_ne ak,List.count_cons_self]
  |succ u=>
   have:=bE u g (by simpa using h) (by simpa using az) ak;rw[Oi,N2,N2];omega
theorem TB{s:oD}(J:ys N s){x y:Nat}(hu:u<N)(ah:v<N)(aQ:y<=64):ys N (kZ s u v x y).2/\((kZ s u v x y).2.2=true->s.2=true/\((kZ s u v x y).1=false->(kZ s u v x y).2=s/\(s.1.getD u (0,0)≠(0,0)->s.1.getD v (0,0)≠(0,0)))/\((kZ s u v x y).1=true->nR (kZ s u v x y).2<nR s))/\(∀w,s.1.getD w (0,0)≠(0,0)->(kZ s u v x y).2.1.getD w (0,0)≠(0,0)):=by
 unfold kZ;split;rename_i aw;refine⟨J,λh=>⟨h,λ_=>⟨rfl,λh1 ab=>?_⟩,(λh=>by cases h)⟩,λw h=>h⟩;rcases aw with aw|aw;exact h1 aw;exact aw ab;rename_i aw;have Ff:v<s.1.length:=by rw[J.len];exact ah
 have AT:u<s.1.length:=by rw[J.len];exact hu
 have aY:s.1.getD v (0,0)=(0,0):=by
  by_cases e:s.1.getD v (0,0)=(0,0);exact e;exact absurd (.inr e) aw
 have ZF:=EK (d:=(0,0)) AT;refine⟨⟨by simp[J.len],λq aq=>?_,λaz q aq=>?_⟩,λaz=>?_,λw hw=>?_⟩;rcases ab8 aq with aq|rfl;exact J.B2 q aq;exact ayx _ _ _;simp only[fY]at az;rcases ab8 aq with aq|rfl;exact J.fit az.1 q aq;have:=ayy az.2;obtain⟨cP,a2,_⟩:=J.fit az.1 _ ZF;exact⟨this.1,this.2,.inr (afi az.2 cP a2 aQ)⟩;simp only[fY]at az;refine⟨az.1,(λh=>by rw[az.2]at h;cases h),λ_=>?_⟩;obtain⟨cP,a2,_⟩:=J.fit az.1 _ ZF;have hp:=afi az.2 cP a2 aQ;have:=ajI s.1 v (lk (s.1.getD u (0,0)) x y).1 Ff aY (λe=>by rw[e]at hp;simp at hp);unfold nR;simp only;omega;simp only;rw[cN,zT];split;rename_i e;subst e;exact absurd aY hw;rw[<-cN];exact hw
structure OE(N:Nat)(s s6:oD)(qX:Bool):Prop where
 ok:ys N s6
 mono:∀w,s.1.getD w (0,0)≠(0,0)->s6.1.getD w (0,0)≠(0,0)
 f:s6.2=true->s.2=true/\(qX=false->s6=s)/\(qX=true->nR s6<nR s)/\nR s6<=nR s
theorem aiT{fq s:oD}{qX:Bool}(J:OE N fq s qX){a:bo}(a6:og N a=0):OE N fq (w8 s qX a).1 (w8 s qX a).2/\((w8 s qX a).1.2=true->(w8 s qX a).2=false->(fq.1.getD a.src.toNat (0,0)≠(0,0)↔fq.1.getD a.dst.toNat (0,0)≠(0,0)))/\((w8 s qX a).1.2=true->s.2=true)/\((w8 s qX a).2=false->qX=false):=by
 obtain⟨z0,hJ,z2,z3,z4,z5,aB0,aB1,_⟩:=vl a6;obtain⟨ie,hR,kW⟩:=TB J.ok (u:=a.src.toNat) (v:=a.dst.toNat) (x:=a.fR.toNat) (y:=a.take.toNat) (by omega) (by omega) (by omega);unfold w8;generalize kZ s a.src.toNat a.dst.toNat a.fR.toNat a.take.toNat=fv at ie hR kW;split;rename_i h1;refine⟨⟨ie,λw hw=>kW w (J.mono w hw),λaz=>?_⟩,(λ_ h=>by cases h),λaz=>(hR az).1,(λh=>by cases h)⟩;obtain⟨aM,aD,bj⟩:=hR az;obtain⟨o0,_,_,afA⟩:=J.f aM;have:=bj h1;exact⟨o0,(λh=>by cases h),(λ_=>by simp only;omega),by simp only;omega⟩;rename_i h1;have h1:fv.1=false:=by simpa using h1
 obtain⟨t1,t2,t3⟩:=TB ie (u:=a.dst.toNat) (v:=a.src.toNat) (x:=a.take.toNat) (y:=a.fR.toNat) (by omega) (by omega) (by omega);generalize kZ fv.2 a.dst.toNat a.src.toNat a.take.toNat a.fR.toNat=dU at t1 t2 t3;refine⟨⟨t1,λw hw=>t3 w (kW w (J.mono w hw)),λaz=>?_⟩,λaz hm=>?_,λaz=>(hR (t2 az).1).1,λhm=>by simp only[Ul]at hm;exact hm.2⟩;obtain⟨aM,aD,bj⟩:=t2 az;obtain⟨v1,v2,v3⟩:=hR aM;obtain⟨o0,hI,ue,afA⟩:=J.f v1;obtain⟨aJ,_⟩:=v2 h1;rw[aJ]at aD bj;refine⟨o0,λh=>?_,λh=>?_,?_⟩;simp only[Ul]at h;exact(aD h.1).1.trans (hI h.2);cases am:dU.1 with
 |true=>have:=bj am;simp only;omega
 |false=>
  rw[am]at h;simp only;rw[(aD am).1];exact ue (by simpa using h)
 cases am:dU.1 with
 |true=>have:=bj am;simp only;omega
 |false=>simp only;rw[(aD am).1];exact afA
 simp only[Ul]at hm;obtain⟨aM,aD,_⟩:=t2 az;obtain⟨v1,v2,_⟩:=hR aM;obtain⟨aJ,cF⟩:=v2 h1;rw[aJ]at aD;obtain⟨_,dw⟩:=aD hm.1;obtain⟨_,hI,_⟩:=J.f v1;rw[hI hm.2]at cF dw;exact⟨cF,dw⟩
theorem S8{N:Nat}{aa:List bo}(hG:List Nat){s:oD}(J:ys N s)(a6:∀a∈aa,og N a=0):∀k,OE N s (l6 aa hG s k).1 (l6 aa hG s k).2/\((l6 aa hG s k).1.2=true->(l6 aa hG s k).2=false->∀o<k,∀i a,hG[o]?=some i->aa[i]?=some a->(s.1.getD a.src.toNat (0,0)≠(0,0)↔s.1.getD a.dst.toNat (0,0)≠(0,0)))
 |0=>⟨⟨J,λ_ h=>h,λh=>⟨h,λ_=>rfl,(λh=>by cases h),dd _⟩⟩,λ_ _ o ae=>by omega⟩
 |k+1=>by
  obtain⟨bE,vd⟩:=S8 hG J a6 k;unfold l6;split;rename_i i ag;split;rename_i a K9;obtain⟨h1,ab,an,aR⟩:=aiT bE (a6 a (DZ K9));refine⟨h1,λaz hm o ae sG ey ea fI=>?_⟩;by_cases e:o=k;subst e;rw[ag]at ea;injection ea with ea;subst ea;rw[K9]at fI;injection fI with fI;subst fI;exact ab az hm;exact vd (an az) (aR hm) o (by omega) sG ey ea fI;refine⟨bE,λaz hm o ae sG ey ea fI=>?_⟩;by_cases e:o=k;subst e;rename_i aC;rw[ag]at ea;injection ea with ea;subst ea;rw[aC]at fI;cases fI;exact vd az hm o (by omega) sG ey ea fI;refine⟨bE,λaz hm o ae sG ey ea fI=>?_⟩;by_cases e:o=k;subst e;rename_i aC;rw[aC]at ea;cases ea;exact vd az hm o (by omega) sG ey ea fI
theorem aeW{N:Nat}{aa:List bo}(a6:∀a∈aa,og N a=0)(hG:List Nat):∀(f:Nat)(s:oD),ys N s->s.2=true->nR s<f->ys N (x0 aa hG f s)/\(∀w,s.1.getD w (0,0)≠(0,0)->(x0 aa hG f s).1.getD w (0,0)≠(0,0))/\((x0 aa hG f s).2=true->∀u v,na aa hG u v->((x0 aa hG f s).1.getD u (0,0)≠(0,0)↔(x0 aa hG f s).1.getD v (0,0)≠(0,0)))
 |0,s,_,_,h=>by omega
 |f+1,s,J,aj,aY=>by
  obtain⟨r,wG⟩:=S8 hG J a6 hG.length;unfold x0;split;rename_i aw;have:=(r.f aw.2).2.2.1 aw.1;unfold qh at aw;obtain⟨cP,a2,a3⟩:=aeW a6 hG f (qh aa hG s).1 r.ok aw.2 (by unfold qh;omega);exact⟨cP,λw hw=>a2 w (r.mono w hw),a3⟩;rename_i aw;refine⟨r.ok,r.mono,λaz u v al=>?_⟩;unfold qh at aw az⊢;have hm:(l6 aa hG s hG.length).2=false:=by
   cases e:(l6 aa hG s hG.length).2 with
   |false=>rfl
   |true=>exact absurd ⟨e,az⟩ aw
  have aJ:=(r.f az).2.1 hm;rw[aJ];obtain⟨i,ag,a,K9,aB⟩:=al;obtain⟨o,ae,jY⟩:=rb ag;have:=wG az hm o ae i a (by rw[bZ ae,jY]) K9;rcases aB with⟨aM,aD⟩|⟨aM,aD⟩;rw[<-aM,<-aD];exact this;rw[<-aM,<-aD];exact this.symm
theorem Bm(N:Nat)(home:List Nat)(k:Nat):(lE N home k).length=N:=by simp[lE]
theorem axz{home:List Nat}(ah:v<N):(lE N home k).getD v (0,0)=if v<k/\home.getD v 0=v then(1,1)else(0,0):=by
 rw[lE,cN,dV,J0 ah];rfl
theorem aeF(N:Nat)(home:List Nat)(k:Nat):ys N (lE N home k,true):=by
 have key:∀q∈lE N home k,q=(1,1)\/q=(0,0):=λq aq=>by
  obtain⟨v,_,rfl⟩:=dn.1 aq;split;exact .inl rfl;exact .inr rfl
 refine⟨Bm _ _ _,λq aq=>?_,λ_ q aq=>?_⟩;rcases key q aq with rfl|rfl<;>exact⟨by decide,by decide⟩;rcases key q aq with rfl|rfl<;>decide
theorem anP(ah:v<N):(g9 N aa).getD v 0<=v/\(g9 N aa).getD ((g9 N aa).getD v 0) 0=(g9 N aa).getD v 0/\ka (na aa (ep N aa)) v ((g9 N aa).getD v 0):=by
 have ok:=Hr N aa aa.length;have ak:∀w,w<N->(g9 N aa).getD w 0=jU (gb N aa aa.length).1 w:=λw hw=>by
  rw[g9,cN,dV,J0 hw];rfl
 have cu:=PI ok v;rw[ak v ah,ak _ (by omega)];refine⟨cu,?_,PH ok (PP N aa aa.length) v⟩;have root:∀w,(gb N aa aa.length).1.getD (jU (gb N aa aa.length).1 w) (jU (gb N aa aa.length).1 w)=jU (gb N aa aa.length).1 w:=by
  intro w;induction w using Nat.strongRecOn with
  |_ w bE=>
   by_cases e:(gb N aa aa.length).1.getD w w=w;rw[Hl e];exact e;have:=ok.le w;rw[<-KQ ok e];exact bE _ (by omega)
 exact Hl (root v)
theorem ajF{L:Nat->Nat->Prop}{p:Nat->Prop}(h:∀u v,L u v->(p u↔p v))(c:ka L u v):p u↔p v:=by
 induction c with
 |refl=>exact Iff.rfl
 |step al _ bE=>exact(h _ _ al).trans bE
theorem axQ(a6:∀a∈aa,og N a=0):ys N (iN N aa)/\((iN N aa).2=true->∀v,v<N->0<((iN N aa).1.getD v (0,0)).2/\((iN N aa).1.getD v (0,0)).1<=4096/\((iN N aa).1.getD v (0,0)).2<=4096):=by
 have aY:nR (lE N (g9 N aa) N,true)<N+1:=by
  have:=ag8 (a:=((0:Nat),(0:Nat))) (l:=lE N (g9 N aa) N);rw[Bm]at this;unfold nR;simp only;omega
 obtain⟨J,m,l⟩:=aeW a6 (ep N aa) (N+1) (lE N (g9 N aa) N,true) (aeF _ _ _) rfl aY;refine⟨J,λaz v ah=>?_⟩;obtain⟨h1,ab,an⟩:=anP (aa:=aa) ah;have am:(iN N aa).1.getD ((g9 N aa).getD v 0) (0,0)≠(0,0):=m _ (by
  show(lE N (g9 N aa) N).getD _ _≠_;rw[axz (by omega),aX ⟨by omega,ab⟩];decide)
 have bH:=(ajF (p:=λu=>(iN N aa).1.getD u (0,0)≠(0,0)) (l az) an).2 am;have Ff:v<(iN N aa).1.length:=by rw[show(iN N aa).1.length=N from J.len];exact ah
 obtain⟨cP,a2,a3⟩:=J.fit az _ (EK (d:=(0,0)) Ff);refine⟨?_,cP,a2⟩;rcases a3 with a3|a3;exact absurd a3 bH;exact a3
theorem atG(m:Nat):(rO (#[R 0,R 0]:Array ao) (m*2)).toList=((bG m ((0:Nat),(0:Nat))).map kN).flatten:=by
 rw[R3 (s:=2) rfl m,un];rfl
theorem axB(N:Nat)(home:List Nat):lE N home 0=bG N (0,0):=by
 unfold lE;apply vH;simp;intro i h1 ab;simp
theorem axA{home:List Nat}(hk:k<N):lE N home (k+1)=if home.getD k 0=k then(lE N home k).set k (1,1)else lE N home k:=by
 have e:∀k v,v<N->(lE N home k)[v]?=some (if v<k/\home.getD v 0=v then(1,1)else(0,0)):=λk v ah=>by
  rw[lE,dV,J0 ah];rfl
 have ne:∀k v,¬v<N->(lE N home k)[v]?=none:=λk v ah=>qs (by rw[Bm];omega);apply ahb;intro v;by_cases ah:v<N;by_cases fD:v=k;subst fD;rw[e _ _ ah];by_cases aP:home.getD v 0=v;rw[aX aP,aX ⟨by omega,aP⟩,zT,aX rfl,aX (by rw[Bm];exact hk)];rw[aE aP,aE (λh=>aP h.2),e _ _ ah,aE (λh=>aP h.2)];have ag:(v<k+1/\home.getD v 0=v)↔(v<k/\home.getD v 0=v):=⟨λh=>⟨by omega,h.2⟩,λh=>⟨by omega,h.2⟩⟩;rw[e _ _ ah];simp only[ag];split;rename_i h1;split;rw[zT,aE (d9 fD),e _ _ ah,aX h1];rw[e _ _ ah,aX h1];rename_i h1;split;rw[zT,aE (d9 fD),e _ _ ah,aE h1];rw[e _ _ ah,aE h1];rw[ne _ _ ah];split;rw[qs (by rw[k2,Bm];omega)];rw[ne _ _ ah]
def Ve(h:I)(N:Nat)(s:oD)(v:ao)(U:I):Prop:=h.le U/\∃g,v= .tuple #[.slice (some ⟨g,0,none⟩) N N,.bool s.2]/\U g=some (.cells (s.1.map kN).flatten.toArray 167 (0,0))
theorem axP(N n cx c:Nat)(A T:Option ar)(H:ar)(aa:List bo)(h:I)(av:bg h 5 A n (aa.map bo.cells))(aj:e' N aa=0)(oY:bg h 1 T (ep N aa).length ((ep N aa).map λz:Nat=>[R (z:Int)]))(x2:bg h 1 (some H) N ((g9 N aa).map λz:Nat=>[R (z:Int)])):Fn aH 47 #[my N A n cx,.agg #[.slice T (ep N aa).length c,.slice (some H) N N]] h λv U=>Ve h N (iN N aa) v U:=by
 have al:aa.length=n:=by simpa using av.len
 obtain⟨HF,uW,wo,dk⟩:=lO aj;have Db:(g9 N aa).length=N:=by simp[g9]
 have pq:(ep N aa).length<=aa.length:=KW N aa aa.length;refine b5 asg rfl ?_;refine .mk N rfl rfl (by omega) (by omega) λez=>?_;refine .mk Nat [2,3,6,19,20,21] (λk=>[.p 0 0,.p 1 0,.p 3 0,.v (.slice (some H) N N),.v (R N),.v (R k)]) (λk=>[.own [.v (R N),.v (.slice A n cx)] 33,.own [.v (.slice T (ep N aa).length c),.v (.slice (some H) N N)] 159,.row 167 2 (some ez) N N ((lE N (g9 N aa) k).map kN).flatten,.own [.v (.slice (some ez) N N)] 162]) (λk U=>U=h/\k<=N) (λk=>N-k) 0 (λ_=>rfl) ⟨rfl,cO _⟩ rfl (by rw[axB,<-atG];rfl) ?_;rintro k e h1 ⟨rfl,hk⟩;refine aW (λaM=>?_) (λaM=>?_);have br:k<N:=by omega
 have xe:h1.cell? (H.add (k*1))=some (R ((g9 N aa).getD k 0:Nat)):=by
  have hh:k<(g9 N aa).length:=by omega
  rw[cN,bZ hh];exact x2.one rfl (i:=k) (iM hh) rfl
 have oI:=axA (home:=g9 N aa) br;refine .mk H rfl (by omega) (by omega) ?_;refine .hp _ (by rw[bq];exact xe) ?_;refine aW (λaD=>?_) (λaD=>?_);rw[aX (by omega)]at oI;refine .mk ez rfl (by omega) (by omega) ?_;refine .row 2 167 2 ez N N _ ((lE N (g9 N aa) (k+1)).map kN).flatten (k*2) rfl (by rw[bq]) (by rw[oI];exact Yd _ k (1,1) (by rw[Bm];exact br)) ?_;refine .ok (by omega) (by omega) ?_;exact⟨k+1,rfl,rfl,⟨rfl,br⟩,by show N- (k+1)<N-k;omega⟩;rw[aE (by omega)]at oI;refine .ok (by omega) (by omega) ?_;exact⟨k+1,rfl,by simp only[oI];rfl,⟨rfl,br⟩,by show N- (k+1)<N-k;omega⟩;have yW:N=k:=by omega
 subst yW;refine .mk λlL amw=>?_;refine .mk λkp YX=>?_;have L2:=I.du (J:=.cells #[.slice (some ez) N N] 162 (0,0)) amw;have xI:=I.du (J:=.cells #[.bool true] 4 (0,0)) YX;have Nz:h1 kp=none:=I.none_le L2 YX;have A1:=I.le_trans L2 xI;have fv:=xI _ _ (I.bP h1 lL (.cells #[.slice (some ez) N N] 162 (0,0)));have dU:=I.bP (h1.put lL (.cells #[.slice (some ez) N N] 162 (0,0))) kp (.cells #[.bool true] 4 (0,0));refine .lj (.bV 2 167 2 (some ez) N N _ rfl λab cn nP sk=>.done ?_);have w1:=cn _ _ fv;have uu:=cn _ _ dU;have Uc:=I.none_le A1 (sk _ rfl);have eA:=I.le_trans A1 cn;obtain⟨_,nP|⟨h5,a8,nh,jK,_,_,fg,nj⟩⟩:=nP;cases nP.1;injection nh with nh;subst nh;have Sq:a8=((lE N (g9 N aa) N).map kN).flatten.toArray:=by
  rw[k4 (by simp[fg])]at nj;rw[<-ov (xs:=a8),nj]
 have D5:vS N lL h5 kp h1 ab (lE N (g9 N aa) N) true:=⟨w1,by rw[jK,Sq],uu,Bm _ _ _,eA,Uc,Nz⟩;have ahS:=aeF N (g9 N aa) N;have aY:nR (lE N (g9 N aa) N,true)<N+1:=by
  have:=ag8 (a:=((0:Nat),(0:Nat))) (l:=lE N (g9 N aa) N);rw[Bm]at this;unfold nR;simp only;omega
 clear w1 uu fv dU L2 xI A1 sk cn eA;refine .mk (Nat×oD×Bool) [2,3,6,9,10,11] (λ(_,_,m)=>[.p 0 0,.p 1 0,.p 3 0,.p 4 0,.v (.func (.func 108) #[] #[.pointer (some ⟨lL,0,none⟩),.pointer (some ⟨kp,0,none⟩)]),.v (.bool m)]) (λ_=>[.own [.v (R N),.v (.slice A n cx)] 33,.own [.v (.slice T (ep N aa).length c),.v (.slice (some H) N N)] 159,.gone,.bV lL,.bV kp]) (λ(f,s,m) U=>vS N lL h5 kp h1 U s.1 s.2/\ys N s/\((m=true/\s.2=true/\nR s<f/\x0 aa (ep N aa) f s=iN N aa)\/((m=false\/s.2=false)/\s=iN N aa))) (λ(f,_,m)=>if m=true then f+1 else 0) (N+1,(lE N (g9 N aa) N,true),true) (λ_=>rfl) ⟨D5,ahS,.inl ⟨rfl,rfl,aY,rfl⟩⟩ rfl rfl ?_;rintro⟨f,s,m⟩ ck an ⟨p,J,hm⟩;rcases hm with⟨rfl,iK,aBw,va⟩|⟨anH,va⟩;have bm:=p.bm;rw[iK]at bm;refine .hp _ (bN bm rfl) ?_;obtain⟨f,rfl⟩:∃g,f=g+1:=⟨f-1,by omega⟩;have cG:=S8 (ep N aa) J dk;refine .mk Nat [2,3,6,9,10,11,40,41,42] (λk=>[.p 0 0,.p 1 0,.p 3 0,.p 4 0,.v (.func (.func 108) #[] #[.pointer (some ⟨lL,0,none⟩),.pointer (some ⟨kp,0,none⟩)]),.v (.bool (l6 aa (ep N aa) s k).2),.v (.slice T (ep N aa).length c),.v (R (ep N aa).length),.v (R k)]) (λ_=>[.own [.v (R N),.v (.slice A n cx)] 33,.own [.v (.slice T (ep N aa).length c),.v (.slice (some H) N N)] 159,.gone,.bV lL,.bV kp]) (λk U=>vS N lL h5 kp h1 U (l6 aa (ep N aa) s k).1.1 (l6 aa (ep N aa) s k).1.2/\k<=(ep N aa).length) (λk=>(ep N aa).length-k) 0 (λ_=>rfl) ⟨p,cO _⟩ rfl rfl ?_;rintro k eE aR ⟨zp,aBa⟩;refine aW (λbT=>?_) (λbT=>?_);have br:k<(ep N aa).length:=by omega
 have ad:=TS N aa aa.length _ (cS br);have C3:(ep N aa)[k]?=some (ep N aa)[k]:=bZ br;obtain⟨g,ak⟩:=oY.cc (by omega);obtain⟨ez,rD⟩:=av.cc (by omega);have kd:=(oY.mono zp.le).one ak (iM br) rfl;generalize(ep N aa)[k]=x at ad C3 kd;have nO:=(av.mono zp.le).row rD (iM ad);have tK:=vl (dk aa[x] (cS ad));have CC:aa[x]?=some aa[x]:=bZ ad;have hq:l6 aa (ep N aa) s (k+1)=w8 (l6 aa (ep N aa) s k).1 (l6 aa (ep N aa) s k).2 aa[x]:=by rw[l6,C3];simp only[CC]
 have hO:=(cG k).1.ok;generalize aa[x]=a at nO tK CC hq;obtain⟨fq,s1,d0,d1,g0,g1,t0,t1,_⟩:=tK;obtain⟨YD,_,_⟩:=TB hO (u:=a.src.toNat) (v:=a.dst.toNat) (x:=a.fR.toNat) (y:=a.take.toNat) (by omega) (by omega) (by omega);have st1:=ae1 N lL h5 kp a.src.toNat a.dst.toNat a.fR.toNat a.take.toNat h1 aR _ _ zp (by omega) (by omega) (by omega) (by omega) (by omega) hO.B2;have st2:=λcg(s6:oD)(vq:vS N lL h5 kp h1 cg s6.1 s6.2)(jy:∀q∈s6.1,yb q)=>ae1 N lL h5 kp a.dst.toNat a.src.toNat a.take.toNat a.fR.toNat h1 cg s6.1 s6.2 vq (by omega) (by omega) (by omega) (by omega) (by omega) jy;rw[q' fq,q' d0,q' (show 0<=a.fR by omega),q' (show 0<=a.take by omega)]at st1;simp only[q' fq,q' d0,q' (show 0<=a.fR by omega),q' (show 0<=a.take by omega)]at st2;unfold w8 at hq;generalize Fc:(l6 aa (ep N aa) s k).2=m0 at hq;have st1:Fn aH 108 #[R a.src,R a.dst,R a.fR,R a.take,.pointer (some ⟨lL,0,none⟩),.pointer (some ⟨kp,0,none⟩)] aR λr U=>r= .bool (kZ (l6 aa (ep N aa) s k).1 a.src.toNat a.dst.toNat a.fR.toNat a.take.toNat).1/\vS N lL h5 kp h1 U (kZ (l6 aa (ep N aa) s k).1 a.src.toNat a.dst.toNat a.fR.toNat a.take.toNat).2.1 (kZ (l6 aa (ep N aa) s k).1 a.src.toNat a.dst.toNat a.fR.toNat a.take.toNat).2.2:=st1;generalize kZ (l6 aa (ep N aa) s k).1 a.src.toNat a.dst.toNat a.fR.toNat a.take.toNat=w at YD st1 hq;obtain⟨fX,w⟩:=w;refine .mk g ak (by omega) (by omega) ?_;refine .hp (R x) (by rw[bq];exact kd) ?_;refine .mk ez rD (by omega) (by omega) ?_;refine .hp a.cells rfl (by rw[bq];exact nO) ?_;refine .done (.mk _ st1 ?_);rintro _ cg ⟨rfl,vq⟩;cases fX;have st2:Fn aH 108 #[R a.dst,R a.src,R a.take,R a.fR,.pointer (some ⟨lL,0,none⟩),.pointer (some ⟨kp,0,none⟩)] cg λr U=>r= .bool (kZ w a.dst.toNat a.src.toNat a.take.toNat a.fR.toNat).1/\vS N lL h5 kp h1 U (kZ w a.dst.toNat a.src.toNat a.take.toNat a.fR.toNat).2.1 (kZ w a.dst.toNat a.src.toNat a.take.toNat a.fR.toNat).2.2:=st2 cg w vq YD.B2;simp only[Bool.false_eq_true,k']at hq;generalize kZ w a.dst.toNat a.src.toNat a.take.toNat a.fR.toNat=z at st2 hq;obtain⟨Ud,z⟩:=z;refine .done (.mk _ st2 ?_);rintro _ fa ⟨rfl,I6⟩;cases Ud;refine .ok (by omega) (by omega) ?_;refine⟨k+1,?_,rfl,⟨by rw[hq];exact I6,br⟩,by show(ep N aa).length- (k+1)<(ep N aa).length-k;omega⟩;rw[hq,<-Fc];rfl;refine .ok (by omega) (by omega) ?_;refine⟨k+1,?_,rfl,⟨by rw[hq];exact I6,br⟩,by show(ep N aa).length- (k+1)<(ep N aa).length-k;omega⟩;rw[hq];rfl;simp only[la]at hq;refine .ok (by omega) (by omega) ?_;refine⟨k+1,?_,rfl,⟨by rw[hq];exact vq,br⟩,by show(ep N aa).length- (k+1)<(ep N aa).length-k;omega⟩;rw[hq];rfl;have oN:k=(ep N aa).length:=by omega
 have hO:=(cG k).1;have am:l6 aa (ep N aa) s k=qh aa (ep N aa) s:=by rw[oN];rfl
 rw[am]at hO zp;rw[x0]at va;by_cases aw:(qh aa (ep N aa) s).2=true/\(qh aa (ep N aa) s).1.2=true;rw[aX aw]at va;have:=(hO.f aw.2).2.2.1 aw.1;exact⟨(f,(qh aa (ep N aa) s).1,(qh aa (ep N aa) s).2),by rw[am];rfl,rfl,⟨zp,hO.ok,.inl ⟨aw.1,aw.2,by omega,va⟩⟩,by simp only[aw.1,la];omega⟩;rw[aE aw]at va;refine⟨(0,(qh aa (ep N aa) s).1,(qh aa (ep N aa) s).2),by rw[am];rfl,rfl,⟨zp,hO.ok,.inr ⟨?_,va⟩⟩,?_⟩;cases h1:(qh aa (ep N aa) s).2 with
 |false=>exact .inl rfl
 |true=>
  cases ab:(qh aa (ep N aa) s).1.2 with
  |false=>exact .inr rfl
  |true=>exact absurd ⟨h1,ab⟩ aw
 simp only[la];split<;>omega;have fin:Ve h1 N (iN N aa) (.tuple #[.slice (some ⟨h5,0,none⟩) N N,.bool s.2]) an:=⟨p.le,h5,by rw[va],by rw[<-va];exact p.SY⟩;cases m;refine .hp _ (bN p.c5 rfl) ?_;refine .hp _ (bN p.bm rfl) ?_;exact .done fin;have iK:s.2=false:=by
  rcases anH with h|h;cases h;exact h
 have bm:=p.bm;rw[iK]at bm;refine .hp _ (bN bm rfl) ?_;refine .hp _ (bN p.c5 rfl) ?_;refine .hp _ (bN p.bm rfl) ?_;exact .done fin
def zi(home:List Nat)(s:List (Nat×Nat))(hm:Nat):Nat->Option Nat
 |0=>some 1
 |v+1=>match zi home s hm v with
  |none=>none
  |some k=>if home.getD v 0=hm then(if 4096<vh k (s.getD v (0,0)).2 then none else some (vh k (s.getD v (0,0)).2))else some k
def t'(home:List Nat)(s:List (Nat×Nat))(hm k:Nat)(r:List Nat):Nat->Option (List Nat)
 |0=>some r
 |v+1=>match t' home s hm k r v with
  |none=>none
  |some r=>if home.getD v 0=hm then(if 4096<k/(s.getD v (0,0)).2*(s.getD v (0,0)).1 then none else some (r.set v (k/(s.getD v (0,0)).2*(s.getD v (0,0)).1)))else some r
def Bj(N:Nat)(home:List Nat)(s:List (Nat×Nat))(hm:Nat)(r:List Nat):Option (List Nat):=match zi home s hm N with
 |none=>none
 |some k=>t' home s hm k r N
theorem abo{home:List Nat}{s:List (Nat×Nat)}{hm:Nat}:∀d v,zi home s hm v=none->zi home s hm (v+d)=none
 |0,v,h=>h
 |d+1,v,h=>by
  have:=abo d v h;show zi home s hm (v+d+1)=none;rw[zi,this]
theorem adZ{home:List Nat}{s:List (Nat×Nat)}{hm k:Nat}{r:List Nat}:∀d v,t' home s hm k r v=none->t' home s hm k r (v+d)=none
 |0,v,h=>h
 |d+1,v,h=>by
  have:=adZ d v h;show t' home s hm k r (v+d+1)=none;rw[t',this]
structure uv(N eJ:Nat)(ai h:I)(r:List Nat):Prop where
 n0:h eJ=some (.cells (r.map λz:Nat=>R (z:Int)).toArray 3 (0,0))
 len:r.length=N
 le:ai.le h
 z:ai eJ=none
theorem uv.up{eJ:Nat}{U:I}{r:List Nat}(p:uv N eJ ai h r)(le:h.le U):uv N eJ ai U r:=⟨le _ _ p.n0,p.len,I.le_trans p.le le,p.z⟩
theorem axq(N eJ hm c cB:Nat)(T:Option ar)(S H:ar)(home:List Nat)(s:List (Nat×Nat))(ai h:I)(r:List Nat)(p:uv N eJ ai h r)(db:N<=32)(wJ:uw ai)(x2:bg ai 1 (some H) N (home.map λz:Nat=>[R (z:Int)]))(Jt:bg ai 2 (some S) N (s.map kN))(aj:∀v,v<N->0<(s.getD v (0,0)).2/\(s.getD v (0,0)).1<=4096/\(s.getD v (0,0)).2<=4096):
 Fn aH 48 #[.agg #[.slice T cB c,.slice (some H) N N],.slice (some S) N N,R hm,.slice (some ⟨eJ,0,none⟩) N N] h λv U=>match Bj N home s hm r with
  |some cT=>v= .bool true/\uv N eJ ai U cT
  |none=>v= .bool false/\∃cT,uv N eJ ai U cT:=by
 refine b5 ash rfl ?_
 have Db:home.length=N:=by simpa using x2.len
 have L2:s.length=N:=by simpa using Jt.len
 have xe:∀{h1:I}{v:Nat},ai.le h1->v<N->h1.cell? (H.add (v*1))=some (R (home.getD v 0:Nat)):=λ{h1 v} le ah=>by
  have hh:v<home.length:=by omega
  rw[cN,bZ hh];exact(x2.mono le).one rfl (i:=v) (iM hh) rfl
 have V':∀{h1:I}{v:Nat},ai.le h1->v<N->h1.cell? ((S.add (v*2)).add 0)=some (R ((s.getD v (0,0)).1:Nat))/\h1.cell? ((S.add (v*2)).add 1)=some (R ((s.getD v (0,0)).2:Nat)):=λ{h1 v} le ah=>by
  have hh:v<s.length:=by omega
  rw[cN,bZ hh];have:=(Jt.mono le).row rfl (i:=v) (iM hh);exact⟨this 0 _ rfl,this 1 _ rfl⟩
 refine .mk (Nat×Nat) [1,2,3,4,9,17,18,19] (λ(v,k)=>[.v (.slice (some S) N N),.v (R hm),.v (.slice (some ⟨eJ,0,none⟩) N N),.p 0 0,.v (R k),.v (.slice (some H) N N),.v (R N),.v (R v)]) (λ_=>[.own [.v (.slice T cB c),.v (.slice (some H) N N)] 159]) (λ(v,k) U=>uv N eJ ai U r/\v<=N/\k<=4096/\zi home s hm v=some k) (λ(v,_)=>N-v) (0,1) (λ_=>rfl) ⟨p,cO _,by decide,rfl⟩ rfl rfl ?_
 rintro⟨v,k⟩ e h1 ⟨p,aoe,hk,aF⟩
 refine aW (λq=>?_) (λq=>?_)
 have ah:v<N:=by omega
 have uQ:zi home s hm (v+1)=if home.getD v 0=hm then(if 4096<vh k (s.getD v (0,0)).2 then none else some (vh k (s.getD v (0,0)).2))else some k:=by rw[zi,aF]
 obtain⟨qQ,iK,xA⟩:=aj v ah
 obtain⟨c1,c2⟩:=V' p.le ah
 refine .mk H rfl (by omega) (by omega) ?_
 refine .hp _ (by rw[bq];exact xe p.le ah) ?_
 refine aW (λaD=>?_) (λaD=>?_)
 rw[aE (by omega)]at uQ
 refine .ok (by omega) (by omega) ?_
 exact⟨(v+1,k),rfl,rfl,⟨p,ah,hk,uQ⟩,by show N- (v+1)<N-v;omega⟩
 rw[aX (by omega)]at uQ
 generalize s.getD v (0,0)=f at uQ qQ iK xA c1 c2
 obtain⟨f1,f2⟩:=f
 have Zx:=as' hk xA
 have abi:=λB ab=>as9 k f2 B ab hk xA
 simp only at uQ Zx
 generalize vh k f2=l at uQ Zx abi
 refine .mk S rfl (by omega) (by omega) ?_
 refine .hp (R f2) (by rw[bq];exact c2) ?_
 refine .mk λB bW=>?_
 refine .done (.mk _ (abi B _ (wJ.mono (I.le_trans p.le (I.du bW))) (I.bP _ _ _)) ?_)
 rintro _ _ ⟨rfl,rfl⟩
 have hR:=p.up (I.du (J:=.cells #[R k,R f2] 3 (0,0)) bW)
 refine aW (λbj=>?_) (λbj=>?_)
 rw[aX (by omega)]at uQ
 have tz:Bj N home s hm r=none:=by
  have:=abo (N- (v+1)) _ uQ;rw[show v+1+(N- (v+1))=N by omega]at this;rw[Bj,this]
 refine .done ?_
 rw[tz]
 exact⟨rfl,r,hR⟩
 rw[aE (by omega)]at uQ
 refine .ok (by omega) (by omega) ?_
 exact⟨(v+1,l),rfl,rfl,⟨hR,ah,by omega,uQ⟩,by show N- (v+1)<N-v;omega⟩
 have Q2:v=N:=by omega
 subst Q2
 have oI:Bj v home s hm r=t' home s hm k r v:=by rw[Bj,aF]
 refine .mk (Nat×List Nat) [1,2,3,9,47,48,49] (λ(w,_)=>[.v (.slice (some S) v v),.v (R hm),.v (.slice (some ⟨eJ,0,none⟩) v v),.v (R k),.v (.slice (some H) v v),.v (R v),.v (R w)]) (λ_=>[]) (λ(w,cT) U=>uv v eJ ai U cT/\w<=v/\t' home s hm k r w=some cT) (λ(w,_)=>v-w) (0,r) (λ_=>rfl) ⟨p,cO _,rfl⟩ rfl rfl ?_
 rintro⟨w,cT⟩ aI ab ⟨p,aBt,cG⟩
 refine aW (λaD=>?_) (λaD=>?_)
 have ah:w<v:=by omega
 have rr:t' home s hm k r (w+1)=if home.getD w 0=hm then(if 4096<k/(s.getD w (0,0)).2*(s.getD w (0,0)).1 then none else some (cT.set w (k/(s.getD w (0,0)).2*(s.getD w (0,0)).1)))else some cT:=by rw[t',cG]
 obtain⟨qQ,iK,xA⟩:=aj w ah
 obtain⟨c1,c2⟩:=V' p.le ah
 refine .mk H rfl (by omega) (by omega) ?_
 refine .hp _ (by rw[bq];exact xe p.le ah) ?_
 refine aW (λbj=>?_) (λbj=>?_)
 rw[aX (by omega)]at rr
 generalize s.getD w (0,0)=f at rr qQ iK xA c1 c2
 obtain⟨f1,f2⟩:=f
 simp only at qQ iK xA c1 c2 rr
 have aB:k/f2<=4096:=Nat.le_trans (Nat.div_le_self _ _) hk
 have rF:k/f2*f1<=4096*4096:=ns aB iK
 have E0:(k:Int).tdiv f2=((k/f2:Nat):Int):=by rw[Int.tdiv_eq_ediv_of_nonneg (by omega)];simp
 generalize k/f2=d at aB rF E0 rr
 have u2:(d:Int)*f1=((d*f1:Nat):Int):=by simp
 generalize d*f1=x at rF u2 rr
 refine .mk S rfl (by omega) (by omega) ?_
 refine .hp (R f2) (by rw[bq];exact c2) ?_
 refine .mk (by omega) ?_
 rw[E0]
 refine .ok (by omega) (by omega) ?_
 refine .mk S rfl (by omega) (by omega) ?_
 refine .hp (R f1) (by rw[bq];exact c1) ?_
 conv=>whnf
 rw[u2]
 refine .ok (by omega) (by omega) ?_
 refine .mk _ rfl (by omega) (by omega) ?_
 have auQ:over (cT.map λz:Nat=>R (z:Int)) w [R x]=some ((cT.set w x).map λz:Nat=>R (z:Int)):=by rw[ib _ _ _ (by simp[p.len];exact ah),nb]
 refine .hp eJ w 3 _ _ (by rw[add_lit,dJ,bq,ew]) p.n0 auQ ?_
 have kW:uv v eJ ai (ab.put eJ (.cells ((cT.set w x).map λz:Nat=>R (z:Int)).toArray 3 (0,0))) (cT.set w x):=⟨I.bP _ _ _,by simp[p.len],kT p.z p.le,p.z⟩
 have ai9:(ab.put eJ (.cells ((cT.set w x).map λz:Nat=>R (z:Int)).toArray 3 (0,0))).cell? ((ou eJ 0 none).add (w*1))=some (R x):=by
  rw[add_lit,dJ,ew];exact bN kW.n0 (by rw[dV,zT,aX rfl,aX (by rw[p.len];exact ah)];rfl)
 refine .mk _ rfl (by omega) (by omega) ?_
 refine .hp (R x) (by rw[bq];exact ai9) ?_
 refine aW (λbT=>?_) (λbT=>?_)
 rw[aX (by omega)]at rr
 have tz:t' home s hm k r v=none:=by
  have:=adZ (v- (w+1)) _ rr;rw[show w+1+(v- (w+1))=v by omega]at this;exact this
 refine .done ?_
 rw[oI,tz]
 exact⟨rfl,_,kW⟩
 rw[aE (by omega)]at rr
 refine .ok (by omega) (by omega) ?_
 exact⟨(w+1,_),rfl,rfl,⟨kW,ah,rr⟩,by show v- (w+1)<v-w;omega⟩
 rw[aE (by omega)]at rr
 refine .ok (by omega) (by omega) ?_
 exact⟨(w+1,cT),rfl,rfl,⟨p,ah,rr⟩,by show v- (w+1)<v-w;omega⟩
 have aoi:w=v:=by omega
 subst aoi
 refine .done ?_
 rw[oI,cG]
 exact⟨rfl,p⟩
def oX(N:Nat)(aa:List bo):Nat->Option (List Nat)
 |0=>if(iN N aa).2=true then some (bG N 0)else none
 |v+1=>match oX N aa v with
  |none=>none
  |some r=>if(g9 N aa).getD v 0=v then Bj N (g9 N aa) (iN N aa).1 v r else some r
def Cb(s:List (Nat×Nat))(a:bo):Bool:=(lk (s.getD a.src.toNat (0,0)) a.fR.toNat a.take.toNat).2&&decide ((lk (s.getD a.src.toNat (0,0)) a.fR.toNat a.take.toNat).1=s.getD a.dst.toNat (0,0))
def vu(N:Nat)(aa:List bo):Option (List Nat):=if e' N aa=0 then(match oX N aa N with
 |none=>none
 |some r=>if(aa.all (Cb (iN N aa).1))=true then some r else none)else none
def ah9(h:I)(N:Nat)(aa:List bo)(v:ao)(U:I):Prop:=h.le U/\match vu N aa with
 |some r=>r.length=N/\∃ax,v= .tuple #[.agg #[.int .u8 1,.slice (some ax) N N,.slice none 0 0],R 0]/\bg U 1 (some ax) N (r.map λz:Nat=>[R (z:Int)])
 |none=>∃(k e:Int)(dO:Option ar)(ad5 rc:Nat)(Uo:Option ar)(kM hQ:Nat),v= .tuple #[.agg #[.int .u8 k,.slice dO ad5 rc,.slice Uo kM hQ],R e]/\¬(k=1/\e=0)
theorem alp{s:List (Nat×Nat)}(ak:h g=some (.cells (s.map kN).flatten.toArray 167 (0,0)))(al:s.length=N):bg h 2 (some ⟨g,0,none⟩) N (s.map kN):=by
 refine⟨by simpa using al,PQ s,λ_=>⟨_,rfl⟩,λb7 dT i r am o v ah=>?_⟩;injection dT with dT;subst dT;rw[add_lit,dJ];exact bN ak (Ci (size:=2) (s.map kN) (PQ s) i o r v am ah)
theorem acG{s:List Nat}(ak:h g=some (.cells (s.map λz:Nat=>R (z:Int)).toArray 3 (0,0)))(al:s.length=N):bg h 1 (some ⟨g,0,none⟩) N (s.map λz:Nat=>[R (z:Int)]):=by
 refine⟨by simpa using al,λr am=>by obtain⟨p,_,rfl⟩:=dn.1 am;rfl,λ_=>⟨_,rfl⟩,λb7 dT i r am o v ah=>?_⟩;injection dT with dT;subst dT;rw[add_lit,dJ];rw[dV,D3]at am;obtain⟨z,aY,rfl⟩:=am;have ae:o=0:=by
  have:=(qt.1 ah).1;simp at this;omega
 subst ae;injection ah with ah;subst ah;exact bN ak (by rw[dV,ew,wX,aY];rfl)
theorem axJ(N n cx:Nat)(A:Option ar)(aa:List bo)(h:I)(av:bg h 5 A n (aa.map bo.cells))(aC:n<=9223372036854775806)(wJ:uw h):Fn aH 22 #[my N A n cx] h λv U=>ah9 h N aa v U:=by
 have al:aa.length=n:=by simpa using av.len
 refine b5 arZ rfl ?_;refine .done (.mk _ (acR N n cx A aa h av aC) ?_);rintro _ h1 ⟨cr,f1,f2⟩;by_cases aj:e' N aa≠0;obtain rfl:=f1 aj;refine aW (λq=>?_) (λq=>absurd aj q);exact .done ⟨cr,by rw[vu,aE aj];exact⟨0,e' N aa,_,_,_,_,_,_,rfl,λh=>absurd h.1 (by decide)⟩⟩;have aj:=jw.1 aj;obtain⟨T,c,H,rfl,oY,x2⟩:=f2 aj;obtain⟨HF,uW,wo,dk⟩:=lO aj;have Db:(g9 N aa).length=N:=by simp[g9]
 obtain⟨hO,al9⟩:=axQ dk;refine .done (.mk _ (axP N n cx c A T H aa h1 (av.mono cr) aj oY x2) ?_);rintro _ ab ⟨cn,h5,rfl,am'⟩;have Jt:=alp am' hO.len;refine .one N (R 0) rfl rfl rfl rfl (by omega) (by omega) λez=>?_;refine .lj (.bV 3 3 1 (some ez) N N _ rfl λan dZ nP sk=>.done ?_);obtain⟨_,nP|⟨eJ,a8,nh,jK,_,_,fg,nj⟩⟩:=nP;cases nP.1;injection nh with nh;subst nh;have aAb:=sk _ rfl;have Sq:a8=((bG N 0).map λz:Nat=>R (z:Int)).toArray:=by
  rw[k4 (by simp[fg])]at nj;rw[<-ov (xs:=a8),nj,un];rfl
 have D5:uv N eJ ab an (bG N 0):=⟨by rw[jK,Sq],by simp,dZ,aAb⟩;have azn:=wJ.mono (I.le_trans cr cn);refine .mk Nat [1,2,4,6,7,8,36,37,38] (λv=>[.p 0 0,.p 1 0,.p 2 0,.v (.slice (some ⟨h5,0,none⟩) N N),.v (.bool (oX N aa v).isSome),.v (.slice (some ⟨eJ,0,none⟩) N N),.v (.slice (some H) N N),.v (R N),.v (R v)]) (λ_=>[.own [.v (R N),.v (.slice A n cx)] 33,.own [.v (.int .u8 0),.v (.slice none 0 0),.v (.slice none 0 0)] 80,.own [.v (.slice T (ep N aa).length c),.v (.slice (some H) N N)] 159]) (λv U=>v<=N/\match oX N aa v with|some r=>uv N eJ ab U r|none=>∃r,uv N eJ ab U r) (λv=>N-v) 0 (λ_=>rfl) ⟨cO _,?_⟩ ?_ rfl ?_;unfold oX;split;rename_i r am;split at am;injection am with am;subst am;exact D5;cases am;exact⟨_,D5⟩;have:(oX N aa 0).isSome=(iN N aa).2:=by
  unfold oX;cases(iN N aa).2<;>rfl
 rw[this];rfl;rintro v e aR ⟨ah,cG⟩;have cW:ab.le aR:=by
  split at cG;exact cG.le;obtain⟨r,cG⟩:=cG;exact cG.le
 refine aW (λq=>?_) (λq=>?_);have jZ:v<N:=by omega
 have xe:aR.cell? (H.add (v*1))=some (R ((g9 N aa).getD v 0:Nat)):=by
  have hh:v<(g9 N aa).length:=by omega
  rw[cN,bZ hh];exact(x2.mono (I.le_trans cn cW)).one rfl (i:=v) (iM hh) rfl
 have hq:oX N aa (v+1)=match oX N aa v with
  |none=>none
  |some r=>if(g9 N aa).getD v 0=v then Bj N (g9 N aa) (iN N aa).1 v r else some r:=rfl
 generalize(g9 N aa).getD v 0=w at xe hq;refine .mk H rfl (by omega) (by omega) ?_;refine .hp _ (by rw[bq];exact xe) ?_;cases hk:oX N aa v with
 |none=>
  rw[hk]at cG hq;refine .ok (by omega) (by omega) ?_;exact⟨v+1,by rw[hq];rfl,rfl,⟨jZ,by rw[hq];exact cG⟩,by show N- (v+1)<N-v;omega⟩
 |some r=>
  rw[hk]at cG hq;simp only at hq cG;refine aW (λaD=>?_) (λaD=>?_);have mq:v=w:=by omega
  subst mq;rw[aX rfl]at hq;have az:(iN N aa).2=true:=by
   have key:∀v r,oX N aa v=some r->(iN N aa).2=true:=by
    intro v;induction v with
    |zero=>
     intro r h;unfold oX at h;split at h;assumption;cases h
    |succ v bE=>
     intro r h;unfold oX at h;split at h;cases h;rename_i cT sB;exact bE cT sB
   exact key v r hk
  have axg:=axq N eJ v c (ep N aa).length T ⟨h5,0,none⟩ H (g9 N aa) (iN N aa).1 ab aR r cG (by omega) azn (x2.mono cn) Jt (al9 az);refine .done (.mk _ axg ?_);rintro Tm cg aP;rw[<-hq]at aP;cases i9:oX N aa (v+1)with
  |none=>
   rw[i9]at aP;obtain⟨rfl,aP⟩:=aP;refine .ok (by omega) (by omega) ?_;exact⟨v+1,by rw[i9];rfl,rfl,⟨jZ,by rw[i9];exact aP⟩,by show N- (v+1)<N-v;omega⟩
  |some dU=>
   rw[i9]at aP;obtain⟨rfl,aP⟩:=aP;refine .ok (by omega) (by omega) ?_;exact⟨v+1,by rw[i9];rfl,rfl,⟨jZ,by rw[i9];exact aP⟩,by show N- (v+1)<N-v;omega⟩
  rw[aE (by omega)]at hq;refine .ok (by omega) (by omega) ?_;exact⟨v+1,by rw[hq];rfl,rfl,⟨jZ,by rw[hq];exact cG⟩,by show N- (v+1)<N-v;omega⟩
 have Q2:N=v:=by omega
 subst Q2;have eR:vu N aa=match oX N aa N with
  |none=>none
  |some r=>if(aa.all (Cb (iN N aa).1))=true then some r else none:=by rw[vu,aX aj]
 have IC:h.le aR:=I.le_trans cr (I.le_trans cn cW);cases hk:oX N aa N with
 |none=>
  rw[hk]at eR;exact .done ⟨IC,by rw[eR];exact⟨3,0,_,_,_,_,_,_,rfl,λh=>absurd h.1 (by decide)⟩⟩
 |some r=>
  rw[hk]at eR cG;simp only at eR cG;refine .mk Nat [1,2,6,8,59,60,61] (λi=>[.p 0 0,.p 1 0,.v (.slice (some ⟨h5,0,none⟩) N N),.v (.slice (some ⟨eJ,0,none⟩) N N),.v (.slice A n cx),.v (R n),.v (R i)]) (λ_=>[.own [.v (R N),.v (.slice A n cx)] 33,.own [.v (.int .u8 0),.v (.slice none 0 0),.v (.slice none 0 0)] 80]) (λi U=>aR.le U/\i<=n/\∀a∈aa.take i,Cb (iN N aa).1 a=true) (λi=>n-i) 0 (λ_=>rfl) ⟨I.le_refl _,cO _,by simp⟩ rfl rfl ?_;rintro i aI cg ⟨fW,ag,cV⟩;refine aW (λbj=>?_) (λbj=>?_)
  .have ea:i<aa.length:=by omega
   obtain⟨g,ak⟩:=av.cc (by omega);have nO:=(av.mono (I.le_trans IC fW)).row ak (iM ea);have po:=cS ea;have tK:=vl (dk aa[i] po);have iY:aa.take (i+1)=aa.take i++[aa[i]]:=kh ea;generalize aa[i]=a at nO tK iY po;obtain⟨fq,s1,d0,d1,g0,g1,t0,t1,_⟩:=tK;have DA:∀u,u<N->∀o v,(kN ((iN N aa).1.getD u (0,0)))[o]?=some v->cg.cell? (((ou h5 0 none).add (u*2)).add o)=some v:=λu hu o v ae=>by
    have hh:u<(iN N aa).1.length:=by rw[hO.len];exact hu
    rw[cN,bZ hh]at ae;exact(Jt.mono (I.le_trans cW fW)).row rfl (i:=u) (iM hh) o v ae
   have rs:=DA a.src.toNat (by omega);have rd:=DA a.dst.toNat (by omega);have B2:yb ((iN N aa).1.getD a.src.toNat (0,0)):=hO.B2 _ (EK (by rw[hO.len];omega));have wb:Cb (iN N aa).1 a=((lk ((iN N aa).1.getD a.src.toNat (0,0)) a.fR.toNat a.take.toNat).2&&decide ((lk ((iN N aa).1.getD a.src.toNat (0,0)) a.fR.toNat a.take.toNat).1=(iN N aa).1.getD a.dst.toNat (0,0))):=rfl;have p0:Cb (iN N aa).1 a=false->(aa.all (Cb (iN N aa).1))=false:=λh=>US.2 ⟨a,po,by simp[h]⟩;generalize(iN N aa).1.getD a.src.toNat (0,0)=x at rs B2 wb;generalize(iN N aa).1.getD a.dst.toNat (0,0)=y at rd wb;have t49:=afh x a.fR.toNat a.take.toNat cg B2 (by omega) (by omega) (by omega);rw[q' (show 0<=a.fR by omega),q' (show 0<=a.take by omega)]at t49;generalize lk x a.fR.toNat a.take.toNat=z at t49 wb;obtain⟨⟨hJ,z2⟩,Ud⟩:=z;obtain⟨hl,g5⟩:=y;obtain⟨h2,fk⟩:=x;have SK:=λfa(jb:h.le fa)=>avx N n cx a.dst.toNat a.src.toNat A aa fa (av.mono jb) aC (by omega) (by omega);simp only[q' fq,q' d0]at SK;refine .mk g ak (by omega) (by omega) ?_;refine .hp a.cells rfl (by rw[bq];exact nO) ?_;refine .mk _ rfl (by omega) (by omega) ?_;refine .hp (kN (h2,fk)) rfl rs ?_;refine⟨?_,?_⟩;all_goals refine .mk _ t49 (λv ab q=>q.1) ?_
   all_goals rintro _ fa ⟨hv,rfl⟩
   all_goals have gF:=I.le_trans IC (I.le_trans fW hv)
   all_goals cases Ud
   all_goals conv=>whnf
   all_goals first
    |(
     refine .done (.mk _ (SK _ gF) ?_)
     rintro _ mi ⟨mv,nc,pm,cH,qZ,kx,rfl,anU,q1⟩
     have P5:=p0 (by rw[wb];rfl)
     rw[P5]at eR
     refine aW (λdz=>?_) (λdz=>?_)
     exact .done ⟨I.le_trans gF mv,by rw[eR];exact⟨0,qZ,_,_,_,_,_,_,rfl,λh=>absurd h.1 (by decide)⟩⟩
     refine .mk λai6 amD=>?_
     refine .done (.cR 5 _ _ rfl (q1.src _) (λu hu=>by obtain⟨l,al,hu⟩:=aho.1 hu;obtain⟨p,_,rfl⟩:=dn.1 al;simp[mD]at hu;rcases hu with rfl|rfl<;>rfl) (by simp[c'];omega) (by omega) λahY t6 nH=>?_)
     exact .done ⟨I.le_trans gF mv,by rw[eR];exact⟨2,0,_,_,_,_,_,_,rfl,λh=>absurd h.1 (by decide)⟩⟩)
    |(
     refine .mk _ rfl (by omega) (by omega) ?_
     refine .hp (kN (hl,g5)) rfl (λo v ae=>I.kL hv (rd o v ae)) ?_
     refine uK (λbT=>?_) (λbT=>?_)
     refine .done (.mk _ (SK _ gF) ?_)
     rintro _ mi ⟨mv,nc,pm,cH,qZ,kx,rfl,anU,q1⟩
     have P5:=p0 (by rw[wb];simp[flip]at bT;simp;omega)
     rw[P5]at eR
     refine aW (λdz=>?_) (λdz=>?_)
     exact .done ⟨I.le_trans gF mv,by rw[eR];exact⟨0,qZ,_,_,_,_,_,_,rfl,λh=>absurd h.1 (by decide)⟩⟩
     refine .mk λai6 amD=>?_
     refine .done (.cR 5 _ _ rfl (q1.src _) (λu hu=>by obtain⟨l,al,hu⟩:=aho.1 hu;obtain⟨p,_,rfl⟩:=dn.1 al;simp[mD]at hu;rcases hu with rfl|rfl<;>rfl) (by simp[c'];omega) (by omega) λahY t6 nH=>?_)
     exact .done ⟨I.le_trans gF mv,by rw[eR];exact⟨2,0,_,_,_,_,_,_,rfl,λh=>absurd h.1 (by decide)⟩⟩
     have aJ:Cb (iN N aa).1 a=true:=by rw[wb];simp[flip]at bT;simp;omega
     refine .ok (by omega) (by omega) ?_
     refine⟨i+1,rfl,rfl,⟨I.le_trans fW hv,by omega,λey fI=>?_⟩,by show n- (i+1)<n-i;omega⟩
     rw[iY]at fI
     rcases ev.1 fI with fI|fI
     exact cV ey fI
     simp at fI;rw[fI];exact aJ)
  have yV:i=aa.length:=by omega
  rw[yV,pM]at cV;rw[aX (oA.2 cV)]at eR;exact .done ⟨I.le_trans IC fW,by rw[eR];exact⟨cG.len,⟨eJ,0,none⟩,rfl,(acG cG.n0 cG.len).mono fW⟩⟩
def Dt(q:Nat):Bool:=decide (1<=q)&&decide (q<=4096)
def Kk(r:List Nat)(a:bo):Bool:=decide (a.fR.toNat*r.getD a.src.toNat 0=a.take.toNat*r.getD a.dst.toNat 0)
def y5(aa:List bo)(r:List Nat):Bool:=r.all Dt&&aa.all (Kk r)
theorem A7{ax:Option ar}{r:List Nat}(t:bg h 1 ax m (r.map λz:Nat=>[R (z:Int)])){g:ar}(ak:ax=some g)(ag:i<m):h.cell? (g.add (i*1))=some (R (r.getD i 0:Nat)):=by
 have al:r.length=m:=by simpa using t.len
 have ea:i<r.length:=by omega
 rw[cN,bZ ea];exact t.one ak (i:=i) (iM ea) rfl
theorem anM(N n cx m c:Nat)(A ax:Option ar)(aa:List bo)(r:List Nat)(h:I)(av:bg h 5 A n (aa.map bo.cells))(aC:n<=9223372036854775806)(mE:bg h 1 ax m (r.map λz:Nat=>[R (z:Int)]))(am:∀q∈r,q<=1000000)(hm:m<=1000):Fn aH 51 #[my N A n cx,.slice ax m c] h λv U=>U=h/\v=if e' N aa≠0 then .tuple #[.bool false,R (e' N aa)]else if m≠N then .tuple #[.bool false,R 1]else .tuple #[.bool (y5 aa r),R 0]:=by
 have al:aa.length=n:=by simpa using av.len
 have y0:r.length=m:=by simpa using mE.len
 refine b5 ask rfl ?_;refine .done (.mk _ (Kq N A n cx aa h av aC) ?_);rintro _ _ ⟨rfl,aP⟩;subst aP;refine aW (λq=>?_) (λq=>?_);exact .done ⟨rfl,by rw[aX q];rfl⟩;have aj:=jw.1 q;obtain⟨HF,uW,wo,dk⟩:=lO aj;rw[aE q];refine aW (λaM=>?_) (λaM=>?_);exact .done ⟨rfl,by rw[aX (by omega)];rfl⟩;rw[aE (by omega)];have AK:m=N:=by omega
 subst AK;refine .mk Nat [1,2,21,22,23] (λi=>[.v (.slice ax m c),.p 0 0,.v (.slice ax m c),.v (R m),.v (R i)]) (λ_=>[.own [.v (R m),.v (.slice A n cx)] 33]) (λi U=>U=_/\i<=m/\∀q∈r.take i,Dt q=true) (λi=>m-i) 0 (λ_=>rfl) ⟨rfl,cO _,by simp⟩ rfl rfl ?_;rintro i e h1 ⟨rfl,ag,cV⟩;refine aW (λaD=>?_) (λaD=>?_);have ea:i<r.length:=by omega
 obtain⟨g,ak⟩:=mE.cc (by omega);have uL:=A7 mE ak (i:=i) (by omega);have wc:r.getD i 0=r[i]:=by rw[cN,bZ ea];rfl
 rw[wc]at uL;have iY:r.take (i+1)=r.take i++[r[i]]:=kh ea;have po:=cS ea;have ET:Dt r[i]=false->y5 aa r=false:=λh=>by
  rw[y5,US.2 ⟨_,po,by simp[h]⟩,Bw]
 generalize r[i]=z at uL iY ET;refine .mk g ak (by omega) (by omega) ?_;refine .hp _ (by rw[bq];exact uL) ?_;refine aW (λbj=>?_) (λbj=>?_);exact .done ⟨rfl,by rw[ET (by simp[Dt];omega)];rfl⟩;refine aW (λbT=>?_) (λbT=>?_);exact .done ⟨rfl,by rw[ET (by simp[Dt];omega)];rfl⟩;refine .ok (by omega) (by omega) ?_;refine⟨i+1,rfl,rfl,⟨rfl,by omega,λq aq=>?_⟩,by show m- (i+1)<m-i;omega⟩;rw[iY]at aq;rcases ev.1 aq with aq|aq;exact cV q aq;simp at aq;subst aq;simp[Dt];omega;have yV:i=r.length:=by omega
 rw[yV,pM]at cV;have aO:=oA.2 cV;refine .mk Nat [1,2,35,36,37] (λi=>[.v (.slice ax m c),.p 0 0,.v (.slice A n cx),.v (R n),.v (R i)]) (λ_=>[.own [.v (R m),.v (.slice A n cx)] 33]) (λi U=>U=_/\i<=n/\∀a∈aa.take i,Kk r a=true) (λi=>n-i) 0 (λ_=>rfl) ⟨rfl,cO _,by simp⟩ rfl rfl ?_;rintro i aI h1 ⟨rfl,ag,cV⟩;refine aW (λaD=>?_) (λaD=>?_);have ea:i<aa.length:=by omega
 obtain⟨g,ak⟩:=av.cc (by omega);have nO:=av.row ak (iM ea);have po:=cS ea;have tK:=vl (dk aa[i] po);have iY:aa.take (i+1)=aa.take i++[aa[i]]:=kh ea;have ET:Kk r aa[i]=false->y5 aa r=false:=λh=>by
  rw[y5,US.2 ⟨_,po,by simp[h]⟩,Bool.and_false]
 generalize aa[i]=a at nO tK iY po ET;obtain⟨fq,s1,d0,d1,g0,g1,t0,t1,_⟩:=tK;obtain⟨eJ,Lo⟩:=mE.cc (by omega);have c1:=A7 mE Lo (i:=a.src.toNat) (by omega);have c2:=A7 mE Lo (i:=a.dst.toNat) (by omega);have bL:r.getD a.src.toNat 0<=1000000:=am _ (EK (by omega));have cy:r.getD a.dst.toNat 0<=1000000:=am _ (EK (by omega));have bW:Kk r a=decide (a.fR.toNat*r.getD a.src.toNat 0=a.take.toNat*r.getD a.dst.toNat 0):=rfl;generalize r.getD a.src.toNat 0=x at c1 bL bW;generalize r.getD a.dst.toNat 0=y at c2 cy bW;obtain⟨kf,Zi⟩:∃k:Nat,a.fR=k:=⟨a.fR.toNat,by omega⟩;obtain⟨e2,xC⟩:∃k:Nat,a.take=k:=⟨a.take.toNat,by omega⟩;have m1:kf*x<=64*1000000:=ns (by omega) bL;have m2:e2*y<=64*1000000:=ns (by omega) cy;rw[Zi,xC,bq,bq]at bW;refine .mk g ak (by omega) (by omega) ?_;refine .hp a.cells rfl (by rw[bq];exact nO) ?_;refine .mk eJ Lo (by omega) (by omega) ?_;refine .hp _ c1 ?_;conv=>whnf
 rw[Zi,show(kf:Int)*x=((kf*x:Nat):Int) by simp];refine .ok (by omega) (by omega) ?_;refine .mk eJ Lo (by omega) (by omega) ?_;refine .hp _ c2 ?_;conv=>whnf
 rw[xC,show(e2:Int)*y=((e2*y:Nat):Int) by simp];refine .ok (by omega) (by omega) ?_;generalize kf*x=u at m1 bW;generalize e2*y=w at m2 bW;refine aW (λbj=>?_) (λbj=>?_);exact .done ⟨rfl,by rw[ET (by rw[bW];simp;omega)];rfl⟩;refine .ok (by omega) (by omega) ?_;refine⟨i+1,rfl,rfl,⟨rfl,by omega,λq aq=>?_⟩,by show n- (i+1)<n-i;omega⟩;rw[iY]at aq;rcases ev.1 aq with aq|aq;exact cV q aq;simp at aq;subst aq;rw[bW];simp;omega;have yV:i=aa.length:=by omega
 rw[yV,pM]at cV;exact .done ⟨rfl,by rw[y5,aO,oA.2 cV];rfl⟩
def t7(N:Nat)(aG:List Int):Nat->List Nat
 |0=>(g6 N).map λv=>aG.length+N-v
 |o+1=>(t7 N aG o).set (aG.getD (aG.length-1-o) 0).toNat (aG.length-1-o)
theorem S0(N:Nat)(aG:List Int):∀o,(t7 N aG o).length=N
 |0=>by simp[t7]
 |o+1=>by rw[t7,k2,S0 N aG o]
def zw(N:Nat)(aG:List Int):List Nat:=t7 N aG aG.length
theorem C6{ax:Option ar}{r:List Int}(t:bg h 1 ax m (r.map λz:Int=>[R z])){g:ar}(ak:ax=some g)(ag:i<m):h.cell? (g.add (i*1))=some (R (r.getD i 0)):=by
 have al:r.length=m:=by simpa using t.len
 have ea:i<r.length:=by omega
 rw[cN,bZ ea];exact t.one ak (i:=i) (iM ea) rfl
theorem av7(N m c:Nat)(P:Option ar)(aG:List Int)(h:I)(q1:bg h 1 P m (aG.map λz=>[R z]))(hm:m<=70368744177664)(db:N<=32)(aY:∀z∈aG,0<=z/\z<N)(aAV:0<N):Fn aH 53 #[R N,.slice P m c] h λv U=>h.le U/\∃g,v= .slice (some ⟨g,0,none⟩) N N/\U g=some (.cells ((zw N aG).map λz:Nat=>R (z:Int)).toArray 3 (0,0))/\h g=none:=by
 have al:aG.length=m:=by simpa using q1.len
 refine b5 asl rfl ?_;refine .one N (R 0) rfl rfl rfl rfl (by omega) (by omega) λez=>?_;have ds:bG N (R 0)=qI (λv=>R ((m+N-v:Nat):Int)) (R 0) N 0:=by simp[qI]
 refine .mk Nat [0,1,5,11,12] (λk=>[.v (R N),.v (.slice P m c),.v (.slice (some ez) N N),.v (R N),.v (R k)]) (λk=>[.row 3 1 (some ez) N N (qI (λv=>R ((m+N-v:Nat):Int)) (R 0) N k)]) (λk U=>U=h/\k<=N) (λk=>N-k) 0 (λ_=>rfl) ⟨rfl,cO _⟩ rfl (by simp only[<-ds];rfl) ?_;rintro k e h1 ⟨rfl,hk⟩;refine aW (λq=>?_) (λq=>?_);have br:k<N:=by omega
 refine .ok (by omega) (by omega) ?_;refine .ok (by omega) (by omega) ?_;refine .mk ez rfl (by omega) (by omega) ?_;have ke:(m:Int)+N-k=((m+N-k:Nat):Int):=by omega
 refine .row 0 3 1 ez N N _ (qI (λv=>R ((m+N-v:Nat):Int)) (R 0) N (k+1)) k rfl (by rw[bq,ew]) (by rw[ib _ _ _ (by rw[XN hk];exact br),<-XO br];exact ho (λx=>some ((qI (λv=>R ((m+N-v:Nat):Int)) (R 0) N k).set k (R x))) ke) ?_;refine .ok (by omega) (by omega) ?_;exact⟨k+1,rfl,rfl,⟨rfl,br⟩,by show N- (k+1)<N-k;omega⟩;have yW:N=k:=by omega
 subst yW;refine .ok (by omega) (by omega) ?_;refine .mk Nat [1,5,7] (λo=>[.v (.slice P m c),.v (.slice (some ez) N N),.v (R ((m:Int)-1-o))]) (λo=>[.row 3 1 (some ez) N N ((t7 N aG o).map λz:Nat=>R (z:Int))]) (λo U=>U=h1/\o<=m) (λo=>m-o) 0 (λ_=>rfl) ⟨rfl,cO _⟩ (by show[aA.v (.slice P m c),aA.v (.slice (some ez) N N),aA.v (R ((m:Int)-1))]=[aA.v (.slice P m c),aA.v (.slice (some ez) N N),aA.v (R ((m:Int)-1- ((0:Nat):Int)))];rw[show((m:Int)-1- ((0:Nat):Int))=(m:Int)-1 by omega]) (by rw[XM,t7,List.map_map,al];rfl) ?_;rintro o aI ab ⟨rfl,ae⟩;refine aW (λaD=>?_) (λaD=>?_);have en:m-1-o<m:=by omega
 obtain⟨g,ak⟩:=q1.cc (by omega);have Ap:(m:Int)-1-o=((m-1-o:Nat):Int):=by omega
 have En:=C6 q1 ak en;have tQ:=aY _ (EK (l:=aG) (d:=0) (i:=m-1-o) (by omega));have WX:t7 N aG (o+1)=(t7 N aG o).set (aG.getD (m-1-o) 0).toNat (m-1-o):=by rw[t7,al]
 generalize aG.getD (m-1-o) 0=z at En tQ WX;refine .mk g ak (by omega) (by omega) ?_;refine .hp _ (by rw[Ap,bq];exact En) ?_;refine .mk ez rfl (by omega) (by omega) ?_;refine .row 0 3 1 ez N N _ ((t7 N aG (o+1)).map λz:Nat=>R (z:Int)) z.toNat rfl (by rw[ew]) (by rw[ib _ _ _ (by simp[S0];omega),WX,nb];exact ho (λx=>some (((t7 N aG o).map λz:Nat=>R (z:Int)).set z.toNat (R x))) Ap) ?_;refine .ok (by omega) (by omega) ?_;exact⟨o+1,by show[aA.v (.slice P m c),aA.v (.slice (some ez) N N),aA.v (R ((m:Int)-1-o-1))]=[aA.v (.slice P m c),aA.v (.slice (some ez) N N),aA.v (R ((m:Int)-1- ((o+1:Nat):Int)))];rw[show(m:Int)-1-o-1=(m:Int)-1- ((o+1:Nat):Int) by omega],rfl,⟨rfl,by omega⟩,by show m- (o+1)<m-o;omega⟩;have Ls:o=m:=by omega
 have rr:zw N aG=t7 N aG o:=by rw[zw,al,Ls]
 refine .bV 0 3 1 (some ez) N N _ rfl λan dZ nP sk=>.done ?_;obtain⟨_,nP|⟨gd,a8,nh,jK,_,_,fg,nj⟩⟩:=nP;cases nP.1;injection nh with nh;subst nh;refine⟨dZ,gd,rfl,?_,sk _ rfl⟩;rw[k4 (by simp[fg])]at nj;rw[jK,<-ov (xs:=a8),nj,rr]
theorem Sl{s:List Nat}(ak:h g=some (.cells ((s.map λz:Nat=>R (z:Int))++sp).toArray 3 (0,0)))(al:s.length=N):bg h 1 (some ⟨g,0,none⟩) N (s.map λz:Nat=>[R (z:Int)]):=by
 refine⟨by simpa using al,λr am=>by obtain⟨p,_,rfl⟩:=dn.1 am;rfl,λ_=>⟨_,rfl⟩,λb7 dT i r am o v ah=>?_⟩;injection dT with dT;subst dT;rw[add_lit,dJ];rw[dV,D3]at am;obtain⟨z,aY,rfl⟩:=am;have ae:o=0:=by
  have:=(qt.1 ah).1;simp at this;omega
 subst ae;injection ah with ah;subst ah;have ag:=(qt.1 aY).1;exact bN ak (by rw[ew,wX,N7 (by simpa using ag),dV,aY];rfl)
structure vQ(cq:I)(fe b hK gd N cl:Nat)(sp:List ao)(left fZ:List Nat)(V:ao):Prop where
 box:cq fe=some (.cells #[hx b,.slice (some ⟨hK,0,none⟩) N cl,.slice (some ⟨gd,0,none⟩) N N,V] 182 (0,0))
 lf:cq hK=some (.cells ((left.map λz:Nat=>R (z:Int))++sp).toArray 3 (0,0))
 Dx:cq gd=some (.cells (fZ.map λz:Nat=>R (z:Int)).toArray 3 (0,0))
 hY:left.length=N
 wG:fZ.length=N
theorem vQ.mono(r:vQ cq fe b hK gd N cl sp left fZ V)(le:cq.le h):vQ h fe b hK gd N cl sp left fZ V:=⟨le _ _ r.box,le _ _ r.lf,le _ _ r.Dx,r.hY,r.wG⟩
def OW(fZ:List Nat)(v:Option Nat)(w:Nat):Bool:=match v with
 |none=>true
 |some v=>decide (fZ.getD w 0<fZ.getD v 0)
def oH(N:Nat)(aa:List bo)(cI:List Int)(left fZ:List Nat):Nat->Option Nat
 |0=>none
 |w+1=>if(decide (0<left.getD w 0)&&(wE N aa cI w&&OW fZ (oH N aa cI left fZ w) w))=true then some w else oH N aa cI left fZ w
def Af:Option Nat->Int
 |none=> -1
 |some v=>v
theorem OV{N:Nat}{aa:List bo}{cI:List Int}{left fZ:List Nat}:∀{w v:Nat},oH N aa cI left fZ w=some v->v<w
 |0,v,h=>by cases h
 |w+1,v,h=>by
  unfold oH at h;split at h;injection h with h;omega;have:=OV h;omega
theorem VT(w:rk cq b gt bk N aa)(r:vQ cq fe b hK gd N cl sp left fZ V)(cI cA:List Int)(pq:cI.length=aa.length)(fB:aa.length<=96)(db:N<=32):Fn aH 54 #[hx fe] (st cq gt bk cI cA) λv U=>v=R (Af (oH N aa cI left fZ N))/\U=st cq gt bk cI cA:=by
 obtain⟨e0,gL,gM,cx,ci,co,cm,O,aV⟩:=w.ex;have x:cq.le (st cq gt bk cI cA):=I.jp aV.nB aV.nA;have m24:=λv=>ab5 w cI cA pq fB v;have r:=r.mono x;generalize st cq gt bk cI cA=h at r m24;have lu:∀v,v<N->h.cell? ((ou hK 0 none).add (v*1))=some (R (left.getD v 0:Nat)):=λv ah=>A7 (Sl r.lf r.hY) rfl ah;have G8:∀v,v<N->h.cell? ((ou gd 0 none).add (v*1))=some (R (fZ.getD v 0:Nat)):=λv ah=>A7 (acG r.Dx r.wG) rfl ah;refine b5 asm rfl ?_;refine .hp _ (bN r.box rfl) ?_;refine .mk Nat [0,3,9,10] (λk=>[.v (hx fe),.v (R (Af (oH N aa cI left fZ k))),.v (R N),.v (R k)]) (λ_=>[]) (λk U=>U=h/\k<=N) (λk=>N-k) 0 (λ_=>rfl) ⟨rfl,cO _⟩ rfl rfl ?_;rintro k e h1 ⟨rfl,hk⟩;refine aW (λq=>?_) (λq=>?_);have br:k<N:=by omega
 have hq:oH N aa cI left fZ (k+1)=if(decide (0<left.getD k 0)&&(wE N aa cI k&&OW fZ (oH N aa cI left fZ k) k))=true then some k else oH N aa cI left fZ k:=rfl;have c1:=lu k br;have di:=λv=>@OV N aa cI left fZ k v;have next:∀v,v=oH N aa cI left fZ (k+1)->∃cw:Nat,[aA.v (hx fe),aA.v (R (Af v)),aA.v (R N),aA.v (R (k+1:Nat))]=[aA.v (hx fe),aA.v (R (Af (oH N aa cI left fZ cw))),aA.v (R N),aA.v (R cw)]/\([]:List LE)=[]/\(h1=h1/\cw<=N)/\N-cw<N-k:=λv ah=>⟨k+1,by rw[ah],rfl,⟨rfl,br⟩,by omega⟩
 generalize left.getD k 0=l at c1 hq;have m:=m24 k;generalize wE N aa cI k=dM at m hq;generalize Fa:oH N aa cI left fZ k=SX at hq di;refine .hp _ (bN r.box rfl) ?_;refine .mk _ rfl (by omega) (by omega) ?_;refine .hp _ (by rw[bq];exact c1) ?_;refine aW (λaD=>?_) (λaD=>?_);rw[fo (show 0<l by omega),wQ]at hq;refine .hp _ (bN r.box rfl) ?_;refine .mk _ m (λv ab q=>by rw[q.2];exact I.le_refl _) ?_;rintro _ _ ⟨rfl,aP⟩;subst aP;cases dM;rw[Bw]at hq;refine .ok (by omega) (by omega) ?_;exact next SX (by rw[hq];rfl)
 rw[wQ]at hq;cases SX with
 |none=>
  refine .ok (by omega) (by omega) ?_;exact next (some k) (by rw[hq];rfl)
 |some v=>
  have ah:=di v rfl;have c2:=G8 k br;have eI:=G8 v (by omega);have sj:OW fZ (some v) k=decide (fZ.getD k 0<fZ.getD v 0):=rfl;rw[sj]at hq;generalize fZ.getD k 0=h2 at c2 hq;generalize fZ.getD v 0=fk at eI hq;refine .hp _ (bN r.box rfl) ?_;refine .mk _ rfl (by omega) (by omega) ?_;refine .hp _ (by rw[bq];exact c2) ?_;refine .hp _ (bN r.box rfl) ?_;refine .mk _ rfl (by show(0:Int)<=(v:Int);omega) (by show(v:Int)<(N:Int);omega) ?_;refine .hp (R fk) eI ?_;refine aW (λbj=>?_) (λbj=>?_);refine .ok (by omega) (by omega) ?_;exact next (some k) (by rw[hq,aX (by simp;omega)])
  refine .ok (by omega) (by omega) ?_;exact next (some v) (by rw[hq,aE (by simp;omega)])
 rw[gU (show¬0<l by omega),Bw]at hq;refine .ok (by omega) (by omega) ?_;exact next SX (by rw[hq];rfl)
 have yW:k=N:=by omega
 subst yW;exact .done ⟨rfl,rfl⟩
theorem ak0(w:rk cq b gt bk N aa)(cI cA:List Int)(az:cA.length=N)(db:N<=32):Fn aH 117 #[hx b] (st cq gt bk cI cA) λr U=>∃g c,r= .slice (some g) N c/\(st cq gt bk cI cA).le U/\bz U 3 1 (some g) N c (cA.map R):=by
 obtain⟨e0,gL,gM,cx,ci,co,cm,O,aV⟩:=w.ex;have x:cq.le (st cq gt bk cI cA):=I.jp aV.nB aV.nA;have HU:st cq gt bk cI cA bk=some (gB cA):=Ga;have av:=TK HU;rw[az]at av;generalize aP:st cq gt bk cI cA=h at x HU av;refine b5 aq3 rfl ?_;refine .hp _ (I.kL x (bN aV.head (o:=4) rfl)) ?_;refine .mk λcy fC=>?_;refine .done (.cR 1 _ _ rfl (av.src _) (by rw[wd];exact IV _) (by simp[c'];omega) (by omega) λbA bu aO=>?_);refine .bV 1 3 1 bA (0+N) bu _ rfl λU cu am az=>?_;have sB:bz U 3 1 bA (0+N) bu (cA.map λz=>[R z]).flatten:=am;rw[dJ,wd]at sB;obtain⟨g,rfl⟩:=fF aO.1;exact .done ⟨g,bu,by rw[dJ];rfl,cu,sB⟩
theorem ai3(w:rk cq b gt bk N aa)(r:vQ cq fe b hK gd N cl sp left fZ V)(cI cA:List Int)(pq:cI.length=aa.length)(fB:aa.length<=96)(db:N<=32)(az:cA.length=N):Fn aH 56 #[hx fe] (st cq gt bk cI cA) λv U=>(st cq gt bk cI cA).le U/\∃A k c,v= .slice A k c/\(k=0↔∀x∈left,x=0):=by
 obtain⟨e0,gL,gM,cx,ci,co,cm,O,aV⟩:=w.ex;have x:cq.le (st cq gt bk cI cA):=I.jp aV.nB aV.nA;have f117:=ak0 w cI cA az db;have r:=r.mono x;have aen:∀ab,(st cq gt bk cI cA).le ab->∀v:Nat,Fn aH 118 #[hx b,R v] ab λr U=>(∃z,r=R z)/\ab.le U:=λab le v=>by
  obtain⟨hH,e,cu,hJ,z2⟩:=Jr aV.ne aV.nB aV.nA le;rw[e];exact(aeH (w.mono cu hJ z2) cI cA pq fB v).mono λr U q=>⟨⟨_,q.1⟩,by rw[q.2];exact I.le_refl _⟩
 generalize st cq gt bk cI cA=h at r f117 aen;refine b5 aso rfl ?_;refine .hp _ (bN r.box rfl) ?_;refine .done (.mk _ f117 ?_);rintro _ h1 ⟨ij,Kl,rfl,cr,av2⟩;have fv:=r.mono cr;refine .hp _ (bN fv.box rfl) ?_;refine .lj (.abs 273 3 none 0 0 [] ⟨rfl,.inl ⟨rfl,rfl,rfl⟩⟩ (.done ?_));refine .mk (Nat×Option ar×Nat×Nat×List ao) [0,3,4,15,16,17] (λ(k,A,m,c,_)=>[.v (hx fe),.v (.slice A m c),.v (.slice (some ij) N Kl),.v (.slice (some ⟨hK,0,none⟩) N cl),.v (R N),.v (R k)]) (λ(_,A,m,c,xs)=>[.row 273 3 A m c xs]) (λ(k,_,m,_,_) U=>h1.le U/\k<=N/\m<=k/\(m=0↔∀x∈left.take k,x=0)) (λ(k,_)=>N-k) (0,none,0,0,[]) (λ_=>rfl) ⟨I.le_refl _,cO _,dd _,by simp⟩ rfl rfl ?_;rintro⟨k,A,m,c,xs⟩ e ab ⟨cn,hk,hm,u2⟩;have dU:=fv.mono cn;have le:=I.le_trans cr cn;refine aW (λq=>?_) (λq=>?_);have br:k<left.length:=by rw[r.hY];omega
 have iY:left.take (k+1)=left.take k++[left[k]]:=kh br;have wc:left.getD k 0=left[k]:=by rw[cN,bZ br];rfl
 have c1:=A7 (Sl dU.lf dU.hY) rfl (i:=k) (by omega);rw[wc]at c1;generalize left[k]=l at c1 iY;refine .mk _ rfl (by omega) (by omega) ?_;refine .hp _ (by rw[bq];exact c1) ?_;refine aW (λaD=>?_) (λaD=>?_);have am6:=(av2.mono cn).jr;have c2:=C6 am6 rfl (i:=k) (by omega);refine .mk _ rfl (by omega) (by omega) ?_;refine .hp _ (by rw[bq];exact c2) ?_;refine .hp _ (bN dU.box rfl) ?_;refine .mk _ (aen ab le k) (λv ab q=>q.2) ?_;rintro _ an ⟨⟨z,rfl⟩,dZ⟩;refine .cR 0 _ _ rfl rfl (by simp[Aa,R]) (by simp[c'];omega) (by omega) λbA bu Yw=>?_;refine .ok (by omega) (by omega) ?_;refine⟨(k+1,bA,m+1,bu,_),rfl,rfl,⟨I.le_trans cn dZ,by omega,by omega,?_⟩,by show N- (k+1)<N-k;omega⟩;rw[iY];refine⟨λh=>by omega,λh=>?_⟩;have:=h l (by simp);omega;refine .ok (by omega) (by omega) ?_;refine⟨(k+1,A,m,c,xs),rfl,rfl,⟨cn,by omega,by omega,?_⟩,by show N- (k+1)<N-k;omega⟩;have Lv:l=0:=by omega
 rw[iY,u2,Lv];simp;exact⟨λh x ad=>by rcases ad with ad|ad;exact h x ad;exact ad,λh x ad=>h x (.inl ad)⟩;have yW:k=N:=by omega
 rw[yW,k4 (by rw[r.hY];omega)]at u2;exact .done ⟨le,A,m,c,rfl,u2⟩
def zA(N:Nat)(aa:List bo)(fZ:List Nat):Nat->List Int->List Nat->List Nat->List Nat×List Nat
 |0,_,left,l=>(left,l)
 |n+1,f,left,l=>match oH N aa (ee aa f) left fZ N with
  |none=>(left,l)
  |some v=>zA N aa fZ n (bump f v) (left.set v (left.getD v 0-1)) (l++[v])
def r1(N:Nat)(aa:List bo)(d6:List Nat)(aG:List Int):Option (List Nat):=
 if e' N aa=0/\d6.length=N/\y5 aa d6=true/\d6.sum<=2048/\(∀z∈aG,0<=z/\z<N)then(if∀x∈(zA N aa (zw N aG) (d6.sum+1) (bG N 0) d6 []).1,x=0 then some (zA N aa (zw N aG) (d6.sum+1) (bG N 0) d6 []).2 else none)else none
theorem VU{N:Nat}{aa:List bo}{cI:List Int}{left fZ:List Nat}:∀{w v:Nat},oH N aa cI left fZ w=some v->0<left.getD v 0/\wE N aa cI v=true
 |0,v,h=>by cases h
 |w+1,v,h=>by
  unfold oH at h;split at h;rename_i aw;injection h with h;subst h;simp only[fY,sh]at aw;exact⟨aw.1,aw.2.1⟩;exact VU h
theorem ax8(l:List Nat):∀v,v<l.length->0<l.getD v 0->(l.set v (l.getD v 0-1)).sum+1=l.sum:=by
 induction l with
 |nil=>intro v h;simp at h
 |cons a l bE=>
  intro v h hp;cases v with
  |zero=>simp at hp⊢;omega
  |succ v=>
   have:=bE v (by simpa using h) (by simpa using hp);simp only[Oi,Ol,ahi];omega
theorem ae0{o:Nat}{t f:List Int}(h1:o≠gt)(ab:o≠bk)(J:Obj):(st cq gt bk t f).put o J=st (cq.put o J) gt bk t f:=by
 funext k;unfold st I.put;by_cases aJ:k=o;subst aJ;simp[h1,ab];by_cases aI:k=bk;subst aI;simp[aJ];by_cases ck:k=gt;subst ck;simp[aJ,aI];simp[aJ,aI,ck]
def Vd(h:I)(N:Nat)(aa:List bo)(d6:List Nat)(aG:List Int)(v:ao)(U:I):Prop:=h.le U/\match r1 N aa d6 aG with
 |some l=>l.length<=2048/\∃A c,v= .tuple #[.agg #[.slice A l.length c,.slice none 0 0],R 0]/\bg U 1 A l.length (l.map λz:Nat=>[R (z:Int)])
 |none=>∃(dE:Option ar)(bB c2:Nat)(A:Option ar)(k c:Nat)(e:Int),v= .tuple #[.agg #[.slice dE bB c2,.slice A k c],R e]/\¬(e=0/\k=0)
theorem X2(l:List Nat):(l.map λz:Nat=>[R (z:Int)]).flatten=l.map λz:Nat=>R (z:Int):=by
 induction l with
 |nil=>rfl
 |cons a l bE=>rw[eO,qr,bE];rfl
theorem TA{o:Nat}{t f:List Int}(bH:gt≠bk)(h:st cq gt bk t f o=none):o≠gt/\o≠bk:=by
 constructor;intro e;subst e;rw[DD bH]at h;cases h;intro e;subst e;rw[Ga]at h;cases h
theorem alF(l:List Nat):∀v,l.getD v 0<=l.sum:=by
 induction l with
 |nil=>intro v;simp
 |cons a l bE=>
  intro v;cases v with
  |zero=>simp
  |succ v=>have:=bE v;simp only[ahi,Ol];omega
theorem aK{P:Program}{x y:IR}{Q:dL}{e:bY}(k:∀nt:dL,(∀e L h,c7 P n y Q e L h->nt .normal e L h)->(∀ex e L h,ex≠.normal->Q ex e L h->nt ex e L h)->c7 P n x nt e L h):c7 P n (.seq x y) Q e L h:=k (λex e L h=>match ex with|.normal=>c7 P n y Q e L h|ex=>Q ex e L h) (λ_ _ _ q=>q) (λex _ _ _ ad q=>by cases ex<;>first|exact absurd rfl ad|exact q)
theorem fG{P:Program}{id:Nat}{x:IR}{Q:dL}{e:bY}(k:∀nt:dL,(∀e L h,Q .normal e L h->nt (.exit id) e L h)->(∀ex e L h,ex≠.exit id->Q ex e L h->nt ex e L h)->c7 P n x nt e L h):c7 P n (.block id x) Q e L h:=by
 refine k (λex e L h=>match ex with|.exit o=>bif gN o id then Q .normal e L h else Q (.exit o) e L h|ex=>Q ex e L h) (λe L h q=>?_) (λex e L h ad q=>?_);show(bif gN id id then Q .normal e L h else Q (.exit id) e L h);rw[Nat.beq_refl];exact q;cases ex with
 |exit o=>
  show(bif gN o id then Q .normal e L h else Q (.exit o) e L h);rw[show gN o id=false from Bool.eq_false_iff.2 λq=>ad (by rw[Nat.eq_of_beq_eq_true q])];exact q
 |_=>exact q
theorem awX(Q:dL)(e:bY)(m n cx fe b gt bk hK gd c1:Nat)(A:Option ar)(sp:List ao)(aa:List bo)(d6 fZ:List Nat)(bm cq:I)(tf:List Nat×List Nat)(aj:e' m aa=0)(uW:m<=32)(wo:aa.length<=96)(jv:rk bm b gt bk m aa)(n7:bm fe=none)(fu:bm hK=none)(IB:bm.le cq)(x':cq gt=none)(x9:cq bk=none)(dO:vQ cq fe b hK gd m c1 sp d6 fZ (.slice none 0 0))(QZ:d6.sum<=2048)(K2:tf=zA m aa fZ (d6.sum+1) (bG m 0) d6 [])(Ml:hK≠fe)(Sa:hK≠gd)(he:[6,16,17].map e=[.p 1 0,.p 4 0,.v (R (Af (oH m aa (ee aa (bG m 0)) d6 fZ m)))])(cD:∀e oJ f B dP,bm.le oJ->oJ gt=none->oJ bk=none->f.length=m->vQ oJ fe b hK gd m c1 sp tf.1 fZ (.slice B tf.2.length dP)->tf.2.length<=2048->e 6= .p 1 0->e 16= .p 4 0->Q (.exit 4) e [.own [.v (R m),.v (.slice A n cx)] 33,.own [.v (.slice none 0 0),.v (.slice none 0 0)] 85,.gone,.gone,.bV fe,.row 3 1 B tf.2.length dP (tf.2.map λz:Nat=>R (z:Int))] (st oJ gt bk (ee aa f) f)):kH (λQ e L h=>c7 aH 124 aaA Q e L h) Q e [.own [.v (R m),.v (.slice A n cx)] 33,.own [.v (.slice none 0 0),.v (.slice none 0 0)] 85,.gone,.gone,.bV fe,.row 3 1 none 0 0 []] (st cq gt bk (ee aa (bG m 0)) (bG m 0)):=by
 have g0:Good m aa (bG m 0) 0:=Cr aj;refine .mk (Int×List Int×List Nat×List Nat×Option ar×Nat×I×Nat) [6,16,17] (λ(z,_)=>[.p 1 0,.p 4 0,.v (R z)]) (λ(_,_,_,l,B,dP,_,_)=>[.own [.v (R m),.v (.slice A n cx)] 33,.own [.v (.slice none 0 0),.v (.slice none 0 0)] 85,.gone,.gone,.bV fe,.row 3 1 B l.length dP (l.map λz:Nat=>R (z:Int))]) (λ(z,f,left,l,B,dP,oJ,jA) U=>z=Af (oH m aa (ee aa f) left fZ m)/\U=st oJ gt bk (ee aa f) f/\bm.le oJ/\oJ gt=none/\oJ bk=none/\Good m aa f l.length/\vQ oJ fe b hK gd m c1 sp left fZ (.slice B l.length dP)/\left.sum+l.length=d6.sum/\zA m aa fZ jA f left l=tf/\left.sum<jA) (λ(_,_,_,_,_,_,_,jA)=>jA) (_,bG m 0,d6,[],none,0,cq,d6.sum+1) (λ_=>rfl) ⟨rfl,rfl,IB,x',x9,g0,dO,by simp,K2.symm,by omega⟩ he rfl ?_;rintro⟨z,f,left,l,B,dP,oJ,jA⟩ ck cg ⟨mj,rfl,Fq,x',x9,PU,zu,an6,LG,aA6⟩;have gA:l.length<=2048:=by omega
 show c7 aH 124 aaA _ (iR ck [6,16,17] [.p 1 0,.p 4 0,.v (R z)]) [.own [.v (R m),.v (.slice A n cx)] 33,.own [.v (.slice none 0 0),.v (.slice none 0 0)] 85,.gone,.gone,.bV fe,.row 3 1 B l.length dP (l.map λz:Nat=>R (z:Int))] (st oJ gt bk (ee aa f) f);refine aK λgO dx eG=>?_;refine aW (λj6=>?_) (λj6=>?_);cases af:oH m aa (ee aa f) left fZ m with
 |none=>rw[af]at mj;simp[Af]at mj;omega
 |some v=>
  have aY:z=(v:Int):=by rw[mj,af];rfl
  clear mj;have mj:=af;obtain⟨xy,anG⟩:=VU mj;have Q3:=OV mj;have ZB:may m aa f v=true:=anG;obtain⟨jA,rfl⟩:∃g,jA=g+1:=⟨jA-1,by omega⟩;have ZW:zA m aa fZ jA (bump f v) (left.set v (left.getD v 0-1)) (l++[v])=tf:=by rw[<-LG,zA,mj]
  have cu:=alF left v;have an8:=ax8 left v (by rw[zu.hY];exact Q3) xy;have alD:=PU.bump aj ZB;have alB:ni m aa [z] f=(1,bump f v):=by rw[aY,EH ZB,bq]
  have atD:oJ.le (st oJ gt bk (ee aa f) f):=I.jp x' x9;refine dx _ _ _ ?_;refine aK λgu df fK=>?_;refine fG λgk ed eH=>?_;refine aK λhA dY hL=>?_;refine .hp _ (bN (atD _ _ zu.box) rfl) ?_;refine .mk λdh amA=>?_;have Ac:At oJ oJ b gt bk m aa f l.length:=⟨I.le_refl _,jv.mono Fq x' x9,PU⟩;refine .done (.mk _ (EG aj Ac (by omega) z amA) ?_);rintro _ fa ⟨rfl,Cw,rfl,G3⟩;rw[alB]at G3⊢;simp only at G3⊢;have vs:=zu.mono G3.le;obtain⟨_,_,_,_,_,_,_,_,cF⟩:=G3.jv.ex;have R0:=I.jp (cI:=ee aa (bump f v)) (cA:=bump f v) cF.nB cF.nA;have lu:=A7 (Sl (R0 _ _ vs.lf) vs.hY) rfl Q3;refine dY _ _ _ ?_;refine aK λhc eT hi=>?_;refine .hp _ (bN (R0 _ _ vs.box) rfl) ?_;have Mj:=vs.box;have VZ:fe≠gt:=λe=>by rw[e,cF.nB]at Mj;cases Mj
  have V0:fe≠bk:=λe=>by rw[e,cF.nA]at Mj;cases Mj
  have Mk:=vs.lf;have abW:hK≠gt:=λe=>by rw[e,cF.nB]at Mk;cases Mk
  have abX:hK≠bk:=λe=>by rw[e,cF.nA]at Mk;cases Mk
  generalize left.getD v 0=x at lu xy an8 ZW cu;refine .mk _ rfl (by omega) (by omega) ?_;refine .hp (R x) (by rw[aY,bq];exact lu) ?_;refine .ok (by omega) (by omega) ?_;refine .mk _ rfl (by omega) (by omega) ?_;have auO:over ((left.map λz:Nat=>R (z:Int))++sp) v [R ((x:Int)-1)]=some (((left.set v (x-1)).map λz:Nat=>R (z:Int))++sp):=by
   rw[ib _ _ _ (by simp[vs.hY];omega),List.set_append_left _ _ (by simp[vs.hY];exact Q3),nb,show(x:Int)-1=((x-1:Nat):Int) by omega]
  refine .hp hK v 3 _ _ (by show(ou hK 0 none).add (z.toNat*1)=_;rw[aY,bq,add_lit,dJ,ew]) (R0 _ _ vs.lf) auO ?_;rw[ae0 abW abX];have abv:bm.le (Cw.put hK (.cells (((left.set v (x-1)).map λz:Nat=>R (z:Int))++sp).toArray 3 (0,0))):=kT fu (I.le_trans Fq G3.le);have zv:vQ (Cw.put hK (.cells (((left.set v (x-1)).map λz:Nat=>R (z:Int))++sp).toArray 3 (0,0))) fe b hK gd m c1 sp (left.set v (x-1)) fZ (.slice B l.length dP):=⟨by rw[I.cf _ _ (d9 Ml)];exact vs.box,I.bP _ _ _,by rw[I.cf _ _ (d9 Sa)];exact vs.Dx,by simp[vs.hY],vs.wG⟩;have hJ:(Cw.put hK (.cells (((left.set v (x-1)).map λz:Nat=>R (z:Int))++sp).toArray 3 (0,0))) gt=none:=by rw[I.cf _ _ (d9 abW)];exact cF.nB
  have z2:(Cw.put hK (.cells (((left.set v (x-1)).map λz:Nat=>R (z:Int))++sp).toArray 3 (0,0))) bk=none:=by rw[I.cf _ _ (d9 abX)];exact cF.nA
  generalize Cw.put hK (.cells (((left.set v (x-1)).map λz:Nat=>R (z:Int))++sp).toArray 3 (0,0))=gf at abv zv hJ z2;have IK:=I.jp (cI:=ee aa (bump f v)) (cA:=bump f v) hJ z2;refine eT _ _ _ ?_;refine .hp _ (bN (IK _ _ zv.box) rfl) ?_;refine .done (.cR 5 _ [R z] rfl rfl (by simp[Aa,R]) (by simp[c'];omega) (by omega) λdS yA aAR=>?_);refine .hp fe 3 182 _ [hx b,.slice (some ⟨hK,0,none⟩) m c1,.slice (some ⟨gd,0,none⟩) m m,.slice dS (l.length+1) yA] rfl (IK _ _ zv.box) rfl ?_;rw[ae0 VZ V0];have RP:bm.le (gf.put fe (.cells [hx b,.slice (some ⟨hK,0,none⟩) m c1,.slice (some ⟨gd,0,none⟩) m m,.slice dS (l.length+1) yA].toArray 182 (0,0))):=kT n7 abv;have at':gd≠fe:=λe=>by have:=zv.Dx;rw[e,zv.box]at this;injection this with this;injection this with _ this;exact absurd this (by decide)
  have SZ:vQ (gf.put fe (.cells [hx b,.slice (some ⟨hK,0,none⟩) m c1,.slice (some ⟨gd,0,none⟩) m m,.slice dS (l.length+1) yA].toArray 182 (0,0))) fe b hK gd m c1 sp (left.set v (x-1)) fZ (.slice dS (l.length+1) yA):=⟨I.bP _ _ _,by rw[I.cf _ _ Ml];exact zv.lf,by rw[I.cf _ _ at'];exact zv.Dx,zv.hY,zv.wG⟩;have hl:(gf.put fe (.cells [hx b,.slice (some ⟨hK,0,none⟩) m c1,.slice (some ⟨gd,0,none⟩) m m,.slice dS (l.length+1) yA].toArray 182 (0,0))) gt=none:=by rw[I.cf _ _ (d9 VZ)];exact hJ
  have g5:(gf.put fe (.cells [hx b,.slice (some ⟨hK,0,none⟩) m c1,.slice (some ⟨gd,0,none⟩) m m,.slice dS (l.length+1) yA].toArray 182 (0,0))) bk=none:=by rw[I.cf _ _ (d9 V0)];exact z2
  generalize gf.put fe (.cells [hx b,.slice (some ⟨hK,0,none⟩) m c1,.slice (some ⟨gd,0,none⟩) m m,.slice dS (l.length+1) yA].toArray 182 (0,0))=al5 at RP SZ hl g5;refine eH _ _ _ _ nofun ?_;refine df _ _ _ ?_;refine .done (.mk _ (VT (jv.mono RP hl g5) SZ (ee aa (bump f v)) (bump f v) (pE _ _) wo (by omega)) ?_);rintro _ _ ⟨rfl,rfl⟩;refine⟨(_,bump f v,left.set v (x-1),l++[v],dS,yA,al5,jA),rfl,?_,⟨rfl,rfl,RP,hl,g5,by rw[fb];exact alD,by rw[fb];exact SZ,by rw[fb];simp only[gI,N'];omega,ZW,by show(left.set v (x-1)).sum<jA;omega⟩,by show jA<jA+1;omega⟩;show _=[LE.own [.v (R m),.v (.slice A n cx)] 33,LE.own [.v (.slice none 0 0),.v (.slice none 0 0)] 85,LE.gone,LE.gone,LE.bV fe,LE.row 3 1 dS (l++[v]).length yA ((l++[v]).map λz:Nat=>R (z:Int))];rw[fm,fb,aY];rfl
 obtain⟨jA,rfl⟩:∃g,jA=g+1:=⟨jA-1,by omega⟩;cases af:oH m aa (ee aa f) left fZ m with
 |some v=>rw[af]at mj;simp[Af]at mj;omega
 |none=>
  rw[zA,af]at LG;subst LG;refine eG _ _ _ _ nofun ?_;exact cD _ oJ f B dP Fq x' x9 PU.len zu gA rfl rfl
theorem awW(N n cx m c k c2:Nat)(A ax P:Option ar)(aa:List bo)(d6:List Nat)(aG:List Int)(h:I)(av:bg h 5 A n (aa.map bo.cells))(aC:n*40<=140737488355328)(mE:bg h 1 ax m (d6.map λz:Nat=>[R (z:Int)]))(am:∀q∈d6,q<=1000000)(hm:m<=1000)(q1:bg h 1 P k (aG.map λz=>[R z]))(hk:k<=70368744177664):Fn aH 23 #[my N A n cx,.slice ax m c,.slice P k c2] h λv U=>Vd h N aa d6 aG v U:=by
 have al:aa.length=n:=by simpa using av.len
 have y0:d6.length=m:=by simpa using mE.len
 have aBg:aG.length=k:=by simpa using q1.len
 have FF:∀(U:I)(e:Int),h.le U->r1 N aa d6 aG=none->e≠0->Vd h N aa d6 aG (.tuple #[.agg #[.slice none 0 0,.slice none 0 0],R e]) U:=λU e le kP he=>⟨le,by rw[kP];exact⟨none,0,0,none,0,0,e,rfl,λq=>he q.1⟩⟩;refine b5 aa0 rfl ?_;refine .done (.mk _ (anM N n cx m c A ax aa d6 h av (by omega) mE am hm) ?_);rintro _ _ ⟨rfl,rfl⟩;by_cases CU:e' N aa≠0;rw[aX CU];refine aW (λq=>?_) (λq=>absurd CU q);exact .done (FF _ _ (I.le_refl _) (by rw[r1,aE (λq=>CU q.1)]) CU);rw[aE CU];have aj:=jw.1 CU;obtain⟨HF,uW,wo,dk⟩:=lO aj;by_cases AK:m≠N;rw[aX AK];exact .done (FF _ _ (I.le_refl _) (by rw[r1,aE (λq=>AK (by omega))]) (by decide));rw[aE AK];have AK:=jw.1 AK;subst AK;cases hH:y5 aa d6;exact .done (FF _ _ (I.le_refl _) (by rw[r1,aE (λq=>by rw[hH]at q;cases q.2.2.1)]) (by decide));have H':∀q∈d6,q<=4096:=λq aq=>by
  simp only[y5,fY,oA,Dt,sh]at hH;exact(hH.1 q aq).2
 have QZ:∀i,(d6.take i).sum<=i*4096:=λi=>by
  induction i with
  |zero=>simp
  |succ i bE=>
   rw[List.take_add_one,ahu];have:(d6[i]?.toList).sum<=4096:=by
    cases he:d6[i]?with
    |none=>simp
    |some x=>simp;exact H' x (DZ he)
   omega
 refine .mk Nat [1,2,3,6,10,32,33,34] (λi=>[.v (.slice ax m c),.v (.slice P k c2),.p 0 0,.p 1 0,.v (R ((d6.take i).sum:Nat)),.v (.slice ax m c),.v (R m),.v (R i)]) (λ_=>[.own [.v (R m),.v (.slice A n cx)] 33,.own [.v (.slice none 0 0),.v (.slice none 0 0)] 85]) (λi U=>U=_/\i<=m) (λi=>m-i) 0 (λ_=>rfl) ⟨rfl,cO _⟩ rfl rfl ?_;rintro i e h1 ⟨rfl,ag⟩;refine aW (λq=>?_) (λq=>?_);have ea:i<d6.length:=by omega
 obtain⟨g,ak⟩:=mE.cc (by omega);have uL:=A7 mE ak (i:=i) (by omega);have wc:d6.getD i 0=d6[i]:=by rw[cN,bZ ea];rfl
 rw[wc]at uL;have iY:(d6.take (i+1)).sum=(d6.take i).sum+d6[i]:=by rw[kh ea,ahu];simp
 have af:=H' _ (cS ea);have c5:=QZ i;generalize d6[i]=x at uL iY af;generalize(d6.take i).sum=s at iY c5;refine .mk g ak (by omega) (by omega) ?_;refine .hp _ (by rw[bq];exact uL) ?_;refine .ok (by omega) (by omega) ?_;refine .ok (by omega) (by omega) ?_;refine⟨i+1,?_,rfl,⟨rfl,by omega⟩,by show m- (i+1)<m-i;omega⟩;rw[iY];show[_,_,_,_,aA.v (R ((s:Int)+x)),_,_,_]=_;rw[show(s:Int)+x=((s+x:Nat):Int) by simp];rfl;have yV:i=d6.length:=by omega
 rw[yV,pM];have c5:=QZ d6.length;rw[pM]at c5;refine aW (λaD=>?_) (λaD=>?_);exact .done (FF _ _ (I.le_refl _) (by rw[r1,aE (λq=>by have:=q.2.2.2.1;omega)]) (by decide));refine .mk Nat [1,2,3,6,45,46,47] (λi=>[.v (.slice ax m c),.v (.slice P k c2),.p 0 0,.p 1 0,.v (.slice P k c2),.v (R k),.v (R i)]) (λ_=>[.own [.v (R m),.v (.slice A n cx)] 33,.own [.v (.slice none 0 0),.v (.slice none 0 0)] 85]) (λi U=>U=_/\i<=k/\∀z∈aG.take i,0<=z/\z<(m:Int)) (λi=>k-i) 0 (λ_=>rfl) ⟨rfl,cO _,by simp⟩ rfl rfl ?_;rintro i e h1 ⟨rfl,ag,aY⟩;refine aW (λbj=>?_) (λbj=>?_);have ea:i<aG.length:=by omega
 obtain⟨g,ak⟩:=q1.cc (by omega);have En:=C6 q1 ak (i:=i) (by omega);have wc:aG.getD i 0=aG[i]:=by rw[cN,bZ ea];rfl
 rw[wc]at En;have iY:aG.take (i+1)=aG.take i++[aG[i]]:=kh ea;have po:=cS ea;generalize aG[i]=x at En iY po;refine .mk g ak (by omega) (by omega) ?_;refine .hp _ (by rw[bq];exact En) ?_;refine aW (λbT=>?_) (λbT=>?_);exact .done (FF _ _ (I.le_refl _) (by rw[r1,aE (λq=>by have:=q.2.2.2.2 x po;omega)]) (by decide));refine aW (λdz=>?_) (λdz=>?_);exact .done (FF _ _ (I.le_refl _) (by rw[r1,aE (λq=>by have:=q.2.2.2.2 x po;omega)]) (by decide));refine .ok (by omega) (by omega) ?_;refine⟨i+1,rfl,rfl,⟨rfl,by omega,λz tQ=>?_⟩,by show k- (i+1)<k-i;omega⟩;rw[iY]at tQ;rcases ev.1 tQ with tQ|tQ;exact aY z tQ;simp at tQ;subst tQ;omega;have yV:i=aG.length:=by omega
 rw[yV,pM]at aY;refine .done (.mk _ (Mn m n cx aa A h1 av aC aj) ?_);rintro _ ab ⟨bm,b,gt,bk,rfl,IA,jv,rfl⟩;obtain⟨e0,gL,gM,O5,ci,co,cm,O,aV⟩:=jv.ex;have Fw:bm.le (st bm gt bk (ee aa (bG m 0)) (bG m 0)):=I.jp aV.nB aV.nA;have c9:=I.le_trans IA Fw;refine .mk λbL eS=>?_;refine .cR 3 _ _ rfl ((mE.mono c9).src _) (by rw[X2];intro u hu;obtain⟨z,_,rfl⟩:=dn.1 hu;rfl) (by simp[c'];omega) (by omega) λiu c1 aAQ=>?_;refine .mk _ (av7 m k c2 P aG _ (q1.mono c9) hk (by omega) aY (by omega)) (λv ab q=>q.1) ?_;rintro _ an ⟨dZ,gd,rfl,Zh,af'⟩;refine .mk λfe CF=>?_;have H2:=aV.ne;obtain⟨at7,at8⟩:=TA H2 af';obtain⟨acd,ace⟩:=TA H2 (I.none_le dZ CF);have gF:=I.du (J:=.cells #[hx b,.slice iu (0+m) c1,.slice (some ⟨gd,0,none⟩) m m,.slice none 0 0] 182 (0,0)) CF;refine .bV 3 3 1 iu (0+m) c1 _ rfl λaR cW adL XE=>?_;obtain⟨eb,adL|⟨hK,a8,rfl,jK,_,_,fg,nj⟩⟩:=adL;omega;have JJ:=XE _ rfl;have NA:=I.none_le (I.le_trans dZ gF) JJ;obtain⟨R9,R'⟩:=TA H2 NA;have Ml:hK≠fe:=λe=>by rw[e,I.bP]at JJ;cases JJ
 have Sa:hK≠gd:=λe=>by have:=(gF _ _ Zh).symm.trans ((ho _ e.symm).trans JJ);cases this
 obtain⟨cq,wc,IB,x',x9⟩:=Jr H2 aV.nB aV.nA (I.le_trans dZ (I.le_trans gF cW));rw[wc];have qk:∀o J,o≠gt->o≠bk->aR o=some J->cq o=some J:=λo J C9 AY ae=>by rw[wc,DE C9 AY]at ae;exact ae
 have wa:a8=((d6.map λz:Nat=>R (z:Int))++a8.toList.drop m).toArray:=by
  have h1:a8.toList.take m=d6.map λz:Nat=>R (z:Int):=by
   have ab:=nj;rw[X2,dJ,ew]at ab;exact ab
  rw[<-h1,BI,ov]
 have dO:vQ cq fe b hK gd m c1 (a8.toList.drop m) d6 (zw m aG) (.slice none 0 0):=⟨by rw[qk fe _ acd ace (cW _ _ (I.bP _ _ _)),dJ],by rw[qk hK _ R9 R' jK];exact ho (λc=>some (Obj.cells c 3 (0,0))) wa,qk gd _ at7 at8 (cW _ _ (gF _ _ Zh)),y0,by rw[zw,S0]⟩;have ata:=jv.mono IB x' x9;have g0:Good m aa (bG m 0) 0:=Cr aj;have Yx:h1 fe=none:=I.none_le (I.le_trans IA (I.le_trans Fw dZ)) CF;have YA:h1 hK=none:=I.none_le IA (by have:=NA;rwa[DE R9 R']at this);have n7:bm fe=none:=by have:=I.none_le dZ CF;rwa[DE acd ace]at this
 have fu:bm hK=none:=by rwa[DE R9 R']at NA
 generalize a8.toList.drop m=sp at dO;clear qk wc jK nj wa fg a8 JJ NA gF XE;refine .done (.mk _ (VT ata dO (ee aa (bG m 0)) (bG m 0) (pE _ _) wo (by omega)) ?_);rintro _ _ ⟨rfl,rfl⟩;obtain⟨tf,K2⟩:∃r,r=zA m aa (zw m aG) (d6.sum+1) (bG m 0) d6 []:=⟨_,rfl⟩;have kP:r1 m aa d6 aG=if∀x∈tf.1,x=0 then some tf.2 else none:=by
  rw[r1,aX ⟨aj,y0,hH,by omega,aY⟩,K2]
 have IC:=I.le_trans IA IB;refine .lj (.abs 3 1 none 0 0 [] ⟨rfl,.inl ⟨rfl,rfl,rfl⟩⟩ (.done ?_));refine awX _ _ m n cx fe b gt bk hK gd c1 A sp aa d6 (zw m aG) bm cq tf aj (by omega) wo jv n7 fu IB x' x9 dO (by omega) K2 Ml Sa rfl ?_;rintro e oJ f B dP Fq x' x9 az zu anD amV amU;rw[show e=iR e [6,16] [.p 1 0,.p 4 0] by rw[<-amV,<-amU];exact(fr [6,16] e).symm];refine .bV 5 3 1 B tf.2.length dP _ rfl λcg fW mA f5=>?_;obtain⟨hH,KF,L4,hJ,z2⟩:=Jr H2 x' x9 fW;rw[KF]at fW mA⊢;refine .done (.mk _ (ai3 (jv.mono (I.le_trans Fq L4) hJ z2) (zu.mono L4) (ee aa f) f (pE _ _) wo (by omega) az) ?_);rintro _ fa ⟨hv,dE,bB,eI,rfl,i9⟩;have IK:h1.le fa:=I.le_trans IA (I.le_trans Fq (I.le_trans L4 (I.le_trans (I.jp hJ z2) hv)));refine aW (λBf=>?_) (λBf=>?_);refine .done ⟨IK,?_⟩;rw[kP,aE (λq=>by have:=i9.2 q;omega)];exact⟨_,_,_,dE,bB,eI,0,rfl,λq=>by have:=q.2;omega⟩;have gK:=hv _ _ (I.jp hJ z2 _ _ (zu.mono L4).box);refine .hp _ (bN gK rfl) ?_;refine .done ⟨IK,?_⟩;rw[kP,aX (i9.1 (by omega))];exact⟨anD,B,dP,rfl,(mA.mono hv).acJ⟩
def ud(K:Int):cX->Bool
 |.nil=>false
 |.cons _ n b r=>b.leaf&&decide (K<=n)||ud K b||ud K r
theorem ae3(K:Int):∀(N:Nat)(l:bw),l.bF<N->l.bF<=200000->∀(A:Option ar)(m cap:Nat)(h:I),hU h A m l->Fn aH 70 #[.slice A m cap,R K] h λv U=>v= .bool (ud K l.bn)/\U=h
 |0,l,db,_=>absurd db (Nat.not_lt_zero _)
 |N+1,l,db,lU=>by
  intro A m cap bm aj;have hm:m<=200000:=by have:=aj.1;have:=l.vk;omega
  refine b5 asz rfl ?_;refine .mk (Nat×bw) [1,7,8,9] (λ(i,_)=>[.v (R K),.v (.slice A m cap),.v (R m),.v (R i)]) (λ_=>[]) (λ(i,r) U=>U=bm/\o9 bm A m i r/\r.bF<=l.bF/\ud K l.bn=ud K r.bn) (λ(i,_)=>m-i) (0,l) (λ_=>rfl) ⟨rfl,aj.cB,dd _,rfl⟩ rfl rfl ?_;rintro⟨i,r⟩ e U ⟨rfl,av,ik,he⟩;refine aW (λab=>?_) (λab=>?_);cases r with
  |nil=>have:=av.fin;omega
  |cons t w B bc c cj r=>
   obtain⟨g,aO,ag,aw,ph,am⟩:=av.open;simp only[bw.bF]at ik;have oK:=ph.1;have nE:=cj.Ft;refine .mk g aO (by omega) (by omega) ?_;refine .hp (iF t w B bc c) rfl (by rw[bq];exact aw) ?_;have F:=ae3 K N cj (by omega) (by omega) B bc c U ph;have go:(bw.bn (.cons t w B bc c cj r))= .cons t w cj.bn r.bn:=rfl;rw[go,ud,nE]at he;refine aW (λaM=>?_) (λaM=>?_);rw[fo (show cj.len=0 by omega),wQ]at he;refine aW (λaD=>?_) (λaD=>?_);refine .done ⟨?_,rfl⟩;rw[he,fo (by omega)];rfl;rw[gU (show¬K<=w by omega),agl]at he;refine .done (.mk _ F ?_);rintro _ _ ⟨rfl,rfl⟩;cases ad:ud K cj.bn;refine .ok (by omega) (by omega) ?_;exact⟨(i+1,r),rfl,rfl,⟨rfl,am,by omega,by rw[he,ad];rfl⟩,by show m- (i+1)<m-i;omega⟩;exact .done ⟨by rw[he,ad];rfl,rfl⟩;rw[gU (show¬cj.len=0 by omega),Bw,agl]at he;refine .done (.mk _ F ?_);rintro _ _ ⟨rfl,rfl⟩;cases ad:ud K cj.bn;refine .ok (by omega) (by omega) ?_;exact⟨(i+1,r),rfl,rfl,⟨rfl,am,by omega,by rw[he,ad];rfl⟩,by show m- (i+1)<m-i;omega⟩;exact .done ⟨by rw[he,ad];rfl,rfl⟩
  cases r with
  |nil=>
   refine .done ?_;rw[he];exact⟨rfl,rfl⟩
  |cons=>obtain⟨g,aO,ag,_⟩:=av.open;omega
theorem alc(g:eY)(h:I)(ok:g.ok h)(A:Option ar)(k c:Nat)(T:Int)(bC:List cL)(mE:bg h 2 A k (bC.map cH))(hk:bC.length=k)(qO:g.cp.length=k)(he:k<=96)(ai:0<=T)(gA:T<=1024)(az:∀i(ag:i<bC.length)(ae:i<g.cp.length),0<=bC[i].1/\bC[i].1+bC[i].2<=T/\(g.cp[i].n:Int)<=bC[i].2):Fn aH 71 #[.agg g.cells.toArray,Jd A k c T] h λv U=>v= .bool true/\U=h:=by
 refine b5 asA rfl ?_;have xt:=ok.cp;rw[qO]at xt;have gc:g.cells=[.string g.dD,.slice g.hf g.bt.length g.ac,.slice g.gv k g.cM,.slice g.eF g.ins.length g.cE,.slice g.ct g.outs.length g.bO]:=by rw[eY.cells,qO]
 rw[gc];clear gc;refine aK λgS dy gY=>?_;refine dy _ _ _ ?_;refine aK λgO dx eG=>?_;refine aW (λq=>absurd q (by omega)) (λ_=>?_);refine aW (λq=>absurd q (by omega)) (λ_=>?_);refine aW (λq=>absurd q (by omega)) (λ_=>?_);refine dx _ _ _ ?_;refine aK λgu df fK=>?_;refine .mk Nat [2,3,25,26,27] (λi=>[.p 0 0,.p 1 0,.v (.slice A k c),.v (R k),.v (R i)]) (λ_=>[.own [.v (.string g.dD),.v (.slice g.hf g.bt.length g.ac),.v (.slice g.gv k g.cM),.v (.slice g.eF g.ins.length g.cE),.v (.slice g.ct g.outs.length g.bO)] 26,.own [.v (.slice A k c),.v (R T)] 37]) (λi U=>U=h/\i<=k) (λi=>k-i) 0 (λ_=>rfl) ⟨rfl,cO _⟩ rfl rfl ?_;rintro i e U ⟨rfl,ag⟩;refine aK λgk ed eH=>?_;refine ed _ _ _ ?_;refine aK λhA dY hL=>?_;refine aW (λq=>?_) (λq=>?_);have ea:i<k:=by omega
 obtain⟨f1,f2,f3⟩:=az i (by omega) (by omega);have h1:(bC.map cH)[i]?=some (cH bC[i]):=by rw[dV,bZ];rfl
 have ab:(g.cp.map GE.cells)[i]?=some (GE.cells g.cp[i]):=by rw[dV,bZ];rfl
 generalize bC[i]=x at f1 f2 f3 h1;generalize g.cp[i]=y at f3 ab;obtain⟨eJ,cG⟩:=mE.cc (by omega);obtain⟨Co,cV⟩:=xt.cc (by omega);have uL:=mE.row cG h1;have xd:=xt.row cV ab;refine dY _ _ _ ?_;refine aK λhc eT hi=>?_;refine fG λkb fE i'=>?_;refine aK λkc gg j1=>?_;refine .mk eJ cG (by omega) (by omega) ?_;refine .hp (cH x) rfl (by rw[bq];exact uL) ?_;refine gg _ _ _ ?_;refine aK λko g' ja=>?_;refine aW (λq=>absurd q (by omega)) (λ_=>?_);refine aW (λq=>absurd q (by omega)) (λ_=>?_);refine .mk Co cV (by omega) (by omega) ?_;refine .hp (.slice y.A y.n y.c) (by rw[bq];exact xd 4 _ rfl) ?_;refine aW (λq=>absurd q (by omega)) (λ_=>?_);refine .ok (by omega) (by omega) ?_;refine g' _ _ _ ?_;refine aW (λq=>absurd q (by omega)) (λ_=>?_);refine i' _ _ _ _ nofun ?_;refine eT _ _ _ ?_;refine .ok (by omega) (by omega) ?_;refine⟨i+1,rfl,rfl,⟨rfl,by omega⟩,by show k- (i+1)<k-i;omega⟩;refine hL _ _ _ _ nofun ?_;refine df _ _ _ ?_;exact .done ⟨rfl,rfl⟩
structure b6 where
 k:Nat
 a:Int
 b:Int
 deriving DecidableEq
variable {l:List b6}
def b6.cells(x:b6):List ao:=[.int .u8 x.k,R x.a,R x.b]
def gJ(l:List b6):List ao:=(l.map b6.cells).flatten
theorem Ba:∀l,(gJ l).length=l.length*3
 |[]=>rfl
 |x::l=>by
  have:=Ba l;simp only[gJ,eO,qr,fb,gI]at this⊢;rw[this];simp[b6.cells];omega
theorem FQ(l m:List b6):gJ (l++m)=gJ l++gJ m:=by simp[gJ]
theorem Dn:∀l,∀u∈gJ l,u.oneCell'=true:=λl u hu=>by
 obtain⟨r,am,hu⟩:=aho.1 hu;obtain⟨x,_,rfl⟩:=dn.1 am;simp only[b6.cells,List.mem_cons,List.not_mem_nil,or_false]at hu;rcases hu with rfl|rfl|rfl<;>rfl
theorem bz.split{bs size:Nat}{g:ar}{xs:List ao}(r:bz h bs size (some g) n c xs):∃b ax,g=⟨b,0,none⟩/\h b=some (.cells (xs++ax).toArray bs (0,0))/\ax.length=(c-n)*size/\n<=c/\c<=c'/\xs.length=n*size:=by
 obtain⟨aM,⟨q,_⟩|⟨b,a8,q,af,aD,bj,bT,dz⟩⟩:=r;cases q;injection q with q;refine⟨b,a8.toList.drop (n*size),q,?_,?_,aD,bj,aM⟩;rw[<-dz,BI];exact af;rw[k1,Array.length_toList,bT,Nat.sub_mul]
theorem OS{bs size bytes:Nat}{cap:Nat}{S:List ao->Prop}{K:aA->List LE->I->Prop}{xs au:List ao}(r:bz h bs size A n cap xs)(aj:S au)(h1:∀u∈au,u.oneCell'=true)(ai:0<m)(ah:au.length=m*size)(hm:n+m<=c')(af:(n+m)*bytes<=140737488355328)(bJ:∀b J,A=some ⟨b,0,none⟩->bz (h.put b J) bs size A (n+m) cap (xs++au)->K (.v (.slice A (n+m) cap)) L (h.put b J))(bB:∀bA c4,bA≠none->n+m<=c4->K (.v (.slice bA (n+m) c4)) (L++[.row bs size bA (n+m) c4 (xs++au)]) h):BB bs size bytes A n cap m S L h K:=by
 rcases A with _|g;obtain⟨aM,⟨_,aD,bj⟩|⟨g,a8,q,_⟩⟩:=r;subst aD bj;obtain rfl:xs=[]:=ahm.1 (by omega);refine .fresh au rfl rfl rfl aj h1 (by omega) (by rwa[dJ]at af) λbA bu aO=>?_;have:=bB bA bu (λe=>by have:=aO.1.1 e;omega) (by omega);rwa[dJ,List.nil_append]at this;cases q;obtain⟨b,ax,rfl,cG,sO,aD,bj,bT⟩:=r.split;refine .mem b 0 (xs++ax) (xs++(au++ax.drop (m*size))) au xs rfl cG aj h1 ai bT (λo u ae=>?_) (λaw=>?_) hm af (λaw=>?_) (λaw b7 bu eZ=>bB _ _ nofun eZ);rw[dJ];obtain⟨en,rfl⟩:=qt.1 ae;rw[N7 en,bZ];have hk:m*size<=(cap-n)*size:=Nat.mul_le_mul_right _ (by omega);have:=SD (ax.take (m*size)) au (ax.drop (m*size)) (by rw[ah,List.length_take];omega) xs;rw[BI]at this;rw[dJ,<-bT];exact this;refine bJ b _ rfl ⟨?_,.inr ⟨b,_,rfl,I.bP _ _ _,aw,bj,?_,?_⟩⟩;rw[fb,ah,bT,ti];have aJ:m*size+(cap-n-m)*size=(cap-n)*size:=by rw[<-ti];congr 1;omega
 have aI:n*size+(cap-n)*size=cap*size:=by rw[<-ti];congr 1;omega
 simp only[List.size_toArray,fb,k1,bT,ah,sO];omega;have:(n+m)*size=(xs++au).length:=by rw[fb,ah,bT,ti]
 rw[this,<-mb];exact List.take_left
structure nd(ai h:I)(aT:Nat)(A:Option ar)(c op cZ:Nat)(F:ao)(l:List b6):Prop where
 le:ai.le h
 c6:ai aT=none
 box:h aT=some (.cells #[.slice A l.length c,R op,R cZ,F] 215 (0,0))
 row:bz h 66 3 A l.length c (gJ l)
 kw:∀g,A=some g->g.block≠aT/\ai g.block=none
theorem SV(w:nd ai h aT A c op cZ F l)(al:l.length<=1000000)(x:b6):Fn aH 74 #[hx aT,.int .u8 x.k,R x.a,R x.b] h λ_ U=>∃bA bu,nd ai U aT bA bu op cZ F (l++[x]):=by
 refine b5 asB rfl ?_;have yZ:(l++[x]).length=l.length+1:=by simp
 refine .hp _ (bN w.box rfl) ?_;refine .done (OS w.row (au:=gJ [x]) rfl (Dn [x]) (by decide) rfl (by simp[c'];omega) (by omega) (λb J aO oo=>?_) (λbA bu aO aw=>?_));have af:=w.kw _ aO;refine .hp aT 0 215 [.slice A l.length c,R op,R cZ,F] [.slice A (l.length+1) c,R op,R cZ,F] rfl (by rw[I.cf _ _ (d9 af.1)];exact w.box) rfl ?_;refine .done ⟨A,c,kT w.c6 (kT af.2 w.le),w.c6,by rw[yZ];exact I.bP _ _ _,?_,w.kw⟩;rw[yZ,FQ];exact bz.ju oo λg ak=>(w.kw g ak).1;refine .hp aT 0 215 [.slice A l.length c,R op,R cZ,F] [.slice bA (l.length+1) bu,R op,R cZ,F] rfl w.box rfl ?_;refine .bV 1 66 3 bA (l.length+1) bu _ rfl λh1 cu am az=>.done ⟨bA,bu,I.le_trans (kT w.c6 w.le) cu,w.c6,?_,?_,λg ak=>?_⟩;rw[yZ];exact cu _ _ (I.bP _ _ _);rw[yZ,FQ];exact am;have q:=az g ak;have bH:g.block≠aT:=λe=>by rw[e,I.bP]at q;cases q
 rw[I.cf _ _ bH]at q;exact⟨bH,I.none_le w.le q⟩
theorem nd.set(w:nd ai h aT A c op cZ F l)(ac3 nw:Nat):nd ai (h.put aT (.cells [.slice A l.length c,R ac3,R nw,F].toArray 215 (0,0))) aT A c ac3 nw F l:=⟨kT w.c6 w.le,w.c6,I.bP _ _ _,bz.ju w.row λg ak=>(w.kw g ak).1,w.kw⟩
theorem Za(w:nd ai h aT A c op cZ F l)(al:l.length<=1000000)(aL:op<=100000)(t:Int):Fn aH 131 #[hx aT,R t] h λv U=>v=R ((l.length+1:Nat):Int)/\∃bA bu,nd ai U aT bA bu (op+1) (max cZ (op+1)) F (l++[⟨1,op,t⟩]):=by
 refine b5 are rfl ?_;refine aK λgS dy gY=>?_;refine dy _ _ _ ?_;refine aK λgO dx eG=>?_;refine .hp _ (bN w.box rfl) ?_;refine .done (.mk _ (SV w al ⟨1,op,t⟩) ?_);rintro _ h1 ⟨iu,c1,cF⟩;have hY:(l++[(⟨1,op,t⟩:b6)]).length=l.length+1:=by simp
 have bL:=cF.box;rw[hY]at bL;refine dx _ _ _ ?_;refine aK λgu df fK=>?_;refine .hp _ (bN cF.box rfl) ?_;refine .ok (by omega) (by omega) ?_;refine .hp aT 1 215 [.slice iu (l.length+1) c1,R op,R cZ,F] [.slice iu (l.length+1) c1,R ((op:Int)+1),R cZ,F] rfl bL rfl ?_;have dw:=cF.set (op+1) cZ;have aJ:R (((op+1:Nat):Int))=R ((op:Int)+1):=by simp
 rw[aJ,hY]at dw;generalize h1.put aT _=ab at dw;refine df _ _ _ ?_;refine aK λgk ed eH=>?_;have cy:=dw.box;rw[hY,aJ]at cy;refine .hp _ (bN cy rfl) ?_;refine .hp _ (bN cy rfl) ?_;refine .hp aT 2 215 [.slice iu (l.length+1) c1,R ((op:Int)+1),R cZ,F] [.slice iu (l.length+1) c1,R ((op:Int)+1),R (max (cZ:Int) ((op:Int)+1)),F] rfl cy rfl ?_;have iI:=dw.set (op+1) (max cZ (op+1));have aI:R (((max cZ (op+1):Nat):Int))=R (max (cZ:Int) ((op:Int)+1)):=ho R (by omega);rw[aJ,aI,hY]at iI;generalize ab.put aT _=an at iI;refine ed _ _ _ ?_;have gE:=iI.box;rw[hY]at gE;refine .hp _ (bN gE rfl) ?_;refine .done ⟨rfl,iu,c1,iI⟩
theorem VQ(w:nd ai h aT A c (op+1) cZ F l)(al:l.length<=1000000)(aL:op<=100000)(t:Int):Fn aH 132 #[hx aT,R t] h λ_ U=>∃bA bu,nd ai U aT bA bu op cZ F (l++[⟨2,op,t⟩]):=by
 refine b5 arf rfl ?_;refine aK λgS dy gY=>?_;refine .hp _ (bN w.box rfl) ?_;refine .ok (by omega) (by omega) ?_;refine .hp aT 1 215 _ [.slice A l.length c,R ((op+1:Nat)-1:Int),R cZ,F] rfl w.box rfl ?_;have dw:=w.set op cZ;rw[show R (op:Int)=R ((op+1:Nat)-1:Int)from ho R (by omega)]at dw;generalize h.put aT _=ab at dw;refine dy _ _ _ ?_;refine .hp _ (bN dw.box rfl) ?_;refine .done (.mk _ (SV dw al ⟨2,op,t⟩) ?_);rintro _ h1 ⟨iu,c1,cF⟩;exact .done ⟨iu,c1,cF⟩
theorem xj(l:List Int):(l.map λz=>[R z]).flatten=l.map R:=by
 induction l with
 |nil=>rfl
 |cons a l bE=>rw[eO,qr,bE];rfl
def zY(h:I)(n:Nat)(xs:List ao)(v:ao)(U:I):Prop:=h.le U/\∃A c,v= .slice A n c/\bz U 3 1 A n c xs/\∀g,A=some g->h g.block=none
theorem ado(A:Option ar)(n c:Nat)(l:List Int)(h:I)(t:bg h 1 A n (l.map λz=>[R z]))(aC:n<=1000000):Fn aH 75 #[.slice A n c] h (zY h n (l.map R)):=by
 have e:=xj l;refine b5 asC rfl ?_;refine .done (.fresh (l.map R) rfl rfl rfl (by rw[<-e];exact t.src _) (λu hu=>by obtain⟨x,_,rfl⟩:=dn.1 hu;rfl) (by simp[c'];omega) (by omega) λbA bu aO=>?_);refine .bV 0 3 1 bA n bu _ rfl λh1 cu am az=>.done ⟨cu,bA,bu,rfl,am,az⟩
theorem adl(A:Option ar)(n c:Nat)(l:List Int)(h:I)(t:bg h 1 A n (l.map λz=>[R z]))(aC:n<=1000000):Fn aH 37 #[.slice A n c] h (zY h n (l.map R)):=by
 have e:=xj l;refine b5 asb rfl ?_;refine .done (.fresh (l.map R) rfl rfl rfl (by rw[<-e];exact t.src _) (λu hu=>by obtain⟨x,_,rfl⟩:=dn.1 hu;rfl) (by simp[c'];omega) (by omega) λbA bu aO=>?_);refine .bV 0 3 1 bA n bu _ rfl λh1 cu am az=>.done ⟨cu,bA,bu,rfl,am,az⟩
theorem Pb(A:Option ar)(n c:Nat)(l:List Int)(h:I)(t:bg h 1 A n (l.map λz=>[R z]))(aC:n<=1000000):Fn aH 136 #[.slice A n c] h (zY h n (l.map R)):=by
 have e:=xj l;refine b5 arh rfl ?_;refine .mk λb af=>?_;refine .done (.cR 1 [] (l.map R) rfl (by rw[<-e];exact t.src _) (λu hu=>by obtain⟨x,_,rfl⟩:=dn.1 hu;rfl) (by simp[c'];omega) (by omega) λbA bu aO=>?_);refine .bV 1 3 1 bA (0+n) bu _ rfl λh1 cu am az=>.done ?_;rw[dJ]at am⊢;exact⟨cu,bA,bu,rfl,am,az⟩
theorem ac8:∀(l:List b6)(p:Nat)(hp:p<l.length)(o:Nat),o<3->(gJ l)[p*3+o]?=l[p].cells[o]?
 |x::l,0,_,o,ae=>by
  show(x.cells++gJ l)[0*3+o]?=_;rw[D0,dJ,N7 (by show o<3;exact ae)];rfl
 |x::l,p+1,hp,o,ae=>by
  show(x.cells++gJ l)[(p+1)*3+o]?=_;rw[show(p+1)*3+o=x.cells.length+(p*3+o) by show _=3+_;omega,List.getElem?_append_right (by omega),Nat.add_sub_cancel_left];exact ac8 l p (by simpa using hp) o ae
theorem ac9:∀(l:List b6)(p:Nat)(hp:p<l.length)(k:Nat)(a:Int),((gJ l).set (p*3) (.int .u8 k)).set (p*3+1) (R a)=gJ (l.set p ⟨k,a,l[p].b⟩)
 |x::l,0,_,k,a=>rfl
 |x::l,p+1,hp,k,a=>by
  show((x.cells++gJ l).set ((p+1)*3) _).set ((p+1)*3+1) _=x.cells++gJ (l.set p _);have ww:p<l.length:=by simpa using hp
  have bE:=ac9 l p ww k a;rw[wU _ _ (by show 3<=_;omega),wU _ _ (by show 3<=_;omega)];show _=x.cells++gJ (l.set p ⟨k,a,l[p].b⟩);rw[<-bE];show x.cells++((gJ l).set ((p+1)*3-3) _).set ((p+1)*3+1-3) _=_;rw[show(p+1)*3-3=p*3 by omega,show(p+1)*3+1-3=p*3+1 by omega]
theorem Mz(b p k:Nat)(a:Int)(l:List b6)(h:I)(af:h b=some (.cells (gJ l).toArray 66 (0,0)))(hp:p<l.length):Fn aH 130 #[.pointer (some ⟨b,p*3,none⟩),.int .u8 k,R a] h λ_ U=>U=h.put b (.cells (gJ (l.set p ⟨k,a,l[p].b⟩)).toArray 66 (0,0)):=by
 refine b5 ard rfl ?_;have al:=Ba l;refine .hp b (p*3) 66 (gJ l) ((gJ l).set (p*3) (.int .u8 k)) (by rw[add_lit];rfl) af (ib _ _ _ (by omega)) ?_;refine .hp b (p*3+1) 66 _ _ (by rw[add_lit]) (I.bP _ _ _) (ib _ _ _ (by rw[k2];omega)) ?_;rw[I.sZ,ac9 l p hp];exact .done rfl
abbrev jI:=Nat×List b6
variable {r:List jI}
def kA(l:List b6):Obj:=.cells (gJ l).toArray 66 (0,0)
def r2(q:jI):ao:=.slice (some ⟨q.1,0,none⟩) q.2.length q.2.length
def eu(n:Nat)(r:List jI):List ao:=r.map r2++bG (n-r.length) (.slice none 0 0)
structure ji(ai h:I)(aU ro:List jI):Prop where
 le:ai.le h
 at_:∀q∈aU++ro,h q.1=some (kA q.2)
 gR:((aU++ro).map kn).Nodup
 new:∀q∈aU++ro,ai q.1=none
section
variable {ai h U:I}{aU ro:List jI}
theorem ji.swap(x:ji ai h aU ro):ji ai h ro aU:=⟨x.le,λq aq=>x.at_ q (by simp only[ev]at aq⊢;exact aq.symm),(ag6 ((List.perm_append_comm).map _)).1 x.gR,λq aq=>x.new q (by simp only[ev]at aq⊢;exact aq.symm)⟩
theorem ji.mono(x:ji ai h aU ro)(le:h.le U):ji ai U aU ro:=⟨I.le_trans x.le le,λq aq=>le _ _ (x.at_ q aq),x.gR,x.new⟩
theorem ji.zero(h:I):ji h h [] []:=⟨I.le_refl _,(by simp),(by simp),(by simp)⟩
theorem ji.Ht(x:ji ai h aU ro)(a6:a<aU.length):h aU[a].1=some (kA aU[a].2):=x.at_ _ (qu _ (cS a6))
theorem axx{l:List jI}(a6:a<l.length)(J:List b6):(l.set a (l[a].1,J)).map kn=l.map kn:=by
 rw[nb];apply vH (by simp);intro i h1 ab;rw[vI];split;rename_i e;subst e;simp;rfl
theorem ji.F6(x:ji ai h aU ro)(a6:a<aU.length)(J:List b6):ji ai (h.put aU[a].1 (kA J)) (aU.set a (aU[a].1,J)) ro:=by
 have hm:aU[a]∈aU++ro:=qu _ (cS a6);have gR:=x.gR;rw[fm]at gR;obtain⟨dF,dR,hZ⟩:=List.nodup_append.1 gR;have inj:∀{i:Nat}(ag:i<aU.length),aU[i].1=aU[a].1->i=a:=λag e=>Sj dF (by simpa using ag) (by simpa using a6) (by simpa using e);refine⟨zj x.le (x.new _ hm),λq aq=>?_,?_,λq aq=>?_⟩;rcases ev.1 aq with aq|aq;obtain⟨i,ag,rfl⟩:=rb aq;have ea:i<aU.length:=by simpa using ag
 rw[vI];split;exact I.bP _ _ _;rename_i e;rw[I.ju (λq=>e (inj ea q).symm)];exact x.Ht ea;rw[I.ju (λe=>hZ _ (dn.2 ⟨_,cS a6,rfl⟩) _ (dn.2 ⟨q,aq,rfl⟩) e.symm)];exact x.at_ q (wT _ aq);rw[fm,axx a6,<-fm];exact x.gR;rcases ev.1 aq with aq|aq;obtain⟨i,ag,rfl⟩:=rb aq;have ea:i<aU.length:=by simpa using ag
 rw[vI];split;exact x.new aU[a] hm;exact x.new _ (qu _ (cS ea));exact x.new q (wT _ aq)
end
theorem adc(h:r.length<=n):(eu n r).length=n:=by simp[eu];omega
theorem I1(ag:i<r.length):(eu n r)[i]?=some (r2 r[i]):=by
 rw[eu,N7 (by simpa using ag),dV,bZ ag];rfl
theorem ade(h:r.length<n)(q:jI):(eu n r).set r.length (r2 q)=eu n (r++[q]):=by
 unfold eu;rw[wU _ _ (by simp),ih,yq,fm,mb,fb];congr 1;obtain⟨d,aB⟩:∃d,n-r.length=d+1:=⟨n-r.length-1,by omega⟩;rw[aB,show n- (r.length+[q].length)=d by simp;omega];rfl
theorem avf(n:Nat):eu n []=bG n (.slice none 0 0):=by simp[eu]
theorem MD(a6:a<r.length){J:List b6}(al:J.length=r[a].2.length):eu n (r.set a (r[a].1,J))=eu n r:=by
 unfold eu;rw[k2];congr 1;apply vH (by simp);intro i h1 ab;simp only[List.getElem_map,vI];split;rename_i e;subst e;simp[r2,al];rfl
def j7(eg:List Int)(k:Nat):List b6:=((eg.take k).map λr=>⟨0,0,r⟩)++bG (eg.length-k) ⟨0,0,0⟩
theorem S1(h:k<=eg.length):(j7 eg k).length=eg.length:=by simp[j7];omega
theorem adO(h:k<eg.length):(j7 eg k).set k ⟨0,0,eg[k]⟩=j7 eg (k+1):=by
 unfold j7;rw[wU _ _ (by simp;omega),kh h,fm,mb];congr 1;obtain⟨d,aB⟩:∃d,eg.length-k=d+1:=⟨eg.length-k-1,by omega⟩;rw[aB,show eg.length- (k+1)=d by omega,show k- (List.map (λr=>(⟨0,0,r⟩:b6)) (List.take k eg)).length=0 by simp;omega];rfl
theorem adM(eg:List Int):j7 eg eg.length=eg.map λr=>⟨0,0,r⟩:=by simp[j7]
theorem adN(h:k<eg.length):∃hk:k<(j7 eg k).length,(j7 eg k)[k]=⟨0,0,0⟩:=by
 refine⟨by rw[S1 (by omega)];exact h,?_⟩;simp only[j7];rw[List.getElem_append_right (by simp;omega)];simp
theorem SA:∀(l:List b6)(p:Nat)(hp:p<l.length)(z:Int),(gJ l).set (p*3+2) (R z)=gJ (l.set p ⟨l[p].k,l[p].a,z⟩)
 |x::l,0,_,z=>rfl
 |x::l,p+1,hp,z=>by
  have ww:p<l.length:=by simpa using hp
  have bE:=SA l p ww z;show(x.cells++gJ l).set ((p+1)*3+2) _=x.cells++gJ (l.set p ⟨l[p].k,l[p].a,z⟩);rw[wU _ _ (by show 3<=_;omega),<-bE];show x.cells++(gJ l).set ((p+1)*3+2-3) _=_;rw[show(p+1)*3+2-3=p*3+2 by omega]
theorem as6(Q:dL)(e:bY)(g0 g1 g2 g3 g4 a0 cP a2:ao)(h:I)(n k nZ l3 mL kd c2 kw:Nat)(a1 bh:ar)(oF oG:List ao)(eg:List Int)(ya ug ND:Option ar)(R8:Nat)(hk:k<n)(nC:oF.length=n)(eC:oF[k]?=some (.slice (some ⟨nZ,0,none⟩) eg.length eg.length))(af:h nZ=some (kA (j7 eg 0)))(oY:bg h 1 ya l3 (eg.map λz=>[R z]))(bH:∀g,ya=some g->0<l3->g.block≠nZ)(aC:l3<=1000)(he:[1,3,4,5,8,31,32,33,59,60,61].map e=[.p 0 0,.v (.slice (some a1) n n),.v (.slice (some bh) n n),.v (R k),.v (.slice ND R8 c2),.v (.slice ug kw mL),.v (R kw),.v (R k),.v (.slice ya l3 kd),.v (R l3),.v (R (0:Nat))])(cD:∀e,[1,3,4,5,8,31,32,33].map e=[.p 0 0,.v (.slice (some a1) n n),.v (.slice (some bh) n n),.v (R k),.v (.slice ND R8 c2),.v (.slice ug kw mL),.v (R kw),.v (R k)]->Q (.exit 2) e [.own [.v g0,.v g1,.v g2,.v g3,.v g4] 26,.row 40 1 (some a1) n n oF,.row 40 1 (some bh) n n oG,.own [.v a0,.v cP,.v a2] 96,.gone,.gone] (h.put nZ (kA (eg.map λr=>⟨0,0,r⟩)))):kH (λQ e L h=>c7 aH 194 Ro Q e L h) Q e [.own [.v g0,.v g1,.v g2,.v g3,.v g4] 26,.row 40 1 (some a1) n n oF,.row 40 1 (some bh) n n oG,.own [.v a0,.v cP,.v a2] 96,.gone,.gone] h:=by
 have al:eg.length=l3:=by simpa using oY.len
 refine .mk Nat [1,3,4,5,8,31,32,33,59,60,61] (λo=>[.p 0 0,.v (.slice (some a1) n n),.v (.slice (some bh) n n),.v (R k),.v (.slice ND R8 c2),.v (.slice ug kw mL),.v (R kw),.v (R k),.v (.slice ya l3 kd),.v (R l3),.v (R o)]) (λ_=>[.own [.v g0,.v g1,.v g2,.v g3,.v g4] 26,.row 40 1 (some a1) n n oF,.row 40 1 (some bh) n n oG,.own [.v a0,.v cP,.v a2] 96,.gone,.gone]) (λo U=>U=h.put nZ (kA (j7 eg o))/\o<=l3) (λo=>l3-o) 0 (λ_=>rfl) ⟨(I.rW af).symm,cO _⟩ he rfl ?_;rintro o e U ⟨rfl,ae⟩;refine aK λgS dy gY=>?_;refine dy _ _ _ ?_;refine aK λgO dx eG=>?_;refine aW (λq=>?_) (λq=>?_);have en:o<eg.length:=by omega
 obtain⟨e4,gA⟩:=oY.cc (by omega);have kd:=C6 oY gA (i:=o) (by omega);have iY:eg.getD o 0=eg[o]:=by rw[cN,bZ en];rfl
 rw[iY]at kd;obtain⟨QH,ck⟩:=adN en;have CK:=S1 (eg:=eg) (k:=o) (by omega);have Ah:(h.put nZ (kA (j7 eg o))).cell? (e4.add (o*1))=some (R eg[o]):=(C6 (oY.FW bH) gA (i:=o) (by omega)).trans (by rw[iY]);have st:=SA (j7 eg o) o QH eg[o];rw[ck,adO en]at st;generalize eg[o]=x at Ah st;refine dx _ _ _ ?_;refine aK λgu df fK=>?_;refine fG λgk ed eH=>?_;refine aK λhA dY hL=>?_;refine .mk e4 gA (by omega) (by omega) ?_;refine .hp _ (by rw[bq];exact Ah) ?_;refine dY _ _ _ ?_;refine .mk a1 rfl (by omega) (by omega) ?_;refine .row 1 40 1 a1 n n oF _ _ rfl (by rw[bq]) (by rw[ew];exact eC) ?_;refine .mk _ rfl (by omega) (by omega) ?_;refine .hp nZ (o*3+2) 66 _ _ (by rw[bq,add_lit,add_lit];simp) (I.bP _ _ _) (ib _ _ _ (by rw[Ba];omega)) ?_;rw[I.sZ,st];refine eH _ _ _ _ nofun ?_;refine df _ _ _ ?_;refine .ok (by omega) (by omega) ?_;exact⟨o+1,rfl,rfl,⟨rfl,by omega⟩,by show l3- (o+1)<l3-o;omega⟩;refine eG _ _ _ _ nofun ?_;have QG:o=eg.length:=by omega
 rw[QG,adM];exact cD _ rfl
theorem as7(Q:dL)(e:bY)(g0 g1 g2 g3 g4 a0 cP a2:ao)(h:I)(n k nZ l3 mL kd kw:Nat)(a1 bh:ar)(oF oG:List ao)(eg:List Int)(ya ug:Option ar)(hk:k<n)(nC:oG.length=n)(eC:oG[k]?=some (.slice (some ⟨nZ,0,none⟩) eg.length eg.length))(af:h nZ=some (kA (j7 eg 0)))(oY:bg h 1 ya l3 (eg.map λz=>[R z]))(bH:∀g,ya=some g->0<l3->g.block≠nZ)(aC:l3<=1000)(he:[1,3,4,5,31,32,33,75,76,77].map e=[.p 0 0,.v (.slice (some a1) n n),.v (.slice (some bh) n n),.v (R k),.v (.slice ug kw mL),.v (R kw),.v (R k),.v (.slice ya l3 kd),.v (R l3),.v (R (0:Nat))])(cD:∀e,[1,3,4,31,32,33].map e=[.p 0 0,.v (.slice (some a1) n n),.v (.slice (some bh) n n),.v (.slice ug kw mL),.v (R kw),.v (R k)]->Q (.exit 4) e [.own [.v g0,.v g1,.v g2,.v g3,.v g4] 26,.row 40 1 (some a1) n n oF,.row 40 1 (some bh) n n oG,.own [.v a0,.v cP,.v a2] 96,.gone,.gone] (h.put nZ (kA (eg.map λr=>⟨0,0,r⟩)))):kH (λQ e L h=>c7 aH 194 Rp Q e L h) Q e [.own [.v g0,.v g1,.v g2,.v g3,.v g4] 26,.row 40 1 (some a1) n n oF,.row 40 1 (some bh) n n oG,.own [.v a0,.v cP,.v a2] 96,.gone,.gone] h:=by
 have al:eg.length=l3:=by simpa using oY.len
 refine .mk Nat [1,3,4,5,31,32,33,75,76,77] (λo=>[.p 0 0,.v (.slice (some a1) n n),.v (.slice (some bh) n n),.v (R k),.v (.slice ug kw mL),.v (R kw),.v (R k),.v (.slice ya l3 kd),.v (R l3),.v (R o)]) (λ_=>[.own [.v g0,.v g1,.v g2,.v g3,.v g4] 26,.row 40 1 (some a1) n n oF,.row 40 1 (some bh) n n oG,.own [.v a0,.v cP,.v a2] 96,.gone,.gone]) (λo U=>U=h.put nZ (kA (j7 eg o))/\o<=l3) (λo=>l3-o) 0 (λ_=>rfl) ⟨(I.rW af).symm,cO _⟩ he rfl ?_;rintro o e U ⟨rfl,ae⟩;refine aK λgS dy gY=>?_;refine dy _ _ _ ?_;refine aK λgO dx eG=>?_;refine aW (λq=>?_) (λq=>?_);have en:o<eg.length:=by omega
 obtain⟨e4,gA⟩:=oY.cc (by omega);have kd:=C6 oY gA (i:=o) (by omega);have iY:eg.getD o 0=eg[o]:=by rw[cN,bZ en];rfl
 rw[iY]at kd;obtain⟨QH,ck⟩:=adN en;have CK:=S1 (eg:=eg) (k:=o) (by omega);have Ah:(h.put nZ (kA (j7 eg o))).cell? (e4.add (o*1))=some (R eg[o]):=(C6 (oY.FW bH) gA (i:=o) (by omega)).trans (by rw[iY]);have st:=SA (j7 eg o) o QH eg[o];rw[ck,adO en]at st;generalize eg[o]=x at Ah st;refine dx _ _ _ ?_;refine aK λgu df fK=>?_;refine fG λgk ed eH=>?_;refine aK λhA dY hL=>?_;refine .mk e4 gA (by omega) (by omega) ?_;refine .hp _ (by rw[bq];exact Ah) ?_;refine dY _ _ _ ?_;refine .mk bh rfl (by omega) (by omega) ?_;refine .row 2 40 1 bh n n oG _ _ rfl (by rw[bq]) (by rw[ew];exact eC) ?_;refine .mk _ rfl (by omega) (by omega) ?_;refine .hp nZ (o*3+2) 66 _ _ (by rw[bq,add_lit,add_lit];simp) (I.bP _ _ _) (ib _ _ _ (by rw[Ba];omega)) ?_;rw[I.sZ,st];refine eH _ _ _ _ nofun ?_;refine df _ _ _ ?_;refine .ok (by omega) (by omega) ?_;exact⟨o+1,rfl,rfl,⟨rfl,by omega⟩,by show l3- (o+1)<l3-o;omega⟩;refine eG _ _ _ _ nofun ?_;have QG:o=eg.length:=by omega
 rw[QG,adM];exact cD _ rfl
def sH(a:h8):List b6:=(bD a.tag a.be).2.1.map λr=>⟨0,0,r⟩
def sX(a:h8):List b6:=(bD a.tag a.be).2.2.map λr=>⟨0,0,r⟩
theorem Fx(m:Nat):(rO (#[.int .u8 0,R 0,R 0]:Array ao) (m*3)).toList=gJ (bG m ⟨0,0,0⟩):=by
 apply ahb;intro o;unfold rO;rw[Array.getElem?_toList,Array.getElem?_map,Array.getElem?_range];by_cases ae:o<m*3;rw[aX ae];have an:=ac8 (bG m ⟨0,0,0⟩) (o/3) (by simp;omega) (o%3) (Nat.mod_lt _ (by decide));rw[show o/3*3+o%3=o by omega]at an;rw[an,List.getElem_replicate];have:o%3=0\/o%3=1\/o%3=2:=by omega
 rcases this with e|e|e<;>simp[e,b6.cells];rw[aE ae,qs (by rw[Ba];simp;omega)];rfl
theorem awE(Q:dL)(e:bY)(g0 g1 g2 g3 g4 a0 cP a2:ao)(X Y:LE)(an:I)(n k c1 c2 kw mL:Nat)(a1 bh dQ gc:ar)(oF oG:List ao)(e2 fL:List Int)(iu dE ug:Option ar)(hk:k<n)(kS:oF.length=n)(tS:oG.length=n)(az4:oF[k]?=some (.slice (some dQ) e2.length e2.length))(az5:oG[k]?=some (.slice (some gc) fL.length fL.length))(t1:bg an 1 iu e2.length (e2.map λz=>[R z]))(t2:bg an 1 dE fL.length (fL.map λz=>[R z]))(s1:e2.length<=16)(s2:fL.length<=16)(he:[1,3,4,5,7,8,31,32,33].map e=[.p 0 0,.v (.slice (some a1) n n),.v (.slice (some bh) n n),.v (R k),.v (.slice iu e2.length c1),.v (.slice dE fL.length c2),.v (.slice ug kw mL),.v (R kw),.v (R k)])
 (sC:∀K:List LE->I->Prop,(∀h,an.le h->h dQ.block=some (kA (j7 e2 0))->h gc.block=some (kA (j7 fL 0))->an dQ.block=none->an gc.block=none->dQ.block≠gc.block->dQ=⟨dQ.block,0,none⟩->gc=⟨gc.block,0,none⟩->K [.own [.v g0,.v g1,.v g2,.v g3,.v g4] 26,.row 40 1 (some a1) n n oF,.row 40 1 (some bh) n n oG,.own [.v a0,.v cP,.v a2] 96,.gone,.gone] h)->
  e9 K [.own [.v g0,.v g1,.v g2,.v g3,.v g4] 26,.row 40 1 (some a1) n n oF,.row 40 1 (some bh) n n oG,.own [.v a0,.v cP,.v a2] 96,X,Y] an)
 (cD:∀e h,an.le h->h dQ.block=some (kA (e2.map λr=>⟨0,0,r⟩))->h gc.block=some (kA (fL.map λr=>⟨0,0,r⟩))->an dQ.block=none->an gc.block=none->dQ.block≠gc.block->dQ=⟨dQ.block,0,none⟩->gc=⟨gc.block,0,none⟩->[1,3,4,31,32,33].map e=[.p 0 0,.v (.slice (some a1) n n),.v (.slice (some bh) n n),.v (.slice ug kw mL),.v (R kw),.v (R k)]->Q .normal e [.own [.v g0,.v g1,.v g2,.v g3,.v g4] 26,.row 40 1 (some a1) n n oF,.row 40 1 (some bh) n n oG,.own [.v a0,.v cP,.v a2] 96,.gone,.gone] h):
 c7 aH 194 (.seq (.seq (.ch aaM) (.block 2 (.loop Ro))) (.seq (.ch aaL) (.block 4 (.loop Rp)))) Q e [.own [.v g0,.v g1,.v g2,.v g3,.v g4] 26,.row 40 1 (some a1) n n oF,.row 40 1 (some bh) n n oG,.own [.v a0,.v cP,.v a2] 96,X,Y] an:=by
 rw[<-fr [1,3,4,5,7,8,31,32,33] e,he]
 refine aK λgS dy gY=>?_
 refine aK λgO dx eG=>?_
 refine dx _ _ _ ?_
 refine fG λgu df fK=>?_
 refine .lj (sC _ λh cu gf hO FB oV bH cK cM=>?_)
 have b9:∀{A:Option ar}{l:List Int}{b:Nat},bg an 1 A l.length (l.map λz=>[R z])->an b=none->∀g,A=some g->0<l.length->g.block≠b:=λt af g ak ai e=>by
  subst ak;exact t.mem (by omega) (by rw[e];exact af)
 refine as6 _ _ g0 g1 g2 g3 g4 a0 cP a2 h n k dQ.block e2.length mL c1 c2 kw a1 bh oF oG e2 iu ug dE fL.length hk kS (az4.trans (by rw[<-cK])) gf (t1.mono cu) (b9 t1 FB) (by omega) rfl λaI gD=>?_
 refine df _ _ _ (dy _ _ _ ?_)
 rw[<-fr [1,3,4,5,8,31,32,33] aI,gD]
 refine aK λgk ed eH=>?_
 refine ed _ _ _ ?_
 refine fG λhA dY hL=>?_
 have al8:(h.put dQ.block (kA (e2.map λr=>⟨0,0,r⟩))) gc.block=some (kA (j7 fL 0)):=by rw[I.cf _ _ bH.symm];exact hO
 refine .lj (.done (as7 _ _ g0 g1 g2 g3 g4 a0 cP a2 _ n k gc.block fL.length mL c2 kw a1 bh oF oG fL dE ug hk tS (az5.trans (by rw[<-cM])) al8 ((t2.mono cu).FW (b9 t2 FB)) (b9 t2 oV) (by omega) rfl λck sq=>?_))
 refine dY _ _ _ (cD _ _ (zj (zj cu FB) oV) ?_ (I.bP _ _ _) FB oV bH cK cM sq)
 rw[I.cf _ _ bH];exact I.bP _ _ _
theorem F4{dQ:ar}(r:bz h 66 3 (some dQ) m c (gJ l))(e:c=m):dQ=⟨dQ.block,0,none⟩/\h dQ.block=some (kA l):=by
 obtain⟨b,ax,rfl,cG,sO,_⟩:=r.split;subst e;rw[yq,D0]at sO;rw[ahm.1 sO,List.append_nil]at cG;exact⟨rfl,cG⟩
theorem F0(eg:List Int):j7 eg 0=bG eg.length ⟨0,0,0⟩:=by simp[j7]
theorem ji.Vw{aU ro:List jI}(x:ji ai h aU ro)(ne:∀q∈aU++ro,q.1≠b)(c6:ai b=none)(k8:h b=some (kA l)):ji ai h (aU++[(b,l)]) ro:=by
 have mem:∀q,q∈(aU++[(b,l)])++ro->q=(b,l)\/q∈aU++ro:=λq aq=>by
  simp only[ev,fx]at aq⊢;rcases aq with(h|h)|h<;>simp[h]
 refine⟨x.le,λq aq=>?_,?_,λq aq=>?_⟩;rcases mem q aq with rfl|aq;exact k8;exact x.at_ q aq;have p:((b,l)::(aU++ro)).Perm ((aU++[(b,l)])++ro):=by
  rw[mb];exact(List.perm_middle).symm
 refine(ag6 (p.map _)).1 ?_;rw[eO,List.nodup_cons];exact⟨λhm=>by obtain⟨q,aq,e⟩:=dn.1 hm;exact ne q aq e,x.gR⟩;rcases mem q aq with rfl|aq;exact c6;exact x.new q aq
theorem ji.aiE{U:I}{aU ro:List jI}(x:ji ai h aU ro)(le:h.le U){m:List b6}(af:h b=none)(aw:h c=none)(bH:b≠c)(k8:U b=some (kA l))(eZ:U c=some (kA m)):ji ai U (aU++[(b,l)]) (ro++[(c,m)]):=by
 have ne:∀{b},h b=none->∀q∈aU++ro,q.1≠b:=λaf q aq e=>by have:=x.at_ q aq;rw[e,af]at this;cases this
 have y:=((x.mono le).Vw (ne af) (I.none_le x.le af) k8).swap;refine(y.Vw (λq aq=>?_) (I.none_le x.le aw) eZ).swap;have:q∈aU++ro\/q=(b,l):=by
  simp only[ev,fx]at aq⊢;rcases aq with h|h|h<;>simp[h]
 rcases this with h|rfl;exact ne aw q h;exact bH
theorem awS(Q:dL)(e:bY)(g:eY)(ai h:I)(n:Nat)(a1 bh:ar)(ok:g.ok ai)(aC:g.bt.length=n)(rG:n<=1000)(le:ai.le h)(g0 g2 g3 g4:ao)(he:[1,3,4,31,32,33].map e=[.p 0 0,.v (.slice (some a1) n n),.v (.slice (some bh) n n),.v (.slice g.hf n g.ac),.v (R n),.v (R (0:Nat))])(cD:∀e U aU ro,[1,3,4].map e=[.p 0 0,.v (.slice (some a1) n n),.v (.slice (some bh) n n)]->ji ai U aU ro->aU.map ek=g.bt.map sH->ro.map ek=g.bt.map sX->Q (.exit 0) e [.own [.v g0,.v (.slice g.hf n g.ac),.v g2,.v g3,.v g4] 26,.row 40 1 (some a1) n n (eu n aU),.row 40 1 (some bh) n n (eu n ro)] U):te (λQ e L h=>c7 aH 194 aqw Q e L h) Q e [.own [.v g0,.v (.slice g.hf n g.ac),.v g2,.v g3,.v g4] 26,.row 40 1 (some a1) n n (eu n []),.row 40 1 (some bh) n n (eu n [])] h:=by
 have cQ:ji ai h [] []:=(ji.zero ai).mono le;refine .mk (Nat×List jI×List jI) [1,3,4,31,32,33] (λ(k,_,_)=>[.p 0 0,.v (.slice (some a1) n n),.v (.slice (some bh) n n),.v (.slice g.hf n g.ac),.v (R n),.v (R k)]) (λ(_,aU,ro)=>[.own [.v g0,.v (.slice g.hf n g.ac),.v g2,.v g3,.v g4] 26,.row 40 1 (some a1) n n (eu n aU),.row 40 1 (some bh) n n (eu n ro)]) (λ(k,aU,ro) U=>ji ai U aU ro/\k<=n/\aU.map ek=(g.bt.take k).map sH/\ro.map ek=(g.bt.take k).map sX) (λ(k,_,_)=>n-k) (0,[],[]) (λ_=>rfl) ⟨cQ,cO _,rfl,rfl⟩ he rfl ?_;rintro⟨k,aU,ro⟩ e U ⟨x,hk,iA,mN⟩;refine aK λgS dy gY=>?_;refine dy _ _ _ ?_;refine aK λgO dx eG=>?_;refine aW (λq=>?_) (λq=>?_);have br:k<g.bt.length:=by omega
 obtain⟨ez,aO⟩:=ok.bt.cc (by omega);have aB:(g.bt.map h8.cells)[k]?=some (h8.cells g.bt[k]):=by rw[dV,bZ br];rfl
 have mL:=(ok.bt.mono x.le).row aO aB;have vn:=ok.act _ (cS br);have hS:g.bt.take (k+1)=g.bt.take k++[g.bt[k]]:=kh br;have kS:aU.length=k:=by have:=ho e7 iA;simp at this;omega
 have tS:ro.length=k:=by have:=ho e7 mN;simp at this;omega
 generalize g.bt[k]=a at mL vn hS;refine dx _ _ _ ?_;refine aK λgu df fK=>?_;refine fG λgk ed eH=>?_;refine aK λhA dY hL=>?_;refine .mk ez aO (by omega) (by omega) ?_;refine .hp a.cells rfl (by rw[bq];exact mL) ?_;refine dY _ _ _ ?_;refine aK λhc eT hi=>?_;refine .done (.mk _ (FK _ _ _ _ a.be _ (vn.dG.mono x.le) vn.n8) ?_);rintro _ an ⟨_,_,rfl,dZ,⟨iu,c1,rfl,fv,f1⟩,⟨dE,c2,rfl,dU,f2⟩⟩;have ig:=x.mono dZ;have LF:=zz a.tag a.be;obtain⟨e2,xC⟩:∃t,t=(bD a.tag a.be).2.1:=⟨_,rfl⟩;obtain⟨fL,tP⟩:∃t,t=(bD a.tag a.be).2.2:=⟨_,rfl⟩;have aow:sH a=e2.map λr=>⟨0,0,r⟩:=by rw[sH,xC]
 have aox:sX a=fL.map λr=>⟨0,0,r⟩:=by rw[sX,tP]
 obtain⟨qQ,iK⟩:=LF;rw[<-xC]at fv qQ;rw[<-tP]at dU iK;rw[<-xC,<-tP];generalize(bD a.tag a.be).1=Ca;have as2:(eu n aU).length=n:=adc (by omega);have as4:(eu n ro).length=n:=adc (by omega);refine eT _ _ _ ?_;have fin:∀(e:bY)(X Y:LE)(dQ gc:ar),[1,3,4,5,7,8,31,32,33].map e=[.p 0 0,.v (.slice (some a1) n n),.v (.slice (some bh) n n),.v (R k),.v (.slice iu e2.length c1),.v (.slice dE fL.length c2),.v (.slice g.hf n g.ac),.v (R n),.v (R k)]->
  (∀K:List LE->I->Prop,(∀h,an.le h->h dQ.block=some (kA (j7 e2 0))->h gc.block=some (kA (j7 fL 0))->an dQ.block=none->an gc.block=none->dQ.block≠gc.block->dQ=⟨dQ.block,0,none⟩->gc=⟨gc.block,0,none⟩->K [.own [.v g0,.v (.slice g.hf n g.ac),.v g2,.v g3,.v g4] 26,.row 40 1 (some a1) n n ((eu n aU).set k (.slice (some dQ) e2.length e2.length)),.row 40 1 (some bh) n n ((eu n ro).set k (.slice (some gc) fL.length fL.length)),.own [.v (.string a.dD),.v (.int .u8 a.tag),.v (.slice a.A a.n a.c)] 96,.gone,.gone] h)->
   e9 K [.own [.v g0,.v (.slice g.hf n g.ac),.v g2,.v g3,.v g4] 26,.row 40 1 (some a1) n n ((eu n aU).set k (.slice (some dQ) e2.length e2.length)),.row 40 1 (some bh) n n ((eu n ro).set k (.slice (some gc) fL.length fL.length)),.own [.v (.string a.dD),.v (.int .u8 a.tag),.v (.slice a.A a.n a.c)] 96,X,Y] an)->
  c7 aH 194 (.seq (.seq (.ch aaM) (.block 2 (.loop Ro))) (.seq (.ch aaL) (.block 4 (.loop Rp)))) gk e [.own [.v g0,.v (.slice g.hf n g.ac),.v g2,.v g3,.v g4] 26,.row 40 1 (some a1) n n ((eu n aU).set k (.slice (some dQ) e2.length e2.length)),.row 40 1 (some bh) n n ((eu n ro).set k (.slice (some gc) fL.length fL.length)),.own [.v (.string a.dD),.v (.int .u8 a.tag),.v (.slice a.A a.n a.c)] 96,X,Y] an:=by
  intro e X Y dQ gc he sC
  refine awE gk e g0 _ g2 g3 g4 _ _ _ X Y an n k c1 c2 n g.ac a1 bh dQ gc _ _ e2 fL iu dE g.hf (by omega) (by rw[k2,as2]) (by rw[k2,as4]) (by rw[ahj (by omega)]) (by rw[ahj (by omega)]) fv.jr dU.jr qQ iK he sC ?_
  intro e h cu gf hO FB oV bH cK cM gD
  refine eH _ _ _ _ nofun (df _ _ _ ?_)
  rw[<-fr [1,3,4,31,32,33] e,gD]
  refine .ok (by omega) (by omega) ?_
  refine⟨(k+1,aU++[(dQ.block,e2.map λr=>⟨0,0,r⟩)],ro++[(gc.block,fL.map λr=>⟨0,0,r⟩)]),rfl,?_,⟨ig.aiE cu FB oV bH gf hO,by omega,?_,?_⟩,by show n- (k+1)<n-k;omega⟩
  have s1:=ade (n:=n) (r:=aU) (by omega) (dQ.block,e2.map λr=>(⟨0,0,r⟩:b6))
  have s2:=ade (n:=n) (r:=ro) (by omega) (gc.block,fL.map λr=>(⟨0,0,r⟩:b6))
  rw[r2,<-cK,kS,ih]at s1
  rw[r2,<-cM,tS,ih]at s2
  show[_,LE.row 40 1 (some a1) n n _,LE.row 40 1 (some bh) n n _]=[_,LE.row 40 1 (some a1) n n _,LE.row 40 1 (some bh) n n _]
  rw[s1,s2]
  rw[hS,fm,fm,iA,GL,GL,aow]
  rw[hS,fm,fm,mN,GL,GL,aox]
 refine aK λkb fE i'=>?_;refine⟨?_,?_⟩;refine .mk e2.length rfl rfl (by omega) (by omega) λdQ=>?_;refine .mk a1 rfl (by omega) (by omega) ?_;refine⟨?_,?_⟩;refine .mk fL.length rfl rfl (by omega) (by omega) λgc=>?_;refine .row 1 40 1 a1 n n (eu n aU) ((eu n aU).set k (.slice (some dQ) e2.length e2.length)) k rfl (by rw[bq,ew]) (ib _ _ _ (by omega)) ?_;refine .mk bh rfl (by omega) (by omega) ?_;refine .row 2 40 1 bh n n (eu n ro) ((eu n ro).set k (.slice (some gc) fL.length fL.length)) k rfl (by rw[bq,ew]) (ib _ _ _ (by omega)) ?_;refine fE _ _ _ ?_;refine fin _ _ _ dQ gc rfl λK eR=>?_;refine .bV 4 66 3 (some dQ) e2.length e2.length _ rfl λaR cW fT f4=>.bV 5 66 3 (some gc) fL.length fL.length _ rfl λcg fW mA f5=>.done ?_;have fT:bz aR 66 3 (some dQ) e2.length e2.length (gJ (j7 e2 0)):=by rw[F0,<-Fx];exact fT
 have mA:bz cg 66 3 (some gc) fL.length fL.length (gJ (j7 fL 0)):=by rw[F0,<-Fx];exact mA
 obtain⟨aM,aD⟩:=F4 fT rfl;obtain⟨bj,bT⟩:=F4 mA rfl;have ne:dQ.block≠gc.block:=λe=>by have:=f5 gc rfl;rw[<-e,aD]at this;cases this
 exact eR _ (I.le_trans cW fW) (fW _ _ aD) bT (f4 dQ rfl) (I.none_le cW (f5 gc rfl)) ne aM bj;refine .row 1 40 1 a1 n n (eu n aU) ((eu n aU).set k (.slice (some dQ) e2.length e2.length)) k rfl (by rw[bq,ew]) (ib _ _ _ (by omega)) ?_;refine .mk fL.length rfl rfl (by omega) (by omega) λgc=>?_;refine .mk bh rfl (by omega) (by omega) ?_;refine .row 2 40 1 bh n n (eu n ro) ((eu n ro).set k (.slice (some gc) fL.length fL.length)) k rfl (by rw[bq,ew]) (ib _ _ _ (by omega)) ?_;refine fE _ _ _ ?_;refine fin _ _ _ dQ gc rfl λK eR=>?_;refine .bV 4 66 3 (some dQ) e2.length e2.length _ rfl λaR cW fT f4=>.bV 5 66 3 (some gc) fL.length fL.length _ rfl λcg fW mA f5=>.done ?_;have fT:bz aR 66 3 (some dQ) e2.length e2.length (gJ (j7 e2 0)):=by rw[F0,<-Fx];exact fT
 have mA:bz cg 66 3 (some gc) fL.length fL.length (gJ (j7 fL 0)):=by rw[F0,<-Fx];exact mA
 obtain⟨aM,aD⟩:=F4 fT rfl;obtain⟨bj,bT⟩:=F4 mA rfl;have ne:dQ.block≠gc.block:=λe=>by have:=f5 gc rfl;rw[<-e,aD]at this;cases this
 exact eR _ (I.le_trans cW fW) (fW _ _ aD) bT (f4 dQ rfl) (I.none_le cW (f5 gc rfl)) ne aM bj;refine .mk fL.length rfl rfl (by omega) (by omega) λgc=>?_;refine .mk e2.length rfl rfl (by omega) (by omega) λdQ=>?_;refine .mk a1 rfl (by omega) (by omega) ?_;refine .row 1 40 1 a1 n n (eu n aU) ((eu n aU).set k (.slice (some dQ) e2.length e2.length)) k rfl (by rw[bq,ew]) (ib _ _ _ (by omega)) ?_;refine .mk bh rfl (by omega) (by omega) ?_;refine .row 2 40 1 bh n n (eu n ro) ((eu n ro).set k (.slice (some gc) fL.length fL.length)) k rfl (by rw[bq,ew]) (ib _ _ _ (by omega)) ?_;refine fE _ _ _ ?_;refine fin _ _ _ dQ gc rfl λK eR=>?_;refine .bV 5 66 3 (some dQ) e2.length e2.length _ rfl λaR cW fT f4=>.bV 4 66 3 (some gc) fL.length fL.length _ rfl λcg fW mA f5=>.done ?_;have fT:bz aR 66 3 (some dQ) e2.length e2.length (gJ (j7 e2 0)):=by rw[F0,<-Fx];exact fT
 have mA:bz cg 66 3 (some gc) fL.length fL.length (gJ (j7 fL 0)):=by rw[F0,<-Fx];exact mA
 obtain⟨aM,aD⟩:=F4 fT rfl;obtain⟨bj,bT⟩:=F4 mA rfl;have ne:dQ.block≠gc.block:=λe=>by have:=f5 gc rfl;rw[<-e,aD]at this;cases this
 exact eR _ (I.le_trans cW fW) (fW _ _ aD) bT (f4 dQ rfl) (I.none_le cW (f5 gc rfl)) ne aM bj;refine eG _ _ _ _ nofun ?_;have oN:k=g.bt.length:=by omega
 rw[oN,pM]at iA mN;exact cD _ _ aU ro rfl x iA mN
def mark(rs:List (List b6))(a p k:Nat)(i:Int):List (List b6):=rs.set a ((rs.getD a []).set p ⟨k,i,((rs.getD a []).getD p ⟨0,0,0⟩).b⟩)
theorem A3(rs:List (List b6))(a p k:Nat)(i:Int):(mark rs a p k i).map e7=rs.map e7:=by
 rw[mark,nb,k2];by_cases h:a<rs.length;apply vH (by simp);intro o h1 ab;rw[vI];split;rename_i e;subst e;simp[cN,bZ h];rfl;rw[List.set_eq_of_length_le (by simpa using h)]
def rt:List GE->Nat->List (List b6)×List (List b6)->List (List b6)×List (List b6)
 |[],_,q=>q
 |x::l,i,q=>rt l (i+1) (mark q.1 x.dst.toNat x.ly.toNat 3 i,mark q.2 x.src.toNat x.sp.toNat 6 i)
def qd(k:Nat):List k0->Nat->List (List b6)->List (List b6)
 |[],_,q=>q
 |x::l,i,q=>qd k l (i+1) (mark q x.act.toNat x.port.toNat k i)
structure D6(n:Nat)(r:List jI)(ax:List (List b6))(a p:Int):Prop where
 a6:0<=a/\a<n
 hp:0<=p/\p<((ax.map e7).getD a.toNat 0:Nat)
theorem D6.get{ax:List (List b6)}{a p:Int}(x:D6 n r ax a p)(cG:r.map ek=ax)(al:r.length=n):∃h:a.toNat<r.length,p.toNat<r[a.toNat].2.length/\ax.getD a.toNat []=r[a.toNat].2:=by
 have h:a.toNat<r.length:=by have:=x.a6;omega
 subst cG;have:=x.hp;refine⟨h,?_,?_⟩;simp only[cN,dV,bZ h,Option.map_some,Option.getD_some]at this;omega;simp[cN,bZ h]
theorem Mg{ax:List (List b6)}{p:Nat}{i:Int}(cG:r.map ek=ax)(a6:a<r.length)(hp:p<r[a].2.length):(r.set a (r[a].1,r[a].2.set p ⟨k,i,r[a].2[p].b⟩)).map ek=mark ax a p k i:=by
 subst cG;rw[mark,nb];simp[cN,bZ a6,bZ hp]
theorem aj3(Q:dL)(e:bY)(g:eY)(ai h:I)(n m:Nat)(a1 bh:ar)(ok:g.ok ai)(hm:g.cp.length=m)(oO:m<=96)(g0 g1 g3 g4:ao)(aU ro:List jI)(oC BV:List (List b6))(x:ji ai h aU ro)(iA:aU.map ek=oC)(mN:ro.map ek=BV)(kS:aU.length=n)(tS:ro.length=n)(ad:∀x∈g.cp,(0<=x.src/\x.src<n/\0<=x.sp/\x.sp<((BV.map e7).getD x.src.toNat 0:Nat))/\(0<=x.dst/\x.dst<n/\0<=x.ly/\x.ly<((oC.map e7).getD x.dst.toNat 0:Nat)))(he:[1,3,4,14,93,94,95].map e=[.p 0 0,.v (.slice (some a1) n n),.v (.slice (some bh) n n),.v (.func (.func 130) #[] #[]),.v (.slice g.gv m g.cM),.v (R m),.v (R (0:Nat))])
 (cD:∀e U eQ mB,[1,3,4,14].map e=[.p 0 0,.v (.slice (some a1) n n),.v (.slice (some bh) n n),.v (.func (.func 130) #[] #[])]->ji ai U eQ mB->eQ.map ek=(rt g.cp 0 (oC,BV)).1->mB.map ek=(rt g.cp 0 (oC,BV)).2->eu n eQ=eu n aU->eu n mB=eu n ro->eQ.length=n->mB.length=n->
  Q (.exit 6) e [.own [.v g0,.v g1,.v (.slice g.gv m g.cM),.v g3,.v g4] 26,.row 40 1 (some a1) n n (eu n aU),.row 40 1 (some bh) n n (eu n ro)] U):
 te (λQ e L h=>c7 aH 194 aqx Q e L h) Q e [.own [.v g0,.v g1,.v (.slice g.gv m g.cM),.v g3,.v g4] 26,.row 40 1 (some a1) n n (eu n aU),.row 40 1 (some bh) n n (eu n ro)] h:=by
 obtain⟨F,bm⟩:∃F,F=rt g.cp 0 (oC,BV):=⟨_,rfl⟩
 rw[<-bm]at cD
 have aop:∀x∈g.cp,(0<=x.src/\x.src<n/\0<=x.sp/\x.sp<((BV.map e7).getD x.src.toNat 0:Nat))/\(0<=x.dst/\x.dst<n/\0<=x.ly/\x.ly<((oC.map e7).getD x.dst.toNat 0:Nat)):=ad
 obtain⟨GD,wh⟩:∃l,l=oC.map e7:=⟨_,rfl⟩
 obtain⟨ag3,Qc⟩:∃l,l=BV.map e7:=⟨_,rfl⟩
 rw[<-wh,<-Qc]at ad
 clear aop
 refine .mk (Nat×List jI×List jI) [1,3,4,14,93,94,95] (λ(k,_,_)=>[.p 0 0,.v (.slice (some a1) n n),.v (.slice (some bh) n n),.v (.func (.func 130) #[] #[]),.v (.slice g.gv m g.cM),.v (R m),.v (R k)]) (λ_=>[.own [.v g0,.v g1,.v (.slice g.gv m g.cM),.v g3,.v g4] 26,.row 40 1 (some a1) n n (eu n aU),.row 40 1 (some bh) n n (eu n ro)]) (λ(k,eQ,mB) U=>ji ai U eQ mB/\k<=m/\rt (g.cp.drop k) k (eQ.map ek,mB.map ek)=F/\eu n eQ=eu n aU/\eu n mB=eu n ro/\eQ.length=n/\mB.length=n/\(eQ.map ek).map e7=GD/\(mB.map ek).map e7=ag3) (λ(k,_,_)=>m-k) (0,aU,ro) (λ_=>rfl) ⟨x,cO _,by rw[iA,mN,bm];rfl,rfl,rfl,kS,tS,by rw[iA,wh],by rw[mN,Qc]⟩ he rfl ?_
 clear x iA mN kS tS wh Qc he bm
 rintro⟨k,eQ,mB⟩ e U ⟨x,hk,bm,tY,IW,kS,tS,iA,mN⟩
 refine aK λgS dy gY=>?_
 refine dy _ _ _ ?_
 refine aK λgO dx eG=>?_
 refine aW (λq=>?_) (λq=>?_)
 .have br:k<g.cp.length:=by omega
  obtain⟨Co,cV⟩:=ok.cp.cc (by omega);have aB:(g.cp.map GE.cells)[k]?=some (GE.cells g.cp[k]):=by rw[dV,bZ br];rfl
  have xd:=(ok.cp.mono x.le).row cV aB;have Am:g.cp.drop k=g.cp[k]::g.cp.drop (k+1):=List.drop_eq_getElem_cons br;obtain⟨⟨s1,s2,hN,mC⟩,t1,t2,t3,t4⟩:=ad _ (cS br);generalize g.cp[k]=y at xd Am s1 s2 hN mC t1 t2 t3 t4;rw[Am,rt]at bm;obtain⟨cP,a2,a3⟩:=D6.get (r:=mB) (ax:=mB.map ek) ⟨⟨s1,s2⟩,hN,by rw[mN];exact mC⟩ rfl tS;obtain⟨bL,cy,gE⟩:=D6.get (r:=eQ) (ax:=eQ.map ek) ⟨⟨t1,t2⟩,t3,by rw[iA];exact t4⟩ rfl kS;refine dx _ _ _ ?_;refine aK λgu df fK=>?_;refine fG λgk ed eH=>?_;refine aK λhA dY hL=>?_;refine .mk Co cV (by omega) (by omega) ?_;refine .hp y.cells rfl (by rw[bq];exact xd) ?_;refine dY _ _ _ ?_;refine aK λhc eT hi=>?_;refine .mk bh rfl (by omega) (by omega) ?_;refine .row 2 40 1 bh n n _ _ (r2 mB[y.src.toNat]) rfl (by rw[ew]) (by rw[<-IW];exact I1 cP) ?_;refine .mk _ rfl (by omega) (by omega) ?_;conv=>whnf
  rw[add_lit,dJ];refine .done (.mk _ (Mz _ _ 6 (k:Int) _ _ (x.swap.Ht cP) a2) ?_);rintro _ _ rfl;have fk:=(x.swap.F6 cP (mB[y.src.toNat].2.set y.sp.toNat ⟨6,(k:Int),mB[y.src.toNat].2[y.sp.toNat].b⟩)).swap;have m2:=Mg (k:=6) (i:=(k:Int)) (ax:=mB.map ek) rfl cP a2;have eW:=MD (n:=n) cP (J:=mB[y.src.toNat].2.set y.sp.toNat ⟨6,(k:Int),mB[y.src.toNat].2[y.sp.toNat].b⟩) (by simp);rw[kA]at fk;generalize fJ:mB.set y.src.toNat (mB[y.src.toNat].1,mB[y.src.toNat].2.set y.sp.toNat ⟨6,(k:Int),mB[y.src.toNat].2[y.sp.toNat].b⟩)=rY at fk m2 eW;have RH:rY.length=n:=by rw[<-fJ,k2];exact tS
  clear fJ;generalize U.put _ _=ab at fk;refine eT _ _ _ ?_;refine .mk a1 rfl (by omega) (by omega) ?_;refine .row 1 40 1 a1 n n _ _ (r2 eQ[y.dst.toNat]) rfl (by rw[ew]) (by rw[<-tY];exact I1 bL) ?_;refine .mk _ rfl (by omega) (by omega) ?_;conv=>whnf
  rw[add_lit,dJ];refine .done (.mk _ (Mz _ _ 3 (k:Int) _ _ (fk.Ht bL) cy) ?_);rintro _ _ rfl;have ig:=fk.F6 bL (eQ[y.dst.toNat].2.set y.ly.toNat ⟨3,(k:Int),eQ[y.dst.toNat].2[y.ly.toNat].b⟩);have m3:=Mg (k:=3) (i:=(k:Int)) (ax:=eQ.map ek) rfl bL cy;have l4:=MD (n:=n) bL (J:=eQ[y.dst.toNat].2.set y.ly.toNat ⟨3,(k:Int),eQ[y.dst.toNat].2[y.ly.toNat].b⟩) (by simp);rw[kA]at ig;generalize lB:eQ.set y.dst.toNat (eQ[y.dst.toNat].1,eQ[y.dst.toNat].2.set y.ly.toNat ⟨3,(k:Int),eQ[y.dst.toNat].2[y.ly.toNat].b⟩)=s5 at ig m3 l4;have Dc:s5.length=n:=by rw[<-lB,k2];exact kS
  clear lB;generalize ab.put _ _=an at ig;refine eH _ _ _ _ nofun (df _ _ _ ?_);refine .ok (by omega) (by omega) ?_;refine⟨(k+1,s5,rY),rfl,rfl,⟨ig,by omega,by rw[m2,m3];exact bm,l4.trans tY,eW.trans IW,Dc,RH,by rw[m3,A3];exact iA,by rw[m2,A3];exact mN⟩,by show m- (k+1)<m-k;omega⟩
 refine eG _ _ _ _ nofun ?_
 have oN:k=g.cp.length:=by omega
 rw[oN,List.drop_length,rt]at bm
 exact cD _ _ eQ mB rfl x (by rw[<-bm]) (by rw[<-bm]) tY IW kS tS
end Go.Sx
