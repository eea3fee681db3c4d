/- A part of the proof that the statement holds. Conditions: none. -/
import Derived.Laws.StructEq
import Derived.Test.YtlbdbpaelcnfgaaGreatDoorAO
import Derived.Test.YtlbdbpaelcnfgaaGreatDoorAR
open Array renaming toArray_toList->ov
open Bool renaming and_eq_true->fY,false_and->Bw,false_or->agl,true_and->wQ
open Classical renaming not_not->jw
open Go renaming Addr->ar,Value->ao,maxLen->c',run_equalIn_int->Th,run_underlying->gj
open Go.Addr renaming mk->ou
open Go.Proofs.Tryz renaming prog->aH
open Go.Value renaming oneCell'->Aa
open Int renaming toNat_natCast->bq,toNat_of_nonneg->q'
open List renaming all_eq_false->US,all_eq_true->oA,append_assoc->mb,append_nil->zR,drop_eq_getElem_cons->o6,drop_length->N3,ext_getElem->vH,flatten_append->zS,flatten_cons->qr,getD_cons_succ->ahi,getD_eq_getElem?_getD->cN,getElem?_append_left->N7,getElem?_append_right->aB7,getElem?_eq_getElem->bZ,getElem?_eq_none->qs,getElem?_eq_some_iff->qt,getElem?_map->dV,getElem?_set_self->ahj,getElem_mem->cS,getElem_of_mem->rb,getElem_set->vI,length->e7,length_append->fb,length_cons->gI,length_drop->k1,length_eq_zero_iff->ahm,length_map->ih,length_nil->N',length_set->k2,map_append->fm,map_cons->eO,map_set->nb,map_singleton->GL,mem_append->ev,mem_append_left->qu,mem_append_right->wT,mem_flatten->aho,mem_map->dn,mem_singleton->fx,nil_append->J3,range->aDB,replicate->bG,set_append_right->wU,sum_append->ahu,sum_cons->Ol,take_append_drop->BI,take_length->pM,take_of_length_le->k4,zipWith->rf
open List.Perm renaming nodup_iff->ag6
open List.cons renaming injEq->yp
open Nat renaming add_mul->ti,add_zero->wX,beq->gN,le_refl->dd,lt_succ_self->ri,mul_le_mul->ns,mul_one->ew,not_lt_zero->BO,sub_self->yq,zero_add->dJ,zero_le->cO,zero_mul->D0
open Ne renaming symm->d9
open Option renaming getD_some->BS,map_eq_some_iff->D3
open Prod renaming fst->kn,snd->ek
open Prod.mk renaming injEq->Oy
namespace Go.Sx
open Go.Proofs
set_option maxRecDepth 100000
set_option maxHeartbeats 0
set_option linter.all false
variable {ai cq h:I}{eg:List Int}{L:List LE}{fZ left:List Nat}{sp:List ao}{aa:List bo}{N a aT b bk c cZ cl fe g gd gt hK i k m n op:Nat}{A:Option ar}{F V:ao}
def oX(N:Nat)(aa:List bo):Nat->Option (List Nat)
 |0=>if(iN N aa).2=true then some (bG N 0)else none
 |v+1=>match oX N aa v with
  |none=>none
  |some r=>if(aDD N aa).getD v 0=v then Bj N (aDD N aa) (iN N aa).1 v r else some r
def Cb(s:List (Nat×Nat))(a:bo):Bool:=(lk (s.getD a.src.toNat (0,0)) a.fR.toNat a.take.toNat).2&&decide ((lk (s.getD a.src.toNat (0,0)) a.fR.toNat a.take.toNat).1=s.getD a.dst.toNat (0,0))
def vu(N:Nat)(aa:List bo):Option (List Nat):=if e' N aa=0 then(match oX N aa N with
 |none=>none
 |some r=>if(aa.all (Cb (iN N aa).1))=true then some r else none)else none
def ah9(h:I)(N:Nat)(aa:List bo)(v:ao)(U:I):Prop:=h.le U/\match vu N aa with
 |some r=>r.length=N/\∃ax,v= .tuple #[.agg #[.int .u8 1,.slice (some ax) N N,.slice none 0 0],R 0]/\bg U 1 (some ax) N (r.map λz:Nat=>[R (z:Int)])
 |none=>∃(k e:Int)(dO:Option ar)(ad5 rc:Nat)(Uo:Option ar)(kM hQ:Nat),v= .tuple #[.agg #[.int .u8 k,.slice dO ad5 rc,.slice Uo kM hQ],R e]/\¬(k=1/\e=0)
theorem alp{s:List (Nat×Nat)}(ak:h g=some (.cells (s.map kN).flatten.toArray 167 (0,0)))(al:s.length=N):bg h 2 (some ⟨g,0,none⟩) N (s.map kN):=by
 refine⟨by simpa using al,PQ s,λ_=>⟨_,rfl⟩,λb7 dT i r am o v ah=>?_⟩;injection dT with dT;subst dT;rw[add_lit,dJ];exact bN ak (Ci (size:=2) (s.map kN) (PQ s) i o r v am ah)
theorem acG{s:List Nat}(ak:h g=some (.cells (s.map λz:Nat=>R (z:Int)).toArray 3 (0,0)))(al:s.length=N):bg h 1 (some ⟨g,0,none⟩) N (s.map λz:Nat=>[R (z:Int)]):=by
 refine⟨by simpa using al,λr am=>by obtain⟨p,_,rfl⟩:=dn.1 am;rfl,λ_=>⟨_,rfl⟩,λb7 dT i r am o v ah=>?_⟩;injection dT with dT;subst dT;rw[add_lit,dJ];rw[dV,D3]at am;obtain⟨z,aY,rfl⟩:=am;have ae:o=0:=by
  have:=(qt.1 ah).1;simp at this;omega
 subst ae;injection ah with ah;subst ah;exact bN ak (by rw[dV,ew,wX,aY];rfl)
theorem axJ(N n cx:Nat)(A:Option ar)(aa:List bo)(h:I)(av:bg h 5 A n (aa.map bo.cells))(aC:n<=9223372036854775806)(wJ:uw h):Fn aH 22 #[my N A n cx] h λv U=>ah9 h N aa v U:=by
 have al:aa.length=n:=by simpa using av.len
 refine b5 arZ rfl ?_;refine .done (.mk _ (acR N n cx A aa h av aC) ?_);rintro _ h1 ⟨cr,f1,f2⟩;by_cases aj:e' N aa≠0;obtain rfl:=f1 aj;refine aW (λq=>?_) (λq=>absurd aj q);exact .done ⟨cr,by rw[vu,aE aj];exact⟨0,e' N aa,_,_,_,_,_,_,rfl,λh=>absurd h.1 (by decide)⟩⟩;have aj:=jw.1 aj;obtain⟨T,c,H,rfl,oY,x2⟩:=f2 aj;obtain⟨HF,uW,wo,dk⟩:=lO aj;have Db:(aDD N aa).length=N:=by simp[aDD]
 obtain⟨hO,al9⟩:=axQ dk;refine .done (.mk _ (axP N n cx c A T H aa h1 (av.mono cr) aj oY x2) ?_);rintro _ ab ⟨cn,h5,rfl,am'⟩;have Jt:=alp am' hO.len;refine .one N (R 0) rfl rfl rfl rfl (by omega) (by omega) λez=>?_;refine .lj (.bV 3 3 1 (some ez) N N _ rfl λan dZ nP sk=>.done ?_);obtain⟨_,nP|⟨eJ,a8,nh,jK,_,_,fg,nj⟩⟩:=nP;cases nP.1;injection nh with nh;subst nh;have aAb:=sk _ rfl;have Sq:a8=((bG N 0).map λz:Nat=>R (z:Int)).toArray:=by
  rw[k4 (by simp[fg])]at nj;rw[<-ov (xs:=a8),nj,List.map_replicate];rfl
 have D5:uv N eJ ab an (bG N 0):=⟨by rw[jK,Sq],by simp,dZ,aAb⟩;have azn:=wJ.mono (I.le_trans cr cn);refine .mk Nat [1,2,4,6,7,8,36,37,38] (λv=>[.p 0 0,.p 1 0,.p 2 0,.v (.slice (some ⟨h5,0,none⟩) N N),.v (.bool (oX N aa v).isSome),.v (.slice (some ⟨eJ,0,none⟩) N N),.v (.slice (some H) N N),.v (R N),.v (R v)]) (λ_=>[.own [.v (R N),.v (.slice A n cx)] 33,.own [.v (.int .u8 0),.v (.slice none 0 0),.v (.slice none 0 0)] 80,.own [.v (.slice T (ep N aa).length c),.v (.slice (some H) N N)] 159]) (λv U=>v<=N/\match oX N aa v with|some r=>uv N eJ ab U r|none=>∃r,uv N eJ ab U r) (λv=>N-v) 0 (λ_=>rfl) ⟨cO _,?_⟩ ?_ rfl ?_;unfold oX;split;rename_i r am;split at am;injection am with am;subst am;exact D5;cases am;exact⟨_,D5⟩;have:(oX N aa 0).isSome=(iN N aa).2:=by
  unfold oX;cases(iN N aa).2<;>rfl
 rw[this];rfl;rintro v e aR ⟨ah,cG⟩;have cW:ab.le aR:=by
  split at cG;exact cG.le;obtain⟨r,cG⟩:=cG;exact cG.le
 refine aW (λq=>?_) (λq=>?_);have jZ:v<N:=by omega
 have xe:aR.cell? (H.add (v*1))=some (R ((aDD N aa).getD v 0:Nat)):=by
  have hh:v<(aDD N aa).length:=by omega
  rw[cN,bZ hh];exact(x2.mono (I.le_trans cn cW)).one rfl (i:=v) (iM hh) rfl
 have hq:oX N aa (v+1)=match oX N aa v with
  |none=>none
  |some r=>if(aDD N aa).getD v 0=v then Bj N (aDD N aa) (iN N aa).1 v r else some r:=rfl
 generalize(aDD N aa).getD v 0=w at xe hq;refine .m H rfl ?_;refine .hp _ (by rw[bq];exact xe) ?_;cases hk:oX N aa v with
 |none=>
  rw[hk]at cG hq;refine .aLS ?_;exact⟨v+1,by rw[hq];rfl,rfl,⟨jZ,by rw[hq];exact cG⟩,by show N- (v+1)<N-v;omega⟩
 |some r=>
  rw[hk]at cG hq;simp only at hq cG;refine aW (λaD=>?_) (λaD=>?_);have mq:v=w:=by omega
  subst mq;rw[aX rfl]at hq;have az:(iN N aa).2=true:=by
   have key:∀v r,oX N aa v=some r->(iN N aa).2=true:=by
    intro v;induction v with
    |zero=>
     intro r h;unfold oX at h;split at h;assumption;cases h
    |succ v bE=>
     intro r h;unfold oX at h;split at h;cases h;rename_i cT sB;exact bE cT sB
   exact key v r hk
  have axg:=axq N eJ v c (ep N aa).length T ⟨h5,0,none⟩ H (aDD N aa) (iN N aa).1 ab aR r cG (by omega) azn (x2.mono cn) Jt (al9 az);refine .done (.mk _ axg ?_);rintro Tm cg aP;rw[<-hq]at aP;cases i9:oX N aa (v+1)with
  |none=>
   rw[i9]at aP;obtain⟨rfl,aP⟩:=aP;refine .aLS ?_;exact⟨v+1,by rw[i9];rfl,rfl,⟨jZ,by rw[i9];exact aP⟩,by show N- (v+1)<N-v;omega⟩
  |some dU=>
   rw[i9]at aP;obtain⟨rfl,aP⟩:=aP;refine .aLS ?_;exact⟨v+1,by rw[i9];rfl,rfl,⟨jZ,by rw[i9];exact aP⟩,by show N- (v+1)<N-v;omega⟩
  rw[aE (by omega)]at hq;refine .aLS ?_;exact⟨v+1,by rw[hq];rfl,rfl,⟨jZ,by rw[hq];exact cG⟩,by show N- (v+1)<N-v;omega⟩
 have Q2:N=v:=by omega
 subst Q2;have eR:vu N aa=match oX N aa N with
  |none=>none
  |some r=>if(aa.all (Cb (iN N aa).1))=true then some r else none:=by rw[vu,aX aj]
 have IC:h.le aR:=I.le_trans cr (I.le_trans cn cW);cases hk:oX N aa N with
 |none=>
  rw[hk]at eR;exact .done ⟨IC,by rw[eR];exact⟨3,0,_,_,_,_,_,_,rfl,λh=>absurd h.1 (by decide)⟩⟩
 |some r=>
  rw[hk]at eR cG;simp only at eR cG;refine .mk Nat [1,2,6,8,59,60,61] (λi=>[.p 0 0,.p 1 0,.v (.slice (some ⟨h5,0,none⟩) N N),.v (.slice (some ⟨eJ,0,none⟩) N N),.v (.slice A n cx),.v (R n),.v (R i)]) (λ_=>[.own [.v (R N),.v (.slice A n cx)] 33,.own [.v (.int .u8 0),.v (.slice none 0 0),.v (.slice none 0 0)] 80]) (λi U=>aR.le U/\i<=n/\∀a∈aa.take i,Cb (iN N aa).1 a=true) (λi=>n-i) 0 (λ_=>rfl) ⟨I.le_refl _,cO _,by simp⟩ rfl rfl ?_;rintro i aI cg ⟨fW,ag,cV⟩;refine aW (λbj=>?_) (λbj=>?_)
  .have ea:i<aa.length:=by omega
   obtain⟨g,ak⟩:=av.cc (by omega);have nO:=(av.mono (I.le_trans IC fW)).row ak (iM ea);have po:=cS ea;have tK:=vl (dk aa[i] po);have iY:aa.take (i+1)=aa.take i++[aa[i]]:=kh ea;generalize aa[i]=a at nO tK iY po;obtain⟨fq,s1,d0,d1,g0,g1,t0,t1,_⟩:=tK;have DA:∀u,u<N->∀o v,(kN ((iN N aa).1.getD u (0,0)))[o]?=some v->cg.cell? (((ou h5 0 none).add (u*2)).add o)=some v:=λu hu o v ae=>by
    have hh:u<(iN N aa).1.length:=by rw[hO.len];exact hu
    rw[cN,bZ hh]at ae;exact(Jt.mono (I.le_trans cW fW)).row rfl (i:=u) (iM hh) o v ae
   have rs:=DA a.src.toNat (by omega);have rd:=DA a.dst.toNat (by omega);have B2:yb ((iN N aa).1.getD a.src.toNat (0,0)):=hO.B2 _ (EK (by rw[hO.len];omega));have wb:Cb (iN N aa).1 a=((lk ((iN N aa).1.getD a.src.toNat (0,0)) a.fR.toNat a.take.toNat).2&&decide ((lk ((iN N aa).1.getD a.src.toNat (0,0)) a.fR.toNat a.take.toNat).1=(iN N aa).1.getD a.dst.toNat (0,0))):=rfl;have p0:Cb (iN N aa).1 a=false->(aa.all (Cb (iN N aa).1))=false:=λh=>US.2 ⟨a,po,by simp[h]⟩;generalize(iN N aa).1.getD a.src.toNat (0,0)=x at rs B2 wb;generalize(iN N aa).1.getD a.dst.toNat (0,0)=y at rd wb;have t49:=afh x a.fR.toNat a.take.toNat cg B2 (by omega) (by omega) (by omega);rw[q' (show 0<=a.fR by omega),q' (show 0<=a.take by omega)]at t49;generalize lk x a.fR.toNat a.take.toNat=z at t49 wb;obtain⟨⟨hJ,z2⟩,Ud⟩:=z;obtain⟨hl,aDA⟩:=y;obtain⟨h2,fk⟩:=x;have SK:=λfa(jb:h.le fa)=>avx N n cx a.dst.toNat a.src.toNat A aa fa (av.mono jb) aC (by omega) (by omega);simp only[q' fq,q' d0]at SK;refine .m g ak ?_;refine .hp a.cells rfl (by rw[bq];exact nO) ?_;refine .r ?_;refine .hp (kN (h2,fk)) rfl rs ?_;refine⟨?_,?_⟩;all_goals refine .mk _ t49 (λv ab q=>q.1) ?_
   all_goals rintro _ fa ⟨hv,rfl⟩
   all_goals have gF:=I.le_trans IC (I.le_trans fW hv)
   all_goals cases Ud
   all_goals conv=>whnf
   all_goals first
    |(
     refine .done (.mk _ (SK _ gF) ?_)
     rintro _ mi ⟨mv,nc,pm,cH,qZ,kx,rfl,anU,q1⟩
     have P5:=p0 (by rw[wb];rfl)
     rw[P5]at eR
     refine aW (λdz=>?_) (λdz=>?_)
     exact .done ⟨I.le_trans gF mv,by rw[eR];exact⟨0,qZ,_,_,_,_,_,_,rfl,λh=>absurd h.1 (by decide)⟩⟩
     refine .mk λai6 amD=>?_
     refine .done (.cR 5 _ _ rfl (q1.src _) (λu hu=>by obtain⟨l,al,hu⟩:=aho.1 hu;obtain⟨p,_,rfl⟩:=dn.1 al;simp[mD]at hu;rcases hu with rfl|rfl<;>rfl) (by simp[c'];omega) (by omega) λahY t6 nH=>?_)
     exact .done ⟨I.le_trans gF mv,by rw[eR];exact⟨2,0,_,_,_,_,_,_,rfl,λh=>absurd h.1 (by decide)⟩⟩)
    |(
     refine .r ?_
     refine .hp (kN (hl,aDA)) rfl (λo v ae=>I.kL hv (rd o v ae)) ?_
     refine uK (λbT=>?_) (λbT=>?_)
     refine .done (.mk _ (SK _ gF) ?_)
     rintro _ mi ⟨mv,nc,pm,cH,qZ,kx,rfl,anU,q1⟩
     have P5:=p0 (by rw[wb];simp[flip]at bT;simp;omega)
     rw[P5]at eR
     refine aW (λdz=>?_) (λdz=>?_)
     exact .done ⟨I.le_trans gF mv,by rw[eR];exact⟨0,qZ,_,_,_,_,_,_,rfl,λh=>absurd h.1 (by decide)⟩⟩
     refine .mk λai6 amD=>?_
     refine .done (.cR 5 _ _ rfl (q1.src _) (λu hu=>by obtain⟨l,al,hu⟩:=aho.1 hu;obtain⟨p,_,rfl⟩:=dn.1 al;simp[mD]at hu;rcases hu with rfl|rfl<;>rfl) (by simp[c'];omega) (by omega) λahY t6 nH=>?_)
     exact .done ⟨I.le_trans gF mv,by rw[eR];exact⟨2,0,_,_,_,_,_,_,rfl,λh=>absurd h.1 (by decide)⟩⟩
     have aJ:Cb (iN N aa).1 a=true:=by rw[wb];simp[flip]at bT;simp;omega
     refine .aLS ?_
     refine⟨i+1,rfl,rfl,⟨I.le_trans fW hv,by omega,λey fI=>?_⟩,by show n- (i+1)<n-i;omega⟩
     rw[iY]at fI
     rcases ev.1 fI with fI|fI
     exact cV ey fI
     simp at fI;rw[fI];exact aJ)
  have yV:i=aa.length:=by omega
  rw[yV,pM]at cV;rw[aX (oA.2 cV)]at eR;exact .done ⟨I.le_trans IC fW,by rw[eR];exact⟨cG.len,⟨eJ,0,none⟩,rfl,(acG cG.n0 cG.len).mono fW⟩⟩
def Dt(q:Nat):Bool:=decide (1<=q)&&decide (q<=4096)
def Kk(r:List Nat)(a:bo):Bool:=decide (a.fR.toNat*r.getD a.src.toNat 0=a.take.toNat*r.getD a.dst.toNat 0)
def y5(aa:List bo)(r:List Nat):Bool:=r.all Dt&&aa.all (Kk r)
theorem A7{ax:Option ar}{r:List Nat}(t:bg h 1 ax m (r.map λz:Nat=>[R (z:Int)])){g:ar}(ak:ax=some g)(ag:i<m):h.cell? (g.add (i*1))=some (R (r.getD i 0:Nat)):=by
 have al:r.length=m:=by simpa using t.len
 have ea:i<r.length:=by omega
 rw[cN,bZ ea];exact t.one ak (i:=i) (iM ea) rfl
theorem anM(N n cx m c:Nat)(A ax:Option ar)(aa:List bo)(r:List Nat)(h:I)(av:bg h 5 A n (aa.map bo.cells))(aC:n<=9223372036854775806)(mE:bg h 1 ax m (r.map λz:Nat=>[R (z:Int)]))(am:∀q∈r,q<=1000000)(hm:m<=1000):Fn aH 51 #[my N A n cx,.slice ax m c] h λv U=>U=h/\v=if e' N aa≠0 then .tuple #[.bool false,R (e' N aa)]else if m≠N then .tuple #[.bool false,R 1]else .tuple #[.bool (y5 aa r),R 0]:=by
 have al:aa.length=n:=by simpa using av.len
 have y0:r.length=m:=by simpa using mE.len
 refine b5 ask rfl ?_;refine .done (.mk _ (Kq N A n cx aa h av aC) ?_);rintro _ _ ⟨rfl,aP⟩;subst aP;refine aW (λq=>?_) (λq=>?_);exact .done ⟨rfl,by rw[aX q];rfl⟩;have aj:=jw.1 q;obtain⟨HF,uW,wo,dk⟩:=lO aj;rw[aE q];refine aW (λaM=>?_) (λaM=>?_);exact .done ⟨rfl,by rw[aX (by omega)];rfl⟩;rw[aE (by omega)];have AK:m=N:=by omega
 subst AK;refine .mk Nat [1,2,21,22,23] (λi=>[.v (.slice ax m c),.p 0 0,.v (.slice ax m c),.v (R m),.v (R i)]) (λ_=>[.own [.v (R m),.v (.slice A n cx)] 33]) (λi U=>U=_/\i<=m/\∀q∈r.take i,Dt q=true) (λi=>m-i) 0 (λ_=>rfl) ⟨rfl,cO _,by simp⟩ rfl rfl ?_;rintro i e h1 ⟨rfl,ag,cV⟩;refine aW (λaD=>?_) (λaD=>?_);have ea:i<r.length:=by omega
 obtain⟨g,ak⟩:=mE.cc (by omega);have uL:=A7 mE ak (i:=i) (by omega);have wc:r.getD i 0=r[i]:=by rw[cN,bZ ea];rfl
 rw[wc]at uL;have iY:r.take (i+1)=r.take i++[r[i]]:=kh ea;have po:=cS ea;have ET:Dt r[i]=false->y5 aa r=false:=λh=>by
  rw[y5,US.2 ⟨_,po,by simp[h]⟩,Bw]
 generalize r[i]=z at uL iY ET;refine .m g ak ?_;refine .hp _ (by rw[bq];exact uL) ?_;refine aW (λbj=>?_) (λbj=>?_);exact .done ⟨rfl,by rw[ET (by simp[Dt];omega)];rfl⟩;refine aW (λbT=>?_) (λbT=>?_);exact .done ⟨rfl,by rw[ET (by simp[Dt];omega)];rfl⟩;refine .aLS ?_;refine⟨i+1,rfl,rfl,⟨rfl,by omega,λq aq=>?_⟩,by show m- (i+1)<m-i;omega⟩;rw[iY]at aq;rcases ev.1 aq with aq|aq;exact cV q aq;simp at aq;subst aq;simp[Dt];omega;have yV:i=r.length:=by omega
 rw[yV,pM]at cV;have aO:=oA.2 cV;refine .mk Nat [1,2,35,36,37] (λi=>[.v (.slice ax m c),.p 0 0,.v (.slice A n cx),.v (R n),.v (R i)]) (λ_=>[.own [.v (R m),.v (.slice A n cx)] 33]) (λi U=>U=_/\i<=n/\∀a∈aa.take i,Kk r a=true) (λi=>n-i) 0 (λ_=>rfl) ⟨rfl,cO _,by simp⟩ rfl rfl ?_;rintro i aI h1 ⟨rfl,ag,cV⟩;refine aW (λaD=>?_) (λaD=>?_);have ea:i<aa.length:=by omega
 obtain⟨g,ak⟩:=av.cc (by omega);have nO:=av.row ak (iM ea);have po:=cS ea;have tK:=vl (dk aa[i] po);have iY:aa.take (i+1)=aa.take i++[aa[i]]:=kh ea;have ET:Kk r aa[i]=false->y5 aa r=false:=λh=>by
  rw[y5,US.2 ⟨_,po,by simp[h]⟩,Bool.and_false]
 generalize aa[i]=a at nO tK iY po ET;obtain⟨fq,s1,d0,d1,g0,g1,t0,t1,_⟩:=tK;obtain⟨eJ,Lo⟩:=mE.cc (by omega);have c1:=A7 mE Lo (i:=a.src.toNat) (by omega);have c2:=A7 mE Lo (i:=a.dst.toNat) (by omega);have bL:r.getD a.src.toNat 0<=1000000:=am _ (EK (by omega));have cy:r.getD a.dst.toNat 0<=1000000:=am _ (EK (by omega));have bW:Kk r a=decide (a.fR.toNat*r.getD a.src.toNat 0=a.take.toNat*r.getD a.dst.toNat 0):=rfl;generalize r.getD a.src.toNat 0=x at c1 bL bW;generalize r.getD a.dst.toNat 0=y at c2 cy bW;obtain⟨kf,Zi⟩:∃k:Nat,a.fR=k:=⟨a.fR.toNat,by omega⟩;obtain⟨e2,xC⟩:∃k:Nat,a.take=k:=⟨a.take.toNat,by omega⟩;have m1:kf*x<=64*1000000:=ns (by omega) bL;have m2:e2*y<=64*1000000:=ns (by omega) cy;rw[Zi,xC,bq,bq]at bW;refine .m g ak ?_;refine .hp a.cells rfl (by rw[bq];exact nO) ?_;refine .m eJ Lo ?_;refine .hp _ c1 ?_;conv=>whnf
 rw[Zi,show(kf:Int)*x=((kf*x:Nat):Int) by simp];refine .aLS ?_;refine .m eJ Lo ?_;refine .hp _ c2 ?_;conv=>whnf
 rw[xC,show(e2:Int)*y=((e2*y:Nat):Int) by simp];refine .aLS ?_;generalize kf*x=u at m1 bW;generalize e2*y=w at m2 bW;refine aW (λbj=>?_) (λbj=>?_);exact .done ⟨rfl,by rw[ET (by rw[bW];simp;omega)];rfl⟩;refine .aLS ?_;refine⟨i+1,rfl,rfl,⟨rfl,by omega,λq aq=>?_⟩,by show n- (i+1)<n-i;omega⟩;rw[iY]at aq;rcases ev.1 aq with aq|aq;exact cV q aq;simp at aq;subst aq;rw[bW];simp;omega;have yV:i=aa.length:=by omega
 rw[yV,pM]at cV;exact .done ⟨rfl,by rw[y5,aO,oA.2 cV];rfl⟩
def t7(N:Nat)(aG:List Int):Nat->List Nat
 |0=>(aDB N).map λv=>aG.length+N-v
 |o+1=>(t7 N aG o).set (aG.getD (aG.length-1-o) 0).toNat (aG.length-1-o)
theorem S0(N:Nat)(aG:List Int):∀o,(t7 N aG o).length=N
 |0=>by simp[t7]
 |o+1=>by rw[t7,k2,S0 N aG o]
def zw(N:Nat)(aG:List Int):List Nat:=t7 N aG aG.length
theorem C6{ax:Option ar}{r:List Int}(t:bg h 1 ax m (r.map λz:Int=>[R z])){g:ar}(ak:ax=some g)(ag:i<m):h.cell? (g.add (i*1))=some (R (r.getD i 0)):=by
 have al:r.length=m:=by simpa using t.len
 have ea:i<r.length:=by omega
 rw[cN,bZ ea];exact t.one ak (i:=i) (iM ea) rfl
theorem av7(N m c:Nat)(P:Option ar)(aG:List Int)(h:I)(q1:bg h 1 P m (aG.map λz=>[R z]))(hm:m<=70368744177664)(db:N<=32)(aY:∀z∈aG,0<=z/\z<N)(aAV:0<N):Fn aH 53 #[R N,.slice P m c] h λv U=>h.le U/\∃g,v= .slice (some ⟨g,0,none⟩) N N/\U g=some (.cells ((zw N aG).map λz:Nat=>R (z:Int)).toArray 3 (0,0))/\h g=none:=by
 have al:aG.length=m:=by simpa using q1.len
 refine b5 asl rfl ?_;refine .one N (R 0) rfl rfl rfl rfl (by omega) (by omega) λez=>?_;have ds:bG N (R 0)=qI (λv=>R ((m+N-v:Nat):Int)) (R 0) N 0:=by simp[qI]
 refine .mk Nat [0,1,5,11,12] (λk=>[.v (R N),.v (.slice P m c),.v (.slice (some ez) N N),.v (R N),.v (R k)]) (λk=>[.row 3 1 (some ez) N N (qI (λv=>R ((m+N-v:Nat):Int)) (R 0) N k)]) (λk U=>U=h/\k<=N) (λk=>N-k) 0 (λ_=>rfl) ⟨rfl,cO _⟩ rfl (by simp only[<-ds];rfl) ?_;rintro k e h1 ⟨rfl,hk⟩;refine aW (λq=>?_) (λq=>?_);have br:k<N:=by omega
 refine .aLS ?_;refine .aLS ?_;refine .m ez rfl ?_;have ke:(m:Int)+N-k=((m+N-k:Nat):Int):=by omega
 refine .row 0 3 1 ez N N _ (qI (λv=>R ((m+N-v:Nat):Int)) (R 0) N (k+1)) k rfl (by rw[bq,ew]) (by rw[ib _ _ _ (by rw[XN hk];exact br),<-XO br];exact ho (λx=>some ((qI (λv=>R ((m+N-v:Nat):Int)) (R 0) N k).set k (R x))) ke) ?_;refine .aLS ?_;exact⟨k+1,rfl,rfl,⟨rfl,br⟩,by show N- (k+1)<N-k;omega⟩;have yW:N=k:=by omega
 subst yW;refine .aLS ?_;refine .mk Nat [1,5,7] (λo=>[.v (.slice P m c),.v (.slice (some ez) N N),.v (R ((m:Int)-1-o))]) (λo=>[.row 3 1 (some ez) N N ((t7 N aG o).map λz:Nat=>R (z:Int))]) (λo U=>U=h1/\o<=m) (λo=>m-o) 0 (λ_=>rfl) ⟨rfl,cO _⟩ (by show[aA.v (.slice P m c),aA.v (.slice (some ez) N N),aA.v (R ((m:Int)-1))]=[aA.v (.slice P m c),aA.v (.slice (some ez) N N),aA.v (R ((m:Int)-1- ((0:Nat):Int)))];rw[show((m:Int)-1- ((0:Nat):Int))=(m:Int)-1 by omega]) (by rw[XM,t7,List.map_map,al];rfl) ?_;rintro o aI ab ⟨rfl,ae⟩;refine aW (λaD=>?_) (λaD=>?_);have en:m-1-o<m:=by omega
 obtain⟨g,ak⟩:=q1.cc (by omega);have Ap:(m:Int)-1-o=((m-1-o:Nat):Int):=by omega
 have En:=C6 q1 ak en;have tQ:=aY _ (EK (l:=aG) (d:=0) (i:=m-1-o) (by omega));have WX:t7 N aG (o+1)=(t7 N aG o).set (aG.getD (m-1-o) 0).toNat (m-1-o):=by rw[t7,al]
 generalize aG.getD (m-1-o) 0=z at En tQ WX;refine .m g ak ?_;refine .hp _ (by rw[Ap,bq];exact En) ?_;refine .m ez rfl ?_;refine .row 0 3 1 ez N N _ ((t7 N aG (o+1)).map λz:Nat=>R (z:Int)) z.toNat rfl (by rw[ew]) (by rw[ib _ _ _ (by simp[S0];omega),WX,nb];exact ho (λx=>some (((t7 N aG o).map λz:Nat=>R (z:Int)).set z.toNat (R x))) Ap) ?_;refine .aLS ?_;exact⟨o+1,by show[aA.v (.slice P m c),aA.v (.slice (some ez) N N),aA.v (R ((m:Int)-1-o-1))]=[aA.v (.slice P m c),aA.v (.slice (some ez) N N),aA.v (R ((m:Int)-1- ((o+1:Nat):Int)))];rw[show(m:Int)-1-o-1=(m:Int)-1- ((o+1:Nat):Int) by omega],rfl,⟨rfl,by omega⟩,by show m- (o+1)<m-o;omega⟩;have Ls:o=m:=by omega
 have rr:zw N aG=t7 N aG o:=by rw[zw,al,Ls]
 refine .bV 0 3 1 (some ez) N N _ rfl λan dZ nP sk=>.done ?_;obtain⟨_,nP|⟨gd,a8,nh,jK,_,_,fg,nj⟩⟩:=nP;cases nP.1;injection nh with nh;subst nh;refine⟨dZ,gd,rfl,?_,sk _ rfl⟩;rw[k4 (by simp[fg])]at nj;rw[jK,<-ov (xs:=a8),nj,rr]
theorem Sl{s:List Nat}(ak:h g=some (.cells ((s.map λz:Nat=>R (z:Int))++sp).toArray 3 (0,0)))(al:s.length=N):bg h 1 (some ⟨g,0,none⟩) N (s.map λz:Nat=>[R (z:Int)]):=by
 refine⟨by simpa using al,λr am=>by obtain⟨p,_,rfl⟩:=dn.1 am;rfl,λ_=>⟨_,rfl⟩,λb7 dT i r am o v ah=>?_⟩;injection dT with dT;subst dT;rw[add_lit,dJ];rw[dV,D3]at am;obtain⟨z,aY,rfl⟩:=am;have ae:o=0:=by
  have:=(qt.1 ah).1;simp at this;omega
 subst ae;injection ah with ah;subst ah;have ag:=(qt.1 aY).1;exact bN ak (by rw[ew,wX,N7 (by simpa using ag),dV,aY];rfl)
structure vQ(cq:I)(fe b hK gd N cl:Nat)(sp:List ao)(left fZ:List Nat)(V:ao):Prop where
 box:cq fe=some (.cells #[hx b,.slice (some ⟨hK,0,none⟩) N cl,.slice (some ⟨gd,0,none⟩) N N,V] 182 (0,0))
 lf:cq hK=some (.cells ((left.map λz:Nat=>R (z:Int))++sp).toArray 3 (0,0))
 Dx:cq gd=some (.cells (fZ.map λz:Nat=>R (z:Int)).toArray 3 (0,0))
 hY:left.length=N
 wG:fZ.length=N
theorem vQ.mono(r:vQ cq fe b hK gd N cl sp left fZ V)(le:cq.le h):vQ h fe b hK gd N cl sp left fZ V:=⟨le _ _ r.box,le _ _ r.lf,le _ _ r.Dx,r.hY,r.wG⟩
def OW(fZ:List Nat)(v:Option Nat)(w:Nat):Bool:=match v with
 |none=>true
 |some v=>decide (fZ.getD w 0<fZ.getD v 0)
def oH(N:Nat)(aa:List bo)(cI:List Int)(left fZ:List Nat):Nat->Option Nat
 |0=>none
 |w+1=>if(decide (0<left.getD w 0)&&(wE N aa cI w&&OW fZ (oH N aa cI left fZ w) w))=true then some w else oH N aa cI left fZ w
def Af:Option Nat->Int
 |none=> -1
 |some v=>v
theorem OV{N:Nat}{aa:List bo}{cI:List Int}{left fZ:List Nat}:∀{w v:Nat},oH N aa cI left fZ w=some v->v<w
 |0,v,h=>by cases h
 |w+1,v,h=>by
  unfold oH at h;split at h;injection h with h;omega;have:=OV h;omega
theorem VT(w:rk cq b gt bk N aa)(r:vQ cq fe b hK gd N cl sp left fZ V)(cI cA:List Int)(pq:cI.length=aa.length)(fB:aa.length<=96)(db:N<=32):Fn aH 54 #[hx fe] (st cq gt bk cI cA) λv U=>v=R (Af (oH N aa cI left fZ N))/\U=st cq gt bk cI cA:=by
 obtain⟨e0,gL,gM,cx,ci,co,cm,O,aV⟩:=w.ex;have x:cq.le (st cq gt bk cI cA):=I.jp aV.nB aV.nA;have m24:=λv=>ab5 w cI cA pq fB v;have r:=r.mono x;generalize st cq gt bk cI cA=h at r m24;have lu:∀v,v<N->h.cell? ((ou hK 0 none).add (v*1))=some (R (left.getD v 0:Nat)):=λv ah=>A7 (Sl r.lf r.hY) rfl ah;have G8:∀v,v<N->h.cell? ((ou gd 0 none).add (v*1))=some (R (fZ.getD v 0:Nat)):=λv ah=>A7 (acG r.Dx r.wG) rfl ah;refine b5 asm rfl ?_;refine .hp _ (bN r.box rfl) ?_;refine .mk Nat [0,3,9,10] (λk=>[.v (hx fe),.v (R (Af (oH N aa cI left fZ k))),.v (R N),.v (R k)]) (λ_=>[]) (λk U=>U=h/\k<=N) (λk=>N-k) 0 (λ_=>rfl) ⟨rfl,cO _⟩ rfl rfl ?_;rintro k e h1 ⟨rfl,hk⟩;refine aW (λq=>?_) (λq=>?_);have br:k<N:=by omega
 have hq:oH N aa cI left fZ (k+1)=if(decide (0<left.getD k 0)&&(wE N aa cI k&&OW fZ (oH N aa cI left fZ k) k))=true then some k else oH N aa cI left fZ k:=rfl;have c1:=lu k br;have di:=λv=>@OV N aa cI left fZ k v;have next:∀v,v=oH N aa cI left fZ (k+1)->∃cw:Nat,[aA.v (hx fe),aA.v (R (Af v)),aA.v (R N),aA.v (R (k+1:Nat))]=[aA.v (hx fe),aA.v (R (Af (oH N aa cI left fZ cw))),aA.v (R N),aA.v (R cw)]/\([]:List LE)=[]/\(h1=h1/\cw<=N)/\N-cw<N-k:=λv ah=>⟨k+1,by rw[ah],rfl,⟨rfl,br⟩,by omega⟩
 generalize left.getD k 0=l at c1 hq;have m:=m24 k;generalize wE N aa cI k=dM at m hq;generalize Fa:oH N aa cI left fZ k=SX at hq di;refine .hp _ (bN r.box rfl) ?_;refine .r ?_;refine .hp _ (by rw[bq];exact c1) ?_;refine aW (λaD=>?_) (λaD=>?_);rw[fo (show 0<l by omega),wQ]at hq;refine .hp _ (bN r.box rfl) ?_;refine .mk _ m (λv ab q=>by rw[q.2];exact I.le_refl _) ?_;rintro _ _ ⟨rfl,aP⟩;subst aP;cases dM;rw[Bw]at hq;refine .aLS ?_;exact next SX (by rw[hq];rfl)
 rw[wQ]at hq;cases SX with
 |none=>
  refine .aLS ?_;exact next (some k) (by rw[hq];rfl)
 |some v=>
  have ah:=di v rfl;have c2:=G8 k br;have eI:=G8 v (by omega);have sj:OW fZ (some v) k=decide (fZ.getD k 0<fZ.getD v 0):=rfl;rw[sj]at hq;generalize fZ.getD k 0=h2 at c2 hq;generalize fZ.getD v 0=fk at eI hq;refine .hp _ (bN r.box rfl) ?_;refine .r ?_;refine .hp _ (by rw[bq];exact c2) ?_;refine .hp _ (bN r.box rfl) ?_;refine .mk _ rfl (by show(0:Int)<=(v:Int);omega) (by show(v:Int)<(N:Int);omega) ?_;refine .hp (R fk) eI ?_;refine aW (λbj=>?_) (λbj=>?_);refine .aLS ?_;exact next (some k) (by rw[hq,aX (by simp;omega)])
  refine .aLS ?_;exact next (some v) (by rw[hq,aE (by simp;omega)])
 rw[gU (show¬0<l by omega),Bw]at hq;refine .aLS ?_;exact next SX (by rw[hq];rfl)
 have yW:k=N:=by omega
 subst yW;exact .done ⟨rfl,rfl⟩
theorem ak0(w:rk cq b gt bk N aa)(cI cA:List Int)(az:cA.length=N)(db:N<=32):Fn aH 117 #[hx b] (st cq gt bk cI cA) λr U=>∃g c,r= .slice (some g) N c/\(st cq gt bk cI cA).le U/\bz U 3 1 (some g) N c (cA.map R):=by
 obtain⟨e0,gL,gM,cx,ci,co,cm,O,aV⟩:=w.ex;have x:cq.le (st cq gt bk cI cA):=I.jp aV.nB aV.nA;have HU:st cq gt bk cI cA bk=some (gB cA):=Ga;have av:=TK HU;rw[az]at av;generalize aP:st cq gt bk cI cA=h at x HU av;refine b5 aq3 rfl ?_;refine .hp _ (I.kL x (bN aV.head (o:=4) rfl)) ?_;refine .mk λcy fC=>?_;refine .done (.cR 1 _ _ rfl (av.src _) (by rw[wd];exact IV _) (by simp[c'];omega) (by omega) λbA bu aO=>?_);refine .bV 1 3 1 bA (0+N) bu _ rfl λU cu am az=>?_;have sB:bz U 3 1 bA (0+N) bu (cA.map λz=>[R z]).flatten:=am;rw[dJ,wd]at sB;obtain⟨g,rfl⟩:=fF aO.1;exact .done ⟨g,bu,by rw[dJ];rfl,cu,sB⟩
theorem ai3(w:rk cq b gt bk N aa)(r:vQ cq fe b hK gd N cl sp left fZ V)(cI cA:List Int)(pq:cI.length=aa.length)(fB:aa.length<=96)(db:N<=32)(az:cA.length=N):Fn aH 56 #[hx fe] (st cq gt bk cI cA) λv U=>(st cq gt bk cI cA).le U/\∃A k c,v= .slice A k c/\(k=0↔∀x∈left,x=0):=by
 obtain⟨e0,gL,gM,cx,ci,co,cm,O,aV⟩:=w.ex;have x:cq.le (st cq gt bk cI cA):=I.jp aV.nB aV.nA;have f117:=ak0 w cI cA az db;have r:=r.mono x;have aen:∀ab,(st cq gt bk cI cA).le ab->∀v:Nat,Fn aH 118 #[hx b,R v] ab λr U=>(∃z,r=R z)/\ab.le U:=λab le v=>by
  obtain⟨hH,e,cu,hJ,z2⟩:=Jr aV.ne aV.nB aV.nA le;rw[e];exact(aeH (w.mono cu hJ z2) cI cA pq fB v).mono λr U q=>⟨⟨_,q.1⟩,by rw[q.2];exact I.le_refl _⟩
 generalize st cq gt bk cI cA=h at r f117 aen;refine b5 aso rfl ?_;refine .hp _ (bN r.box rfl) ?_;refine .done (.mk _ f117 ?_);rintro _ h1 ⟨ij,Kl,rfl,cr,av2⟩;have fv:=r.mono cr;refine .hp _ (bN fv.box rfl) ?_;refine .lj (.abs 273 3 none 0 0 [] ⟨rfl,.inl ⟨rfl,rfl,rfl⟩⟩ (.done ?_));refine .mk (Nat×Option ar×Nat×Nat×List ao) [0,3,4,15,16,17] (λ(k,A,m,c,_)=>[.v (hx fe),.v (.slice A m c),.v (.slice (some ij) N Kl),.v (.slice (some ⟨hK,0,none⟩) N cl),.v (R N),.v (R k)]) (λ(_,A,m,c,xs)=>[.row 273 3 A m c xs]) (λ(k,_,m,_,_) U=>h1.le U/\k<=N/\m<=k/\(m=0↔∀x∈left.take k,x=0)) (λ(k,_)=>N-k) (0,none,0,0,[]) (λ_=>rfl) ⟨I.le_refl _,cO _,dd _,by simp⟩ rfl rfl ?_;rintro⟨k,A,m,c,xs⟩ e ab ⟨cn,hk,hm,u2⟩;have dU:=fv.mono cn;have le:=I.le_trans cr cn;refine aW (λq=>?_) (λq=>?_);have br:k<left.length:=by rw[r.hY];omega
 have iY:left.take (k+1)=left.take k++[left[k]]:=kh br;have wc:left.getD k 0=left[k]:=by rw[cN,bZ br];rfl
 have c1:=A7 (Sl dU.lf dU.hY) rfl (i:=k) (by omega);rw[wc]at c1;generalize left[k]=l at c1 iY;refine .r ?_;refine .hp _ (by rw[bq];exact c1) ?_;refine aW (λaD=>?_) (λaD=>?_);have am6:=(av2.mono cn).jr;have c2:=C6 am6 rfl (i:=k) (by omega);refine .r ?_;refine .hp _ (by rw[bq];exact c2) ?_;refine .hp _ (bN dU.box rfl) ?_;refine .mk _ (aen ab le k) (λv ab q=>q.2) ?_;rintro _ an ⟨⟨z,rfl⟩,dZ⟩;refine .cR 0 _ _ rfl rfl (by simp[Aa,R]) (by simp[c'];omega) (by omega) λbA bu Yw=>?_;refine .aLS ?_;refine⟨(k+1,bA,m+1,bu,_),rfl,rfl,⟨I.le_trans cn dZ,by omega,by omega,?_⟩,by show N- (k+1)<N-k;omega⟩;rw[iY];refine⟨λh=>by omega,λh=>?_⟩;have:=h l (by simp);omega;refine .aLS ?_;refine⟨(k+1,A,m,c,xs),rfl,rfl,⟨cn,by omega,by omega,?_⟩,by show N- (k+1)<N-k;omega⟩;have Lv:l=0:=by omega
 rw[iY,u2,Lv];simp;exact⟨λh x ad=>by rcases ad with ad|ad;exact h x ad;exact ad,λh x ad=>h x (.inl ad)⟩;have yW:k=N:=by omega
 rw[yW,k4 (by rw[r.hY];omega)]at u2;exact .done ⟨le,A,m,c,rfl,u2⟩
def zA(N:Nat)(aa:List bo)(fZ:List Nat):Nat->List Int->List Nat->List Nat->List Nat×List Nat
 |0,_,left,l=>(left,l)
 |n+1,f,left,l=>match oH N aa (ee aa f) left fZ N with
  |none=>(left,l)
  |some v=>zA N aa fZ n (bump f v) (left.set v (left.getD v 0-1)) (l++[v])
def r1(N:Nat)(aa:List bo)(d6:List Nat)(aG:List Int):Option (List Nat):=
 if e' N aa=0/\d6.length=N/\y5 aa d6=true/\d6.sum<=2048/\(∀z∈aG,0<=z/\z<N)then(if∀x∈(zA N aa (zw N aG) (d6.sum+1) (bG N 0) d6 []).1,x=0 then some (zA N aa (zw N aG) (d6.sum+1) (bG N 0) d6 []).2 else none)else none
theorem VU{N:Nat}{aa:List bo}{cI:List Int}{left fZ:List Nat}:∀{w v:Nat},oH N aa cI left fZ w=some v->0<left.getD v 0/\wE N aa cI v=true
 |0,v,h=>by cases h
 |w+1,v,h=>by
  unfold oH at h;split at h;rename_i aw;injection h with h;subst h;simp only[fY,sh]at aw;exact⟨aw.1,aw.2.1⟩;exact VU h
theorem ax8(l:List Nat):∀v,v<l.length->0<l.getD v 0->(l.set v (l.getD v 0-1)).sum+1=l.sum:=by
 induction l with
 |nil=>intro v h;simp at h
 |cons a l bE=>
  intro v h hp;cases v with
  |zero=>simp at hp⊢;omega
  |succ v=>
   have:=bE v (by simpa using h) (by simpa using hp);simp only[List.set_cons_succ,Ol,ahi];omega
theorem ae0{o:Nat}{t f:List Int}(h1:o≠gt)(ab:o≠bk)(J:Obj):(st cq gt bk t f).put o J=st (cq.put o J) gt bk t f:=by
 funext k;unfold st I.put;by_cases aJ:k=o;subst aJ;simp[h1,ab];by_cases aI:k=bk;subst aI;simp[aJ];by_cases ck:k=gt;subst ck;simp[aJ,aI];simp[aJ,aI,ck]
def Vd(h:I)(N:Nat)(aa:List bo)(d6:List Nat)(aG:List Int)(v:ao)(U:I):Prop:=h.le U/\match r1 N aa d6 aG with
 |some l=>l.length<=2048/\∃A c,v= .tuple #[.agg #[.slice A l.length c,.slice none 0 0],R 0]/\bg U 1 A l.length (l.map λz:Nat=>[R (z:Int)])
 |none=>∃(dE:Option ar)(bB c2:Nat)(A:Option ar)(k c:Nat)(e:Int),v= .tuple #[.agg #[.slice dE bB c2,.slice A k c],R e]/\¬(e=0/\k=0)
theorem X2(l:List Nat):(l.map λz:Nat=>[R (z:Int)]).flatten=l.map λz:Nat=>R (z:Int):=by
 induction l with
 |nil=>rfl
 |cons a l bE=>rw[eO,qr,bE];rfl
theorem TA{o:Nat}{t f:List Int}(bH:gt≠bk)(h:st cq gt bk t f o=none):o≠gt/\o≠bk:=by
 constructor;intro e;subst e;rw[DD bH]at h;cases h;intro e;subst e;rw[Ga]at h;cases h
theorem alF(l:List Nat):∀v,l.getD v 0<=l.sum:=by
 induction l with
 |nil=>intro v;simp
 |cons a l bE=>
  intro v;cases v with
  |zero=>simp
  |succ v=>have:=bE v;simp only[ahi,Ol];omega
theorem aK{P:Program}{x y:IR}{Q:dL}{e:bY}(k:∀nt:dL,(∀e L h,c7 P n y Q e L h->nt .normal e L h)->(∀ex e L h,ex≠.normal->Q ex e L h->nt ex e L h)->c7 P n x nt e L h):c7 P n (.seq x y) Q e L h:=k (λex e L h=>match ex with|.normal=>c7 P n y Q e L h|ex=>Q ex e L h) (λ_ _ _ q=>q) (λex _ _ _ ad q=>by cases ex<;>first|exact absurd rfl ad|exact q)
theorem fG{P:Program}{id:Nat}{x:IR}{Q:dL}{e:bY}(k:∀nt:dL,(∀e L h,Q .normal e L h->nt (.exit id) e L h)->(∀ex e L h,ex≠.exit id->Q ex e L h->nt ex e L h)->c7 P n x nt e L h):c7 P n (.block id x) Q e L h:=by
 refine k (λex e L h=>match ex with|.exit o=>bif gN o id then Q .normal e L h else Q (.exit o) e L h|ex=>Q ex e L h) (λe L h q=>?_) (λex e L h ad q=>?_);show(bif gN id id then Q .normal e L h else Q (.exit id) e L h);rw[Nat.beq_refl];exact q;cases ex with
 |exit o=>
  show(bif gN o id then Q .normal e L h else Q (.exit o) e L h);rw[show gN o id=false from Bool.eq_false_iff.2 λq=>ad (by rw[Nat.eq_of_beq_eq_true q])];exact q
 |_=>exact q
theorem awX(Q:dL)(e:bY)(m n cx fe b gt bk hK gd c1:Nat)(A:Option ar)(sp:List ao)(aa:List bo)(d6 fZ:List Nat)(bm cq:I)(tf:List Nat×List Nat)(aj:e' m aa=0)(uW:m<=32)(wo:aa.length<=96)(jv:rk bm b gt bk m aa)(aDQ:bm fe=none)(fu:bm hK=none)(IB:bm.le cq)(x':cq gt=none)(x9:cq bk=none)(dO:vQ cq fe b hK gd m c1 sp d6 fZ (.slice none 0 0))(QZ:d6.sum<=2048)(K2:tf=zA m aa fZ (d6.sum+1) (bG m 0) d6 [])(Ml:hK≠fe)(Sa:hK≠gd)(he:[6,16,17].map e=[.p 1 0,.p 4 0,.v (R (Af (oH m aa (ee aa (bG m 0)) d6 fZ m)))])(cD:∀e oJ f B dP,bm.le oJ->oJ gt=none->oJ bk=none->f.length=m->vQ oJ fe b hK gd m c1 sp tf.1 fZ (.slice B tf.2.length dP)->tf.2.length<=2048->e 6= .p 1 0->e 16= .p 4 0->Q (.exit 4) e [.own [.v (R m),.v (.slice A n cx)] 33,.own [.v (.slice none 0 0),.v (.slice none 0 0)] 85,.gone,.gone,.bV fe,.row 3 1 B tf.2.length dP (tf.2.map λz:Nat=>R (z:Int))] (st oJ gt bk (ee aa f) f)):kH (λQ e L h=>c7 aH 124 aaA Q e L h) Q e [.own [.v (R m),.v (.slice A n cx)] 33,.own [.v (.slice none 0 0),.v (.slice none 0 0)] 85,.gone,.gone,.bV fe,.row 3 1 none 0 0 []] (st cq gt bk (ee aa (bG m 0)) (bG m 0)):=by
 have g0:Good m aa (bG m 0) 0:=Cr aj;refine .mk (Int×List Int×List Nat×List Nat×Option ar×Nat×I×Nat) [6,16,17] (λ(z,_)=>[.p 1 0,.p 4 0,.v (R z)]) (λ(_,_,_,l,B,dP,_,_)=>[.own [.v (R m),.v (.slice A n cx)] 33,.own [.v (.slice none 0 0),.v (.slice none 0 0)] 85,.gone,.gone,.bV fe,.row 3 1 B l.length dP (l.map λz:Nat=>R (z:Int))]) (λ(z,f,left,l,B,dP,oJ,jA) U=>z=Af (oH m aa (ee aa f) left fZ m)/\U=st oJ gt bk (ee aa f) f/\bm.le oJ/\oJ gt=none/\oJ bk=none/\Good m aa f l.length/\vQ oJ fe b hK gd m c1 sp left fZ (.slice B l.length dP)/\left.sum+l.length=d6.sum/\zA m aa fZ jA f left l=tf/\left.sum<jA) (λ(_,_,_,_,_,_,_,jA)=>jA) (_,bG m 0,d6,[],none,0,cq,d6.sum+1) (λ_=>rfl) ⟨rfl,rfl,IB,x',x9,g0,dO,by simp,K2.symm,by omega⟩ he rfl ?_;rintro⟨z,f,left,l,B,dP,oJ,jA⟩ ck cg ⟨mj,rfl,Fq,x',x9,PU,zu,an6,LG,aA6⟩;have gA:l.length<=2048:=by omega
 show c7 aH 124 aaA _ (iR ck [6,16,17] [.p 1 0,.p 4 0,.v (R z)]) [.own [.v (R m),.v (.slice A n cx)] 33,.own [.v (.slice none 0 0),.v (.slice none 0 0)] 85,.gone,.gone,.bV fe,.row 3 1 B l.length dP (l.map λz:Nat=>R (z:Int))] (st oJ gt bk (ee aa f) f);refine aK λgO dx eG=>?_;refine aW (λj6=>?_) (λj6=>?_);cases af:oH m aa (ee aa f) left fZ m with
 |none=>rw[af]at mj;simp[Af]at mj;omega
 |some v=>
  have aY:z=(v:Int):=by rw[mj,af];rfl
  clear mj;have mj:=af;obtain⟨xy,anG⟩:=VU mj;have Q3:=OV mj;have ZB:may m aa f v=true:=anG;obtain⟨jA,rfl⟩:∃g,jA=g+1:=⟨jA-1,by omega⟩;have ZW:zA m aa fZ jA (bump f v) (left.set v (left.getD v 0-1)) (l++[v])=tf:=by rw[<-LG,zA,mj]
  have cu:=alF left v;have an8:=ax8 left v (by rw[zu.hY];exact Q3) xy;have alD:=PU.bump aj ZB;have alB:ni m aa [z] f=(1,bump f v):=by rw[aY,EH ZB,bq]
  have atD:oJ.le (st oJ gt bk (ee aa f) f):=I.jp x' x9;refine dx _ _ _ ?_;refine aK λgu df fK=>?_;refine fG λgk ed eH=>?_;refine aK λhA dY hL=>?_;refine .hp _ (bN (atD _ _ zu.box) rfl) ?_;refine .mk λdh amA=>?_;have Ac:At oJ oJ b gt bk m aa f l.length:=⟨I.le_refl _,jv.mono Fq x' x9,PU⟩;refine .done (.mk _ (EG aj Ac (by omega) z amA) ?_);rintro _ fa ⟨rfl,Cw,rfl,G3⟩;rw[alB]at G3⊢;simp only at G3⊢;have vs:=zu.mono G3.le;obtain⟨_,_,_,_,_,_,_,_,cF⟩:=G3.jv.ex;have R0:=I.jp (cI:=ee aa (bump f v)) (cA:=bump f v) cF.nB cF.nA;have lu:=A7 (Sl (R0 _ _ vs.lf) vs.hY) rfl Q3;refine dY _ _ _ ?_;refine aK λhc eT hi=>?_;refine .hp _ (bN (R0 _ _ vs.box) rfl) ?_;have Mj:=vs.box;have VZ:fe≠gt:=λe=>by rw[e,cF.nB]at Mj;cases Mj
  have V0:fe≠bk:=λe=>by rw[e,cF.nA]at Mj;cases Mj
  have Mk:=vs.lf;have abW:hK≠gt:=λe=>by rw[e,cF.nB]at Mk;cases Mk
  have abX:hK≠bk:=λe=>by rw[e,cF.nA]at Mk;cases Mk
  generalize left.getD v 0=x at lu xy an8 ZW cu;refine .r ?_;refine .hp (R x) (by rw[aY,bq];exact lu) ?_;refine .aLS ?_;refine .r ?_;have auO:over ((left.map λz:Nat=>R (z:Int))++sp) v [R ((x:Int)-1)]=some (((left.set v (x-1)).map λz:Nat=>R (z:Int))++sp):=by
   rw[ib _ _ _ (by simp[vs.hY];omega),List.set_append_left _ _ (by simp[vs.hY];exact Q3),nb,show(x:Int)-1=((x-1:Nat):Int) by omega]
  refine .hp hK v 3 _ _ (by show(ou hK 0 none).add (z.toNat*1)=_;rw[aY,bq,add_lit,dJ,ew]) (R0 _ _ vs.lf) auO ?_;rw[ae0 abW abX];have abv:bm.le (Cw.put hK (.cells (((left.set v (x-1)).map λz:Nat=>R (z:Int))++sp).toArray 3 (0,0))):=kT fu (I.le_trans Fq G3.le);have zv:vQ (Cw.put hK (.cells (((left.set v (x-1)).map λz:Nat=>R (z:Int))++sp).toArray 3 (0,0))) fe b hK gd m c1 sp (left.set v (x-1)) fZ (.slice B l.length dP):=⟨by rw[I.cf _ _ (d9 Ml)];exact vs.box,I.bP _ _ _,by rw[I.cf _ _ (d9 Sa)];exact vs.Dx,by simp[vs.hY],vs.wG⟩;have hJ:(Cw.put hK (.cells (((left.set v (x-1)).map λz:Nat=>R (z:Int))++sp).toArray 3 (0,0))) gt=none:=by rw[I.cf _ _ (d9 abW)];exact cF.nB
  have z2:(Cw.put hK (.cells (((left.set v (x-1)).map λz:Nat=>R (z:Int))++sp).toArray 3 (0,0))) bk=none:=by rw[I.cf _ _ (d9 abX)];exact cF.nA
  generalize Cw.put hK (.cells (((left.set v (x-1)).map λz:Nat=>R (z:Int))++sp).toArray 3 (0,0))=gf at abv zv hJ z2;have IK:=I.jp (cI:=ee aa (bump f v)) (cA:=bump f v) hJ z2;refine eT _ _ _ ?_;refine .hp _ (bN (IK _ _ zv.box) rfl) ?_;refine .done (.cR 5 _ [R z] rfl rfl (by simp[Aa,R]) (by simp[c'];omega) (by omega) λdS yA aAR=>?_);refine .hp fe 3 182 _ [hx b,.slice (some ⟨hK,0,none⟩) m c1,.slice (some ⟨gd,0,none⟩) m m,.slice dS (l.length+1) yA] rfl (IK _ _ zv.box) rfl ?_;rw[ae0 VZ V0];have RP:bm.le (gf.put fe (.cells [hx b,.slice (some ⟨hK,0,none⟩) m c1,.slice (some ⟨gd,0,none⟩) m m,.slice dS (l.length+1) yA].toArray 182 (0,0))):=kT aDQ abv;have at':gd≠fe:=λe=>by have:=zv.Dx;rw[e,zv.box]at this;injection this with this;injection this with _ this;exact absurd this (by decide)
  have SZ:vQ (gf.put fe (.cells [hx b,.slice (some ⟨hK,0,none⟩) m c1,.slice (some ⟨gd,0,none⟩) m m,.slice dS (l.length+1) yA].toArray 182 (0,0))) fe b hK gd m c1 sp (left.set v (x-1)) fZ (.slice dS (l.length+1) yA):=⟨I.bP _ _ _,by rw[I.cf _ _ Ml];exact zv.lf,by rw[I.cf _ _ at'];exact zv.Dx,zv.hY,zv.wG⟩;have hl:(gf.put fe (.cells [hx b,.slice (some ⟨hK,0,none⟩) m c1,.slice (some ⟨gd,0,none⟩) m m,.slice dS (l.length+1) yA].toArray 182 (0,0))) gt=none:=by rw[I.cf _ _ (d9 VZ)];exact hJ
  have aDA:(gf.put fe (.cells [hx b,.slice (some ⟨hK,0,none⟩) m c1,.slice (some ⟨gd,0,none⟩) m m,.slice dS (l.length+1) yA].toArray 182 (0,0))) bk=none:=by rw[I.cf _ _ (d9 V0)];exact z2
  generalize gf.put fe (.cells [hx b,.slice (some ⟨hK,0,none⟩) m c1,.slice (some ⟨gd,0,none⟩) m m,.slice dS (l.length+1) yA].toArray 182 (0,0))=al5 at RP SZ hl aDA;refine eH _ _ _ _ nofun ?_;refine df _ _ _ ?_;refine .done (.mk _ (VT (jv.mono RP hl aDA) SZ (ee aa (bump f v)) (bump f v) (pE _ _) wo (by omega)) ?_);rintro _ _ ⟨rfl,rfl⟩;refine⟨(_,bump f v,left.set v (x-1),l++[v],dS,yA,al5,jA),rfl,?_,⟨rfl,rfl,RP,hl,aDA,by rw[fb];exact alD,by rw[fb];exact SZ,by rw[fb];simp only[gI,N'];omega,ZW,by show(left.set v (x-1)).sum<jA;omega⟩,by show jA<jA+1;omega⟩;show _=[LE.own [.v (R m),.v (.slice A n cx)] 33,LE.own [.v (.slice none 0 0),.v (.slice none 0 0)] 85,LE.gone,LE.gone,LE.bV fe,LE.row 3 1 dS (l++[v]).length yA ((l++[v]).map λz:Nat=>R (z:Int))];rw[fm,fb,aY];rfl
 obtain⟨jA,rfl⟩:∃g,jA=g+1:=⟨jA-1,by omega⟩;cases af:oH m aa (ee aa f) left fZ m with
 |some v=>rw[af]at mj;simp[Af]at mj;omega
 |none=>
  rw[zA,af]at LG;subst LG;refine eG _ _ _ _ nofun ?_;exact cD _ oJ f B dP Fq x' x9 PU.len zu gA rfl rfl
theorem awW(N n cx m c k c2:Nat)(A ax P:Option ar)(aa:List bo)(d6:List Nat)(aG:List Int)(h:I)(av:bg h 5 A n (aa.map bo.cells))(aC:n*40<=140737488355328)(mE:bg h 1 ax m (d6.map λz:Nat=>[R (z:Int)]))(am:∀q∈d6,q<=1000000)(hm:m<=1000)(q1:bg h 1 P k (aG.map λz=>[R z]))(hk:k<=70368744177664):Fn aH 23 #[my N A n cx,.slice ax m c,.slice P k c2] h λv U=>Vd h N aa d6 aG v U:=by
 have al:aa.length=n:=by simpa using av.len
 have y0:d6.length=m:=by simpa using mE.len
 have aBg:aG.length=k:=by simpa using q1.len
 have FF:∀(U:I)(e:Int),h.le U->r1 N aa d6 aG=none->e≠0->Vd h N aa d6 aG (.tuple #[.agg #[.slice none 0 0,.slice none 0 0],R e]) U:=λU e le kP he=>⟨le,by rw[kP];exact⟨none,0,0,none,0,0,e,rfl,λq=>he q.1⟩⟩;refine b5 aa0 rfl ?_;refine .done (.mk _ (anM N n cx m c A ax aa d6 h av (by omega) mE am hm) ?_);rintro _ _ ⟨rfl,rfl⟩;by_cases CU:e' N aa≠0;rw[aX CU];refine aW (λq=>?_) (λq=>absurd CU q);exact .done (FF _ _ (I.le_refl _) (by rw[r1,aE (λq=>CU q.1)]) CU);rw[aE CU];have aj:=jw.1 CU;obtain⟨HF,uW,wo,dk⟩:=lO aj;by_cases AK:m≠N;rw[aX AK];exact .done (FF _ _ (I.le_refl _) (by rw[r1,aE (λq=>AK (by omega))]) (by decide));rw[aE AK];have AK:=jw.1 AK;subst AK;cases hH:y5 aa d6;exact .done (FF _ _ (I.le_refl _) (by rw[r1,aE (λq=>by rw[hH]at q;cases q.2.2.1)]) (by decide));have H':∀q∈d6,q<=4096:=λq aq=>by
  simp only[y5,fY,oA,Dt,sh]at hH;exact(hH.1 q aq).2
 have QZ:∀i,(d6.take i).sum<=i*4096:=λi=>by
  induction i with
  |zero=>simp
  |succ i bE=>
   rw[List.take_add_one,ahu];have:(d6[i]?.toList).sum<=4096:=by
    cases he:d6[i]?with
    |none=>simp
    |some x=>simp;exact H' x (List.mem_of_getElem? he)
   omega
 refine .mk Nat [1,2,3,6,10,32,33,34] (λi=>[.v (.slice ax m c),.v (.slice P k c2),.p 0 0,.p 1 0,.v (R ((d6.take i).sum:Nat)),.v (.slice ax m c),.v (R m),.v (R i)]) (λ_=>[.own [.v (R m),.v (.slice A n cx)] 33,.own [.v (.slice none 0 0),.v (.slice none 0 0)] 85]) (λi U=>U=_/\i<=m) (λi=>m-i) 0 (λ_=>rfl) ⟨rfl,cO _⟩ rfl rfl ?_;rintro i e h1 ⟨rfl,ag⟩;refine aW (λq=>?_) (λq=>?_);have ea:i<d6.length:=by omega
 obtain⟨g,ak⟩:=mE.cc (by omega);have uL:=A7 mE ak (i:=i) (by omega);have wc:d6.getD i 0=d6[i]:=by rw[cN,bZ ea];rfl
 rw[wc]at uL;have iY:(d6.take (i+1)).sum=(d6.take i).sum+d6[i]:=by rw[kh ea,ahu];simp
 have af:=H' _ (cS ea);have c5:=QZ i;generalize d6[i]=x at uL iY af;generalize(d6.take i).sum=s at iY c5;refine .m g ak ?_;refine .hp _ (by rw[bq];exact uL) ?_;refine .aLS ?_;refine .aLS ?_;refine⟨i+1,?_,rfl,⟨rfl,by omega⟩,by show m- (i+1)<m-i;omega⟩;rw[iY];show[_,_,_,_,aA.v (R ((s:Int)+x)),_,_,_]=_;rw[show(s:Int)+x=((s+x:Nat):Int) by simp];rfl;have yV:i=d6.length:=by omega
 rw[yV,pM];have c5:=QZ d6.length;rw[pM]at c5;refine aW (λaD=>?_) (λaD=>?_);exact .done (FF _ _ (I.le_refl _) (by rw[r1,aE (λq=>by have:=q.2.2.2.1;omega)]) (by decide));refine .mk Nat [1,2,3,6,45,46,47] (λi=>[.v (.slice ax m c),.v (.slice P k c2),.p 0 0,.p 1 0,.v (.slice P k c2),.v (R k),.v (R i)]) (λ_=>[.own [.v (R m),.v (.slice A n cx)] 33,.own [.v (.slice none 0 0),.v (.slice none 0 0)] 85]) (λi U=>U=_/\i<=k/\∀z∈aG.take i,0<=z/\z<(m:Int)) (λi=>k-i) 0 (λ_=>rfl) ⟨rfl,cO _,by simp⟩ rfl rfl ?_;rintro i e h1 ⟨rfl,ag,aY⟩;refine aW (λbj=>?_) (λbj=>?_);have ea:i<aG.length:=by omega
 obtain⟨g,ak⟩:=q1.cc (by omega);have En:=C6 q1 ak (i:=i) (by omega);have wc:aG.getD i 0=aG[i]:=by rw[cN,bZ ea];rfl
 rw[wc]at En;have iY:aG.take (i+1)=aG.take i++[aG[i]]:=kh ea;have po:=cS ea;generalize aG[i]=x at En iY po;refine .m g ak ?_;refine .hp _ (by rw[bq];exact En) ?_;refine aW (λbT=>?_) (λbT=>?_);exact .done (FF _ _ (I.le_refl _) (by rw[r1,aE (λq=>by have:=q.2.2.2.2 x po;omega)]) (by decide));refine aW (λdz=>?_) (λdz=>?_);exact .done (FF _ _ (I.le_refl _) (by rw[r1,aE (λq=>by have:=q.2.2.2.2 x po;omega)]) (by decide));refine .aLS ?_;refine⟨i+1,rfl,rfl,⟨rfl,by omega,λz tQ=>?_⟩,by show k- (i+1)<k-i;omega⟩;rw[iY]at tQ;rcases ev.1 tQ with tQ|tQ;exact aY z tQ;simp at tQ;subst tQ;omega;have yV:i=aG.length:=by omega
 rw[yV,pM]at aY;refine .done (.mk _ (Mn m n cx aa A h1 av aC aj) ?_);rintro _ ab ⟨bm,b,gt,bk,rfl,IA,jv,rfl⟩;obtain⟨e0,gL,gM,O5,ci,co,cm,O,aV⟩:=jv.ex;have Fw:bm.le (st bm gt bk (ee aa (bG m 0)) (bG m 0)):=I.jp aV.nB aV.nA;have c9:=I.le_trans IA Fw;refine .mk λbL eS=>?_;refine .cR 3 _ _ rfl ((mE.mono c9).src _) (by rw[X2];intro u hu;obtain⟨z,_,rfl⟩:=dn.1 hu;rfl) (by simp[c'];omega) (by omega) λiu c1 aAQ=>?_;refine .mk _ (av7 m k c2 P aG _ (q1.mono c9) hk (by omega) aY (by omega)) (λv ab q=>q.1) ?_;rintro _ an ⟨dZ,gd,rfl,Zh,af'⟩;refine .mk λfe CF=>?_;have H2:=aV.ne;obtain⟨at7,at8⟩:=TA H2 af';obtain⟨acd,ace⟩:=TA H2 (I.none_le dZ CF);have gF:=I.du (J:=.cells #[hx b,.slice iu (0+m) c1,.slice (some ⟨gd,0,none⟩) m m,.slice none 0 0] 182 (0,0)) CF;refine .bV 3 3 1 iu (0+m) c1 _ rfl λaR cW adL XE=>?_;obtain⟨eb,adL|⟨hK,a8,rfl,jK,_,_,fg,nj⟩⟩:=adL;omega;have JJ:=XE _ rfl;have NA:=I.none_le (I.le_trans dZ gF) JJ;obtain⟨R9,R'⟩:=TA H2 NA;have Ml:hK≠fe:=λe=>by rw[e,I.bP]at JJ;cases JJ
 have Sa:hK≠gd:=λe=>by have:=(gF _ _ Zh).symm.trans ((ho _ e.symm).trans JJ);cases this
 obtain⟨cq,wc,IB,x',x9⟩:=Jr H2 aV.nB aV.nA (I.le_trans dZ (I.le_trans gF cW));rw[wc];have qk:∀o J,o≠gt->o≠bk->aR o=some J->cq o=some J:=λo J C9 AY ae=>by rw[wc,DE C9 AY]at ae;exact ae
 have wa:a8=((d6.map λz:Nat=>R (z:Int))++a8.toList.drop m).toArray:=by
  have h1:a8.toList.take m=d6.map λz:Nat=>R (z:Int):=by
   have ab:=nj;rw[X2,dJ,ew]at ab;exact ab
  rw[<-h1,BI,ov]
 have dO:vQ cq fe b hK gd m c1 (a8.toList.drop m) d6 (zw m aG) (.slice none 0 0):=⟨by rw[qk fe _ acd ace (cW _ _ (I.bP _ _ _)),dJ],by rw[qk hK _ R9 R' jK];exact ho (λc=>some (Obj.cells c 3 (0,0))) wa,qk gd _ at7 at8 (cW _ _ (gF _ _ Zh)),y0,by rw[zw,S0]⟩;have ata:=jv.mono IB x' x9;have g0:Good m aa (bG m 0) 0:=Cr aj;have Yx:h1 fe=none:=I.none_le (I.le_trans IA (I.le_trans Fw dZ)) CF;have YA:h1 hK=none:=I.none_le IA (by have:=NA;rwa[DE R9 R']at this);have aDQ:bm fe=none:=by have:=I.none_le dZ CF;rwa[DE acd ace]at this
 have fu:bm hK=none:=by rwa[DE R9 R']at NA
 generalize a8.toList.drop m=sp at dO;clear qk wc jK nj wa fg a8 JJ NA gF XE;refine .done (.mk _ (VT ata dO (ee aa (bG m 0)) (bG m 0) (pE _ _) wo (by omega)) ?_);rintro _ _ ⟨rfl,rfl⟩;obtain⟨tf,K2⟩:∃r,r=zA m aa (zw m aG) (d6.sum+1) (bG m 0) d6 []:=⟨_,rfl⟩;have kP:r1 m aa d6 aG=if∀x∈tf.1,x=0 then some tf.2 else none:=by
  rw[r1,aX ⟨aj,y0,hH,by omega,aY⟩,K2]
 have IC:=I.le_trans IA IB;refine .lj (.abs 3 1 none 0 0 [] ⟨rfl,.inl ⟨rfl,rfl,rfl⟩⟩ (.done ?_));refine awX _ _ m n cx fe b gt bk hK gd c1 A sp aa d6 (zw m aG) bm cq tf aj (by omega) wo jv aDQ fu IB x' x9 dO (by omega) K2 Ml Sa rfl ?_;rintro e oJ f B dP Fq x' x9 az zu anD amV amU;rw[show e=iR e [6,16] [.p 1 0,.p 4 0] by rw[<-amV,<-amU];exact(fr [6,16] e).symm];refine .bV 5 3 1 B tf.2.length dP _ rfl λcg fW mA f5=>?_;obtain⟨hH,KF,L4,hJ,z2⟩:=Jr H2 x' x9 fW;rw[KF]at fW mA⊢;refine .done (.mk _ (ai3 (jv.mono (I.le_trans Fq L4) hJ z2) (zu.mono L4) (ee aa f) f (pE _ _) wo (by omega) az) ?_);rintro _ fa ⟨hv,dE,bB,eI,rfl,i9⟩;have IK:h1.le fa:=I.le_trans IA (I.le_trans Fq (I.le_trans L4 (I.le_trans (I.jp hJ z2) hv)));refine aW (λBf=>?_) (λBf=>?_);refine .done ⟨IK,?_⟩;rw[kP,aE (λq=>by have:=i9.2 q;omega)];exact⟨_,_,_,dE,bB,eI,0,rfl,λq=>by have:=q.2;omega⟩;have gK:=hv _ _ (I.jp hJ z2 _ _ (zu.mono L4).box);refine .hp _ (bN gK rfl) ?_;refine .done ⟨IK,?_⟩;rw[kP,aX (i9.1 (by omega))];exact⟨anD,B,dP,rfl,(mA.mono hv).acJ⟩
def ud(K:Int):cX->Bool
 |.nil=>false
 |.cons _ n b r=>b.leaf&&decide (K<=n)||ud K b||ud K r
theorem ae3(K:Int):∀(N:Nat)(l:bw),l.bF<N->l.bF<=200000->∀(A:Option ar)(m cap:Nat)(h:I),hU h A m l->Fn aH 70 #[.slice A m cap,R K] h λv U=>v= .bool (ud K l.bn)/\U=h
 |0,l,db,_=>absurd db (BO _)
 |N+1,l,db,lU=>by
  intro A m cap bm aj;have hm:m<=200000:=by have:=aj.1;have:=l.vk;omega
  refine b5 asz rfl ?_;refine .mk (Nat×bw) [1,7,8,9] (λ(i,_)=>[.v (R K),.v (.slice A m cap),.v (R m),.v (R i)]) (λ_=>[]) (λ(i,r) U=>U=bm/\o9 bm A m i r/\r.bF<=l.bF/\ud K l.bn=ud K r.bn) (λ(i,_)=>m-i) (0,l) (λ_=>rfl) ⟨rfl,aj.cB,dd _,rfl⟩ rfl rfl ?_;rintro⟨i,r⟩ e U ⟨rfl,av,ik,he⟩;refine aW (λab=>?_) (λab=>?_);cases r with
  |nil=>have:=av.fin;omega
  |cons t w B bc c cj r=>
   obtain⟨g,aO,ag,aw,ph,am⟩:=av.open;simp only[bw.bF]at ik;have oK:=ph.1;have nE:=cj.Ft;refine .m g aO ?_;refine .hp (iF t w B bc c) rfl (by rw[bq];exact aw) ?_;have F:=ae3 K N cj (by omega) (by omega) B bc c U ph;have go:(bw.bn (.cons t w B bc c cj r))= .cons t w cj.bn r.bn:=rfl;rw[go,ud,nE]at he;refine aW (λaM=>?_) (λaM=>?_);rw[fo (show cj.len=0 by omega),wQ]at he;refine aW (λaD=>?_) (λaD=>?_);refine .done ⟨?_,rfl⟩;rw[he,fo (by omega)];rfl;rw[gU (show¬K<=w by omega),agl]at he;refine .done (.mk _ F ?_);rintro _ _ ⟨rfl,rfl⟩;cases ad:ud K cj.bn;refine .aLS ?_;exact⟨(i+1,r),rfl,rfl,⟨rfl,am,by omega,by rw[he,ad];rfl⟩,by show m- (i+1)<m-i;omega⟩;exact .done ⟨by rw[he,ad];rfl,rfl⟩;rw[gU (show¬cj.len=0 by omega),Bw,agl]at he;refine .done (.mk _ F ?_);rintro _ _ ⟨rfl,rfl⟩;cases ad:ud K cj.bn;refine .aLS ?_;exact⟨(i+1,r),rfl,rfl,⟨rfl,am,by omega,by rw[he,ad];rfl⟩,by show m- (i+1)<m-i;omega⟩;exact .done ⟨by rw[he,ad];rfl,rfl⟩
  cases r with
  |nil=>
   refine .done ?_;rw[he];exact⟨rfl,rfl⟩
  |cons=>obtain⟨g,aO,ag,_⟩:=av.open;omega
theorem alc(g:eY)(h:I)(ok:g.ok h)(A:Option ar)(k c:Nat)(T:Int)(bC:List cL)(mE:bg h 2 A k (bC.map cH))(hk:bC.length=k)(qO:g.cp.length=k)(he:k<=96)(ai:0<=T)(gA:T<=1024)(az:∀i(ag:i<bC.length)(ae:i<g.cp.length),0<=bC[i].1/\bC[i].1+bC[i].2<=T/\(g.cp[i].n:Int)<=bC[i].2):Fn aH 71 #[.agg g.cells.toArray,Jd A k c T] h λv U=>v= .bool true/\U=h:=by
 refine b5 asA rfl ?_;have xt:=ok.cp;rw[qO]at xt;have gc:g.cells=[.string g.dD,.slice g.hf g.bt.length g.ac,.slice g.gv k g.cM,.slice g.eF g.ins.length g.cE,.slice g.ct g.outs.length g.bO]:=by rw[eY.cells,qO]
 rw[gc];clear gc;refine aK λgS dy gY=>?_;refine dy _ _ _ ?_;refine aK λgO dx eG=>?_;refine aW (λq=>absurd q (by omega)) (λ_=>?_);refine aW (λq=>absurd q (by omega)) (λ_=>?_);refine aW (λq=>absurd q (by omega)) (λ_=>?_);refine dx _ _ _ ?_;refine aK λgu df fK=>?_;refine .mk Nat [2,3,25,26,27] (λi=>[.p 0 0,.p 1 0,.v (.slice A k c),.v (R k),.v (R i)]) (λ_=>[.own [.v (.string g.dD),.v (.slice g.hf g.bt.length g.ac),.v (.slice g.gv k g.cM),.v (.slice g.eF g.ins.length g.cE),.v (.slice g.ct g.outs.length g.bO)] 26,.own [.v (.slice A k c),.v (R T)] 37]) (λi U=>U=h/\i<=k) (λi=>k-i) 0 (λ_=>rfl) ⟨rfl,cO _⟩ rfl rfl ?_;rintro i e U ⟨rfl,ag⟩;refine aK λgk ed eH=>?_;refine ed _ _ _ ?_;refine aK λhA dY hL=>?_;refine aW (λq=>?_) (λq=>?_);have ea:i<k:=by omega
 obtain⟨f1,f2,f3⟩:=az i (by omega) (by omega);have h1:(bC.map cH)[i]?=some (cH bC[i]):=by rw[dV,bZ];rfl
 have ab:(g.cp.map GE.cells)[i]?=some (GE.cells g.cp[i]):=by rw[dV,bZ];rfl
 generalize bC[i]=x at f1 f2 f3 h1;generalize g.cp[i]=y at f3 ab;obtain⟨eJ,cG⟩:=mE.cc (by omega);obtain⟨Co,cV⟩:=xt.cc (by omega);have uL:=mE.row cG h1;have xd:=xt.row cV ab;refine dY _ _ _ ?_;refine aK λhc eT hi=>?_;refine fG λkb fE i'=>?_;refine aK λkc gg j1=>?_;refine .m eJ cG ?_;refine .hp (cH x) rfl (by rw[bq];exact uL) ?_;refine gg _ _ _ ?_;refine aK λko g' ja=>?_;refine aW (λq=>absurd q (by omega)) (λ_=>?_);refine aW (λq=>absurd q (by omega)) (λ_=>?_);refine .m Co cV ?_;refine .hp (.slice y.A y.n y.c) (by rw[bq];exact xd 4 _ rfl) ?_;refine aW (λq=>absurd q (by omega)) (λ_=>?_);refine .aLS ?_;refine g' _ _ _ ?_;refine aW (λq=>absurd q (by omega)) (λ_=>?_);refine i' _ _ _ _ nofun ?_;refine eT _ _ _ ?_;refine .aLS ?_;refine⟨i+1,rfl,rfl,⟨rfl,by omega⟩,by show k- (i+1)<k-i;omega⟩;refine hL _ _ _ _ nofun ?_;refine df _ _ _ ?_;exact .done ⟨rfl,rfl⟩
structure b6 where
 k:Nat
 a:Int
 b:Int
 deriving DecidableEq
variable {ax:List (List b6)}{l:List b6}
def b6.cells(x:b6):List ao:=[.int .u8 x.k,R x.a,R x.b]
def gJ(l:List b6):List ao:=(l.map b6.cells).flatten
theorem Ba:∀l,(gJ l).length=l.length*3
 |[]=>rfl
 |x::l=>by
  have:=Ba l;simp only[gJ,eO,qr,fb,gI]at this⊢;rw[this];simp[b6.cells];omega
theorem FQ(l m:List b6):gJ (l++m)=gJ l++gJ m:=by simp[gJ]
theorem Dn:∀l,∀u∈gJ l,u.oneCell'=true:=λl u hu=>by
 obtain⟨r,am,hu⟩:=aho.1 hu;obtain⟨x,_,rfl⟩:=dn.1 am;simp only[b6.cells,List.mem_cons,List.not_mem_nil,or_false]at hu;rcases hu with rfl|rfl|rfl<;>rfl
theorem bz.split{bs size:Nat}{g:ar}{xs:List ao}(r:bz h bs size (some g) n c xs):∃b ax,g=⟨b,0,none⟩/\h b=some (.cells (xs++ax).toArray bs (0,0))/\ax.length=(c-n)*size/\n<=c/\c<=c'/\xs.length=n*size:=by
 obtain⟨aM,⟨q,_⟩|⟨b,a8,q,af,aD,bj,bT,dz⟩⟩:=r;cases q;injection q with q;refine⟨b,a8.toList.drop (n*size),q,?_,?_,aD,bj,aM⟩;rw[<-dz,BI];exact af;rw[k1,Array.length_toList,bT,Nat.sub_mul]
theorem OS{bs size bytes:Nat}{cap:Nat}{S:List ao->Prop}{K:aA->List LE->I->Prop}{xs au:List ao}(r:bz h bs size A n cap xs)(aj:S au)(h1:∀u∈au,u.oneCell'=true)(ai:0<m)(ah:au.length=m*size)(hm:n+m<=c')(af:(n+m)*bytes<=140737488355328)(bJ:∀b J,A=some ⟨b,0,none⟩->bz (h.put b J) bs size A (n+m) cap (xs++au)->K (.v (.slice A (n+m) cap)) L (h.put b J))(bB:∀bA c4,bA≠none->n+m<=c4->K (.v (.slice bA (n+m) c4)) (L++[.row bs size bA (n+m) c4 (xs++au)]) h):BB bs size bytes A n cap m S L h K:=by
 rcases A with _|g;obtain⟨aM,⟨_,aD,bj⟩|⟨g,a8,q,_⟩⟩:=r;subst aD bj;obtain rfl:xs=[]:=ahm.1 (by omega);refine .fresh au rfl rfl rfl aj h1 (by omega) (by rwa[dJ]at af) λbA bu aO=>?_;have:=bB bA bu (λe=>by have:=aO.1.1 e;omega) (by omega);rwa[dJ,J3]at this;cases q;obtain⟨b,ax,rfl,cG,sO,aD,bj,bT⟩:=r.split;refine .mem b 0 (xs++ax) (xs++(au++ax.drop (m*size))) au xs rfl cG aj h1 ai bT (λo u ae=>?_) (λaw=>?_) hm af (λaw=>?_) (λaw b7 bu eZ=>bB _ _ nofun eZ);rw[dJ];obtain⟨en,rfl⟩:=qt.1 ae;rw[N7 en,bZ];have hk:m*size<=(cap-n)*size:=Nat.mul_le_mul_right _ (by omega);have:=SD (ax.take (m*size)) au (ax.drop (m*size)) (by rw[ah,List.length_take];omega) xs;rw[BI]at this;rw[dJ,<-bT];exact this;refine bJ b _ rfl ⟨?_,.inr ⟨b,_,rfl,I.bP _ _ _,aw,bj,?_,?_⟩⟩;rw[fb,ah,bT,ti];have aJ:m*size+(cap-n-m)*size=(cap-n)*size:=by rw[<-ti];congr 1;omega
 have aI:n*size+(cap-n)*size=cap*size:=by rw[<-ti];congr 1;omega
 simp only[List.size_toArray,fb,k1,bT,ah,sO];omega;have:(n+m)*size=(xs++au).length:=by rw[fb,ah,bT,ti]
 rw[this,<-mb];exact List.take_left
structure nd(ai h:I)(aT:Nat)(A:Option ar)(c op cZ:Nat)(F:ao)(l:List b6):Prop where
 le:ai.le h
 c6:ai aT=none
 box:h aT=some (.cells #[.slice A l.length c,R op,R cZ,F] 215 (0,0))
 row:bz h 66 3 A l.length c (gJ l)
 kw:∀g,A=some g->g.block≠aT/\ai g.block=none
theorem SV(w:nd ai h aT A c op cZ F l)(al:l.length<=1000000)(x:b6):Fn aH 74 #[hx aT,.int .u8 x.k,R x.a,R x.b] h λ_ U=>∃bA bu,nd ai U aT bA bu op cZ F (l++[x]):=by
 refine b5 asB rfl ?_;have yZ:(l++[x]).length=l.length+1:=by simp
 refine .hp _ (bN w.box rfl) ?_;refine .done (OS w.row (au:=gJ [x]) rfl (Dn [x]) (by decide) rfl (by simp[c'];omega) (by omega) (λb J aO oo=>?_) (λbA bu aO aw=>?_));have af:=w.kw _ aO;refine .hp aT 0 215 [.slice A l.length c,R op,R cZ,F] [.slice A (l.length+1) c,R op,R cZ,F] rfl (by rw[I.cf _ _ (d9 af.1)];exact w.box) rfl ?_;refine .done ⟨A,c,kT w.c6 (kT af.2 w.le),w.c6,by rw[yZ];exact I.bP _ _ _,?_,w.kw⟩;rw[yZ,FQ];exact bz.ju oo λg ak=>(w.kw g ak).1;refine .hp aT 0 215 [.slice A l.length c,R op,R cZ,F] [.slice bA (l.length+1) bu,R op,R cZ,F] rfl w.box rfl ?_;refine .bV 1 66 3 bA (l.length+1) bu _ rfl λh1 cu am az=>.done ⟨bA,bu,I.le_trans (kT w.c6 w.le) cu,w.c6,?_,?_,λg ak=>?_⟩;rw[yZ];exact cu _ _ (I.bP _ _ _);rw[yZ,FQ];exact am;have q:=az g ak;have bH:g.block≠aT:=λe=>by rw[e,I.bP]at q;cases q
 rw[I.cf _ _ bH]at q;exact⟨bH,I.none_le w.le q⟩
theorem nd.set(w:nd ai h aT A c op cZ F l)(ac3 nw:Nat):nd ai (h.put aT (.cells [.slice A l.length c,R ac3,R nw,F].toArray 215 (0,0))) aT A c ac3 nw F l:=⟨kT w.c6 w.le,w.c6,I.bP _ _ _,bz.ju w.row λg ak=>(w.kw g ak).1,w.kw⟩
theorem Za(w:nd ai h aT A c op cZ F l)(al:l.length<=1000000)(aL:op<=100000)(t:Int):Fn aH 131 #[hx aT,R t] h λv U=>v=R ((l.length+1:Nat):Int)/\∃bA bu,nd ai U aT bA bu (op+1) (max cZ (op+1)) F (l++[⟨1,op,t⟩]):=by
 refine b5 are rfl ?_;refine aK λgS dy gY=>?_;refine dy _ _ _ ?_;refine aK λgO dx eG=>?_;refine .hp _ (bN w.box rfl) ?_;refine .done (.mk _ (SV w al ⟨1,op,t⟩) ?_);rintro _ h1 ⟨iu,c1,cF⟩;have hY:(l++[(⟨1,op,t⟩:b6)]).length=l.length+1:=by simp
 have bL:=cF.box;rw[hY]at bL;refine dx _ _ _ ?_;refine aK λgu df fK=>?_;refine .hp _ (bN cF.box rfl) ?_;refine .aLS ?_;refine .hp aT 1 215 [.slice iu (l.length+1) c1,R op,R cZ,F] [.slice iu (l.length+1) c1,R ((op:Int)+1),R cZ,F] rfl bL rfl ?_;have dw:=cF.set (op+1) cZ;have aJ:R (((op+1:Nat):Int))=R ((op:Int)+1):=by simp
 rw[aJ,hY]at dw;generalize h1.put aT _=ab at dw;refine df _ _ _ ?_;refine aK λgk ed eH=>?_;have cy:=dw.box;rw[hY,aJ]at cy;refine .hp _ (bN cy rfl) ?_;refine .hp _ (bN cy rfl) ?_;refine .hp aT 2 215 [.slice iu (l.length+1) c1,R ((op:Int)+1),R cZ,F] [.slice iu (l.length+1) c1,R ((op:Int)+1),R (max (cZ:Int) ((op:Int)+1)),F] rfl cy rfl ?_;have iI:=dw.set (op+1) (max cZ (op+1));have aI:R (((max cZ (op+1):Nat):Int))=R (max (cZ:Int) ((op:Int)+1)):=ho R (by omega);rw[aJ,aI,hY]at iI;generalize ab.put aT _=an at iI;refine ed _ _ _ ?_;have gE:=iI.box;rw[hY]at gE;refine .hp _ (bN gE rfl) ?_;refine .done ⟨rfl,iu,c1,iI⟩
theorem VQ(w:nd ai h aT A c (op+1) cZ F l)(al:l.length<=1000000)(aL:op<=100000)(t:Int):Fn aH 132 #[hx aT,R t] h λ_ U=>∃bA bu,nd ai U aT bA bu op cZ F (l++[⟨2,op,t⟩]):=by
 refine b5 arf rfl ?_;refine aK λgS dy gY=>?_;refine .hp _ (bN w.box rfl) ?_;refine .aLS ?_;refine .hp aT 1 215 _ [.slice A l.length c,R ((op+1:Nat)-1:Int),R cZ,F] rfl w.box rfl ?_;have dw:=w.set op cZ;rw[show R (op:Int)=R ((op+1:Nat)-1:Int)from ho R (by omega)]at dw;generalize h.put aT _=ab at dw;refine dy _ _ _ ?_;refine .hp _ (bN dw.box rfl) ?_;refine .done (.mk _ (SV dw al ⟨2,op,t⟩) ?_);rintro _ h1 ⟨iu,c1,cF⟩;exact .done ⟨iu,c1,cF⟩
theorem xj(l:List Int):(l.map λz=>[R z]).flatten=l.map R:=by
 induction l with
 |nil=>rfl
 |cons a l bE=>rw[eO,qr,bE];rfl
def zY(h:I)(n:Nat)(xs:List ao)(v:ao)(U:I):Prop:=h.le U/\∃A c,v= .slice A n c/\bz U 3 1 A n c xs/\∀g,A=some g->h g.block=none
theorem ado(A:Option ar)(n c:Nat)(l:List Int)(h:I)(t:bg h 1 A n (l.map λz=>[R z]))(aC:n<=1000000000):Fn aH 75 #[.slice A n c] h (zY h n (l.map R)):=by
 have e:=xj l;refine b5 asC rfl ?_;refine .done (.fresh (l.map R) rfl rfl rfl (by rw[<-e];exact t.src _) (λu hu=>by obtain⟨x,_,rfl⟩:=dn.1 hu;rfl) (by simp[c'];omega) (by omega) λbA bu aO=>?_);refine .bV 0 3 1 bA n bu _ rfl λh1 cu am az=>.done ⟨cu,bA,bu,rfl,am,az⟩
theorem adl(A:Option ar)(n c:Nat)(l:List Int)(h:I)(t:bg h 1 A n (l.map λz=>[R z]))(aC:n<=1000000000):Fn aH 37 #[.slice A n c] h (zY h n (l.map R)):=by
 have e:=xj l;refine b5 asb rfl ?_;refine .done (.fresh (l.map R) rfl rfl rfl (by rw[<-e];exact t.src _) (λu hu=>by obtain⟨x,_,rfl⟩:=dn.1 hu;rfl) (by simp[c'];omega) (by omega) λbA bu aO=>?_);refine .bV 0 3 1 bA n bu _ rfl λh1 cu am az=>.done ⟨cu,bA,bu,rfl,am,az⟩
theorem Pb(A:Option ar)(n c:Nat)(l:List Int)(h:I)(t:bg h 1 A n (l.map λz=>[R z]))(aC:n<=1000000000):Fn aH 136 #[.slice A n c] h (zY h n (l.map R)):=by
 have e:=xj l;refine b5 arh rfl ?_;refine .mk λb af=>?_;refine .done (.cR 1 [] (l.map R) rfl (by rw[<-e];exact t.src _) (λu hu=>by obtain⟨x,_,rfl⟩:=dn.1 hu;rfl) (by simp[c'];omega) (by omega) λbA bu aO=>?_);refine .bV 1 3 1 bA (0+n) bu _ rfl λh1 cu am az=>.done ?_;rw[dJ]at am⊢;exact⟨cu,bA,bu,rfl,am,az⟩
theorem ac8:∀(l:List b6)(p:Nat)(hp:p<l.length)(o:Nat),o<3->(gJ l)[p*3+o]?=l[p].cells[o]?
 |x::l,0,_,o,ae=>by
  show(x.cells++gJ l)[0*3+o]?=_;rw[D0,dJ,N7 (by show o<3;exact ae)];rfl
 |x::l,p+1,hp,o,ae=>by
  show(x.cells++gJ l)[(p+1)*3+o]?=_;rw[show(p+1)*3+o=x.cells.length+(p*3+o) by show _=3+_;omega,aB7 (by omega),Nat.add_sub_cancel_left];exact ac8 l p (by simpa using hp) o ae
theorem ac9:∀(l:List b6)(p:Nat)(hp:p<l.length)(k:Nat)(a:Int),((gJ l).set (p*3) (.int .u8 k)).set (p*3+1) (R a)=gJ (l.set p ⟨k,a,l[p].b⟩)
 |x::l,0,_,k,a=>rfl
 |x::l,p+1,hp,k,a=>by
  show((x.cells++gJ l).set ((p+1)*3) _).set ((p+1)*3+1) _=x.cells++gJ (l.set p _);have ww:p<l.length:=by simpa using hp
  have bE:=ac9 l p ww k a;rw[wU _ _ (by show 3<=_;omega),wU _ _ (by show 3<=_;omega)];show _=x.cells++gJ (l.set p ⟨k,a,l[p].b⟩);rw[<-bE];show x.cells++((gJ l).set ((p+1)*3-3) _).set ((p+1)*3+1-3) _=_;rw[show(p+1)*3-3=p*3 by omega,show(p+1)*3+1-3=p*3+1 by omega]
theorem Mz(b p k:Nat)(a:Int)(l:List b6)(h:I)(af:h b=some (.cells (gJ l).toArray 66 (0,0)))(hp:p<l.length):Fn aH 130 #[.pointer (some ⟨b,p*3,none⟩),.int .u8 k,R a] h λ_ U=>U=h.put b (.cells (gJ (l.set p ⟨k,a,l[p].b⟩)).toArray 66 (0,0)):=by
 refine b5 ard rfl ?_;have al:=Ba l;refine .hp b (p*3) 66 (gJ l) ((gJ l).set (p*3) (.int .u8 k)) (by rw[add_lit];rfl) af (ib _ _ _ (by omega)) ?_;refine .hp b (p*3+1) 66 _ _ (by rw[add_lit]) (I.bP _ _ _) (ib _ _ _ (by rw[k2];omega)) ?_;rw[I.sZ,ac9 l p hp];exact .done rfl
abbrev jI:=Nat×List b6
variable {aU r:List jI}
def kA(l:List b6):Obj:=.cells (gJ l).toArray 66 (0,0)
def r2(q:jI):ao:=.slice (some ⟨q.1,0,none⟩) q.2.length q.2.length
def eu(n:Nat)(r:List jI):List ao:=r.map r2++bG (n-r.length) (.slice none 0 0)
structure ji(ai h:I)(aU ro:List jI):Prop where
 le:ai.le h
 at_:∀q∈aU++ro,h q.1=some (kA q.2)
 gR:((aU++ro).map kn).Nodup
 new:∀q∈aU++ro,ai q.1=none
section
variable {ai h U:I}{aU ro:List jI}
theorem ji.swap(x:ji ai h aU ro):ji ai h ro aU:=⟨x.le,λq aq=>x.at_ q (by simp only[ev]at aq⊢;exact aq.symm),(ag6 ((List.perm_append_comm).map _)).1 x.gR,λq aq=>x.new q (by simp only[ev]at aq⊢;exact aq.symm)⟩
theorem ji.mono(x:ji ai h aU ro)(le:h.le U):ji ai U aU ro:=⟨I.le_trans x.le le,λq aq=>le _ _ (x.at_ q aq),x.gR,x.new⟩
theorem ji.zero(h:I):ji h h [] []:=⟨I.le_refl _,(by simp),(by simp),(by simp)⟩
theorem ji.Ht(x:ji ai h aU ro)(a6:a<aU.length):h aU[a].1=some (kA aU[a].2):=x.at_ _ (qu _ (cS a6))
theorem axx{l:List jI}(a6:a<l.length)(J:List b6):(l.set a (l[a].1,J)).map kn=l.map kn:=by
 rw[nb];apply vH (by simp);intro i h1 ab;rw[vI];split;rename_i e;subst e;simp;rfl
theorem ji.F6(x:ji ai h aU ro)(a6:a<aU.length)(J:List b6):ji ai (h.put aU[a].1 (kA J)) (aU.set a (aU[a].1,J)) ro:=by
 have hm:aU[a]∈aU++ro:=qu _ (cS a6);have gR:=x.gR;rw[fm]at gR;obtain⟨dF,dR,hZ⟩:=List.nodup_append.1 gR;have inj:∀{i:Nat}(ag:i<aU.length),aU[i].1=aU[a].1->i=a:=λag e=>Sj dF (by simpa using ag) (by simpa using a6) (by simpa using e);refine⟨zj x.le (x.new _ hm),λq aq=>?_,?_,λq aq=>?_⟩;rcases ev.1 aq with aq|aq;obtain⟨i,ag,rfl⟩:=rb aq;have ea:i<aU.length:=by simpa using ag
 rw[vI];split;exact I.bP _ _ _;rename_i e;rw[I.ju (λq=>e (inj ea q).symm)];exact x.Ht ea;rw[I.ju (λe=>hZ _ (dn.2 ⟨_,cS a6,rfl⟩) _ (dn.2 ⟨q,aq,rfl⟩) e.symm)];exact x.at_ q (wT _ aq);rw[fm,axx a6,<-fm];exact x.gR;rcases ev.1 aq with aq|aq;obtain⟨i,ag,rfl⟩:=rb aq;have ea:i<aU.length:=by simpa using ag
 rw[vI];split;exact x.new aU[a] hm;exact x.new _ (qu _ (cS ea));exact x.new q (wT _ aq)
end
theorem adc(h:r.length<=n):(eu n r).length=n:=by simp[eu];omega
theorem I1(ag:i<r.length):(eu n r)[i]?=some (r2 r[i]):=by
 rw[eu,N7 (by simpa using ag),dV,bZ ag];rfl
theorem ade(h:r.length<n)(q:jI):(eu n r).set r.length (r2 q)=eu n (r++[q]):=by
 unfold eu;rw[wU _ _ (by simp),ih,yq,fm,mb,fb];congr 1;obtain⟨d,aB⟩:∃d,n-r.length=d+1:=⟨n-r.length-1,by omega⟩;rw[aB,show n- (r.length+[q].length)=d by simp;omega];rfl
theorem avf(n:Nat):eu n []=bG n (.slice none 0 0):=by simp[eu]
theorem MD(a6:a<r.length){J:List b6}(al:J.length=r[a].2.length):eu n (r.set a (r[a].1,J))=eu n r:=by
 unfold eu;rw[k2];congr 1;apply vH (by simp);intro i h1 ab;simp only[List.getElem_map,vI];split;rename_i e;subst e;simp[r2,al];rfl
def j7(eg:List Int)(k:Nat):List b6:=((eg.take k).map λr=>⟨0,0,r⟩)++bG (eg.length-k) ⟨0,0,0⟩
theorem S1(h:k<=eg.length):(j7 eg k).length=eg.length:=by simp[j7];omega
theorem adO(h:k<eg.length):(j7 eg k).set k ⟨0,0,eg[k]⟩=j7 eg (k+1):=by
 unfold j7;rw[wU _ _ (by simp;omega),kh h,fm,mb];congr 1;obtain⟨d,aB⟩:∃d,eg.length-k=d+1:=⟨eg.length-k-1,by omega⟩;rw[aB,show eg.length- (k+1)=d by omega,show k- (List.map (λr=>(⟨0,0,r⟩:b6)) (List.take k eg)).length=0 by simp;omega];rfl
theorem adM(eg:List Int):j7 eg eg.length=eg.map λr=>⟨0,0,r⟩:=by simp[j7]
theorem adN(h:k<eg.length):∃hk:k<(j7 eg k).length,(j7 eg k)[k]=⟨0,0,0⟩:=by
 refine⟨by rw[S1 (by omega)];exact h,?_⟩;simp only[j7];rw[List.getElem_append_right (by simp;omega)];simp
theorem SA:∀(l:List b6)(p:Nat)(hp:p<l.length)(z:Int),(gJ l).set (p*3+2) (R z)=gJ (l.set p ⟨l[p].k,l[p].a,z⟩)
 |x::l,0,_,z=>rfl
 |x::l,p+1,hp,z=>by
  have ww:p<l.length:=by simpa using hp
  have bE:=SA l p ww z;show(x.cells++gJ l).set ((p+1)*3+2) _=x.cells++gJ (l.set p ⟨l[p].k,l[p].a,z⟩);rw[wU _ _ (by show 3<=_;omega),<-bE];show x.cells++(gJ l).set ((p+1)*3+2-3) _=_;rw[show(p+1)*3+2-3=p*3+2 by omega]
theorem as6(Q:dL)(e:bY)(g0 g1 g2 g3 g4 a0 cP a2:ao)(h:I)(n k nZ l3 mL kd c2 kw:Nat)(a1 bh:ar)(oF oG:List ao)(eg:List Int)(ya ug ND:Option ar)(R8:Nat)(hk:k<n)(nC:oF.length=n)(eC:oF[k]?=some (.slice (some ⟨nZ,0,none⟩) eg.length eg.length))(af:h nZ=some (kA (j7 eg 0)))(oY:bg h 1 ya l3 (eg.map λz=>[R z]))(bH:∀g,ya=some g->0<l3->g.block≠nZ)(aC:l3<=1000)(he:[1,3,4,5,8,31,32,33,59,60,61].map e=[.p 0 0,.v (.slice (some a1) n n),.v (.slice (some bh) n n),.v (R k),.v (.slice ND R8 c2),.v (.slice ug kw mL),.v (R kw),.v (R k),.v (.slice ya l3 kd),.v (R l3),.v (R (0:Nat))])(cD:∀e,[1,3,4,5,8,31,32,33].map e=[.p 0 0,.v (.slice (some a1) n n),.v (.slice (some bh) n n),.v (R k),.v (.slice ND R8 c2),.v (.slice ug kw mL),.v (R kw),.v (R k)]->Q (.exit 2) e [.own [.v g0,.v g1,.v g2,.v g3,.v g4] 26,.row 40 1 (some a1) n n oF,.row 40 1 (some bh) n n oG,.own [.v a0,.v cP,.v a2] 96,.gone,.gone] (h.put nZ (kA (eg.map λr=>⟨0,0,r⟩)))):kH (λQ e L h=>c7 aH 194 Ro Q e L h) Q e [.own [.v g0,.v g1,.v g2,.v g3,.v g4] 26,.row 40 1 (some a1) n n oF,.row 40 1 (some bh) n n oG,.own [.v a0,.v cP,.v a2] 96,.gone,.gone] h:=by
 have al:eg.length=l3:=by simpa using oY.len
 refine .mk Nat [1,3,4,5,8,31,32,33,59,60,61] (λo=>[.p 0 0,.v (.slice (some a1) n n),.v (.slice (some bh) n n),.v (R k),.v (.slice ND R8 c2),.v (.slice ug kw mL),.v (R kw),.v (R k),.v (.slice ya l3 kd),.v (R l3),.v (R o)]) (λ_=>[.own [.v g0,.v g1,.v g2,.v g3,.v g4] 26,.row 40 1 (some a1) n n oF,.row 40 1 (some bh) n n oG,.own [.v a0,.v cP,.v a2] 96,.gone,.gone]) (λo U=>U=h.put nZ (kA (j7 eg o))/\o<=l3) (λo=>l3-o) 0 (λ_=>rfl) ⟨(I.rW af).symm,cO _⟩ he rfl ?_;rintro o e U ⟨rfl,ae⟩;refine aK λgS dy gY=>?_;refine dy _ _ _ ?_;refine aK λgO dx eG=>?_;refine aW (λq=>?_) (λq=>?_);have en:o<eg.length:=by omega
 obtain⟨e4,gA⟩:=oY.cc (by omega);have kd:=C6 oY gA (i:=o) (by omega);have iY:eg.getD o 0=eg[o]:=by rw[cN,bZ en];rfl
 rw[iY]at kd;obtain⟨QH,ck⟩:=adN en;have CK:=S1 (eg:=eg) (k:=o) (by omega);have Ah:(h.put nZ (kA (j7 eg o))).cell? (e4.add (o*1))=some (R eg[o]):=(C6 (oY.FW bH) gA (i:=o) (by omega)).trans (by rw[iY]);have st:=SA (j7 eg o) o QH eg[o];rw[ck,adO en]at st;generalize eg[o]=x at Ah st;refine dx _ _ _ ?_;refine aK λgu df fK=>?_;refine fG λgk ed eH=>?_;refine aK λhA dY hL=>?_;refine .m e4 gA ?_;refine .hp _ (by rw[bq];exact Ah) ?_;refine dY _ _ _ ?_;refine .m a1 rfl ?_;refine .row 1 40 1 a1 n n oF _ _ rfl (by rw[bq]) (by rw[ew];exact eC) ?_;refine .r ?_;refine .hp nZ (o*3+2) 66 _ _ (by rw[bq,add_lit,add_lit];simp) (I.bP _ _ _) (ib _ _ _ (by rw[Ba];omega)) ?_;rw[I.sZ,st];refine eH _ _ _ _ nofun ?_;refine df _ _ _ ?_;refine .aLS ?_;exact⟨o+1,rfl,rfl,⟨rfl,by omega⟩,by show l3- (o+1)<l3-o;omega⟩;refine eG _ _ _ _ nofun ?_;have QG:o=eg.length:=by omega
 rw[QG,adM];exact cD _ rfl
theorem as7(Q:dL)(e:bY)(g0 g1 g2 g3 g4 a0 cP a2:ao)(h:I)(n k nZ l3 mL kd kw:Nat)(a1 bh:ar)(oF oG:List ao)(eg:List Int)(ya ug:Option ar)(hk:k<n)(nC:oG.length=n)(eC:oG[k]?=some (.slice (some ⟨nZ,0,none⟩) eg.length eg.length))(af:h nZ=some (kA (j7 eg 0)))(oY:bg h 1 ya l3 (eg.map λz=>[R z]))(bH:∀g,ya=some g->0<l3->g.block≠nZ)(aC:l3<=1000)(he:[1,3,4,5,31,32,33,75,76,77].map e=[.p 0 0,.v (.slice (some a1) n n),.v (.slice (some bh) n n),.v (R k),.v (.slice ug kw mL),.v (R kw),.v (R k),.v (.slice ya l3 kd),.v (R l3),.v (R (0:Nat))])(cD:∀e,[1,3,4,31,32,33].map e=[.p 0 0,.v (.slice (some a1) n n),.v (.slice (some bh) n n),.v (.slice ug kw mL),.v (R kw),.v (R k)]->Q (.exit 4) e [.own [.v g0,.v g1,.v g2,.v g3,.v g4] 26,.row 40 1 (some a1) n n oF,.row 40 1 (some bh) n n oG,.own [.v a0,.v cP,.v a2] 96,.gone,.gone] (h.put nZ (kA (eg.map λr=>⟨0,0,r⟩)))):kH (λQ e L h=>c7 aH 194 Rp Q e L h) Q e [.own [.v g0,.v g1,.v g2,.v g3,.v g4] 26,.row 40 1 (some a1) n n oF,.row 40 1 (some bh) n n oG,.own [.v a0,.v cP,.v a2] 96,.gone,.gone] h:=by
 have al:eg.length=l3:=by simpa using oY.len
 refine .mk Nat [1,3,4,5,31,32,33,75,76,77] (λo=>[.p 0 0,.v (.slice (some a1) n n),.v (.slice (some bh) n n),.v (R k),.v (.slice ug kw mL),.v (R kw),.v (R k),.v (.slice ya l3 kd),.v (R l3),.v (R o)]) (λ_=>[.own [.v g0,.v g1,.v g2,.v g3,.v g4] 26,.row 40 1 (some a1) n n oF,.row 40 1 (some bh) n n oG,.own [.v a0,.v cP,.v a2] 96,.gone,.gone]) (λo U=>U=h.put nZ (kA (j7 eg o))/\o<=l3) (λo=>l3-o) 0 (λ_=>rfl) ⟨(I.rW af).symm,cO _⟩ he rfl ?_;rintro o e U ⟨rfl,ae⟩;refine aK λgS dy gY=>?_;refine dy _ _ _ ?_;refine aK λgO dx eG=>?_;refine aW (λq=>?_) (λq=>?_);have en:o<eg.length:=by omega
 obtain⟨e4,gA⟩:=oY.cc (by omega);have kd:=C6 oY gA (i:=o) (by omega);have iY:eg.getD o 0=eg[o]:=by rw[cN,bZ en];rfl
 rw[iY]at kd;obtain⟨QH,ck⟩:=adN en;have CK:=S1 (eg:=eg) (k:=o) (by omega);have Ah:(h.put nZ (kA (j7 eg o))).cell? (e4.add (o*1))=some (R eg[o]):=(C6 (oY.FW bH) gA (i:=o) (by omega)).trans (by rw[iY]);have st:=SA (j7 eg o) o QH eg[o];rw[ck,adO en]at st;generalize eg[o]=x at Ah st;refine dx _ _ _ ?_;refine aK λgu df fK=>?_;refine fG λgk ed eH=>?_;refine aK λhA dY hL=>?_;refine .m e4 gA ?_;refine .hp _ (by rw[bq];exact Ah) ?_;refine dY _ _ _ ?_;refine .m bh rfl ?_;refine .row 2 40 1 bh n n oG _ _ rfl (by rw[bq]) (by rw[ew];exact eC) ?_;refine .r ?_;refine .hp nZ (o*3+2) 66 _ _ (by rw[bq,add_lit,add_lit];simp) (I.bP _ _ _) (ib _ _ _ (by rw[Ba];omega)) ?_;rw[I.sZ,st];refine eH _ _ _ _ nofun ?_;refine df _ _ _ ?_;refine .aLS ?_;exact⟨o+1,rfl,rfl,⟨rfl,by omega⟩,by show l3- (o+1)<l3-o;omega⟩;refine eG _ _ _ _ nofun ?_;have QG:o=eg.length:=by omega
 rw[QG,adM];exact cD _ rfl
def sH(a:h8):List b6:=(bD a.tag a.be).2.1.map λr=>⟨0,0,r⟩
def sX(a:h8):List b6:=(bD a.tag a.be).2.2.map λr=>⟨0,0,r⟩
theorem Fx(m:Nat):(madeCells (#[.int .u8 0,R 0,R 0]:Array ao) (m*3)).toList=gJ (bG m ⟨0,0,0⟩):=by
 apply List.ext_getElem?;intro o;unfold madeCells;rw[Array.getElem?_toList,Array.getElem?_map,Array.getElem?_range];by_cases ae:o<m*3;rw[aX ae];have an:=ac8 (bG m ⟨0,0,0⟩) (o/3) (by simp;omega) (o%3) (Nat.mod_lt _ (by decide));rw[show o/3*3+o%3=o by omega]at an;rw[an,List.getElem_replicate];have:o%3=0\/o%3=1\/o%3=2:=by omega
 rcases this with e|e|e<;>simp[e,b6.cells];rw[aE ae,qs (by rw[Ba];simp;omega)];rfl
theorem awE(Q:dL)(e:bY)(g0 g1 g2 g3 g4 a0 cP a2:ao)(X Y:LE)(an:I)(n k c1 c2 kw mL:Nat)(a1 bh dQ gc:ar)(oF oG:List ao)(e2 fL:List Int)(iu dE ug:Option ar)(hk:k<n)(kS:oF.length=n)(tS:oG.length=n)(az4:oF[k]?=some (.slice (some dQ) e2.length e2.length))(az5:oG[k]?=some (.slice (some gc) fL.length fL.length))(t1:bg an 1 iu e2.length (e2.map λz=>[R z]))(t2:bg an 1 dE fL.length (fL.map λz=>[R z]))(s1:e2.length<=16)(s2:fL.length<=16)(he:[1,3,4,5,7,8,31,32,33].map e=[.p 0 0,.v (.slice (some a1) n n),.v (.slice (some bh) n n),.v (R k),.v (.slice iu e2.length c1),.v (.slice dE fL.length c2),.v (.slice ug kw mL),.v (R kw),.v (R k)])
 (sC:∀K:List LE->I->Prop,(∀h,an.le h->h dQ.block=some (kA (j7 e2 0))->h gc.block=some (kA (j7 fL 0))->an dQ.block=none->an gc.block=none->dQ.block≠gc.block->dQ=⟨dQ.block,0,none⟩->gc=⟨gc.block,0,none⟩->K [.own [.v g0,.v g1,.v g2,.v g3,.v g4] 26,.row 40 1 (some a1) n n oF,.row 40 1 (some bh) n n oG,.own [.v a0,.v cP,.v a2] 96,.gone,.gone] h)->
  e9 K [.own [.v g0,.v g1,.v g2,.v g3,.v g4] 26,.row 40 1 (some a1) n n oF,.row 40 1 (some bh) n n oG,.own [.v a0,.v cP,.v a2] 96,X,Y] an)
 (cD:∀e h,an.le h->h dQ.block=some (kA (e2.map λr=>⟨0,0,r⟩))->h gc.block=some (kA (fL.map λr=>⟨0,0,r⟩))->an dQ.block=none->an gc.block=none->dQ.block≠gc.block->dQ=⟨dQ.block,0,none⟩->gc=⟨gc.block,0,none⟩->[1,3,4,31,32,33].map e=[.p 0 0,.v (.slice (some a1) n n),.v (.slice (some bh) n n),.v (.slice ug kw mL),.v (R kw),.v (R k)]->Q .normal e [.own [.v g0,.v g1,.v g2,.v g3,.v g4] 26,.row 40 1 (some a1) n n oF,.row 40 1 (some bh) n n oG,.own [.v a0,.v cP,.v a2] 96,.gone,.gone] h):
 c7 aH 194 (.seq (.seq (.ch aaM) (.block 2 (.loop Ro))) (.seq (.ch aaL) (.block 4 (.loop Rp)))) Q e [.own [.v g0,.v g1,.v g2,.v g3,.v g4] 26,.row 40 1 (some a1) n n oF,.row 40 1 (some bh) n n oG,.own [.v a0,.v cP,.v a2] 96,X,Y] an:=by
 rw[<-fr [1,3,4,5,7,8,31,32,33] e,he]
 refine aK λgS dy gY=>?_
 refine aK λgO dx eG=>?_
 refine dx _ _ _ ?_
 refine fG λgu df fK=>?_
 refine .lj (sC _ λh cu gf hO FB oV bH cK cM=>?_)
 have b9:∀{A:Option ar}{l:List Int}{b:Nat},bg an 1 A l.length (l.map λz=>[R z])->an b=none->∀g,A=some g->0<l.length->g.block≠b:=λt af g ak ai e=>by
  subst ak;exact t.mem (by omega) (by rw[e];exact af)
 refine as6 _ _ g0 g1 g2 g3 g4 a0 cP a2 h n k dQ.block e2.length mL c1 c2 kw a1 bh oF oG e2 iu ug dE fL.length hk kS (az4.trans (by rw[<-cK])) gf (t1.mono cu) (b9 t1 FB) (by omega) rfl λaI gD=>?_
 refine df _ _ _ (dy _ _ _ ?_)
 rw[<-fr [1,3,4,5,8,31,32,33] aI,gD]
 refine aK λgk ed eH=>?_
 refine ed _ _ _ ?_
 refine fG λhA dY hL=>?_
 have al8:(h.put dQ.block (kA (e2.map λr=>⟨0,0,r⟩))) gc.block=some (kA (j7 fL 0)):=by rw[I.cf _ _ bH.symm];exact hO
 refine .lj (.done (as7 _ _ g0 g1 g2 g3 g4 a0 cP a2 _ n k gc.block fL.length mL c2 kw a1 bh oF oG fL dE ug hk tS (az5.trans (by rw[<-cM])) al8 ((t2.mono cu).FW (b9 t2 FB)) (b9 t2 oV) (by omega) rfl λck sq=>?_))
 refine dY _ _ _ (cD _ _ (zj (zj cu FB) oV) ?_ (I.bP _ _ _) FB oV bH cK cM sq)
 rw[I.cf _ _ bH];exact I.bP _ _ _
theorem F4{dQ:ar}(r:bz h 66 3 (some dQ) m c (gJ l))(e:c=m):dQ=⟨dQ.block,0,none⟩/\h dQ.block=some (kA l):=by
 obtain⟨b,ax,rfl,cG,sO,_⟩:=r.split;subst e;rw[yq,D0]at sO;rw[ahm.1 sO,zR]at cG;exact⟨rfl,cG⟩
theorem F0(eg:List Int):j7 eg 0=bG eg.length ⟨0,0,0⟩:=by simp[j7]
theorem ji.Vw{ro:List jI}(x:ji ai h aU ro)(ne:∀q∈aU++ro,q.1≠b)(c6:ai b=none)(k8:h b=some (kA l)):ji ai h (aU++[(b,l)]) ro:=by
 have mem:∀q,q∈(aU++[(b,l)])++ro->q=(b,l)\/q∈aU++ro:=λq aq=>by
  simp only[ev,fx]at aq⊢;rcases aq with(h|h)|h<;>simp[h]
 refine⟨x.le,λq aq=>?_,?_,λq aq=>?_⟩;rcases mem q aq with rfl|aq;exact k8;exact x.at_ q aq;have p:((b,l)::(aU++ro)).Perm ((aU++[(b,l)])++ro):=by
  rw[mb];exact(List.perm_middle).symm
 refine(ag6 (p.map _)).1 ?_;rw[eO,List.nodup_cons];exact⟨λhm=>by obtain⟨q,aq,e⟩:=dn.1 hm;exact ne q aq e,x.gR⟩;rcases mem q aq with rfl|aq;exact c6;exact x.new q aq
theorem ji.aiE{U:I}{ro:List jI}(x:ji ai h aU ro)(le:h.le U){m:List b6}(af:h b=none)(aw:h c=none)(bH:b≠c)(k8:U b=some (kA l))(eZ:U c=some (kA m)):ji ai U (aU++[(b,l)]) (ro++[(c,m)]):=by
 have ne:∀{b},h b=none->∀q∈aU++ro,q.1≠b:=λaf q aq e=>by have:=x.at_ q aq;rw[e,af]at this;cases this
 have y:=((x.mono le).Vw (ne af) (I.none_le x.le af) k8).swap;refine(y.Vw (λq aq=>?_) (I.none_le x.le aw) eZ).swap;have:q∈aU++ro\/q=(b,l):=by
  simp only[ev,fx]at aq⊢;rcases aq with h|h|h<;>simp[h]
 rcases this with h|rfl;exact ne aw q h;exact bH
theorem awS(Q:dL)(e:bY)(g:eY)(ai h:I)(n:Nat)(a1 bh:ar)(ok:g.ok ai)(aC:g.bt.length=n)(rG:n<=1000)(le:ai.le h)(g0 g2 g3 g4:ao)(he:[1,3,4,31,32,33].map e=[.p 0 0,.v (.slice (some a1) n n),.v (.slice (some bh) n n),.v (.slice g.hf n g.ac),.v (R n),.v (R (0:Nat))])(cD:∀e U aU ro,[1,3,4].map e=[.p 0 0,.v (.slice (some a1) n n),.v (.slice (some bh) n n)]->ji ai U aU ro->aU.map ek=g.bt.map sH->ro.map ek=g.bt.map sX->Q (.exit 0) e [.own [.v g0,.v (.slice g.hf n g.ac),.v g2,.v g3,.v g4] 26,.row 40 1 (some a1) n n (eu n aU),.row 40 1 (some bh) n n (eu n ro)] U):te (λQ e L h=>c7 aH 194 aqw Q e L h) Q e [.own [.v g0,.v (.slice g.hf n g.ac),.v g2,.v g3,.v g4] 26,.row 40 1 (some a1) n n (eu n []),.row 40 1 (some bh) n n (eu n [])] h:=by
 have cQ:ji ai h [] []:=(ji.zero ai).mono le;refine .mk (Nat×List jI×List jI) [1,3,4,31,32,33] (λ(k,_,_)=>[.p 0 0,.v (.slice (some a1) n n),.v (.slice (some bh) n n),.v (.slice g.hf n g.ac),.v (R n),.v (R k)]) (λ(_,aU,ro)=>[.own [.v g0,.v (.slice g.hf n g.ac),.v g2,.v g3,.v g4] 26,.row 40 1 (some a1) n n (eu n aU),.row 40 1 (some bh) n n (eu n ro)]) (λ(k,aU,ro) U=>ji ai U aU ro/\k<=n/\aU.map ek=(g.bt.take k).map sH/\ro.map ek=(g.bt.take k).map sX) (λ(k,_,_)=>n-k) (0,[],[]) (λ_=>rfl) ⟨cQ,cO _,rfl,rfl⟩ he rfl ?_;rintro⟨k,aU,ro⟩ e U ⟨x,hk,iA,mN⟩;refine aK λgS dy gY=>?_;refine dy _ _ _ ?_;refine aK λgO dx eG=>?_;refine aW (λq=>?_) (λq=>?_);have br:k<g.bt.length:=by omega
 obtain⟨ez,aO⟩:=ok.bt.cc (by omega);have aB:(g.bt.map h8.cells)[k]?=some (h8.cells g.bt[k]):=by rw[dV,bZ br];rfl
 have mL:=(ok.bt.mono x.le).row aO aB;have vn:=ok.act _ (cS br);have hS:g.bt.take (k+1)=g.bt.take k++[g.bt[k]]:=kh br;have kS:aU.length=k:=by have:=ho e7 iA;simp at this;omega
 have tS:ro.length=k:=by have:=ho e7 mN;simp at this;omega
 generalize g.bt[k]=a at mL vn hS;refine dx _ _ _ ?_;refine aK λgu df fK=>?_;refine fG λgk ed eH=>?_;refine aK λhA dY hL=>?_;refine .m ez aO ?_;refine .hp a.cells rfl (by rw[bq];exact mL) ?_;refine dY _ _ _ ?_;refine aK λhc eT hi=>?_;refine .done (.mk _ (FK _ _ _ _ a.be _ (vn.dG.mono x.le) vn.n8) ?_);rintro _ an ⟨_,_,rfl,dZ,⟨iu,c1,rfl,fv,f1⟩,⟨dE,c2,rfl,dU,f2⟩⟩;have ig:=x.mono dZ;have LF:=zz a.tag a.be;obtain⟨e2,xC⟩:∃t,t=(bD a.tag a.be).2.1:=⟨_,rfl⟩;obtain⟨fL,tP⟩:∃t,t=(bD a.tag a.be).2.2:=⟨_,rfl⟩;have aow:sH a=e2.map λr=>⟨0,0,r⟩:=by rw[sH,xC]
 have aox:sX a=fL.map λr=>⟨0,0,r⟩:=by rw[sX,tP]
 obtain⟨qQ,iK⟩:=LF;rw[<-xC]at fv qQ;rw[<-tP]at dU iK;rw[<-xC,<-tP];generalize(bD a.tag a.be).1=Ca;have as2:(eu n aU).length=n:=adc (by omega);have as4:(eu n ro).length=n:=adc (by omega);refine eT _ _ _ ?_;have fin:∀(e:bY)(X Y:LE)(dQ gc:ar),[1,3,4,5,7,8,31,32,33].map e=[.p 0 0,.v (.slice (some a1) n n),.v (.slice (some bh) n n),.v (R k),.v (.slice iu e2.length c1),.v (.slice dE fL.length c2),.v (.slice g.hf n g.ac),.v (R n),.v (R k)]->
  (∀K:List LE->I->Prop,(∀h,an.le h->h dQ.block=some (kA (j7 e2 0))->h gc.block=some (kA (j7 fL 0))->an dQ.block=none->an gc.block=none->dQ.block≠gc.block->dQ=⟨dQ.block,0,none⟩->gc=⟨gc.block,0,none⟩->K [.own [.v g0,.v (.slice g.hf n g.ac),.v g2,.v g3,.v g4] 26,.row 40 1 (some a1) n n ((eu n aU).set k (.slice (some dQ) e2.length e2.length)),.row 40 1 (some bh) n n ((eu n ro).set k (.slice (some gc) fL.length fL.length)),.own [.v (.string a.dD),.v (.int .u8 a.tag),.v (.slice a.A a.n a.c)] 96,.gone,.gone] h)->
   e9 K [.own [.v g0,.v (.slice g.hf n g.ac),.v g2,.v g3,.v g4] 26,.row 40 1 (some a1) n n ((eu n aU).set k (.slice (some dQ) e2.length e2.length)),.row 40 1 (some bh) n n ((eu n ro).set k (.slice (some gc) fL.length fL.length)),.own [.v (.string a.dD),.v (.int .u8 a.tag),.v (.slice a.A a.n a.c)] 96,X,Y] an)->
  c7 aH 194 (.seq (.seq (.ch aaM) (.block 2 (.loop Ro))) (.seq (.ch aaL) (.block 4 (.loop Rp)))) gk e [.own [.v g0,.v (.slice g.hf n g.ac),.v g2,.v g3,.v g4] 26,.row 40 1 (some a1) n n ((eu n aU).set k (.slice (some dQ) e2.length e2.length)),.row 40 1 (some bh) n n ((eu n ro).set k (.slice (some gc) fL.length fL.length)),.own [.v (.string a.dD),.v (.int .u8 a.tag),.v (.slice a.A a.n a.c)] 96,X,Y] an:=by
  intro e X Y dQ gc he sC
  refine awE gk e g0 _ g2 g3 g4 _ _ _ X Y an n k c1 c2 n g.ac a1 bh dQ gc _ _ e2 fL iu dE g.hf (by omega) (by rw[k2,as2]) (by rw[k2,as4]) (by rw[ahj (by omega)]) (by rw[ahj (by omega)]) fv.jr dU.jr qQ iK he sC ?_
  intro e h cu gf hO FB oV bH cK cM gD
  refine eH _ _ _ _ nofun (df _ _ _ ?_)
  rw[<-fr [1,3,4,31,32,33] e,gD]
  refine .aLS ?_
  refine⟨(k+1,aU++[(dQ.block,e2.map λr=>⟨0,0,r⟩)],ro++[(gc.block,fL.map λr=>⟨0,0,r⟩)]),rfl,?_,⟨ig.aiE cu FB oV bH gf hO,by omega,?_,?_⟩,by show n- (k+1)<n-k;omega⟩
  have s1:=ade (n:=n) (r:=aU) (by omega) (dQ.block,e2.map λr=>(⟨0,0,r⟩:b6))
  have s2:=ade (n:=n) (r:=ro) (by omega) (gc.block,fL.map λr=>(⟨0,0,r⟩:b6))
  rw[r2,<-cK,kS,ih]at s1
  rw[r2,<-cM,tS,ih]at s2
  show[_,LE.row 40 1 (some a1) n n _,LE.row 40 1 (some bh) n n _]=[_,LE.row 40 1 (some a1) n n _,LE.row 40 1 (some bh) n n _]
  rw[s1,s2]
  rw[hS,fm,fm,iA,GL,GL,aow]
  rw[hS,fm,fm,mN,GL,GL,aox]
 refine aK λkb fE i'=>?_;refine⟨?_,?_⟩;refine .mk e2.length rfl rfl (by omega) (by omega) λdQ=>?_;refine .m a1 rfl ?_;refine⟨?_,?_⟩;refine .mk fL.length rfl rfl (by omega) (by omega) λgc=>?_;refine .row 1 40 1 a1 n n (eu n aU) ((eu n aU).set k (.slice (some dQ) e2.length e2.length)) k rfl (by rw[bq,ew]) (ib _ _ _ (by omega)) ?_;refine .m bh rfl ?_;refine .row 2 40 1 bh n n (eu n ro) ((eu n ro).set k (.slice (some gc) fL.length fL.length)) k rfl (by rw[bq,ew]) (ib _ _ _ (by omega)) ?_;refine fE _ _ _ ?_;refine fin _ _ _ dQ gc rfl λK eR=>?_;refine .bV 4 66 3 (some dQ) e2.length e2.length _ rfl λaR cW fT f4=>.bV 5 66 3 (some gc) fL.length fL.length _ rfl λcg fW mA f5=>.done ?_;have fT:bz aR 66 3 (some dQ) e2.length e2.length (gJ (j7 e2 0)):=by rw[F0,<-Fx];exact fT
 have mA:bz cg 66 3 (some gc) fL.length fL.length (gJ (j7 fL 0)):=by rw[F0,<-Fx];exact mA
 obtain⟨aM,aD⟩:=F4 fT rfl;obtain⟨bj,bT⟩:=F4 mA rfl;have ne:dQ.block≠gc.block:=λe=>by have:=f5 gc rfl;rw[<-e,aD]at this;cases this
 exact eR _ (I.le_trans cW fW) (fW _ _ aD) bT (f4 dQ rfl) (I.none_le cW (f5 gc rfl)) ne aM bj;refine .row 1 40 1 a1 n n (eu n aU) ((eu n aU).set k (.slice (some dQ) e2.length e2.length)) k rfl (by rw[bq,ew]) (ib _ _ _ (by omega)) ?_;refine .mk fL.length rfl rfl (by omega) (by omega) λgc=>?_;refine .m bh rfl ?_;refine .row 2 40 1 bh n n (eu n ro) ((eu n ro).set k (.slice (some gc) fL.length fL.length)) k rfl (by rw[bq,ew]) (ib _ _ _ (by omega)) ?_;refine fE _ _ _ ?_;refine fin _ _ _ dQ gc rfl λK eR=>?_;refine .bV 4 66 3 (some dQ) e2.length e2.length _ rfl λaR cW fT f4=>.bV 5 66 3 (some gc) fL.length fL.length _ rfl λcg fW mA f5=>.done ?_;have fT:bz aR 66 3 (some dQ) e2.length e2.length (gJ (j7 e2 0)):=by rw[F0,<-Fx];exact fT
 have mA:bz cg 66 3 (some gc) fL.length fL.length (gJ (j7 fL 0)):=by rw[F0,<-Fx];exact mA
 obtain⟨aM,aD⟩:=F4 fT rfl;obtain⟨bj,bT⟩:=F4 mA rfl;have ne:dQ.block≠gc.block:=λe=>by have:=f5 gc rfl;rw[<-e,aD]at this;cases this
 exact eR _ (I.le_trans cW fW) (fW _ _ aD) bT (f4 dQ rfl) (I.none_le cW (f5 gc rfl)) ne aM bj;refine .mk fL.length rfl rfl (by omega) (by omega) λgc=>?_;refine .mk e2.length rfl rfl (by omega) (by omega) λdQ=>?_;refine .m a1 rfl ?_;refine .row 1 40 1 a1 n n (eu n aU) ((eu n aU).set k (.slice (some dQ) e2.length e2.length)) k rfl (by rw[bq,ew]) (ib _ _ _ (by omega)) ?_;refine .m bh rfl ?_;refine .row 2 40 1 bh n n (eu n ro) ((eu n ro).set k (.slice (some gc) fL.length fL.length)) k rfl (by rw[bq,ew]) (ib _ _ _ (by omega)) ?_;refine fE _ _ _ ?_;refine fin _ _ _ dQ gc rfl λK eR=>?_;refine .bV 5 66 3 (some dQ) e2.length e2.length _ rfl λaR cW fT f4=>.bV 4 66 3 (some gc) fL.length fL.length _ rfl λcg fW mA f5=>.done ?_;have fT:bz aR 66 3 (some dQ) e2.length e2.length (gJ (j7 e2 0)):=by rw[F0,<-Fx];exact fT
 have mA:bz cg 66 3 (some gc) fL.length fL.length (gJ (j7 fL 0)):=by rw[F0,<-Fx];exact mA
 obtain⟨aM,aD⟩:=F4 fT rfl;obtain⟨bj,bT⟩:=F4 mA rfl;have ne:dQ.block≠gc.block:=λe=>by have:=f5 gc rfl;rw[<-e,aD]at this;cases this
 exact eR _ (I.le_trans cW fW) (fW _ _ aD) bT (f4 dQ rfl) (I.none_le cW (f5 gc rfl)) ne aM bj;refine eG _ _ _ _ nofun ?_;have oN:k=g.bt.length:=by omega
 rw[oN,pM]at iA mN;exact cD _ _ aU ro rfl x iA mN
def mark(rs:List (List b6))(a p k:Nat)(i:Int):List (List b6):=rs.set a ((rs.getD a []).set p ⟨k,i,((rs.getD a []).getD p ⟨0,0,0⟩).b⟩)
theorem A3(rs:List (List b6))(a p k:Nat)(i:Int):(mark rs a p k i).map e7=rs.map e7:=by
 rw[mark,nb,k2];by_cases h:a<rs.length;apply vH (by simp);intro o h1 ab;rw[vI];split;rename_i e;subst e;simp[cN,bZ h];rfl;rw[List.set_eq_of_length_le (by simpa using h)]
def rt:List GE->Nat->List (List b6)×List (List b6)->List (List b6)×List (List b6)
 |[],_,q=>q
 |x::l,i,q=>rt l (i+1) (mark q.1 x.dst.toNat x.ly.toNat 3 i,mark q.2 x.src.toNat x.sp.toNat 6 i)
def qd(k:Nat):List k0->Nat->List (List b6)->List (List b6)
 |[],_,q=>q
 |x::l,i,q=>qd k l (i+1) (mark q x.act.toNat x.port.toNat k i)
structure D6(n:Nat)(r:List jI)(ax:List (List b6))(a p:Int):Prop where
 a6:0<=a/\a<n
 hp:0<=p/\p<((ax.map e7).getD a.toNat 0:Nat)
theorem D6.get{a p:Int}(x:D6 n r ax a p)(cG:r.map ek=ax)(al:r.length=n):∃h:a.toNat<r.length,p.toNat<r[a.toNat].2.length/\ax.getD a.toNat []=r[a.toNat].2:=by
 have h:a.toNat<r.length:=by have:=x.a6;omega
 subst cG;have:=x.hp;refine⟨h,?_,?_⟩;simp only[cN,dV,bZ h,Option.map_some,BS]at this;omega;simp[cN,bZ h]
theorem Mg{p:Nat}{i:Int}(cG:r.map ek=ax)(a6:a<r.length)(hp:p<r[a].2.length):(r.set a (r[a].1,r[a].2.set p ⟨k,i,r[a].2[p].b⟩)).map ek=mark ax a p k i:=by
 subst cG;rw[mark,nb];simp[cN,bZ a6,bZ hp]
theorem aj3(Q:dL)(e:bY)(g:eY)(ai h:I)(n m:Nat)(a1 bh:ar)(ok:g.ok ai)(hm:g.cp.length=m)(oO:m<=96)(g0 g1 g3 g4:ao)(aU ro:List jI)(oC BV:List (List b6))(x:ji ai h aU ro)(iA:aU.map ek=oC)(mN:ro.map ek=BV)(kS:aU.length=n)(tS:ro.length=n)(ad:∀x∈g.cp,(0<=x.src/\x.src<n/\0<=x.sp/\x.sp<((BV.map e7).getD x.src.toNat 0:Nat))/\(0<=x.dst/\x.dst<n/\0<=x.ly/\x.ly<((oC.map e7).getD x.dst.toNat 0:Nat)))(he:[1,3,4,14,93,94,95].map e=[.p 0 0,.v (.slice (some a1) n n),.v (.slice (some bh) n n),.v (.func (.func 130) #[] #[]),.v (.slice g.gv m g.cM),.v (R m),.v (R (0:Nat))])
 (cD:∀e U eQ mB,[1,3,4,14].map e=[.p 0 0,.v (.slice (some a1) n n),.v (.slice (some bh) n n),.v (.func (.func 130) #[] #[])]->ji ai U eQ mB->eQ.map ek=(rt g.cp 0 (oC,BV)).1->mB.map ek=(rt g.cp 0 (oC,BV)).2->eu n eQ=eu n aU->eu n mB=eu n ro->eQ.length=n->mB.length=n->
  Q (.exit 6) e [.own [.v g0,.v g1,.v (.slice g.gv m g.cM),.v g3,.v g4] 26,.row 40 1 (some a1) n n (eu n aU),.row 40 1 (some bh) n n (eu n ro)] U):
 te (λQ e L h=>c7 aH 194 aqx Q e L h) Q e [.own [.v g0,.v g1,.v (.slice g.gv m g.cM),.v g3,.v g4] 26,.row 40 1 (some a1) n n (eu n aU),.row 40 1 (some bh) n n (eu n ro)] h:=by
 obtain⟨F,bm⟩:∃F,F=rt g.cp 0 (oC,BV):=⟨_,rfl⟩
 rw[<-bm]at cD
 have aop:∀x∈g.cp,(0<=x.src/\x.src<n/\0<=x.sp/\x.sp<((BV.map e7).getD x.src.toNat 0:Nat))/\(0<=x.dst/\x.dst<n/\0<=x.ly/\x.ly<((oC.map e7).getD x.dst.toNat 0:Nat)):=ad
 obtain⟨GD,wh⟩:∃l,l=oC.map e7:=⟨_,rfl⟩
 obtain⟨ag3,Qc⟩:∃l,l=BV.map e7:=⟨_,rfl⟩
 rw[<-wh,<-Qc]at ad
 clear aop
 refine .mk (Nat×List jI×List jI) [1,3,4,14,93,94,95] (λ(k,_,_)=>[.p 0 0,.v (.slice (some a1) n n),.v (.slice (some bh) n n),.v (.func (.func 130) #[] #[]),.v (.slice g.gv m g.cM),.v (R m),.v (R k)]) (λ_=>[.own [.v g0,.v g1,.v (.slice g.gv m g.cM),.v g3,.v g4] 26,.row 40 1 (some a1) n n (eu n aU),.row 40 1 (some bh) n n (eu n ro)]) (λ(k,eQ,mB) U=>ji ai U eQ mB/\k<=m/\rt (g.cp.drop k) k (eQ.map ek,mB.map ek)=F/\eu n eQ=eu n aU/\eu n mB=eu n ro/\eQ.length=n/\mB.length=n/\(eQ.map ek).map e7=GD/\(mB.map ek).map e7=ag3) (λ(k,_,_)=>m-k) (0,aU,ro) (λ_=>rfl) ⟨x,cO _,by rw[iA,mN,bm];rfl,rfl,rfl,kS,tS,by rw[iA,wh],by rw[mN,Qc]⟩ he rfl ?_
 clear x iA mN kS tS wh Qc he bm
 rintro⟨k,eQ,mB⟩ e U ⟨x,hk,bm,tY,IW,kS,tS,iA,mN⟩
 refine aK λgS dy gY=>?_
 refine dy _ _ _ ?_
 refine aK λgO dx eG=>?_
 refine aW (λq=>?_) (λq=>?_)
 .have br:k<g.cp.length:=by omega
  obtain⟨Co,cV⟩:=ok.cp.cc (by omega);have aB:(g.cp.map GE.cells)[k]?=some (GE.cells g.cp[k]):=by rw[dV,bZ br];rfl
  have xd:=(ok.cp.mono x.le).row cV aB;have Am:g.cp.drop k=g.cp[k]::g.cp.drop (k+1):=o6 br;obtain⟨⟨s1,s2,hN,mC⟩,t1,t2,t3,t4⟩:=ad _ (cS br);generalize g.cp[k]=y at xd Am s1 s2 hN mC t1 t2 t3 t4;rw[Am,rt]at bm;obtain⟨cP,a2,a3⟩:=D6.get (r:=mB) (ax:=mB.map ek) ⟨⟨s1,s2⟩,hN,by rw[mN];exact mC⟩ rfl tS;obtain⟨bL,cy,gE⟩:=D6.get (r:=eQ) (ax:=eQ.map ek) ⟨⟨t1,t2⟩,t3,by rw[iA];exact t4⟩ rfl kS;refine dx _ _ _ ?_;refine aK λgu df fK=>?_;refine fG λgk ed eH=>?_;refine aK λhA dY hL=>?_;refine .m Co cV ?_;refine .hp y.cells rfl (by rw[bq];exact xd) ?_;refine dY _ _ _ ?_;refine aK λhc eT hi=>?_;refine .m bh rfl ?_;refine .row 2 40 1 bh n n _ _ (r2 mB[y.src.toNat]) rfl (by rw[ew]) (by rw[<-IW];exact I1 cP) ?_;refine .r ?_;conv=>whnf
  rw[add_lit,dJ];refine .done (.mk _ (Mz _ _ 6 (k:Int) _ _ (x.swap.Ht cP) a2) ?_);rintro _ _ rfl;have fk:=(x.swap.F6 cP (mB[y.src.toNat].2.set y.sp.toNat ⟨6,(k:Int),mB[y.src.toNat].2[y.sp.toNat].b⟩)).swap;have m2:=Mg (k:=6) (i:=(k:Int)) (ax:=mB.map ek) rfl cP a2;have eW:=MD (n:=n) cP (J:=mB[y.src.toNat].2.set y.sp.toNat ⟨6,(k:Int),mB[y.src.toNat].2[y.sp.toNat].b⟩) (by simp);rw[kA]at fk;generalize fJ:mB.set y.src.toNat (mB[y.src.toNat].1,mB[y.src.toNat].2.set y.sp.toNat ⟨6,(k:Int),mB[y.src.toNat].2[y.sp.toNat].b⟩)=rY at fk m2 eW;have RH:rY.length=n:=by rw[<-fJ,k2];exact tS
  clear fJ;generalize U.put _ _=ab at fk;refine eT _ _ _ ?_;refine .m a1 rfl ?_;refine .row 1 40 1 a1 n n _ _ (r2 eQ[y.dst.toNat]) rfl (by rw[ew]) (by rw[<-tY];exact I1 bL) ?_;refine .r ?_;conv=>whnf
  rw[add_lit,dJ];refine .done (.mk _ (Mz _ _ 3 (k:Int) _ _ (fk.Ht bL) cy) ?_);rintro _ _ rfl;have ig:=fk.F6 bL (eQ[y.dst.toNat].2.set y.ly.toNat ⟨3,(k:Int),eQ[y.dst.toNat].2[y.ly.toNat].b⟩);have m3:=Mg (k:=3) (i:=(k:Int)) (ax:=eQ.map ek) rfl bL cy;have l4:=MD (n:=n) bL (J:=eQ[y.dst.toNat].2.set y.ly.toNat ⟨3,(k:Int),eQ[y.dst.toNat].2[y.ly.toNat].b⟩) (by simp);rw[kA]at ig;generalize lB:eQ.set y.dst.toNat (eQ[y.dst.toNat].1,eQ[y.dst.toNat].2.set y.ly.toNat ⟨3,(k:Int),eQ[y.dst.toNat].2[y.ly.toNat].b⟩)=s5 at ig m3 l4;have Dc:s5.length=n:=by rw[<-lB,k2];exact kS
  clear lB;generalize ab.put _ _=an at ig;refine eH _ _ _ _ nofun (df _ _ _ ?_);refine .aLS ?_;refine⟨(k+1,s5,rY),rfl,rfl,⟨ig,by omega,by rw[m2,m3];exact bm,l4.trans tY,eW.trans IW,Dc,RH,by rw[m3,A3];exact iA,by rw[m2,A3];exact mN⟩,by show m- (k+1)<m-k;omega⟩
 refine eG _ _ _ _ nofun ?_
 have oN:k=g.cp.length:=by omega
 rw[oN,N3,rt]at bm
 exact cD _ _ eQ mB rfl x (by rw[<-bm]) (by rw[<-bm]) tY IW kS tS
theorem avO(Q:dL)(e:bY)(g:eY)(ai h:I)(n m:Nat)(a1 bh:ar)(ok:g.ok ai)(hm:g.ins.length=m)(oO:m<=96)(g0 g1 g2 g4:ao)(aU ro:List jI)(oC:List (List b6))(x:ji ai h aU ro)(iA:aU.map ek=oC)(kS:aU.length=n)(ad:∀x∈g.ins,0<=x.act/\x.act<n/\0<=x.port/\x.port<((oC.map e7).getD x.act.toNat 0:Nat))(he:[1,3,4,14,124,125,126].map e=[.p 0 0,.v (.slice (some a1) n n),.v (.slice (some bh) n n),.v (.func (.func 130) #[] #[]),.v (.slice g.eF m g.cE),.v (R m),.v (R (0:Nat))])
 (cD:∀e U eQ,[1,3,4,14].map e=[.p 0 0,.v (.slice (some a1) n n),.v (.slice (some bh) n n),.v (.func (.func 130) #[] #[])]->ji ai U eQ ro->eQ.map ek=qd 4 g.ins 0 oC->eu n eQ=eu n aU->eQ.length=n->
  Q (.exit 8) e [.own [.v g0,.v g1,.v g2,.v (.slice g.eF m g.cE),.v g4] 26,.row 40 1 (some a1) n n (eu n aU),.row 40 1 (some bh) n n (eu n ro)] U):
 te (λQ e L h=>c7 aH 194 aqy Q e L h) Q e [.own [.v g0,.v g1,.v g2,.v (.slice g.eF m g.cE),.v g4] 26,.row 40 1 (some a1) n n (eu n aU),.row 40 1 (some bh) n n (eu n ro)] h:=by
 obtain⟨F,bm⟩:∃F,F=qd 4 g.ins 0 oC:=⟨_,rfl⟩
 rw[<-bm]at cD
 obtain⟨GD,wh⟩:∃l,l=oC.map e7:=⟨_,rfl⟩
 rw[<-wh]at ad
 refine .mk (Nat×List jI) [1,3,4,14,124,125,126] (λ(k,_)=>[.p 0 0,.v (.slice (some a1) n n),.v (.slice (some bh) n n),.v (.func (.func 130) #[] #[]),.v (.slice g.eF m g.cE),.v (R m),.v (R k)]) (λ_=>[.own [.v g0,.v g1,.v g2,.v (.slice g.eF m g.cE),.v g4] 26,.row 40 1 (some a1) n n (eu n aU),.row 40 1 (some bh) n n (eu n ro)]) (λ(k,eQ) U=>ji ai U eQ ro/\k<=m/\qd 4 (g.ins.drop k) k (eQ.map ek)=F/\eu n eQ=eu n aU/\eQ.length=n/\(eQ.map ek).map e7=GD) (λ(k,_)=>m-k) (0,aU) (λ_=>rfl) ⟨x,cO _,by rw[iA,bm];rfl,rfl,kS,by rw[iA,wh]⟩ he rfl ?_
 clear x iA kS wh he bm
 rintro⟨k,eQ⟩ e U ⟨x,hk,bm,tY,kS,iA⟩
 refine aK λgS dy gY=>?_
 refine dy _ _ _ ?_
 refine aK λgO dx eG=>?_
 refine aW (λq=>?_) (λq=>?_)
 have br:k<g.ins.length:=by omega
 obtain⟨Co,cV⟩:=ok.ins.cc (by omega)
 have aB:(g.ins.map k0.cells)[k]?=some (k0.cells g.ins[k]):=by rw[dV,bZ br];rfl
 have xd:=(ok.ins.mono x.le).row cV aB
 have Am:g.ins.drop k=g.ins[k]::g.ins.drop (k+1):=o6 br
 obtain⟨t1,t2,t3,t4⟩:=ad _ (cS br)
 generalize g.ins[k]=y at xd Am t1 t2 t3 t4
 rw[Am,qd]at bm
 obtain⟨bL,cy,gE⟩:=D6.get (r:=eQ) (ax:=eQ.map ek) ⟨⟨t1,t2⟩,t3,by rw[iA];exact t4⟩ rfl kS
 refine dx _ _ _ ?_
 refine aK λgu df fK=>?_
 refine fG λgk ed eH=>?_
 refine aK λhA dY hL=>?_
 refine .m Co cV ?_
 refine .hp y.cells rfl (by rw[bq];exact xd) ?_
 refine dY _ _ _ ?_
 refine .m a1 rfl ?_
 refine .row 1 40 1 a1 n n _ _ (r2 eQ[y.act.toNat]) rfl (by rw[ew]) (by rw[<-tY];exact I1 bL) ?_
 refine .r ?_
 conv=>whnf
 rw[add_lit,dJ]
 refine .done (.mk _ (Mz _ _ 4 (k:Int) _ _ (x.Ht bL) cy) ?_)
 rintro _ _ rfl
 have ig:=x.F6 bL (eQ[y.act.toNat].2.set y.port.toNat ⟨4,(k:Int),eQ[y.act.toNat].2[y.port.toNat].b⟩)
 have m3:=Mg (k:=4) (i:=(k:Int)) (ax:=eQ.map ek) rfl bL cy
 have l4:=MD (n:=n) bL (J:=eQ[y.act.toNat].2.set y.port.toNat ⟨4,(k:Int),eQ[y.act.toNat].2[y.port.toNat].b⟩) (by simp)
 rw[kA]at ig
 generalize lB:eQ.set y.act.toNat (eQ[y.act.toNat].1,eQ[y.act.toNat].2.set y.port.toNat ⟨4,(k:Int),eQ[y.act.toNat].2[y.port.toNat].b⟩)=s5 at ig m3 l4
 have Dc:s5.length=n:=by rw[<-lB,k2];exact kS
 clear lB
 generalize U.put _ _=an at ig
 refine eH _ _ _ _ nofun (df _ _ _ ?_)
 refine .aLS ?_
 refine⟨(k+1,s5),rfl,rfl,⟨ig,by omega,by rw[m3];exact bm,l4.trans tY,Dc,by rw[m3,A3];exact iA⟩,by show m- (k+1)<m-k;omega⟩
 refine eG _ _ _ _ nofun ?_
 have oN:k=g.ins.length:=by omega
 rw[oN,N3,qd]at bm
 exact cD _ _ eQ rfl x (by rw[<-bm]) tY kS
theorem avP(Q:dL)(e:bY)(g:eY)(ai h:I)(n m:Nat)(a1 bh:ar)(ok:g.ok ai)(hm:g.outs.length=m)(oO:m<=96)(g0 g1 g2 g3:ao)(aU ro:List jI)(oC:List (List b6))(x:ji ai h aU ro)(iA:aU.map ek=oC)(kS:aU.length=n)(ad:∀x∈g.outs,0<=x.act/\x.act<n/\0<=x.port/\x.port<((oC.map e7).getD x.act.toNat 0:Nat))(he:[1,3,4,14,144,145,146].map e=[.p 0 0,.v (.slice (some a1) n n),.v (.slice (some bh) n n),.v (.func (.func 130) #[] #[]),.v (.slice g.ct m g.bO),.v (R m),.v (R (0:Nat))])
 (cD:∀e U eQ,[1,3,4,14].map e=[.p 0 0,.v (.slice (some a1) n n),.v (.slice (some bh) n n),.v (.func (.func 130) #[] #[])]->ji ai U eQ ro->eQ.map ek=qd 7 g.outs 0 oC->eu n eQ=eu n aU->eQ.length=n->
  Q (.exit 10) e [.own [.v g0,.v g1,.v g2,.v g3,.v (.slice g.ct m g.bO)] 26,.row 40 1 (some a1) n n (eu n ro),.row 40 1 (some bh) n n (eu n aU)] U):
 te (λQ e L h=>c7 aH 194 aqz Q e L h) Q e [.own [.v g0,.v g1,.v g2,.v g3,.v (.slice g.ct m g.bO)] 26,.row 40 1 (some a1) n n (eu n ro),.row 40 1 (some bh) n n (eu n aU)] h:=by
 obtain⟨F,bm⟩:∃F,F=qd 7 g.outs 0 oC:=⟨_,rfl⟩
 rw[<-bm]at cD
 obtain⟨GD,wh⟩:∃l,l=oC.map e7:=⟨_,rfl⟩
 rw[<-wh]at ad
 refine .mk (Nat×List jI) [1,3,4,14,144,145,146] (λ(k,_)=>[.p 0 0,.v (.slice (some a1) n n),.v (.slice (some bh) n n),.v (.func (.func 130) #[] #[]),.v (.slice g.ct m g.bO),.v (R m),.v (R k)]) (λ_=>[.own [.v g0,.v g1,.v g2,.v g3,.v (.slice g.ct m g.bO)] 26,.row 40 1 (some a1) n n (eu n ro),.row 40 1 (some bh) n n (eu n aU)]) (λ(k,eQ) U=>ji ai U eQ ro/\k<=m/\qd 7 (g.outs.drop k) k (eQ.map ek)=F/\eu n eQ=eu n aU/\eQ.length=n/\(eQ.map ek).map e7=GD) (λ(k,_)=>m-k) (0,aU) (λ_=>rfl) ⟨x,cO _,by rw[iA,bm];rfl,rfl,kS,by rw[iA,wh]⟩ he rfl ?_
 clear x iA kS wh he bm
 rintro⟨k,eQ⟩ e U ⟨x,hk,bm,tY,kS,iA⟩
 refine aK λgS dy gY=>?_
 refine dy _ _ _ ?_
 refine aK λgO dx eG=>?_
 refine aW (λq=>?_) (λq=>?_)
 have br:k<g.outs.length:=by omega
 obtain⟨Co,cV⟩:=ok.outs.cc (by omega)
 have aB:(g.outs.map k0.cells)[k]?=some (k0.cells g.outs[k]):=by rw[dV,bZ br];rfl
 have xd:=(ok.outs.mono x.le).row cV aB
 have Am:g.outs.drop k=g.outs[k]::g.outs.drop (k+1):=o6 br
 obtain⟨t1,t2,t3,t4⟩:=ad _ (cS br)
 generalize g.outs[k]=y at xd Am t1 t2 t3 t4
 rw[Am,qd]at bm
 obtain⟨bL,cy,gE⟩:=D6.get (r:=eQ) (ax:=eQ.map ek) ⟨⟨t1,t2⟩,t3,by rw[iA];exact t4⟩ rfl kS
 refine dx _ _ _ ?_
 refine aK λgu df fK=>?_
 refine fG λgk ed eH=>?_
 refine aK λhA dY hL=>?_
 refine .m Co cV ?_
 refine .hp y.cells rfl (by rw[bq];exact xd) ?_
 refine dY _ _ _ ?_
 refine .m bh rfl ?_
 refine .row 2 40 1 bh n n _ _ (r2 eQ[y.act.toNat]) rfl (by rw[ew]) (by rw[<-tY];exact I1 bL) ?_
 refine .r ?_
 conv=>whnf
 rw[add_lit,dJ]
 refine .done (.mk _ (Mz _ _ 7 (k:Int) _ _ (x.Ht bL) cy) ?_)
 rintro _ _ rfl
 have ig:=x.F6 bL (eQ[y.act.toNat].2.set y.port.toNat ⟨7,(k:Int),eQ[y.act.toNat].2[y.port.toNat].b⟩)
 have m3:=Mg (k:=7) (i:=(k:Int)) (ax:=eQ.map ek) rfl bL cy
 have l4:=MD (n:=n) bL (J:=eQ[y.act.toNat].2.set y.port.toNat ⟨7,(k:Int),eQ[y.act.toNat].2[y.port.toNat].b⟩) (by simp)
 rw[kA]at ig
 generalize lB:eQ.set y.act.toNat (eQ[y.act.toNat].1,eQ[y.act.toNat].2.set y.port.toNat ⟨7,(k:Int),eQ[y.act.toNat].2[y.port.toNat].b⟩)=s5 at ig m3 l4
 have Dc:s5.length=n:=by rw[<-lB,k2];exact kS
 clear lB
 generalize U.put _ _=an at ig
 refine eH _ _ _ _ nofun (df _ _ _ ?_)
 refine .aLS ?_
 refine⟨(k+1,s5),rfl,rfl,⟨ig,by omega,by rw[m3];exact bm,l4.trans tY,Dc,by rw[m3,A3];exact iA⟩,by show m- (k+1)<m-k;omega⟩
 refine eG _ _ _ _ nofun ?_
 have oN:k=g.outs.length:=by omega
 rw[oN,N3,qd]at bm
 exact cD _ _ eQ rfl x (by rw[<-bm]) tY kS
abbrev q7:=Option ar×Nat×List b6
variable {D:List q7}
def aCr(d:q7):ao:=.slice d.1 d.2.2.length d.2.1
def BD(h:I)(D:List q7):Prop:=∀d∈D,bz h 66 3 d.1 d.2.2.length d.2.1 (gJ d.2.2)
theorem BD.mono{h U:I}{D:List q7}(x:BD h D)(le:h.le U):BD U D:=λd aB=>(x d aB).mono le
theorem avc(af:h b=some (kA l))(hm:l.length<=1000):bz h 66 3 (some ⟨b,0,none⟩) l.length l.length (gJ l):=⟨Ba l,.inr ⟨b,(gJ l).toArray,rfl,af,dd _,by simp[c'];omega,by simp[Ba],by rw[<-Ba,pM]⟩⟩
theorem avd(af:h b=some (kA l)):bg h 3 (some ⟨b,0,none⟩) l.length (l.map b6.cells):=bg.lit af rfl (λr am=>by obtain⟨x,_,rfl⟩:=dn.1 am;rfl) (by simp)
def G'(aU ro:List jI)(k:Nat):List b6:=(aU.getD k (0,[])).2++[⟨5,k,0⟩]++(ro.getD k (0,[])).2
def rm(D:List q7)(aU:List jI):List ao:=D.map aCr++(aU.drop D.length).map r2
theorem air(h:D.length<aU.length):(rm D aU)[D.length]?=some (r2 aU[D.length]):=by
 rw[rm,aB7 (by simp),ih,yq,dV,List.getElem?_drop,wX,bZ h];rfl
theorem ais(h:D.length<=aU.length):(rm D aU).length=aU.length:=by simp[rm];omega
theorem ait(h:D.length<aU.length)(d:q7):(rm D aU).set D.length (aCr d)=rm (D++[d]) aU:=by
 unfold rm;rw[wU _ _ (by simp),ih,yq,o6 h,fm,mb,fb];rfl
theorem ajc(Q:dL)(e:bY)(ai h:I)(n:Nat)(a1 bh:ar)(aC:n<=1000)(g0 g1 g2 g3 g4:ao)(aU ro:List jI)(x:ji ai h aU ro)(kS:aU.length=n)(tS:ro.length=n)(aj:∀q∈aU++ro,q.2.length<=100)(he:[3,4,165,166].map e=[.v (.slice (some a1) n n),.v (.slice (some bh) n n),.v (R n),.v (R (0:Nat))])
 (cD:∀e U D,[3].map e=[.v (.slice (some a1) n n)]->ai.le U->BD U D->D.length=n->D.map (λd=>d.2.2)=(aDB n).map (G' aU ro)->
  Q (.exit 12) e [.own [.v g0,.v g1,.v g2,.v g3,.v g4] 26,.row 40 1 (some a1) n n (D.map aCr),.row 40 1 (some bh) n n (eu n ro)] U):
 te (λQ e L h=>c7 aH 194 aqA Q e L h) Q e [.own [.v g0,.v g1,.v g2,.v g3,.v g4] 26,.row 40 1 (some a1) n n (eu n aU),.row 40 1 (some bh) n n (eu n ro)] h:=by
 have ds:eu n aU=rm [] aU:=by simp[eu,rm,kS]
 rw[ds]
 refine .kU [0,1,2] (Nat×List q7) [3,4,165,166] (λ(k,_)=>[.v (.slice (some a1) n n),.v (.slice (some bh) n n),.v (R n),.v (R k)]) (λ(_,D)=>[.own [.v g0,.v g1,.v g2,.v g3,.v g4] 26,.row 40 1 (some a1) n n (rm D aU),.row 40 1 (some bh) n n (eu n ro)]) (λ(k,D) U=>ji ai U aU ro/\k<=n/\BD U D/\D.length=k/\D.map (λd=>d.2.2)=(aDB k).map (G' aU ro)) (λ(k,_)=>n-k) (0,[]) (λ_=>rfl) ⟨x,cO _,(by intro d aB;cases aB),rfl,rfl⟩ (by rw[he];rfl) rfl rfl ?_
 clear x he ds
 rintro⟨k,D⟩ e U ⟨x,hk,Cc,L1,yJ⟩
 refine .done ?_
 refine aK λgS dy gY=>?_
 refine dy _ _ _ ?_
 refine aK λgO dx eG=>?_
 refine aW (λq=>?_) (λq=>?_)
 subst L1
 have Lt:D.length<aU.length:=by omega
 have QI:D.length<ro.length:=by omega
 have R1:aU[D.length]∈aU++ro:=qu _ (cS Lt)
 have ab0:ro[D.length]∈aU++ro:=wT _ (cS QI)
 have nZ:=avc (x.at_ _ R1) (by have:=aj _ R1;omega)
 have Ki:=avd (x.at_ _ ab0)
 have Tq:=aj _ R1
 have Tr:=aj _ ab0
 have tt:G' aU ro D.length=aU[D.length].2++[⟨5,(D.length:Int),0⟩]++ro[D.length].2:=by
  rw[G',cN,cN,bZ Lt,bZ QI];rfl
 have Yk:=air Lt
 have Yj:(eu n ro)[D.length]?=some (r2 ro[D.length]):=I1 QI
 have aBF:=ais (D:=D) (aU:=aU) (by omega)
 have axk:=ait Lt
 generalize aU[D.length]=p at nZ Tq tt Yk
 generalize ro[D.length]=r at Ki Tr tt Yj
 refine dx _ _ _ ?_
 refine aK λgu df fK=>?_
 refine fG λgk ed eH=>?_
 refine aK λhA dY hL=>?_
 refine dY _ _ _ ?_
 refine aK λhc eT hi=>?_
 refine .m a1 rfl ?_
 refine .row 1 40 1 a1 n n _ _ (r2 p) rfl (by rw[ew]) (by rw[bq];exact Yk) ?_
 refine .done (OS nZ (au:=gJ [⟨5,(D.length:Int),0⟩]) rfl (Dn _) (by decide) rfl (by simp[c'];omega) (by omega) (λb J aO oo=>by obtain⟨_,_,_,_,_,q,_⟩:=bz.split oo;omega) (λbA bu aO aw=>?_))
 refine .m a1 rfl ?_
 refine .row 1 40 1 a1 n n (rm D aU) ((rm D aU).set D.length (.slice bA (p.2.length+1) bu)) D.length rfl (by rw[bq,ew]) (ib _ _ _ (by omega)) ?_
 refine eT _ _ _ ?_
 refine .m a1 rfl ?_
 refine .row 1 40 1 a1 n n _ _ (.slice bA (p.2.length+1) bu) rfl (by rw[ew]) (by rw[bq,ahj (by omega)]) ?_
 refine .m bh rfl ?_
 refine .row 2 40 1 bh n n _ _ (r2 r) rfl (by rw[ew]) (by rw[bq];exact Yj) ?_
 refine .cR 4 _ (gJ r.2) rfl (Ki.src _) (Dn _) (by simp[c'];omega) (by omega) λdE c2 qJ=>?_
 refine .m a1 rfl ?_
 refine .row 1 40 1 a1 n n _ ((rm D aU).set D.length (.slice dE (p.2.length+1+r.2.length) c2)) D.length rfl (by rw[bq,ew]) (by rw[ib _ _ _ (by rw[k2];omega),List.set_set]) ?_
 refine eH _ _ _ _ nofun (df _ _ _ ?_)
 refine .aLS ?_
 refine .bV 4 66 3 dE (p.2.length+1+r.2.length) c2 _ rfl λaR cW fT f4=>.done ?_
 have hY:(p.2++[(⟨5,(D.length:Int),0⟩:b6)]++r.2).length=p.2.length+1+r.2.length:=by simp;omega
 have aes:=axk (dE,c2,p.2++[⟨5,(D.length:Int),0⟩]++r.2)
 rw[aCr,hY]at aes
 refine⟨(D.length+1,D++[(dE,c2,p.2++[⟨5,(D.length:Int),0⟩]++r.2)]),rfl,?_,⟨x.mono cW,by omega,λd aB=>?_,by simp,?_⟩,by show n- (D.length+1)<n-D.length;omega⟩
 show[_,LE.row 40 1 (some a1) n n _,_]=[_,LE.row 40 1 (some a1) n n _,_]
 rw[aes]
 rcases ev.1 aB with aB|aB
 exact(Cc d aB).mono cW
 rw[fx]at aB
 subst aB
 rw[hY,FQ,FQ]
 exact fT
 rw[fm,yJ,List.range_succ,fm,GL,GL,tt]
 refine eG _ _ _ _ nofun ?_
 have oN:k=n:=by omega
 subst oN
 have:rm D aU=D.map aCr:=by rw[rm,List.drop_eq_nil_of_le (by omega)];simp
 have z:=λe he=>cD e U D he x.le Cc L1 yJ
 rw[<-this]at z
 exact z _ rfl
theorem I'(k:Nat):∀(l:List k0)(i:Nat)(ax:List (List b6)),(qd k l i ax).map e7=ax.map e7
 |[],_,_=>rfl
 |x::l,i,ax=>by rw[qd,I' k l,A3]
theorem Po:∀(l:List GE)(i:Nat)(q:List (List b6)×List (List b6)),(rt l i q).1.map e7=q.1.map e7/\(rt l i q).2.map e7=q.2.map e7
 |[],_,_=>⟨rfl,rfl⟩
 |x::l,i,q=>by
  obtain⟨h1,ab⟩:=Po l (i+1) (mark q.1 x.dst.toNat x.ly.toNat 3 i,mark q.2 x.src.toNat x.sp.toNat 6 i);rw[rt];exact⟨h1.trans (A3 _ _ _ _ _),ab.trans (A3 _ _ _ _ _)⟩
def Cg(g:eY):List (List b6):=qd 4 g.ins 0 (rt g.cp 0 (g.bt.map sH,g.bt.map sX)).1
def Ch(g:eY):List (List b6):=qd 7 g.outs 0 (rt g.cp 0 (g.bt.map sH,g.bt.map sX)).2
def jV(g:eY):List (List b6):=(aDB g.bt.length).map λ(o:Nat)=>(Cg g).getD o []++[⟨5,(o:Int),0⟩]++(Ch g).getD o []
theorem abE{g:eY}{a:Int}(a6:0<=a/\a<n)(aC:g.bt.length=n):((g.bt.map sH).map e7).getD a.toNat 0=(yO g a).length:=by
 have h:a.toNat<g.bt.length:=by omega
 simp[yO,cN,bZ h,sH]
theorem abF{g:eY}{a:Int}(a6:0<=a/\a<n)(aC:g.bt.length=n):((g.bt.map sX).map e7).getD a.toNat 0=(yP g a).length:=by
 have h:a.toNat<g.bt.length:=by omega
 simp[yP,cN,bZ h,sX]
theorem Yp(rs:List jI)(i:Nat):(rs.getD i (0,[])).2=(rs.map ek).getD i []:=by
 simp only[cN,dV];cases rs[i]? <;>rfl
theorem aeO{l:List h8}{f:h8->List b6}(e:r.map ek=ax)(al:ax.map e7=(l.map f).map e7)(az:∀a,(f a).length<=16):∀q∈r,q.2.length<=100:=λq aq=>by
 have h1:q.2.length∈ax.map e7:=by rw[<-e];exact dn.2 ⟨_,dn.2 ⟨q,aq,rfl⟩,rfl⟩
 rw[al]at h1;obtain⟨x,ad,ex⟩:=dn.1 h1;obtain⟨a,_,rfl⟩:=dn.1 ad;have:=az a;omega
theorem akU(g:eY)(h:I)(ok:g.ok h)(iB:UF g)(n:Nat)(aC:g.bt.length=n):Fn aH 72 #[.agg g.cells.toArray] h λv U=>h.le U/\∃a1 D,v= .slice (some a1) n n/\bg U 1 (some a1) n (D.map λd=>[aCr d])/\BD U D/\D.map (λd=>d.2.2)=jV g:=by
 refine b5 xE rfl ?_;have a32:=iB.a32;have v':=iB.v';have i16:=iB.i16;have Dl:=iB.Dl;obtain⟨m,hm⟩:∃m,g.cp.length=m:=⟨_,rfl⟩;obtain⟨sR,u2⟩:∃m,g.ins.length=m:=⟨_,rfl⟩;obtain⟨sS,u3⟩:∃m,g.outs.length=m:=⟨_,rfl⟩;have gc:g.cells=[.string g.dD,.slice g.hf n g.ac,.slice g.gv m g.cM,.slice g.eF sR g.cE,.slice g.ct sS g.bO]:=by rw[eY.cells,aC,hm,u2,u3]
 rw[gc];clear gc;refine aK λgS dy gY=>?_;refine dy _ _ _ ?_;refine aK λgO dx eG=>?_;refine dN.one n (.slice none 0 0) rfl rfl rfl rfl (by omega) (by omega) λa1=>?_;refine dx _ _ _ ?_;refine aK λgu df fK=>?_;refine dN.one n (.slice none 0 0) rfl rfl rfl rfl (by omega) (by omega) λbh=>?_;refine df _ _ _ ?_;refine aK λgk ed eH=>?_;refine aK λhA dY hL=>?_;refine dY _ _ _ ?_;refine fG λhc eT hi=>?_;have z0:=avf n;simp only[<-z0];refine awS hc _ g h h n a1 bh ok aC (by omega) (I.le_refl _) (.string g.dD) (.slice g.gv m g.cM) (.slice g.eF sR g.cE) (.slice g.ct sS g.bO) rfl ?_;intro e h1 aU ro he x iA mN;have kS:aU.length=n:=by have:=ho e7 iA;simp at this;omega
 have tS:ro.length=n:=by have:=ho e7 mN;simp at this;omega
 refine eT _ _ _ (ed _ _ _ ?_);rw[<-fr [1,3,4] e,he];refine aK λkb fE i'=>?_;refine fE _ _ _ ?_;refine aK λkc gg j1=>?_;refine aK λko g' ja=>?_;refine g' _ _ _ ?_;refine fG λlq gX kR=>?_;refine aj3 lq _ g h h1 n m a1 bh ok hm (by omega) (.string g.dD) (.slice g.hf n g.ac) (.slice g.eF sR g.cE) (.slice g.ct sS g.bO) aU ro _ _ x iA mN kS tS (λy aQ=>?_) rfl ?_;obtain⟨⟨s1,s2,hN,mC⟩,⟨t1,t2,t3,t4⟩,_⟩:=iB.Ao y aQ;refine⟨⟨s1,by omega,hN,?_⟩,t1,by omega,t3,?_⟩;rw[abF (n:=n) ⟨s1,by omega⟩ aC];exact mC;rw[abE (n:=n) ⟨t1,by omega⟩ aC];exact t4;clear e he;intro e ab s5 rY he fk ajY ajZ tY IW Dc RH;rw[<-tY,<-IW];obtain⟨L',Ma⟩:=Po g.cp 0 (g.bt.map sH,g.bt.map sX);refine gX _ _ _ (gg _ _ _ ?_);rw[<-fr [1,3,4,14] e,he];refine aK λsd lC sK=>?_;refine aK λqx lD pr=>?_;refine lD _ _ _ ?_;refine fG λut nJ xG=>?_;refine avO ut _ g h ab n sR a1 bh ok u2 (by omega) (.string g.dD) (.slice g.hf n g.ac) (.slice g.gv m g.cM) (.slice g.ct sS g.bO) s5 rY _ fk ajY Dc (λy aQ=>?_) rfl ?_;obtain⟨t1,t2,t3,t4⟩:=iB.aoF y aQ;refine⟨t1,by omega,t3,?_⟩;rw[L',abE (n:=n) ⟨t1,by omega⟩ aC];exact t4;clear e he;intro e an Jf he ig EC auN as1;rw[<-auN];refine nJ _ _ _ (lC _ _ _ ?_);rw[<-fr [1,3,4,14] e,he];refine aK λBU rL Fm=>?_;refine aK λD7 AZ C'=>?_;refine AZ _ _ _ ?_;refine fG λOz Iq aa8=>?_;refine avP Oz _ g h an n sS a1 bh ok u3 (by omega) (.string g.dD) (.slice g.hf n g.ac) (.slice g.gv m g.cM) (.slice g.eF sR g.cE) rY Jf _ ig.swap ajZ RH (λy aQ=>?_) rfl ?_;obtain⟨t1,t2,t3,t4⟩:=iB.avi y aQ;refine⟨t1,by omega,t3,?_⟩;rw[Ma,abF (n:=n) ⟨t1,by omega⟩ aC];exact t4;clear e he;intro e aR jG he qm WZ auP as3;rw[<-auP];refine Iq _ _ _ (rL _ _ _ ?_);rw[<-fr [1,3,4,14] e,he];refine aK λU7 Ir Iu=>?_;refine aK λU8 Is aa9=>?_;refine Is _ _ _ ?_;refine fG λOA It aa'=>?_;refine ajc OA _ h aR n a1 bh (by omega) (.string g.dD) (.slice g.hf n g.ac) (.slice g.gv m g.cM) (.slice g.eF sR g.cE) (.slice g.ct sS g.bO) Jf jG qm.swap as1 as3 (λq aq=>?_) rfl ?_;rcases ev.1 aq with aq|aq;exact aeO EC (l:=g.bt) (f:=sH) ((I' _ _ _ _).trans L') (λa=>by rw[sH,ih];exact(zz _ _).1) q aq;exact aeO WZ (l:=g.bt) (f:=sX) ((I' _ _ _ _).trans Ma) (λa=>by rw[sX,ih];exact(zz _ _).2) q aq;clear e he;intro e cg D he fW Cc L1 yJ;refine It _ _ _ (Ir _ _ _ ?_);rw[<-fr [3] e,he];refine .bV 1 40 1 (some a1) n n _ rfl λfa hv pz f6=>.done ⟨I.le_trans fW hv,a1,D,rfl,?_,Cc.mono hv,?_⟩;refine bz.dG (bs:=40) (cap:=n) (rows:=D.map λd=>[aCr d]) ?_ (λr am=>by obtain⟨d,_,rfl⟩:=dn.1 am;rfl) (by decide);have aJ:(D.map λd=>[aCr d]).flatten=D.map aCr:=by
  clear pz Cc L1 yJ;induction D with
  |nil=>rfl
  |cons d D bE=>rw[eO,qr,bE];rfl
 rw[aJ];exact pz;rw[yJ,jV,aC,Cg,Ch,<-EC,<-WZ];refine List.map_congr_left λo _=>?_;rw[G',Yp,Yp]
def kz(t:Int)(op len:Nat)(inner:List b6):List b6:=if 1<t then⟨1,op,t⟩::(inner++[⟨2,op,(len:Int)+1⟩])else inner
def ft(t:Int):Nat:=if 1<t then 1 else 0
def ga(ax:List (List b6)):cX->Nat->Nat->List b6
 |.nil,_,_=>[]
 |.cons t n b r,len,op=>kz t op len (bif b.leaf then ax.getD n.toNat []else ga ax b (len+ft t) (op+ft t))++
  ga ax r (len+(kz t op len (bif b.leaf then ax.getD n.toNat []else ga ax b (len+ft t) (op+ft t))).length) op
def jk:cX->Nat->Nat->Nat
 |.nil,_,cZ=>cZ
 |.cons t _ b r,op,cZ=>jk r op (jk b (op+ft t) (if 1<t then max cZ (op+1)else cZ))
def zW(n:Nat):cX->Prop
 |.nil=>True
 |.cons _ k b r=>(b.leaf=true->0<=k/\k<n)/\zW n b/\zW n r
structure Ei(ai h:I)(aT:Nat)(A:Option ar)(c op cZ:Nat)(F:ao)(l:List b6):Prop where
 le:ai.le h
 c6:ai aT=none
 box:h aT=some (.cells #[.slice A l.length c,R op,R cZ,F] 215 (0,0))
section
variable {ai h U:I}{aT:Nat}{A:Option ar}{c op cZ:Nat}{F:ao}{l:List b6}
theorem nd.open(w:nd ai h aT A c op cZ F l):Ei ai (ei h A) aT A c op cZ F l:=by
 rcases A with _|g;exact⟨w.le,w.c6,w.box⟩;have:=w.kw g rfl;refine⟨λo J ae=>?_,w.c6,?_⟩;rw[ei,I.lP _ (λe=>by grind)];exact w.le o J ae;rw[ei,I.lP _ (d9 this.1)];exact w.box
theorem Ei.close(w:Ei ai h aT A c op cZ F l)(le:h.le U)(r:bz U 66 3 A l.length c (gJ l))(f:∀g,A=some g->h g.block=none):nd ai U aT A c op cZ F l:=⟨I.le_trans w.le le,w.c6,le _ _ w.box,r,λg ak=>⟨λe=>(by simp_all[e,w.box]),I.none_le w.le (f g ak)⟩⟩
theorem Ei.app(w:Ei ai h aT A c op cZ F l)(bA:Option ar)(bu:Nat)(m:List b6):Ei ai (h.put aT (.cells [.slice bA (l++m).length bu,R op,R cZ,F].toArray 215 (0,0))) aT bA bu op cZ F (l++m):=⟨kT w.c6 w.le,w.c6,I.bP _ _ _⟩
end
structure JR(ai:I)(a1:ar)(n:Nat)(D:List q7):Prop where
 dG:bg ai 1 (some a1) n (D.map λd=>[aCr d])
 rows:BD ai D
 len:∀d∈D,d.2.2.length<=200
theorem W'{t n:Int}{b r:cX}{len:Nat}:(ga ax (.cons t n b r) len op).length=(kz t op len (bif b.leaf then ax.getD n.toNat []else ga ax b (len+ft t) (op+ft t))).length+(ga ax r (len+(kz t op len (bif b.leaf then ax.getD n.toNat []else ga ax b (len+ft t) (op+ft t))).length) op).length:=by
 simp[ga]
theorem ac0(t:Int)(op len:Nat)(q:List b6):(kz t op len q).length=q.length+2*ft t:=by
 unfold kz ft;grind
theorem JR.get{a1:ar}(ny:JR ai a1 n D){k:Int}(hk:0<=k/\k<n):∃d:q7,ai.cell? (a1.add (k.toNat*1))=some (aCr d)/\bg ai 3 d.1 d.2.2.length (d.2.2.map b6.cells)/\d.2.2.length<=200/\(D.map λd=>d.2.2).getD k.toNat []=d.2.2:=by
 have al:D.length=n:=by simpa using ny.dG.len
 have br:k.toNat<D.length:=by omega
 refine⟨D[k.toNat],ny.dG.one rfl (by rw[dV,bZ br];rfl) rfl,?_,ny.len _ (cS br),?_⟩;exact bz.dG (ny.rows _ (cS br)) (λr am=>by obtain⟨x,_,rfl⟩:=dn.1 am;rfl) (by decide)
 grind
theorem S'(ai:I)(a1:ar)(n:Nat)(D:List q7)(ny:JR ai a1 n D)(aT:Nat)(aC:n<=1000):
 ∀(N:Nat)(bX:bw),bX.bF<N->bX.bF<=200000->zW n bX.bn->∀(A:Option ar)(m cap:Nat)(h:I)(NH:Option ar)(c op cZ:Nat)(l:List b6),hU ai A m bX->nd ai h aT NH c op cZ (.slice (some a1) n n) l->
  l.length+(ga (D.map λd=>d.2.2) bX.bn l.length op).length<=1000000->op+bX.bF<=100000->
  Fn aH 73 #[hx aT,.slice A m cap] h λ_ U=>∃bA bu,nd ai U aT bA bu op (jk bX.bn op cZ) (.slice (some a1) n n) (l++ga (D.map λd=>d.2.2) bX.bn l.length op)
 |0,bX,db,_=>absurd db (BO _)
 |N+1,bX,db,lU=>by
  intro mn A m cap h NH c op cZ l aj w af aL;obtain⟨ax,cG⟩:∃ax,ax=D.map λd=>d.2.2:=⟨_,rfl⟩;rw[<-cG]at af⊢;have hm:m<=200000:=by have:=aj.1;have:=bX.vk;omega
  refine b5 aa2 rfl ?_;refine aK λgS dy gY=>?_;refine dy _ _ _ ?_;refine fG λgO dx eG=>?_;refine .kU [] (Nat×bw×Option ar×Nat×Nat×List b6) [0,7,8,9] (λ(i,_)=>[.v (hx aT),.v (.slice A m cap),.v (R m),.v (R i)]) (λ_=>[]) (λ(i,r,zH,bu,nw,b3) U=>nd ai U aT zH bu op nw (.slice (some a1) n n) b3/\o9 ai A m i r/\r.bF<=bX.bF/\zW n r.bn/\b3++ga ax r.bn b3.length op=l++ga ax bX.bn l.length op/\jk r.bn op nw=jk bX.bn op cZ) (λ(i,_)=>m-i) (0,bX,NH,c,cZ,l) (λ_=>rfl) ⟨w,aj.cB,dd _,mn,rfl,rfl⟩ rfl rfl rfl ?_;rintro⟨i,r,zH,bu,nw,b3⟩ e U ⟨w,av,ik,mn,he,nj⟩;cases r with
  |nil=>
   refine .done ?_;refine aK λgu df fK=>?_;refine df _ _ _ ?_;refine aK λgk ed eH=>?_;refine aW (λab=>by have:=av.fin;omega) (λab=>?_);refine eH _ _ _ _ nofun ?_;refine dx _ _ _ ?_;rw[bw.bn,ga,zR]at he;rw[bw.bn,jk]at nj;refine .done ⟨zH,bu,?_⟩
   grind
  |cons t k B bc c8 cj r=>
   obtain⟨g,aO,ag,aw,ph,am⟩:=av.open;simp only[bw.bF]at ik;have oK:=ph.1;have nE:=cj.Ft;obtain⟨FC,acv,auk⟩:=mn;have eb:=ho e7 he;rw[fb,fb,bw.bn,W',ac0]at eb;rw[bw.bn,ga,<-mb]at he;obtain⟨gl,u1⟩:∃q,q=(bif cj.bn.leaf then ax.getD k.toNat []else ga ax cj.bn (b3.length+ft t) (op+ft t)):=⟨_,rfl⟩;rw[<-u1]at eb he;obtain⟨Ak,xp⟩:∃q,q=jk cj.bn (op+ft t) (if 1<t then max nw (op+1)else nw):=⟨_,rfl⟩;rw[bw.bn,jk,<-xp]at nj;have u3:∀h1,ai.le h1->∀o v,(iF t k B bc c8)[o]?=some v->h1.cell? ((g.add (i*3)).add o)=some v:=λh1 le o v ah=>I.kL le (aw o v ah);have Mc:∀(e:bY)(L:List LE)(ab:I),[0,7,8,9].map e=[.v (hx aT),.v (.slice A m cap),.v (R m),.v (R i)]->(∀K:List LE->I->Prop,(∀ma an dE c2,nd ai an aT dE c2 op Ak (.slice (some a1) n n) (b3++kz t op b3.length gl)->K ma an)->e9 K L ab)->
    c7 aH 57 (.ch aqB) (λex bl bd Yu=>match ex with
     |.normal=>e9 (λbd U=>∃cw:Nat×bw×Option ar×Nat×Nat×List b6,[0,7,8,9].map bl=(match cw with|(i,_)=>[.v (hx aT),.v (.slice A m cap),.v (R m),.v (R i)])/\bd.take 0=[]/\(match cw with|(i,r,zH,bu,nw,b3)=>nd ai U aT zH bu op nw (.slice (some a1) n n) b3/\o9 ai A m i r/\r.bF<=bX.bF/\zW n r.bn/\b3++ga ax r.bn b3.length op=l++ga ax bX.bn l.length op/\jk r.bn op nw=jk bX.bn op cZ)/\(match cw with|(i,_)=>m-i)<m-i) bd Yu
     |ex=>gO ex bl bd Yu) e L ab:=by
    intro e L ab gD sC
    rw[<-fr [0,7,8,9] e,gD]
    refine .aLS ?_
    refine sC _ λma an dE c2 dw=>?_
    exact⟨(i+1,r,dE,c2,Ak,b3++kz t op b3.length gl),rfl,rfl,⟨dw,am,by omega,auk,by grind,nj⟩,by grind⟩
   have sep:bc=0/\t<=1\/(bc=0/\1<t)\/(0<bc/\t<=1)\/(0<bc/\1<t):=by omega
   rcases sep with⟨rfl,LH⟩|⟨rfl,LH⟩|⟨mS,LH⟩|⟨mS,LH⟩;have HL:cj= .nil:=bw.Pg oK.symm;subst HL;obtain⟨d,d1,d2,d3,d4⟩:=ny.get (FC rfl);have aJ:gl=d.2.2:=by grind
   have aI:Ak=nw:=by rw[xp,aE (by omega)];rfl
   have ck:kz t op b3.length gl=d.2.2:=by rw[kz,aE (by omega),aJ]
   refine .abs 66 3 zH b3.length bu _ w.row (.done ?_);have o2:=w.open;generalize ei U zH=h1 at o2⊢;refine aK λgu df fK=>?_;refine df _ _ _ ?_;refine aK λgk ed eH=>?_;refine aW (λab=>?_) (λab=>by omega);refine ed _ _ _ ?_;refine aK λhA dY hL=>?_;refine fG λhc eT hi=>?_;have fin:∀(e:bY)(L:List LE)(ab:I),[0,7,8,9].map e=[.v (hx aT),.v (.slice A m cap),.v (R m),.v (R i)]->(∀K:List LE->I->Prop,(∀ma an dE c2,nd ai an aT dE c2 op Ak (.slice (some a1) n n) (b3++kz t op b3.length gl)->K ma an)->e9 K L ab)->hc .normal e L ab:=λe L ab aM aD=>hi _ _ _ _ nofun (dY _ _ _ (Mc e L ab aM aD));refine aK λkb fE i'=>?_;refine .m g aO ?_;refine .hp (iF t k B 0 c8) rfl (by rw[bq];exact u3 _ o2.le) ?_;refine fE _ _ _ ?_;refine aK λkc gg j1=>?_;refine gg _ _ _ ?_;refine aK λko g' ja=>?_;refine aW (λq=>by omega) (λ_=>?_);refine g' _ _ _ ?_;refine aK λlq gX kR=>?_;refine .hp _ (bN o2.box rfl) ?_;refine .hp _ (bN o2.box rfl) ?_;refine .mk a1 rfl (FC rfl).1 (FC rfl).2 ?_;refine .hp _ (I.kL o2.le d1) ?_;refine .cR 0 _ (gJ d.2.2) rfl ((d2.mono o2.le).src _) (Dn _) (by grind [c']) (by omega) λdE c2 qJ=>?_;refine .hp aT 0 215 _ [.slice dE (b3.length+d.2.2.length) c2,R op,R nw,.slice (some a1) n n] rfl o2.box rfl ?_;have dw:=o2.app dE c2 d.2.2;rw[fb]at dw;generalize h1.put aT _=ab at dw;refine gX _ _ _ ?_;refine aW (λq=>by omega) (λ_=>?_);refine fin _ _ _ rfl λK eR=>.bV 0 66 3 dE (b3.length+d.2.2.length) c2 _ rfl λan dZ gi f3=>.done (eR _ _ dE c2 ?_);rw[aI,ck];rw[<-fb]at gi;exact dw.close dZ (by rw[FQ];exact gi) f3;have HL:cj= .nil:=bw.Pg oK.symm;subst HL;obtain⟨d,d1,d2,d3,d4⟩:=ny.get (FC rfl);have aJ:gl=d.2.2:=by grind
   have aI:Ak=max nw (op+1):=by rw[xp,aX (by omega)];rfl
   have ck:kz t op b3.length gl=⟨1,op,t⟩::(d.2.2++[⟨2,op,(b3.length:Int)+1⟩]):=by rw[kz,aX (by omega),aJ]
   have d5:ft t=1:=aX (by omega);rw[aJ,d5]at eb;refine .done ?_;refine aK λgu df fK=>?_;refine df _ _ _ ?_;refine aK λgk ed eH=>?_;refine aW (λab=>?_) (λab=>by omega);refine ed _ _ _ ?_;refine aK λhA dY hL=>?_;refine fG λhc eT hi=>?_;have fin:∀(e:bY)(L:List LE)(ab:I),[0,7,8,9].map e=[.v (hx aT),.v (.slice A m cap),.v (R m),.v (R i)]->(∀K:List LE->I->Prop,(∀ma an dE c2,nd ai an aT dE c2 op Ak (.slice (some a1) n n) (b3++kz t op b3.length gl)->K ma an)->e9 K L ab)->hc .normal e L ab:=λe L ab aM aD=>hi _ _ _ _ nofun (dY _ _ _ (Mc e L ab aM aD));refine aK λkb fE i'=>?_;refine .m g aO ?_;refine .hp (iF t k B 0 c8) rfl (by rw[bq];exact u3 _ w.le) ?_;refine fE _ _ _ ?_;refine aK λkc gg j1=>?_;refine gg _ _ _ ?_;refine aK λko g' ja=>?_;refine aW (λ_=>?_) (λq=>by omega);refine .done (.kU _ (Za w (by omega) (by omega) t) ?_);rintro _ ab ⟨rfl,dE,c2,dw⟩;refine .abs 66 3 dE _ c2 _ dw.row (.done ?_);have o2:=dw.open;have hY:(b3++[(⟨1,op,t⟩:b6)]).length=b3.length+1:=by simp
   generalize ei ab dE=h1 at o2⊢;generalize lY:b3++[(⟨1,op,t⟩:b6)]=dc at o2 hY⊢;refine g' _ _ _ ?_;refine aK λlq gX kR=>?_;refine .hp _ (bN o2.box rfl) ?_;refine .hp _ (bN o2.box rfl) ?_;refine .mk a1 rfl (FC rfl).1 (FC rfl).2 ?_;refine .hp _ (I.kL o2.le d1) ?_;refine .cR 1 _ (gJ d.2.2) rfl ((d2.mono o2.le).src _) (Dn _) (by grind [c']) (by omega) λlm eI Hz=>?_;refine .hp aT 0 215 _ [.slice lm (dc.length+d.2.2.length) eI,R ((op+1:Nat):Int),R ((max nw (op+1):Nat):Int),.slice (some a1) n n] rfl o2.box rfl ?_;have iI:=o2.app lm eI d.2.2;rw[fb]at iI;generalize h1.put aT _=an at iI;refine gX _ _ _ ?_;refine aW (λ_=>?_) (λq=>by omega);refine .bV 1 66 3 lm (dc.length+d.2.2.length) eI _ rfl λaR cW fT f4=>.done (.mk _ (VQ (iI.close cW (by rw[FQ,fb];exact fT) f4) (by grind) (by omega) ((b3.length+1:Nat):Int)) ?_);rintro _ cg ⟨zE,xc,lF⟩;refine fin _ _ _ rfl λK eR=>.done (eR _ _ zE xc ?_)
   grind
   have az:cj.bn.leaf=false:=by grind
   rw[az,pR]at u1;have d5:ft t=0:=aE (by omega);rw[d5]at eb u1 xp;simp only[wX]at u1 xp;rw[aE (by omega)]at xp;have ck:kz t op b3.length gl=gl:=by grind [kz]
   refine .done ?_;refine aK λgu df fK=>?_;refine df _ _ _ ?_;refine aK λgk ed eH=>?_;refine aW (λab=>?_) (λab=>by omega);refine ed _ _ _ ?_;refine aK λhA dY hL=>?_;refine fG λhc eT hi=>?_;have fin:∀(e:bY)(L:List LE)(ab:I),[0,7,8,9].map e=[.v (hx aT),.v (.slice A m cap),.v (R m),.v (R i)]->(∀K:List LE->I->Prop,(∀ma an dE c2,nd ai an aT dE c2 op Ak (.slice (some a1) n n) (b3++kz t op b3.length gl)->K ma an)->e9 K L ab)->hc .normal e L ab:=λe L ab aM aD=>hi _ _ _ _ nofun (dY _ _ _ (Mc e L ab aM aD));refine aK λkb fE i'=>?_;refine .m g aO ?_;refine .hp (iF t k B bc c8) rfl (by rw[bq];exact u3 _ w.le) ?_;refine fE _ _ _ ?_;refine aK λkc gg j1=>?_;refine gg _ _ _ ?_;refine aK λko g' ja=>?_;refine aW (λq=>by omega) (λ_=>?_);refine g' _ _ _ ?_;refine aK λlq gX kR=>?_;refine aW (λ_=>?_) (λq=>by omega);refine .done (.mk _ (S' ai a1 n D ny aT aC N cj (by omega) (by omega) acv B bc c8 U zH bu op nw b3 ph w (by grind) (by omega)) ?_);rintro _ ab ⟨dE,c2,dw⟩;rw[<-cG,<-u1,<-xp]at dw;refine gX _ _ _ ?_;refine aW (λq=>by omega) (λ_=>?_);refine fin _ _ _ rfl λK eR=>.done (eR _ _ dE c2 ?_)
   grind
   have az:cj.bn.leaf=false:=by grind
   rw[az,pR]at u1;have d5:ft t=1:=aX (by omega);rw[d5]at eb u1 xp;rw[aX (by omega)]at xp;have ck:kz t op b3.length gl=⟨1,op,t⟩::(gl++[⟨2,op,(b3.length:Int)+1⟩]):=by grind [kz]
   refine .done ?_;refine aK λgu df fK=>?_;refine df _ _ _ ?_;refine aK λgk ed eH=>?_;refine aW (λab=>?_) (λab=>by omega);refine ed _ _ _ ?_;refine aK λhA dY hL=>?_;refine fG λhc eT hi=>?_;have fin:∀(e:bY)(L:List LE)(ab:I),[0,7,8,9].map e=[.v (hx aT),.v (.slice A m cap),.v (R m),.v (R i)]->(∀K:List LE->I->Prop,(∀ma an dE c2,nd ai an aT dE c2 op Ak (.slice (some a1) n n) (b3++kz t op b3.length gl)->K ma an)->e9 K L ab)->hc .normal e L ab:=λe L ab aM aD=>hi _ _ _ _ nofun (dY _ _ _ (Mc e L ab aM aD));refine aK λkb fE i'=>?_;refine .m g aO ?_;refine .hp (iF t k B bc c8) rfl (by rw[bq];exact u3 _ w.le) ?_;refine fE _ _ _ ?_;refine aK λkc gg j1=>?_;refine gg _ _ _ ?_;refine aK λko g' ja=>?_;refine aW (λ_=>?_) (λq=>by omega);refine .done (.mk _ (Za w (by omega) (by omega) t) ?_);rintro _ ab ⟨rfl,dE,c2,dw⟩;have hY:(b3++[(⟨1,op,t⟩:b6)]).length=b3.length+1:=by simp
   generalize lY:b3++[(⟨1,op,t⟩:b6)]=dc at dw hY⊢;refine g' _ _ _ ?_;refine aK λlq gX kR=>?_;refine aW (λ_=>?_) (λq=>by omega);refine .done (.mk _ (S' ai a1 n D ny aT aC N cj (by omega) (by omega) acv B bc c8 ab dE c2 (op+1) (max nw (op+1)) dc ph dw (by grind) (by omega)) ?_);rintro _ an ⟨lm,eI,iI⟩;rw[<-cG,hY,<-u1,<-xp]at iI;refine gX _ _ _ ?_;refine aW (λ_=>?_) (λq=>by omega);refine .done (.mk _ (VQ iI (by grind) (by omega) ((b3.length+1:Nat):Int)) ?_);rintro _ cg ⟨zE,xc,lF⟩;refine fin _ _ _ rfl λK eR=>.done (eR _ _ zE xc ?_)
   grind
structure nc where
 tag:Int
 A:Option ar
 n:Nat
 c:Nat
 be:List Int
def nc.cells(x:nc):List ao:=[.int .u8 x.tag,.slice x.A x.n x.c]
def nc.ok(h:I)(x:nc):Prop:=bg h 1 x.A x.n (x.be.map λz=>[R z])
structure h9 where
 base:Int
 size:Int
 A:Option ar
 n:Nat
 c:Nat
 st:List Int
def h9.cells(x:h9):List ao:=[R x.base,R x.size,.slice x.A x.n x.c]
def h9.ok(h:I)(x:h9):Prop:=bg h 1 x.A x.n (x.st.map λz=>[R z])
structure km where
 mem:Int
 bF:Int
 ins:Int
 outs:Int
 im:Option ar
 cH:Nat
 parts:List nc
 eA:Option ar
 lc:Nat
 lines:List h9
 ct:Option ar
 bO:Nat
 ops:List b6
def km.cells(p:km):List ao:=[R p.mem,R p.bF,R p.ins,R p.outs,.slice p.im p.parts.length p.cH,.slice p.eA p.lines.length p.lc,.slice p.ct p.ops.length p.bO]
structure km.ok(h:I)(p:km):Prop where
 parts:bg h 2 p.im p.parts.length (p.parts.map nc.cells)
 part:∀x∈p.parts,x.ok h
 lines:bg h 3 p.eA p.lines.length (p.lines.map h9.cells)
 line:∀x∈p.lines,x.ok h
 ops:bg h 3 p.ct p.ops.length (p.ops.map b6.cells)
theorem nc.ok.mono{h U:I}{x:nc}(J:x.ok h)(le:h.le U):x.ok U:=bg.mono J le
theorem h9.ok.mono{h U:I}{x:h9}(J:x.ok h)(le:h.le U):x.ok U:=bg.mono J le
theorem km.ok.mono{h U:I}{p:km}(J:p.ok h)(le:h.le U):p.ok U:=⟨J.parts.mono le,λx ad=>(J.part x ad).mono le,J.lines.mono le,λx ad=>(J.line x ad).mono le,J.ops.mono le⟩
theorem zY.dG{U:I}{l:List Int}{v:ao}(J:zY h n (l.map R) v U):h.le U/\∃A c,v= .slice A n c/\bg U 1 A n (l.map λz=>[R z]):=by
 obtain⟨h1,A,c,ab,an,_⟩:=J;exact⟨h1,A,c,ab,an.jr⟩
theorem avs(Q:dL)(e:bY)(g:eY)(ai:I)(n:Nat)(ok:g.ok ai)(aC:g.bt.length=n)(rG:n<=1000)(u':∀a∈g.bt,a.n<=1000)(g0 g2 g3 g4 I5 ie nN aM aD bj bT dz j6 vr fv dU gi pz:ao)(b:Nat)(he:[3,4,6,11,70,71,72].map e=[.p 0 0,.p 1 0,.p 2 0,.p 4 0,.v (.slice g.hf n g.ac),.v (R n),.v (R (0:Nat))])(cD:∀e U A c(be:List nc),[3,4,6,11].map e=[.p 0 0,.p 1 0,.p 2 0,.p 4 0]->ai.le U->(∀x∈be,x.ok U)->be.map (λx=>(x.tag,x.be))=g.bt.map (λa=>(a.tag,a.be))->Q (.exit 0) e [.own [.v g0,.v (.slice g.hf n g.ac),.v g2,.v g3,.v g4] 26,.own [.v I5,.v ie] 37,.own [.v nN,.v aM,.v aD,.v bj,.v bT,.v dz,.v j6] 42,.bV b,.own [.v vr,.v fv,.v dU,.v gi,.v (.slice A n c),.v (.slice none 0 0),.v pz] 42,.row 138 2 A n c (be.map nc.cells).flatten] U):kH (λQ e L h=>c7 aH 112 ap9 Q e L h) Q e [.own [.v g0,.v (.slice g.hf n g.ac),.v g2,.v g3,.v g4] 26,.own [.v I5,.v ie] 37,.own [.v nN,.v aM,.v aD,.v bj,.v bT,.v dz,.v j6] 42,.bV b,.own [.v vr,.v fv,.v dU,.v gi,.v (.slice none 0 0),.v (.slice none 0 0),.v pz] 42,.row 138 2 none 0 0 []] ai:=by
 refine .mk (Nat×Option ar×Nat×List nc) [3,4,6,11,70,71,72] (λ(k,_)=>[.p 0 0,.p 1 0,.p 2 0,.p 4 0,.v (.slice g.hf n g.ac),.v (R n),.v (R k)]) (λ(k,A,c,be)=>[.own [.v g0,.v (.slice g.hf n g.ac),.v g2,.v g3,.v g4] 26,.own [.v I5,.v ie] 37,.own [.v nN,.v aM,.v aD,.v bj,.v bT,.v dz,.v j6] 42,.bV b,.own [.v vr,.v fv,.v dU,.v gi,.v (.slice A k c),.v (.slice none 0 0),.v pz] 42,.row 138 2 A k c (be.map nc.cells).flatten]) (λ(k,A,c,be) U=>ai.le U/\k<=n/\(∀x∈be,x.ok U)/\be.map (λx=>(x.tag,x.be))=(g.bt.take k).map (λa=>(a.tag,a.be))) (λ(k,_)=>n-k) (0,none,0,[]) (λ_=>rfl) ⟨I.le_refl _,cO _,(by intro x ad;cases ad),rfl⟩ he rfl ?_;rintro⟨k,A,c,be⟩ e U ⟨le,hk,xS,qZ⟩;refine aK λgS dy gY=>?_;refine dy _ _ _ ?_;refine aK λgO dx eG=>?_;refine aW (λq=>?_) (λq=>?_);have br:k<g.bt.length:=by omega
 obtain⟨ez,aO⟩:=ok.bt.cc (by omega);have aB:(g.bt.map h8.cells)[k]?=some (h8.cells g.bt[k]):=by rw[dV,bZ br];rfl
 have mL:=(ok.bt.mono le).row aO aB;have vn:=ok.act _ (cS br);have hS:g.bt.take (k+1)=g.bt.take k++[g.bt[k]]:=kh br;have atB:be.length=k:=by have:=ho e7 qZ;simp at this;omega
 have gp:=u' _ (cS br);generalize g.bt[k]=a at mL vn hS gp;refine dx _ _ _ ?_;refine aK λgu df fK=>?_;refine fG λgk ed eH=>?_;refine aK λhA dY hL=>?_;refine .m ez aO ?_;refine .hp a.cells rfl (by rw[bq];exact mL) ?_;refine dY _ _ _ ?_;refine .mk _ (ado a.A a.n a.c a.be U (vn.dG.mono le) (by omega)) (λv h q=>q.1) ?_;rintro _ ab ⟨cn,dE,c2,rfl,dU,f2⟩;refine .cR 5 _ [.int .u8 a.tag,.slice dE a.n c2] rfl rfl (by simp[Aa]) (by simp[c'];omega) (by omega) λlm eI Hz=>?_;refine eH _ _ _ _ nofun (df _ _ _ ?_);refine .aLS ?_;refine⟨(k+1,lm,eI,be++[⟨a.tag,dE,a.n,c2,a.be⟩]),rfl,?_,⟨I.le_trans le cn,by omega,λx ad=>?_,?_⟩,by show n- (k+1)<n-k;omega⟩;show _=[_,_,_,_,_,LE.row 138 2 lm (k+1) eI ((be++[(⟨a.tag,dE,a.n,c2,a.be⟩:nc)]).map nc.cells).flatten];rw[fm,zS];rfl;rcases ev.1 ad with ad|ad;exact(xS x ad).mono cn;rw[fx]at ad;subst ad;exact dU.jr;rw[hS,fm,fm,qZ];rfl;refine eG _ _ _ _ nofun ?_;have oN:k=n:=by omega
 subst oN;rw[<-aC,pM]at qZ;exact cD _ _ A c be rfl le xS qZ
theorem atn(Q:dL)(e:bY)(g:eY)(ai:I)(n:Nat)(ok:g.ok ai)(aC:g.cp.length=n)(rG:n<=1000)(u':∀a∈g.cp,a.n<=1000)(bC:List cL)(qw:Option ar)(cH:Nat)(mE:bg ai 2 qw n (bC.map Go.Sx.cH))(g0 g1 g3 g4 ie nN aM aD bj bT dz j6 vr fv dU gi fT pz:ao)(b:Nat)(OM:Option ar)(T' T9:Nat)(xs:List ao)(he:[4,6,11,89,90,91].map e=[.p 1 0,.p 2 0,.p 4 0,.v (.slice g.gv n g.cM),.v (R n),.v (R (0:Nat))])(cD:∀e U A c(be:List h9),[6,11].map e=[.p 2 0,.p 4 0]->ai.le U->(∀x∈be,x.ok U)->be.map (λx=>(x.base,x.size,x.st))=rf (λ(a:GE)(r:cL)=>(r.1,r.2,a.st)) g.cp bC->Q (.exit 2) e [.own [.v g0,.v g1,.v (.slice g.gv n g.cM),.v g3,.v g4] 26,.own [.v (.slice qw n cH),.v ie] 37,.own [.v nN,.v aM,.v aD,.v bj,.v bT,.v dz,.v j6] 42,.bV b,.own [.v vr,.v fv,.v dU,.v gi,.v fT,.v (.slice A n c),.v pz] 42,.row 138 2 OM T' T9 xs,.row 144 3 A n c (be.map h9.cells).flatten] U):kH (λQ e L h=>c7 aH 112 ap' Q e L h) Q e [.own [.v g0,.v g1,.v (.slice g.gv n g.cM),.v g3,.v g4] 26,.own [.v (.slice qw n cH),.v ie] 37,.own [.v nN,.v aM,.v aD,.v bj,.v bT,.v dz,.v j6] 42,.bV b,.own [.v vr,.v fv,.v dU,.v gi,.v fT,.v (.slice none 0 0),.v pz] 42,.row 138 2 OM T' T9 xs,.row 144 3 none 0 0 []] ai:=by
 have sO:bC.length=n:=by simpa using mE.len
 refine .mk (Nat×Option ar×Nat×List h9) [4,6,11,89,90,91] (λ(k,_)=>[.p 1 0,.p 2 0,.p 4 0,.v (.slice g.gv n g.cM),.v (R n),.v (R k)]) (λ(k,A,c,be)=>[.own [.v g0,.v g1,.v (.slice g.gv n g.cM),.v g3,.v g4] 26,.own [.v (.slice qw n cH),.v ie] 37,.own [.v nN,.v aM,.v aD,.v bj,.v bT,.v dz,.v j6] 42,.bV b,.own [.v vr,.v fv,.v dU,.v gi,.v fT,.v (.slice A k c),.v pz] 42,.row 138 2 OM T' T9 xs,.row 144 3 A k c (be.map h9.cells).flatten]) (λ(k,A,c,be) U=>ai.le U/\k<=n/\(∀x∈be,x.ok U)/\be.map (λx=>(x.base,x.size,x.st))=rf (λ(a:GE)(r:cL)=>(r.1,r.2,a.st)) (g.cp.take k) (bC.take k)) (λ(k,_)=>n-k) (0,none,0,[]) (λ_=>rfl) ⟨I.le_refl _,cO _,(by intro x ad;cases ad),rfl⟩ he rfl ?_;rintro⟨k,A,c,be⟩ e U ⟨le,hk,xS,qZ⟩;refine aK λgS dy gY=>?_;refine dy _ _ _ ?_;refine aK λgO dx eG=>?_;refine aW (λq=>?_) (λq=>?_);have br:k<g.cp.length:=by omega
 have Zt:k<bC.length:=by omega
 obtain⟨ez,aO⟩:=ok.cp.cc (by omega);obtain⟨eJ,cG⟩:=mE.cc (by omega);have aB:(g.cp.map GE.cells)[k]?=some (GE.cells g.cp[k]):=by rw[dV,bZ br];rfl
 have amO:(bC.map Go.Sx.cH)[k]?=some (Go.Sx.cH bC[k]):=by rw[dV,bZ Zt];rfl
 have mL:=(ok.cp.mono le).row aO aB;have uL:=(mE.mono le).row cG amO;have vn:=ok.Ao _ (cS br);have hS:g.cp.take (k+1)=g.cp.take k++[g.cp[k]]:=kh br;have afj:bC.take (k+1)=bC.take k++[bC[k]]:=kh Zt;have atB:be.length=k:=by have:=ho e7 qZ;simp at this;omega
 have gp:=u' _ (cS br);generalize g.cp[k]=a at mL vn hS gp;generalize bC[k]=r at uL afj;refine dx _ _ _ ?_;refine aK λgu df fK=>?_;refine fG λgk ed eH=>?_;refine aK λhA dY hL=>?_;refine .m ez aO ?_;refine .hp a.cells rfl (by rw[bq];exact mL) ?_;refine dY _ _ _ ?_;refine .m eJ cG ?_;refine .hp (Go.Sx.cH r) rfl (by rw[bq];exact uL) ?_;refine .mk _ (ado a.A a.n a.c a.st U (vn.dG.mono le) (by omega)) (λv h q=>q.1) ?_;rintro _ ab ⟨cn,dE,c2,rfl,dU,f2⟩;refine .cR 6 _ [R r.1,R r.2,.slice dE a.n c2] rfl rfl (by simp[Aa,R]) (by simp[c'];omega) (by omega) λlm eI Hz=>?_;refine eH _ _ _ _ nofun (df _ _ _ ?_);refine .aLS ?_;refine⟨(k+1,lm,eI,be++[⟨r.1,r.2,dE,a.n,c2,a.st⟩]),rfl,?_,⟨I.le_trans le cn,by omega,λx ad=>?_,?_⟩,by show n- (k+1)<n-k;omega⟩;show _=[_,_,_,_,_,_,LE.row 144 3 lm (k+1) eI ((be++[(⟨r.1,r.2,dE,a.n,c2,a.st⟩:h9)]).map h9.cells).flatten];rw[fm,zS];rfl;rcases ev.1 ad with ad|ad;exact(xS x ad).mono cn;rw[fx]at ad;subst ad;exact dU.jr;rw[hS,afj,fm,qZ,List.zipWith_append (by simp;omega)];rfl;refine eG _ _ _ _ nofun ?_;have oN:k=n:=by omega
 subst oN;rw[<-aC,pM,aC,<-sO,pM]at qZ;exact cD _ _ A c be rfl le xS qZ
def On(g:eY)(bC:List cL)(T:Int)(f:cX)(p:km):Prop:=p.mem=T/\p.bF=(jk f 0 0:Nat)/\p.ins=g.ins.length/\p.outs=g.outs.length/\p.parts.map (λx=>(x.tag,x.be))=g.bt.map (λa=>(a.tag,a.be))/\p.lines.map (λx=>(x.base,x.size,x.st))=rf (λ(a:GE)(r:cL)=>(r.1,r.2,a.st)) g.cp bC/\p.ops=ga (jV g) f 0 0++[⟨0,0,0⟩]
theorem Ym{l:List h8}{f:h8->List b6}(al:ax.map e7=(l.map f).map e7)(az:∀a,(f a).length<=16)(o:Nat):(ax.getD o []).length<=16:=by
 by_cases h:o<ax.length;have h1:ax[o].length∈ax.map e7:=dn.2 ⟨_,cS h,rfl⟩;rw[al]at h1;obtain⟨x,ad,ex⟩:=dn.1 h1;obtain⟨a,_,rfl⟩:=dn.1 ad;rw[cN,bZ h,BS,<-ex];exact az a;rw[cN,qs (by omega)];simp
theorem PJ{g:eY}{r:List b6}(am:r∈jV g):r.length<=33:=by
 obtain⟨o,_,rfl⟩:=dn.1 am;obtain⟨L',Ma⟩:=Po g.cp 0 (g.bt.map sH,g.bt.map sX);have h1:=Ym (ax:=Cg g) (l:=g.bt) (f:=sH) ((I' _ _ _ _).trans L') (λa=>by rw[sH,ih];exact(zz _ _).1) o;have ab:=Ym (ax:=Ch g) (l:=g.bt) (f:=sX) ((I' _ _ _ _).trans Ma) (λa=>by rw[sX,ih];exact(zz _ _).2) o;simp only[fb,gI,N'];omega
theorem atJ(g:eY)(h:I)(ok:g.ok h)(g0:mO g=0)(qw:Option ar)(k cH:Nat)(T:Int)(bC:List cL)(mE:bg h 2 qw k (bC.map Go.Sx.cH))(hk:bC.length=k)(qO:g.cp.length=k)(t0:0<=T)(gA:T<=1024)(az:∀i(ag:i<bC.length)(ae:i<g.cp.length),0<=bC[i].1/\bC[i].1+bC[i].2<=T/\(g.cp[i].n:Int)<=bC[i].2)(bX:bw)(Gl:Option ar)(m cap:Nat)(aj:hU h Gl m bX)(pj:qE bX.bn=0)(iD:ud g.bt.length bX.bn=false)(mn:zW g.bt.length bX.bn)(af:(ga (jV g) bX.bn 0 0).length<=900000)(aw:bX.bF<=90000)(AO:∀a∈g.bt,a.n<=1000):Fn aH 26 #[.agg g.cells.toArray,Jd qw k cH T,.slice Gl m cap] h λv U=>h.le U/\∃p:km,v= .tuple #[.agg p.cells.toArray,R 0]/\p.ok U/\On g bC T bX.bn p:=by
 have iB:=K0 g0;have a32:=iB.a32;have v':=iB.v';have i16:=iB.i16;have Dl:=iB.Dl;have O0:=Wn g h ok;rw[g0]at O0;have f71:=λU(le:h.le U)=>alc g U (ok.mono le) qw k cH T bC (mE.mono le) hk qO (by omega) t0 gA az;have f72:=λU(le:h.le U)=>akU g U (ok.mono le) iB _ rfl;obtain⟨n,aC⟩:∃n,g.bt.length=n:=⟨_,rfl⟩;obtain⟨sR,u2⟩:∃m,g.ins.length=m:=⟨_,rfl⟩;obtain⟨sS,u3⟩:∃m,g.outs.length=m:=⟨_,rfl⟩;have gc:g.cells=[.string g.dD,.slice g.hf n g.ac,.slice g.gv k g.cM,.slice g.eF sR g.cE,.slice g.ct sS g.bO]:=by rw[eY.cells,aC,qO,u2,u3]
 rw[gc]at O0 f71 f72⊢;rw[aC]at f72 iD mn;refine b5 Rr rfl ?_;refine aK λgS dy gY=>?_;refine dy _ _ _ ?_;refine aK λgO dx eG=>?_;refine .done (.mk _ O0 ?_);rintro _ h1 ⟨cr,rfl⟩;refine dx _ _ _ ?_;refine aK λgu df fK=>?_;refine .done (.mk _ (O' bX (by omega) Gl m cap h1 (aj.mono cr)) ?_);rintro _ ab ⟨cn,rfl⟩;rw[pj];have cn:=I.le_trans cr cn;refine df _ _ _ ?_;refine aK λgk ed eH=>?_;refine .done (.mk _ (ae3 n _ bX (ri _) (by omega) Gl m cap ab (aj.mono cn)) ?_);rintro _ ad ⟨rfl,ex⟩;rw[iD,ex];clear ex;refine ed _ _ _ ?_;refine aK λhA dY hL=>?_;refine .done (.mk _ (f71 ab cn) ?_);rintro _ aQ ⟨rfl,EF⟩;rw[EF];clear EF;refine dY _ _ _ ?_;refine aK λhc eT hi=>?_;refine .done (.mk _ (f72 ab cn) ?_);rintro _ an ⟨dZ,a1,D,rfl,TI,Cc,yJ⟩;have dZ:=I.le_trans cn dZ;have ny:JR an a1 n D:=⟨TI,Cc,λd aB=>by have:=PJ (yJ▸dn.2 ⟨d,aB,rfl⟩:d.2.2∈jV g);omega⟩;refine eT _ _ _ ?_;refine aK λkb fE i'=>?_;refine .mk λaT oK=>?_;have aV:nd an (an.put aT (.cells #[.slice none 0 0,R (0:Nat),R (0:Nat),.slice (some a1) n n] 215 (0,0))) aT none 0 0 0 (.slice (some a1) n n) []:=⟨I.du oK,oK,I.bP _ _ _,⟨rfl,.inl ⟨rfl,rfl,rfl⟩⟩,nofun⟩;refine .done (.mk _ (S' an a1 n D ny aT (by omega) _ bX (ri _) (by omega) mn Gl m cap _ none 0 0 0 [] (aj.mono dZ) aV (by rw[yJ];simp;omega) (by omega)) ?_);rintro _ aR ⟨agc,tq,jf⟩;rw[yJ,J3,N']at jf;obtain⟨E,cV⟩:∃E,E=ga (jV g) bX.bn 0 0:=⟨_,rfl⟩;rw[<-cV]at jf af;refine fE _ _ _ ?_;refine aK λkc gg j1=>?_;refine .done (.mk _ (SV jf (by omega) ⟨0,0,0⟩) ?_);rintro _ cg ⟨zE,xc,lF⟩;have fW:=I.le_trans dZ lF.le;refine gg _ _ _ ?_;refine aK λko g' ja=>?_;have jy:=lF.box;have l1:(E++[(⟨0,0,0⟩:b6)]).length=E.length+1:=by simp
 rw[l1]at jy;refine .hp _ (bN jy rfl) ?_;refine .hp _ (bN jy rfl) ?_;refine g' _ _ _ ?_;refine aK λlq gX kR=>?_;refine aK λsd lC sK=>?_;refine lC _ _ _ ?_;refine fG λqx lD pr=>?_;refine .lj (.abs 138 2 none 0 0 [] ⟨rfl,.inl ⟨rfl,rfl,rfl⟩⟩ (.done ?_));refine avs qx _ g cg n (ok.mono fW) aC (by omega) AO (.string g.dD) (.slice g.gv k g.cM) (.slice g.eF sR g.cE) (.slice g.ct sS g.bO) (.slice qw k cH) (R T) (R 0) (R 0) (R 0) (R 0) (.slice none 0 0) (.slice none 0 0) (.slice none 0 0) (R T) (R (jk bX.bn 0 0:Nat)) (R sR) (R sS) (.slice zE (E.length+1) xc) aT rfl ?_;intro e fa Bt Em be he hv xS qZ;refine lD _ _ _ (gX _ _ _ ?_);rw[<-fr [3,4,6,11] e,he];have RM:=I.le_trans fW hv;refine aK λut nJ xG=>?_;refine aK λBU rL Fm=>?_;refine rL _ _ _ ?_;refine fG λD7 AZ C'=>?_;refine .lj (.abs 144 3 none 0 0 [] ⟨rfl,.inl ⟨rfl,rfl,rfl⟩⟩ (.done ?_));refine atn D7 _ g fa k (ok.mono RM) qO (by omega) (λx ad=>by have:=(iB.Ao x ad).2.2;omega) bC qw cH (mE.mono RM) (.string g.dD) (.slice g.hf n g.ac) (.slice g.eF sR g.cE) (.slice g.ct sS g.bO) (R T) (R 0) (R 0) (R 0) (R 0) (.slice none 0 0) (.slice none 0 0) (.slice none 0 0) (R T) (R (jk bX.bn 0 0:Nat)) (R sR) (R sS) (.slice Bt n Em) (.slice zE (E.length+1) xc) aT Bt n Em _ rfl ?_;clear e he;intro e mi JL O1 ls he mv ats abr;refine AZ _ _ _ (nJ _ _ _ ?_);rw[<-fr [6,11] e,he];have wD:be.length=n:=by have:=ho e7 qZ;simp at this;omega
 have hY:ls.length=k:=by have:=ho e7 abr;simp at this;omega
 refine .bV 5 138 2 Bt n Em _ rfl λpd qU FZ f8=>.bV 6 144 3 JL k O1 _ rfl λYv Iz av0 f9=>.done ⟨I.le_trans RM (I.le_trans mv (I.le_trans qU Iz)),⟨T,(jk bX.bn 0 0:Nat),sR,sS,Bt,Em,be,JL,O1,ls,zE,xc,E++[⟨0,0,0⟩]⟩,?_,?_,?_⟩;show _=Value.tuple #[.agg #[R T,R (jk bX.bn 0 0:Nat),R sR,R sS,.slice Bt be.length Em,.slice JL ls.length O1,.slice zE (E++[(⟨0,0,0⟩:b6)]).length xc],R 0];rw[wD,hY,l1];rfl;refine⟨?_,λx ad=>((xS x ad).mono mv).mono (I.le_trans qU Iz),?_,λx ad=>(ats x ad).mono (I.le_trans qU Iz),?_⟩;show bg Yv 2 Bt be.length (be.map nc.cells);rw[wD];exact bz.dG (bz.mono FZ Iz) (λr am=>by obtain⟨x,_,rfl⟩:=dn.1 am;rfl) (by decide);show bg Yv 3 JL ls.length (ls.map h9.cells);rw[hY];exact bz.dG av0 (λr am=>by obtain⟨x,_,rfl⟩:=dn.1 am;rfl) (by decide);exact bz.dG (lF.row.mono (I.le_trans hv (I.le_trans mv (I.le_trans qU Iz)))) (λr am=>by obtain⟨x,_,rfl⟩:=dn.1 am;rfl) (by decide);exact⟨rfl,rfl,by rw[u2],by rw[u3],qZ,abr,by rw[cV]⟩
theorem DM(n m:Int)(h:I):Fn aH 140 #[R n,R m] h λv U=>v= .bool (decide (0<=n)&&decide (n<=m))/\U=h:=by
 refine b5 arj rfl ?_;refine aW (λq=>?_) (λq=>?_);exact .done ⟨by rw[fo q,wQ];rfl,rfl⟩;exact .done ⟨by rw[gU q,Bw];rfl,rfl⟩
theorem O8(n:Int)(h:I):Fn aH 183 #[R n] h λv U=>v=R (min n 131073)/\U=h:=by
 refine b5 arE rfl ?_;exact .done ⟨rfl,rfl⟩
theorem azy:Tryz.prog.underlying 66=some (.struct (Tryz.prog.fieldsOf 66)):=by kernel_rfl
theorem am0:Tryz.prog.stoodInHeld 66=false:=by kernel_rfl
theorem alM:Tryz.prog.eqGuardType Tryz.prog.depth 66=false:=by kernel_rfl
theorem alg:(Tryz.prog.fieldsOf 66).toList.map (λf=>(f.name,f.type,f.offset))=[("Kind",64,0),("A",3,1),("B",3,2)]:=by kernel_rfl
theorem afF:Tryz.prog.underlying 64=some (.int .u8):=by kernel_rfl
theorem afE:Tryz.prog.underlying 3=some (.int .i64):=by kernel_rfl
theorem ajR{w:World}:vC aH (.binOp .eql 66 (.tmp 18) (.tmp 19) 66) [.agg #[.int .u8 0,R 0,R 0],.agg #[.int .u8 0,R 0,R 0]] w (.bool true) w:=by
 intro kF q aq ah;simp[Op.operands]at ah;obtain⟨h1,ab⟩:=ah;have e:=run_equalIn_struct (P:=aH) w 9999 66 #[.int .u8 0,R 0,R 0] #[.int .u8 0,R 0,R 0] azy am0;have g:=run_eqGuard_agg (P:=aH) w .eql 66 (.tmp 18) (.tmp 19) #[.int .u8 0,R 0,R 0] #[.int .u8 0,R 0,R 0] alM;have ck:(Op.equalIn 9999 3 (R 0) (R 0)).run aH w= .ok true w:=Th (P:=aH) w 9998 3 .i64 .i64 0 0 afE;have f:=alg;generalize(Tryz.prog.fieldsOf 66).toList=l at e f;rcases l with _|⟨f0,_|⟨f1,_|⟨f2,_|⟨f3,l⟩⟩⟩⟩;cases f;injection f with _ f;cases f;injection f with _ f;injection f with _ f;cases f;simp only[eO,List.map_nil,yp,Oy,and_true]at f;obtain⟨⟨cP,a2,a3⟩,⟨bL,cy,gE⟩,c1,c2,eI⟩:=f;simp[execOp,aq,h1,ab,g,binOp,Op.equal,Op.maxDepth,e,Op.eqFields,cP,a2,a3,bL,cy,gE,c1,c2,eI,Go.part,isAgg,gj afF,gj afE,Th _ _ _ _ _ _ _ afF,ck];injection f with _ f;injection f with _ f;injection f with _ f;cases f
def Eb(p:km)(i:Nat)(x:b6):Prop:=(x=⟨0,0,0⟩/\i+1=p.ops.length)\/(x.k=1/\0<=x.a/\x.a<=p.bF-1/\1<=x.b/\x.b<=2048)\/(x.k=2/\0<=x.a/\x.a<=p.bF-1/\0<=x.b/\x.b<=(p.ops.length:Int)-1)\/(x.k=3/\0<=x.a/\x.a<=(p.lines.length:Int)-1/\1<=x.b/\x.b<=64)\/(x.k=6/\0<=x.a/\x.a<=(p.lines.length:Int)-1/\1<=x.b/\x.b<=64)\/(x.k=4/\0<=x.a/\x.a<=p.ins-1/\1<=x.b/\x.b<=64)\/(x.k=7/\0<=x.a/\x.a<=p.outs-1/\1<=x.b/\x.b<=64)\/(x.k=5/\0<=x.a/\x.a<=(p.parts.length:Int)-1/\x.b=0)
theorem axO(p:km)(h:I)(ok:p.ok h)(i:Nat)(ag:i<p.ops.length)(al:p.ops.length<=131072)(x:b6)(ad:p.ops[i]=x)(aw:0<=p.bF/\p.bF<=1000)(lX:0<=p.ins/\p.ins<=1000)(ZO:0<=p.outs/\p.outs<=1000)(AO:p.parts.length<=1000)(Zz:p.lines.length<=1000)(aj:Eb p i x):Fn aH 182 #[.agg p.cells.toArray,R i] h λv U=>v= .bool true/\U=h:=by
 refine b5 arD rfl ?_;obtain⟨k,a,b⟩:=x;obtain⟨g,ak⟩:=ok.ops.cc (by omega);have aB:(p.ops.map b6.cells)[i]?=some (b6.cells ⟨k,a,b⟩):=by rw[dV,bZ ag,ad];rfl
 have lN:=ok.ops.row ak aB;have cH:p.cells=[R p.mem,R p.bF,R p.ins,R p.outs,.slice p.im p.parts.length p.cH,.slice p.eA p.lines.length p.lc,.slice p.ct p.ops.length p.bO]:=rfl;rw[cH];unfold Eb at aj;refine aK λgS dy gY=>?_;refine dy _ _ _ ?_;refine aK λgO dx eG=>?_;refine .m g ak ?_;refine .hp [.int .u8 (k:Nat),R a,R b] rfl (by rw[bq];exact lN) ?_;refine dx _ _ _ ?_;refine aK λgu df fK=>?_;refine df _ _ _ ?_;refine aK λgk ed eH=>?_;simp only[b6.mk.injEq]at aj;rcases aj with⟨⟨rfl,rfl,rfl⟩,q⟩|⟨rfl,q⟩|⟨rfl,q⟩|⟨rfl,q⟩|⟨rfl,q⟩|⟨rfl,q⟩|⟨rfl,q⟩|⟨rfl,q⟩;refine .done (.mk (.bool true) (λw _=>ajR) ?_);refine .aLS ?_;refine eH _ _ _ _ nofun ?_;refine .done ⟨?_,rfl⟩;rw[fo (by omega)];rfl;all_goals
  try refine .aLS ?_
  try conv=>whnf
  refine ed _ _ _ ?_
  refine .aLS ?_
  refine .done (.mk _ (DM _ _ _) ?_)
  rintro _ _ ⟨rfl,rfl⟩
  rw[fo (by omega),fo (by omega)]
  refine aW (λ_=>?_) (λaD=>absurd aD (by omega))
  refine .done ⟨?_,rfl⟩
  rw[fo (by omega)];rfl
def w7(aDK times:Int):Int:=if aDK<=131072/times then 1+times*aDK else 131073
def aCp(ops:List b6)(i:Nat)(x:b6):List cL->Option (List cL)
 |[]=>none
 |top::iH=>
  if x.k=1 then(if(top::iH).dropLast.all (λf=>decide ((ops.getD f.1.toNat ⟨0,0,0⟩).a≠x.a))=true then some (((i:Int),0)::top::iH)else none)
  else if x.k=2 then match iH with
   |[]=>none
   |low::iH=>if(ops.getD top.1.toNat ⟨0,0,0⟩).a=x.a/\x.b=top.1+1 then some ((low.1,min (low.2+w7 (top.2+1) (ops.getD top.1.toNat ⟨0,0,0⟩).b) 131073)::iH)else none
  else if x.k=0/\iH≠[]then none
  else some ((top.1,min (top.2+1) 131073)::iH)
def mF(ops:List b6):List b6->Nat->List cL->Option (List cL)
 |[],_,a'=>some a'
 |x::l,i,a'=>(aCp ops i x a').bind (mF ops l (i+1))
structure q9(ai h:I)(A:Option ar)(n c:Nat)(a':List cL):Prop where
 le:ai.le h
 row:bz h 374 2 A n c (a'.reverse.map cH).flatten
 new:∀g,A=some g->ai g.block=none
 len:a'.length=n
 some_:A≠none
theorem SQ(l:List cL):(l.map cH).flatten.length=l.length*2:=I8 l
theorem q9.top{top:cL}{a':List cL}(x:q9 ai h A n c (top::a')):∃b ax,A=some ⟨b,0,none⟩/\n=a'.length+1/\h b=some (.cells ((a'.reverse.map cH).flatten++(cH top++ax)).toArray 374 (0,0))/\(a'.reverse.map cH).flatten.length=a'.length*2/\ai b=none/\n<=c/\c<=c':=by
 have al:=x.len;obtain⟨le,row,new,len,aO⟩:=x;cases A with
 |none=>exact absurd rfl aO
 |some g=>
  obtain⟨b,ax,rfl,h1,ab,an,aR,cg⟩:=row.split;refine⟨b,ax,rfl,by simpa using al.symm,?_,by rw[SQ,List.length_reverse],new _ rfl,an,aR⟩;rw[List.reverse_cons,fm,zS,mb]at h1;simpa using h1
end Go.Sx
