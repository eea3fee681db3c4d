/- A part of the proof that the statement holds. Conditions: none. -/
import Derived.Test.YtlbdbpaelcnfgaaGreatDoorAO
import Derived.Test.YtlbdbpaelcnfgaaGreatDoorAP
open ByteArray renaming ext->aAj
open Classical renaming not_not->jw
open Decidable renaming byContradiction->zM
open Go renaming Addr->ar,Operand->e3,Value->ao,World->bb,execOp->cY,getObj->Cp,maxLen->c',run_underlying->gj
open Go.Instr renaming checkKey->qp,findKey->BF,findNow->yk
open Go.Op renaming operands->D2
open Go.Proofs.Tryz renaming prog->aH,underlying331->aih,underlying9->Ef
open Go.Result renaming andThen_ok->hd
open Go.Sem renaming run->w3,run_bind->aDF,run_pure->jR
open Go.Value renaming bool->qB,oneCell'->Aa
open Int renaming toNat_natCast->bq
open List renaming append_assoc->mb,append_nil->zR,cons_append->wS,drop_drop->JW,drop_eq_getElem_cons->o6,drop_eq_nil_of_le->tg,ext_getElem->vH,flatten_append->zS,flatten_singleton->ahg,getD_eq_getElem?_getD->cN,getElem?_drop->GF,getElem?_eq_getElem->bZ,getElem?_map->dV,getElem_mem->cS,getElem_of_mem->rb,getElem_set->vI,length->e7,length_cons->gI,length_drop->k1,length_replicate->Ob,length_set->k2,map_append->fm,map_cons->eO,map_drop->GK,map_nil->zU,map_set->nb,map_take->GM,mem_append->ev,mem_cons->dC,mem_cons_of_mem->iv,mem_cons_self->iU,mem_map->dn,mem_of_mem_drop->Oc,mem_of_mem_take->Od,mem_singleton->fx,nodup_append->nS,nodup_cons->k3,replicate->bG,set_eq_of_length_le->UX,take_length->pM,take_of_length_le->k4
open List.Perm renaming swap->N1
open List.cons renaming injEq->yp
open Nat renaming le_add_right->ahG,le_refl->dd,le_trans->hT,lt_succ_self->ri,mul_le_mul->ns,mul_le_mul_right->pN,mul_one->ew,succ_mul->BQ,zero_add->dJ,zero_le->cO
open Ne renaming symm->d9
open Prod renaming fst->kn,snd->ek
namespace Go.Sx
open Go.Proofs
set_option maxRecDepth 100000
set_option maxHeartbeats 0
set_option linter.all false
variable {s:ByteArray}{a p:Int}{rs:List (Nat×List Bool)}{bp:List Nat}{b b9 bs bu c c6 cap cd gK i k m n size w:Nat}{J:Obj}{A D:Option ar}{M N:dj}
def bw.si:Nat->bw->bw
 |0,l=>l
 |_+1,.nil=>.nil
 |k+1,.cons _ _ _ _ _ _ r=>r.si k
variable {l:bw}
def bw.hS:Nat->bw->bw
 |0,_=>.nil
 |_+1,.nil=>.nil
 |k+1,.cons t n B m c b r=>.cons t n B m c b (r.hS k)
theorem KB:∀(k:Nat)(l:bw),(l.si k).bn.dK=l.bn.dK.drop k
 |0,l=>by rfl
 |k+1,.nil=>by rfl
 |k+1,.cons _ _ _ _ _ _ r=>by simp only[bw.si,bw.bn,cX.dK,List.drop_succ_cons,KB k r]
theorem TO:∀(k:Nat)(l:bw),(l.hS k).bn.dK=l.bn.dK.take k
 |0,l=>by rfl
 |k+1,.nil=>by rfl
 |k+1,.cons _ _ _ _ _ _ r=>by simp only[bw.hS,bw.bn,cX.dK,List.take_succ_cons,TO k r]
theorem Cj(l:bw):l.bn.dK.length=l.len:=by rw[W9,bw.X8]
theorem WP(k:Nat)(l:bw):(l.si k).len=l.len-k:=by rw[<-Cj,KB,k1,Cj]
theorem ayz(k:Nat)(l:bw):(l.hS k).len=min k l.len:=by rw[<-Cj,TO,List.length_take,Cj]
theorem OU{h:I}{g:ar}:∀(k:Nat)(l:bw)(i:Nat),pI h g i l->pI h g (i+k) (l.si k)
 |0,_,_,a=>a
 |_+1,.nil,_,_=>trivial
 |k+1,.cons _ _ _ _ _ _ r,i,⟨_,_,_,a⟩=>by rw[show i+(k+1)=i+1+k by omega];exact OU k r (i+1) a
theorem VN{h:I}{g:ar}:∀(k:Nat)(l:bw)(i:Nat),pI h g i l->pI h g i (l.hS k)
 |0,_,_,_=>trivial
 |_+1,.nil,_,_=>trivial
 |k+1,.cons _ _ _ _ _ _ r,i,⟨a,b,c,d⟩=>⟨a,b,c,VN k r (i+1) d⟩
theorem VL{h:I}{g:ar}(i:Nat):∀(l:bw)(o:Nat),pI h g (i+o) l->pI h (g.add (i*3)) o l
 |.nil,_,_=>trivial
 |.cons _ _ _ _ _ _ r,o,⟨a,b,c,d⟩=>⟨λq v ah=>by
  have:=a q v ah;rw[uE,uE,<-Nat.add_assoc,<-Nat.add_mul,<-uE];omega,b,c,VL i r (o+1) d⟩
theorem axo{h:I}{B:Option ar}(s:hU h A m l)(ag:i+w<=m)(bW:0<w->B=A.map (λa=>a.add (i*3))):hU h B w ((l.si i).hS w):=by
 obtain⟨h1,ab⟩:=s;refine⟨by rw[ayz,WP];omega,?_⟩;by_cases hw:w=0;subst hw;exact .inl rfl;rcases ab with ab|⟨g,ak,a6⟩
 grind [bw.len]
 refine .inr ⟨g.add (i*3),by grind,VN w _ 0 (VL i _ 0 ?_)⟩;have:=OU i l 0 a6
 grind
theorem ayB{h:I}(s:hU h A m l)(ag:i<=m):o9 h A m i (l.si i):=by
 obtain⟨h1,ab⟩:=s;refine⟨by rw[WP];omega,?_⟩;rcases ab with ab|⟨g,ak,a6⟩;subst ab;cases i<;>exact .inl rfl;have:=OU i l 0 a6
 grind
def jr(bp:List Nat):List Int:=bp.map λ(k:Nat)=>(k:Int)
theorem acK(a b:List Nat):jr (a++b)=jr a++jr b:=by simp[jr]
structure nV(N:dj)(bp:List Nat)(l:List fw):Prop where
 eq:bp.map N.aDu=l
 le:∀k∈bp,1<=k/\k<=N.a'.length
theorem nV.ext{l:List fw}(x:nV N bp l)(e:N.Ext M):nV M bp l:=⟨by rw[<-x.eq];exact List.map_congr_left λk hk=>e.B' k (x.le k hk).2,λk hk=>⟨(x.le k hk).1,hT (x.le k hk).2 e.uU⟩⟩
theorem nV.nil(N:dj):nV N [] []:=⟨rfl,λk hk=>by cases hk⟩
theorem nV.snoc{l:List fw}(x:nV N bp l)(h1:1<=k)(ab:k<=N.a'.length):nV N (bp++[k]) (l++[N.aDu k]):=
 ⟨by simp[x.eq],λo ae=>by
  rcases ev.1 ae with ae|ae;exact x.le o ae
  grind⟩
theorem h3.del{h U:I}(x:h3 h c6 cd b9 N)(y:h3 U c6 cd b9 M)(az:∀g,D=some g->h g.block=none):h3 (ei U D) c6 cd b9 M:=by
 have key:∀o J,h o≠none->U o=some J->ei U D o=some J:=λo J ae e=>by
  cases D with
  |none=>exact e
  |some g=>rw[ei,I.lP _ (λq=>ae (by grind))];exact e
 obtain⟨es,b',hm,s⟩:=y.f;obtain⟨aka,ii,rF,s6⟩:=y.l;obtain⟨_,_,az8,_⟩:=x.f;obtain⟨_,_,az9,_⟩:=x.l;exact⟨key _ _ (by simp[x.cell]) y.cell,⟨es,b',⟨key _ _ (by rw[az8.at_];simp) hm.at_,hm.keys⟩,s⟩,⟨aka,ii,⟨key _ _ (by rw[az9.at_];simp) rF.at_,rF.keys⟩,s6⟩,y.ne,y.ok⟩
theorem St{h:I}{g:Nat}(e:h g=none):h.off cd b9 g=none:=by
 unfold I.off;grind
theorem Ss{h U:I}(x:(h.off cd b9).le (U.off cd b9))(az:∀g,D=some g->h g.block=none):(h.off cd b9).le ((ei U D).off cd b9):=λo J e=>by
 have h1:=x o J e;unfold I.off at h1⊢;split at h1
 grind
 rename_i aq;rw[aE aq];cases D with
 |none=>exact h1
 |some g=>
  rw[ei,I.lP _ (λq=>?_)];omega;subst q;rw[St (az g rfl)]at e;cases e
theorem auh{h:I}(aC:h3 h c6 cd b9 N)(aj:hU (h.off cd b9) A m l)(aw:l.bF<=200000)(ht:N.gp+2*l.bF<=4000000000):Fn aH 67 #[hj c6,.slice A m cap] h λv U=>∃(M:dj)(bp:List Nat)(D:Option ar)(c:Nat),v= .agg #[.slice A m cap,.slice D m c]/\N.Ext M/\h3 U c6 cd b9 M/\nV M bp l.bn.dK/\bz U 3 1 D m c ((jr bp).map R)/\(∀g,D=some g->h g.block=none)/\(h.off cd b9).le (U.off cd b9)/\M.gp<=N.gp+2*l.bF:=by
 have hm:m<=200000:=by have:=aj.1;have:=l.vk;omega
 refine b5 asw rfl ?_;refine .kU [0,1] (Nat×Option ar×Nat×dj×List Nat×bw) [0,4,5,10,11,12] (λ(i,_,_,_,_,_)=>[.v (hj c6),.p 0 0,.p 1 0,.v (.slice A m cap),.v (R m),.v (R i)]) (λ(i,D,c,_,_,_)=>[.own [.v (.slice none 0 0),.v (.slice none 0 0)] 203,.own [.v (.slice A m cap),.v (.slice D i c)] 203]) (λ(i,D,c,M,bp,r) U=>h3 U c6 cd b9 M/\N.Ext M/\o9 (h.off cd b9) A m i r/\(∃J,nV M bp J/\J++r.bn.dK=l.bn.dK)/\bz U 3 1 D i c ((jr bp).map R)/\(∀g,D=some g->h g.block=none)/\(h.off cd b9).le (U.off cd b9)/\M.gp+2*r.bF<=N.gp+2*l.bF/\r.bF<=l.bF) (λ(i,_,_,_,_,_)=>m-i) (0,none,0,N,[],l) (λ_=>rfl) ⟨aC,dj.Ext.refl N,aj.cB,⟨[],nV.nil N,rfl⟩,⟨rfl,.inl ⟨rfl,rfl,rfl⟩⟩,(λ_ e=>by cases e),I.le_refl _,dd _,dd _⟩ rfl rfl rfl ?_;rintro⟨i,D,c,M,bp,r⟩ e U ⟨kP,cV,av,⟨J,wt,he⟩,jM,az,CN,aY,ik⟩;refine .abs 3 1 D i c _ jM (.done ?_);have kP:=aC.del kP az;have CN:=Ss CN az;refine aW (λab=>?_) (λab=>?_);cases r with
 |nil=>have:=av.fin;omega
 |cons hy hE dS bc bu eP r=>
  obtain⟨g,aO,ag,sn,af,am⟩:=av.open;simp only[bw.bF]at ik aY;simp only[bw.bn,cX.dK]at he;refine .m g aO ?_;refine .hp (iF hy hE dS bc bu) rfl (by rw[bq];exactλo v ah=>I.kL (I.le_trans CN (I.xQ _ cd b9)) (sn o v ah)) ?_;refine .mk _ (abT _ eP (ri _) (by omega) hy hE dS bc bu _ c6 cd b9 M kP (af.mono CN) (by omega)) ?_;rintro _ an ⟨Om,gi,rfl,DU,HE,P',P0,P1,aou,LA⟩;refine .cR 2 _ [R gi] rfl rfl (Mt [(gi:Int)]) (by grind [c']) (by omega) λnr c2 P8=>?_;refine .aLS ?_;refine .bV 2 3 1 nr (i+1) c2 _ rfl λaR gm hg Zd=>.done ⟨(i+1,nr,c2,Om,bp++[gi],r),rfl,rfl,⟨HE.mono gm,cV.trans DU,am,⟨J++[Om.aDu gi],(wt.ext DU).snoc P0 P1,?_⟩,?_,λuV nh=>?_,?_,by omega,by omega⟩,by grind⟩
  grind
  rw[acK,fm];exact hg;have bT:=Zd uV nh;by_cases aJ:uV.block=cd;obtain⟨_,_,QJ,_⟩:=HE.f;rw[aJ,QJ.at_]at bT;cases bT;by_cases aI:uV.block=b9;obtain⟨_,_,QJ,_⟩:=HE.l;rw[aI,QJ.at_]at bT;cases bT;have dz:an.off cd b9 uV.block=none:=St bT;rw[LA]at dz;have:=vi CN dz;rwa[I.FL aJ aI]at this;refine I.le_trans CN ?_;rw[<-LA];exact I.IY gm
 cases r with
 |nil=>
  have:=av.fin;subst this;simp only[bw.bn,cX.dK,zR]at he;simp only[bw.bF]at aY;refine .bV 2 3 1 D i c _ rfl λaR gm hg Zd=>.done ⟨M,bp,D,c,rfl,cV,kP.mono gm,by grind,hg,az,I.le_trans CN (I.IY gm),by omega⟩
 |cons=>obtain⟨g,aO,ag,_⟩:=av.open;omega
theorem Pn{α:Type}{l:List α}{a:Nat}(h:a+k<l.length):(l.drop a).take (k+1)=(l.drop a).take k++[l[a+k]]:=by
 rw[kh (by grind),List.getElem_drop]
theorem axl{h:I}(am:h gK=some (.cells [.slice A m c,.slice D m bu].toArray 203 (0,0)))(av:bg h 1 D m ((jr bp).map λz=>[R z]))(hm:m<=1000000000){a:Nat}(a6:a+w<=m)(af:b+w<=m):Fn aH 127 #[hj gK,R a,R b,R w] h λv U=>v= .bool (decide ((bp.drop a).take w=(bp.drop b).take w))/\U=h:=by
 have al:bp.length=m:=by have:=av.len;grind [jr]
 have oM:∀k(hk:k<m),((jr bp).map λz=>[R z])[k]?=some [R (bp[k]'(by omega):Int)]:=λk hk=>by simp[jr,al,hk]
 refine b5 aq' rfl ?_;refine .mk Nat [0,1,2,10,11] (λk=>[.v (hj gK),.v (R a),.v (R b),.v (R w),.v (R k)]) (λ_=>[]) (λk U=>U=h/\k<=w/\(bp.drop a).take k=(bp.drop b).take k) (λk=>w-k) 0 (λ_=>rfl) ⟨rfl,cO _,rfl⟩ rfl rfl ?_;rintro k e U ⟨rfl,hk,mR⟩;refine aW (λab=>?_) (λab=>?_);obtain⟨g,ak⟩:=av.cc (by omega);have aJ:=Pn (l:=bp) (a:=a) (k:=k) (by omega);have aI:=Pn (l:=bp) (a:=b) (k:=k) (by omega);refine .hp (.slice D m bu) (ps am rfl) ?_;refine .aLS ?_;refine .m g ak ?_;refine .hp (R (bp[a+k]'(by omega):Int)) (by rw[show((a:Int)+k).toNat=a+k by omega];exact av.one ak (oM (a+k) (by omega)) rfl) ?_;refine .hp (.slice D m bu) (ps am rfl) ?_;refine .aLS ?_;refine .m g ak ?_;refine .hp (R (bp[b+k]'(by omega):Int)) (by rw[show((b:Int)+k).toNat=b+k by omega];exact av.one ak (oM (b+k) (by omega)) rfl) ?_;refine aW (λan=>?_) (λan=>?_);refine .done ⟨?_,rfl⟩;rw[gU];rfl;intro q;apply an;have aD:=ho (λl=>l.take (k+1)) q;simp only[List.take_take,show min (k+1) w=k+1 by omega]at aD;simp_all;refine .aLS ?_;refine⟨k+1,rfl,rfl,⟨rfl,by omega,?_⟩,by omega⟩
 grind
 obtain rfl:k=w:=by omega
 refine .done ⟨?_,rfl⟩;rw[fo mR];rfl
theorem ab3{α β:Type}{f:α->β}:∀{l r:List α},(∀x∈l,∀y∈r,f x=f y->x=y)->l.map f=r.map f->l=r
 |[],[],_,_=>rfl
 |[],_::_,_,h=>by cases h
 |_::_,[],_,h=>by cases h
 |x::l,y::r,az,h=>by
  simp only[eO,yp]at h;rw[az x (iU ..) y (iU ..) h.1,ab3 (λa a6 b af=>az a (iv _ a6) b (iv _ af)) h.2]
theorem nV.alL(J:N.Ok){es:List fw}(x:nV N bp es)(a b w:Nat):((bp.drop a).take w=(bp.drop b).take w)↔((es.drop a).take w=(es.drop b).take w):=by
 rw[<-x.eq,<-GK,<-GK,<-GM,<-GM];refine⟨λh=>by rw[h],λh=>ab3 (λp hp q aq=>?_) h⟩;have h1:=x.le p (Oc (Od hp));have ab:=x.le q (Oc (Od aq));exact J.tA p q h1.1 ab.1 h1.2 ab.2
theorem alv(h:I):Fn aH 66 #[] h λv U=>∃c6 cd b9,v=hj c6/\h3 U c6 cd b9 dj.fresh/\h.le U/\h c6=none/\h cd=none/\h b9=none/\h.le (U.off cd b9):=by
 refine b5 asv rfl ?_;refine .mk λbL eS=>?_;refine .mk λcy fC=>?_;refine .mk λgE pg=>?_;have bH:bL≠cy:=λe=>by rw[<-e,I.bP]at fC;cases fC
 obtain⟨hZ,YW⟩:gE≠cy/\h gE=none/\gE≠bL:=by
  by_cases e:gE=cy;rw[e,I.bP]at pg;cases pg;rw[I.cf _ _ e]at pg;by_cases bl:gE=bL;rw[bl,I.bP]at pg;cases pg;rw[I.cf _ _ bl]at pg;grind
 have YV:h cy=none:=by rwa[I.cf _ _ (d9 bH)]at fC
 have dc:h.le (h.put bL (.map #[] 0)):=I.du eS;have c9:=I.le_trans dc (I.du (J:=.map #[] 0) fC);have ha:=I.le_trans c9 (I.du (J:=.cells [.map (some bL),.map (some cy)].toArray 284 (0,0)) pg);refine .done ⟨gE,bL,cy,rfl,⟨I.bP _ _ _,⟨[],0,⟨?_,λx ad=>by cases ad⟩,⟨rfl,λi e x he=>by grind⟩⟩,⟨[],0,⟨?_,λx ad=>by cases ad⟩,⟨rfl,λi e x he=>by grind⟩⟩,bH,dj.alw⟩,ha,YW.1,eS,YV,λo J e=>?_⟩;rw[I.cf _ _ (d9 YW.2),I.cf _ _ bH,I.bP];rfl;rw[I.cf _ _ (d9 hZ),I.bP];rfl;rw[I.FL (λq=>by grind) (λq=>by grind)];exact ha o J e
structure vE(H:I)(gK:Nat)(A D:Option ar)(m c bu:Nat)(l:bw)(bp:List Nat):Prop where
 cell:H gK=some (.cells [.slice A m c,.slice D m bu].toArray 203 (0,0))
 sat:hU H A m l
 dG:bg H 1 D m ((jr bp).map λz=>[R z])
 cx:m<=c
 Kn:m<=bu
 le:m<=200000
theorem vE.mono{H lH:I}{gK:Nat}{A D:Option ar}{m c bu:Nat}{l:bw}{bp:List Nat}(x:vE H gK A D m c bu l bp)(y:H.le lH):vE lH gK A D m c bu l bp:=⟨y _ _ x.cell,x.sat.mono y,x.dG.mono y,x.cx,x.Kn,x.le⟩
theorem vE.len{H:I}{gK:Nat}{A D:Option ar}{m c bu:Nat}{l:bw}{bp:List Nat}(x:vE H gK A D m c bu l bp):bp.length=m/\l.bn.dK.length=m:=by
 refine⟨?_,?_⟩;have:=x.dG.len;grind [jr];rw[Cj];exact x.sat.1.symm
theorem vE.num{H:I}(x:vE H gK A D m c bu l bp)(ag:i<m):((jr bp).map λz=>[R z])[i]?=some [R ((bp[i]'(by grind [x.len.1]):Nat):Int)]:=by
 have:=x.len.1;simp[jr,this,ag]
noncomputable def LU:IR:=(IR.seq (IR.seq (IR.ch aqt) (IR.cond (dB.t 41) (IR.seq (IR.xP aqu) (IR.seq (IR.xP aqm) (IR.seq (IR.ch aqn) (IR.exit 1)))) IR.skip)) (IR.seq (IR.ch aqo) (IR.seq (IR.seq (IR.ch aqp) (IR.block 4 (IR.loop aql))) (IR.seq (IR.xP aqq) (IR.seq (IR.xP aqr) (IR.ch aqs))))))
abbrev wR(gK:Nat)(E:Option ar)(o cM:Nat)(G:Option ar)(gc:Nat)(s4 rg:List ao):List LE:=[.bV gK,.own [.v (.slice none 0 0),.v (.slice none 0 0)] 203,.own [.v (.slice E o cM),.v (.slice G o gc)] 203,.row 199 3 E o cM s4,.row 3 1 G o gc rg]
theorem ax3(gT:IR)(Q:dL)(e:bY){H:I}(x:vE H gK A D m c bu l bp)(ok:N.Ok)(wt:nV N bp l.bn.dK)(hw:1<=w)(C1:w<=16)(ag:i<m)(E:Option ar)(o cM:Nat)(G:Option ar)(gc:Nat)(s4 rg:List ao)(he:[0,2,4,6,7,8].map e=[.v (hj c6),.v (R w),.p 0 0,.p 1 0,.p 2 0,.v (R i)])(cD:∀e k,r' w (l.bn.dK.drop i) k->k<=m->[0,2,4,6,7,8,9].map e=[.v (hj c6),.v (R w),.p 0 0,.p 1 0,.p 2 0,.v (R i),.v (R k)]->c7 aH 111 gT Q e (wR gK E o cM G gc s4 rg) H):c7 aH 111 (.seq (.ch Rn) (.seq (.block 2 (.loop Rm)) gT)) Q e (wR gK E o cM G gc s4 rg) H:=by
 have ec:=fr [0,2,4,6,7,8] e;rw[he]at ec;rw[<-ec];have y2:=x.le;obtain⟨CL,n9⟩:=x.len;refine .mk Nat [0,2,4,6,7,8,9] (λk=>[.v (hj c6),.v (R w),.p 0 0,.p 1 0,.p 2 0,.v (R i),.v (R k)]) (λ_=>wR gK E o cM G gc s4 rg) (λk U=>U=H/\1<=k/\k<=m/\∀q,1<=q->q<k->zO w (l.bn.dK.drop i) q) (λk=>m-k) 1 (λ_=>rfl) ⟨rfl,dd _,by omega,λq h1 ab=>by omega⟩ rfl rfl ?_;rintro k e U ⟨rfl,HY,p2,ak⟩;have eS:(k+1)*w<=200001*16:=ns (by omega) C1;have fC:k*w<=200001*16:=ns (by omega) C1;have aJ:((k:Int)+1)*w=(((k+1)*w:Nat):Int):=by rfl
 have aI:(k:Int)*w=((k*w:Nat):Int):=by rfl
 have tJ:k<=k*w:=Nat.le_mul_of_pos_right k hw;have xv:(k+1)*w=k*w+w:=BQ k w;refine .aLS ?_;refine .aLS ?_;refine .aLS ?_;refine .hp (.slice A m c) (ps x.cell rfl) ?_;refine aW (λu=>?_) (λu=>?_);have rI:i+(k+1)*w<=m:=by omega
 have aj:=axl (w:=w) x.cell x.dG (by omega) (a:=i) (b:=i+k*w) (by omega) (by omega);have Zl:zO w (l.bn.dK.drop i) k↔(bp.drop i).take w=(bp.drop (i+k*w)).take w:=by
  rw[wt.alL ok];unfold zO;rw[k1,JW]
  grind
 refine .aLS ?_;refine .aLS ?_;rw[aI,<-Int.natCast_add];refine .done (.mk _ aj ?_);rintro _ _ ⟨rfl,rfl⟩;refine aW (λv=>?_) (λv=>?_);refine .aLS ?_;refine⟨k+1,rfl,rfl,⟨rfl,by omega,by omega,λq h1 ab=>?_⟩,by omega⟩
 grind
 exact cD _ k ⟨HY,ak,λh=>v (Zl.1 h)⟩ p2 rfl;refine cD _ k ⟨HY,ak,λh=>?_⟩ p2 rfl;have:=h.1
 grind
theorem stepT(Q:dL)(e:bY){H:I}{Gz:I}(x:vE Gz gK A D m c bu l bp)(hH:Gz.le (H.off cd b9))(kP:h3 H c6 cd b9 M)(wt:nV M bp l.bn.dK)(hw:1<=w)(C1:w<=16)(ag:i<m)(hk:r' w (l.bn.dK.drop i) k)(p2:k<=m)(ht:M.gp+20<=4000000000)(E:Option ar)(o cM:Nat)(G:Option ar)(gc:Nat)(s4 rg:List ao)(ae:o<=200000)(he:[0,2,4,6,7,8,9].map e=[.v (hj c6),.v (R w),.p 0 0,.p 1 0,.p 2 0,.v (R i),.v (R k)])
 (Qe:k=1->∀bl gC mg o4 pY X t n B bc c8 b r,l.si i= .cons t n B bc c8 b r->hU Gz B bc b->[0,2,4,6,7,8].map bl=[.v (hj c6),.v (R w),.p 0 0,.p 1 0,.p 2 0,.v (R ((i+1:Nat):Int))]->
  Q (.exit 1) bl (wR gK gC (o+1) mg o4 pY (s4++iF t n B bc c8) (rg++[R ((bp[i]'(by grind [x.len.1]):Nat):Int)])++X) H)
 (Qf:2<=k->∀bl gC mg o4 pY X B c8 mI r lH,hU Gz B w ((l.si i).hS w)->M.Ext mI->h3 lH c6 cd b9 mI->lH.off cd b9=H.off cd b9->mI.aDu r=((k:Int),0,fp ((l.bn.dK.drop i).take w))->1<=r->r<=mI.a'.length->mI.gp<=M.gp+w+1->
  [0,2,4,6,7,8].map bl=[.v (hj c6),.v (R w),.p 0 0,.p 1 0,.p 2 0,.v (R ((i+k*w:Nat):Int))]->
  Q .normal bl (wR gK gC (o+1) mg o4 pY (s4++iF k 0 B w c8) (rg++[R (r:Int)])++X) lH):
 c7 aH 111 LU Q e (wR gK E o cM G gc s4 rg) H:=by
 have ec:=fr [0,2,4,6,7,8,9] e
 rw[he]at ec
 rw[<-ec]
 have y2:=x.le
 obtain⟨CL,n9⟩:=x.len
 have x8:=x.mono (I.le_trans hH (I.xQ _ _ _))
 obtain⟨g,ak⟩:=x8.dG.cc (by omega)
 have av:=ayB x.sat (Nat.le_of_lt ag)
 refine aW (λu=>?_) (λu=>?_)
 have HY:k=1:=by omega
 cases am:l.si i with
 |nil=>
  rw[am]at av;have:=av.fin;omega
 |cons t n B bc c8 b r=>
  rw[am]at av;obtain⟨ez,aO,_,sn,af,_⟩:=av.open;have sn:∀q v,(iF t n B bc c8)[q]?=some v->H.cell? ((ez.add (i*3)).add q)=some v:=λq v ah=>I.kL (I.le_trans hH (I.xQ _ _ _)) (sn q v ah);refine .hp (.slice A m c) (ps x8.cell rfl) ?_;refine .m ez aO ?_;refine .hp (iF t n B bc c8) rfl (by rw[bq];exact sn) ?_;refine .cR 3 _ (iF t n B bc c8) rfl rfl (Iy _ _ _ _ _) (by grind [c']) (by omega) λgC mg HC=>?_;refine .hp (.slice D m bu) (ps x8.cell rfl) ?_;refine .m g ak ?_;refine .hp (R ((bp[i]'(by omega):Nat):Int)) (by rw[bq];exact x8.dG.one ak (x.num ag) rfl) ?_;refine .cR 4 _ [R ((bp[i]'(by omega):Nat):Int)] rfl rfl (Mt [((bp[i]'(by omega):Nat):Int)]) (by grind [c']) (by omega) λo4 pY qK=>?_;refine .aLS ?_;exact Qe HY _ gC mg o4 pY _ t n B bc c8 b r am af rfl
 have i9:2<=k:=by have:=hk.pos;omega
 have rI:=hk.room i9
 rw[k1]at rI
 have ant:1*w<=k*w:=pN w (by omega)
 have fC:k*w<=200001*16:=ns (by omega) C1
 have aAK:(k:Int)*w=((k*w:Nat):Int):=by rfl
 have Y4:=x.Kn
 have Y1:=x.cx
 refine .hp (.slice D m bu) (ps x8.cell rfl) ?_
 refine .aLS ?_
 refine .mk i (i+w) rfl (by rfl) (ahG _ _) (by omega) λB aDQ pe=>?_
 have TH:bg H 1 B w ((((jr bp).map λz=>[R z]).drop i).take w):=(x8.dG.drop (k:=i) (B:=B) (λq=>aDQ (by omega)) (by omega)).take (by omega)
 have alY:∀q(aq:q<w),((((jr bp).map λz=>[R z]).drop i).take w)[q]?=some [R ((bp[i+q]'(by omega):Nat):Int)]:=λq aq=>by
  rw[List.getElem?_take,aX aq,GF];exact x.num (by omega)
 obtain⟨W,lT⟩:∃W,W=i+w-i:=⟨_,rfl⟩
 have amg:W=w:=by omega
 rw[<-lT]
 refine .mk (Nat×Nat×dj) [0,2,4,6,7,8,9,10,70,71,72] (λ(q,b,_)=>[.v (hj c6),.v (R w),.p 0 0,.p 1 0,.p 2 0,.v (R i),.v (R k),.v (R b),.v (.slice B W (bu-i)),.v (R W),.v (R q)]) (λ_=>wR gK E o cM G gc s4 rg) (λ(q,b,mI) lH=>h3 lH c6 cd b9 mI/\lH.off cd b9=H.off cd b9/\M.Ext mI/\b<=mI.ls.length/\q<=w/\mI.kI b=(l.bn.dK.drop i).take q/\mI.gp<=M.gp+q) (λ(q,_,_)=>W-q) (0,0,M) (λ(_,_,_)=>rfl) ⟨kP,rfl,dj.Ext.refl M,cO _,cO _,by simp[kP.ok.rN],dd _⟩ rfl rfl ?_
 rintro⟨q,b,mI⟩ e lH ⟨YB,QO,cV,af,aq,aF,aY⟩
 have Cw:Gz.le lH:=I.le_trans (by grind) (I.xQ lH cd b9)
 have af7:=x.mono Cw
 refine aW (λv=>?_) (λv=>?_)
 have LD:q<w:=by omega
 obtain⟨alC,Zg⟩:=TH.cc (by omega)
 have aym:bg lH 1 B w ((((jr bp).map λz=>[R z]).drop i).take w):=(af7.dG.drop (k:=i) (B:=B) (λq=>aDQ (by omega)) (by omega)).take (by omega)
 have lX:=(wt.ext cV).le (bp[i+q]'(by omega)) (cS _)
 refine .m alC Zg ?_
 refine .hp (R ((bp[i+q]'(by omega):Nat):Int)) (by rw[bq];exact aym.one Zg (alY q LD) rfl) ?_
 refine .done (.mk _ (abP YB (a:=b) (b:=bp[i+q]'(by omega)) af lX.1 lX.2 (by omega)) ?_)
 rintro _ aR ⟨BL,fT,rfl,zN,Cz,Qb,Cu,Ra,CM⟩
 refine .aLS ?_
 refine⟨(q+1,fT,BL),rfl,rfl,⟨Cz,by grind,cV.trans zN,Cu,LD,?_,by omega⟩,by grind⟩
 rw[Qb,aF,Pn (by omega)]
 congr 2
 have KE:=(wt.ext cV).eq
 grind
 have LD:q=w:=by omega
 subst LD
 have aY:=aY
 refine .hp (.slice A m c) (ps af7.cell rfl) ?_
 refine .aLS ?_
 refine .mk i (i+q) rfl (by rfl) (ahG _ _) (by omega) λhz alW aAS=>?_
 rw[<-lT,amg]
 refine .cR 3 _ (iF k 0 hz q (c-i)) rfl rfl (Iy _ _ _ _ _) (by grind [c']) (by omega) λgC mg HC=>?_
 refine .mk _ (XF YB (t:=(k:Int)) (n:=0) (b:=b) af (by omega)) ?_
 rintro _ aR ⟨BL,fT,rfl,zN,Cz,Qa,P2,Cu,Ra,CM⟩
 refine .cR 4 _ [R (fT:Int)] rfl rfl (Mt [(fT:Int)]) (by grind [c']) (by omega) λo4 pY qK=>?_
 refine .aLS ?_
 refine .aLS ?_
 exact Qf i9 _ gC mg o4 pY _ hz (c-i) BL fT aR (axo x.sat (by omega) λ_=>alW (by omega)) (cV.trans zN) Cz (by grind) (by grind) P2 Cu (by omega) rfl
theorem ax1(gT:IR)(Q:dL)(e:bY){H:I}(x:vE H gK A D m c bu l bp)(E:Option ar)(o cM:Nat)(G:Option ar)(gc:Nat)(s4 rg:List ao)(he:[0,2,4,6,7,8].map e=[.v (hj c6),.v (R w),.p 0 0,.p 1 0,.p 2 0,.v (R i)])(h1:i<m->∀e,[0,2,4,6,7,8].map e=[.v (hj c6),.v (R w),.p 0 0,.p 1 0,.p 2 0,.v (R i)]->c7 aH 111 gT Q e (wR gK E o cM G gc s4 rg) H)(ab:m<=i->∀e,[0,2,4,6,7,8].map e=[.v (hj c6),.v (R w),.p 0 0,.p 1 0,.p 2 0,.v (R i)]->Q (.exit 0) e (wR gK E o cM G gc s4 rg) H):c7 aH 111 (.seq (.seq (.ch aaK) (.cond (.t 17) .skip (.exit 0))) gT) Q e (wR gK E o cM G gc s4 rg) H:=by
 have ec:=fr [0,2,4,6,7,8] e;rw[he]at ec;rw[<-ec];refine .hp (.slice A m c) (ps x.cell rfl) ?_;refine aW (λu=>?_) (λu=>?_);exact h1 (by omega) _ rfl;exact ab (by omega) _ rfl
theorem bz.off{h:I}{cd b9 bs size n cap:Nat}{A:Option ar}{xs:List ao}(x:bz h bs size A n cap xs)(az:∀g,A=some g->g.block≠cd/\g.block≠b9):bz (h.off cd b9) bs size A n cap xs:=by
 obtain⟨h1,ab⟩:=x;refine⟨h1,ab.imp id λ⟨g,a8,aJ,aI,ck⟩=>⟨g,a8,aJ,?_,ck⟩⟩;obtain⟨aM,aD⟩:=az _ aJ;rw[I.FL aM aD];exact aI
theorem bg.Mw{h:I}{rows:List (List ao)}(x:bg h size A n rows)(az:∀g,A=some g->g.block≠cd/\g.block≠b9):bg (h.off cd b9) size A n rows:=x.at_ λg e=>by obtain⟨aM,aD⟩:=az g e;rw[I.FL aM aD]
theorem h3.LN{h:I}(x:h3 h c6 cd b9 N):h c6≠none/\h cd≠none/\h b9≠none:=by
 obtain⟨_,_,az,_⟩:=x.f;obtain⟨_,_,al,_⟩:=x.l;exact⟨by simp[x.cell],by rw[az.at_];simp,by rw[al.at_];simp⟩
theorem h3.cR{h1 H:I}(x:h3 H c6 cd b9 M)(y:(h1.off cd b9).le (H.off cd b9)){g:Nat}(e:H g=none):h1 g=none:=by
 obtain⟨_,aM,aD⟩:=x.LN;have dF:g≠cd:=λq=>aM (by grind);have dR:g≠b9:=λq=>aD (by grind);have:=vi y (St e);rwa[I.FL dF dR]at this
theorem bw.axI(t n:Int)(B:Option ar)(m c:Nat)(b p:bw):(p.snoc t n B m c b).bn.dK=p.bn.dK++[(t,n,b.bn)]:=by
 have:=bw.M8 t n B m c b .nil p;rw[cX.Kh]at this;rw[this,W8];rfl
theorem bw.aeR{K:tc}{h:I}(t n:Int)(B:Option ar)(m c:Nat)(b:bw)(af:K h B m c b):∀{p:bw},r7 K h p->r7 K h (p.snoc t n B m c b)
 |.nil,_=>⟨af,trivial⟩
 |.cons _ _ _ _ _ _ _,⟨x,y⟩=>⟨x,bw.aeR t n B m c b af y⟩
structure UD(h h1:I)(c6 cd b9:Nat)(N:dj)(es:List fw)(m w:Nat)(U:I)(i:Nat)(E:Option ar)(cM:Nat)(G:Option ar)(gc o:Nat)(p:bw)(bp:List Nat)(M:dj):Prop where
 dD:h3 U c6 cd b9 M
 ext:N.Ext M
 aaa:i<=m
 out:p.bn.dK++io w (es.drop i)=io w es
 len:p.len=o
 aa6:o<=i
 awO:bz U 199 3 E o cM p.cl.flatten
 awP:bz U 3 1 G o gc ((jr bp).map R)
 num:nV M bp p.bn.dK
 El:r7 qA (h1.off cd b9) p
 qG:∀g,E=some g->h1 g.block=none
 PD:∀g,G=some g->h1 g.block=none
 yI:∀g b7,E=some g->G=some b7->g.block≠b7.block
 off:(h1.off cd b9).le (U.off cd b9)
 gp:M.gp<=N.gp+i
theorem MS{h:I}{xs:List ao}(x:bz h bs size A n cap xs):n<=cap:=by
 rcases x.2 with⟨_,q,_⟩|⟨_,_,_,_,q,_⟩<;>omega
structure agR(h:I)(c6 cd b9:Nat)(N:dj)(J:List fw)(B:Nat)(U:I)(M:dj)(E:Option ar)(o cM:Nat)(G:Option ar)(gc:Nat)(p:bw)(bp:List Nat):Prop where
 dD:h3 U c6 cd b9 M
 ext:N.Ext M
 dK:p.bn.dK=J
 sat:hU (U.off cd b9) E o p
 ce:o<=cM
 dG:bg (U.off cd b9) 1 G o ((jr bp).map λz=>[R z])
 Wm:o<=gc
 num:nV M bp J
 off:(h.off cd b9).le (U.off cd b9)
 gp:M.gp<=N.gp+B
theorem alj{h:I}(aC:h3 h c6 cd b9 N)(aj:hU (h.off cd b9) A m l)(Y1:m<=c)(av:bg (h.off cd b9) 1 D m ((jr bp).map λz=>[R z]))(Y4:m<=bu)(wt:nV N bp l.bn.dK)(aw:l.bF<=200000)(hw:1<=w)(C1:w<=16)(ht:N.gp+m+20<=4000000000):Fn aH 68 #[hj c6,.agg #[.slice A m c,.slice D m bu],R w] h λv U=>∃M E o cM G gc p pv,v= .agg #[.slice E o cM,.slice G o gc]/\agR h c6 cd b9 N (io w l.bn.dK) m U M E o cM G gc p pv:=by
 have hm:m<=200000:=by have:=aj.1;have:=l.vk;omega
 refine b5 sJ rfl ?_;refine .SU [.p 0 0] ?_;refine .mk λgK y9=>?_;obtain⟨h1,E4⟩:∃h1,h1=h.put gK (.cells [.slice A m c,.slice D m bu].toArray 203 (0,0)):=⟨_,rfl⟩;have lY:h.le h1:=by rw[E4];exact I.du y9
 have AL:=aC.mono lY;obtain⟨_,i2,i3⟩:=aC.LN;have QN:=I.IY (cd:=cd) (b9:=b9) lY;have h2:vE (h1.off cd b9) gK A D m c bu l bp:=⟨by
  rw[I.FL (λq=>i2 (by grind)) (λq=>i3 (by grind)),E4];exact I.bP _ _ _,aj.mono QN,av.mono QN,Y1,Y4,hm⟩
 have n9:=h2.len.2;refine .kU [0,1,2] (Nat×Option ar×Nat×Option ar×Nat×Nat×bw×List Nat×dj) [0,2,4,6,7,8] (λ(i,_,_,_,_,_,_,_,_)=>[.v (hj c6),.v (R w),.p 0 0,.p 1 0,.p 2 0,.v (R i)]) (λ(_,E,cM,G,gc,o,_,_,_)=>[.bV gK,.own [.v (.slice none 0 0),.v (.slice none 0 0)] 203,.own [.v (.slice E o cM),.v (.slice G o gc)] 203]) (λ(i,E,cM,G,gc,o,p,pv,M) U=>UD h h1 c6 cd b9 N l.bn.dK m w U i E cM G gc o p pv M) (λ(i,_,_,_,_,_,_,_,_)=>m-i) (0,none,0,none,0,0,.nil,[],N) (λ_=>rfl) ⟨by grind,dj.Ext.refl N,cO _,rfl,rfl,dd _,⟨rfl,.inl ⟨rfl,rfl,rfl⟩⟩,⟨rfl,.inl ⟨rfl,rfl,rfl⟩⟩,nV.nil N,trivial,(λ_ e=>by cases e),(λ_ e=>by cases e),(λ_ _ e=>by cases e),by rw[E4];exact I.le_refl _,dd _⟩ rfl rfl rfl ?_;rintro⟨i,E,cM,G,gc,o,p,pv,M⟩ e U S;have rG:=AL.del S.dD S.qG;have H1:=AL.del rG S.PD;have H4:=Ss (Ss S.off S.qG) S.PD;have x8:=h2.mono (I.le_trans H4 (I.xQ _ _ _));refine .abs 199 3 E o cM _ S.awO (.abs 3 1 G o gc _ (S.awP.del λg b7 a b q=>S.yI b7 g b a q.symm) (.done ?_));obtain⟨eC,anc⟩:∃eC,eC=ei (ei U E) G:=⟨_,rfl⟩;rw[<-anc]at H1 H4 x8⊢;have fin:∀{lH:I}{mI:dj}{sG:Nat}{gC:Option ar}{mg:Nat}{o4:Option ar}{pY:Nat}{t n:Int}{B:Option ar}{dM c8:Nat}{b:bw}{r:Nat},h3 lH c6 cd b9 mI->M.Ext mI->lH.off cd b9=eC.off cd b9->i<sG->sG<=m->io w (l.bn.dK.drop i)=(t,n,b.bn)::io w (l.bn.dK.drop sG)->hU (h1.off cd b9) B dM b->mI.aDu r=(t,n,b.bn)->1<=r->r<=mI.a'.length->mI.gp+i<=M.gp+sG->∀{aR cg:I},lH.le aR->bz aR 199 3 gC (o+1) mg (p.cl.flatten++iF t n B dM c8)->(∀g,gC=some g->lH g.block=none)->aR.le cg->bz cg 3 1 o4 (o+1) pY ((jr pv).map R++[R (r:Int)])->(∀g,o4=some g->aR g.block=none)->UD h h1 c6 cd b9 N l.bn.dK m w cg sG gC mg o4 pY (o+1) (p.snoc t n B dM c8 b) (pv++[r]) mI:=by
  intro lH mI sG gC mg o4 pY t n B dM c8 b r cP a2 a3 a4 a5 OP Vm aiv a9 aiu aAz aR cg gm jG f4 l1 ua f5;have QM:(h1.off cd b9).le (lH.off cd b9):=by grind
  have yT:=bw.axI t n B dM c8 b p;have s1:=S.gp;have s2:=S.aa6;refine⟨cP.mono (I.le_trans gm l1),S.ext.trans a2,a5,?_,by rw[bw.Ty,S.len],by omega,?_,?_,?_,bw.aeR _ _ _ _ _ _ Vm S.El,λg e=>cP.cR QM (f4 g e),λg e=>cP.cR QM (I.none_le gm (f5 g e)),λg b7 aJ aI q=>?_,I.le_trans QM (I.IY (I.le_trans gm l1)),by omega⟩;simp[yT,<-S.out,OP];rw[bw.Tx,zS,ahg];exact jG.mono l1;rw[acK,fm];exact ua;rw[yT,<-aiv];exact(S.num.ext a2).snoc a9 aiu;exact jG.mem aJ (by grind)
 show c7 aH 111 (.seq (.seq (.ch aaK) (.cond (.t 17) .skip (.exit 0))) (.block 1 (.seq (.ch Rn) (.seq (.block 2 (.loop Rm)) LU)))) _ _ _ _;refine ax1 _ _ _ x8 E o cM G gc _ _ rfl (λag e he=>?_) (λag e he=>?_);have Lz:=wt.ext S.ext;show c7 aH 111 (.seq (.ch Rn) (.seq (.block 2 (.loop Rm)) LU)) _ _ _ _;refine ax3 LU _ _ x8 H1.ok Lz hw C1 ag E o cM G gc _ _ he (λe k hk p2 he=>?_);have s1:=S.gp;have s2:=S.aa6;have hN:=S.aaa;have di:i<l.bn.dK.length:=by omega
 refine stepT _ _ h2 H4 H1 Lz hw C1 ag hk p2 (by omega) E o cM G gc _ _ (by omega) he ?_ ?_;rintro rfl bl gC mg o4 pY X t n B dM c8 b r HQ af tE;have aB:l.bn.dK.drop i=(t,n,b.bn)::l.bn.dK.drop (i+1):=by
  have aM:=KB i l;rw[HQ]at aM;have aD:l.bn.dK.drop (i+1)=(l.bn.dK.drop i).drop 1:=by simp
  rw[aD,<-aM];rfl
 have lX:=Lz.le (bp[i]'(by grind [h2.len.1])) (cS _);have al4:M.aDu (bp[i]'(by grind))=(t,n,b.bn):=by
  have aM:(l.bn.dK.drop i)[0]?=some (t,n,b.bn):=by grind
  rw[GF,<-Lz.eq,dV,bZ (by grind)]at aM
  grind
 refine .bV 3 199 3 gC (o+1) mg _ rfl λaR gm jG f4=>.bV 4 3 1 o4 (o+1) pY _ rfl λcg l1 ua f5=>.done ⟨(i+1,gC,mg,o4,pY,o+1,p.snoc t n B dM c8 b,pv++[bp[i]'(by grind)],M),tE,rfl,?_,by grind⟩;refine fin H1 (dj.Ext.refl M) rfl (ri i) ag ?_ af al4 lX.1 lX.2 (by omega) gm jG f4 l1 ua f5;rw[aB]at hk⊢;exact FU hw hk;intro i9 bl gC mg o4 pY X B c8 mI r lH bW cP a2 a3 a4 a5 OP Vm tE;have rI:=hk.room i9;rw[k1]at rI;have ant:2*w<=k*w:=pN w i9;have ZD:fp ((l.bn.dK.drop i).take w)=((l.si i).hS w).bn:=by
  rw[<-KB,<-TO,zm]
 refine .bV 3 199 3 gC (o+1) mg _ rfl λaR gm jG f4=>.bV 4 3 1 o4 (o+1) pY _ rfl λcg l1 ua f5=>.done ⟨(i+k*w,gC,mg,o4,pY,o+1,p.snoc k 0 B w c8 ((l.si i).hS w),pv++[r],mI),tE,rfl,?_,by grind⟩;refine fin a2 cP a3 (by omega) (by omega) ?_ bW (by grind) a5 OP (by omega) gm jG f4 l1 ua f5;rw[I7 hw hk i9,ZD,JW];have E5:i=m:=by have:=S.aaa;omega
 subst E5;have ec:=fr [0,2,4,6,7,8] e;rw[he]at ec;rw[<-ec];refine .bV 3 199 3 E o cM _ rfl λaR gm jG f4=>.bV 4 3 1 G o gc _ rfl λcg l1 ua f5=>.done ?_;have ZL:=I.le_trans H4 (I.IY (cd:=cd) (b9:=b9) (I.le_trans gm l1));have CQ:=S.out;rw[List.drop_of_length_le (by omega),avw,zR]at CQ;obtain⟨_,AY,Rs⟩:=AL.LN;have acu:∀{E:Option ar},(∀g,E=some g->h1 g.block=none)->∀g,E=some g->g.block≠cd/\g.block≠b9:=λf g e=>⟨λq=>AY (by grind),λq=>Rs (by grind)⟩;refine⟨M,E,o,cM,G,gc,p,pv,rfl,H1.mono (I.le_trans gm l1),S.ext,CQ,?_,MS jG,(bz.jr ua).Mw (acu S.PD),MS ua,by rw[<-CQ];exact S.num,I.le_trans QN ZL,S.gp⟩;have:=bg.sat (l:=p) (A:=E) (n:=o) (bz.dG ((jG.mono l1).off (acu S.qG)) p.Er (by decide)) (S.El.mono qA.mono ZL);omega
theorem adj{α:Type}:∀(cR r S:List α),r.length=cR.length->over (cR++S) 0 r=some (r++S)
 |[],[],S,_=>by cases S<;>rfl
 |[],_::_,_,h=>by simp at h
 |_::_,[],_,h=>by simp at h
 |J::cR,y::r,S,h=>by
  simp only[wS,over,adj cR r S (by grind)]
theorem SD{α:Type}(cR r S:List α)(h:r.length=cR.length):∀(P:List α),over (P++(cR++S)) P.length r=some (P++(r++S))
 |[]=>adj cR r S h
 |x::P=>by
  simp only[wS,gI,over,SD cR r S h P]
def BZ(X:I):bw->Prop
 |.nil=>True
 |.cons _ _ B m c b r=>∃vX nu:I,vX.le X/\nu.le X/\(∀o,vX o≠none->nu o=none)/\(m=b.len/\(b= .nil\/∃bW,bz vX 199 3 B m c b.cl.flatten/\(∀g,B=some g->bW g.block=none)/\bW.le vX/\BZ bW b))/\BZ nu r
structure vT(X:I)(A:Option ar)(m c:Nat)(l:bw):Prop where
 len:m=l.len
 ex:∃bW,bz X 199 3 A m c l.cl.flatten/\(∀g,A=some g->bW g.block=none)/\bW.le X/\BZ bW l
theorem bz.less{h:I}{xs aN:List ao}(x:bz h bs size A (n+k) cap (xs++aN))(al:xs.length=n*size):A≠none->bz h bs size A n cap xs:=by
 intro aO;obtain⟨h1,ab⟩:=x;rcases ab with⟨ab,_⟩|⟨g,a8,aM,aD,bj,bT,dz,j6⟩
 grind
 refine⟨al,.inr ⟨g,a8,aM,aD,by omega,bT,dz,?_⟩⟩;have:a8.toList.take (n*size)=(a8.toList.take ((n+k)*size)).take (n*size):=by
  grind
 grind
theorem TU:∀(l:bw)(X:I),BZ X l->r7 qA X l
 |.nil,_,_=>trivial
 |.cons _ _ B m _ b r,X,⟨vX,nu,cP,a2,_,⟨hm,af⟩,am⟩=>⟨by
  rcases af with af|⟨bW,aM,aD,bj,bT⟩;exact⟨hm,.inl af⟩;have:=bg.sat (l:=b) (A:=B) (n:=m) (bz.dG aM b.Er (by decide)) ((TU b bW bT).mono qA.mono bj);exact hU.mono cP this,(TU r nu am).mono qA.mono a2⟩
def Eh:tc:=λX B m c b=>m=b.len/\(b= .nil\/∃bW,bz X 199 3 B m c b.cl.flatten/\(∀g,B=some g->bW g.block=none)/\bW.le X/\BZ bW b)
theorem afC:∀(l:bw)(X:I),BZ X l↔yc Eh X l
 |.nil,_=>Iff.rfl
 |.cons _ _ _ _ _ _ r,X=>by
  simp only[BZ,yc,Eh,afC r]
theorem vT.azw{X:I}(s:vT X A m c l):Eh X A m c l:=⟨s.len,.inr s.ex⟩
theorem vT.sat{X:I}{A:Option ar}{m c:Nat}{l:bw}(s:vT X A m c l):hU X A m l:=by
 obtain⟨bW,aM,_,bj,bT⟩:=s.ex;exact bg.sat (l:=l) (A:=A) (n:=m) (bz.dG aM l.Er (by decide)) ((TU l bW bT).mono qA.mono bj)
theorem vT.mono{X Y:I}{A:Option ar}{m c:Nat}{l:bw}(x:X.le Y)(s:vT X A m c l):vT Y A m c l:=⟨s.len,let⟨bW,a,b,c,d⟩:=s.ex;⟨bW,a.mono x,b,I.le_trans c x,d⟩⟩
theorem avq{h U bW:I}{p:bw}(x:uk Eh h U bW A n c p):vT (U.sub h) A n c p:=⟨x.len.symm,bW,ad' x.row λg e=>(x.rv g e).1,λg e=>(x.rv g e).2,I.De x.gF x.out,(afC p bW).2 x.El⟩
theorem SH:∀(N:Nat)(l:bw),l.bF<N->l.bF<=200000->∀(A:Option ar)(m cap:Nat)(h:I),hU h A m l->Fn aH 69 #[.slice A m cap] h λv U=>h.le U/\∃bA bu b3,v= .slice bA m bu/\vT (U.sub h) bA m bu b3/\b3.bn=l.bn
 |0,l,db,_=>absurd db (Nat.not_lt_zero _)
 |N+1,l,db,lU=>by
  intro A m cap h aj;have hm:m<=200000:=by have:=aj.1;have:=l.vk;omega
  refine b5 asx rfl ?_;refine .kU [] (Nat×Option ar×Nat×bw×bw) [3,6,7,8] (λ(i,D,c,_,_)=>[.v (.slice D i c),.v (.slice A m cap),.v (R m),.v (R i)]) (λ_=>[]) (λ(i,D,c,p,r) U=>∃bW,uk Eh h U bW D i c p/\o9 h A m i r/\r.bF<=l.bF/\p.bn.app r.bn=l.bn) (λ(i,_,_,_,_)=>m-i) (0,none,0,.nil,l) (λ_=>rfl) ⟨_,uk.nil Eh h,aj.cB,dd _,rfl⟩ rfl rfl rfl ?_;rintro⟨i,D,c,p,r⟩ e U ⟨bW,ts,av,ik,he⟩;refine .done ?_;refine aW (λab=>?_) (λab=>?_);cases r with
  |nil=>have:=av.fin;omega
  |cons t w B bc hQ b r=>
   obtain⟨g,aO,ag,aw,af,am⟩:=av.open;simp only[bw.bF]at ik;refine .m g aO ?_;refine .hp (iF t w B bc hQ) rfl (by rw[bq];exactλo v ah=>I.kL ts.le (aw o v ah)) ?_;refine .done (.mk _ (SH N b (by omega) (by omega) B bc hQ U (af.mono ts.le)) ?_);rintro _ ab ⟨c9,dS,c2,eP,rfl,k8,Qs⟩;refine .abs 199 3 D i c _ (ts.row.mono c9) (.done (.cR 2 _ (iF t w dS bc c2) rfl rfl (Iy _ _ _ _ _) (by grind [c']) (by omega) λnr eI P8=>?_));refine .aLS ?_;refine .bV 2 199 3 nr (i+1) eI _ rfl λan ha hg az=>.done ⟨(i+1,nr,eI,p.snoc t w dS bc c2 eP,r),rfl,rfl,⟨_,ts.step c9 t w k8.azw ha hg az,am,by omega,?_⟩,by grind⟩;rw[bw.M8,Qs];exact he
  cases r with
  |nil=>
   have:=av.fin;subst this;refine .done ⟨ts.le,D,c,p,rfl,avq ts,?_⟩;rw[<-he];exact(cX.Kh _).symm
  |cons=>obtain⟨g,aO,ag,_⟩:=av.open;omega
def vF:cX->Prop
 |.nil=>True
 |.cons t n b r=>1<=t/\(b.leaf=true->0<=n/\n<32)/\(b.leaf=false->n=0)/\vF b/\vF r
theorem vF.pos:∀{f:cX},vF f->nW f
 |.nil,_=>trivial
 |.cons _ _ _ _,⟨a,_,_,b,c⟩=>⟨a,b.pos,c.pos⟩
theorem Hn:∀(f:cX)(d k:Nat),vF f->k+pb f<=2048->d+mM f<=16->hW f d k=(0,k+pb f)
 |.nil,_,_,_,_,_=>rfl
 |.cons t n b r,d,k,⟨h1,ab,an,aR,cg⟩,hk,aB=>by
  simp only[pb,mM]at hk aB⊢;cases al:b.leaf with
  |true=>
   rw[al]at hk aB;simp only[lv]at hk aB⊢;have e:∀gK,js t n true d k gK=(0,k+1):=λgK=>by
    unfold js
    grind
   simp only[hW,al,e];rw[aX trivial,Hn r d (k+1) cg (by omega) (by omega)]
   grind
  |false=>
   rw[al]at hk aB;simp only[pR]at hk aB⊢;have af:=PM (f:=b) al;have e:js t n false d k (hW b (d+1) k)=(0,k+pb b):=by
    unfold js;rw[aE (by omega),aE (by omega),aE (by omega),aE (by simp),aE (by grind),Hn b (d+1) k aR (by omega) (by omega)]
   simp only[hW,al,e];rw[aX trivial,Hn r d _ cg (by omega) (by omega)]
   grind
theorem Hm:∀(f:cX)(d k:Nat),vF f->k+pb f<=2048->d<=16->16<d+mM f->(hW f d k).1=161
 |.nil,_,_,_,_,h,ab=>by grind [mM]
 |.cons t n b r,d,k,⟨h1,ab,an,aR,cg⟩,hk,aB,uY=>by
  simp only[pb,mM]at hk uY⊢;cases al:b.leaf with
  |true=>
   rw[al]at hk uY;simp only[lv]at hk uY;have e:∀gK,js t n true d k gK=(0,k+1):=λgK=>by
    unfold js
    grind
   simp only[hW,al,e];rw[aX trivial];exact Hm r d (k+1) cg (by omega) aB (by omega)
  |false=>
   rw[al]at hk uY;simp only[pR]at hk uY;have af:=PM (f:=b) al;by_cases alQ:16<=d;have e:js t n false d k (hW b (d+1) k)=(161,k):=by
    unfold js
    grind
   simp[hW,al,e];by_cases aA5:d+1+mM b<=16;have e:js t n false d k (hW b (d+1) k)=(0,k+pb b):=by
    unfold js;rw[aE (by omega),aE (by omega),aE (by omega),aE (by simp),aE (by grind),Hn b (d+1) k aR (by omega) (by omega)]
   simp only[hW,al,e];rw[aX trivial];exact Hm r d _ cg (by omega) aB (by omega);have ds:=Hm b (d+1) k aR (by omega) (by omega) (by omega);have e:js t n false d k (hW b (d+1) k)=hW b (d+1) k:=by
    unfold js
    grind
   simp[hW,al,e,ds]
theorem ajl{f:cX}(h:vF f)(av:fj f<=2048):qE f=if mM f<=16 then 0 else 161:=by
 have az:=PN f h.pos;unfold qE;split;rename_i h1;split;rename_i aB;rw[Hn f 0 0 h (by omega) (by omega)]at h1;omega;rename_i aB;exact Hm f 0 0 h (by omega) (by omega) (by omega);rename_i h1;rw[aE (by omega)];split;rfl;rename_i aB;rw[Hm f 0 0 h (by omega) (by omega) (by omega)]at h1;omega
def BE(x:fw):Prop:=1<=x.1/\(x.2.2.leaf=true->0<=x.2.1/\x.2.1<32)/\(x.2.2.leaf=false->x.2.1=0)/\vF x.2.2
theorem PX:∀l:List fw,vF (fp l)↔∀x∈l,BE x
 |[]=>⟨(λ_ x h=>by cases h),λ_=>trivial⟩
 |(t,n,b)::l=>by
  simp only[fp,vF,PX l,dC,forall_eq_or_imp,BE]
  grind
theorem at1(l:List fw):(fp l).leaf=decide (l=[]):=by
 cases l with
 |nil=>rfl
 |cons x l=>rfl
theorem KT(a b:List fw):hr (fp (a++b))=hr (fp a)++hr (fp b):=by rw[ab9,XZ]
theorem ad2{α:Type}(w:List α):∀k,w++rep k w=rep k w++w
 |0=>by simp[rep]
 |k+1=>by simp only[rep];rw[mb,<-ad2 w k]
theorem r'.uU{w:Nat}{l:List fw}{m:Nat}(r:r' w l m):∀o,o<=m->hr (fp (l.take (o*w)))=rep o (hr (fp (l.take w)))
 |0,_=>by simp[fp,hr,rep]
 |o+1,ae=>by
  have bE:=r.uU o (by omega);have aj:l.take ((o+1)*w)=l.take (o*w)++(l.drop (o*w)).take w:=by
   rw[BQ,List.take_add]
  rw[aj,KT,bE];simp only[rep];rw[ad2];congr 2;by_cases ai:o=0;simp_all;rw[(r.ok o (by omega) (by omega)).2]
theorem SO{w:Nat}(hw:1<=w):∀(N:Nat)(l:List fw),l.length<=N->hr (fp (io w l))=hr (fp l)/\((∀x∈l,BE x)->∀x∈io w l,BE x)
 |N,[],_=>⟨rfl,λh=>h⟩
 |0,x::l,h=>by simp at h
 |N+1,x::l,h=>by
  simp only[gI]at h;have am:=Dv hw (x::l);by_cases h1:d6 w (x::l)=1;rw[h1]at am;obtain⟨a,b⟩:=SO hw N l (by omega);rw[FU hw am];refine⟨?_,λak y aQ=>?_⟩;have aJ:=KT [x] (io w l);have aI:=KT [x] l
  grind
  grind
  have ab:2<=d6 w (x::l):=by have:=am.pos;omega
  obtain⟨m,hm⟩:∃m,m=d6 w (x::l):=⟨_,rfl⟩;rw[<-hm]at am ab;have rI:=am.room ab;have QK:2*w<=m*w:=pN w ab;rw[I7 hw am ab];obtain⟨b3,jL⟩:∃b3,b3=x::l:=⟨_,rfl⟩;rw[<-jL]at am rI⊢;have eb:b3.length=l.length+1:=by grind
  obtain⟨a,b⟩:=SO hw N (b3.drop (m*w)) (by grind);have bH:b3.take w≠[]:=by
   intro q;simp_all
  have nE:(fp (b3.take w)).leaf=false:=by rw[at1,gU bH]
  refine⟨?_,λak y aQ=>?_⟩;have aI:hr (fp b3)=hr (fp (b3.take (m*w)))++hr (fp (b3.drop (m*w))):=by
   simp[<-KT]
  rw[aI,<-a,am.uU m (dd _)];simp[fp,hr,nE];rcases dC.1 aQ with rfl|aQ;refine⟨by omega,(λq=>by simp),(λ_=>rfl),(PX _).2 λz aY=>ak z (Od aY)⟩
  grind
theorem TX(h:I):vT h none 0 0 .nil:=⟨rfl,λ_=>none,⟨rfl,.inl ⟨rfl,rfl,rfl⟩⟩,(λ_ e=>by cases e),(λ_ _ e=>by cases e),trivial⟩
theorem I.ae5{h hk U:I}(x:h.le hk):(U.sub hk).le (U.sub h):=I.De (I.sub_le _ _) λ_ ae=>I.none_le x (I.Gb ae)
variable {H U h:I}
theorem Mb(p:bw):p.bF=ng p.bn.dK:=by unfold ng;rw[zm,bw.Hq]
theorem avv(hw:1<=w){p:bw}(h:p.bn.dK=io w l.bn.dK):p.bF<=l.bF:=by
 rw[Mb,Mb,h];exact(Do hw _ _ (dd _)).1
def oS:List qz->bw
 |[]=>.nil
 |r::l=>.cons (r.2:Int) r.1 none 0 0 .nil (oS l)
def mw(l:List qz):List fw:=l.map λr=>((r.2:Int),r.1,cX.nil)
theorem RT:∀l:List qz,(oS l).bn.dK=mw l
 |[]=>rfl
 |r::l=>by simp only[oS,bw.bn,cX.dK,RT l];rfl
theorem RS:∀l:List qz,(oS l).bF=l.length
 |[]=>rfl
 |_::l=>by simp only[oS,bw.bF,RS l,gI];omega
theorem abI(h:I):∀l:List qz,r7 qA h (oS l)
 |[]=>trivial
 |_::l=>⟨⟨rfl,.inl rfl⟩,abI h l⟩
theorem abJ(r:qz):∀l:List qz,(oS (l++[r])).cl=(oS l).cl++[iF (r.2:Int) r.1 none 0 0]
 |[]=>rfl
 |x::l=>by simp only[wS,oS,bw.cl,abJ r l]
theorem MZ{P:Int->Prop}:∀l:List Int,(∀r∈fy l,P r.1)↔(∀x∈l,P x)
 |[]=>by simp[fy]
 |x::l=>by
  have bE:=MZ (P:=P) l;simp only[fy];split;rename_i y k r am;rw[am]at bE;simp only[dC,forall_eq_or_imp]at bE⊢;rw[<-bE];split;rename_i e;subst e;simp;simp;simp_all
def uH(x:Int):Prop:=x<0\/32<=x
instance (x:Int):Decidable (uH x):=inferInstanceAs (Decidable (_\/_))
def pQ(l:List Int):Int×List fw:=if 2048<l.length then(2,[])else if∃x∈l,uH x then(100,[])else(0,comp (mw (fy l)))
theorem agt{l ax:List fw}(hw:1<=w)(hk:20*l.length+17<k+w)(cG:nv k w l=ax)(aw:w<=16/\2*w<=l.length):∃e1,k=e1+1/\((io w l).length<l.length->nv e1 1 (io w l)=ax/\20*(io w l).length+17<e1+1)/\(¬(io w l).length<l.length->nv e1 (w+1) (io w l)=ax/\20*(io w l).length+17<e1+(w+1)):=by
 cases k with
 |zero=>omega
 |succ e1=>
  have hp:=(Do hw _ l (dd _)).2
  grind [nv]
theorem Up{l ax:List fw}(cG:nv k w l=ax)(aw:¬(w<=16/\2*w<=l.length)):l=ax:=by
 cases k with
 |zero=>exact cG
 |succ e1=>grind [nv]
structure ags(ab:I)(c6 cd b9:Nat)(ax:List fw)(U:I)(A:Option ar)(m c:Nat)(D:Option ar)(yB:Nat)(l:bw)(bp:List Nat)(M:dj)(w k:Nat):Prop where
 dD:h3 U c6 cd b9 M
 sat:hU (U.off cd b9) A m l
 cx:m<=c
 dG:bg (U.off cd b9) 1 D m ((jr bp).map λz=>[R z])
 Kn:m<=yB
 num:nV M bp l.bn.dK
 bF:l.bF<=2048
 cF:1<=w
 dw:w<=17
 jA:20*l.bn.dK.length+17<k+w
 eq:nv k w l.bn.dK=ax
 le:ab.le (U.off cd b9)
 gp:M.gp+2048*k<=100000000
theorem ajA(l:List Int)(D:Option ar)(n cap:Nat)(h:I)(aY:bg h 1 D n (l.map λz=>[R z])):Fn aH 25 #[.slice D n cap] h λv U=>h.le U/\∃bA bc bu b3,v= .tuple #[.slice bA bc bu,R (pQ l).1]/\vT (U.sub h) bA bc bu b3/\b3.bn.dK=(pQ l).2:=by
 have al:l.length=n:=by simpa using aY.len
 refine b5 ar4 rfl ?_;refine aW (λu=>?_) (λu=>?_);have cG:pQ l=(2,[]):=by unfold pQ;grind
 refine .done ⟨I.le_refl h,none,0,0,.nil,?_,TX _,?_⟩;rw[cG];rfl;rw[cG];rfl;have aC:n<=2048:=by omega
 refine .done (.mk _ (aej D n cap l h aY (by omega)) ?_);rintro _ h1 ⟨r9,m1,c1,rfl,mS,Jl⟩;have ik:=MY l;have qk:=Jl.dG;refine .kU [] (Nat×Option ar×Nat) [4,15,16,17] (λ(i,E,cM)=>[.v (.slice E i cM),.v (.slice r9 m1 c1),.v (R m1),.v (R i)]) (λ_=>[]) (λ(i,E,cM) U=>h1.le U/\i<=m1/\bz U 199 3 E i cM (oS ((fy l).take i)).cl.flatten/\(∀g,E=some g->h1 g.block=none)/\∀r∈(fy l).take i,¬uH r.1) (λ(i,_,_)=>m1-i) (0,none,0) (λ_=>rfl) ⟨I.le_refl _,cO _,⟨rfl,.inl ⟨rfl,rfl,rfl⟩⟩,(λ_ e=>by cases e),(λr am=>by grind)⟩ rfl rfl rfl ?_;rintro⟨i,E,cM⟩ e U ⟨cu,E5,jM,az,dk⟩;have eC:=xh cu az;refine .abs 199 3 E i cM _ jM (.done ?_);refine aW (λo0=>?_) (λo0=>?_);have ag:i<(fy l).length:=by omega
 obtain⟨r,am⟩:∃r,r=(fy l)[i]:=⟨_,rfl⟩;have oM:((fy l).map wF)[i]?=some (wF r):=by grind
 have afs:=qk.mono eC;obtain⟨g,ak⟩:=afs.cc (by omega);have bad:uH r.1->pQ l=(100,[]):=λq=>by
  unfold pQ;rw[aE (by omega),aX];refine zM λu4=>?_;have:=(MZ (P:=λx=>¬uH x) l).2 λx ad af=>u4 ⟨x,ad,af⟩
  grind
 refine .m g ak ?_;refine .hp (wF r) rfl (by rw[bq];exact afs.row ak oM) ?_;refine aW (λhI=>?_) (λhI=>?_);refine .done ⟨I.le_trans Jl.le eC,none,0,0,.nil,?_,TX _,?_⟩;rw[bad (.inl hI)];rfl;rw[bad (.inl hI)];rfl;refine aW (λue=>?_) (λue=>?_);refine .done ⟨I.le_trans Jl.le eC,none,0,0,.nil,?_,TX _,?_⟩;rw[bad (.inr ue)];rfl;rw[bad (.inr ue)];rfl;refine .done (.cR 0 _ (iF (r.2:Int) r.1 none 0 0) rfl rfl (Iy _ _ _ _ _) (by grind [c']) (by omega) λgC mg HC=>?_);refine .aLS ?_;have Fe:(fy l).take (i+1)=(fy l).take i++[r]:=by simp_all
 refine .bV 0 199 3 gC (i+1) mg _ rfl λaR gm jG f4=>.done ⟨(i+1,gC,mg),rfl,rfl,⟨I.le_trans eC gm,by omega,?_,λg e=>I.none_le eC (f4 g e),λq aq=>?_⟩,by grind⟩;rw[Fe,abJ,zS,ahg];exact jG;rw[Fe]at aq;rcases ev.1 aq with aq|aq
 grind
 rw[fx.1 aq];intro q;rcases q with q|q;omega;omega;have Lr:i=(fy l).length:=by omega
 rw[Lr,pM]at jM dk;have cG:pQ l=(0,comp (mw (fy l))):=by
  unfold pQ;rw[aE (by omega),aE];rintro⟨x,ad,af⟩;exact(MZ (P:=λx=>¬uH x) l).1 dk x ad af
 refine .bV 0 199 3 E i cM _ rfl λab c9 rY f2=>.done (.mk _ (alv ab) ?_);rw[Lr,pM]at rY;have L0:h1.le ab:=I.le_trans eC c9;have iK:hU ab E i (oS (fy l)):=by
  have:=bg.sat (l:=oS (fy l)) (A:=E) (n:=i) (by rw[Lr];exact bz.dG rY (oS (fy l)).Er (by decide)) (abI ab _);omega
 have anj:i<=cM:=by rw[Lr];exact MS rY
 rintro _ an ⟨c6,cd,b9,rfl,hZ,ha,_,_,_,l4⟩;have tD:(oS (fy l)).bF<=2048:=by rw[RS];omega
 have hN:=iK.mono l4;refine .done (.mk _ (auh (cap:=cM) hZ hN (by omega) (by grind [dj.gp,dj.fresh])) ?_);rintro _ aR ⟨M,bp,G,ai8,rfl,zN,xN,acF,S9,f4,FI,z4⟩;have z4:M.gp<=4096:=by
  have:dj.fresh.gp=0:=rfl;omega
 obtain⟨_,i2,i3⟩:=hZ.LN;have t4:=(bz.jr S9).Mw (cd:=cd) (b9:=b9) λg e=>⟨λq=>i2 (by grind),λq=>i3 (by grind)⟩;have abk:ab.le (aR.off cd b9):=I.le_trans l4 FI;have yT:=RT (fy l);have eb:(oS (fy l)).bn.dK.length<=2048:=by rw[yT];grind [mw]
 obtain⟨ax,YF⟩:∃ax,ax=comp (mw (fy l)):=⟨_,rfl⟩;have Ld:nv (20*(oS (fy l)).bn.dK.length+20) 1 (oS (fy l)).bn.dK=ax:=by rw[YF,yT];rfl
 rw[<-YF]at cG;refine .kU [1] (Option ar×Nat×Nat×Option ar×Nat×bw×List Nat×dj×Nat×Nat) [7,8,9] (λ(_,_,_,_,_,_,_,_,w,_)=>[.v (hj c6),.p 0 0,.v (R w)]) (λ(A,m,c,D,yB,_,_,_,_,_)=>[.own [.v (.slice A m c),.v (.slice D m yB)] 203]) (λ(A,m,c,D,yB,bX,bp,M,w,k) U=>ags ab c6 cd b9 ax U A m c D yB bX bp M w k) (λ(_,_,_,_,_,_,_,_,_,k)=>k) (E,i,cM,G,ai8,oS (fy l),bp,M,1,20*(oS (fy l)).bn.dK.length+20) (λ_=>rfl) ⟨xN,hN.mono FI,anj,t4,MS S9,acF,tD,dd _,by decide,by omega,Ld,abk,by omega⟩ rfl rfl rfl ?_;clear t4 xN S9 f4 acF hN hZ iK rY f2 jM dk Ld eb yT tD i2 i3 z4 FI l4 abk;rintro⟨A,m,c,D,yB,bX,bp,M,w,k⟩ e U S;have y2:bX.bn.dK.length=m:=by rw[Cj];exact S.sat.1.symm
 have aBh:m<=2048:=by have:=S.bF;have:=bX.vk;have:=S.sat.1;omega
 have cF:=S.cF;have dw:=S.dw;refine .done ?_;refine aW (λv1=>?_) (λv1=>?_);refine .aLS ?_;refine aW (λv2=>?_) (λv2=>?_);obtain⟨e1,rfl,cP,a2⟩:=agt cF S.jA S.eq ⟨by omega,by omega⟩;have gp:=S.gp;refine .done (.mk _ (alj S.dD S.sat S.cx S.dG S.Kn S.num (by have:=S.bF;omega) cF (by omega) (by omega)) ?_);rintro _ cg ⟨UY,Uu,Fj,W3,UE,Yl,vq,acC,rfl,F⟩;have anR:vq.bn.dK.length=Fj:=by rw[Cj];exact F.sat.1.symm
 have Y5:vq.bF<=2048:=hT (avv cF F.dK) S.bF;have aBs:=F.gp;have Zy:ab.le (cg.off cd b9):=I.le_trans S.le F.off;have aA9:(io w bX.bn.dK).length=Fj:=by rw[<-F.dK,anR]
 refine aW (λv3=>?_) (λv3=>?_);obtain⟨bL,cy⟩:=cP (by omega);refine .done ⟨(Uu,Fj,W3,UE,Yl,vq,acC,UY,1,e1),rfl,rfl,⟨F.dD,F.sat,F.ce,F.dG,F.Wm,by rw[F.dK];exact F.num,Y5,dd _,by decide,by omega,by grind [F.dK],Zy,by omega⟩,ri _⟩;obtain⟨bL,cy⟩:=a2 (by omega);refine .aLS ?_;refine .done ⟨(Uu,Fj,W3,UE,Yl,vq,acC,UY,w+1,e1),rfl,rfl,⟨F.dD,F.sat,F.ce,F.dG,F.Wm,by rw[F.dK];exact F.num,Y5,by omega,by omega,by omega,by grind [F.dK],Zy,by omega⟩,ri _⟩;have CH:=Up S.eq (by omega);refine .done (.mk _ (SH _ bX (ri _) (by have:=S.bF;omega) A m c U (S.sat.mono (I.xQ _ _ _))) ?_);rintro _ fa ⟨sN,bA,bu,b3,rfl,bf,az⟩;have rN:h.le U:=I.le_trans Jl.le (I.le_trans L0 (I.le_trans S.le (I.xQ _ _ _)));refine .done ⟨I.le_trans rN sN,bA,m,bu,b3,?_,bf.mono (I.ae5 rN),?_⟩;rw[cG];rfl
 grind
 have CH:=Up S.eq (by omega);refine .done (.mk _ (SH _ bX (ri _) (by have:=S.bF;omega) A m c U (S.sat.mono (I.xQ _ _ _))) ?_);rintro _ fa ⟨sN,bA,bu,b3,rfl,bf,az⟩;have rN:h.le U:=I.le_trans Jl.le (I.le_trans L0 (I.le_trans S.le (I.xQ _ _ _)));refine .done ⟨I.le_trans rN sN,bA,m,bu,b3,?_,bf.mono (I.ae5 rN),?_⟩;rw[cG];rfl
 grind
theorem Ks:∀(k w:Nat)(l:List fw),1<=w->ng (nv k w l)<=ng l/\hr (fp (nv k w l))=hr (fp l)/\((∀x∈l,BE x)->∀x∈nv k w l,BE x)
 |0,_,_,_=>⟨dd _,rfl,λh=>h⟩
 |k+1,w,l,hw=>by
  unfold nv;split;obtain⟨a,_⟩:=Do hw _ l (dd _);obtain⟨b,c⟩:=SO hw _ l (dd _);split;obtain⟨x,y,z⟩:=Ks k 1 (io w l) (dd _)
  grind
  obtain⟨x,y,z⟩:=Ks k (w+1) (io w l) (by omega)
  grind
  simp
theorem abH(l:List qz):ng (mw l)=l.length:=by
 rw[<-RT,<-Mb,RS]
theorem ajw(l:List Int):ng (pQ l).2<=2048:=by
 unfold pQ;split;exact cO _;split;exact cO _;have h1:=(Ks (20*(mw (fy l)).length+20) 1 (mw (fy l)) (dd _)).1;have ab:=MY l;have an:=abH (fy l);show ng (comp _)<=2048;unfold comp;omega
theorem adt{w:Nat}(hw:1<=w):∀(N:Nat)(l:List fw),l.length<=N->(io w l).length=l.length->io w l=l
 |_,[],_,_=>rfl
 |0,x::l,h,_=>by simp at h
 |N+1,x::l,h,he=>by
  simp only[gI]at h;have am:=Dv hw (x::l);by_cases h1:d6 w (x::l)=1;rw[h1]at am;rw[FU hw am]at he⊢;simp only[gI]at he;rw[adt hw N l (by omega) (by omega)];have ab:2<=d6 w (x::l):=by have:=am.pos;omega
  obtain⟨m,hm⟩:∃m,m=d6 w (x::l):=⟨_,rfl⟩;rw[<-hm]at am ab;have rI:=am.room ab;have QK:2*w<=m*w:=pN w ab;rw[I7 hw am ab]at he;have aw:=(Do hw _ ((x::l).drop (m*w)) (dd _)).2
  grind
theorem adu{w:Nat}(hw:1<=w):∀l:List fw,l.length<2*w->io w l=l
 |[],_=>rfl
 |x::l,h=>by
  have am:r' w (x::l) 1:=⟨dd _,λo h1 ab=>by omega,λq=>by have:=q.1;omega⟩;simp only[gI]at h;rw[FU hw am,adu hw l (by omega)]
theorem Pf:∀(k w:Nat)(l:List fw),1<=w->20*l.length+17<k+w->(∀v,1<=v->v<w->io v l=l)->∀v,1<=v->v<=16->io v (nv k w l)=nv k w l
 |0,w,l,_,hk,az,v,h1,ab=>az v h1 (by omega)
 |k+1,w,l,hw,hk,az,v,h1,ab=>by
  unfold nv;split;rename_i aw;split;rename_i aj;exact Pf k 1 _ (dd _) (by omega) (λv a b=>by omega) v h1 ab;rename_i aj;have hp:=(Do hw _ l (dd _)).2;have he:=adt hw _ l (dd _) (by omega);rw[he];refine Pf k (w+1) l (by omega) (by omega) (λv a b=>?_) v h1 ab
  grind
  rename_i aw;by_cases ah:v<w
  grind
  exact adu h1 l (by omega)
theorem ajy(l:List fw):∀v,1<=v->v<=16->io v (comp l)=comp l:=Pf _ 1 l (dd _) (by omega) (λv a b=>by omega)
def DT:cX->Prop
 |.nil=>True
 |.cons t _ b r=>1<=t/\(b.leaf=false->2<=t)/\DT b/\DT r
def Bv(x:fw):Prop:=1<=x.1/\(x.2.2.leaf=false->2<=x.1)/\DT x.2.2
theorem OY:∀l:List fw,DT (fp l)↔∀x∈l,Bv x
 |[]=>⟨(λ_ x h=>by cases h),λ_=>trivial⟩
 |(t,n,b)::l=>by
  simp only[fp,DT,OY l,dC,forall_eq_or_imp,Bv]
  grind
theorem Pl:∀f:cX,DT f->f.leaf=false->2^mM f<=fj f
 |.nil,_,h=>by cases h
 |.cons t n b r,⟨h1,ab,an,aR⟩,_=>by
  have am:r.leaf=false->2^mM r<=fj r:=Pl r aR;have fJ:2^mM r<=fj r+1:=by
   cases al:r.leaf with
   |true=>rw[abx al];simp[mM]
   |false=>grind
  obtain⟨T,rfl⟩:∃T:Nat,t=T:=⟨t.toNat,by omega⟩;simp only[mM,fj,bq];cases al:b.leaf with
  |true=>
   grind
  |false=>
   have af:=Pl b an al;have ab:=ab al;simp only[pR];have hm:2*fj b<=T*fj b:=pN _ (by omega);have hp:2^(mM b+1)=2*2^mM b:=by omega
   grind
theorem MG{w:Nat}(hw:1<=w):∀(N:Nat)(l:List fw),l.length<=N->(∀x∈l,Bv x)->∀x∈io w l,Bv x
 |N,[],_,_=>λx h=>by cases h
 |0,x::l,h,_=>by simp at h
 |N+1,x::l,h,ak=>by
  simp only[gI]at h;have am:=Dv hw (x::l);by_cases h1:d6 w (x::l)=1;rw[h1]at am;rw[FU hw am];intro y aQ;rcases dC.1 aQ with rfl|aQ
  grind
  exact MG hw N l (by omega) (λz aY=>ak z (iv _ aY)) y aQ;have ab:2<=d6 w (x::l):=by have:=am.pos;omega
  obtain⟨m,hm⟩:∃m,m=d6 w (x::l):=⟨_,rfl⟩;rw[<-hm]at am ab;have QK:2*w<=m*w:=pN w ab;rw[I7 hw am ab];intro y aQ;rcases dC.1 aQ with rfl|aQ;exact⟨by omega,λ_=>by omega,(OY _).2 λz aY=>ak z (Od aY)⟩;exact MG hw N _ (by grind) (λz aY=>ak z (Oc aY)) y aQ
theorem Pe:∀(k w:Nat)(l:List fw),1<=w->(∀x∈l,Bv x)->∀x∈nv k w l,Bv x
 |0,_,_,_,h=>h
 |k+1,w,l,hw,h=>by
  unfold nv;split;split;exact Pe k 1 _ (dd _) (MG hw _ l (dd _) h);exact Pe k (w+1) _ (by omega) (MG hw _ l (dd _) h);omega
theorem abK:∀l:List Int,hr (fp (mw (fy l)))=l
 |[]=>rfl
 |x::l=>by
  have bE:=abK l;simp only[fy];split;rename_i y k r h;rw[h]at bE;simp only[mw,eO,fp,hr,cX.leaf,lv,bq]at bE;split;simp_all[mw,fp,hr,cX.leaf,rep,bE];simp only[mw,eO,fp,hr,cX.leaf,lv,bq];rw[bE];rfl;rename_i h;rw[h]at bE;simp only[mw,zU,fp,hr]at bE;rw[<-bE];rfl
theorem ael:∀l:List Int,∀r∈fy l,1<=r.2
 |[],_,h=>by cases h
 |x::l,r,h=>by
  have bE:=ael l;simp only[fy]at h
  grind
structure Gs(l:List Int)(C:List fw):Prop where
 ry:vF (fp C)
 uU:hr (fp C)=l
 ly:mM (fp C)<=11
 e':qE (fp C)=0
 bF:(fp C).bF<=(fy l).length
 fix:∀v,1<=v->v<=16->io v C=C
theorem Gs.of{l:List Int}(al:l.length<=2048)(af:∀x∈l,¬uH x):Gs l (comp (mw (fy l))):=by
 have dk:∀x∈mw (fy l),BE x/\Bv x:=by
  intro x ad;obtain⟨r,am,rfl⟩:=dn.1 ad;have h1:=ael l r am;have ab:=(MZ l (P:=λx=>¬uH x)).2 af r am;unfold uH at ab;refine⟨⟨by omega,λ_=>⟨by grind,by grind⟩,(λq=>by cases q),trivial⟩,⟨by omega,(λq=>by cases q),trivial⟩⟩
 obtain⟨bJ,bB,eo⟩:=Ks (20*(mw (fy l)).length+20) 1 (mw (fy l)) (dd _);have oa:=Pe (20*(mw (fy l)).length+20) 1 (mw (fy l)) (dd _) λx ad=>(dk x ad).2;have mu:=ajy (mw (fy l));have hC:nv (20*(mw (fy l)).length+20) 1 (mw (fy l))=comp (mw (fy l)):=rfl;rw[hC]at bJ bB eo oa;generalize comp (mw (fy l))=C at bJ bB eo oa mu;have ak:=(PX C).2 (eo λx ad=>(dk x ad).1);have ab:=(OY C).2 oa;have ml:hr (fp C)=l:=bB.trans (abK l);have av:fj (fp C)<=2048:=by rw[<-KS,ml];exact al
 have aB:mM (fp C)<=11:=by
  cases nE:(fp C).leaf with
  |true=>rw[abx nE];exact cO _
  |false=>
   have an:=Pl _ ab nE;rcases Nat.lt_or_ge 11 (mM (fp C))with aR|aR;have:=Nat.pow_le_pow_right (n:=2) (by decide) (show 12<=mM (fp C)from aR);omega;omega
 refine⟨ak,ml,aB,?_,?_,mu⟩;rw[ajl ak av,aX (by omega)];rw[abH]at bJ;exact bJ
theorem WM{a b:e3}{w:bb}(hk:k<s.size):vC aH (.index 9 a b) [.string s,R k] w (.int .u8 s[k].toNat) w:=by
 intro kF q aq ah;simp only[D2,eO,zU,yp,and_true]at ah;obtain⟨h1,ab⟩:=ah;have hu:=gj (w:=w) Ef;simp[cY,aq,h1,ab,Instr.index,asIntOf,R,hu,hk]
theorem WN{a b c:e3}{w:bb}(hk:k<=m)(hm:m<=s.size):vC aH (.slice 9 a (some b) (some c) none) [.string s,R k,R m] w (.string (s.extract k m)) w:=by
 intro kF q aq ah;simp[D2]at ah;obtain⟨h1,ab,an⟩:=ah;have hu:=gj (w:=w) Ef;simp[cY,aq,h1,ab,an,Instr.sliceAt,Instr.slice,Instr.sliceBounds,Instr.sliceBound,asIntOf,R,hu,hk,hm]
abbrev bv(b:UInt8):ao:=.int .u8 b.toNat
def Dg(b:UInt8):Bool:=decide ((97:Int)<=b.toNat)&&decide ((b.toNat:Int)<=122)
def Hd(b:UInt8):Bool:=decide ((48:Int)<=b.toNat)&&decide ((b.toNat:Int)<=57)
def Fh(b:UInt8):Bool:=Dg b||Hd b||decide ((b.toNat:Int)=95)
theorem abG(b:UInt8)(h:I):Fn aH 202 #[bv b] h λv U=>v= .bool (Dg b)/\U=h:=by
 refine b5 arR rfl ?_;refine aW (λh1=>?_) (λh1=>?_);refine .done ⟨?_,rfl⟩;simp[Dg,h1,jt];refine .done ⟨?_,rfl⟩;simp[Dg,h1,jt]
theorem ajO(b:UInt8)(h:I):Fn aH 217 #[bv b] h λv U=>v= .bool (Hd b)/\U=h:=by
 refine b5 arY rfl ?_;refine aW (λh1=>?_) (λh1=>?_);refine .done ⟨?_,rfl⟩;simp[Hd,h1,jt];refine .done ⟨?_,rfl⟩;simp[Hd,h1,jt]
theorem aoI(b:UInt8)(h:I):Fn aH 205 #[bv b] h λv U=>v= .bool (Fh b)/\U=h:=by
 refine b5 arU rfl ?_;refine .done (.mk _ (abG _ _) ?_);rintro _ _ ⟨rfl,rfl⟩;cases h1:Dg b;refine .done (.mk _ (ajO _ _) ?_);rintro _ _ ⟨rfl,rfl⟩;cases ab:Hd b;refine .done ⟨?_,rfl⟩;simp[Fh,h1,ab,jt];refine .done ⟨?_,rfl⟩;simp[Fh,h1,ab,jt];refine .done ⟨?_,rfl⟩;simp[Fh,h1,jt]
def xg(s:ByteArray)(k:Nat):Obj:=.cells [.string s,R k].toArray 394 (0,0)
def Ag(s:ByteArray)(k:Nat):UInt8:=if h:k<s.size then s[k]else 0
theorem avz(c:Nat)(s:ByteArray)(k:Nat)(h:I)(aw:h c=some (xg s k))(hk:k<=4611686018427387904):Fn aH 203 #[hj c,R 0] h λv U=>v=bv (Ag s k)/\U=h:=by
 refine b5 arS rfl ?_;refine .hp (R k) (bN aw rfl) ?_;refine .aLS ?_;refine .hp (.string s) (bN aw rfl) ?_;refine aW (λh1=>?_) (λh1=>?_);refine .done ⟨?_,rfl⟩;have:¬k<s.size:=by omega
 simp[Ag,this,jt];refine .hp (.string s) (bN aw rfl) ?_;refine .hp (R k) (bN aw rfl) ?_;refine .aLS ?_;have br:k<s.size:=by omega
 refine .done (.mk (bv s[k]) (λw _=>?_) ?_);rw[show((k:Int)+0)=(k:Nat)from by omega];exact WM br;refine .done ⟨?_,rfl⟩;simp[Ag,br,jt]
theorem at2(c:Nat)(s:ByteArray)(k:Nat)(h:I)(aw:h c=some (xg s k)):Fn aH 216 #[hj c] h λv U=>v= .bool (decide ((k:Int)<s.size))/\U=h:=by
 refine b5 arX rfl ?_;refine .hp (R k) (bN aw rfl) ?_;refine .hp (.string s) (bN aw rfl) ?_;exact .done ⟨rfl,rfl⟩
theorem I.rW(af:h b=some J):h.put b J=h:=by
 funext o;unfold I.put
 grind
def qi(s:ByteArray):Nat->Nat->Nat
 |0,k=>k
 |n+1,k=>if k<s.size/\Fh (Ag s k)=true then qi s n (k+1)else k
theorem aea(s:ByteArray):∀n k,k<=s.size->qi s n k<=s.size/\k<=qi s n k
 |0,k,hk=>⟨hk,dd _⟩
 |n+1,k,hk=>by
  rw[qi];split;rename_i h1;have:=aea s n (k+1) h1.1;omega;omega
theorem azI(c:Nat)(s:ByteArray)(h:I)(aw:h c=some (xg s 0))(aj:s.size<=4611686018427387904):Fn aH 204 #[hj c,.func (.func 205) #[] #[]] h λv U=>v= .string (s.extract 0 (qi s s.size 0))/\U=h.put c (xg s (qi s s.size 0)):=by
 refine b5 arT rfl ?_;refine .hp (R (0:Nat)) (bN aw rfl) ?_;refine .mk Nat [0,1,5] (λk=>[.v (hj c),.v (.func (.func 205) #[] #[]),.v (R 0)]) (λ_=>[]) (λk U=>U=h.put c (xg s k)/\k<=s.size/\qi s (s.size-k) k=qi s s.size 0) (λk=>s.size-k) 0 (λ_=>rfl) ⟨(I.rW aw).symm,cO _,rfl⟩ rfl rfl ?_;rintro k e U ⟨rfl,hk,am⟩;have af:(h.put c (xg s k)) c=some (xg s k):=I.bP _ _ _;refine .mk _ (at2 c s k _ af) (λ_ _ aq=>aq.2▸I.le_refl _) ?_;rintro _ _ ⟨rfl,rfl⟩;by_cases h1:(k:Int)<s.size;rw[fo h1];have xv:k<s.size:=by omega
 refine .hp (.string s) (bN af rfl) ?_;refine .hp (R k) (bN af rfl) ?_;refine .done (.mk (bv s[k]) (λw _=>WM xv) ?_);refine .mk _ (aoI _ _) (λ_ _ aq=>aq.2▸I.le_refl _) ?_;rintro _ _ ⟨rfl,rfl⟩;have oL:Ag s k=s[k]:=by simp[Ag,xv]
 have ht:s.size-k=(s.size- (k+1))+1:=by omega
 cases ab:Fh s[k];refine .hp (.string s) (bN af rfl) ?_;refine .hp (R k) (bN af rfl) ?_;refine .done (.mk (.string (s.extract 0 k)) (λw _=>WN (cO _) hk) ?_);have:qi s s.size 0=k:=by simp_all[<-am,ht,qi]
 exact .done ⟨by rw[this];rfl,by rw[this]⟩;refine .hp (R k) (bN af rfl) ?_;refine .aLS ?_;refine .hp c 1 394 [.string s,R k] [.string s,R ((k:Int)+1)] rfl af rfl ?_;refine⟨k+1,rfl,rfl,⟨by rw[I.sZ];rfl,xv,?_⟩,by omega⟩;rw[<-am,ht,qi,aX ⟨xv,by grind⟩];rw[gU h1];refine .hp (.string s) (bN af rfl) ?_;refine .hp (R k) (bN af rfl) ?_;refine .done (.mk (.string (s.extract 0 k)) (λw _=>WN (cO _) hk) ?_);have aY:s.size-k=0:=by omega
 have:qi s s.size 0=k:=by rw[<-am,aY];rfl
 exact .done ⟨by rw[this];rfl,by rw[this]⟩
def A4(s:ByteArray):Bool:=Dg (Ag s 0)&&decide (qi s s.size 0=s.size)&&decide (s.size<=16)
theorem acr(s:ByteArray)(h:I)(aj:s.size<=4611686018427387904):Fn aH 184 #[.string s] h λv U=>v= .bool (A4 s)/\h.le U:=by
 refine b5 arF rfl ?_;refine .mk λb af=>?_;have cu:h.le (h.put b (xg s 0)):=I.du af;have aw:(h.put b (xg s 0)) b=some (xg s 0):=I.bP _ _ _;refine .done (.mk _ (avz b s 0 _ aw (by omega)) ?_);rintro _ _ ⟨rfl,rfl⟩;refine .done (.mk _ (abG _ _) ?_);rintro _ _ ⟨rfl,rfl⟩;cases h1:Dg (Ag s 0);exact .done ⟨by simp[A4,h1,jt],cu⟩;refine .done (.mk _ (azI b s _ aw aj) ?_);rintro _ _ ⟨rfl,rfl⟩;have hw:=(aea s s.size 0 (cO _)).1;have ht:(s.extract 0 (qi s s.size 0)).size=qi s s.size 0:=by simp_all
 conv=>whnf
 refine aW (λab=>?_) (λab=>?_);rw[ht]at ab;have Hy:qi s s.size 0=s.size:=by omega
 refine .done ⟨?_,by rw[I.sZ];exact I.du af⟩;simp[A4,h1,Hy,jt];omega;rw[ht]at ab;have Hy:¬qi s s.size 0=s.size:=λe=>ab (by rw[e]);refine .done ⟨by simp[A4,h1,Hy,jt],?_⟩;rw[I.sZ];exact I.du af
def yr(h U:I)(v:ao)(l:List Int):Prop:=∃A c,v= .slice A l.length c/\bz U 3 1 A l.length c (l.map R)/\∀g,A=some g->h g.block=none
theorem kB(A:Option ar)(n c:Nat)(l:List Int)(h:I)(aO:bg h 1 A n (l.map λz=>[R z]))(aC:n*8<=140737488355328):Fn aH 104 #[.slice A n c] h λr U=>h.le U/\yr h U r l:=by
 have al:l.length=n:=by simpa using aO.len
 refine b5 aqR rfl ?_;refine .mk λb af=>?_;refine .done (.cR 1 _ _ rfl (aO.src _) (by rw[wd];exact IV _) (by grind [c']) (by omega) λbA bu Yw=>?_);refine .bV 1 3 1 bA (0+n) bu _ rfl λU cu am az=>?_;have sB:bz U 3 1 bA (0+n) bu (l.map λz=>[R z]).flatten:=am;rw[dJ,wd,<-al]at sB;exact .done ⟨cu,bA,bu,by rw[dJ,al];rfl,sB,az⟩
theorem s8(n m:Int)(h:I):Fn aH 103 #[R n,R m] h λr U=>r= .bool (decide (1<=n/\n<=m))/\U=h:=by
 refine b5 aqQ rfl ?_;refine aW (λh1=>?_) (λh1=>?_);exact .done ⟨by simp[h1,jt],rfl⟩;exact .done ⟨by simp[h1,jt],rfl⟩
theorem awD{a b:ao}(hk:k<n):over (bG k a++bG (n-k) b) (k*1) [a]=some (bG (k+1) a++bG (n- (k+1)) b):=by
 rw[ib _ _ _ (by grind),ew,List.set_append_right _ _ (by simp),Ob,Nat.sub_self,show n-k=(n- (k+1))+1 from by omega,List.replicate_succ,List.set_cons_zero,List.replicate_succ' (n:=k),mb];rfl
theorem M2(n:Nat)(m:Int)(h:I)(aC:n<=1000000):Fn aH 105 #[R n,R m] h λr U=>h.le U/\yr h U r (bG n m):=by
 refine b5 aqS rfl ?_;refine dN.one n (R 0) rfl rfl rfl rfl (by omega) (by omega) λg=>?_;refine .mk Nat [1,5,10,11] (λk=>[.v (R m),.v (.slice (some g) n n),.v (R n),.v (R k)]) (λk=>[.row 3 1 (some g) n n (bG k (R m)++bG (n-k) (R 0))]) (λk U=>U=h/\k<=n) (λk=>n-k) 0 (λ_=>rfl) ⟨rfl,cO _⟩ rfl rfl ?_;rintro k e U ⟨rfl,hk⟩;refine aW (λh1=>?_) (λh1=>?_);refine .m g rfl ?_;have br:k<n:=by omega
 refine .row 0 3 1 g n n _ (bG (k+1) (R m)++bG (n- (k+1)) (R 0)) (k*1) rfl (by rfl) (awD br) ?_;refine .aLS ?_;exact⟨k+1,rfl,rfl,⟨rfl,br⟩,by omega⟩;have E8:k=n:=by omega
 subst E8;refine .bV 0 3 1 (some g) k k _ rfl λab cu am az=>?_;have sB:bz ab 3 1 (some g) k k (bG k (R m)++bG (k-k) (R 0)):=am;refine .done ⟨cu,some g,k,by simp[jt],?_,az⟩;simp_all
theorem yr.mono{ai h U Az:I}{v:ao}{l:List Int}(x:yr h U v l)(a:ai.le h)(b:U.le Az):yr ai Az v l:=by
 obtain⟨A,c,e,r,f⟩:=x;exact⟨A,c,e,r.mono b,λg ak=>I.none_le a (f g ak)⟩
theorem kD(h:I)(b:Nat)(l:List Int):bg (h.put b (.cells (l.map R).toArray 3 (0,0))) 1 (some ⟨b,0,none⟩) l.length (l.map λz=>[R z]):=bg.lit (I.bP _ _ _) (wd l) (λr am=>by grind) (by simp)
theorem yr.nil(h U:I):yr h U (.slice none 0 0) []:=⟨none,0,rfl,⟨rfl,.inl ⟨rfl,rfl,rfl⟩⟩,λ_ e=>by cases e⟩
def bD(tag:Int)(l:List Int):Int×List Int×List Int:=
 if tag<1\/11<tag then(60,[],[])else
 let n:=l.getD 0 0
 let m:=l.getD 1 0
 let single:=l.length=1
 let pair:=l.length=2/\(1<=n/\n<=16)/\(1<=m/\m<=64)/\n*m<=64
 if tag=1/\(1<=(l.length:Int)/\(l.length:Int)<=16)\/tag=8/\l.length=0 then(0,[1],[1])
 else if tag=2/\single/\(1<=n/\n<=64)then(0,[1],[n])
 else if tag=3/\single/\(1<=n/\n<=64)then(0,[n],[1])
 else if tag=4/\pair then(0,bG n.toNat m,[n*m])
 else if tag=5/\pair then(0,[n*m],bG n.toNat m)
 else if tag=6/\single/\(1<=n/\n<=16)then(0,bG n.toNat 1,[1])
 else if tag=7/\l.length=0 then(0,[1,1],[1])
 else if tag=9/\single/\(1<=n/\n<=16)then(0,[1],bG n.toNat 1)
 else if tag=10/\l.length=2 then(0,[],[1])
 else if tag=11/\single/\(1<=n/\n<=64)then(0,[n],[])
 else(61,[],[])
def OG(h:I)(x:Int×List Int×List Int)(v:ao)(U:I):Prop:=∃a b,v= .tuple #[a,b,R x.1]/\h.le U/\yr h U a x.2.1/\yr h U b x.2.2
theorem OG.err{k:Int}:OG h (k,[],[]) (.tuple #[.slice none 0 0,.slice none 0 0,R k]) h:=⟨_,_,rfl,I.le_refl _,.nil _ _,.nil _ _⟩
theorem FK(tag:Int)(A:Option ar)(n c:Nat)(l:List Int)(h:I)(aO:bg h 1 A n (l.map λz=>[R z]))(aC:n*8<=140737488355328):Fn aH 45 #[.int .u8 tag,.slice A n c] h (OG h (bD tag l)):=by
 have al:l.length=n:=by simpa using aO.len
 refine b5 ase rfl ?_;conv=>whnf
 refine aW (λh1=>?_) (λh1=>?_);conv=>whnf
 rw[bD,aX (.inl h1)];exact .done .err;conv=>whnf
 refine aW (λab=>?_) (λab=>?_);conv=>whnf
 rw[bD,aX (.inr ab)];exact .done .err;have CZ:tag=1\/tag=2\/tag=3\/tag=4\/tag=5\/tag=6\/tag=7\/tag=8\/tag=9\/tag=10\/tag=11:=by omega
 subst al;rcases l with _|⟨x,_|⟨y,_|⟨z,l⟩⟩⟩;conv=>whnf
 rcases CZ with rfl|rfl|rfl|rfl|rfl|rfl|rfl|rfl|rfl|rfl|rfl;conv=>whnf
 refine .done (.mk _ (s8 _ 16 _) ?_);rintro _ _ ⟨rfl,rfl⟩;conv=>whnf
 rw[show bD 1 []=(61,[],[])from by decide];exact .done .err;conv=>whnf
 rw[show bD 2 []=(61,[],[])from by decide];exact .done .err;conv=>whnf
 rw[show bD 3 []=(61,[],[])from by decide];exact .done .err;conv=>whnf
 rw[show bD 4 []=(61,[],[])from by decide];exact .done .err;conv=>whnf
 rw[show bD 5 []=(61,[],[])from by decide];exact .done .err;conv=>whnf
 rw[show bD 6 []=(61,[],[])from by decide];exact .done .err;conv=>whnf
 rw[show bD 7 []=(0,[1,1],[1])from by decide];refine .mk λbL eS=>?_;conv=>whnf
 refine .done (.mk _ (kB _ _ _ _ _ (kD _ bL [1,1]) (by decide)) ?_);rintro cP bJ ⟨cr,dF⟩;have dc:=I.du (J:=.cells (([1,1]:List Int).map R).toArray 3 (0,0)) eS;conv=>whnf
 refine .mk λcy fC=>?_;conv=>whnf
 refine .done (.mk _ (kB _ _ _ _ _ (kD _ cy [1]) (by decide)) ?_);rintro a2 bB ⟨cn,dR⟩;have c9:=I.du (J:=.cells (([1]:List Int).map R).toArray 3 (0,0)) fC;conv=>whnf
 exact .done ⟨cP,a2,rfl,(I.le_trans dc (I.le_trans cr (I.le_trans c9 cn))),dF.mono dc (I.le_trans c9 cn),dR.mono (I.le_trans dc (I.le_trans cr c9)) (I.le_refl _)⟩;conv=>whnf
 rw[show bD 8 []=(0,[1],[1])from by decide];refine .mk λbL eS=>?_;conv=>whnf
 refine .done (.mk _ (kB _ _ _ _ _ (kD _ bL [1]) (by decide)) ?_);rintro cP bJ ⟨cr,dF⟩;have dc:=I.du (J:=.cells (([1]:List Int).map R).toArray 3 (0,0)) eS;conv=>whnf
 refine .mk λcy fC=>?_;conv=>whnf
 refine .done (.mk _ (kB _ _ _ _ _ (kD _ cy [1]) (by decide)) ?_);rintro a2 bB ⟨cn,dR⟩;have c9:=I.du (J:=.cells (([1]:List Int).map R).toArray 3 (0,0)) fC;conv=>whnf
 exact .done ⟨cP,a2,rfl,(I.le_trans dc (I.le_trans cr (I.le_trans c9 cn))),dF.mono dc (I.le_trans c9 cn),dR.mono (I.le_trans dc (I.le_trans cr c9)) (I.le_refl _)⟩;conv=>whnf
 rw[show bD 9 []=(61,[],[])from by decide];exact .done .err;conv=>whnf
 rw[show bD 10 []=(61,[],[])from by decide];exact .done .err;conv=>whnf
 rw[show bD 11 []=(61,[],[])from by decide];exact .done .err;obtain⟨g,rfl⟩:=aO.cc (by simp);conv=>whnf
 refine .mk g rfl (by simp) (by simp) ?_;conv=>whnf
 refine .hp (R x) (aO.one (i:=0) rfl rfl rfl) ?_;conv=>whnf
 rcases CZ with rfl|rfl|rfl|rfl|rfl|rfl|rfl|rfl|rfl|rfl|rfl;conv=>whnf
 refine .done (.mk _ (s8 _ 16 _) ?_);rintro _ _ ⟨rfl,rfl⟩;conv=>whnf
 rw[show bD 1 [x]=(0,[1],[1])from by rfl];refine .mk λbL eS=>?_;conv=>whnf
 refine .done (.mk _ (kB _ _ _ _ _ (kD _ bL [1]) (by decide)) ?_);rintro cP bJ ⟨cr,dF⟩;have dc:=I.du (J:=.cells (([1]:List Int).map R).toArray 3 (0,0)) eS;conv=>whnf
 refine .mk λcy fC=>?_;conv=>whnf
 refine .done (.mk _ (kB _ _ _ _ _ (kD _ cy [1]) (by decide)) ?_);rintro a2 bB ⟨cn,dR⟩;have c9:=I.du (J:=.cells (([1]:List Int).map R).toArray 3 (0,0)) fC;conv=>whnf
 exact .done ⟨cP,a2,rfl,(I.le_trans dc (I.le_trans cr (I.le_trans c9 cn))),dF.mono dc (I.le_trans c9 cn),dR.mono (I.le_trans dc (I.le_trans cr c9)) (I.le_refl _)⟩;conv=>whnf
 refine .done (.mk _ (s8 _ 64 _) ?_);rintro _ _ ⟨rfl,rfl⟩;by_cases hw:1<=x/\x<=64;rw[fo hw];conv=>whnf
 rw[show bD 2 [x]=(0,[1],[x])from by grind [bD]];refine .mk λbL eS=>?_;conv=>whnf
 refine .done (.mk _ (kB _ _ _ _ _ (kD _ bL [1]) (by decide)) ?_);rintro cP bJ ⟨cr,dF⟩;have dc:=I.du (J:=.cells (([1]:List Int).map R).toArray 3 (0,0)) eS;conv=>whnf
 refine .mk λcy fC=>?_;conv=>whnf
 refine .done (.mk _ (kB _ _ _ _ _ (kD _ cy [x]) (by decide)) ?_);rintro a2 bB ⟨cn,dR⟩;have c9:=I.du (J:=.cells (([x]:List Int).map R).toArray 3 (0,0)) fC;conv=>whnf
 exact .done ⟨cP,a2,rfl,(I.le_trans dc (I.le_trans cr (I.le_trans c9 cn))),dF.mono dc (I.le_trans c9 cn),dR.mono (I.le_trans dc (I.le_trans cr c9)) (I.le_refl _)⟩;rw[gU hw];conv=>whnf
 rw[show bD 2 [x]=(61,[],[])from by grind [bD]];exact .done .err;conv=>whnf
 refine .done (.mk _ (s8 _ 64 _) ?_);rintro _ _ ⟨rfl,rfl⟩;by_cases hw:1<=x/\x<=64;rw[fo hw];conv=>whnf
 rw[show bD 3 [x]=(0,[x],[1])from by grind [bD]];refine .mk λbL eS=>?_;conv=>whnf
 refine .done (.mk _ (kB _ _ _ _ _ (kD _ bL [x]) (by decide)) ?_);rintro cP bJ ⟨cr,dF⟩;have dc:=I.du (J:=.cells (([x]:List Int).map R).toArray 3 (0,0)) eS;conv=>whnf
 refine .mk λcy fC=>?_;conv=>whnf
 refine .done (.mk _ (kB _ _ _ _ _ (kD _ cy [1]) (by decide)) ?_);rintro a2 bB ⟨cn,dR⟩;have c9:=I.du (J:=.cells (([1]:List Int).map R).toArray 3 (0,0)) fC;conv=>whnf
 exact .done ⟨cP,a2,rfl,(I.le_trans dc (I.le_trans cr (I.le_trans c9 cn))),dF.mono dc (I.le_trans c9 cn),dR.mono (I.le_trans dc (I.le_trans cr c9)) (I.le_refl _)⟩;rw[gU hw];conv=>whnf
 rw[show bD 3 [x]=(61,[],[])from by grind [bD]];exact .done .err;conv=>whnf
 rw[show bD 4 [x]=(61,[],[])from by rfl];exact .done .err;conv=>whnf
 rw[show bD 5 [x]=(61,[],[])from by rfl];exact .done .err;conv=>whnf
 refine .done (.mk _ (s8 _ 16 _) ?_);rintro _ _ ⟨rfl,rfl⟩;by_cases hw:1<=x/\x<=16;rw[fo hw];conv=>whnf
 obtain⟨k,rfl⟩:∃k:Nat,x=k:=⟨x.toNat,by omega⟩;rw[show bD 6 [(k:Int)]=(0,bG k 1,[1])from by grind [bD]];refine .done (.mk _ (M2 k 1 _ (by omega)) ?_);rintro cP bJ ⟨cr,dF⟩;conv=>whnf
 refine .mk λcy fC=>?_;conv=>whnf
 refine .done (.mk _ (kB _ _ _ _ _ (kD _ cy [1]) (by decide)) ?_);rintro a2 bB ⟨cn,dR⟩;have c9:=I.du (J:=.cells (([1]:List Int).map R).toArray 3 (0,0)) fC;conv=>whnf
 exact .done ⟨cP,a2,rfl,(I.le_trans cr (I.le_trans c9 cn)),dF.mono (I.le_refl _) (I.le_trans c9 cn),dR.mono (I.le_trans cr c9) (I.le_refl _)⟩;rw[gU hw];conv=>whnf
 rw[show bD 6 [x]=(61,[],[])from by grind [bD]];exact .done .err;conv=>whnf
 rw[show bD 7 [x]=(61,[],[])from by rfl];exact .done .err;conv=>whnf
 rw[show bD 8 [x]=(61,[],[])from by rfl];exact .done .err;conv=>whnf
 refine .done (.mk _ (s8 _ 16 _) ?_);rintro _ _ ⟨rfl,rfl⟩;by_cases hw:1<=x/\x<=16;rw[fo hw];conv=>whnf
 obtain⟨k,rfl⟩:∃k:Nat,x=k:=⟨x.toNat,by omega⟩;rw[show bD 9 [(k:Int)]=(0,[1],bG k 1)from by grind [bD]];refine .mk λbL eS=>?_;conv=>whnf
 refine .done (.mk _ (kB _ _ _ _ _ (kD _ bL [1]) (by decide)) ?_);rintro cP bJ ⟨cr,dF⟩;have dc:=I.du (J:=.cells (([1]:List Int).map R).toArray 3 (0,0)) eS;conv=>whnf
 refine .done (.mk _ (M2 k 1 _ (by omega)) ?_);rintro a2 bB ⟨cn,dR⟩;conv=>whnf
 exact .done ⟨cP,a2,rfl,(I.le_trans dc (I.le_trans cr cn)),dF.mono dc cn,dR.mono (I.le_trans dc cr) (I.le_refl _)⟩;rw[gU hw];conv=>whnf
 rw[show bD 9 [x]=(61,[],[])from by grind [bD]];exact .done .err;conv=>whnf
 rw[show bD 10 [x]=(61,[],[])from by rfl];exact .done .err;conv=>whnf
 refine .done (.mk _ (s8 _ 64 _) ?_);rintro _ _ ⟨rfl,rfl⟩;by_cases hw:1<=x/\x<=64;rw[fo hw];conv=>whnf
 rw[show bD 11 [x]=(0,[x],[])from by grind [bD]];refine .mk λbL eS=>?_;conv=>whnf
 refine .done (.mk _ (kB _ _ _ _ _ (kD _ bL [x]) (by decide)) ?_);rintro cP bJ ⟨cr,dF⟩;have dc:=I.du (J:=.cells (([x]:List Int).map R).toArray 3 (0,0)) eS;conv=>whnf
 exact .done ⟨cP,_,rfl,(I.le_trans dc cr),dF.mono dc (I.le_refl _),.nil _ _⟩;rw[gU hw];conv=>whnf
 rw[show bD 11 [x]=(61,[],[])from by grind [bD]];exact .done .err;obtain⟨g,rfl⟩:=aO.cc (by simp);conv=>whnf
 refine .mk g rfl (by simp) (by simp) ?_;conv=>whnf
 refine .hp (R x) (aO.one (i:=0) rfl rfl rfl) ?_;conv=>whnf
 refine .mk g rfl (by simp) (by simp) ?_;conv=>whnf
 refine .hp (R y) (aO.one (i:=1) rfl rfl rfl) ?_;conv=>whnf
 refine .done (.mk _ (s8 x 16 _) ?_);rintro _ _ ⟨rfl,rfl⟩;by_cases ie:1<=x/\x<=16;rw[fo ie];conv=>whnf
 refine .done (.mk _ (s8 y 64 _) ?_);rintro _ _ ⟨rfl,rfl⟩;by_cases hR:1<=y/\y<=64;rw[fo hR];have mr:x*y<=16*64/\0<=x*y:=⟨Int.mul_le_mul ie.2 hR.2 (by omega) (by omega),Int.mul_nonneg (by omega) (by omega)⟩;conv=>whnf
 refine .aLS ?_;conv=>whnf
 by_cases kW:x*y<=64;rw[fo kW];rcases CZ with rfl|rfl|rfl|rfl|rfl|rfl|rfl|rfl|rfl|rfl|rfl;conv=>whnf
 refine .done (.mk _ (s8 _ 16 _) ?_);rintro _ _ ⟨rfl,rfl⟩;conv=>whnf
 rw[show bD 1 [x,y]=(0,[1],[1])from by rfl];refine .mk λbL eS=>?_;conv=>whnf
 refine .done (.mk _ (kB _ _ _ _ _ (kD _ bL [1]) (by decide)) ?_);rintro cP bJ ⟨cr,dF⟩;have dc:=I.du (J:=.cells (([1]:List Int).map R).toArray 3 (0,0)) eS;conv=>whnf
 refine .mk λcy fC=>?_;conv=>whnf
 refine .done (.mk _ (kB _ _ _ _ _ (kD _ cy [1]) (by decide)) ?_);rintro a2 bB ⟨cn,dR⟩;have c9:=I.du (J:=.cells (([1]:List Int).map R).toArray 3 (0,0)) fC;conv=>whnf
 exact .done ⟨cP,a2,rfl,(I.le_trans dc (I.le_trans cr (I.le_trans c9 cn))),dF.mono dc (I.le_trans c9 cn),dR.mono (I.le_trans dc (I.le_trans cr c9)) (I.le_refl _)⟩;conv=>whnf
 rw[show bD 2 [x,y]=(61,[],[])from by rfl];exact .done .err;conv=>whnf
 rw[show bD 3 [x,y]=(61,[],[])from by rfl];exact .done .err;conv=>whnf
 obtain⟨k,rfl⟩:∃k:Nat,x=k:=⟨x.toNat,by omega⟩;rw[show bD 4 [(k:Int),y]=(0,bG k y,[(k:Int)*y])from by grind [bD]];refine .done (.mk _ (M2 k y _ (by omega)) ?_);rintro cP bJ ⟨cr,dF⟩;conv=>whnf
 refine .aLS ?_;conv=>whnf
 refine .mk λcy fC=>?_;conv=>whnf
 refine .done (.mk _ (kB _ _ _ _ _ (kD _ cy [(k:Int)*y]) (by decide)) ?_);rintro a2 bB ⟨cn,dR⟩;have c9:=I.du (J:=.cells (([(k:Int)*y]:List Int).map R).toArray 3 (0,0)) fC;conv=>whnf
 exact .done ⟨cP,a2,rfl,(I.le_trans cr (I.le_trans c9 cn)),dF.mono (I.le_refl _) (I.le_trans c9 cn),dR.mono (I.le_trans cr c9) (I.le_refl _)⟩;conv=>whnf
 obtain⟨k,rfl⟩:∃k:Nat,x=k:=⟨x.toNat,by omega⟩;rw[show bD 5 [(k:Int),y]=(0,[(k:Int)*y],bG k y)from by grind [bD]];refine .aLS ?_;conv=>whnf
 refine .mk λbL eS=>?_;conv=>whnf
 refine .done (.mk _ (kB _ _ _ _ _ (kD _ bL [(k:Int)*y]) (by decide)) ?_);rintro cP bJ ⟨cr,dF⟩;have dc:=I.du (J:=.cells (([(k:Int)*y]:List Int).map R).toArray 3 (0,0)) eS;conv=>whnf
 refine .done (.mk _ (M2 k y _ (by omega)) ?_);rintro a2 bB ⟨cn,dR⟩;conv=>whnf
 exact .done ⟨cP,a2,rfl,(I.le_trans dc (I.le_trans cr cn)),dF.mono dc cn,dR.mono (I.le_trans dc cr) (I.le_refl _)⟩;conv=>whnf
 rw[show bD 6 [x,y]=(61,[],[])from by rfl];exact .done .err;conv=>whnf
 rw[show bD 7 [x,y]=(61,[],[])from by rfl];exact .done .err;conv=>whnf
 rw[show bD 8 [x,y]=(61,[],[])from by rfl];exact .done .err;conv=>whnf
 rw[show bD 9 [x,y]=(61,[],[])from by rfl];exact .done .err;conv=>whnf
 rw[show bD 10 [x,y]=(0,[],[1])from by rfl];refine .mk λbL eS=>?_;conv=>whnf
 refine .done (.mk _ (kB _ _ _ _ _ (kD _ bL [1]) (by decide)) ?_);rintro cP bJ ⟨cr,dF⟩;have dc:=I.du (J:=.cells (([1]:List Int).map R).toArray 3 (0,0)) eS;conv=>whnf
 exact .done ⟨_,cP,rfl,(I.le_trans dc cr),.nil _ _,dF.mono dc (I.le_refl _)⟩;conv=>whnf
 rw[show bD 11 [x,y]=(61,[],[])from by rfl];exact .done .err;rw[gU kW];rcases CZ with rfl|rfl|rfl|rfl|rfl|rfl|rfl|rfl|rfl|rfl|rfl;conv=>whnf
 refine .done (.mk _ (s8 _ 16 _) ?_);rintro _ _ ⟨rfl,rfl⟩;conv=>whnf
 rw[show bD 1 [x,y]=(0,[1],[1])from by rfl];refine .mk λbL eS=>?_;conv=>whnf
 refine .done (.mk _ (kB _ _ _ _ _ (kD _ bL [1]) (by decide)) ?_);rintro cP bJ ⟨cr,dF⟩;have dc:=I.du (J:=.cells (([1]:List Int).map R).toArray 3 (0,0)) eS;conv=>whnf
 refine .mk λcy fC=>?_;conv=>whnf
 refine .done (.mk _ (kB _ _ _ _ _ (kD _ cy [1]) (by decide)) ?_);rintro a2 bB ⟨cn,dR⟩;have c9:=I.du (J:=.cells (([1]:List Int).map R).toArray 3 (0,0)) fC;conv=>whnf
 exact .done ⟨cP,a2,rfl,(I.le_trans dc (I.le_trans cr (I.le_trans c9 cn))),dF.mono dc (I.le_trans c9 cn),dR.mono (I.le_trans dc (I.le_trans cr c9)) (I.le_refl _)⟩;conv=>whnf
 rw[show bD 2 [x,y]=(61,[],[])from by rfl];exact .done .err;conv=>whnf
 rw[show bD 3 [x,y]=(61,[],[])from by rfl];exact .done .err;conv=>whnf
 rw[show bD 4 [x,y]=(61,[],[])from by grind [bD]];exact .done .err;conv=>whnf
 rw[show bD 5 [x,y]=(61,[],[])from by grind [bD]];exact .done .err;conv=>whnf
 rw[show bD 6 [x,y]=(61,[],[])from by rfl];exact .done .err;conv=>whnf
 rw[show bD 7 [x,y]=(61,[],[])from by rfl];exact .done .err;conv=>whnf
 rw[show bD 8 [x,y]=(61,[],[])from by rfl];exact .done .err;conv=>whnf
 rw[show bD 9 [x,y]=(61,[],[])from by rfl];exact .done .err;conv=>whnf
 rw[show bD 10 [x,y]=(0,[],[1])from by rfl];refine .mk λbL eS=>?_;conv=>whnf
 refine .done (.mk _ (kB _ _ _ _ _ (kD _ bL [1]) (by decide)) ?_);rintro cP bJ ⟨cr,dF⟩;have dc:=I.du (J:=.cells (([1]:List Int).map R).toArray 3 (0,0)) eS;conv=>whnf
 exact .done ⟨_,cP,rfl,(I.le_trans dc cr),.nil _ _,dF.mono dc (I.le_refl _)⟩;conv=>whnf
 rw[show bD 11 [x,y]=(61,[],[])from by rfl];exact .done .err;rw[gU hR];conv=>whnf
 rcases CZ with rfl|rfl|rfl|rfl|rfl|rfl|rfl|rfl|rfl|rfl|rfl;conv=>whnf
 refine .done (.mk _ (s8 _ 16 _) ?_);rintro _ _ ⟨rfl,rfl⟩;conv=>whnf
 rw[show bD 1 [x,y]=(0,[1],[1])from by rfl];refine .mk λbL eS=>?_;conv=>whnf
 refine .done (.mk _ (kB _ _ _ _ _ (kD _ bL [1]) (by decide)) ?_);rintro cP bJ ⟨cr,dF⟩;have dc:=I.du (J:=.cells (([1]:List Int).map R).toArray 3 (0,0)) eS;conv=>whnf
 refine .mk λcy fC=>?_;conv=>whnf
 refine .done (.mk _ (kB _ _ _ _ _ (kD _ cy [1]) (by decide)) ?_);rintro a2 bB ⟨cn,dR⟩;have c9:=I.du (J:=.cells (([1]:List Int).map R).toArray 3 (0,0)) fC;conv=>whnf
 exact .done ⟨cP,a2,rfl,(I.le_trans dc (I.le_trans cr (I.le_trans c9 cn))),dF.mono dc (I.le_trans c9 cn),dR.mono (I.le_trans dc (I.le_trans cr c9)) (I.le_refl _)⟩;conv=>whnf
 rw[show bD 2 [x,y]=(61,[],[])from by rfl];exact .done .err;conv=>whnf
 rw[show bD 3 [x,y]=(61,[],[])from by rfl];exact .done .err;conv=>whnf
 rw[show bD 4 [x,y]=(61,[],[])from by grind [bD]];exact .done .err;conv=>whnf
 rw[show bD 5 [x,y]=(61,[],[])from by grind [bD]];exact .done .err;conv=>whnf
 rw[show bD 6 [x,y]=(61,[],[])from by rfl];exact .done .err;conv=>whnf
 rw[show bD 7 [x,y]=(61,[],[])from by rfl];exact .done .err;conv=>whnf
 rw[show bD 8 [x,y]=(61,[],[])from by rfl];exact .done .err;conv=>whnf
 rw[show bD 9 [x,y]=(61,[],[])from by rfl];exact .done .err;conv=>whnf
 rw[show bD 10 [x,y]=(0,[],[1])from by rfl];refine .mk λbL eS=>?_;conv=>whnf
 refine .done (.mk _ (kB _ _ _ _ _ (kD _ bL [1]) (by decide)) ?_);rintro cP bJ ⟨cr,dF⟩;have dc:=I.du (J:=.cells (([1]:List Int).map R).toArray 3 (0,0)) eS;conv=>whnf
 exact .done ⟨_,cP,rfl,(I.le_trans dc cr),.nil _ _,dF.mono dc (I.le_refl _)⟩;conv=>whnf
 rw[show bD 11 [x,y]=(61,[],[])from by rfl];exact .done .err;rw[gU ie];conv=>whnf
 rcases CZ with rfl|rfl|rfl|rfl|rfl|rfl|rfl|rfl|rfl|rfl|rfl;conv=>whnf
 refine .done (.mk _ (s8 _ 16 _) ?_);rintro _ _ ⟨rfl,rfl⟩;conv=>whnf
 rw[show bD 1 [x,y]=(0,[1],[1])from by rfl];refine .mk λbL eS=>?_;conv=>whnf
 refine .done (.mk _ (kB _ _ _ _ _ (kD _ bL [1]) (by decide)) ?_);rintro cP bJ ⟨cr,dF⟩;have dc:=I.du (J:=.cells (([1]:List Int).map R).toArray 3 (0,0)) eS;conv=>whnf
 refine .mk λcy fC=>?_;conv=>whnf
 refine .done (.mk _ (kB _ _ _ _ _ (kD _ cy [1]) (by decide)) ?_);rintro a2 bB ⟨cn,dR⟩;have c9:=I.du (J:=.cells (([1]:List Int).map R).toArray 3 (0,0)) fC;conv=>whnf
 exact .done ⟨cP,a2,rfl,(I.le_trans dc (I.le_trans cr (I.le_trans c9 cn))),dF.mono dc (I.le_trans c9 cn),dR.mono (I.le_trans dc (I.le_trans cr c9)) (I.le_refl _)⟩;conv=>whnf
 rw[show bD 2 [x,y]=(61,[],[])from by rfl];exact .done .err;conv=>whnf
 rw[show bD 3 [x,y]=(61,[],[])from by rfl];exact .done .err;conv=>whnf
 rw[show bD 4 [x,y]=(61,[],[])from by grind [bD]];exact .done .err;conv=>whnf
 rw[show bD 5 [x,y]=(61,[],[])from by grind [bD]];exact .done .err;conv=>whnf
 rw[show bD 6 [x,y]=(61,[],[])from by rfl];exact .done .err;conv=>whnf
 rw[show bD 7 [x,y]=(61,[],[])from by rfl];exact .done .err;conv=>whnf
 rw[show bD 8 [x,y]=(61,[],[])from by rfl];exact .done .err;conv=>whnf
 rw[show bD 9 [x,y]=(61,[],[])from by rfl];exact .done .err;conv=>whnf
 rw[show bD 10 [x,y]=(0,[],[1])from by rfl];refine .mk λbL eS=>?_;conv=>whnf
 refine .done (.mk _ (kB _ _ _ _ _ (kD _ bL [1]) (by decide)) ?_);rintro cP bJ ⟨cr,dF⟩;have dc:=I.du (J:=.cells (([1]:List Int).map R).toArray 3 (0,0)) eS;conv=>whnf
 exact .done ⟨_,cP,rfl,(I.le_trans dc cr),.nil _ _,dF.mono dc (I.le_refl _)⟩;conv=>whnf
 rw[show bD 11 [x,y]=(61,[],[])from by rfl];exact .done .err;obtain⟨g,rfl⟩:=aO.cc (by simp);have di:(x::y::z::l).length=l.length+3:=rfl;conv=>whnf
 refine aW (λan=>?_) (λan=>by omega);conv=>whnf
 refine .mk g rfl (by decide) (by omega) ?_;conv=>whnf
 refine .hp (R x) (aO.one (i:=0) rfl rfl rfl) ?_;conv=>whnf
 refine aW (λaR=>?_) (λaR=>by omega);conv=>whnf
 refine .mk g rfl (by decide) (by omega) ?_;conv=>whnf
 refine .hp (R y) (aO.one (i:=1) rfl rfl rfl) ?_;conv=>whnf
 rcases CZ with rfl|rfl|rfl|rfl|rfl|rfl|rfl|rfl|rfl|rfl|rfl;conv=>whnf
 refine .done (.mk _ (s8 _ 16 _) ?_);rintro _ _ ⟨rfl,rfl⟩;by_cases hw:(1:Int)<=(((x::y::z::l).length:Nat):Int)/\(((x::y::z::l).length:Nat):Int)<=16;rw[fo hw];conv=>whnf
 rw[show bD 1 (x::y::z::l)=(0,[1],[1])from by grind [bD]];refine .mk λbL eS=>?_;conv=>whnf
 refine .done (.mk _ (kB _ _ _ _ _ (kD _ bL [1]) (by decide)) ?_);rintro cP bJ ⟨cr,dF⟩;have dc:=I.du (J:=.cells (([1]:List Int).map R).toArray 3 (0,0)) eS;conv=>whnf
 refine .mk λcy fC=>?_;conv=>whnf
 refine .done (.mk _ (kB _ _ _ _ _ (kD _ cy [1]) (by decide)) ?_);rintro a2 bB ⟨cn,dR⟩;have c9:=I.du (J:=.cells (([1]:List Int).map R).toArray 3 (0,0)) fC;conv=>whnf
 exact .done ⟨cP,a2,rfl,(I.le_trans dc (I.le_trans cr (I.le_trans c9 cn))),dF.mono dc (I.le_trans c9 cn),dR.mono (I.le_trans dc (I.le_trans cr c9)) (I.le_refl _)⟩;rw[gU hw];conv=>whnf
 rw[show bD 1 (x::y::z::l)=(61,[],[])from by grind [bD]];exact .done .err;conv=>whnf
 rw[show bD 2 (x::y::z::l)=(61,[],[])from by rfl];exact .done .err;conv=>whnf
 rw[show bD 3 (x::y::z::l)=(61,[],[])from by rfl];exact .done .err;conv=>whnf
 rw[show bD 4 (x::y::z::l)=(61,[],[])from by rfl];exact .done .err;conv=>whnf
 rw[show bD 5 (x::y::z::l)=(61,[],[])from by rfl];exact .done .err;conv=>whnf
 rw[show bD 6 (x::y::z::l)=(61,[],[])from by rfl];exact .done .err;conv=>whnf
 rw[show bD 7 (x::y::z::l)=(61,[],[])from by rfl];exact .done .err;conv=>whnf
 rw[show bD 8 (x::y::z::l)=(61,[],[])from by rfl];exact .done .err;conv=>whnf
 rw[show bD 9 (x::y::z::l)=(61,[],[])from by rfl];exact .done .err;conv=>whnf
 rw[show bD 10 (x::y::z::l)=(61,[],[])from by rfl];exact .done .err;conv=>whnf
 rw[show bD 11 (x::y::z::l)=(61,[],[])from by rfl];exact .done .err
def F5(p:ByteArray×Nat):MapEntry:={key:=.string p.1,val:=R 1,born:=p.2}
def rR(bp:List ByteArray):Obj:=.map (bp.zipIdx.map F5).toArray bp.length
theorem V3(a b:ByteArray):(a==b)=decide (a=b):=by
 have h1:(a==b)=(a.data==b.data):=rfl;rw[h1];by_cases e:a=b;subst e;simp;rw[gU e];have:a.data≠b.data:=λh=>e (aAj h);simpa using this
theorem XU(s:ByteArray):∀(l:List (ByteArray×Nat))(i:Nat),∃r,yk .string (.string s) (l.map F5) i=some r/\((r=none/\s∉l.map kn)\/∃o,r=some (o,R 1)/\s∈l.map kn)
 |[],i=>⟨none,rfl,.inl ⟨rfl,by simp⟩⟩
 |p::l,i=>by
  simp only[eO,yk,F5,Instr.sameNow];by_cases e:s=p.1;have:(s==p.1)=true:=by rw[V3,fo e]
  rw[this];exact⟨_,rfl,.inr ⟨_,rfl,by simp[e]⟩⟩;have:(s==p.1)=false:=by rw[V3,gU e]
  rw[this];obtain⟨r,h1,ab⟩:=XU s l (i+1);refine⟨r,h1,?_⟩;rcases ab with⟨aM,aD⟩|⟨o,aM,aD⟩;exact .inl ⟨aM,by simp only[dC,not_or];exact⟨e,aD⟩⟩;exact .inr ⟨o,aM,by simp only[dC];exact .inr aD⟩
theorem zip_fst(bp:List ByteArray):bp.zipIdx.map kn=bp:=by simp
theorem XS(s:ByteArray)(bp:List ByteArray)(w:bb):∃r,(BF 9 (.string s) (bp.zipIdx.map F5)).run aH w= .ok r w/\((r=none/\s∉bp)\/∃o,r=some (o,R 1)/\s∈bp):=by
 obtain⟨r,h1,ab⟩:=XU s bp.zipIdx 0;rw[zip_fst]at ab;refine⟨r,?_,ab⟩;have hu:=gj (w:=w) Ef;simp[BF,hu,h1]
theorem Wp(em:Bool)(s:ByteArray)(w:bb):(qp em 10000 9 (.string s)).run aH w= .ok () w:=by
 have:∀d,(qp em (d+1) 9 (.string s)).run aH w= .ok () w:=λd=>by simp[qp,gj Ef]
 exact this 9999
def CB(bp:List ByteArray)(s:ByteArray):Bool:=bp.any λt=>decide (t=s)
theorem Qo{bp:List ByteArray}:CB bp s=true↔s∈bp:=by simp[CB]
theorem ajP{a b:e3}{bp:List ByteArray}{w:bb}(hm:w.heap[m]?=some (rR bp)):vC aH (.lookup 331 a b false) [.map (some m),.string s] w (R (if CB bp s=true then 1 else 0)) w:=by
 intro kF q aq ah;simp[D2]at ah;obtain⟨h1,ab⟩:=ah;have hu:=gj (w:=w) aih;obtain⟨r,f1,f2⟩:=XS s bp w;have hk:=Wp (bp.zipIdx.map F5).toArray.isEmpty s w;have ak:(Cp m).run aH w= .ok (rR bp) w:=by simp[Cp,w3,hm,rR]
 simp only[cY,aq,h1,ab,Instr.lookup,aDF,hu,hd,ak,rR,jR,hk,f1];rcases f2 with⟨rfl,aC⟩|⟨o,rfl,aC⟩;rw[aE (λe=>aC (Qo.1 e))];have aY:JK aH 3=some (R 0):=by kernel_rfl
 simp[agb aY];rw[aX (Qo.2 aC)];simp[R]
theorem ajQ{a b:e3}{bp:List ByteArray}{w:bb}(hm:w.heap[m]?=some (rR bp))(aC:s∉bp):∀(kF:e3->ao)(q:Oper),q.op= .mapUpdate 331 a b (.const (.int .i64 1))->(D2 (.mapUpdate 331 a b (.const (.int .i64 1)))).toList.map kF=[.map (some m),.string s,.int .i64 1]->(cY kF q).run aH w= .ok .skip {w with heap:=w.heap.setIfInBounds m (rR (bp++[s]))}:=by
 intro kF q aq ah;simp[D2]at ah;obtain⟨h1,ab,an⟩:=ah;have hu:=gj (w:=w) aih;obtain⟨r,f1,f2⟩:=XS s bp w;have hk:=Wp false s w;have ak:(Cp m).run aH w= .ok (rR bp) w:=by simp[Cp,w3,hm,rR]
 have kQ:∀gh,(setObj m gh).run aH w= .ok () {w with heap:=w.heap.setIfInBounds m gh}:=λgh=>by simp[setObj,w3,hm,rR]
 rcases f2 with⟨rfl,_⟩|⟨o,rfl,h⟩;simp only[cY,aq,h1,ab,an,Instr.mapUpdate,aDF,hu,hd,ak,rR,jR,hk,f1,kQ];rw[show(⟨.string s,.int .i64 1,bp.length⟩:MapEntry)=F5 (s,bp.length)from rfl];simp[List.zipIdx_append];exact absurd h aC
def oc(bp:List ByteArray)(s:ByteArray):Int:=if A4 s=false then 82 else if CB bp s=true then 83 else 0
def xO(e:Int)(bp:List ByteArray)(s:ByteArray):List ByteArray:=if e=0 then bp++[s]else bp
theorem Sc(c m:Nat)(cs:List ao)(bp:List ByteArray)(s:ByteArray)(h:I)(aw:h c=some (.cells cs.toArray 334 (0,0)))(cg:cs[5]?=some (.map (some m)))(hm:h m=some (rR bp))(aj:s.size<=4611686018427387904):Fn aH 185 #[hj c,.string s] h λv U=>v=R (oc bp s)/\∃h1,h.le h1/\U=h1.put m (rR (xO (oc bp s) bp s)):=by
 refine b5 arG rfl ?_;refine .done (.mk _ (acr s _ aj) ?_);rintro _ h1 ⟨rfl,cr⟩;have ks:=cr _ _ aw;have mS:=cr _ _ hm;cases aC:A4 s;refine .done ⟨by rw[oc,aX aC];rfl,h1,cr,?_⟩;rw[oc,aX aC];exact(I.rW mS).symm;refine .hp _ (bN ks cg) ?_;refine .done (.mk _ (λw hw=>ajP (bp:=bp) (hw _ _ mS)) ?_);refine aW (λab=>?_) (λab=>?_);have lX:CB bp s=true:=by
  by_cases e:CB bp s=true;exact e;rw[aE e]at ab;omega
 have kP:oc bp s=83:=by rw[oc,aE (by simp[aC]),aX lX]
 refine .done ⟨by rw[kP];rfl,h1,cr,?_⟩;rw[kP];exact(I.rW mS).symm;have lX:¬CB bp s=true:=by
  intro e;rw[aX e]at ab;omega
 have kP:oc bp s=0:=by rw[oc,aE (by simp[aC]),aE lX]
 refine .hp _ (bN ks cg) ?_;refine .done (.aeM m _ _ mS (λw hw=>ajQ (hw _ _ mS) λe=>lX (Qo.2 e)) ?_);refine .done ⟨by rw[kP];rfl,h1,cr,?_⟩;rw[kP];rfl
theorem alf(l:List ao):(l.map λv=>[v]).flatten=l:=by
 induction l with
 |nil=>rfl
 |cons a l bE=>rw[eO,List.flatten_cons,bE];rfl
theorem bz.dr{l:List ao}(x:bz h bs 1 A n c l):bg h 1 A n (l.map λv=>[v]):=bz.dG (by rw[alf];exact x) (λr am=>by obtain⟨v,_,rfl⟩:=dn.1 am;rfl) (by decide)
def xa(r:List Bool):Obj:=.cells (r.map qB).toArray 4 (0,0)
def m8(p:Nat×List Bool):ao:=.slice (some ⟨p.1,0,none⟩) p.2.length p.2.length
structure GZ(h:I)(A:Option ar)(c:Nat)(rs:List (Nat×List Bool)):Prop where
 out:bz h 193 1 A rs.length c (rs.map m8)
 gl:∀p∈rs,h p.1=some (xa p.2)
theorem GZ.row(x:GZ h A c rs){g:ar}(ak:A=some g)(ag:i<rs.length):h.cell? (g.add (i*1))=some (m8 rs[i]):=x.out.dr.one ak (i:=i) (by rw[dV,dV,bZ ag];rfl) rfl
def pC(rs:List (Nat×List Bool))(a p:Int):Int:=
 if a<0\/(rs.length:Int)<=a then 84 else
 if p<0\/((rs.getD a.toNat (0,[])).2.length:Int)<=p then 85 else
 if(rs.getD a.toNat (0,[])).2.getD p.toNat false=true then 86 else 0
def nm(rs:List (Nat×List Bool))(a p:Nat):List (Nat×List Bool):=rs.set a ((rs.getD a (0,[])).1,(rs.getD a (0,[])).2.set p true)
def pB(h:I)(rs:List (Nat×List Bool))(a p:Int):I:=if pC rs a p=0 then h.put (rs.getD a.toNat (0,[])).1 (xa ((rs.getD a.toNat (0,[])).2.set p.toNat true))else h
theorem Nc(A:Option ar)(c:Nat)(rs:List (Nat×List Bool))(a p:Int)(h:I)(x:GZ h A c rs):Fn aH 186 #[.slice A rs.length c,R a,R p] h λv U=>v=R (pC rs a p)/\U=pB h rs a p:=by
 refine b5 arH rfl ?_;have KC:(a<0\/(rs.length:Int)<=a)->pC rs a p=84:=λe=>by rw[pC,aX e]
 refine aW (λh1=>?_) (λh1=>?_);exact .done ⟨by rw[KC (.inl h1)];rfl,by simp[pB,KC (.inl h1)]⟩;refine aW (λab=>?_) (λab=>?_);exact .done ⟨by rw[KC (.inr ab)];rfl,by simp[pB,KC (.inr ab)]⟩;obtain⟨i,rfl⟩:∃i:Nat,a=i:=⟨a.toNat,by omega⟩;have ag:i<rs.length:=by omega
 have aB:rs.getD (i:Int).toNat (0,[])=rs[i]:=by simp[cN,bZ ag]
 have KD:(p<0\/(rs[i].2.length:Int)<=p)->pC rs i p=85:=λe=>by rw[pC,aE (by omega),aB,aX e]
 obtain⟨g,ak⟩:=x.out.dr.cc (by omega);have am:=x.row ak ag;refine aW (λan=>?_) (λan=>?_);exact .done ⟨by rw[KD (.inl an)];rfl,by simp[pB,KD (.inl an)]⟩;refine .m g ak ?_;refine .hp _ (by rw[bq];exact am) ?_;refine aW (λaR=>?_) (λaR=>?_);exact .done ⟨by rw[KD (.inr aR)];rfl,by simp[pB,KD (.inr aR)]⟩;obtain⟨k,rfl⟩:∃k:Nat,p=k:=⟨p.toNat,by omega⟩;have hk:k<rs[i].2.length:=by omega
 have af:=x.gl rs[i] (cS ag);have Lu:rs[i].2.getD (k:Int).toNat false=rs[i].2[k]:=by simp[cN,bZ hk]
 have qF:pC rs i k=if rs[i].2[k]=true then 86 else 0:=by rw[pC,aE (by omega),aB,aE (by omega),Lu]
 have lV:h.cell? ((Addr.mk rs[i].1 0 none).add (k*1))=some (.bool rs[i].2[k]):=by
  rw[add_lit,dJ,ew];exact bN af (by rw[dV,bZ hk];rfl)
 refine .m g ak ?_;refine .hp _ (by rw[bq];exact am) ?_;refine .r ?_;refine .hp _ (by rw[bq];exact lV) ?_;cases ah:rs[i].2[k];rw[ah]at qF;refine .m g ak ?_;refine .hp _ (by rw[bq];exact am) ?_;refine .r ?_;refine .hp rs[i].1 (k*1) 4 (rs[i].2.map qB) ((rs[i].2.set k true).map qB) (by rw[add_lit,dJ,bq]) af (by rw[ib _ _ _ (by simp;omega),nb,ew]) ?_;refine .done ⟨by rw[qF];rfl,?_⟩;rw[pB,qF,aB];simp[xa];rw[ah]at qF;exact .done ⟨by rw[qF];rfl,by rw[pB,qF];simp⟩
structure h8 where
 dD:ByteArray
 tag:Int
 A:Option ar
 n:Nat
 c:Nat
 be:List Int
def h8.cells(a:h8):List ao:=[.string a.dD,.int .u8 a.tag,.slice a.A a.n a.c]
structure h8.ok(h:I)(a:h8):Prop where
 dG:bg h 1 a.A a.n (a.be.map λz=>[R z])
 n8:a.n*8<=140737488355328
 gp:a.dD.size<=4611686018427387904
structure GE where
 src:Int
 sp:Int
 dst:Int
 ly:Int
 A:Option ar
 n:Nat
 c:Nat
 st:List Int
def GE.cells(a:GE):List ao:=[R a.src,R a.sp,R a.dst,R a.ly,.slice a.A a.n a.c]
structure GE.ok(h:I)(a:GE):Prop where
 dG:bg h 1 a.A a.n (a.st.map λz=>[R z])
 n8:a.n*8<=140737488355328
structure k0 where
 dD:ByteArray
 act:Int
 port:Int
def k0.cells(a:k0):List ao:=[.string a.dD,R a.act,R a.port]
structure eY where
 dD:ByteArray
 hf:Option ar
 ac:Nat
 bt:List h8
 gv:Option ar
 cM:Nat
 cp:List GE
 eF:Option ar
 cE:Nat
 ins:List k0
 ct:Option ar
 bO:Nat
 outs:List k0
variable {g:eY}
def eY.cells(g:eY):List ao:=[.string g.dD,.slice g.hf g.bt.length g.ac,.slice g.gv g.cp.length g.cM,.slice g.eF g.ins.length g.cE,.slice g.ct g.outs.length g.bO]
structure eY.ok(h:I)(g:eY):Prop where
 dD:g.dD.size<=4611686018427387904
 bt:bg h 3 g.hf g.bt.length (g.bt.map h8.cells)
 act:∀a∈g.bt,a.ok h
 cp:bg h 5 g.gv g.cp.length (g.cp.map GE.cells)
 Ao:∀a∈g.cp,a.ok h
 ins:bg h 3 g.eF g.ins.length (g.ins.map k0.cells)
 aak:∀a∈g.ins,a.dD.size<=4611686018427387904
 outs:bg h 3 g.ct g.outs.length (g.outs.map k0.cells)
 adg:∀a∈g.outs,a.dD.size<=4611686018427387904
theorem eY.ok.mono{h U:I}{g:eY}(x:g.ok h)(le:h.le U):g.ok U:=⟨x.dD,x.bt.mono le,λa a6=>⟨(x.act a a6).dG.mono le,(x.act a a6).n8,(x.act a a6).gp⟩,x.cp.mono le,λa a6=>⟨(x.Ao a a6).dG.mono le,(x.Ao a a6).n8⟩,x.ins.mono le,x.aak,x.outs.mono le,x.adg⟩
def sr(g:eY):Int:=
 if A4 g.dD=false then 82 else if g.bt.length=0 then 80 else if 32<g.bt.length then 81 else if 96<g.cp.length then 81 else if 16<g.ins.length then 81 else if 16<g.outs.length then 81 else 0
def yF(g:eY)(m:Nat)(cm O:ao):List ao:=g.cells++[.map (some m),cm,O]
def DB(a b c:Int):ao:=.agg #[.int .u8 a,R b,R c]
theorem amW(c m:Nat)(g:eY)(cm O:ao)(h:I)(aw:h c=some (.cells (yF g m cm O).toArray 334 (0,0)))(ok:g.ok h):Fn aH 143 #[hj c] h λv U=>h.le U/\∃s1 s2 hN,v= .tuple #[R (sr g),DB s1 s2 hN]:=by
 refine b5 ark rfl ?_;refine .hp g.cells rfl (λo v ah=>?_) ?_;simp only[add_lit,dJ];exact bN aw (by rw[yF,List.getElem?_append_left (List.getElem?_eq_some_iff.1 ah).1];exact ah);refine .done (.mk _ (acr _ _ ok.dD) ?_);rintro _ h1 ⟨rfl,cr⟩;cases aC:A4 g.dD;exact .done ⟨cr,_,_,_,by rw[sr,aX aC];rfl⟩;refine aW (λaM=>?_) (λaM=>?_);exact .done ⟨cr,_,_,_,by rw[sr,aE (by simp[aC]),aX (by omega)];rfl⟩;refine aW (λaD=>?_) (λaD=>?_);exact .done ⟨cr,_,_,_,by rw[sr,aE (by simp[aC]),aE (by omega),aX (by omega)];rfl⟩;refine aW (λbj=>?_) (λbj=>?_);exact .done ⟨cr,_,_,_,by rw[sr,aE (by simp[aC]),aE (by omega),aE (by omega),aX (by omega)];rfl⟩;refine aW (λbT=>?_) (λbT=>?_);exact .done ⟨cr,_,_,_,by rw[sr,aE (by simp[aC]),aE (by omega),aE (by omega),aE (by omega),aX (by omega)];rfl⟩;refine aW (λdz=>?_) (λdz=>?_);exact .done ⟨cr,_,_,_,by rw[sr,aE (by simp[aC]),aE (by omega),aE (by omega),aE (by omega),aE (by omega),aX (by omega)];rfl⟩;exact .done ⟨cr,_,_,_,by rw[sr,aE (by simp[aC]),aE (by omega),aE (by omega),aE (by omega),aE (by omega),aE (by omega)];rfl⟩
def dP(c m:Nat)(aU ro:List (Nat×List Bool)):List Nat:=c::m::(aU.map kn++ro.map kn)
structure kj(ai h:I)(c m:Nat)(g:eY)(bp:List ByteArray)(cm O:ao)(aU ro:List (Nat×List Bool)):Prop where
 le:ai.le h
 head:h c=some (.cells (yF g m cm O).toArray 334 (0,0))
 map:h m=some (rR bp)
 gl:∀p∈aU++ro,h p.1=some (xa p.2)
 gR:(dP c m aU ro).Nodup
 new:∀b∈dP c m aU ro,ai b=none
structure kG(ai h:I)(c m:Nat)(g:eY)(bp:List ByteArray)(gH:Option ar)(cE:Nat)(aU:List (Nat×List Bool))(gy:Option ar)(bO:Nat)(ro:List (Nat×List Bool)):Prop where
 core:kj ai h c m g bp (.slice gH aU.length cE) (.slice gy ro.length bO) aU ro
 Dq:bz h 193 1 gH aU.length cE (aU.map m8)
 Dr:bz h 193 1 gy ro.length bO (ro.map m8)
 Ar:∀g,gH=some g->g.block∉dP c m aU ro/\ai g.block=none
 As:∀g,gy=some g->g.block∉dP c m aU ro/\ai g.block=none
 aDv:∀g b7,gH=some g->gy=some b7->g.block≠b7.block
section
variable {ai h U:I}{c m cE bO:Nat}{g:eY}{bp pv:List ByteArray}{cm O:ao}{gH gy:Option ar}{aU ro:List (Nat×List Bool)}
theorem I.ju(e:k≠b):h.put b J k=h k:=by simp[I.put,e]
theorem zj(le:ai.le h)(e:ai b=none):ai.le (h.put b J):=λo gh ae=>by
 have:o≠b:=λq=>by rw[q,e]at ae;cases ae
 rw[I.ju this];exact le _ _ ae
theorem kj.mono(x:kj ai h c m g bp cm O aU ro)(le:h.le U):kj ai U c m g bp cm O aU ro:=⟨I.le_trans x.le le,le _ _ x.head,le _ _ x.map,λp hp=>le _ _ (x.gl p hp),x.gR,x.new⟩
theorem kj.sf(x:kj ai h c m g bp cm O aU ro):c≠m/\(∀p∈aU++ro,p.1≠c/\p.1≠m):=by
 have gR:=x.gR;simp only[dP,k3,dC,ev,not_or]at gR;obtain⟨⟨c1,c2⟩,eI,_⟩:=gR;refine⟨c1,λp hp=>⟨λe=>?_,λe=>?_⟩⟩;rcases ev.1 hp with q|q;exact c2.1 (by rw[<-e];exact dn.2 ⟨p,q,rfl⟩);exact c2.2 (by rw[<-e];exact dn.2 ⟨p,q,rfl⟩);rcases ev.1 hp with q|q;exact eI.1 (by rw[<-e];exact dn.2 ⟨p,q,rfl⟩);exact eI.2 (by rw[<-e];exact dn.2 ⟨p,q,rfl⟩)
theorem kj.names(x:kj ai h c m g bp cm O aU ro):kj ai (h.put m (rR pv)) c m g pv cm O aU ro:=by
 obtain⟨c1,c2⟩:=x.sf;exact⟨zj x.le (x.new m (by simp[dP])),by rw[I.ju c1];exact x.head,I.bP _ _ _,λp hp=>by rw[I.ju (c2 p hp).2];exact x.gl p hp,x.gR,x.new⟩
theorem kj.aB{JS J8:ao}(x:kj ai h c m g bp cm O aU ro):kj ai (h.put c (.cells (yF g m JS J8).toArray 334 (0,0))) c m g bp JS J8 aU ro:=by
 obtain⟨c1,c2⟩:=x.sf;exact⟨zj x.le (x.new c (by simp[dP])),I.bP _ _ _,by rw[I.ju (d9 c1)];exact x.map,λp hp=>by rw[I.ju (c2 p hp).1];exact x.gl p hp,x.gR,x.new⟩
theorem WF(le:ai.le h)(f:∀g,A=some g->ai g.block=none):ai.le (ei h A):=by
 cases A with
 |none=>exact le
 |some g=>
  intro o J ae;have:o≠g.block:=λe=>by rw[e,f g rfl]at ae;cases ae
  simp only[ei,I.del];rw[aE this];exact le _ _ ae
theorem ajL{o:Nat}(f:∀g,A=some g->g.block≠o):ei h A o=h o:=by
 cases A with
 |none=>rfl
 |some g=>simp only[ei,I.del];rw[aE (d9 (f g rfl))]
theorem kj.del(x:kj ai h c m g bp cm O aU ro)(f:∀g,A=some g->g.block∉dP c m aU ro/\ai g.block=none):kj ai (ei h A) c m g bp cm O aU ro:=by
 have ne:∀o∈dP c m aU ro,ei h A o=h o:=λo ae=>ajL λg ak e=>(f g ak).1 (by rw[e];exact ae);refine⟨WF x.le λg ak=>(f g ak).2,by rw[ne c (by simp[dP])];exact x.head,by rw[ne m (by simp[dP])];exact x.map,λp hp=>?_,x.gR,x.new⟩;rw[ne p.1];exact x.gl p hp;rcases ev.1 hp with q|q;simp only[dP,dC,ev];exact .inr (.inr (.inl (dn.2 ⟨p,q,rfl⟩)));simp only[dP,dC,ev];exact .inr (.inr (.inr (dn.2 ⟨p,q,rfl⟩)))
theorem kj.pu(x:kj ai h c m g bp cm O aU ro):∀o∈dP c m aU ro,h o≠none:=by
 intro o ae;simp only[dP,dC,ev,dn]at ae;rcases ae with rfl|rfl|⟨p,hp,rfl⟩|⟨p,hp,rfl⟩;rw[x.head];simp;rw[x.map];simp;rw[x.gl p (by simp[hp])];simp;rw[x.gl p (by simp[hp])];simp
theorem ad7{b:ar}(r:bz h 4 1 (some b) n n (bG n (.bool false))):b=⟨b.block,0,none⟩/\h b.block=some (xa (bG n false)):=by
 obtain⟨_,r⟩:=r;rcases r with⟨e,_⟩|⟨k,a8,e,aI,_,_,mf,tx⟩;cases e;injection e with e;subst e;refine⟨rfl,?_⟩;rw[aI,xa];have:a8=(List.map qB (bG n false)).toArray:=by
  rw[<-Array.toArray_toList (xs:=a8)];congr 1;rw[k4 (by simp[mf])]at tx;rw[tx];simp
 rw[this]
theorem kj.aiG{r:List Bool}(x:kj ai h c m g bp cm O aU ro)(le:h.le U)(af:h b=none)(am:U b=some (xa r)):kj ai U c m g bp cm O (aU++[(b,r)]) ro:=by
 have aC:b∉dP c m aU ro:=λae=>x.pu b ae af;have perm:(dP c m (aU++[(b,r)]) ro).Perm (b::dP c m aU ro):=by
  simp only[dP,fm,eO,zU,mb];have h1:(aU.map kn++([b]++ro.map kn)).Perm (b::(aU.map kn++ro.map kn)):=List.perm_middle;exact((h1.cons m).cons c).trans (((N1 b m _).cons c).trans (N1 b c _))
 have y:=x.mono le;refine⟨y.le,y.head,y.map,λp hp=>?_,?_,λo ae=>?_⟩;rcases ev.1 hp with q|q;rcases ev.1 q with q|q;exact y.gl p (by simp[q]);simp only[fx]at q;subst q;exact am;exact y.gl p (by simp[q]);exact perm.nodup_iff.2 (k3.2 ⟨aC,x.gR⟩);rcases dC.1 (perm.mem_iff.1 ae)with q|q;subst q;exact I.none_le x.le af;exact x.new o q
theorem kj.aiI{r:List Bool}(x:kj ai h c m g bp cm O aU ro)(le:h.le U)(af:h b=none)(am:U b=some (xa r)):kj ai U c m g bp cm O aU (ro++[(b,r)]):=by
 have aC:b∉dP c m aU ro:=λae=>x.pu b ae af;have perm:(dP c m aU (ro++[(b,r)])).Perm (b::dP c m aU ro):=by
  simp only[dP,fm,eO,zU,<-mb];have h1:(aU.map kn++ro.map kn++[b]).Perm (b::(aU.map kn++ro.map kn)):=List.perm_append_comm;exact((h1.cons m).cons c).trans (((N1 b m _).cons c).trans (N1 b c _))
 have y:=x.mono le;refine⟨y.le,y.head,y.map,λp hp=>?_,?_,λo ae=>?_⟩;rcases ev.1 hp with q|q;exact y.gl p (by simp[q]);rcases ev.1 q with q|q;exact y.gl p (by simp[q]);simp only[fx]at q;subst q;exact am;exact perm.nodup_iff.2 (k3.2 ⟨aC,x.gR⟩);rcases dC.1 (perm.mem_iff.1 ae)with q|q;subst q;exact I.none_le x.le af;exact x.new o q
end
def uD:List ByteArray->List h8->Int
 |_,[]=>0
 |bp,a::l=>if oc bp a.dD≠0 then oc bp a.dD else if(bD a.tag a.be).1≠0 then(bD a.tag a.be).1 else uD (bp++[a.dD]) l
def AX(a:h8):List Bool:=bG (bD a.tag a.be).2.1.length false
def Bb(a:h8):List Bool:=bG (bD a.tag a.be).2.2.length false
def BW(x:Int×List Int×List Int):Prop:=x.2.1.length<=16/\x.2.2.length<=16
theorem BW.ite{p:Prop}[Decidable p]{a b:Int×List Int×List Int}(a6:p->BW a)(af:¬p->BW b):BW (if p then a else b):=by
 by_cases h:p;rw[aX h];exact a6 h;rw[aE h];exact af h
theorem zz(tag:Int)(l:List Int):BW (bD tag l):=by
 have lit:∀(e:Int)(a b:List Int),a.length<=16->b.length<=16->BW (e,a,b):=λe a b h1 ab=>⟨h1,ab⟩;unfold bD;dsimp only;refine .ite (λ_=>lit _ _ _ (by simp) (by simp)) λ_=>?_;refine .ite (λ_=>lit _ _ _ (by simp) (by simp)) λ_=>?_;refine .ite (λ_=>lit _ _ _ (by simp) (by simp)) λ_=>?_;refine .ite (λ_=>lit _ _ _ (by simp) (by simp)) λ_=>?_;refine .ite (λh=>lit _ _ _ (by simp only[Ob];omega) (by simp)) λ_=>?_;refine .ite (λh=>lit _ _ _ (by simp) (by simp only[Ob];omega)) λ_=>?_;refine .ite (λh=>lit _ _ _ (by simp only[Ob];omega) (by simp)) λ_=>?_;refine .ite (λ_=>lit _ _ _ (by simp) (by simp)) λ_=>?_;refine .ite (λh=>lit _ _ _ (by simp) (by simp only[Ob];omega)) λ_=>?_;refine .ite (λ_=>lit _ _ _ (by simp) (by simp)) λ_=>?_;refine .ite (λ_=>lit _ _ _ (by simp) (by simp)) λ_=>?_;exact lit _ _ _ (by simp) (by simp)
structure NE(ai h:I)(c m:Nat)(g:eY)(k:Nat)(gH:Option ar)(cE:Nat)(aU:List (Nat×List Bool))(gy:Option ar)(bO:Nat)(ro:List (Nat×List Bool)):Prop where
 e':kG ai h c m g ((g.bt.take k).map h8.dD) gH cE aU gy bO ro
 aU:aU.map ek=(g.bt.take k).map AX
 ro:ro.map ek=(g.bt.take k).map Bb
theorem aiD(c m:Nat)(g:eY)(ai h:I)(cQ:NE ai h c m g 0 none 0 [] none 0 [])(ok:g.ok ai)(aC:g.bt.length<=32):Fn aH 144 #[hj c] h λv U=>∃s1 s2 hN,v= .tuple #[R (uD [] g.bt),DB s1 s2 hN]/\ai.le U/\(uD [] g.bt=0->∃gH cE aU gy bO ro,NE ai U c m g g.bt.length gH cE aU gy bO ro):=by
 refine b5 arl rfl ?_;refine .hp _ (bN cQ.e'.core.head (o:=1) rfl) ?_;refine .kU [0] (Nat×Option ar×Nat×List (Nat×List Bool)×Option ar×Nat×List (Nat×List Bool)) [0,3,13,14,15] (λ(k,_)=>[.v (hj c),.p 0 0,.v (.slice g.hf g.bt.length g.ac),.v (R g.bt.length),.v (R k)]) (λ_=>[.own [.v (.int .u8 0),.v (R 0),.v (R 0)] 253]) (λ(k,gH,cE,aU,gy,bO,ro) U=>NE ai U c m g k gH cE aU gy bO ro/\k<=g.bt.length/\uD ((g.bt.take k).map h8.dD) (g.bt.drop k)=uD [] g.bt) (λ(k,_)=>g.bt.length-k) (0,none,0,[],none,0,[]) (λ_=>rfl) ⟨cQ,cO _,rfl⟩ rfl rfl rfl ?_;rintro⟨k,gH,cE,aU,gy,bO,ro⟩ e h1 ⟨x,hk,cV⟩;by_cases br:k<g.bt.length;have hQ:=(x.e'.core.del x.e'.Ar).del x.e'.As;refine .abs 193 1 gH aU.length cE _ x.e'.Dq (.abs 193 1 gy ro.length bO _ (x.e'.Dr.del λg b7 aJ aI ck=>x.e'.aDv b7 g aI aJ ck.symm) (.done ?_));generalize ei (ei h1 gH) gy=hH at hQ⊢;refine aW (λaM=>?_) (λaM=>by omega);have vo:=ok.mono hQ.le;obtain⟨jW,lW⟩:=ok.bt.cc (by omega);have vn:=vo.act _ (cS br);refine .m jW lW ?_;refine .hp (g.bt[k]).cells rfl (by rw[bq];exact vo.bt.row lW (iM br)) ?_;refine .done (.mk _ (Sc c m _ _ (g.bt[k]).dD hH hQ.head rfl hQ.map vn.gp) ?_);rintro _ _ ⟨rfl,ab,cn,rfl⟩;have fk:=(hQ.mono cn).names (pv:=xO (oc ((g.bt.take k).map h8.dD) g.bt[k].dD) ((g.bt.take k).map h8.dD) g.bt[k].dD);have aB:g.bt.drop k=g.bt[k]::g.bt.drop (k+1):=o6 br;rw[aB,uD]at cV;refine aW (λaD=>?_) (λaD=>?_);rw[aE (by simpa using aD)]at cV;have tz:xO (oc ((g.bt.take k).map h8.dD) g.bt[k].dD) ((g.bt.take k).map h8.dD) g.bt[k].dD=(g.bt.take k).map h8.dD++[g.bt[k].dD]:=by rw[aD,xO,aX rfl]
 rw[tz]at fk⊢;refine .done (.mk _ (FK _ _ _ _ (g.bt[k]).be _ ((ok.act _ (cS br)).dG.mono fk.le) vn.n8) ?_);rintro _ an ⟨_,_,rfl,dZ,⟨iu,c1,rfl,fv,f1⟩,⟨dE,c2,rfl,dU,f2⟩⟩;have ig:=fk.mono dZ;refine .hp _ (bN ig.head (o:=6) rfl) ?_;have LF:=zz g.bt[k].tag g.bt[k].be;have ik:aU.length=k:=by have:=ho e7 x.aU;simp at this;omega
 have hg:ro.length=k:=by have:=ho e7 x.ro;simp at this;omega
 generalize c5:bD g.bt[k].tag g.bt[k].be=S at LF cV fv dU⊢;obtain⟨Ca,li,bX⟩:=S;simp only[BW]at LF cV fv dU⊢;refine dN.one li.length (.bool false) rfl rfl rfl rfl (by omega) (by omega) λa1=>?_;refine .cR 1 _ [.slice (some a1) li.length li.length] rfl rfl (by simp[Aa]) (by simp[c'];omega) (by omega) λzP zd aAU=>?_;refine .hp c 6 334 (yF g m (.slice gH aU.length cE) (.slice gy ro.length bO)) (yF g m (.slice zP (aU.length+1) zd) (.slice gy ro.length bO)) (by rw[add_lit]) ig.head rfl ?_;have qm:=ig.aB (JS:=.slice zP (aU.length+1) zd) (J8:=.slice gy ro.length bO);refine .hp _ (bN qm.head (o:=7) rfl) ?_;refine dN.one bX.length (.bool false) rfl rfl rfl rfl (by omega) (by omega) λbh=>?_;refine .cR 2 _ [.slice (some bh) bX.length bX.length] rfl rfl (by simp[Aa]) (by simp[c'];omega) (by omega) λGS FJ aAX=>?_;refine .hp c 7 334 (yF g m (.slice zP (aU.length+1) zd) (.slice gy ro.length bO)) (yF g m (.slice zP (aU.length+1) zd) (.slice GS (ro.length+1) FJ)) (by rw[add_lit]) qm.head rfl ?_;have DQ:=qm.aB (JS:=.slice zP (aU.length+1) zd) (J8:=.slice GS (ro.length+1) FJ);refine aW (λbj=>?_) (λbj=>?_);have P9:uD [] g.bt=Ca:=by rw[<-cV,aX bj]
 exact .done ⟨_,_,_,by rw[P9];rfl,DQ.le,λds=>by rw[ds]at P9;exact absurd P9.symm bj⟩;refine .aLS ?_;refine .bV 4 4 1 (some a1) li.length li.length _ rfl λaR cW awT f4=>?_;refine .bV 6 4 1 (some bh) bX.length bX.length _ rfl λcg fW awU f5=>?_;refine .bV 1 193 1 zP (aU.length+1) zd _ rfl λfa hv MT f6=>?_;refine .bV 2 193 1 GS (ro.length+1) FJ _ rfl λmi mv MU f7=>?_;obtain⟨iA,nZ⟩:=ad7 awT;obtain⟨mN,Ki⟩:=ad7 awU;have vz:=DQ.aiG cW (f4 a1 rfl) nZ;have JH:=vz.aiI fW (f5 bh rfl) Ki;have Tq:aU.map m8++[.slice (some a1) li.length li.length]=(aU++[(a1.block,bG li.length false)]).map m8:=by simp[m8,<-iA]
 have Tr:ro.map m8++[.slice (some bh) bX.length bX.length]=(ro++[(bh.block,bG bX.length false)]).map m8:=by simp[m8,<-mN]
 have MT:bz fa 193 1 zP (aU.length+1) zd (aU.map m8++[.slice (some a1) li.length li.length]):=MT;have MU:bz mi 193 1 GS (ro.length+1) FJ (ro.map m8++[.slice (some bh) bX.length bX.length]):=MU;have aAM:Ca=0:=by simpa using bj
 rw[aE bj]at cV;have hS:(g.bt.take (k+1)).map h8.dD=(g.bt.take k).map h8.dD++[g.bt[k].dD]:=by rw[kh br,fm];rfl
 refine .done ⟨(k+1,zP,zd,aU++[(a1.block,bG li.length false)],GS,FJ,ro++[(bh.block,bG bX.length false)]),rfl,rfl,⟨⟨⟨?_,?_,?_,?_,?_,?_⟩,?_,?_⟩,br,?_⟩,by show g.bt.length- (k+1)<g.bt.length-k;omega⟩;rw[hS];simpa using(JH.mono hv).mono mv;have:=MT.mono mv;rw[Tq]at this;simpa using this;rw[Tr]at MU;simpa using MU;exactλb7 dT=>⟨λae=>JH.pu _ ae (f6 b7 dT),I.none_le JH.le (f6 b7 dT)⟩;exactλb7 dT=>⟨λae=>(JH.mono hv).pu _ ae (f7 b7 dT),I.none_le (JH.mono hv).le (f7 b7 dT)⟩;exactλg1 g2 aJ aI ck=>MT.mem aJ (by rw[ck];exact f7 g2 aI);rw[kh br,fm,fm,x.aU];simp[AX,c5];rw[kh br,fm,fm,x.ro];simp[Bb,c5];rw[hS];exact cV;rw[aX (by simpa using aD)]at cV;refine aW (λbj=>?_) (λbj=>absurd bj (by simpa using aD));exact .done ⟨_,_,_,by rw[<-cV];rfl,fk.le,λds=>by rw[ds]at cV;exact absurd cV aD⟩;refine .done ?_;refine aW (λaM=>by omega) (λaM=>?_);have i9:k=g.bt.length:=by omega
 rw[tg (by omega),uD]at cV;refine .done ⟨_,_,_,by rw[<-cV];rfl,x.e'.core.le,λ_=>⟨gH,cE,aU,gy,bO,ro,by rw[<-i9];exact x⟩⟩
theorem Sj{l:List Nat}(gR:l.Nodup){o:Nat}(ag:i<l.length)(ae:o<l.length)(e:l[i]=l[o]):i=o:=by
 rw[List.Nodup,List.pairwise_iff_getElem]at gR;rcases Nat.lt_trichotomy i o with h|h|h;exact absurd e (gR i o ag ae h);exact h;exact absurd e.symm (gR o i ae ag h)
def x3(rs:List (List Bool))(a p:Int):Int:=
 if a<0\/(rs.length:Int)<=a then 84 else
 if p<0\/((rs.getD a.toNat []).length:Int)<=p then 85 else
 if(rs.getD a.toNat []).getD p.toNat false=true then 86 else 0
def rZ(rs:List (List Bool))(a p:Int):List (List Bool):=rs.set a.toNat ((rs.getD a.toNat []).set p.toNat true)
theorem Yo(rs:List (Nat×List Bool))(i:Nat):(rs.map ek).getD i []=(rs.getD i (0,[])).2:=by
 simp only[cN,dV];cases rs[i]? <;>rfl
theorem vv(rs:List (Nat×List Bool))(a p:Int):pC rs a p=x3 (rs.map ek) a p:=by
 rw[pC,x3,Yo,List.length_map]
theorem M5(rs:List (Nat×List Bool))(a p:Int):(nm rs a.toNat p.toNat).map ek=rZ (rs.map ek) a p:=by
 rw[nm,rZ,nb,Yo]
theorem Bk(rs:List (Nat×List Bool))(a p:Nat):(nm rs a p).length=rs.length:=by rw[nm,k2]
theorem M4(rs:List (Nat×List Bool))(a p:Nat):(nm rs a p).map kn=rs.map kn:=by
 rw[nm,nb];by_cases h:a<rs.length;apply vH (by simp);intro i h1 ab;rw[vI];split;rename_i e;subst e;simp[cN,bZ h];rfl;rw[UX (by simpa using h)]
theorem aew(rs:List (Nat×List Bool))(a p:Nat):(nm rs a p).map m8=rs.map m8:=by
 rw[nm,nb];by_cases h:a<rs.length;apply vH (by simp);intro i h1 ab;rw[vI];split;rename_i e;subst e;simp[m8,cN,bZ h];rfl;rw[UX (by simpa using h)]
section
variable {ai h U:I}{c m cE bO:Nat}{g:eY}{bp pv:List ByteArray}{cm O:ao}{gH gy:Option ar}{aU ro:List (Nat×List Bool)}
theorem kj.F6{a p:Nat}(x:kj ai h c m g bp cm O aU ro)(a6:a<aU.length):kj ai (h.put aU[a].1 (xa (aU[a].2.set p true))) c m g bp cm O (nm aU a p) ro:=by
 obtain⟨c1,c2⟩:=x.sf;have mem:aU[a]∈aU++ro:=by simp
 have bW:dP c m (nm aU a p) ro=dP c m aU ro:=by rw[dP,dP,M4]
 have aB:aU.getD a (0,[])=aU[a]:=by simp[cN,bZ a6]
 have gR:=x.gR;simp only[dP,k3,nS]at gR;obtain⟨_,_,dF,dR,hZ⟩:=gR;refine⟨zj x.le (x.new _ (by simp only[dP,dC,ev];exact .inr (.inr (.inl (dn.2 ⟨_,cS a6,rfl⟩))))),?_,?_,λq aq=>?_,by rw[bW];exact x.gR,λb af=>x.new b (by rw[<-bW];exact af)⟩;rw[I.ju (d9 (c2 _ mem).1)];exact x.head;rw[I.ju (d9 (c2 _ mem).2)];exact x.map;rcases ev.1 aq with aq|aq;obtain⟨i,ag,rfl⟩:=rb aq;rw[Bk]at ag;simp only[nm,vI,aB];split;exact I.bP _ _ _;rename_i e;rw[I.ju];exact x.gl _ (by simp);intro aI;have ea:i<(aU.map kn).length:=by simpa using ag
 have fI:a<(aU.map kn).length:=by simpa using a6
 have ck:(aU.map kn)[i]=(aU.map kn)[a]:=by simpa using aI
 exact e (Sj dF ea fI ck).symm;rw[I.ju];exact x.gl _ (by simp[aq]);exactλe=>hZ _ (dn.2 ⟨_,cS a6,rfl⟩) _ (dn.2 ⟨_,aq,rfl⟩) e.symm
theorem kj.axv{a p:Nat}(x:kj ai h c m g bp cm O aU ro)(a6:a<ro.length):kj ai (h.put ro[a].1 (xa (ro[a].2.set p true))) c m g bp cm O aU (nm ro a p):=by
 obtain⟨c1,c2⟩:=x.sf;have mem:ro[a]∈aU++ro:=by simp
 have bW:dP c m aU (nm ro a p)=dP c m aU ro:=by rw[dP,dP,M4]
 have aB:ro.getD a (0,[])=ro[a]:=by simp[cN,bZ a6]
 have gR:=x.gR;simp only[dP,k3,nS]at gR;obtain⟨_,_,dF,dR,hZ⟩:=gR;refine⟨zj x.le (x.new _ (by simp only[dP,dC,ev];exact .inr (.inr (.inr (dn.2 ⟨_,cS a6,rfl⟩))))),?_,?_,λq aq=>?_,by rw[bW];exact x.gR,λb af=>x.new b (by rw[<-bW];exact af)⟩;rw[I.ju (d9 (c2 _ mem).1)];exact x.head;rw[I.ju (d9 (c2 _ mem).2)];exact x.map;rcases ev.1 aq with aq|aq;rw[I.ju];exact x.gl _ (by simp[aq]);exactλe=>hZ _ (dn.2 ⟨_,aq,rfl⟩) _ (dn.2 ⟨_,cS a6,rfl⟩) e;obtain⟨i,ag,rfl⟩:=rb aq;rw[Bk]at ag;simp only[nm,vI,aB];split;exact I.bP _ _ _;rename_i e;rw[I.ju];exact x.gl _ (by simp);intro aI;have ea:i<(ro.map kn).length:=by simpa using ag
 have fI:a<(ro.map kn).length:=by simpa using a6
 have ck:(ro.map kn)[i]=(ro.map kn)[a]:=by simpa using aI
 exact e (Sj dR ea fI ck).symm
theorem bz.ju{bs size n c b:Nat}{A:Option ar}{xs:List ao}{J:Obj}(x:bz h bs size A n c xs)(e:∀g,A=some g->g.block≠b):bz (h.put b J) bs size A n c xs:=by
 obtain⟨h1,ab⟩:=x;refine⟨h1,?_⟩;rcases ab with ab|⟨g,a8,an,aR,cg⟩;exact .inl ab;refine .inr ⟨g,a8,an,?_,cg⟩;rw[I.ju];exact aR;exact e _ an
theorem afe(e:pC rs a p=0):∃i:Nat,a=i/\i<rs.length:=by
 rw[pC]at e;split at e;cases e;exact⟨a.toNat,by omega,by omega⟩
theorem kG.afa(x:kG ai h c m g bp gH cE aU gy bO ro)(e:pC aU a p=0):kG ai (pB h aU a p) c m g bp gH cE (nm aU a.toNat p.toNat) gy bO ro:=by
 obtain⟨i,rfl,ag⟩:=afe e;have aB:aU.getD i (0,[])=aU[i]:=by simp[cN,bZ ag]
 have bW:dP c m (nm aU i p.toNat) ro=dP c m aU ro:=by rw[dP,dP,M4]
 have mem:aU[i].1∈dP c m aU ro:=by simp only[dP,dC,ev];exact .inr (.inr (.inl (dn.2 ⟨_,cS ag,rfl⟩)))
 rw[pB,aX e,bq,aB];exact⟨by rw[Bk];exact x.core.F6 ag,by rw[Bk,aew];exact x.Dq.ju λb7 dT aI=>(x.Ar b7 dT).1 (by rw[aI];exact mem),x.Dr.ju λb7 dT aI=>(x.As b7 dT).1 (by rw[aI];exact mem),λb7 dT=>by rw[bW];exact x.Ar b7 dT,λb7 dT=>by rw[bW];exact x.As b7 dT,x.aDv⟩
theorem kG.afc(x:kG ai h c m g bp gH cE aU gy bO ro)(e:pC ro a p=0):kG ai (pB h ro a p) c m g bp gH cE aU gy bO (nm ro a.toNat p.toNat):=by
 obtain⟨i,rfl,ag⟩:=afe e;have aB:ro.getD i (0,[])=ro[i]:=by simp[cN,bZ ag]
 have bW:dP c m aU (nm ro i p.toNat)=dP c m aU ro:=by rw[dP,dP,M4]
 have mem:ro[i].1∈dP c m aU ro:=by simp only[dP,dC,ev];exact .inr (.inr (.inr (dn.2 ⟨_,cS ag,rfl⟩)))
 rw[pB,aX e,bq,aB];exact⟨by rw[Bk];exact x.core.axv ag,x.Dq.ju λb7 dT aI=>(x.Ar b7 dT).1 (by rw[aI];exact mem),by rw[Bk,aew];exact x.Dr.ju λb7 dT aI=>(x.As b7 dT).1 (by rw[aI];exact mem),λb7 dT=>by rw[bW];exact x.Ar b7 dT,λb7 dT=>by rw[bW];exact x.As b7 dT,x.aDv⟩
theorem kG.side(x:kG ai h c m g bp gH cE aU gy bO ro):GZ h gH cE aU/\GZ h gy bO ro:=⟨⟨x.Dq,λp hp=>x.core.gl p (by simp[hp])⟩,⟨x.Dr,λp hp=>x.core.gl p (by simp[hp])⟩⟩
theorem kG.mono(x:kG ai h c m g bp gH cE aU gy bO ro)(le:h.le U):kG ai U c m g bp gH cE aU gy bO ro:=⟨x.core.mono le,x.Dq.mono le,x.Dr.mono le,x.Ar,x.As,x.aDv⟩
theorem kG.names(x:kG ai h c m g bp gH cE aU gy bO ro):kG ai (h.put m (rR pv)) c m g pv gH cE aU gy bO ro:=by
 have mem:m∈dP c m aU ro:=by simp[dP]
 exact⟨x.core.names,x.Dq.ju λb7 dT aI=>(x.Ar b7 dT).1 (by rw[aI];exact mem),x.Dr.ju λb7 dT aI=>(x.As b7 dT).1 (by rw[aI];exact mem),x.Ar,x.As,x.aDv⟩
end
def nx:List (List Bool)->List (List Bool)->List GE->Int×List (List Bool)×List (List Bool)
 |aU,ro,[]=>(0,aU,ro)
 |aU,ro,x::l=>if x3 ro x.src x.sp≠0 then(x3 ro x.src x.sp,aU,ro)else if x3 aU x.dst x.ly≠0 then(x3 aU x.dst x.ly,aU,ro)else if 256<x.n then(88,aU,ro)else nx (rZ aU x.dst x.ly) (rZ ro x.src x.sp) l
theorem aj2(c m:Nat)(g:eY)(bp:List ByteArray)(ai h:I)(gH gy:Option ar)(cE bO:Nat)(oj om:List (Nat×List Bool))(cQ:kG ai h c m g bp gH cE oj gy bO om)(ok:g.ok ai)(aC:g.cp.length<=96):Fn aH 145 #[hj c] h λv U=>∃s1 s2 hN,v= .tuple #[R (nx (oj.map ek) (om.map ek) g.cp).1,DB s1 s2 hN]/\ai.le U/\((nx (oj.map ek) (om.map ek) g.cp).1=0->∃aU ro,kG ai U c m g bp gH cE aU gy bO ro/\nx (oj.map ek) (om.map ek) g.cp=(0,aU.map ek,ro.map ek)):=by
 generalize kP:nx (oj.map ek) (om.map ek) g.cp=M;refine b5 arn rfl ?_;refine .hp _ (bN cQ.core.head (o:=2) rfl) ?_;refine .mk (Nat×List (Nat×List Bool)×List (Nat×List Bool)) [0,3,12,13,14] (λ(k,_,_)=>[.v (hj c),.p 0 0,.v (.slice g.gv g.cp.length g.cM),.v (R g.cp.length),.v (R k)]) (λ_=>[.own [.v (.int .u8 0),.v (R 0),.v (R 0)] 253]) (λ(k,aU,ro) U=>kG ai U c m g bp gH cE aU gy bO ro/\k<=g.cp.length/\nx (aU.map ek) (ro.map ek) (g.cp.drop k)=M) (λ(k,_,_)=>g.cp.length-k) (0,oj,om) (λ_=>rfl) ⟨cQ,cO _,kP⟩ rfl rfl ?_;rintro⟨k,aU,ro⟩ e h1 ⟨x,hk,cV⟩;refine aW (λaM=>?_) (λaM=>?_);have br:k<g.cp.length:=by omega
 have vo:=ok.mono x.core.le;obtain⟨jW,lW⟩:=ok.cp.cc (by omega);have aB:g.cp.drop k=g.cp[k]::g.cp.drop (k+1):=o6 br;rw[aB,nx]at cV;refine .m jW lW ?_;refine .hp (g.cp[k]).cells rfl (by rw[bq];exact vo.cp.row lW (iM br)) ?_;refine .hp _ (bN x.core.head (o:=7) rfl) ?_;refine .done (.mk _ (Nc gy bO ro _ _ h1 x.side.2) ?_);rintro _ _ ⟨rfl,rfl⟩;refine aW (λaD=>?_) (λaD=>?_);have zt:=aD;rw[vv]at zt;rw[aX zt]at cV;rw[pB,aE aD];exact .done ⟨_,_,_,by rw[<-cV,vv];rfl,x.core.le,λds=>by rw[<-cV]at ds;exact absurd ds zt⟩;have zt:pC ro g.cp[k].src g.cp[k].sp=0:=jw.1 aD;have h2:=x.afc zt;rw[aE (by rw[<-vv];exact aD)]at cV;refine .hp _ (bN h2.core.head (o:=6) rfl) ?_;refine .done (.mk _ (Nc gH cE aU _ _ _ h2.side.1) ?_);rintro _ _ ⟨rfl,rfl⟩;refine aW (λbj=>?_) (λbj=>?_);have qe:=bj;rw[vv]at qe;rw[aX qe]at cV;rw[show pB (pB h1 ro g.cp[k].src g.cp[k].sp) aU g.cp[k].dst g.cp[k].ly=pB h1 ro g.cp[k].src g.cp[k].sp from by rw[pB,aE bj]];exact .done ⟨_,_,_,by rw[<-cV,vv];rfl,h2.core.le,λds=>by rw[<-cV]at ds;exact absurd ds qe⟩;have qe:pC aU g.cp[k].dst g.cp[k].ly=0:=jw.1 bj;have fk:=h2.afa qe;rw[aE (by rw[<-vv];exact bj)]at cV;refine aW (λbT=>?_) (λbT=>?_);rw[aX (by omega)]at cV;exact .done ⟨_,_,_,by rw[<-cV];rfl,fk.core.le,λds=>by rw[<-cV]at ds;exact absurd ds (by simp)⟩;rw[aE (by omega)]at cV;refine .aLS ?_;exact⟨(k+1,nm aU (g.cp[k].dst).toNat (g.cp[k].ly).toNat,nm ro (g.cp[k].src).toNat (g.cp[k].sp).toNat),rfl,rfl,⟨fk,br,by rw[M5,M5];exact cV⟩,by show g.cp.length- (k+1)<g.cp.length-k;omega⟩;rw[tg (by omega),nx]at cV;exact .done ⟨_,_,_,by rw[<-cV];rfl,x.core.le,λ_=>⟨aU,ro,x,cV.symm⟩⟩
def mz:List ByteArray->List (List Bool)->List k0->Int×List ByteArray×List (List Bool)
 |bp,rs,[]=>(0,bp,rs)
 |bp,rs,x::l=>if oc bp x.dD≠0 then(oc bp x.dD,bp,rs)else if x3 rs x.act x.port≠0 then(x3 rs x.act x.port,bp,rs)else mz (bp++[x.dD]) (rZ rs x.act x.port) l
theorem avM(c m:Nat)(g:eY)(tW:List ByteArray)(ai h:I)(gH gy:Option ar)(cE bO:Nat)(oj om:List (Nat×List Bool))(h9:Option ar)(lc:Nat)(l:List k0)(d' jJ:Int)(cQ:kG ai h c m g tW gH cE oj gy bO om)(av:bg ai 3 h9 l.length (l.map k0.cells))(aY:∀a∈l,a.dD.size<=4611686018427387904)(aC:l.length<=16):Fn aH 146 #[hj c,.slice h9 l.length lc,.slice gH oj.length cE,.int .u8 d',R jJ] h λv U=>∃s1 s2 hN,v= .tuple #[R (mz tW (oj.map ek) l).1,DB s1 s2 hN]/\ai.le U/\((mz tW (oj.map ek) l).1=0->∃bp aU,kG ai U c m g bp gH cE aU gy bO om/\mz tW (oj.map ek) l=(0,bp,aU.map ek)):=by
 generalize kP:mz tW (oj.map ek) l=M;refine b5 aaT rfl ?_;refine .mk (Nat×List ByteArray×List (Nat×List Bool)) [0,2,3,4,11,16,17,18] (λ(k,_,_)=>[.v (hj c),.v (.slice gH oj.length cE),.v (.int .u8 d'),.v (R jJ),.p 0 0,.v (.slice h9 l.length lc),.v (R l.length),.v (R k)]) (λ_=>[.own [.v (.int .u8 0),.v (R 0),.v (R 0)] 253]) (λ(k,bp,aU) U=>kG ai U c m g bp gH cE aU gy bO om/\k<=l.length/\aU.length=oj.length/\mz bp (aU.map ek) (l.drop k)=M) (λ(k,_,_)=>l.length-k) (0,tW,oj) (λ_=>rfl) ⟨cQ,cO _,rfl,kP⟩ rfl rfl ?_;rintro⟨k,bp,aU⟩ e h1 ⟨x,hk,ik,cV⟩;refine aW (λaM=>?_) (λaM=>?_);have br:k<l.length:=by omega
 obtain⟨jW,lW⟩:=av.cc (by omega);have aB:l.drop k=l[k]::l.drop (k+1):=o6 br;rw[aB,mz]at cV;refine .m jW lW ?_;refine .hp (l[k]).cells rfl (by rw[bq];exact(av.mono x.core.le).row lW (iM br)) ?_;refine .done (.mk _ (Sc c m _ _ (l[k]).dD h1 x.core.head rfl x.core.map (aY _ (cS br))) ?_);rintro _ _ ⟨rfl,ab,cn,rfl⟩;have fk:=(x.mono cn).names (pv:=xO (oc bp l[k].dD) bp l[k].dD);refine aW (λaD=>?_) (λaD=>?_);rw[aX aD]at cV;exact .done ⟨_,_,_,by rw[<-cV];rfl,fk.core.le,λds=>by rw[<-cV]at ds;exact absurd ds aD⟩;rw[aE aD]at cV;have zt:oc bp l[k].dD=0:=jw.1 aD;have tz:xO (oc bp l[k].dD) bp l[k].dD=bp++[l[k].dD]:=by rw[zt,xO,aX rfl]
 rw[tz]at fk⊢;rw[<-ik];refine .done (.mk _ (Nc gH cE aU _ _ _ fk.side.1) ?_);rintro _ _ ⟨rfl,rfl⟩;refine aW (λbj=>?_) (λbj=>?_);have qe:=bj;rw[vv]at qe;rw[aX qe]at cV;rw[pB,aE bj];exact .done ⟨_,_,_,by rw[<-cV,vv];rfl,fk.core.le,λds=>by rw[<-cV]at ds;exact absurd ds qe⟩;have qe:pC aU l[k].act l[k].port=0:=jw.1 bj;have ig:=fk.afa qe;rw[aE (by rw[<-vv];exact bj)]at cV;refine .aLS ?_;exact⟨(k+1,bp++[l[k].dD],nm aU (l[k].act).toNat (l[k].port).toNat),rfl,rfl,⟨ig,br,by rw[Bk],by rw[M5];exact cV⟩,by show l.length- (k+1)<l.length-k;omega⟩;rw[tg (by omega),mz]at cV;exact .done ⟨_,_,_,by rw[<-cV];rfl,x.core.le,λ_=>⟨bp,aU,x,cV.symm⟩⟩
theorem avN(c m:Nat)(g:eY)(tW:List ByteArray)(ai h:I)(gH gy:Option ar)(cE bO:Nat)(oj om:List (Nat×List Bool))(h9:Option ar)(lc:Nat)(l:List k0)(d' jJ:Int)(cQ:kG ai h c m g tW gH cE oj gy bO om)(av:bg ai 3 h9 l.length (l.map k0.cells))(aY:∀a∈l,a.dD.size<=4611686018427387904)(aC:l.length<=16):Fn aH 146 #[hj c,.slice h9 l.length lc,.slice gy om.length bO,.int .u8 d',R jJ] h λv U=>∃s1 s2 hN,v= .tuple #[R (mz tW (om.map ek) l).1,DB s1 s2 hN]/\ai.le U/\((mz tW (om.map ek) l).1=0->∃bp ro,kG ai U c m g bp gH cE oj gy bO ro/\mz tW (om.map ek) l=(0,bp,ro.map ek)):=by
 generalize kP:mz tW (om.map ek) l=M;refine b5 aaT rfl ?_;refine .mk (Nat×List ByteArray×List (Nat×List Bool)) [0,2,3,4,11,16,17,18] (λ(k,_,_)=>[.v (hj c),.v (.slice gy om.length bO),.v (.int .u8 d'),.v (R jJ),.p 0 0,.v (.slice h9 l.length lc),.v (R l.length),.v (R k)]) (λ_=>[.own [.v (.int .u8 0),.v (R 0),.v (R 0)] 253]) (λ(k,bp,ro) U=>kG ai U c m g bp gH cE oj gy bO ro/\k<=l.length/\ro.length=om.length/\mz bp (ro.map ek) (l.drop k)=M) (λ(k,_,_)=>l.length-k) (0,tW,om) (λ_=>rfl) ⟨cQ,cO _,rfl,kP⟩ rfl rfl ?_;rintro⟨k,bp,ro⟩ e h1 ⟨x,hk,ik,cV⟩;refine aW (λaM=>?_) (λaM=>?_);have br:k<l.length:=by omega
 obtain⟨jW,lW⟩:=av.cc (by omega);have aB:l.drop k=l[k]::l.drop (k+1):=o6 br;rw[aB,mz]at cV;refine .m jW lW ?_;refine .hp (l[k]).cells rfl (by rw[bq];exact(av.mono x.core.le).row lW (iM br)) ?_;refine .done (.mk _ (Sc c m _ _ (l[k]).dD h1 x.core.head rfl x.core.map (aY _ (cS br))) ?_);rintro _ _ ⟨rfl,ab,cn,rfl⟩;have fk:=(x.mono cn).names (pv:=xO (oc bp l[k].dD) bp l[k].dD);refine aW (λaD=>?_) (λaD=>?_);rw[aX aD]at cV;exact .done ⟨_,_,_,by rw[<-cV];rfl,fk.core.le,λds=>by rw[<-cV]at ds;exact absurd ds aD⟩;rw[aE aD]at cV;have zt:oc bp l[k].dD=0:=jw.1 aD;have tz:xO (oc bp l[k].dD) bp l[k].dD=bp++[l[k].dD]:=by rw[zt,xO,aX rfl]
 rw[tz]at fk⊢;rw[<-ik];refine .done (.mk _ (Nc gy bO ro _ _ _ fk.side.2) ?_);rintro _ _ ⟨rfl,rfl⟩;refine aW (λbj=>?_) (λbj=>?_);have qe:=bj;rw[vv]at qe;rw[aX qe]at cV;rw[pB,aE bj];exact .done ⟨_,_,_,by rw[<-cV,vv];rfl,fk.core.le,λds=>by rw[<-cV]at ds;exact absurd ds qe⟩;have qe:pC ro l[k].act l[k].port=0:=jw.1 bj;have ig:=fk.afc qe;rw[aE (by rw[<-vv];exact bj)]at cV;refine .aLS ?_;exact⟨(k+1,bp++[l[k].dD],nm ro (l[k].act).toNat (l[k].port).toNat),rfl,rfl,⟨ig,br,by rw[Bk],by rw[M5];exact cV⟩,by show l.length- (k+1)<l.length-k;omega⟩;rw[tg (by omega),mz]at cV;exact .done ⟨_,_,_,by rw[<-cV];rfl,x.core.le,λ_=>⟨bp,ro,x,cV.symm⟩⟩
def n4(l:List Bool):Bool:=l.all id
def A'(aU ro:List (List Bool)):Int:=if aU.all n4=true/\ro.all n4=true then 0 else 87
theorem Yf{l:List Bool}{q:Nat}(aq:q<l.length)(ah:l[q]=false):n4 l=false:=by
 cases h:n4 l;rfl;rw[n4,List.all_eq_true]at h;have:=h _ (cS aq)
 grind
theorem Yg{l:List Bool}{q:Nat}(aq:q<l.length)(h:n4 (l.take q)=true)(ah:l[q]=true):n4 (l.take (q+1))=true:=by
 rw[kh aq,n4,List.all_append,<-n4,h];simp[ah]
theorem afd(hk:k<rs.length)(h:∀p∈rs.take k,n4 p.2=true)(ah:n4 rs[k].2=true):∀p∈rs.take (k+1),n4 p.2=true:=by
 intro p hp;rw[kh hk,ev,fx]at hp
 grind
theorem au'(c m:Nat)(g:eY)(bp:List ByteArray)(ai h:I)(gH gy:Option ar)(cE bO:Nat)(aU ro:List (Nat×List Bool))(x:kG ai h c m g bp gH cE aU gy bO ro)(ag:aU.length=g.bt.length)(aL:ro.length=g.bt.length)(aC:g.bt.length<=32)(azK:∀p∈aU,p.2.length<=16)(o2:∀p∈ro,p.2.length<=16):Fn aH 147 #[hj c] h λv U=>∃s1 s2 hN,v= .tuple #[R (A' (aU.map ek) (ro.map ek)),DB s1 s2 hN]/\U=h:=by
 have bad:∀k,(hk:k<g.bt.length)->(n4 (aU[k]'(by omega)).2=false\/n4 (ro[k]'(by omega)).2=false)->A' (aU.map ek) (ro.map ek)=87:=by
  intro k hk af;rw[A',aE]
  grind
 refine b5 aro rfl ?_;refine .hp _ (bN x.core.head (o:=1) rfl) ?_;refine .mk Nat [0,3,14,15] (λk=>[.v (hj c),.p 0 0,.v (R g.bt.length),.v (R k)]) (λ_=>[.own [.v (.int .u8 0),.v (R 0),.v (R 0)] 253]) (λk U=>U=h/\k<=g.bt.length/\(∀p∈aU.take k,n4 p.2=true)/\(∀p∈ro.take k,n4 p.2=true)) (λk=>g.bt.length-k) 0 (λ_=>rfl) ⟨rfl,cO _,by simp,by simp⟩ rfl rfl ?_;rintro k e h1 ⟨rfl,hk,f1,f2⟩;refine aW (λaM=>?_) (λaM=>?_);have br:k<g.bt.length:=by omega
 have bJ:k<aU.length:=by omega
 have bB:k<ro.length:=by omega
 obtain⟨g1,kt⟩:=x.Dq.dr.cc (by omega);obtain⟨g2,gV⟩:=x.Dr.dr.cc (by omega);refine .hp _ (bN x.core.head (o:=6) rfl) ?_;refine .m g1 kt ?_;refine .hp _ (by rw[bq];exact x.side.1.row kt bJ) ?_;refine .hp _ (bN x.core.head (o:=7) rfl) ?_;refine .m g2 gV ?_;refine .hp _ (by rw[bq];exact x.side.2.row gV bB) ?_;refine .mk Nat [0,3,4,14,15,32,33,34] (λo=>[.v (hj c),.p 0 0,.v (R k),.v (R g.bt.length),.v (R k),.s 1 0 2 2,.v (R 2),.v (R o)]) (λ_=>[.own [.v (.int .u8 0),.v (R 0),.v (R 0)] 253,.own [.v (m8 aU[k]),.v (m8 ro[k])] 193]) (λo U=>U=h1/\o<=2/\(1<=o->n4 aU[k].2=true)/\(2<=o->n4 ro[k].2=true)) (λo=>2-o) 0 (λ_=>rfl) ⟨rfl,by decide,by simp,by simp⟩ rfl rfl ?_;rintro o e ab ⟨rfl,ae,f3,f4⟩;obtain rfl|rfl|rfl:o=0\/o=1\/o=2:=by omega
 refine .mk (by decide) (by decide) ?_;refine .mk Nat [0,3,4,14,15,32,33,34,38,39,40] (λq=>[.v (hj c),.p 0 0,.v (R k),.v (R g.bt.length),.v (R k),.s 1 0 2 2,.v (R 2),.v (R (0:Nat)),.v (m8 aU[k]),.v (R aU[k].2.length),.v (R q)]) (λ_=>[.own [.v (.int .u8 0),.v (R 0),.v (R 0)] 253,.own [.v (m8 aU[k]),.v (m8 ro[k])] 193]) (λq U=>U=ab/\q<=aU[k].2.length/\n4 (aU[k].2.take q)=true) (λq=>aU[k].2.length-q) 0 (λ_=>rfl) ⟨rfl,cO _,rfl⟩ rfl rfl ?_;rintro q e an ⟨rfl,aq,f5⟩;have af:=x.side.1.gl aU[k] (cS (by omega));have hw:=azK _ (cS bJ);refine aW (λcF=>?_) (λcF=>?_);have p5:q<aU[k].2.length:=by omega
 refine .r ?_;refine .hp (.bool aU[k].2[q]) (by rw[add_lit,dJ,bq,ew];exact bN af (by simp)) ?_;cases ah:aU[k].2[q];exact .done ⟨_,_,_,by rw[bad k br (.inl (Yf p5 ah))];rfl,rfl⟩;refine .aLS ?_;exact⟨q+1,rfl,rfl,⟨rfl,p5,Yg p5 f5 ah⟩,by omega⟩;refine .aLS ?_;have QT:q=aU[k].2.length:=by omega
 rw[QT,pM]at f5;exact⟨1,rfl,rfl,⟨rfl,by omega,λ_=>f5,λ_=>by omega⟩,by omega⟩;refine .mk (by decide) (by decide) ?_;refine .mk Nat [0,3,4,14,15,32,33,34,38,39,40] (λq=>[.v (hj c),.p 0 0,.v (R k),.v (R g.bt.length),.v (R k),.s 1 0 2 2,.v (R 2),.v (R (1:Nat)),.v (m8 ro[k]),.v (R ro[k].2.length),.v (R q)]) (λ_=>[.own [.v (.int .u8 0),.v (R 0),.v (R 0)] 253,.own [.v (m8 aU[k]),.v (m8 ro[k])] 193]) (λq U=>U=ab/\q<=ro[k].2.length/\n4 (ro[k].2.take q)=true) (λq=>ro[k].2.length-q) 0 (λ_=>rfl) ⟨rfl,cO _,rfl⟩ rfl rfl ?_;rintro q e an ⟨rfl,aq,f5⟩;have af:=x.side.2.gl ro[k] (cS (by omega));have hw:=o2 _ (cS bB);refine aW (λcF=>?_) (λcF=>?_);have p5:q<ro[k].2.length:=by omega
 refine .r ?_;refine .hp (.bool ro[k].2[q]) (by rw[add_lit,dJ,bq,ew];exact bN af (by simp)) ?_;cases ah:ro[k].2[q];exact .done ⟨_,_,_,by rw[bad k br (.inr (Yf p5 ah))];rfl,rfl⟩;refine .aLS ?_;exact⟨q+1,rfl,rfl,⟨rfl,p5,Yg p5 f5 ah⟩,by omega⟩;refine .aLS ?_;have QT:q=ro[k].2.length:=by omega
 rw[QT,pM]at f5;exact⟨2,rfl,rfl,⟨rfl,by omega,λ_=>f3 (by omega),λ_=>f5⟩,by omega⟩;refine .aLS ?_;exact⟨k+1,rfl,rfl,⟨rfl,br,afd bJ f1 (f3 (by omega)),afd bB f2 (f4 (by omega))⟩,by omega⟩;have aBb:k=g.bt.length:=by omega
 rw[k4 (by omega)]at f1 f2;have:A' (aU.map ek) (ro.map ek)=0:=by
  grind [A']
 exact .done ⟨_,_,_,by rw[this];rfl,rfl⟩
def mO(g:eY):Int:=
 if sr g≠0 then sr g else
 if uD [] g.bt≠0 then uD [] g.bt else
 let a:=nx (g.bt.map AX) (g.bt.map Bb) g.cp
 if a.1≠0 then a.1 else
 let b:=mz (g.bt.map h8.dD) a.2.1 g.ins
 if b.1≠0 then b.1 else
 let c:=mz b.2.1 a.2.2 g.outs
 if c.1≠0 then c.1 else A' b.2.2 c.2.2
theorem kG.init(hm:h m=none)(aw:(h.put m (.map #[] 0)) c=none):kG h ((h.put m (.map #[] 0)).put c (.cells (yF g m (.slice none 0 0) (.slice none 0 0)).toArray 334 (0,0))) c m g [] none 0 [] none 0 []:=by
 have ne:c≠m:=λe=>by rw[e,I.bP]at aw;cases aw
 have lU:h c=none:=by rwa[I.ju ne]at aw
 refine⟨⟨zj (I.du hm) lU,I.bP _ _ _,by rw[I.ju (d9 ne),I.bP];rfl,by simp,by simp[dP,ne],?_⟩,⟨rfl,.inl ⟨rfl,rfl,rfl⟩⟩,⟨rfl,.inl ⟨rfl,rfl,rfl⟩⟩,(λ_ e=>by cases e),(λ_ e=>by cases e),(λ_ _ e=>by cases e)⟩
 grind [dP]
theorem aeC(rs:List (List Bool))(a p:Int)(w:∀r∈rs,r.length<=16):(rZ rs a p).length=rs.length/\∀r∈rZ rs a p,r.length<=16:=by
 refine⟨by simp[rZ],λr am=>?_⟩;rcases List.mem_or_eq_of_mem_set am with am|rfl
 grind
 grind
def vV(n:Nat)(rs:List (List Bool)):Prop:=rs.length=n/\∀r∈rs,r.length<=16
theorem vV.set{rs:List (List Bool)}(x:vV n rs)(a p:Int):vV n (rZ rs a p):=⟨(aeC rs a p x.2).1.trans x.1,(aeC rs a p x.2).2⟩
theorem W5{n:Nat}:∀(l:List GE)(aU ro:List (List Bool)),vV n aU->vV n ro->vV n (nx aU ro l).2.1/\vV n (nx aU ro l).2.2
 |[],_,_,h1,ab=>⟨h1,ab⟩
 |x::l,aU,ro,h1,ab=>by
  rw[nx];split
  grind
  split
  grind
  split
  grind
  exact W5 l _ _ (h1.set _ _) (ab.set _ _)
theorem SS{n:Nat}:∀(l:List k0)(bp:List ByteArray)(rs:List (List Bool)),vV n rs->vV n (mz bp rs l).2.2
 |[],_,_,h1=>h1
 |x::l,bp,rs,h1=>by
  rw[mz];split;omega;split;omega;exact SS l _ _ (h1.set _ _)
theorem akQ(g:eY)(h:I)(ok:g.ok h):Fn aH 102 #[.agg g.cells.toArray] h λv U=>h.le U/\∃s1 s2 hN,v= .tuple #[R (mO g),DB s1 s2 hN]:=by
 refine b5 aqP rfl ?_;refine .mk λm hm=>?_;refine .mk λc aw=>?_;have cQ:=kG.init (g:=g) hm aw;refine .done (.mk _ (amW c m g _ _ _ cQ.core.head (ok.mono cQ.core.le)) ?_);rintro _ h1 ⟨cr,s1,s2,hN,rfl⟩;have h2:=cQ.mono cr;refine aW (λaM=>?_) (λaM=>?_);exact .done ⟨h2.core.le,_,_,_,by rw[mO,aX aM];rfl⟩;have FY:sr g=0:=jw.1 aM;obtain⟨bL,cy,gE,iW⟩:g.bt.length<=32/\g.cp.length<=96/\g.ins.length<=16/\g.outs.length<=16:=by
  grind [sr]
 refine .done (.mk _ (aiD c m g h h1 ⟨h2,rfl,rfl⟩ ok bL) ?_);rintro _ ab ⟨s1,s2,hN,rfl,cn,aO⟩;refine aW (λaD=>?_) (λaD=>?_);exact .done ⟨cn,_,_,_,by rw[mO,aE aM,aX aD];rfl⟩;obtain⟨gH,cE,aU,gy,bO,ro,fk⟩:=aO (jw.1 aD);obtain⟨fk,iA,mN⟩:=fk;rw[pM]at fk iA mN;have azD:vV g.bt.length (g.bt.map AX):=⟨by simp,λr am=>by obtain⟨a,_,rfl⟩:=dn.1 am;simpa[AX]using(zz a.tag a.be).1⟩;have azE:vV g.bt.length (g.bt.map Bb):=⟨by simp,λr am=>by obtain⟨a,_,rfl⟩:=dn.1 am;simpa[Bb]using(zz a.tag a.be).2⟩;refine .done (.mk _ (aj2 c m g _ h ab gH gy cE bO aU ro fk ok cy) ?_);rw[iA,mN];rintro _ an ⟨s1,s2,hN,rfl,dZ,cV⟩;refine aW (λbj=>?_) (λbj=>?_);exact .done ⟨dZ,_,_,_,by rw[mO,aE aM,aE aD];dsimp only;rw[aX bj];rfl⟩;obtain⟨s5,rY,ig,wb⟩:=cV (jw.1 bj);have iI:=W5 g.cp _ _ azD azE;rw[wb]at iI;have c9:rY.length=ro.length/\s5.length=aU.length:=by
  have h1:=iI.1.1;have ab:=iI.2.1;have an:=ho e7 iA;have aR:=ho e7 mN
  grind
 refine .hp _ (bN ig.core.head (o:=6) rfl) ?_;refine⟨?_,?_⟩;all_goals conv=>whnf
 all_goals refine .done (.mk _ (avM c m g _ h an gH gy cE bO s5 rY g.eF g.cE g.ins _ _ ig ok.ins ok.aak gE) ?_)
 all_goals rintro _ aR ⟨s1,s2,hN,rfl,cW,gf⟩
 all_goals conv=>whnf
 all_goals refine aW (λbT=>?_) (λbT=>?_)
 iterate 2
  exact .done ⟨cW,_,_,_,by rw[mO,aE aM,aE aD];dsimp only;rw[wb,aE (by simp),aX bT];rfl⟩
  rotate_left
 all_goals obtain⟨auK,Jf,qm,EC⟩:=gf (jw.1 bT)
 all_goals have jf:=SS (n:=g.bt.length) g.ins (g.bt.map h8.dD) (s5.map ek) iI.1
 all_goals rw[EC]at jf
 all_goals conv=>whnf
 all_goals refine .hp _ (bN qm.core.head (o:=7) rfl) ?_
 all_goals conv=>whnf
 all_goals refine⟨?_,?_⟩
 all_goals conv=>whnf
 all_goals refine .done (.mk _ (avN c m g _ h aR gH gy cE bO Jf rY g.ct g.bO g.outs _ _ qm ok.outs ok.adg iW) ?_)
 all_goals rintro _ cg ⟨s1,s2,hN,rfl,fW,hO⟩
 all_goals conv=>whnf
 all_goals refine aW (λdz=>?_) (λdz=>?_)
 iterate 4
  exact .done ⟨fW,_,_,_,by rw[mO,aE aM,aE aD];dsimp only;rw[wb,aE (by simp)];dsimp only;rw[EC,aE (by simp)];dsimp only;rw[aX dz];rfl⟩
  rotate_left
 all_goals obtain⟨aBK,Jg,DQ,WY⟩:=hO (jw.1 dz)
 all_goals have lF:=SS (n:=g.bt.length) g.outs auK (rY.map ek) iI.2
 all_goals rw[WY]at lF
 all_goals conv=>whnf
 all_goals refine .done (.mk _ (au' c m g _ h cg gH gy cE bO Jf Jg DQ (by simpa using jf.1) (by simpa using lF.1) bL (λp hp=>jf.2 _ (dn.2 ⟨p,hp,rfl⟩)) (λp hp=>lF.2 _ (dn.2 ⟨p,hp,rfl⟩))) ?_)
 all_goals rintro _ _ ⟨s1,s2,hN,rfl,rfl⟩
 all_goals conv=>whnf
 all_goals exact .done ⟨DQ.core.le,_,_,_,by rw[mO,aE aM,aE aD];dsimp only;rw[wb,aE (by simp)];dsimp only;rw[EC,aE (by simp)];dsimp only;rw[WY,aE (by simp)];rfl⟩
theorem Wn(g:eY)(h:I)(ok:g.ok h):Fn aH 44 #[.agg g.cells.toArray] h λv U=>h.le U/\v=R (mO g):=by
 refine b5 asd rfl ?_;refine .done (.mk _ (akQ g h ok) ?_);rintro _ h1 ⟨cr,s1,s2,hN,rfl⟩;exact .done ⟨cr,rfl⟩
theorem TL{rs:List (List Bool)}(e:x3 rs a p=0):0<=a/\a<rs.length/\0<=p/\p<((rs.map e7).getD a.toNat 0):=by
 rw[x3]at e
 grind
theorem F7(rs:List (List Bool))(a p:Int):(rZ rs a p).map e7=rs.map e7:=by
 rw[rZ,nb,k2];by_cases h:a.toNat<rs.length;apply vH (by simp)
 grind
 rw[UX (by grind)]
def Ij(ls:List Nat)(a p:Int):Prop:=0<=a/\a<ls.length/\0<=p/\p<(ls.getD a.toNat 0:Nat)
theorem W6:∀(l:List GE)(aU ro:List (List Bool)),(nx aU ro l).1=0->∀x∈l,Ij (ro.map e7) x.src x.sp/\Ij (aU.map e7) x.dst x.ly/\x.n<=256
 |[],_,_,_=>by simp
 |x::l,aU,ro,e=>by
  rw[nx]at e;split at e;omega;split at e;omega;split at e;omega;rename_i h1 ab an;have t1:=TL (jw.1 h1);have t2:=TL (jw.1 ab);intro y aQ;rcases dC.1 aQ with rfl|aQ;exact⟨⟨t1.1,by grind,t1.2.2⟩,⟨t2.1,by grind,t2.2.2⟩,by omega⟩;have:=W6 l _ _ e y aQ;rwa[F7,F7]at this
theorem Vv:∀(l:List h8)(bp:List ByteArray),uD bp l=0->∀a∈l,(bD a.tag a.be).1=0
 |[],_,_=>by simp
 |a::l,bp,e=>by
  rw[uD]at e;split at e;omega;split at e;omega;rename_i h1 ab;intro y aQ;rcases dC.1 aQ with rfl|aQ;omega;exact Vv l _ e y aQ
def yO(g:eY)(v:Int):List Int:=match g.bt[v.toNat]?with
 |some a=>(bD a.tag a.be).2.1
 |none=>[]
def yP(g:eY)(v:Int):List Int:=match g.bt[v.toNat]?with
 |some a=>(bD a.tag a.be).2.2
 |none=>[]
theorem ST:∀(l:List k0)(bp:List ByteArray)(rs:List (List Bool)),(mz bp rs l).1=0->∀x∈l,Ij (rs.map e7) x.act x.port
 |[],_,_,_=>by simp
 |x::l,bp,rs,e=>by
  rw[mz]at e;split at e;omega;split at e;omega;rename_i h1 ab;have t1:=TL (jw.1 ab);intro y aQ;rcases dC.1 aQ with rfl|aQ;exact⟨t1.1,by grind,t1.2.2⟩;have:=ST l _ _ e y aQ;rwa[F7]at this
theorem W4:∀(l:List GE)(aU ro:List (List Bool)),(nx aU ro l).2.1.map e7=aU.map e7/\(nx aU ro l).2.2.map e7=ro.map e7
 |[],_,_=>⟨rfl,rfl⟩
 |x::l,aU,ro=>by
  rw[nx];split;simp;split;simp;split;simp;have:=W4 l (rZ aU x.dst x.ly) (rZ ro x.src x.sp);rwa[F7,F7]at this
structure UF(g:eY):Prop where
 cP:1<=g.bt.length
 a32:g.bt.length<=32
 v':g.cp.length<=96
 i16:g.ins.length<=16
 Dl:g.outs.length<=16
 F8:∀a∈g.bt,(bD a.tag a.be).1=0
 Ao:∀x∈g.cp,(0<=x.src/\x.src<g.bt.length/\0<=x.sp/\x.sp<(yP g x.src).length)/\(0<=x.dst/\x.dst<g.bt.length/\0<=x.ly/\x.ly<(yO g x.dst).length)/\x.n<=256
 aoF:∀x∈g.ins,0<=x.act/\x.act<g.bt.length/\0<=x.port/\x.port<(yO g x.act).length
 avi:∀x∈g.outs,0<=x.act/\x.act<g.bt.length/\0<=x.port/\x.port<(yP g x.act).length
theorem aah(h:Ij ((g.bt.map AX).map e7) a p):0<=a/\a<g.bt.length/\0<=p/\p<(yO g a).length:=by
 obtain⟨h1,ab,an,aR⟩:=h
 grind [yO,AX]
theorem aai(h:Ij ((g.bt.map Bb).map e7) a p):0<=a/\a<g.bt.length/\0<=p/\p<(yP g a).length:=by
 obtain⟨h1,ab,an,aR⟩:=h
 grind [yP,Bb]
theorem K0(e:mO g=0):UF g:=by
 rw[mO]at e;split at e;omega;split at e;omega;dsimp only at e;split at e;omega;split at e;omega;split at e;omega;rename_i h1 ab an aR cg;have aM:sr g=0:=jw.1 h1;obtain⟨eD,bL,cy,gE,iW⟩:1<=g.bt.length/\g.bt.length<=32/\g.cp.length<=96/\g.ins.length<=16/\g.outs.length<=16:=by
  grind [sr]
 have yK:=W6 g.cp _ _ (jw.1 an);have el:=W4 g.cp (g.bt.map AX) (g.bt.map Bb);have pi:=ST g.ins _ _ (jw.1 aR);have xS:=ST g.outs _ _ (jw.1 cg);rw[el.1]at pi;rw[el.2]at xS;exact⟨eD,bL,cy,gE,iW,Vv g.bt _ (jw.1 ab),λx ad=>⟨aai (yK x ad).1,aah (yK x ad).2.1,(yK x ad).2.2⟩,λx ad=>aah (pi x ad),λx ad=>aai (xS x ad)⟩
def EJ(g:eY)(x:GE):bo:=⟨x.src,x.dst,(yP g x.src).getD x.sp.toNat 0,(yO g x.dst).getD x.ly.toNat 0,x.n⟩
def fH(g:eY):List bo:=g.cp.map (EJ g)
def ahQ(h U:I)(v:ao)(N:Int)(l:List bo):Prop:=∃A c,v=my N A l.length c/\bz U 157 5 A l.length c (l.map bo.cells).flatten/\∀g,A=some g->h g.block=none
theorem auT(g:eY)(h:I)(ok:g.ok h):Fn aH 21 #[.agg g.cells.toArray] h λv U=>h.le U/\∃n,v= .tuple #[n,R (mO g)]/\(∃(N:Int)(A:Option ar)(m c:Nat),n=my N A m c)/\(mO g=0->ahQ h U n g.bt.length (fH g)):=by
 refine b5 arV rfl ?_;refine .done (.mk _ (Wn g h ok) ?_);rintro _ h1 ⟨cr,rfl⟩;refine aW (λaM=>?_) (λaM=>?_);exact .done ⟨cr,_,rfl,⟨0,none,0,0,rfl⟩,λe=>absurd e aM⟩;have dk:=K0 (jw.1 aM);refine .kU [0,1,2] (Nat×Option ar×Nat) [1,2,5,27,28,29] (λ(k,_,_)=>[.p 0 0,.p 1 0,.p 2 0,.v (.slice g.gv g.cp.length g.cM),.v (R g.cp.length),.v (R k)]) (λ(k,A,c)=>[.own (g.cells.map .v) 26,.own [.v (R 0),.v (.slice none 0 0)] 33,.own [.v (R g.bt.length),.v (.slice A k c)] 33]) (λ(k,A,c) U=>h.le U/\k<=g.cp.length/\bz U 157 5 A k c (((fH g).take k).map bo.cells).flatten/\∀b7,A=some b7->h b7.block=none) (λ(k,_,_)=>g.cp.length-k) (0,none,0) (λ_=>rfl) ⟨cr,cO _,⟨rfl,.inl ⟨rfl,rfl,rfl⟩⟩,λ_ e=>by cases e⟩ rfl rfl rfl ?_;rintro⟨k,A,c⟩ e ab ⟨cn,hk,am,az⟩;by_cases br:k<g.cp.length
 .refine .abs 157 5 A k c _ am (.done ?_);have dZ:=WF cn az;generalize ei ab A=hH at dZ⊢;have vo:=ok.mono dZ;have xt:=dk.Ao _ (cS br);have K8:(g.cp[k]).src.toNat<g.bt.length:=by omega
  have rz:(g.cp[k]).dst.toNat<g.bt.length:=by omega
  refine aW (λaD=>?_) (λaD=>by omega);obtain⟨ge,E2⟩:=ok.cp.cc (by omega);obtain⟨jW,lW⟩:=ok.bt.cc (by omega);refine .m ge E2 ?_;refine .hp (g.cp[k]).cells rfl (by rw[bq];exact vo.cp.row E2 (iM br)) ?_;refine .m jW lW ?_;refine .hp (g.bt[(g.cp[k]).src.toNat]).cells rfl (vo.bt.row lW (iM K8)) ?_;refine .m jW lW ?_;refine .hp (g.bt[(g.cp[k]).dst.toNat]).cells rfl (vo.bt.row lW (iM rz)) ?_;refine⟨?_,?_⟩;all_goals conv=>whnf
  all_goals refine .done (.mk _ (FK _ _ _ _ (g.bt[(g.cp[k]).src.toNat]).be _ (vo.act _ (cS K8)).dG (vo.act _ (cS K8)).n8) ?_)
  all_goals rintro _ an ⟨_,_,rfl,cW,⟨iu,c1,rfl,fv,f1⟩,⟨dE,c2,rfl,dU,f2⟩⟩
  all_goals conv=>whnf
  all_goals refine .done (.mk _ (FK _ _ _ _ (g.bt[(g.cp[k]).dst.toNat]).be _ ((vo.act _ (cS rz)).dG.mono cW) (vo.act _ (cS rz)).n8) ?_)
  all_goals rintro _ aR ⟨_,_,rfl,fW,⟨lm,eI,rfl,gi,f3⟩,⟨agc,tq,rfl,fT,f4⟩⟩
  all_goals conv=>whnf
  all_goals have mN:yP g (g.cp[k]).src=(bD g.bt[(g.cp[k]).src.toNat].tag g.bt[(g.cp[k]).src.toNat].be).2.2:=by grind [yP]
  all_goals have iA:yO g (g.cp[k]).dst=(bD g.bt[(g.cp[k]).dst.toNat].tag g.bt[(g.cp[k]).dst.toNat].be).2.1:=by grind [yO]
  all_goals rw[mN,iA]at xt
  all_goals have dc:(g.cp[k]).sp.toNat<(bD g.bt[(g.cp[k]).src.toNat].tag g.bt[(g.cp[k]).src.toNat].be).2.2.length:=by omega
  all_goals have c9:(g.cp[k]).ly.toNat<(bD g.bt[(g.cp[k]).dst.toNat].tag g.bt[(g.cp[k]).dst.toNat].be).2.1.length:=by omega
  all_goals have t2:=(dU.mono fW).jr
  all_goals have t3:=gi.jr
  all_goals obtain⟨g2,gV⟩:=t2.cc (by omega)
  all_goals obtain⟨g3,Lm⟩:=t3.cc (by omega)
  all_goals refine .m g2 gV ?_
  all_goals conv=>whnf
  all_goals refine .hp _ (t2.one gV (iM dc) rfl) ?_
  all_goals conv=>whnf
  all_goals refine .m g3 Lm ?_
  all_goals conv=>whnf
  all_goals refine .hp _ (t3.one Lm (iM c9) rfl) ?_
  all_goals conv=>whnf
  all_goals refine .cR 3 _ (EJ g g.cp[k]).cells rfl (by simp_all[EJ,bo.cells,mN,iA,R]) (by simp[bo.cells,Aa,R]) (by have:=dk.v';grind [c']) (by have:=dk.v';omega) λbA bu Yw=>?_
  all_goals conv=>whnf
  all_goals refine .ok (by omega) (by have:=dk.v';omega) ?_
  all_goals conv=>whnf
  all_goals refine .bV 3 157 5 bA (k+1) bu _ rfl λcg hv oo f5=>?_
  all_goals have oo:bz cg 157 5 bA (k+1) bu ((((fH g).take k).map bo.cells).flatten++(EJ g g.cp[k]).cells):=oo
  all_goals have anb:k<(fH g).length:=by grind [fH]
  all_goals have iY:(((fH g).take (k+1)).map bo.cells).flatten=(((fH g).take k).map bo.cells).flatten++(EJ g g.cp[k]).cells:=by rw[kh anb,fm,zS];simp[fH]
  all_goals exact .done ⟨(k+1,bA,bu),rfl,rfl,⟨I.le_trans dZ (I.le_trans cW (I.le_trans fW hv)),br,by grind,λb7 dT=>I.none_le (I.le_trans dZ (I.le_trans cW fW)) (f5 b7 dT)⟩,by grind⟩
 refine .done ?_;refine aW (λaD=>by omega) (λaD=>?_);have oN:k=g.cp.length:=by omega
 have al:(fH g).length=k:=by simp[oN,fH]
 rw[k4 (by omega)]at am;refine .done ⟨cn,my g.bt.length A k c,by rw[jw.1 aM];rfl,⟨_,_,_,_,rfl⟩,λ_=>⟨A,c,by rw[al],by grind,az⟩⟩
end Go.Sx
