/- A part of the proof that the statement holds. Conditions: none. -/
import Derived.Recover
import Derived.Test.YtlbdbpaelcnfgaaGreatDoorAC
import Derived.Test.YtlbdbpaelcnfgaaGreatDoorAO
import Derived.Test.YtlbdbpaelcnfgaaGreatDoorAP
open Array renaming empty_append->ajU
open ByteArray renaming ext->aGv
open Classical renaming not_not->jL
open Decidable renaming byContradiction->wJ
open Go renaming Addr->aI,Deferred->vl,FuncId->l4,Operand->fM,Program->eN,ResultVar->BI,Value->ax,World->bw,calls_of_wp_defers->anZ,execOp->dk,getObj->DY,maxLen->eD,run_underlying->gM,undef->fp,wp_mono->xW,yielded->lI
open Go.CallsD renaming mono->aj4
open Go.Deferred renaming ofValue->H5
open Go.Instr renaming checkKey->rk,findKey->Dh,findNow->Di
open Go.IntKind renaming bits->LQ
open Go.Obj renaming cells->bb
open Go.Op renaming intArith->L7,intBits->alI,operands->Iv
open Go.Oper renaming wp->BF
open Go.Proofs.Tryz renaming prog->aB,underlying331->amA,underlying9->BO
open Go.Region renaming wanted->hF
open Go.Result renaming andThen_ok->im
open Go.Sem renaming run->BK,run_bind->ic,run_pure->k8
open Go.Value renaming bool->c5,int->bA,oneCell'->zX,slice->ab,tuple->ey
open Int renaming toNat_natCast->bz
open List renaming append_assoc->kC,cons_append->wP,drop_eq_getElem_cons->mE,drop_eq_nil_of_le->rm,ext_getElem->um,flatten_append->vr,flatten_singleton->akU,getD_eq_getElem?_getD->cx,getElem?_drop->Bu,getElem?_eq_getElem->bZ,getElem?_map->dH,getElem_mem->cG,getElem_of_mem->oe,getElem_set->wQ,length->fi,length_cons->iv,length_drop->mF,length_replicate->wR,length_set->h2,map_append->fF,map_cons->ec,map_nil->x',map_set->lM,mem_append->ej,mem_cons->ek,mem_map->cU,mem_of_mem_take->LV,mem_singleton->hV,nil_append->Im,nodup_append->oS,nodup_cons->iV,replicate->bh,set_eq_of_length_le->X1,take_length->r5,take_of_length_le->lN
open List.Perm renaming swap->Qi
open List.cons renaming injEq->zN
open Nat renaming ble->p0,gcd->h3,gcd_comm->alp,le_add_right->alr,le_of_ble_eq_true->yc,le_refl->dz,lt_of_le_of_lt->alv,lt_succ_self->zR,mod_eq_of_lt->Is,mul_le_mul_right->ur,mul_one->eV,zero_add->dM,zero_le->cW
open Ne renaming symm->d'
open Or renaming inl->bW,inr->bl
open Prod renaming fst->gQ,snd->er
namespace Go.Sx
open Go.Proofs
set_option maxRecDepth 100000
set_option maxHeartbeats 0
set_option linter.all false
variable {s:ByteArray}{a p:Int}{rs:List (Nat×List Bool)}{bs:List ByteArray}{b b7 bK c c7 cc m n size w:Nat}{A:Option aI}
theorem stepT(Q:k7)(e:cy){H:J}{hn:Nat}{D:Option aI}{Y:Nat}{l:ca}{bs:List Nat}{K:J}(x:wM K hn A D m c Y l bs)(hH:K.le (H.off cc b7)){M:dy}(lh:iJ H c7 cc b7 M)(yP:oU M bs l.bM.et)(hw:1<=w)(ED:w<=16){i:Nat}(ai:i<m){k:Nat}(hk:s6 w (l.bM.et.drop i) k)(rF:k<=m)(hL:M.gW+20<=4000000000)(E:Option aI)(o cD:Nat)(G:Option aI)(gc:Nat)(tW rg:List ax)(ag:o<=200000)(he:[0,2,4,6,7,8,9].map e=[.v (ie c7),.v (R w),.p 0 0,.p 1 0,.p 2 0,.v (R i),.v (R k)])
 (SB:k=1->∀P j s y C X t n B h f b r,l.sf i= .cons t n B h f b r->j5 K B h b->[0,2,4,6,7,8].map P=[.v (ie c7),.v (R w),.p 0 0,.p 1 0,.p 2 0,.v (R ((i+1:Nat):Int))]->
  Q (.exit 1) P (x8 hn j (o+1) s y C (tW++kn t n B h f) (rg++[R ((bs[i]'(by grind [x.len.1]):Nat):Int)])++X) H)
 (SC:2<=k->∀P j s y C X B f d r k5,j5 K B w ((l.sf i).fB w)->M.Ext d->iJ k5 c7 cc b7 d->k5.off cc b7=H.off cc b7->d.lK r=((k:Int),0,fY ((l.bM.et.drop i).take w))->1<=r->r<=d.ba.length->d.gW<=M.gW+w+1->
  [0,2,4,6,7,8].map P=[.v (ie c7),.v (R w),.p 0 0,.p 1 0,.p 2 0,.v (R ((i+k*w:Nat):Int))]->
  Q .normal P (x8 hn j (o+1) s y C (tW++kn k 0 B w f) (rg++[R (r:Int)])++X) k5):
 di aB 111 NT Q e (x8 hn E o cD G gc tW rg) H:=by
 have eB:=fK [0,2,4,6,7,8,9] e
 rw[he]at eB
 rw[<-eB]
 have Ay:=x.le
 obtain⟨GU,nY⟩:=x.len
 have F:=x.mono (J.le_trans hH (J.za _ _ _))
 obtain⟨g,am⟩:=F.dV.cg I
 have V:=aEG x.sat (Nat.le_of_lt ai)
 refine aY (λu=>?_) (λu=>?_)
 have GO:k=1:=I
 cases aq:l.sf i with
 |nil=>
  rw[aq]at V;have:=V.fin;omega
 |cons t n B h f b r=>
  rw[aq]at V;obtain⟨eX,aT,_,An,U,_⟩:=V.open;have An:∀q v,(kn t n B h f)[q]?=some v->H.cell? ((eX.add (i*3)).add q)=some v:=λq v an=>J.la (J.le_trans hH (J.za _ _ _)) (An q v an);exact .hp (ab A m c) (qe F.cell rfl) (.m eX aT (.hp (kn t n B h f) rfl (by rw[bz];exact An) (.c3 3 _ (kn t n B h f) rfl rfl (N6 _ _ _ _ _) (by grind [eD]) I λj s Jt=>.hp (ab D m Y) (qe F.cell rfl) (.m g am (.hp (R ((bs[i]'I:Nat):Int)) (by rw[bz];exact F.dV.one am (x.num ai) rfl) (.c3 4 _ [R ((bs[i]'I:Nat):Int)] rfl rfl (U6 [((bs[i]'I:Nat):Int)]) (by grind [eD]) I λy C rC=>.bg (SB GO _ j s y C _ t n B h f b r aq U rfl)))))))
 have iO:2<=k:=by have:=hk.pos;omega
 have yT:=hk.room iO
 rw[mF]at yT
 have asW:1*w<=k*w:=ur w I
 have eu:k*w<=200001*16:=Nat.mul_le_mul I ED
 have aGY:(k:Int)*w=((k*w:Nat):Int):=dC
 have acj:=x.se
 have aci:=x.ck
 refine .hp (ab D m Y) (qe F.cell rfl) (.bg (.mk i (i+w) rfl dC (alr _ _) I λB nU o0=>?_))
 have WC:bf H 1 B w ((((kd bs).map λz=>[R z]).drop i).take w):=(F.dV.drop (k:=i) (B:=B) (λq=>nU I) I).take I
 have ark:∀q(aw:q<w),((((kd bs).map λz=>[R z]).drop i).take w)[q]?=some [R ((bs[i+q]'I:Nat):Int)]:=λq aw=>by
  rw[List.getElem?_take,aP aw,Bu];exact x.num I
 obtain⟨W,lx⟩:∃W,W=i+w-i:=⟨_,rfl⟩
 have arC:W=w:=I
 rw[<-lx]
 refine .mk (Nat×Nat×dy) [0,2,4,6,7,8,9,10,70,71,72] (λ(q,b,_)=>[.v (ie c7),.v (R w),.p 0 0,.p 1 0,.p 2 0,.v (R i),.v (R k),.v (R b),.v (ab B W (Y-i)),.v (R W),.v (R q)]) (λ_=>x8 hn E o cD G gc tW rg) (λ(q,b,d) k5=>iJ k5 c7 cc b7 d/\k5.off cc b7=H.off cc b7/\M.Ext d/\b<=d.ls.length/\q<=w/\d.k6 b=(l.bM.et.drop i).take q/\d.gW<=M.gW+q) (λ(q,_,_)=>W-q) (0,0,M) (λ(_,_,_)=>rfl) ⟨lh,rfl,dy.Ext.refl M,cW _,cW _,by simp[lh.ok.sH],dz _⟩ rfl rfl ?_
 rintro⟨q,b,d⟩ e k5 ⟨L,aHT,Z,U,aw,aW,a1⟩
 have D6:K.le k5:=J.le_trans aJ (J.za k5 cc b7)
 have O:=x.mono D6
 refine aY (λv=>?_) (λv=>?_)
 have T:q<w:=I
 obtain⟨aqN,N⟩:=WC.cg I
 have aEk:bf k5 1 B w ((((kd bs).map λz=>[R z]).drop i).take w):=(O.dV.drop (k:=i) (B:=B) (λq=>nU I) I).take I
 have pE:=(yP.ext Z).le (bs[i+q]'I) (cG _)
 refine .m aqN N (.hp (R ((bs[i+q]'I:Nat):Int)) (by rw[bz];exact aEk.one N (ark q T) rfl) (.ah (.mk _ (aff L (a:=b) (b:=bs[i+q]'I) U pE.1 pE.2 I) ?_)))
 rintro _ aU ⟨Do,S,rfl,Bn,D7,Sy,D3,TI,Tg⟩
 refine .bg (⟨(q+1,S,Do),rfl,rfl,⟨D7,aJ,Z.trans Bn,D3,T,?_,I⟩,aJ⟩)
 rw[Sy,aW,Rw I]
 congr 2
 have Ry:=(yP.ext Z).eq
 grind
 have T:q=w:=I
 subst T
 have a1:=a1
 refine .hp (ab A m c) (qe O.cell rfl) (.bg (.mk i (i+q) rfl dC (alr _ _) I λik ari aHa=>?_))
 rw[<-lx,arC]
 refine .c3 3 _ (kn k 0 ik q (c-i)) rfl rfl (N6 _ _ _ _ _) (by grind [eD]) I λj s Jt=>.mk _ (aaQ L (t:=(k:Int)) (n:=0) (b:=b) U I) ?_
 rintro _ aU ⟨Do,S,rfl,Bn,D7,abR,Sq,D3,TI,Tg⟩
 exact .c3 4 _ [R (S:Int)] rfl rfl (U6 [(S:Int)]) (by grind [eD]) I λy C rC=>.bg (.bg (SC iO _ j s y C _ ik (c-i) Do S aU (aC9 x.sat I λ_=>ari I) (Z.trans Bn) D7 aJ aJ Sq D3 I rfl))
theorem aDR f Q(e:cy){H:J}{hn c7:Nat}{A D:Option aI}{m c g:Nat}{l:ca}{bs:List Nat}(x:wM H hn A D m c g l bs){w i:Nat} E o a G gc b rg(he:[0,2,4,6,7,8].map e=[.v (ie c7),.v (R w),.p 0 0,.p 1 0,.p 2 0,.v (R i)])(h1:i<m->∀e,[0,2,4,6,7,8].map e=[.v (ie c7),.v (R w),.p 0 0,.p 1 0,.p 2 0,.v (R i)]->di aB 111 f Q e (x8 hn E o a G gc b rg) H)(ae:m<=i->∀e,[0,2,4,6,7,8].map e=[.v (ie c7),.v (R w),.p 0 0,.p 1 0,.p 2 0,.v (R i)]->Q (.exit 0) e (x8 hn E o a G gc b rg) H):di aB 111 (.seq (.seq (.cd ad5) (.cond (.t 17) .skip (.exit 0))) f) Q e (x8 hn E o a G gc b rg) H:=by
 have d:=fK [0,2,4,6,7,8] e;rw[he]at d;rw[<-d];refine .hp (ab A m c) (qe x.cell rfl) ?_;refine aY (λu=>?_) (λu=>?_);exact h1 I _ rfl;exact ae I _ rfl
theorem bJ.off{h:J}{cc b7 bK size n cap:Nat}{A:Option aI}{xs:List ax}(x:bJ h bK size A n cap xs)(b:∀g,A=some g->g.block≠cc/\g.block≠b7):bJ (h.off cc b7) bK size A n cap xs:=by
 obtain⟨h1,ae⟩:=x;refine⟨h1,ae.imp id λ⟨g,f,a,e,i⟩=>⟨g,f,a,?_,i⟩⟩;obtain⟨d,c⟩:=b _ a;rw[J.Hr d c];exact e
theorem bf.OK{h:J}{rows:List (List ax)}(x:bf h size A n rows)(a:∀g,A=some g->g.block≠cc/\g.block≠b7):bf (h.off cc b7) size A n rows:=x.at_ λg e=>by obtain⟨c,b⟩:=a g e;rw[J.Hr c b]
theorem iJ.NJ{h:J}{N:dy}(x:iJ h c7 cc b7 N):h c7≠none/\h cc≠none/\h b7≠none:=by
 obtain⟨_,_,a,_⟩:=x.f;obtain⟨_,_,ak,_⟩:=x.l;exact⟨by simp[x.cell],by rw[a.at_];simp,by rw[ak.at_];simp⟩
theorem iJ.c3{h1 H:J}{M:dy}(x:iJ H c7 cc b7 M)(y:(h1.off cc b7).le (H.off cc b7)){g:Nat}(e:H g=none):h1 g=none:=by
 obtain⟨_,b,a⟩:=x.NJ;have d:g≠cc:=λq=>b aJ;have c:g≠b7:=λq=>a aJ;have:=wk y (Vb e);rwa[J.Hr d c]at this
theorem ca.aDr t n B m c(b p:ca):(p.snoc t n B m c b).bM.et=p.bM.et++[(t,n,b.bM)]:=by
 have:=ca.Wo t n B m c b .nil p;rw[eJ.QW]at this;rw[this,aaj];rfl
variable {l:ca}
theorem ca.aij{K:vi}{h:J} t n B m c b(a:K h B m c b):∀{p:ca},vj K h p->vj K h (p.snoc t n B m c b)
 |.nil,_=>⟨a,trivial⟩
 |.cons _ _ _ _ _ _ _,⟨x,y⟩=>⟨x,ca.aij t n B m c b a y⟩
structure XB(h h1:J)(c7 cc b7:Nat)(N:dy)(es:List iT)(m w:Nat)(aa:J)(i:Nat)(E:Option aI)(cD:Nat)(G:Option aI)(gc o:Nat)(p:ca)(bs:List Nat)(M:dy):Prop where
 dK:iJ aa c7 cc b7 M
 ext:N.Ext M
 adq:i<=m
 out:p.bM.et++jg w (es.drop i)=jg w es
 len:p.len=o
 aer:o<=i
 aCv:bJ aa 199 3 E o cD p.cl.flatten
 aCw:bJ aa 3 1 G o gc ((kd bs).map R)
 num:oU M bs p.bM.et
 IJ:vj w2 (h1.off cc b7) p
 sl:∀g,E=some g->h1 g.block=none
 RS:∀g,G=some g->h1 g.block=none
 xc:∀g cf,E=some g->G=some cf->g.block≠cf.block
 off:(h1.off cc b7).le (aa.off cc b7)
 gW:M.gW<=N.gW+i
theorem Pb{h:J}{cap:Nat}{xs:List ax}(x:bJ h bK size A n cap xs):n<=cap:=by
 rcases x.2 with⟨_,q,_⟩|⟨_,_,_,_,q,_⟩<;>omega
structure aks(h:J)(c7 cc b7:Nat)(N:dy)(U:List iT)(B:Nat)(aa:J)(M:dy)(E:Option aI)(o cD:Nat)(G:Option aI)(gc:Nat)(p:ca)(bs:List Nat):Prop where
 dK:iJ aa c7 cc b7 M
 ext:N.Ext M
 et:p.bM.et=U
 sat:j5 (aa.off cc b7) E o p
 ce:o<=cD
 dV:bf (aa.off cc b7) 1 G o ((kd bs).map λz=>[R z])
 Zu:o<=gc
 num:oU M bs U
 off:(h.off cc b7).le (aa.off cc b7)
 gW:M.gW<=N.gW+B
theorem aqu{h:J}{N:dy}(aA:iJ h c7 cc b7 N){D:Option aI}{br:Nat}{bs:List Nat}(ao:j5 (h.off cc b7) A m l)(aci:m<=c)(av:bf (h.off cc b7) 1 D m ((kd bs).map λz=>[R z]))(acj:m<=br)(yP:oU N bs l.bM.et)(ay:l.bj<=200000)(hw:1<=w)(ED:w<=16)(hL:N.gW+m+20<=4000000000):Fn aB 68 #[ie c7,.agg #[ab A m c,ab D m br],R w] h λv aa=>∃M E o d G gc p qi,v= .agg #[ab E o d,ab G o gc]/\aks h c7 cc b7 N (jg w l.bM.et) m aa M E o d G gc p qi:=by
 have hm:m<=200000:=by have:=ao.1;have:=l.y5;omega
 refine b6 tE rfl ?_;refine .VH [.p 0 0] ?_;refine .mk λhn Et=>?_;obtain⟨h1,S2⟩:∃h1,h1=h.put hn (bb [ab A m c,ab D m br].toArray 203 (0,0)):=⟨_,rfl⟩;have yL:h.le h1:=by rw[S2];exact J.dI Et
 have sB:=aA.mono yL;obtain⟨_,i2,i3⟩:=aA.NJ;have Ti:=J.KG (cc:=cc) (b7:=b7) yL;have gP:wM (h1.off cc b7) hn A D m c br l bs:=⟨by
  rw[J.Hr (λq=>i2 aJ) (λq=>i3 aJ),S2];exact J.b1 _ _ _,ao.mono Ti,av.mono Ti,aci,acj,hm⟩
 have nY:=gP.len.2;refine .mq [0,1,2] (Nat×Option aI×Nat×Option aI×Nat×Nat×ca×List Nat×dy) [0,2,4,6,7,8] (λ(i,_,_,_,_,_,_,_,_)=>[.v (ie c7),.v (R w),.p 0 0,.p 1 0,.p 2 0,.v (R i)]) (λ(_,E,d,G,gc,o,_,_,_)=>[.b4 hn,.own [.v (ab none 0 0),.v (ab none 0 0)] 203,.own [.v (ab E o d),.v (ab G o gc)] 203]) (λ(i,E,d,G,gc,o,p,qi,M) aa=>XB h h1 c7 cc b7 N l.bM.et m w aa i E d G gc o p qi M) (λ(i,_,_,_,_,_,_,_,_)=>m-i) (0,none,0,none,0,0,.nil,[],N) (λ_=>rfl) ⟨aJ,dy.Ext.refl N,cW _,rfl,rfl,dz _,⟨rfl,bW ⟨rfl,rfl,rfl⟩⟩,⟨rfl,bW ⟨rfl,rfl,rfl⟩⟩,oU.nil N,trivial,(λ_ e=>by cases e),(λ_ e=>by cases e),(λ_ _ e=>by cases e),by rw[S2];exact J.le_refl _,dz _⟩ rfl rfl rfl ?_;rintro⟨i,E,d,G,gc,o,p,qi,M⟩ e aa S;have sC:=sB.del S.dK S.sl;have U:=sB.del sC S.RS;have Nw:=Va (Va S.off S.sl) S.RS;have zu:=gP.mono (J.le_trans Nw (J.za _ _ _));refine .abs 199 3 E o d _ S.aCv (.abs 3 1 G o gc _ (S.aCw.del λg cf a b q=>S.xc cf g b a q.symm) (.ah ?_));obtain⟨eY,asG⟩:∃eY,eY=eP (eP aa E) G:=⟨_,rfl⟩;rw[<-asG]at U Nw zu⊢;have fin:∀{k5:J}{F:dy}{T:Nat}{u:Option aI}{C:Nat}{x:Option aI}{H:Nat}{t n:Int}{B:Option aI}{Q L:Nat}{b:ca}{r:Nat},iJ k5 c7 cc b7 F->M.Ext F->k5.off cc b7=eY.off cc b7->i<T->T<=m->jg w (l.bM.et.drop i)=(t,n,b.bM)::jg w (l.bM.et.drop T)->j5 (h1.off cc b7) B Q b->F.lK r=(t,n,b.bM)->1<=r->r<=F.ba.length->F.gW+i<=M.gW+T->∀{K P:J},k5.le K->bJ K 199 3 u (o+1) C (p.cl.flatten++kn t n B Q L)->(∀g,u=some g->k5 g.block=none)->K.le P->bJ P 3 1 x (o+1) H ((kd qi).map R++[R (r:Int)])->(∀g,x=some g->K g.block=none)->XB h h1 c7 cc b7 N l.bM.et m w P T u C x H (o+1) (p.snoc t n B Q L b) (qi++[r]) F:=by
  intro k5 F T u C x H t n B Q L b r Y a2 a3 a4 a5 QR Yt am5 a9 am4 aGO K P s y f4 j O f5;have Th:(h1.off cc b7).le (k5.off cc b7):=aJ;have Ar:=ca.aDr t n B Q L b p;have s1:=S.gW;have s2:=S.aer;refine⟨Y.mono (J.le_trans s j),S.ext.trans a2,a5,?_,by rw[ca.Wp,S.len],I,?_,?_,?_,ca.aij _ _ _ _ _ _ Yt S.IJ,λg e=>Y.c3 Th (f4 g e),λg e=>Y.c3 Th (J.none_le s (f5 g e)),λg cf aR aQ q=>?_,J.le_trans Th (J.KG (J.le_trans s j)),I⟩;simp[Ar,<-S.out,QR];rw[ca.Wn,vr,akU];exact y.mono j;rw[af',fF];exact O;rw[Ar,<-am5];exact(S.num.ext a2).snoc a9 am4;exact y.mem aR aJ
 show di aB 111 (.seq (.seq (.cd ad5) (.cond (.t 17) .skip (.exit 0))) (.block 1 (.seq (.cd TU) (.seq (.block 2 (.loop TT)) NT)))) _ _ _ _;refine aDR _ _ _ zu E o d G gc _ _ rfl (λai e he=>?_) (λai e he=>?_);have Z:=yP.ext S.ext;show di aB 111 (.seq (.cd TU) (.seq (.block 2 (.loop TT)) NT)) _ _ _ _;refine aDT NT _ _ zu U.ok Z hw ED ai E o d G gc _ _ he (λe k hk rF he=>?_);have s1:=S.gW;have s2:=S.aer;have iu:=S.adq;have eS:i<l.bM.et.length:=I;refine stepT _ _ gP Nw U Z hw ED ai hk rF I E o d G gc _ _ I he ?_ ?_;rintro rfl bD u C x H X t n B Q L b r JF aj uK;have aC:l.bM.et.drop i=(t,n,b.bM)::l.bM.et.drop (i+1):=by
  have aL:=MD i l;rw[JF]at aL;have aH:l.bM.et.drop (i+1)=(l.bM.et.drop i).drop 1:=bd;rw[aH,<-aL];rfl
 have pE:=Z.le (bs[i]'(by grind [gP.len.1])) (cG _);have ars:M.lK (bs[i]'aJ)=(t,n,b.bM):=by
  have aL:(l.bM.et.drop i)[0]?=some (t,n,b.bM):=aJ;rw[Bu,<-Z.eq,dH,bZ aJ]at aL
  grind
 refine .b4 3 199 3 u (o+1) C _ rfl λK s y f4=>.b4 4 3 1 x (o+1) H _ rfl λP j O f5=>.ah ⟨(i+1,u,C,x,H,o+1,p.snoc t n B Q L b,qi++[bs[i]'aJ],M),uK,rfl,?_,aJ⟩;refine fin U (dy.Ext.refl M) rfl (zR i) ai ?_ aj ars pE.1 pE.2 I s y f4 j O f5;rw[aC]at hk⊢;exact HC hw hk;intro iO bD u C x H X B L F r k5 b9 Y a2 a3 a4 a5 QR Yt uK;have yT:=hk.room iO;rw[mF]at yT;have asW:2*w<=k*w:=ur w iO;have as':fY ((l.bM.et.drop i).take w)=((l.sf i).fB w).bM:=by
  rw[<-MD,<-WO,EX]
 refine .b4 3 199 3 u (o+1) C _ rfl λK s y f4=>.b4 4 3 1 x (o+1) H _ rfl λP j O f5=>.ah ⟨(i+k*w,u,C,x,H,o+1,p.snoc k 0 B w L ((l.sf i).fB w),qi++[r],F),uK,rfl,?_,aJ⟩;refine fin a2 Y a3 I I ?_ b9 aJ a5 QR I s y f4 j O f5;rw[KR hw hk iO,as',List.drop_drop];have GN:i=m:=by have:=S.adq;omega
 subst GN;have eB:=fK [0,2,4,6,7,8] e;rw[he]at eB;rw[<-eB];refine .b4 3 199 3 E o d _ rfl λK s y f4=>.b4 4 3 1 G o gc _ rfl λP j O f5=>.ah ?_;have V:=J.le_trans Nw (J.KG (cc:=cc) (b7:=b7) (J.le_trans s j));have xy:=S.out;rw[List.drop_of_length_le I,aBg,List.append_nil]at xy;obtain⟨_,tD,AN⟩:=sB.NJ;have W:∀{E:Option aI},(∀g,E=some g->h1 g.block=none)->∀g,E=some g->g.block≠cc/\g.block≠b7:=λf g e=>⟨λq=>tD aJ,λq=>AN aJ⟩;refine⟨M,E,o,d,G,gc,p,qi,rfl,U.mono (J.le_trans s j),S.ext,xy,?_,Pb y,(bJ.kd O).OK (W S.RS),Pb O,by rw[<-xy];exact S.num,J.le_trans Ti V,S.gW⟩;have:=bf.sat (l:=p) (A:=E) (n:=o) (bJ.dV ((y.mono j).off (W S.sl)) p.IY aM) (S.IJ.mono w2.mono V);omega
theorem agL{α:Type}:∀(c3 r S:List α),r.length=c3.length->over (c3++S) 0 r=some (r++S)
 |[],[],S,_=>by cases S<;>rfl
 |[],_::_,_,h=>by simp at h
 |_::_,[],_,h=>by simp at h
 |U::c3,y::r,S,h=>by
  simp only[wP,over,agL c3 r S aJ]
theorem Vl{α:Type}(c3 r S:List α)(h:r.length=c3.length):∀P,over (P++(c3++S)) P.length r=some (P++(r++S))
 |[]=>agL c3 r S h
 |x::P=>by
  simp only[wP,iv,over,Vl c3 r S h P]
def Dy(X:J):ca->Prop
 |.nil=>True
 |.cons _ _ B m c b r=>∃a e:J,a.le X/\e.le X/\(∀o,a o≠none->e o=none)/\(m=b.len/\(b= .nil\/∃d,bJ a 199 3 B m c b.cl.flatten/\(∀g,B=some g->d g.block=none)/\d.le a/\Dy d b))/\Dy e r
structure w4(X:J)(A:Option aI)(m c:Nat)(l:ca):Prop where
 len:m=l.len
 ex:∃b9,bJ X 199 3 A m c l.cl.flatten/\(∀g,A=some g->b9 g.block=none)/\b9.le X/\Dy b9 l
theorem bJ.less{h:J}{k cap:Nat}{xs aO:List ax}(x:bJ h bK size A (n+k) cap (xs++aO))(ak:xs.length=n*size):A≠none->bJ h bK size A n cap xs:=by
 intro aT;obtain⟨h1,ae⟩:=x;rcases ae with⟨ae,_⟩|⟨g,a,c,b,f,d,e,i⟩
 grind
 refine⟨ak,bl ⟨g,a,c,b,I,d,e,?_⟩⟩;have:a.toList.take (n*size)=(a.toList.take ((n+k)*size)).take (n*size):=by
  grind
 grind
theorem WV:∀l X,Dy X l->vj w2 X l
 |.nil,_,_=>trivial
 |.cons _ _ B m _ b r,X,⟨k,i,g,a2,_,⟨hm,a⟩,d⟩=>⟨by
  rcases a with a|⟨e,c,j,f,h⟩;exact⟨hm,bW a⟩;have:=bf.sat (l:=b) (A:=B) (n:=m) (bJ.dV c b.IY aM) ((WV b e h).mono w2.mono f);exact j5.mono g this,(WV r i d).mono w2.mono a2⟩
def F9:vi:=λX B m c b=>m=b.len/\(b= .nil\/∃a,bJ X 199 3 B m c b.cl.flatten/\(∀g,B=some g->a g.block=none)/\a.le X/\Dy a b)
theorem aje:∀l X,Dy X l↔FE F9 X l
 |.nil,_=>Iff.rfl
 |.cons _ _ _ _ _ _ r,X=>by
  simp only[Dy,FE,F9,aje r]
theorem w4.aFB{X:J}(s:w4 X A m c l):F9 X A m c l:=⟨s.len,bl s.ex⟩
theorem w4.sat{X:J}{A:Option aI}{m c:Nat}{l:ca}(s:w4 X A m c l):j5 X A m l:=by
 obtain⟨b,a,_,d,e⟩:=s.ex;exact bf.sat (l:=l) (A:=A) (n:=m) (bJ.dV a l.IY aM) ((WV l b e).mono w2.mono d)
theorem w4.mono{X Y:J}{A:Option aI}{m c:Nat}{l:ca}(x:X.le Y)(s:w4 X A m c l):w4 Y A m c l:=⟨s.len,let⟨e,a,b,c,d⟩:=s.ex;⟨e,a.mono x,b,J.le_trans c x,d⟩⟩
theorem aA9{h aa a:J}{p:ca}(x:Bl F9 h aa a A n c p):w4 (aa.sub h) A n c p:=⟨x.len.symm,a,aCA x.row λg e=>(x.pz g e).1,λg e=>(x.pz g e).2,J.N9 x.g7 x.out,(aje p a).2 x.IJ⟩
theorem Vo:∀N l,l.bj<N->l.bj<=200000->∀A m cap h,j5 h A m l->Fn aB 69 #[ab A m cap] h λv aa=>h.le aa/\∃q s cw,v=ab q m s/\w4 (aa.sub h) q m s cw/\cw.bM=l.bM
 |0,l,x,_=>absurd x (Nat.not_lt_zero _)
 |N+1,l,x,U=>by
  intro A m cap h k;have hm:m<=200000:=by have:=k.1;have:=l.y5;omega
  refine b6 axX rfl ?_;refine .mq [] (Nat×Option aI×Nat×ca×ca) [3,6,7,8] (λ(i,D,c,_,_)=>[.v (ab D i c),.v (ab A m cap),.v (R m),.v (R i)]) (λ_=>[]) (λ(i,D,c,p,r) aa=>∃n,Bl F9 h aa n D i c p/\sa h A m i r/\r.bj<=l.bj/\p.bM.app r.bM=l.bM) (λ(i,_,_,_,_)=>m-i) (0,none,0,.nil,l) (λ_=>rfl) ⟨_,Bl.nil F9 h,k.cF,dz _,rfl⟩ rfl rfl rfl ?_;refineλ⟨i,D,c,p,r⟩ e aa⟨n,a,d,Q,he⟩=>.ah (aY (λae=>?_) (λae=>?_));cases r with
  |nil=>have:=d.fin;omega
  |cons t w B f jo b r=>
   obtain⟨g,aT,F,ay,G,K⟩:=d.open;simp only[ca.bj]at Q;refine .m g aT (.hp (kn t w B f jo) rfl (by rw[bz];exactλo v H=>J.la a.le (ay o v H)) (.ah (.mk _ (Vo N b I I B f jo aa (G.mono a.le)) ?_)));rintro _ ae ⟨y,u,c2,M,rfl,P,j⟩;refine .abs 199 3 D i c _ (a.row.mono y) (.ah (.c3 2 _ (kn t w u f c2) rfl rfl (N6 _ _ _ _ _) (by grind [eD]) I λC z L=>.bg (.b4 2 199 3 C (i+1) z _ rfl λT O S E=>.ah ⟨(i+1,C,z,p.snoc t w u f c2 M,r),rfl,rfl,⟨_,a.step y t w P.aFB O S E,K,I,?_⟩,aJ⟩)));rw[ca.Wo,j];exact he
  cases r with
  |nil=>
   have:=d.fin;subst this;refine .ah ⟨a.le,D,c,p,rfl,aA9 a,?_⟩;rw[<-he];exact(eJ.QW _).symm
  |cons=>obtain⟨g,aT,F,_⟩:=d.open;omega
def wN:eJ->Prop
 |.nil=>True
 |.cons t n b r=>1<=t/\(b.leaf=true->0<=n/\n<32)/\(b.leaf=false->n=0)/\wN b/\wN r
theorem wN.pos:∀{f:eJ},wN f->oh f
 |.nil,_=>trivial
 |.cons _ _ _ _,⟨a,_,_,b,c⟩=>⟨a,b.pos,c.pos⟩
theorem Jb:∀f d k,wN f->k+uF f<=2048->d+oZ f<=16->iF f d k=(0,k+uF f)
 |.nil,_,_,_,_,_=>rfl
 |.cons t n b r,d,k,⟨h1,ae,i,g,c⟩,hk,a=>by
  simp only[uF,oZ]at hk a⊢;cases ak:b.leaf with
  |true=>
   rw[ak]at hk a;simp only[oY]at hk a⊢;have e:∀hn,j1 t n true d k hn=(0,k+1):=λhn=>by
    unfold j1
    grind
   simp only[iF,ak,e];rw[aP trivial,Jb r d (k+1) c I I]
   grind
  |false=>
   rw[ak]at hk a;simp only[uA]at hk a⊢;have h:=R0 (f:=b) ak;have e:j1 t n false d k (iF b (d+1) k)=(0,k+uF b):=by
    unfold j1;rw[aD I,aD I,aD I,aD bd,aD aJ,Jb b (d+1) k g I I]
   simp only[iF,ak,e];rw[aP trivial,Jb r d _ c I I]
   grind
theorem Ja:∀f d k,wN f->k+uF f<=2048->d<=16->16<d+oZ f->(iF f d k).1=161
 |.nil,_,_,_,_,h,ae=>by grind [oZ]
 |.cons t n b r,d,k,⟨h1,ae,p,g,i⟩,hk,c,a=>by
  simp only[uF,oZ]at hk a⊢;cases ak:b.leaf with
  |true=>
   rw[ak]at hk a;simp only[oY]at hk a;have e:∀hn,j1 t n true d k hn=(0,k+1):=λhn=>by
    unfold j1
    grind
   simp only[iF,ak,e];rw[aP trivial];exact Ja r d (k+1) i I c I
  |false=>
   rw[ak]at hk a;simp only[uA]at hk a;have o:=R0 (f:=b) ak;by_cases j:16<=d;have e:j1 t n false d k (iF b (d+1) k)=(161,k):=by
    unfold j1
    grind
   simp[iF,ak,e];by_cases l:d+1+oZ b<=16;have e:j1 t n false d k (iF b (d+1) k)=(0,k+uF b):=by
    unfold j1;rw[aD I,aD I,aD I,aD bd,aD aJ,Jb b (d+1) k g I I]
   simp only[iF,ak,e];rw[aP trivial];exact Ja r d _ i I c I;have m:=Ja b (d+1) k g I I I;have e:j1 t n false d k (iF b (d+1) k)=iF b (d+1) k:=by
    unfold j1
    grind
   simp[iF,ak,e,m]
theorem an'{f:eJ}(h:wN f)(c:fJ f<=2048):vO f=if oZ f<=16 then 0 else 161:=by
 have b:=R1 f h.pos;unfold vO;split;rename_i h1;split;rename_i a;rw[Jb f 0 0 h I I]at h1;omega;rename_i a;exact Ja f 0 0 h I I I;rename_i h1;rw[aD I];split;rfl;rename_i a;rw[Ja f 0 0 h I I I]at h1;omega
def Dg(x:iT):Prop:=1<=x.1/\(x.2.2.leaf=true->0<=x.2.1/\x.2.1<32)/\(x.2.2.leaf=false->x.2.1=0)/\wN x.2.2
theorem Sm:∀l,wN (fY l)↔∀x∈l,Dg x
 |[]=>⟨(λ_ x h=>by cases h),λ_=>trivial⟩
 |(t,n,b)::l=>by
  simp only[fY,wN,Sm l,ek,forall_eq_or_imp,Dg]
  grind
theorem azs l:(fY l).leaf=decide (l=[]):=by
 cases l with
 |nil=>rfl
 |cons x l=>rfl
theorem MV a b:gw (fY (a++b))=gw (fY a)++gw (fY b):=by rw[afy,aa9]
theorem ahs{α:Type}(w:List α):∀k,w++rep k w=rep k w++w
 |0=>by simp[rep]
 |k+1=>by simp only[rep];rw[kC,<-ahs w k]
theorem s6.kv{w:Nat}{l:List iT}{m:Nat}(r:s6 w l m):∀o,o<=m->gw (fY (l.take (o*w)))=rep o (gw (fY (l.take w)))
 |0,_=>by simp[fY,gw,rep]
 |o+1,c=>by
  have b:=r.kv o I;have a:l.take ((o+1)*w)=l.take (o*w)++(l.drop (o*w)).take w:=by
   rw[Nat.succ_mul,List.take_add]
  rw[a,MV,b];simp only[rep];rw[ahs];congr 2;by_cases al:o=0;simp_all;rw[(r.ok o I I).2]
theorem Vu{w:Nat}(hw:1<=w):∀N l,l.length<=N->gw (fY (jg w l))=gw (fY l)/\((∀x∈l,Dg x)->∀x∈jg w l,Dg x)
 |N,[],_=>⟨rfl,λh=>h⟩
 |0,x::l,h=>by simp at h
 |N+1,x::l,h=>by
  simp only[iv]at h;have c:=Fd hw (x::l);by_cases h1:dw w (x::l)=1;rw[h1]at c;obtain⟨a,b⟩:=Vu hw N l I;rw[HC hw c];refine⟨?_,λf y d=>?_⟩;have p:=MV [x] (jg w l);have e:=MV [x] l
  grind
  grind
  have ae:2<=dw w (x::l):=by have:=c.pos;omega
  obtain⟨m,hm⟩:∃m,m=dw w (x::l):=⟨_,rfl⟩;rw[<-hm]at c ae;have n:=c.room ae;have o:2*w<=m*w:=ur w ae;rw[KR hw c ae];obtain⟨cw,j⟩:∃cw,cw=x::l:=⟨_,rfl⟩;rw[<-j]at c n⊢;have r:cw.length=l.length+1:=aJ;obtain⟨a,b⟩:=Vu hw N (cw.drop (m*w)) aJ;have i:cw.take w≠[]:=by
   intro q;simp_all
  have k:(fY (cw.take w)).leaf=false:=by rw[azs,io i]
  refine⟨?_,λf y d=>?_⟩;have e:gw (fY cw)=gw (fY (cw.take (m*w)))++gw (fY (cw.drop (m*w))):=by
   simp[<-MV]
  rw[e,<-a,c.kv m (dz _)];simp[fY,gw,k];rcases ek.1 d with rfl|d;refine⟨I,(λq=>bd),(λ_=>rfl),(Sm _).2 λz g=>f z (LV g)⟩
  grind
theorem WX h:w4 h none 0 0 .nil:=⟨rfl,λ_=>none,⟨rfl,bW ⟨rfl,rfl,rfl⟩⟩,(λ_ e=>by cases e),(λ_ _ e=>by cases e),trivial⟩
theorem J.aix{h hk aa:J}(x:h.le hk):(aa.sub hk).le (aa.sub h):=J.N9 (J.sub_le _ _) λ_ a=>J.none_le x (J.Lj a)
variable {h:J}
theorem Oe(p:ca):p.bj=nP p.bM.et:=by unfold nP;rw[EX,ca.R7]
theorem aBf(hw:1<=w){p:ca}(h:p.bM.et=jg w l.bM.et):p.bj<=l.bj:=by
 rw[Oe,Oe,h];exact(E7 hw _ _ (dz _)).1
def pM:List BJ->ca
 |[]=>.nil
 |r::l=>.cons (r.2:Int) r.1 none 0 0 .nil (pM l)
def mU(l:List BJ):List iT:=l.map λr=>((r.2:Int),r.1,eJ.nil)
theorem Ut:∀l,(pM l).bM.et=mU l
 |[]=>rfl
 |r::l=>by simp only[pM,ca.bM,eJ.et,Ut l];rfl
theorem Us:∀l,(pM l).bj=l.length
 |[]=>rfl
 |_::l=>by simp only[pM,ca.bj,Us l,iv];omega
theorem ae' h:∀l,vj w2 h (pM l)
 |[]=>trivial
 |_::l=>⟨⟨rfl,bW rfl⟩,ae' h l⟩
theorem afa r:∀l,(pM (l++[r])).cl=(pM l).cl++[kn (r.2:Int) r.1 none 0 0]
 |[]=>rfl
 |x::l=>by simp only[wP,pM,ca.cl,afa r l]
theorem Pi{P:Int->Prop}:∀l,(∀r∈gg l,P r.1)↔(∀x∈l,P x)
 |[]=>by simp[gg]
 |x::l=>by
  have a:=Pi (P:=P) l;simp only[gg];split;rename_i y k r b;rw[b]at a;simp only[ek,forall_eq_or_imp]at a⊢;rw[<-a];split;rename_i e;subst e;simp;simp;simp_all
def vK(x:Int):Prop:=x<0\/32<=x
instance (x:Int):Decidable (vK x):=inferInstanceAs (Decidable (_\/_))
def qF(l:List Int):Int×List iT:=if 2048<l.length then(2,[])else if∃x∈l,vK x then(100,[])else(0,comp (mU (gg l)))
theorem aj9{k:Nat}{l ar:List iT}(hw:1<=w)(hk:20*l.length+17<k+w)(b:oj k w l=ar)(ay:w<=16/\2*w<=l.length):∃a,k=a+1/\((jg w l).length<l.length->oj a 1 (jg w l)=ar/\20*(jg w l).length+17<a+1)/\(¬(jg w l).length<l.length->oj a (w+1) (jg w l)=ar/\20*(jg w l).length+17<a+(w+1)):=by
 cases k with
 |zero=>omega
 |succ a=>
  have hp:=(E7 hw _ l (dz _)).2
  grind [oj]
theorem Xo{k:Nat}{l ar:List iT}(a:oj k w l=ar)(ay:¬(w<=16/\2*w<=l.length)):l=ar:=by
 cases k with
 |zero=>exact a
 |succ b=>grind [oj]
structure aj8(ae:J)(c7 cc b7:Nat)(ar:List iT)(aa:J)(A:Option aI)(m c:Nat)(D:Option aI)(sd:Nat)(l:ca)(bs:List Nat)(M:dy)(w k:Nat):Prop where
 dK:iJ aa c7 cc b7 M
 sat:j5 (aa.off cc b7) A m l
 ck:m<=c
 dV:bf (aa.off cc b7) 1 D m ((kd bs).map λz=>[R z])
 se:m<=sd
 num:oU M bs l.bM.et
 bj:l.bj<=2048
 fQ:1<=w
 gi:w<=17
 jP:20*l.bM.et.length+17<k+w
 eq:oj k w l.bM.et=ar
 le:ae.le (aa.off cc b7)
 gW:M.gW+2048*k<=100000000
theorem aoo l D n cap h(a1:bf h 1 D n (l.map λz=>[R z])):Fn aB 25 #[ab D n cap] h λv aa=>h.le aa/\∃d bt f cw,v=ey #[ab d bt f,R (qF l).1]/\w4 (aa.sub h) d bt f cw/\cw.bM.et=(qF l).2:=by
 have ak:l.length=n:=by simpa using a1.len
 refine b6 axk rfl (aY (λu=>?_) (λu=>?_));have j:qF l=(2,[]):=by unfold qF;grind
 refine .ah ⟨J.le_refl h,none,0,0,.nil,?_,WX _,?_⟩;rw[j];rfl;rw[j];rfl;have aA:n<=2048:=I;refine .ah (.mk _ (aCT D n cap l h a1 I) ?_);rintro _ h1 ⟨uj,m1,c1,rfl,qS,s⟩;have lj:=Ph l;have ra:=s.dV;refine .mq [] (Nat×Option aI×Nat) [4,15,16,17] (λ(i,E,a)=>[.v (ab E i a),.v (ab uj m1 c1),.v (R m1),.v (R i)]) (λ_=>[]) (λ(i,E,a) aa=>h1.le aa/\i<=m1/\bJ aa 199 3 E i a (pM ((gg l).take i)).cl.flatten/\(∀g,E=some g->h1 g.block=none)/\∀r∈(gg l).take i,¬vK r.1) (λ(i,_,_)=>m1-i) (0,none,0) (λ_=>rfl) ⟨J.le_refl _,cW _,⟨rfl,bW ⟨rfl,rfl,rfl⟩⟩,(λ_ e=>by cases e),(λr aq=>aJ)⟩ rfl rfl rfl ?_;rintro⟨i,E,a⟩ e aa ⟨cJ,GN,ju,a7,eK⟩;have o:=Af cJ a7;refine .abs 199 3 E i a _ ju (.ah (aY (λrZ=>?_) (λrZ=>?_)));have ai:i<(gg l).length:=I;obtain⟨r,aq⟩:∃r,r=(gg l)[i]:=⟨_,rfl⟩;have sy:((gg l).map zg)[i]?=some (zg r):=aJ;have O:=ra.mono o;obtain⟨g,am⟩:=O.cg I;have bad:vK r.1->qF l=(100,[]):=λq=>by
  unfold qF;rw[aD I,aP];refine wJ λxv=>?_;have:=(Pi (P:=λx=>¬vK x) l).2 λx af aj=>xv ⟨x,af,aj⟩
  grind
 refine .m g am (.hp (zg r) rfl (by rw[bz];exact O.row am sy) (aY (λiR=>?_) (λiR=>?_)));refine .ah ⟨J.le_trans s.le o,none,0,0,.nil,?_,WX _,?_⟩;rw[bad (bW iR)];rfl;rw[bad (bW iR)];rfl;refine aY (λwD=>?_) (λwD=>?_);refine .ah ⟨J.le_trans s.le o,none,0,0,.nil,?_,WX _,?_⟩;rw[bad (bl wD)];rfl;rw[bad (bl wD)];rfl;refine .ah (.c3 0 _ (kn (r.2:Int) r.1 none 0 0) rfl rfl (N6 _ _ _ _ _) (by grind [eD]) I λho mL Jt=>.bg ?_);have J1:(gg l).take (i+1)=(gg l).take i++[r]:=by simp_all
 refine .b4 0 199 3 ho (i+1) mL _ rfl λaU h4 kW f4=>.ah ⟨(i+1,ho,mL),rfl,rfl,⟨J.le_trans o h4,I,?_,λg e=>J.none_le o (f4 g e),λq Q=>?_⟩,aJ⟩;rw[J1,afa,vr,akU];exact kW;rw[J1]at Q;rcases ej.1 Q with Q|Q
 grind
 rw[hV.1 Q];intro q;rcases q with q|q;omega;omega;have U:i=(gg l).length:=I;rw[U,r5]at ju eK;have j:qF l=(0,comp (mU (gg l))):=by
  unfold qF;rw[aD I,aD];exactλ⟨x,af,aj⟩=>(Pi (P:=λx=>¬vK x) l).1 eK x af aj
 refine .b4 0 199 3 E i a _ rfl λae dg V f2=>.ah (.mk _ (aqG ae) ?_);rw[U,r5]at V;have N1:h1.le ae:=J.le_trans o dg;have ml:j5 ae E i (pM (gg l)):=by
  have:=bf.sat (l:=pM (gg l)) (A:=E) (n:=i) (by rw[U];exact bJ.dV V (pM (gg l)).IY aM) (ae' ae _);omega
 have asM:i<=a:=by rw[U];exact Pb V
 rintro _ au ⟨c7,cc,b7,rfl,jF,hv,_,_,_,ln⟩;have Ap:(pM (gg l)).bj<=2048:=by rw[Us];omega
 have iu:=ml.mono ln;refine .ah (.mk _ (azM (cap:=a) jF iu I (by grind [dy.gW,dy.fresh])) ?_);rintro _ aU ⟨M,bs,G,anT,rfl,Bn,y6,N,VV,f4,y8,z4⟩;have z4:M.gW<=4096:=by
  have:dy.fresh.gW=0:=rfl;omega
 obtain⟨_,i2,i3⟩:=jF.NJ;have t4:=(bJ.kd VV).OK (cc:=cc) (b7:=b7) λg e=>⟨λq=>i2 aJ,λq=>i3 aJ⟩;have K:ae.le (aU.off cc b7):=J.le_trans ln y8;have Y:=Ut (gg l);have eH:(pM (gg l)).bM.et.length<=2048:=by rw[Y];grind [mU]
 obtain⟨ar,y⟩:∃ar,ar=comp (mU (gg l)):=⟨_,rfl⟩;have Na:oj (20*(pM (gg l)).bM.et.length+20) 1 (pM (gg l)).bM.et=ar:=by rw[y,Y];rfl
 rw[<-y]at j;refine .mq [1] (Option aI×Nat×Nat×Option aI×Nat×ca×List Nat×dy×Nat×Nat) [7,8,9] (λ(_,_,_,_,_,_,_,_,w,_)=>[.v (ie c7),.p 0 0,.v (R w)]) (λ(A,m,c,D,W,_,_,_,_,_)=>[.own [.v (ab A m c),.v (ab D m W)] 203]) (λ(A,m,c,D,W,b,bs,M,w,k) aa=>aj8 ae c7 cc b7 ar aa A m c D W b bs M w k) (λ(_,_,_,_,_,_,_,_,_,k)=>k) (E,i,a,G,anT,pM (gg l),bs,M,1,20*(pM (gg l)).bM.et.length+20) (λ_=>rfl) ⟨y6,iu.mono y8,asM,t4,Pb VV,N,Ap,dz _,aM,I,Na,K,I⟩ rfl rfl rfl ?_;clear t4 y6 VV f4 N iu jF ml V f2 ju eK Na eH Y Ap i2 i3 z4 y8 ln K;rintro⟨A,m,c,D,W,b,bs,M,w,k⟩ e aa S;have Ay:b.bM.et.length=m:=by rw[DT];exact S.sat.1.symm
 have aHO:m<=2048:=by have:=S.bj;have:=b.y5;have:=S.sat.1;omega
 have fQ:=S.fQ;have gi:=S.gi;refine .ah (aY (λv1=>?_) (λv1=>?_));refine .bg (aY (λv2=>?_) (λv2=>?_));obtain⟨fO,rfl,cH,a2⟩:=aj9 fQ S.jP S.eq ⟨I,I⟩;have gW:=S.gW;refine .ah (.mk _ (aqu S.dK S.sat S.ck S.dV S.se S.num (by have:=S.bj;omega) fQ I I) ?_);rintro _ cE ⟨X2,Xv,Ka,t,XC,B,X,L,rfl,F⟩;have atm:X.bM.et.length=Ka:=by rw[DT];exact F.sat.1.symm
 have H:X.bj<=2048:=Nat.le_trans (aBf fQ F.et) S.bj;have aH1:=F.gW;have C:ae.le (cE.off cc b7):=J.le_trans S.le F.off;have aHC:(jg w b.bM.et).length=Ka:=by rw[<-F.et,atm]
 refine aY (λv3=>?_) (λv3=>?_);obtain⟨bI,cu⟩:=cH I;refine .ah ⟨(Xv,Ka,t,XC,B,X,L,X2,1,fO),rfl,rfl,⟨F.dK,F.sat,F.ce,F.dV,F.Zu,by rw[F.et];exact F.num,H,dz _,aM,I,by grind [F.et],C,I⟩,zR _⟩;obtain⟨bI,cu⟩:=a2 I;refine .bg (.ah ⟨(Xv,Ka,t,XC,B,X,L,X2,w+1,fO),rfl,rfl,⟨F.dK,F.sat,F.ce,F.dV,F.Zu,by rw[F.et];exact F.num,H,I,I,I,by grind [F.et],C,I⟩,zR _⟩);have asr:=Xo S.eq I;refine .ah (.mk _ (Vo _ b (zR _) (by have:=S.bj;omega) A m c aa (S.sat.mono (J.za _ _ _))) ?_);rintro _ e6 ⟨Z,d,f,cw,rfl,PH,a7⟩;have T:h.le aa:=J.le_trans s.le (J.le_trans N1 (J.le_trans S.le (J.za _ _ _)));refine .ah ⟨J.le_trans T Z,d,m,f,cw,?_,PH.mono (J.aix T),?_⟩;rw[j];rfl
 grind
 have asr:=Xo S.eq I;refine .ah (.mk _ (Vo _ b (zR _) (by have:=S.bj;omega) A m c aa (S.sat.mono (J.za _ _ _))) ?_);rintro _ e6 ⟨Z,d,f,cw,rfl,PH,a7⟩;have T:h.le aa:=J.le_trans s.le (J.le_trans N1 (J.le_trans S.le (J.za _ _ _)));refine .ah ⟨J.le_trans T Z,d,m,f,cw,?_,PH.mono (J.aix T),?_⟩;rw[j];rfl
 grind
theorem Mv:∀k w l,1<=w->nP (oj k w l)<=nP l/\gw (fY (oj k w l))=gw (fY l)/\((∀x∈l,Dg x)->∀x∈oj k w l,Dg x)
 |0,_,_,_=>⟨dz _,rfl,λh=>h⟩
 |k+1,w,l,hw=>by
  unfold oj;split;obtain⟨a,_⟩:=E7 hw _ l (dz _);obtain⟨b,c⟩:=Vu hw _ l (dz _);split;obtain⟨x,y,z⟩:=Mv k 1 (jg w l) (dz _)
  grind
  obtain⟨x,y,z⟩:=Mv k (w+1) (jg w l) I
  grind
  simp
theorem ae9 l:nP (mU l)=l.length:=by
 rw[<-Ut,<-Oe,Us]
theorem aok l:nP (qF l).2<=2048:=by
 unfold qF;split;exact cW _;split;exact cW _;have h1:=(Mv (20*(mU (gg l)).length+20) 1 (mU (gg l)) (dz _)).1;have ae:=Ph l;have a:=ae9 (gg l);show nP (comp _)<=2048;unfold comp;omega
theorem agU{w:Nat}(hw:1<=w):∀N l,l.length<=N->(jg w l).length=l.length->jg w l=l
 |_,[],_,_=>rfl
 |0,x::l,h,_=>by simp at h
 |N+1,x::l,h,he=>by
  simp only[iv]at h;have a:=Fd hw (x::l);by_cases h1:dw w (x::l)=1;rw[h1]at a;rw[HC hw a]at he⊢;simp only[iv]at he;rw[agU hw N l I I];have ae:2<=dw w (x::l):=by have:=a.pos;omega
  obtain⟨m,hm⟩:∃m,m=dw w (x::l):=⟨_,rfl⟩;rw[<-hm]at a ae;have c:=a.room ae;have b:2*w<=m*w:=ur w ae;rw[KR hw a ae]at he;have ay:=(E7 hw _ ((x::l).drop (m*w)) (dz _)).2
  grind
theorem agV{w:Nat}(hw:1<=w):∀l,l.length<2*w->jg w l=l
 |[],_=>rfl
 |x::l,h=>by
  have a:s6 w (x::l) 1:=⟨dz _,λo h1 ae=>I,λq=>by have:=q.1;omega⟩;simp only[iv]at h;rw[HC hw a,agV hw l I]
theorem Rm:∀k w l,1<=w->20*l.length+17<k+w->(∀v,1<=v->v<w->jg v l=l)->∀v,1<=v->v<=16->jg v (oj k w l)=oj k w l
 |0,w,l,_,hk,c,v,h1,ae=>c v h1 I
 |k+1,w,l,hw,hk,c,v,h1,ae=>by
  unfold oj;split;rename_i ay;split;rename_i d;exact Rm k 1 _ (dz _) I (λv a b=>I) v h1 ae;rename_i d;have hp:=(E7 hw _ l (dz _)).2;have he:=agU hw _ l (dz _) I;rw[he];refine Rm k (w+1) l I I (λv a b=>?_) v h1 ae
  grind
  rename_i ay;by_cases e:v<w
  grind
  exact agV h1 l I
theorem aom l:∀v,1<=v->v<=16->jg v (comp l)=comp l:=Rm _ 1 l (dz _) I (λv a b=>I)
def FF:eJ->Prop
 |.nil=>True
 |.cons t _ b r=>1<=t/\(b.leaf=false->2<=t)/\FF b/\FF r
def Db(x:iT):Prop:=1<=x.1/\(x.2.2.leaf=false->2<=x.1)/\FF x.2.2
theorem Q5:∀l,FF (fY l)↔∀x∈l,Db x
 |[]=>⟨(λ_ x h=>by cases h),λ_=>trivial⟩
 |(t,n,b)::l=>by
  simp only[fY,FF,Q5 l,ek,forall_eq_or_imp,Db]
  grind
theorem Rt:∀f,FF f->f.leaf=false->2^oZ f<=fJ f
 |.nil,_,h=>by cases h
 |.cons t n b r,⟨h1,ae,c,a⟩,_=>by
  have e:r.leaf=false->2^oZ r<=fJ r:=Rt r a;have g:2^oZ r<=fJ r+1:=by
   cases ak:r.leaf with
   |true=>rw[aeZ ak];simp[oZ]
   |false=>grind
  obtain⟨T,rfl⟩:∃T:Nat,t=T:=⟨t.toNat,I⟩;simp only[oZ,fJ,bz];cases ak:b.leaf with
  |true=>
   grind
  |false=>
   have d:=Rt b c ak;have ae:=ae ak;simp only[uA];have hm:2*fJ b<=T*fJ b:=ur _ I;have hp:2^(oZ b+1)=2*2^oZ b:=I
   grind
theorem OU{w:Nat}(hw:1<=w):∀N l,l.length<=N->(∀x∈l,Db x)->∀x∈jg w l,Db x
 |N,[],_,_=>λx h=>by cases h
 |0,x::l,h,_=>by simp at h
 |N+1,x::l,h,d=>by
  simp only[iv]at h;have c:=Fd hw (x::l);by_cases h1:dw w (x::l)=1;rw[h1]at c;rw[HC hw c];intro y a;rcases ek.1 a with rfl|a
  grind
  exact OU hw N l I (λz b=>d z (List.mem_cons_of_mem _ b)) y a;have ae:2<=dw w (x::l):=by have:=c.pos;omega
  obtain⟨m,hm⟩:∃m,m=dw w (x::l):=⟨_,rfl⟩;rw[<-hm]at c ae;have e:2*w<=m*w:=ur w ae;rw[KR hw c ae];intro y a;rcases ek.1 a with rfl|a;exact⟨I,λ_=>I,(Q5 _).2 λz b=>d z (LV b)⟩;exact OU hw N _ aJ (λz b=>d z (List.mem_of_mem_drop b)) y a
theorem Rl:∀k w l,1<=w->(∀x∈l,Db x)->∀x∈oj k w l,Db x
 |0,_,_,_,h=>h
 |k+1,w,l,hw,h=>by
  unfold oj;split;split;exact Rl k 1 _ (dz _) (OU hw _ l (dz _) h);exact Rl k (w+1) _ I (OU hw _ l (dz _) h);omega
theorem afb:∀l,gw (fY (mU (gg l)))=l
 |[]=>rfl
 |x::l=>by
  have a:=afb l;simp only[gg];split;rename_i y k r h;rw[h]at a;simp only[mU,ec,fY,gw,eJ.leaf,oY,bz]at a;split;simp_all[mU,fY,gw,eJ.leaf,rep,a];simp only[mU,ec,fY,gw,eJ.leaf,oY,bz];rw[a];rfl;rename_i h;rw[h]at a;simp only[mU,x',fY,gw]at a;rw[<-a];rfl
theorem ahM:∀l,∀r∈gg l,1<=r.2
 |[],_,h=>by cases h
 |x::l,r,h=>by
  have a:=ahM l;simp only[gg]at h
  grind
structure H3(l:List Int)(C:List iT):Prop where
 sn:wN (fY C)
 kv:gw (fY C)=l
 iM:oZ (fY C)<=11
 e':vO (fY C)=0
 bj:(fY C).bj<=(gg l).length
 fix:∀v,1<=v->v<=16->jg v C=C
theorem H3.of{l:List Int}(ak:l.length<=2048)(p:∀x∈l,¬vK x):H3 l (comp (mU (gg l))):=by
 have i:∀x∈mU (gg l),Dg x/\Db x:=by
  intro x a;obtain⟨r,h,rfl⟩:=cU.1 a;have h1:=ahM l r h;have ae:=(Pi l (P:=λx=>¬vK x)).2 p r h;unfold vK at ae;refine⟨⟨I,λ_=>⟨aJ,aJ⟩,(λq=>by cases q),trivial⟩,⟨I,(λq=>by cases q),trivial⟩⟩
 obtain⟨b,c,d⟩:=Mv (20*(mU (gg l)).length+20) 1 (mU (gg l)) (dz _);have e:=Rl (20*(mU (gg l)).length+20) 1 (mU (gg l)) (dz _) λx a=>(i x a).2;have j:=aom (mU (gg l));have hC:oj (20*(mU (gg l)).length+20) 1 (mU (gg l))=comp (mU (gg l)):=rfl;rw[hC]at b c d e;generalize comp (mU (gg l))=C at b c d e j;have g:=(Sm C).2 (d λx a=>(i x a).1);have ae:=(Q5 C).2 e;have k:gw (fY C)=l:=c.trans (afb l);have s:fJ (fY C)<=2048:=by rw[<-R2,k];exact ak
 have o:oZ (fY C)<=11:=by
  cases m:(fY C).leaf with
  |true=>rw[aeZ m];exact cW _
  |false=>
   have t:=Rt _ ae m;rcases Nat.lt_or_ge 11 (oZ (fY C))with f|f;have:=Nat.pow_le_pow_right (n:=2) aM (show 12<=oZ (fY C)from f);omega;omega
 refine⟨g,k,o,?_,?_,j⟩;rw[an' g s,aP I];rw[ae9]at b;exact b
theorem ZX{a b:fM}{k:Nat}{w:bw} hk:vm aB (.index 9 a b) [.string s,R k] w (bA .u8 s[k].toNat) w:=by
 intro e q d c;simp only[Iv,ec,x',zN,and_true]at c;obtain⟨h1,ae⟩:=c;have hu:=gM (w:=w) BO;simp[dk,d,h1,ae,Instr.index,asIntOf,R,hu,hk]
theorem ZZ{a b c:fM}{k:Nat}{w:bw}(hk:k<=m)(hm:m<=s.size):vm aB (.slice 9 a (some b) (some c) none) [.string s,R k,R m] w (.string (s.extract k m)) w:=by
 intro g q f d;simp[Iv]at d;obtain⟨h1,ae,e⟩:=d;have hu:=gM (w:=w) BO;simp[dk,f,h1,ae,e,Instr.sliceAt,Instr.slice,Instr.sliceBounds,Instr.sliceBound,asIntOf,R,hu,hk,hm]
abbrev bv(b:UInt8):ax:=bA .u8 b.toNat
def ER(b:UInt8):Bool:=decide ((97:Int)<=b.toNat)&&decide ((b.toNat:Int)<=122)
def I1(b:UInt8):Bool:=decide ((48:Int)<=b.toNat)&&decide ((b.toNat:Int)<=57)
def G3(b:UInt8):Bool:=ER b||I1 b||decide ((b.toNat:Int)=95)
theorem ae8 b h:Fn aB 202 #[bv b] h λv aa=>v=c5 (ER b)/\aa=h:=by
 refine b6 aw5 rfl (aY (λh1=>?_) (λh1=>?_));refine .ah ⟨?_,rfl⟩;simp[ER,h1,kH];refine .ah ⟨?_,rfl⟩;simp[ER,h1,kH]
theorem aoJ b h:Fn aB 217 #[bv b] h λv aa=>v=c5 (I1 b)/\aa=h:=by
 refine b6 axb rfl (aY (λh1=>?_) (λh1=>?_));refine .ah ⟨?_,rfl⟩;simp[I1,h1,kH];refine .ah ⟨?_,rfl⟩;simp[I1,h1,kH]
theorem auh b h:Fn aB 205 #[bv b] h λv aa=>v=c5 (G3 b)/\aa=h:=by
 refine b6 aw8 rfl (.ah (.mk _ (ae8 _ _) ?_));rintro _ _ ⟨rfl,rfl⟩;cases h1:ER b;refine .ah (.mk _ (aoJ _ _) ?_);rintro _ _ ⟨rfl,rfl⟩;cases ae:I1 b;refine .ah ⟨?_,rfl⟩;simp[G3,h1,ae,kH];refine .ah ⟨?_,rfl⟩;simp[G3,h1,ae,kH];refine .ah ⟨?_,rfl⟩;simp[G3,h1,kH]
def yv(s:ByteArray)(k:Nat):Obj:=bb [.string s,R k].toArray 394 (0,0)
def BY(s:ByteArray)(k:Nat):UInt8:=if h:k<s.size then s[k]else 0
theorem aBj c s k h(ay:h c=some (yv s k))(hk:k<=4611686018427387904):Fn aB 203 #[ie c,R 0] h λv aa=>v=bv (BY s k)/\aa=h:=by
 refine b6 aw6 rfl (.hp (R k) (bV ay rfl) (.bg (.hp (.string s) (bV ay rfl) (aY (λh1=>?_) (λh1=>?_)))));refine .ah ⟨?_,rfl⟩;have:¬k<s.size:=I;simp[BY,this,kH];refine .hp (.string s) (bV ay rfl) (.hp (R k) (bV ay rfl) (.bg ?_));have a:k<s.size:=I;refine .ah (.mk (bv s[k]) (λw _=>?_) ?_);rw[show((k:Int)+0)=(k:Nat)from I];exact ZX a;refine .ah ⟨?_,rfl⟩;simp[BY,a,kH]
theorem azv c s k h(ay:h c=some (yv s k)):Fn aB 216 #[ie c] h λv aa=>v=c5 (decide ((k:Int)<s.size))/\aa=h:=by
 exact b6 axa rfl (.hp (R k) (bV ay rfl) (.hp (.string s) (bV ay rfl) (.ah ⟨rfl,rfl⟩)))
theorem J.sT{U:Obj}(a:h b=some U):h.put b U=h:=by
 funext o;unfold J.put
 grind
def q9(s:ByteArray):Nat->Nat->Nat
 |0,k=>k
 |n+1,k=>if k<s.size/\G3 (BY s k)=true then q9 s n (k+1)else k
theorem ahD s:∀n k,k<=s.size->q9 s n k<=s.size/\k<=q9 s n k
 |0,k,hk=>⟨hk,dz _⟩
 |n+1,k,hk=>by
  rw[q9];split;rename_i h1;have:=ahD s n (k+1) h1.1;omega;omega
theorem aFS c s h(ay:h c=some (yv s 0))(j:s.size<=4611686018427387904):Fn aB 204 #[ie c,.func (.func 205) #[] #[]] h λv aa=>v= .string (s.extract 0 (q9 s s.size 0))/\aa=h.put c (yv s (q9 s s.size 0)):=by
 refine b6 aw7 rfl (.hp (R (0:Nat)) (bV ay rfl) (.mk Nat [0,1,5] (λk=>[.v (ie c),.v (.func (.func 205) #[] #[]),.v (R 0)]) (λ_=>[]) (λk aa=>aa=h.put c (yv s k)/\k<=s.size/\q9 s (s.size-k) k=q9 s s.size 0) (λk=>s.size-k) 0 (λ_=>rfl) ⟨(J.sT ay).symm,cW _,rfl⟩ rfl rfl ?_));rintro k e aa ⟨rfl,hk,d⟩;have a:(h.put c (yv s k)) c=some (yv s k):=J.b1 _ _ _;refine .mk _ (azv c s k _ a) (λ_ _ f=>f.2▸J.le_refl _) ?_;rintro _ _ ⟨rfl,rfl⟩;by_cases h1:(k:Int)<s.size;rw[gG h1];have b:k<s.size:=I;refine .hp (.string s) (bV a rfl) (.hp (R k) (bV a rfl) (.ah (.mk (bv s[k]) (λw _=>ZX b) (.mk _ (auh _ _) (λ_ _ f=>f.2▸J.le_refl _) ?_))));rintro _ _ ⟨rfl,rfl⟩;have l:BY s k=s[k]:=by simp[BY,b]
 have g:s.size-k=(s.size- (k+1))+1:=I;cases ae:G3 s[k];refine .hp (.string s) (bV a rfl) ?_;refine .hp (R k) (bV a rfl) ?_;refine .ah (.mk (.string (s.extract 0 k)) (λw _=>ZZ (cW _) hk) ?_);have:q9 s s.size 0=k:=by simp_all[<-d,g,q9]
 exact .ah ⟨by rw[this];rfl,by rw[this]⟩;refine .hp (R k) (bV a rfl) ?_;refine .bg ?_;refine .hp c 1 394 [.string s,R k] [.string s,R ((k:Int)+1)] rfl a rfl ?_;refine⟨k+1,rfl,rfl,⟨by rw[J.sS];rfl,b,?_⟩,I⟩;rw[<-d,g,q9,aP ⟨b,aJ⟩];rw[io h1];refine .hp (.string s) (bV a rfl) ?_;refine .hp (R k) (bV a rfl) ?_;refine .ah (.mk (.string (s.extract 0 k)) (λw _=>ZZ (cW _) hk) ?_);have i:s.size-k=0:=I;have:q9 s s.size 0=k:=by rw[<-d,i];rfl
 exact .ah ⟨by rw[this];rfl,by rw[this]⟩
def CI(s:ByteArray):Bool:=ER (BY s 0)&&decide (q9 s s.size 0=s.size)&&decide (s.size<=16)
theorem afS s h(f:s.size<=4611686018427387904):Fn aB 184 #[.string s] h λv aa=>v=c5 (CI s)/\h.le aa:=by
 refine b6 awU rfl (.mk λb c=>?_);have g:h.le (h.put b (yv s 0)):=J.dI c;have ay:(h.put b (yv s 0)) b=some (yv s 0):=J.b1 _ _ _;refine .ah (.mk _ (aBj b s 0 _ ay I) ?_);rintro _ _ ⟨rfl,rfl⟩;refine .ah (.mk _ (ae8 _ _) ?_);rintro _ _ ⟨rfl,rfl⟩;cases h1:ER (BY s 0);exact .ah ⟨by simp[CI,h1,kH],g⟩;refine .ah (.mk _ (aFS b s _ ay f) ?_);rintro _ _ ⟨rfl,rfl⟩;have hw:=(ahD s s.size 0 (cW _)).1;have d:(s.extract 0 (q9 s s.size 0)).size=q9 s s.size 0:=by simp_all
 conv=>whnf
 refine aY (λae=>?_) (λae=>?_);rw[d]at ae;have a:q9 s s.size 0=s.size:=I;refine .ah ⟨?_,by rw[J.sS];exact J.dI c⟩;simp[CI,h1,a,kH];omega;rw[d]at ae;have a:¬q9 s s.size 0=s.size:=λe=>ae (by rw[e]);refine .ah ⟨by simp[CI,h1,a,kH],?_⟩;rw[J.sS];exact J.dI c
def zT(h aa:J)(v:ax)(l:List Int):Prop:=∃A c,v=ab A l.length c/\bJ aa 3 1 A l.length c (l.map R)/\∀g,A=some g->h g.block=none
theorem kV A n c l h(aT:bf h 1 A n (l.map λz=>[R z]))(k:n*8<=140737488355328):Fn aB 104 #[ab A n c] h λr aa=>h.le aa/\zT h aa r l:=by
 have ak:l.length=n:=by simpa using aT.len
 refine b6 av9 rfl (.mk λb m=>.ah (.c3 1 _ _ rfl (aT.src _) (by rw[xj];exact KE _) (by grind [eD]) I λa d j=>.b4 1 3 1 a (0+n) d _ rfl λaa i g f=>?_));have e:bJ aa 3 1 a (0+n) d (l.map λz=>[R z]).flatten:=g;rw[dM,xj,<-ak]at e;exact .ah ⟨i,a,d,by rw[dM,ak];rfl,e,f⟩
theorem ud n m h:Fn aB 103 #[R n,R m] h λr aa=>r=c5 (decide (1<=n/\n<=m))/\aa=h:=by
 refine b6 av8 rfl (aY (λh1=>?_) (λh1=>?_));exact .ah ⟨by simp[h1,kH],rfl⟩;exact .ah ⟨by simp[h1,kH],rfl⟩
theorem aCl{k:Nat}{a b:ax}(hk:k<n):over (bh k a++bh (n-k) b) (k*1) [a]=some (bh (k+1) a++bh (n- (k+1)) b):=by
 rw[ih _ _ _ aJ,eV,List.set_append_right _ _ bd,wR,Nat.sub_self,show n-k=(n- (k+1))+1 from I,List.replicate_succ,List.set_cons_zero,List.replicate_succ' (n:=k),kC];rfl
theorem Pl(n:Nat) m h(i:n<=1000000):Fn aB 105 #[R n,R m] h λr aa=>h.le aa/\zT h aa r (bh n m):=by
 refine b6 av' rfl (oP.one n (R 0) rfl rfl rfl rfl I I λg=>.mk Nat [1,5,10,11] (λk=>[.v (R m),.v (ab (some g) n n),.v (R n),.v (R k)]) (λk=>[.row 3 1 (some g) n n (bh k (R m)++bh (n-k) (R 0))]) (λk aa=>aa=h/\k<=n) (λk=>n-k) 0 (λ_=>rfl) ⟨rfl,cW _⟩ rfl rfl (λk e aa⟨rfl,hk⟩=>aY (λh1=>?_) (λh1=>?_)));refine .m g rfl ?_;have a:k<n:=I;exact .row 0 3 1 g n n _ (bh (k+1) (R m)++bh (n- (k+1)) (R 0)) (k*1) rfl dC (aCl a) (.bg (⟨k+1,rfl,rfl,⟨rfl,a⟩,I⟩));have b:k=n:=I;subst b;refine .b4 0 3 1 (some g) k k _ rfl λae f d c=>?_;have j:bJ ae 3 1 (some g) k k (bh k (R m)++bh (k-k) (R 0)):=d;refine .ah ⟨f,some g,k,by simp[kH],?_,c⟩;simp_all
theorem zT.mono{al h aa d:J}{v:ax}{l:List Int}(x:zT h aa v l)(a:al.le h)(b:aa.le d):zT al d v l:=by
 obtain⟨A,c,e,r,f⟩:=x;exact⟨A,c,e,r.mono b,λg i=>J.none_le a (f g i)⟩
theorem kZ(h:J) b(l:List Int):bf (h.put b (bb (l.map R).toArray 3 (0,0))) 1 (some ⟨b,0,none⟩) l.length (l.map λz=>[R z]):=bf.lit (J.b1 _ _ _) (xj l) (λr a=>aJ) bd
theorem zT.nil h aa:zT h aa (ab none 0 0) []:=⟨none,0,rfl,⟨rfl,bW ⟨rfl,rfl,rfl⟩⟩,λ_ e=>by cases e⟩
def b3(tag:Int)(l:List Int):Int×List Int×List Int:=
 if tag<1\/11<tag then(60,[],[])else
 let n:=l.getD 0 0
 let m:=l.getD 1 0
 let single:=l.length=1
 let pair:=l.length=2/\(1<=n/\n<=16)/\(1<=m/\m<=64)/\n*m<=64
 if tag=1/\(1<=(l.length:Int)/\(l.length:Int)<=16)\/tag=8/\l.length=0 then(0,[1],[1])
 else if tag=2/\single/\(1<=n/\n<=64)then(0,[1],[n])
 else if tag=3/\single/\(1<=n/\n<=64)then(0,[n],[1])
 else if tag=4/\pair then(0,bh n.toNat m,[n*m])
 else if tag=5/\pair then(0,[n*m],bh n.toNat m)
 else if tag=6/\single/\(1<=n/\n<=16)then(0,bh n.toNat 1,[1])
 else if tag=7/\l.length=0 then(0,[1,1],[1])
 else if tag=9/\single/\(1<=n/\n<=16)then(0,[1],bh n.toNat 1)
 else if tag=10/\l.length=2 then(0,[],[1])
 else if tag=11/\single/\(1<=n/\n<=64)then(0,[n],[])
 else(61,[],[])
def QH(h:J)(x:Int×List Int×List Int)(v:ax)(aa:J):Prop:=∃a b,v=ey #[a,b,R x.1]/\h.le aa/\zT h aa a x.2.1/\zT h aa b x.2.2
theorem QH.err{k:Int}:QH h (k,[],[]) (ey #[ab none 0 0,ab none 0 0,R k]) h:=⟨_,_,rfl,J.le_refl _,.nil _ _,.nil _ _⟩
theorem Hq tag A n c l h(aT:bf h 1 A n (l.map λz=>[R z]))(E:n*8<=140737488355328):Fn aB 45 #[bA .u8 tag,ab A n c] h (QH h (b3 tag l)):=by
 have ak:l.length=n:=by simpa using aT.len
 refine b6 axE rfl ?_;conv=>whnf
 refine aY (λh1=>?_) (λh1=>?_);conv=>whnf
 rw[b3,aP (bW h1)];exact .ah .err;conv=>whnf
 refine aY (λae=>?_) (λae=>?_);conv=>whnf
 rw[b3,aP (bl ae)];exact .ah .err;have u:tag=1\/tag=2\/tag=3\/tag=4\/tag=5\/tag=6\/tag=7\/tag=8\/tag=9\/tag=10\/tag=11:=I;subst ak;rcases l with _|⟨x,_|⟨y,_|⟨z,l⟩⟩⟩;conv=>whnf
 rcases u with rfl|rfl|rfl|rfl|rfl|rfl|rfl|rfl|rfl|rfl|rfl;conv=>whnf
 refine .ah (.mk _ (ud _ 16 _) ?_);rintro _ _ ⟨rfl,rfl⟩;conv=>whnf
 rw[show b3 1 []=(61,[],[])from aM];exact .ah .err;conv=>whnf
 rw[show b3 2 []=(61,[],[])from aM];exact .ah .err;conv=>whnf
 rw[show b3 3 []=(61,[],[])from aM];exact .ah .err;conv=>whnf
 rw[show b3 4 []=(61,[],[])from aM];exact .ah .err;conv=>whnf
 rw[show b3 5 []=(61,[],[])from aM];exact .ah .err;conv=>whnf
 rw[show b3 6 []=(61,[],[])from aM];exact .ah .err;conv=>whnf
 rw[show b3 7 []=(0,[1,1],[1])from aM];refine .mk λm o=>?_;conv=>whnf
 refine .ah (.mk _ (kV _ _ _ _ _ (kZ _ m [1,1]) aM) (λf s⟨b,j⟩=>?_));have a:=J.dI (U:=bb (([1,1]:List Int).map R).toArray 3 (0,0)) o;conv=>whnf
 refine .mk λq r=>?_;conv=>whnf
 refine .ah (.mk _ (kV _ _ _ _ _ (kZ _ q [1]) aM) (λa2 t⟨e,p⟩=>?_));have d:=J.dI (U:=bb (([1]:List Int).map R).toArray 3 (0,0)) r;conv=>whnf
 exact .ah ⟨f,a2,rfl,(J.le_trans a (J.le_trans b (J.le_trans d e))),j.mono a (J.le_trans d e),p.mono (J.le_trans a (J.le_trans b d)) (J.le_refl _)⟩;conv=>whnf
 rw[show b3 8 []=(0,[1],[1])from aM];refine .mk λm o=>?_;conv=>whnf
 refine .ah (.mk _ (kV _ _ _ _ _ (kZ _ m [1]) aM) (λf s⟨b,j⟩=>?_));have a:=J.dI (U:=bb (([1]:List Int).map R).toArray 3 (0,0)) o;conv=>whnf
 refine .mk λq r=>?_;conv=>whnf
 refine .ah (.mk _ (kV _ _ _ _ _ (kZ _ q [1]) aM) (λa2 t⟨e,p⟩=>?_));have d:=J.dI (U:=bb (([1]:List Int).map R).toArray 3 (0,0)) r;conv=>whnf
 exact .ah ⟨f,a2,rfl,(J.le_trans a (J.le_trans b (J.le_trans d e))),j.mono a (J.le_trans d e),p.mono (J.le_trans a (J.le_trans b d)) (J.le_refl _)⟩;conv=>whnf
 rw[show b3 9 []=(61,[],[])from aM];exact .ah .err;conv=>whnf
 rw[show b3 10 []=(61,[],[])from aM];exact .ah .err;conv=>whnf
 rw[show b3 11 []=(61,[],[])from aM];exact .ah .err;obtain⟨g,rfl⟩:=aT.cg bd;conv=>whnf
 refine .mk g rfl bd bd ?_;conv=>whnf
 refine .hp (R x) (aT.one (i:=0) rfl rfl rfl) ?_;conv=>whnf
 rcases u with rfl|rfl|rfl|rfl|rfl|rfl|rfl|rfl|rfl|rfl|rfl;conv=>whnf
 refine .ah (.mk _ (ud _ 16 _) ?_);rintro _ _ ⟨rfl,rfl⟩;conv=>whnf
 rw[show b3 1 [x]=(0,[1],[1])from dC];refine .mk λm o=>?_;conv=>whnf
 refine .ah (.mk _ (kV _ _ _ _ _ (kZ _ m [1]) aM) (λf s⟨b,j⟩=>?_));have a:=J.dI (U:=bb (([1]:List Int).map R).toArray 3 (0,0)) o;conv=>whnf
 refine .mk λq r=>?_;conv=>whnf
 refine .ah (.mk _ (kV _ _ _ _ _ (kZ _ q [1]) aM) (λa2 t⟨e,p⟩=>?_));have d:=J.dI (U:=bb (([1]:List Int).map R).toArray 3 (0,0)) r;conv=>whnf
 exact .ah ⟨f,a2,rfl,(J.le_trans a (J.le_trans b (J.le_trans d e))),j.mono a (J.le_trans d e),p.mono (J.le_trans a (J.le_trans b d)) (J.le_refl _)⟩;conv=>whnf
 refine .ah (.mk _ (ud _ 64 _) ?_);rintro _ _ ⟨rfl,rfl⟩;by_cases hw:1<=x/\x<=64;rw[gG hw];conv=>whnf
 rw[show b3 2 [x]=(0,[1],[x])from by grind [b3]];refine .mk λm o=>?_;conv=>whnf
 refine .ah (.mk _ (kV _ _ _ _ _ (kZ _ m [1]) aM) (λf s⟨b,j⟩=>?_));have a:=J.dI (U:=bb (([1]:List Int).map R).toArray 3 (0,0)) o;conv=>whnf
 refine .mk λq r=>?_;conv=>whnf
 refine .ah (.mk _ (kV _ _ _ _ _ (kZ _ q [x]) aM) ?_);rintro a2 t ⟨e,p⟩;have d:=J.dI (U:=bb (([x]:List Int).map R).toArray 3 (0,0)) r;conv=>whnf
 exact .ah ⟨f,a2,rfl,(J.le_trans a (J.le_trans b (J.le_trans d e))),j.mono a (J.le_trans d e),p.mono (J.le_trans a (J.le_trans b d)) (J.le_refl _)⟩;rw[io hw];conv=>whnf
 rw[show b3 2 [x]=(61,[],[])from by grind [b3]];exact .ah .err;conv=>whnf
 refine .ah (.mk _ (ud _ 64 _) ?_);rintro _ _ ⟨rfl,rfl⟩;by_cases hw:1<=x/\x<=64;rw[gG hw];conv=>whnf
 rw[show b3 3 [x]=(0,[x],[1])from by grind [b3]];refine .mk λm o=>?_;conv=>whnf
 refine .ah (.mk _ (kV _ _ _ _ _ (kZ _ m [x]) aM) (λf s⟨b,j⟩=>?_));have a:=J.dI (U:=bb (([x]:List Int).map R).toArray 3 (0,0)) o;conv=>whnf
 refine .mk λq r=>?_;conv=>whnf
 refine .ah (.mk _ (kV _ _ _ _ _ (kZ _ q [1]) aM) ?_);rintro a2 t ⟨e,p⟩;have d:=J.dI (U:=bb (([1]:List Int).map R).toArray 3 (0,0)) r;conv=>whnf
 exact .ah ⟨f,a2,rfl,(J.le_trans a (J.le_trans b (J.le_trans d e))),j.mono a (J.le_trans d e),p.mono (J.le_trans a (J.le_trans b d)) (J.le_refl _)⟩;rw[io hw];conv=>whnf
 rw[show b3 3 [x]=(61,[],[])from by grind [b3]];exact .ah .err;conv=>whnf
 rw[show b3 4 [x]=(61,[],[])from dC];exact .ah .err;conv=>whnf
 rw[show b3 5 [x]=(61,[],[])from dC];exact .ah .err;conv=>whnf
 refine .ah (.mk _ (ud _ 16 _) ?_);rintro _ _ ⟨rfl,rfl⟩;by_cases hw:1<=x/\x<=16;rw[gG hw];conv=>whnf
 obtain⟨k,rfl⟩:∃k:Nat,x=k:=⟨x.toNat,I⟩;rw[show b3 6 [(k:Int)]=(0,bh k 1,[1])from by grind [b3]];refine .ah (.mk _ (Pl k 1 _ I) (λf s⟨b,j⟩=>?_));conv=>whnf
 refine .mk λq r=>?_;conv=>whnf
 refine .ah (.mk _ (kV _ _ _ _ _ (kZ _ q [1]) aM) ?_);rintro a2 t ⟨e,p⟩;have d:=J.dI (U:=bb (([1]:List Int).map R).toArray 3 (0,0)) r;conv=>whnf
 exact .ah ⟨f,a2,rfl,(J.le_trans b (J.le_trans d e)),j.mono (J.le_refl _) (J.le_trans d e),p.mono (J.le_trans b d) (J.le_refl _)⟩;rw[io hw];conv=>whnf
 rw[show b3 6 [x]=(61,[],[])from by grind [b3]];exact .ah .err;conv=>whnf
 rw[show b3 7 [x]=(61,[],[])from dC];exact .ah .err;conv=>whnf
 rw[show b3 8 [x]=(61,[],[])from dC];exact .ah .err;conv=>whnf
 refine .ah (.mk _ (ud _ 16 _) ?_);rintro _ _ ⟨rfl,rfl⟩;by_cases hw:1<=x/\x<=16;rw[gG hw];conv=>whnf
 obtain⟨k,rfl⟩:∃k:Nat,x=k:=⟨x.toNat,I⟩;rw[show b3 9 [(k:Int)]=(0,[1],bh k 1)from by grind [b3]];refine .mk λm o=>?_;conv=>whnf
 refine .ah (.mk _ (kV _ _ _ _ _ (kZ _ m [1]) aM) (λf s⟨b,j⟩=>?_));have a:=J.dI (U:=bb (([1]:List Int).map R).toArray 3 (0,0)) o;conv=>whnf
 refine .ah (.mk _ (Pl k 1 _ I) ?_);rintro a2 t ⟨e,p⟩;conv=>whnf
 exact .ah ⟨f,a2,rfl,(J.le_trans a (J.le_trans b e)),j.mono a e,p.mono (J.le_trans a b) (J.le_refl _)⟩;rw[io hw];conv=>whnf
 rw[show b3 9 [x]=(61,[],[])from by grind [b3]];exact .ah .err;conv=>whnf
 rw[show b3 10 [x]=(61,[],[])from dC];exact .ah .err;conv=>whnf
 refine .ah (.mk _ (ud _ 64 _) ?_);rintro _ _ ⟨rfl,rfl⟩;by_cases hw:1<=x/\x<=64;rw[gG hw];conv=>whnf
 rw[show b3 11 [x]=(0,[x],[])from by grind [b3]];refine .mk λm o=>?_;conv=>whnf
 refine .ah (.mk _ (kV _ _ _ _ _ (kZ _ m [x]) aM) ?_);rintro f s ⟨b,j⟩;have a:=J.dI (U:=bb (([x]:List Int).map R).toArray 3 (0,0)) o;conv=>whnf
 exact .ah ⟨f,_,rfl,(J.le_trans a b),j.mono a (J.le_refl _),.nil _ _⟩;rw[io hw];conv=>whnf
 rw[show b3 11 [x]=(61,[],[])from by grind [b3]];exact .ah .err;obtain⟨g,rfl⟩:=aT.cg bd;conv=>whnf
 refine .mk g rfl bd bd ?_;conv=>whnf
 refine .hp (R x) (aT.one (i:=0) rfl rfl rfl) ?_;conv=>whnf
 refine .mk g rfl bd bd ?_;conv=>whnf
 refine .hp (R y) (aT.one (i:=1) rfl rfl rfl) ?_;conv=>whnf
 refine .ah (.mk _ (ud x 16 _) ?_);rintro _ _ ⟨rfl,rfl⟩;by_cases v:1<=x/\x<=16;rw[gG v];conv=>whnf
 refine .ah (.mk _ (ud y 64 _) ?_);rintro _ _ ⟨rfl,rfl⟩;by_cases w:1<=y/\y<=64;rw[gG w];have G:x*y<=16*64/\0<=x*y:=⟨Int.mul_le_mul v.2 w.2 I I,Int.mul_nonneg I I⟩;conv=>whnf
 refine .bg ?_;conv=>whnf
 by_cases B:x*y<=64;rw[gG B];rcases u with rfl|rfl|rfl|rfl|rfl|rfl|rfl|rfl|rfl|rfl|rfl;conv=>whnf
 refine .ah (.mk _ (ud _ 16 _) ?_);rintro _ _ ⟨rfl,rfl⟩;conv=>whnf
 rw[show b3 1 [x,y]=(0,[1],[1])from dC];refine .mk λm o=>?_;conv=>whnf
 refine .ah (.mk _ (kV _ _ _ _ _ (kZ _ m [1]) aM) (λf s⟨b,j⟩=>?_));have a:=J.dI (U:=bb (([1]:List Int).map R).toArray 3 (0,0)) o;conv=>whnf
 refine .mk λq r=>?_;conv=>whnf
 refine .ah (.mk _ (kV _ _ _ _ _ (kZ _ q [1]) aM) (λa2 t⟨e,p⟩=>?_));have d:=J.dI (U:=bb (([1]:List Int).map R).toArray 3 (0,0)) r;conv=>whnf
 exact .ah ⟨f,a2,rfl,(J.le_trans a (J.le_trans b (J.le_trans d e))),j.mono a (J.le_trans d e),p.mono (J.le_trans a (J.le_trans b d)) (J.le_refl _)⟩;conv=>whnf
 rw[show b3 2 [x,y]=(61,[],[])from dC];exact .ah .err;conv=>whnf
 rw[show b3 3 [x,y]=(61,[],[])from dC];exact .ah .err;conv=>whnf
 obtain⟨k,rfl⟩:∃k:Nat,x=k:=⟨x.toNat,I⟩;rw[show b3 4 [(k:Int),y]=(0,bh k y,[(k:Int)*y])from by grind [b3]];refine .ah (.mk _ (Pl k y _ I) (λf s⟨b,j⟩=>?_));conv=>whnf
 refine .bg ?_;conv=>whnf
 refine .mk λq r=>?_;conv=>whnf
 refine .ah (.mk _ (kV _ _ _ _ _ (kZ _ q [(k:Int)*y]) aM) (λa2 t⟨e,p⟩=>?_));have d:=J.dI (U:=bb (([(k:Int)*y]:List Int).map R).toArray 3 (0,0)) r;conv=>whnf
 exact .ah ⟨f,a2,rfl,(J.le_trans b (J.le_trans d e)),j.mono (J.le_refl _) (J.le_trans d e),p.mono (J.le_trans b d) (J.le_refl _)⟩;conv=>whnf
 obtain⟨k,rfl⟩:∃k:Nat,x=k:=⟨x.toNat,I⟩;rw[show b3 5 [(k:Int),y]=(0,[(k:Int)*y],bh k y)from by grind [b3]];refine .bg ?_;conv=>whnf
 refine .mk λm o=>?_;conv=>whnf
 refine .ah (.mk _ (kV _ _ _ _ _ (kZ _ m [(k:Int)*y]) aM) (λf s⟨b,j⟩=>?_));have a:=J.dI (U:=bb (([(k:Int)*y]:List Int).map R).toArray 3 (0,0)) o;conv=>whnf
 refine .ah (.mk _ (Pl k y _ I) (λa2 t⟨e,p⟩=>?_));conv=>whnf
 exact .ah ⟨f,a2,rfl,(J.le_trans a (J.le_trans b e)),j.mono a e,p.mono (J.le_trans a b) (J.le_refl _)⟩;conv=>whnf
 rw[show b3 6 [x,y]=(61,[],[])from dC];exact .ah .err;conv=>whnf
 rw[show b3 7 [x,y]=(61,[],[])from dC];exact .ah .err;conv=>whnf
 rw[show b3 8 [x,y]=(61,[],[])from dC];exact .ah .err;conv=>whnf
 rw[show b3 9 [x,y]=(61,[],[])from dC];exact .ah .err;conv=>whnf
 rw[show b3 10 [x,y]=(0,[],[1])from dC];refine .mk λm o=>?_;conv=>whnf
 refine .ah (.mk _ (kV _ _ _ _ _ (kZ _ m [1]) aM) (λf s⟨b,j⟩=>?_));have a:=J.dI (U:=bb (([1]:List Int).map R).toArray 3 (0,0)) o;conv=>whnf
 exact .ah ⟨_,f,rfl,(J.le_trans a b),.nil _ _,j.mono a (J.le_refl _)⟩;conv=>whnf
 rw[show b3 11 [x,y]=(61,[],[])from dC];exact .ah .err;rw[io B];rcases u with rfl|rfl|rfl|rfl|rfl|rfl|rfl|rfl|rfl|rfl|rfl;conv=>whnf
 refine .ah (.mk _ (ud _ 16 _) ?_);rintro _ _ ⟨rfl,rfl⟩;conv=>whnf
 rw[show b3 1 [x,y]=(0,[1],[1])from dC];refine .mk λm o=>?_;conv=>whnf
 refine .ah (.mk _ (kV _ _ _ _ _ (kZ _ m [1]) aM) (λf s⟨b,j⟩=>?_));have a:=J.dI (U:=bb (([1]:List Int).map R).toArray 3 (0,0)) o;conv=>whnf
 refine .mk λq r=>?_;conv=>whnf
 refine .ah (.mk _ (kV _ _ _ _ _ (kZ _ q [1]) aM) (λa2 t⟨e,p⟩=>?_));have d:=J.dI (U:=bb (([1]:List Int).map R).toArray 3 (0,0)) r;conv=>whnf
 exact .ah ⟨f,a2,rfl,(J.le_trans a (J.le_trans b (J.le_trans d e))),j.mono a (J.le_trans d e),p.mono (J.le_trans a (J.le_trans b d)) (J.le_refl _)⟩;conv=>whnf
 rw[show b3 2 [x,y]=(61,[],[])from dC];exact .ah .err;conv=>whnf
 rw[show b3 3 [x,y]=(61,[],[])from dC];exact .ah .err;conv=>whnf
 rw[show b3 4 [x,y]=(61,[],[])from by grind [b3]];exact .ah .err;conv=>whnf
 rw[show b3 5 [x,y]=(61,[],[])from by grind [b3]];exact .ah .err;conv=>whnf
 rw[show b3 6 [x,y]=(61,[],[])from dC];exact .ah .err;conv=>whnf
 rw[show b3 7 [x,y]=(61,[],[])from dC];exact .ah .err;conv=>whnf
 rw[show b3 8 [x,y]=(61,[],[])from dC];exact .ah .err;conv=>whnf
 rw[show b3 9 [x,y]=(61,[],[])from dC];exact .ah .err;conv=>whnf
 rw[show b3 10 [x,y]=(0,[],[1])from dC];refine .mk λm o=>?_;conv=>whnf
 refine .ah (.mk _ (kV _ _ _ _ _ (kZ _ m [1]) aM) ?_);rintro f s ⟨b,j⟩;have a:=J.dI (U:=bb (([1]:List Int).map R).toArray 3 (0,0)) o;conv=>whnf
 exact .ah ⟨_,f,rfl,(J.le_trans a b),.nil _ _,j.mono a (J.le_refl _)⟩;conv=>whnf
 rw[show b3 11 [x,y]=(61,[],[])from dC];exact .ah .err;rw[io w];conv=>whnf
 rcases u with rfl|rfl|rfl|rfl|rfl|rfl|rfl|rfl|rfl|rfl|rfl;conv=>whnf
 refine .ah (.mk _ (ud _ 16 _) ?_);rintro _ _ ⟨rfl,rfl⟩;conv=>whnf
 rw[show b3 1 [x,y]=(0,[1],[1])from dC];refine .mk λm o=>?_;conv=>whnf
 refine .ah (.mk _ (kV _ _ _ _ _ (kZ _ m [1]) aM) (λf s⟨b,j⟩=>?_));have a:=J.dI (U:=bb (([1]:List Int).map R).toArray 3 (0,0)) o;conv=>whnf
 refine .mk λq r=>?_;conv=>whnf
 refine .ah (.mk _ (kV _ _ _ _ _ (kZ _ q [1]) aM) (λa2 t⟨e,p⟩=>?_));have d:=J.dI (U:=bb (([1]:List Int).map R).toArray 3 (0,0)) r;conv=>whnf
 exact .ah ⟨f,a2,rfl,(J.le_trans a (J.le_trans b (J.le_trans d e))),j.mono a (J.le_trans d e),p.mono (J.le_trans a (J.le_trans b d)) (J.le_refl _)⟩;conv=>whnf
 rw[show b3 2 [x,y]=(61,[],[])from dC];exact .ah .err;conv=>whnf
 rw[show b3 3 [x,y]=(61,[],[])from dC];exact .ah .err;conv=>whnf
 rw[show b3 4 [x,y]=(61,[],[])from by grind [b3]];exact .ah .err;conv=>whnf
 rw[show b3 5 [x,y]=(61,[],[])from by grind [b3]];exact .ah .err;conv=>whnf
 rw[show b3 6 [x,y]=(61,[],[])from dC];exact .ah .err;conv=>whnf
 rw[show b3 7 [x,y]=(61,[],[])from dC];exact .ah .err;conv=>whnf
 rw[show b3 8 [x,y]=(61,[],[])from dC];exact .ah .err;conv=>whnf
 rw[show b3 9 [x,y]=(61,[],[])from dC];exact .ah .err;conv=>whnf
 rw[show b3 10 [x,y]=(0,[],[1])from dC];refine .mk λm o=>?_;conv=>whnf
 refine .ah (.mk _ (kV _ _ _ _ _ (kZ _ m [1]) aM) ?_);rintro f s ⟨b,j⟩;have a:=J.dI (U:=bb (([1]:List Int).map R).toArray 3 (0,0)) o;conv=>whnf
 exact .ah ⟨_,f,rfl,(J.le_trans a b),.nil _ _,j.mono a (J.le_refl _)⟩;conv=>whnf
 rw[show b3 11 [x,y]=(61,[],[])from dC];exact .ah .err;rw[io v];conv=>whnf
 rcases u with rfl|rfl|rfl|rfl|rfl|rfl|rfl|rfl|rfl|rfl|rfl;conv=>whnf
 refine .ah (.mk _ (ud _ 16 _) ?_);rintro _ _ ⟨rfl,rfl⟩;conv=>whnf
 rw[show b3 1 [x,y]=(0,[1],[1])from dC];refine .mk λm o=>?_;conv=>whnf
 refine .ah (.mk _ (kV _ _ _ _ _ (kZ _ m [1]) aM) (λf s⟨b,j⟩=>?_));have a:=J.dI (U:=bb (([1]:List Int).map R).toArray 3 (0,0)) o;conv=>whnf
 refine .mk λq r=>?_;conv=>whnf
 refine .ah (.mk _ (kV _ _ _ _ _ (kZ _ q [1]) aM) (λa2 t⟨e,p⟩=>?_));have d:=J.dI (U:=bb (([1]:List Int).map R).toArray 3 (0,0)) r;conv=>whnf
 exact .ah ⟨f,a2,rfl,(J.le_trans a (J.le_trans b (J.le_trans d e))),j.mono a (J.le_trans d e),p.mono (J.le_trans a (J.le_trans b d)) (J.le_refl _)⟩;conv=>whnf
 rw[show b3 2 [x,y]=(61,[],[])from dC];exact .ah .err;conv=>whnf
 rw[show b3 3 [x,y]=(61,[],[])from dC];exact .ah .err;conv=>whnf
 rw[show b3 4 [x,y]=(61,[],[])from by grind [b3]];exact .ah .err;conv=>whnf
 rw[show b3 5 [x,y]=(61,[],[])from by grind [b3]];exact .ah .err;conv=>whnf
 rw[show b3 6 [x,y]=(61,[],[])from dC];exact .ah .err;conv=>whnf
 rw[show b3 7 [x,y]=(61,[],[])from dC];exact .ah .err;conv=>whnf
 rw[show b3 8 [x,y]=(61,[],[])from dC];exact .ah .err;conv=>whnf
 rw[show b3 9 [x,y]=(61,[],[])from dC];exact .ah .err;conv=>whnf
 rw[show b3 10 [x,y]=(0,[],[1])from dC];refine .mk λm o=>?_;conv=>whnf
 refine .ah (.mk _ (kV _ _ _ _ _ (kZ _ m [1]) aM) (λf s⟨b,j⟩=>?_));have a:=J.dI (U:=bb (([1]:List Int).map R).toArray 3 (0,0)) o;conv=>whnf
 exact .ah ⟨_,f,rfl,(J.le_trans a b),.nil _ _,j.mono a (J.le_refl _)⟩;conv=>whnf
 rw[show b3 11 [x,y]=(61,[],[])from dC];exact .ah .err;obtain⟨g,rfl⟩:=aT.cg bd;have F:(x::y::z::l).length=l.length+3:=rfl;conv=>whnf
 refine aY (λD=>?_) (λD=>I);conv=>whnf
 refine .mk g rfl aM I ?_;conv=>whnf
 refine .hp (R x) (aT.one (i:=0) rfl rfl rfl) ?_;conv=>whnf
 refine aY (λC=>?_) (λC=>I);conv=>whnf
 refine .mk g rfl aM I ?_;conv=>whnf
 refine .hp (R y) (aT.one (i:=1) rfl rfl rfl) ?_;conv=>whnf
 rcases u with rfl|rfl|rfl|rfl|rfl|rfl|rfl|rfl|rfl|rfl|rfl;conv=>whnf
 refine .ah (.mk _ (ud _ 16 _) ?_);rintro _ _ ⟨rfl,rfl⟩;by_cases hw:(1:Int)<=(((x::y::z::l).length:Nat):Int)/\(((x::y::z::l).length:Nat):Int)<=16;rw[gG hw];conv=>whnf
 rw[show b3 1 (x::y::z::l)=(0,[1],[1])from by grind [b3]];refine .mk λm o=>?_;conv=>whnf
 refine .ah (.mk _ (kV _ _ _ _ _ (kZ _ m [1]) aM) (λf s⟨b,j⟩=>?_));have a:=J.dI (U:=bb (([1]:List Int).map R).toArray 3 (0,0)) o;conv=>whnf
 refine .mk λq r=>?_;conv=>whnf
 refine .ah (.mk _ (kV _ _ _ _ _ (kZ _ q [1]) aM) ?_);rintro a2 t ⟨e,p⟩;have d:=J.dI (U:=bb (([1]:List Int).map R).toArray 3 (0,0)) r;conv=>whnf
 exact .ah ⟨f,a2,rfl,(J.le_trans a (J.le_trans b (J.le_trans d e))),j.mono a (J.le_trans d e),p.mono (J.le_trans a (J.le_trans b d)) (J.le_refl _)⟩;rw[io hw];conv=>whnf
 rw[show b3 1 (x::y::z::l)=(61,[],[])from by grind [b3]];exact .ah .err;conv=>whnf
 rw[show b3 2 (x::y::z::l)=(61,[],[])from dC];exact .ah .err;conv=>whnf
 rw[show b3 3 (x::y::z::l)=(61,[],[])from dC];exact .ah .err;conv=>whnf
 rw[show b3 4 (x::y::z::l)=(61,[],[])from dC];exact .ah .err;conv=>whnf
 rw[show b3 5 (x::y::z::l)=(61,[],[])from dC];exact .ah .err;conv=>whnf
 rw[show b3 6 (x::y::z::l)=(61,[],[])from dC];exact .ah .err;conv=>whnf
 rw[show b3 7 (x::y::z::l)=(61,[],[])from dC];exact .ah .err;conv=>whnf
 rw[show b3 8 (x::y::z::l)=(61,[],[])from dC];exact .ah .err;conv=>whnf
 rw[show b3 9 (x::y::z::l)=(61,[],[])from dC];exact .ah .err;conv=>whnf
 rw[show b3 10 (x::y::z::l)=(61,[],[])from dC];exact .ah .err;conv=>whnf
 rw[show b3 11 (x::y::z::l)=(61,[],[])from dC];exact .ah .err
def HM(p:ByteArray×Nat):MapEntry:={key:=.string p.1,val:=R 1,born:=p.2}
def sL(bs:List ByteArray):Obj:=.map (bs.zipIdx.map HM).toArray bs.length
theorem Zb(a b:ByteArray):(a==b)=decide (a=b):=by
 have h1:(a==b)=(a.data==b.data):=rfl;rw[h1];by_cases e:a=b;subst e;simp;rw[io e];have:a.data≠b.data:=λh=>e (aGv h);simpa using this
theorem aa4 s:∀(l:List (ByteArray×Nat)) i,∃r,Di .string (.string s) (l.map HM) i=some r/\((r=none/\s∉l.map gQ)\/∃o,r=some (o,R 1)/\s∈l.map gQ)
 |[],i=>⟨none,rfl,bW ⟨rfl,bd⟩⟩
 |p::l,i=>by
  simp only[ec,Di,HM,Instr.sameNow];by_cases e:s=p.1;have:(s==p.1)=true:=by rw[Zb,gG e]
  rw[this];exact⟨_,rfl,bl ⟨_,rfl,by simp[e]⟩⟩;have:(s==p.1)=false:=by rw[Zb,io e]
  rw[this];obtain⟨r,h1,ae⟩:=aa4 s l (i+1);refine⟨r,h1,?_⟩;rcases ae with⟨b,a⟩|⟨o,b,a⟩;exact bW ⟨b,by simp only[ek,not_or];exact⟨e,a⟩⟩;exact bl ⟨o,b,by simp only[ek];exact bl a⟩
theorem zip_fst(bs:List ByteArray):bs.zipIdx.map gQ=bs:=bd
theorem aa2 s(bs:List ByteArray) w:∃r,(Dh 9 (.string s) (bs.zipIdx.map HM)).run aB w= .ok r w/\((r=none/\s∉bs)\/∃o,r=some (o,R 1)/\s∈bs):=by
 obtain⟨r,h1,ae⟩:=aa4 s bs.zipIdx 0;rw[zip_fst]at ae;refine⟨r,?_,ae⟩;have hu:=gM (w:=w) BO;simp[Dh,hu,h1]
theorem Zx em s w:(rk em 10000 9 (.string s)).run aB w= .ok () w:=by
 have:∀d,(rk em (d+1) 9 (.string s)).run aB w= .ok () w:=λd=>by simp[rk,gM BO]
 exact this 9999
def D8(bs:List ByteArray)(s:ByteArray):Bool:=bs.any λt=>decide (t=s)
theorem SJ:D8 bs s=true↔s∈bs:=by simp[D8]
theorem aoL{a b:fM}{w:bw}(hm:w.heap[m]?=some (sL bs)):vm aB (.lookup 331 a b false) [.map (some m),.string s] w (R (if D8 bs s=true then 1 else 0)) w:=by
 intro i q h d;simp[Iv]at d;obtain⟨h1,ae⟩:=d;have hu:=gM (w:=w) amA;obtain⟨r,f1,f2⟩:=aa2 s bs w;have hk:=Zx (bs.zipIdx.map HM).toArray.isEmpty s w;have g:(DY m).run aB w= .ok (sL bs) w:=by simp[DY,BK,hm,sL]
 simp only[dk,h,h1,ae,Instr.lookup,ic,hu,im,g,sL,k8,hk,f1];rcases f2 with⟨rfl,c⟩|⟨o,rfl,c⟩;rw[aD (λe=>c (SJ.1 e))];have f:LD aB 3=some (R 0):=e2;simp[ajP f];rw[aP (SJ.2 c)];simp[R]
theorem aoM{a b:fM}{w:bw}(hm:w.heap[m]?=some (sL bs))(f:s∉bs):∀d q,q.op= .mapUpdate 331 a b (.const (bA .i64 1))->(Iv (.mapUpdate 331 a b (.const (bA .i64 1)))).toList.map d=[.map (some m),.string s,bA .i64 1]->(dk d q).run aB w= .ok .skip {w with heap:=w.heap.setIfInBounds m (sL (bs++[s]))}:=by
 intro d q j e;simp[Iv]at e;obtain⟨h1,ae,i⟩:=e;have hu:=gM (w:=w) amA;obtain⟨r,f1,f2⟩:=aa2 s bs w;have hk:=Zx false s w;have g:(DY m).run aB w= .ok (sL bs) w:=by simp[DY,BK,hm,sL]
 have k:∀c,(setObj m c).run aB w= .ok () {w with heap:=w.heap.setIfInBounds m c}:=λc=>by simp[setObj,BK,hm,sL]
 rcases f2 with⟨rfl,_⟩|⟨o,rfl,h⟩;simp only[dk,j,h1,ae,i,Instr.mapUpdate,ic,hu,im,g,sL,k8,hk,f1,k];rw[show(⟨.string s,bA .i64 1,bs.length⟩:MapEntry)=HM (s,bs.length)from rfl];simp[List.zipIdx_append];exact absurd h f
def pa(bs:List ByteArray)(s:ByteArray):Int:=if CI s=false then 82 else if D8 bs s=true then 83 else 0
def y7(e:Int)(bs:List ByteArray)(s:ByteArray):List ByteArray:=if e=0 then bs++[s]else bs
theorem UT c m(cs:List ax) bs s h(ay:h c=some (bb cs.toArray 334 (0,0)))(i:cs[5]?=some (.map (some m)))(hm:h m=some (sL bs))(k:s.size<=4611686018427387904):Fn aB 185 #[ie c,.string s] h λv aa=>v=R (pa bs s)/\∃h1,h.le h1/\aa=h1.put m (sL (y7 (pa bs s) bs s)):=by
 refine b6 awV rfl (.ah (.mk _ (afS s _ k) ?_));rintro _ h1 ⟨rfl,a⟩;have j:=a _ _ ay;have d:=a _ _ hm;cases f:CI s;refine .ah ⟨by rw[pa,aP f];rfl,h1,a,?_⟩;rw[pa,aP f];exact(J.sT d).symm;refine .hp _ (bV j i) ?_;refine .ah (.mk _ (λw hw=>aoL (bs:=bs) (hw _ _ d)) ?_);refine aY (λae=>?_) (λae=>?_);have g:D8 bs s=true:=by
  by_cases e:D8 bs s=true;exact e;rw[aD e]at ae;omega
 have b:pa bs s=83:=by rw[pa,aD (by simp[f]),aP g]
 refine .ah ⟨by rw[b];rfl,h1,a,?_⟩;rw[b];exact(J.sT d).symm;have g:¬D8 bs s=true:=by
  intro e;rw[aP e]at ae;omega
 have b:pa bs s=0:=by rw[pa,aD (by simp[f]),aD g]
 refine .hp _ (bV j i) (.ah (.aic m _ _ d (λw hw=>aoM (hw _ _ d) λe=>g (SJ.2 e)) (.ah ⟨by rw[b];rfl,h1,a,?_⟩)));rw[b];rfl
theorem aqo(l:List ax):(l.map λv=>[v]).flatten=l:=by
 induction l with
 |nil=>rfl
 |cons a l b=>rw[ec,List.flatten_cons,b];rfl
theorem bJ.eQ{l:List ax}(x:bJ h bK 1 A n c l):bf h 1 A n (l.map λv=>[v]):=bJ.dV (by rw[aqo];exact x) (λr a=>by obtain⟨v,_,rfl⟩:=cU.1 a;rfl) aM
def yp(r:List Bool):Obj:=bb (r.map c5).toArray 4 (0,0)
def nE(p:Nat×List Bool):ax:=ab (some ⟨p.1,0,none⟩) p.2.length p.2.length
structure IA(h:J)(A:Option aI)(c:Nat)(rs:List (Nat×List Bool)):Prop where
 out:bJ h 193 1 A rs.length c (rs.map nE)
 hD:∀p∈rs,h p.1=some (yp p.2)
theorem IA.row(x:IA h A c rs){g:aI}(b:A=some g){i:Nat} a:h.cell? (g.add (i*1))=some (nE rs[i]):=x.out.eQ.one b (i:=i) (by rw[dH,dH,bZ a];rfl) rfl
def qp(rs:List (Nat×List Bool))(a p:Int):Int:=
 if a<0\/(rs.length:Int)<=a then 84 else
 if p<0\/((rs.getD a.toNat (0,[])).2.length:Int)<=p then 85 else
 if(rs.getD a.toNat (0,[])).2.getD p.toNat false=true then 86 else 0
def n4(rs:List (Nat×List Bool))(a p:Nat):List (Nat×List Bool):=rs.set a ((rs.getD a (0,[])).1,(rs.getD a (0,[])).2.set p true)
def qo(h:J)(rs:List (Nat×List Bool))(a p:Int):J:=if qp rs a p=0 then h.put (rs.getD a.toNat (0,[])).1 (yp ((rs.getD a.toNat (0,[])).2.set p.toNat true))else h
theorem Pw A c rs a p h(x:IA h A c rs):Fn aB 186 #[ab A rs.length c,R a,R p] h λv aa=>v=R (qp rs a p)/\aa=qo h rs a p:=by
 refine b6 awW rfl ?_;have d:(a<0\/(rs.length:Int)<=a)->qp rs a p=84:=λe=>by rw[qp,aP e]
 refine aY (λh1=>?_) (λh1=>?_);exact .ah ⟨by rw[d (bW h1)];rfl,by simp[qo,d (bW h1)]⟩;refine aY (λae=>?_) (λae=>?_);exact .ah ⟨by rw[d (bl ae)];rfl,by simp[qo,d (bl ae)]⟩;obtain⟨i,rfl⟩:∃i:Nat,a=i:=⟨a.toNat,I⟩;have o:i<rs.length:=I;have l:rs.getD (i:Int).toNat (0,[])=rs[i]:=by simp[cx,bZ o]
 have f:(p<0\/(rs[i].2.length:Int)<=p)->qp rs i p=85:=λe=>by rw[qp,aD I,l,aP e]
 obtain⟨g,j⟩:=x.out.eQ.cg I;have q:=x.row j o;refine aY (λs=>?_) (λs=>?_);exact .ah ⟨by rw[f (bW s)];rfl,by simp[qo,f (bW s)]⟩;refine .m g j ?_;refine .hp _ (by rw[bz];exact q) ?_;refine aY (λn=>?_) (λn=>?_);exact .ah ⟨by rw[f (bl n)];rfl,by simp[qo,f (bl n)]⟩;obtain⟨k,rfl⟩:∃k:Nat,p=k:=⟨p.toNat,I⟩;have hk:k<rs[i].2.length:=I;have t:=x.hD rs[i] (cG o);have w:rs[i].2.getD (k:Int).toNat false=rs[i].2[k]:=by simp[cx,bZ hk]
 have b:qp rs i k=if rs[i].2[k]=true then 86 else 0:=by rw[qp,aD I,l,aD I,w]
 have y:h.cell? ((Addr.mk rs[i].1 0 none).add (k*1))=some (c5 rs[i].2[k]):=by
  rw[add_lit,dM,eV];exact bV t (by rw[dH,bZ hk];rfl)
 refine .m g j ?_;refine .hp _ (by rw[bz];exact q) ?_;refine .r ?_;refine .hp _ (by rw[bz];exact y) ?_;cases u:rs[i].2[k];rw[u]at b;refine .m g j ?_;refine .hp _ (by rw[bz];exact q) ?_;refine .r ?_;refine .hp rs[i].1 (k*1) 4 (rs[i].2.map c5) ((rs[i].2.set k true).map c5) (by rw[add_lit,dM,bz]) t (by rw[ih _ _ _ (by simp;omega),lM,eV]) ?_;refine .ah ⟨by rw[b];rfl,?_⟩;rw[qo,b,l];simp[yp];rw[u]at b;exact .ah ⟨by rw[b];rfl,by rw[qo,b];simp⟩
structure iC where
 dK:ByteArray
 tag:Int
 A:Option aI
 n:Nat
 c:Nat
 a6:List Int
def iC.cells(a:iC):List ax:=[.string a.dK,bA .u8 a.tag,ab a.A a.n a.c]
structure iC.ok(h:J)(a:iC):Prop where
 dV:bf h 1 a.A a.n (a.a6.map λz=>[R z])
 n8:a.n*8<=140737488355328
 gW:a.dK.size<=4611686018427387904
structure GE where
 src:Int
 sp:Int
 dst:Int
 iM:Int
 A:Option aI
 n:Nat
 c:Nat
 st:List Int
def GE.cells(a:GE):List ax:=[R a.src,R a.sp,R a.dst,R a.iM,ab a.A a.n a.c]
structure GE.ok(h:J)(a:GE):Prop where
 dV:bf h 1 a.A a.n (a.st.map λz=>[R z])
 n8:a.n*8<=140737488355328
structure l5 where
 dK:ByteArray
 act:Int
 port:Int
def l5.cells(a:l5):List ax:=[.string a.dK,R a.act,R a.port]
structure c8 where
 dK:ByteArray
 hA:Option aI
 ac:Nat
 a8:List iC
 gF:Option aI
 cD:Nat
 be:List GE
 dR:Option aI
 cb:Nat
 ins:List l5
 cj:Option aI
 bO:Nat
 outs:List l5
variable {g:c8}
def c8.cells(g:c8):List ax:=[.string g.dK,ab g.hA g.a8.length g.ac,ab g.gF g.be.length g.cD,ab g.dR g.ins.length g.cb,ab g.cj g.outs.length g.bO]
structure c8.ok(h:J)(g:c8):Prop where
 dK:g.dK.size<=4611686018427387904
 a8:bf h 3 g.hA g.a8.length (g.a8.map iC.cells)
 act:∀a∈g.a8,a.ok h
 be:bf h 5 g.gF g.be.length (g.be.map GE.cells)
 qI:∀a∈g.be,a.ok h
 ins:bf h 3 g.dR g.ins.length (g.ins.map l5.cells)
 adE:∀a∈g.ins,a.dK.size<=4611686018427387904
 outs:bf h 3 g.cj g.outs.length (g.outs.map l5.cells)
 agI:∀a∈g.outs,a.dK.size<=4611686018427387904
theorem c8.ok.mono{h aa:J}{g:c8}(x:g.ok h)(le:h.le aa):g.ok aa:=⟨x.dK,x.a8.mono le,λa b=>⟨(x.act a b).dV.mono le,(x.act a b).n8,(x.act a b).gW⟩,x.be.mono le,λa b=>⟨(x.qI a b).dV.mono le,(x.qI a b).n8⟩,x.ins.mono le,x.adE,x.outs.mono le,x.agI⟩
def ts(g:c8):Int:=
 if CI g.dK=false then 82 else if g.a8.length=0 then 80 else if 32<g.a8.length then 81 else if 96<g.be.length then 81 else if 16<g.ins.length then 81 else if 16<g.outs.length then 81 else 0
def Ac(g:c8)(m:Nat)(bX O:ax):List ax:=g.cells++[.map (some m),bX,O]
def Fl(a b c:Int):ax:=.agg #[bA .u8 a,R b,R c]
theorem asn c m g bX O h(ay:h c=some (bb (Ac g m bX O).toArray 334 (0,0)))(ok:g.ok h):Fn aB 143 #[ie c] h λv aa=>h.le aa/\∃s1 s2 l,v=ey #[R (ts g),Fl s1 s2 l]:=by
 refine b6 awD rfl ?_;refine .hp g.cells rfl (λo v d=>?_) ?_;simp only[add_lit,dM];exact bV ay (by rw[Ac,List.getElem?_append_left (List.getElem?_eq_some_iff.1 d).1];exact d);refine .ah (.mk _ (afS _ _ ok.dK) ?_);rintro _ h1 ⟨rfl,b⟩;cases a:CI g.dK;exact .ah ⟨b,_,_,_,by rw[ts,aP a];rfl⟩;refine aY (λf=>?_) (λf=>?_);exact .ah ⟨b,_,_,_,by rw[ts,aD (by simp[a]),aP I];rfl⟩;refine aY (λe=>?_) (λe=>?_);exact .ah ⟨b,_,_,_,by rw[ts,aD (by simp[a]),aD I,aP I];rfl⟩;refine aY (λi=>?_) (λi=>?_);exact .ah ⟨b,_,_,_,by rw[ts,aD (by simp[a]),aD I,aD I,aP I];rfl⟩;refine aY (λj=>?_) (λj=>?_);exact .ah ⟨b,_,_,_,by rw[ts,aD (by simp[a]),aD I,aD I,aD I,aP I];rfl⟩;refine aY (λk=>?_) (λk=>?_);exact .ah ⟨b,_,_,_,by rw[ts,aD (by simp[a]),aD I,aD I,aD I,aD I,aP I];rfl⟩;exact .ah ⟨b,_,_,_,by rw[ts,aD (by simp[a]),aD I,aD I,aD I,aD I,aD I];rfl⟩
def ed(c m:Nat)(aZ ro:List (Nat×List Bool)):List Nat:=c::m::(aZ.map gQ++ro.map gQ)
structure kL(al h:J)(c m:Nat)(g:c8)(bs:List ByteArray)(bX O:ax)(aZ ro:List (Nat×List Bool)):Prop where
 le:al.le h
 head:h c=some (bb (Ac g m bX O).toArray 334 (0,0))
 map:h m=some (sL bs)
 hD:∀p∈aZ++ro,h p.1=some (yp p.2)
 dS:(ed c m aZ ro).Nodup
 new:∀b∈ed c m aZ ro,al b=none
structure k4(al h:J)(c m:Nat)(g:c8)(bs:List ByteArray)(hq:Option aI)(cb:Nat)(aZ:List (Nat×List Bool))(gY:Option aI)(bO:Nat)(ro:List (Nat×List Bool)):Prop where
 core:kL al h c m g bs (ab hq aZ.length cb) (ab gY ro.length bO) aZ ro
 E':bJ h 193 1 hq aZ.length cb (aZ.map nE)
 Fa:bJ h 193 1 gY ro.length bO (ro.map nE)
 Ca:∀g,hq=some g->g.block∉ed c m aZ ro/\al g.block=none
 Cb:∀g,gY=some g->g.block∉ed c m aZ ro/\al g.block=none
 Ib:∀g cf,hq=some g->gY=some cf->g.block≠cf.block
section
variable {al h aa:J}{c m cb bO:Nat}{g:c8}{bs qi:List ByteArray}{bX O:ax}{hq gY:Option aI}{aZ ro:List (Nat×List Bool)}
theorem J.jS{k:Nat}{U:Obj}(e:k≠b):h.put b U k=h k:=by simp[J.put,e]
theorem AR{U:Obj}(le:al.le h)(e:al b=none):al.le (h.put b U):=λo c a=>by
 have:o≠b:=λq=>by rw[q,e]at a;cases a
 rw[J.jS this];exact le _ _ a
theorem kL.mono(x:kL al h c m g bs bX O aZ ro)(le:h.le aa):kL al aa c m g bs bX O aZ ro:=⟨J.le_trans x.le le,le _ _ x.head,le _ _ x.map,λp hp=>le _ _ (x.hD p hp),x.dS,x.new⟩
theorem kL.tg(x:kL al h c m g bs bX O aZ ro):c≠m/\(∀p∈aZ++ro,p.1≠c/\p.1≠m):=by
 have a:=x.dS;simp only[ed,iV,ek,ej,not_or]at a;obtain⟨⟨c1,c2⟩,b,_⟩:=a;refine⟨c1,λp hp=>⟨λe=>?_,λe=>?_⟩⟩;rcases ej.1 hp with q|q;exact c2.1 (by rw[<-e];exact cU.2 ⟨p,q,rfl⟩);exact c2.2 (by rw[<-e];exact cU.2 ⟨p,q,rfl⟩);rcases ej.1 hp with q|q;exact b.1 (by rw[<-e];exact cU.2 ⟨p,q,rfl⟩);exact b.2 (by rw[<-e];exact cU.2 ⟨p,q,rfl⟩)
theorem kL.names(x:kL al h c m g bs bX O aZ ro):kL al (h.put m (sL qi)) c m g qi bX O aZ ro:=by
 obtain⟨c1,c2⟩:=x.tg;exact⟨AR x.le (x.new m (by simp[ed])),by rw[J.jS c1];exact x.head,J.b1 _ _ _,λp hp=>by rw[J.jS (c2 p hp).2];exact x.hD p hp,x.dS,x.new⟩
theorem kL.aC{LN L6:ax}(x:kL al h c m g bs bX O aZ ro):kL al (h.put c (bb (Ac g m LN L6).toArray 334 (0,0))) c m g bs LN L6 aZ ro:=by
 obtain⟨c1,c2⟩:=x.tg;exact⟨AR x.le (x.new c (by simp[ed])),J.b1 _ _ _,by rw[J.jS (d' c1)];exact x.map,λp hp=>by rw[J.jS (c2 p hp).1];exact x.hD p hp,x.dS,x.new⟩
theorem ZQ(le:al.le h)(f:∀g,A=some g->al g.block=none):al.le (eP h A):=by
 cases A with
 |none=>exact le
 |some g=>
  intro o U a;have:o≠g.block:=λe=>by rw[e,f g rfl]at a;cases a
  simp only[eP,J.del];rw[aD this];exact le _ _ a
theorem aoG{o:Nat}(f:∀g,A=some g->g.block≠o):eP h A o=h o:=by
 cases A with
 |none=>rfl
 |some g=>simp only[eP,J.del];rw[aD (d' (f g rfl))]
theorem kL.del(x:kL al h c m g bs bX O aZ ro)(f:∀g,A=some g->g.block∉ed c m aZ ro/\al g.block=none):kL al (eP h A) c m g bs bX O aZ ro:=by
 have ne:∀o∈ed c m aZ ro,eP h A o=h o:=λo b=>aoG λg a e=>(f g a).1 (by rw[e];exact b);refine⟨ZQ x.le λg a=>(f g a).2,by rw[ne c (by simp[ed])];exact x.head,by rw[ne m (by simp[ed])];exact x.map,λp hp=>?_,x.dS,x.new⟩;rw[ne p.1];exact x.hD p hp;rcases ej.1 hp with q|q;simp only[ed,ek,ej];exact bl (bl (bW (cU.2 ⟨p,q,rfl⟩)));simp only[ed,ek,ej];exact bl (bl (bl (cU.2 ⟨p,q,rfl⟩)))
theorem kL.qh(x:kL al h c m g bs bX O aZ ro):∀o∈ed c m aZ ro,h o≠none:=by
 intro o a;simp only[ed,ek,ej,cU]at a;rcases a with rfl|rfl|⟨p,hp,rfl⟩|⟨p,hp,rfl⟩;rw[x.head];simp;rw[x.map];simp;rw[x.hD p (by simp[hp])];simp;rw[x.hD p (by simp[hp])];simp
theorem ahw{b:aI}(r:bJ h 4 1 (some b) n n (bh n (c5 false))):b=⟨b.block,0,none⟩/\h b.block=some (yp (bh n false)):=by
 obtain⟨_,r⟩:=r;rcases r with⟨e,_⟩|⟨k,a,e,d,_,_,f,c⟩;cases e;injection e with e;subst e;refine⟨rfl,?_⟩;rw[d,yp];have:a=(List.map c5 (bh n false)).toArray:=by
  rw[<-Array.toArray_toList (xs:=a)];congr 1;rw[lN (by simp[f])]at c;rw[c];simp
 rw[this]
theorem kL.anh{r:List Bool}(x:kL al h c m g bs bX O aZ ro)(le:h.le aa)(d:h b=none)(f:aa b=some (yp r)):kL al aa c m g bs bX O (aZ++[(b,r)]) ro:=by
 have e:b∉ed c m aZ ro:=λa=>x.qh b a d;have perm:(ed c m (aZ++[(b,r)]) ro).Perm (b::ed c m aZ ro):=by
  simp only[ed,fF,ec,x',kC];have h1:(aZ.map gQ++([b]++ro.map gQ)).Perm (b::(aZ.map gQ++ro.map gQ)):=List.perm_middle;exact((h1.cons m).cons c).trans (((Qi b m _).cons c).trans (Qi b c _))
 have y:=x.mono le;refine⟨y.le,y.head,y.map,λp hp=>?_,?_,λo a=>?_⟩;rcases ej.1 hp with q|q;rcases ej.1 q with q|q;exact y.hD p (by simp[q]);simp only[hV]at q;subst q;exact f;exact y.hD p (by simp[q]);exact perm.nodup_iff.2 (iV.2 ⟨e,x.dS⟩);rcases ek.1 (perm.mem_iff.1 a)with q|q;subst q;exact J.none_le x.le d;exact x.new o q
theorem kL.anj{r:List Bool}(x:kL al h c m g bs bX O aZ ro)(le:h.le aa)(d:h b=none)(f:aa b=some (yp r)):kL al aa c m g bs bX O aZ (ro++[(b,r)]):=by
 have e:b∉ed c m aZ ro:=λa=>x.qh b a d;have perm:(ed c m aZ (ro++[(b,r)])).Perm (b::ed c m aZ ro):=by
  simp only[ed,fF,ec,x',<-kC];have h1:(aZ.map gQ++ro.map gQ++[b]).Perm (b::(aZ.map gQ++ro.map gQ)):=List.perm_append_comm;exact((h1.cons m).cons c).trans (((Qi b m _).cons c).trans (Qi b c _))
 have y:=x.mono le;refine⟨y.le,y.head,y.map,λp hp=>?_,?_,λo a=>?_⟩;rcases ej.1 hp with q|q;exact y.hD p (by simp[q]);rcases ej.1 q with q|q;exact y.hD p (by simp[q]);simp only[hV]at q;subst q;exact f;exact perm.nodup_iff.2 (iV.2 ⟨e,x.dS⟩);rcases ek.1 (perm.mem_iff.1 a)with q|q;subst q;exact J.none_le x.le d;exact x.new o q
end
def vG:List ByteArray->List iC->Int
 |_,[]=>0
 |bs,a::l=>if pa bs a.dK≠0 then pa bs a.dK else if(b3 a.tag a.a6).1≠0 then(b3 a.tag a.a6).1 else vG (bs++[a.dK]) l
def CA(a:iC):List Bool:=bh (b3 a.tag a.a6).2.1.length false
def CO(a:iC):List Bool:=bh (b3 a.tag a.a6).2.2.length false
def Dx(x:Int×List Int×List Int):Prop:=x.2.1.length<=16/\x.2.2.length<=16
theorem Dx.ite{p:Prop}[Decidable p]{a b:Int×List Int×List Int}(c:p->Dx a)(d:¬p->Dx b):Dx (if p then a else b):=by
 by_cases h:p;rw[aP h];exact c h;rw[aD h];exact d h
theorem A8 tag l:Dx (b3 tag l):=by
 have lit:∀(e:Int)(a b:List Int),a.length<=16->b.length<=16->Dx (e,a,b):=λe a b h1 ae=>⟨h1,ae⟩;unfold b3;dsimp only;exact .ite (λ_=>lit _ _ _ bd bd) λ_=>.ite (λ_=>lit _ _ _ bd bd) λ_=>.ite (λ_=>lit _ _ _ bd bd) λ_=>.ite (λ_=>lit _ _ _ bd bd) λ_=>.ite (λh=>lit _ _ _ (by simp only[wR];omega) bd) λ_=>.ite (λh=>lit _ _ _ bd (by simp only[wR];omega)) λ_=>.ite (λh=>lit _ _ _ (by simp only[wR];omega) bd) λ_=>.ite (λ_=>lit _ _ _ bd bd) λ_=>.ite (λh=>lit _ _ _ bd (by simp only[wR];omega)) λ_=>.ite (λ_=>lit _ _ _ bd bd) λ_=>.ite (λ_=>lit _ _ _ bd bd) λ_=>lit _ _ _ bd bd
structure P0(al h:J)(c m:Nat)(g:c8)(k:Nat)(hq:Option aI)(cb:Nat)(aZ:List (Nat×List Bool))(gY:Option aI)(bO:Nat)(ro:List (Nat×List Bool)):Prop where
 e':k4 al h c m g ((g.a8.take k).map iC.dK) hq cb aZ gY bO ro
 aZ:aZ.map er=(g.a8.take k).map CA
 ro:ro.map er=(g.a8.take k).map CO
theorem anc c m g al h(V:P0 al h c m g 0 none 0 [] none 0 [])(ok:g.ok al)(aA:g.a8.length<=32):Fn aB 144 #[ie c] h λv aa=>∃s1 s2 iu,v=ey #[R (vG [] g.a8),Fl s1 s2 iu]/\al.le aa/\(vG [] g.a8=0->∃hq cb aZ gY bO ro,P0 al aa c m g g.a8.length hq cb aZ gY bO ro):=by
 refine b6 awE rfl (.hp _ (bV V.e'.core.head (o:=1) rfl) (.mq [0] (Nat×Option aI×Nat×List (Nat×List Bool)×Option aI×Nat×List (Nat×List Bool)) [0,3,13,14,15] (λ(k,_)=>[.v (ie c),.p 0 0,.v (ab g.hA g.a8.length g.ac),.v (R g.a8.length),.v (R k)]) (λ_=>[.own [.v (bA .u8 0),.v (R 0),.v (R 0)] 253]) (λ(k,hq,cb,aZ,gY,bO,ro) aa=>P0 al aa c m g k hq cb aZ gY bO ro/\k<=g.a8.length/\vG ((g.a8.take k).map iC.dK) (g.a8.drop k)=vG [] g.a8) (λ(k,_)=>g.a8.length-k) (0,none,0,[],none,0,[]) (λ_=>rfl) ⟨V,cW _,rfl⟩ rfl rfl rfl (λ⟨k,hq,cb,aZ,gY,bO,ro⟩ e h1⟨x,hk,a⟩=>?_)));by_cases f:k<g.a8.length;have jo:=(x.e'.core.del x.e'.Ca).del x.e'.Cb;refine .abs 193 1 hq aZ.length cb _ x.e'.E' (.abs 193 1 gY ro.length bO _ (x.e'.Fa.del λg q G F K=>x.e'.Ib q g F G K.symm) (.ah ?_));generalize eP (eP h1 hq) gY=hH at jo⊢;refine aY (λE=>?_) (λE=>I);have wu:=ok.mono jo.le;obtain⟨iX,X⟩:=ok.a8.cg I;have Z:=wu.act _ (cG f);refine .m iX X (.hp (g.a8[k]).cells rfl (by rw[bz];exact wu.a8.row X (iP f)) (.ah (.mk _ (UT c m _ _ (g.a8[k]).dK hH jo.head rfl jo.map Z.gW) ?_)));rintro _ _ ⟨rfl,ae,b8,rfl⟩;have A:=(jo.mono b8).names (qi:=y7 (pa ((g.a8.take k).map iC.dK) g.a8[k].dK) ((g.a8.take k).map iC.dK) g.a8[k].dK);have aC:g.a8.drop k=g.a8[k]::g.a8.drop (k+1):=mE f;rw[aC,vG]at a;refine aY (λr=>?_) (λr=>?_);rw[aD (by simpa using r)]at a;have uE:y7 (pa ((g.a8.take k).map iC.dK) g.a8[k].dK) ((g.a8.take k).map iC.dK) g.a8[k].dK=(g.a8.take k).map iC.dK++[g.a8[k].dK]:=by rw[r,y7,aP rfl]
 rw[uE]at A⊢;refine .ah (.mk _ (Hq _ _ _ _ (g.a8[k]).a6 _ ((ok.act _ (cG f)).dV.mono A.le) Z.n8) ?_);rintro _ au ⟨_,_,rfl,ds,⟨iS,c1,rfl,U,f1⟩,⟨dL,c2,rfl,T,f2⟩⟩;have M:=A.mono ds;refine .hp _ (bV M.head (o:=6) rfl) ?_;have Q:=A8 g.a8[k].tag g.a8[k].a6;have lj:aZ.length=k:=by have:=ee fi x.aZ;simp at this;omega
 have qb:ro.length=k:=by have:=ee fi x.ro;simp at this;omega
 generalize dr:b3 g.a8[k].tag g.a8[k].a6=S at Q a U T⊢;obtain⟨xi,li,b⟩:=S;simp only[Dx]at Q a U T⊢;refine oP.one li.length (c5 false) rfl rfl rfl rfl I I λl=>.c3 1 _ [ab (some l) li.length li.length] rfl rfl (by simp[zX]) (by simp[eD];omega) I λd j aHc=>.hp c 6 334 (Ac g m (ab hq aZ.length cb) (ab gY ro.length bO)) (Ac g m (ab d (aZ.length+1) j) (ab gY ro.length bO)) (by rw[add_lit]) M.head rfl ?_;have O:=M.aC (LN:=ab d (aZ.length+1) j) (L6:=ab gY ro.length bO);refine .hp _ (bV O.head (o:=7) rfl) (oP.one b.length (c5 false) rfl rfl rfl rfl I I λn=>.c3 2 _ [ab (some n) b.length b.length] rfl rfl (by simp[zX]) (by simp[eD];omega) I λt s aHg=>.hp c 7 334 (Ac g m (ab d (aZ.length+1) j) (ab gY ro.length bO)) (Ac g m (ab d (aZ.length+1) j) (ab t (ro.length+1) s)) (by rw[add_lit]) O.head rfl ?_);have P:=O.aC (LN:=ab d (aZ.length+1) j) (L6:=ab t (ro.length+1) s);refine aY (λi=>?_) (λi=>?_);have B:vG [] g.a8=xi:=by rw[<-a,aP i]
 exact .ah ⟨_,_,_,by rw[B];rfl,P.le,λL=>by rw[L]at B;exact absurd B.symm i⟩;refine .bg (.b4 4 4 1 (some l) li.length li.length _ rfl λaU dh C f4=>.b4 6 4 1 (some n) b.length b.length _ rfl λcE gn D f5=>.b4 1 193 1 d (aZ.length+1) j _ rfl λe6 N y f6=>.b4 2 193 1 t (ro.length+1) s _ rfl λnT Y z f7=>?_);obtain⟨jq,oX⟩:=ahw C;obtain⟨nm,Mj⟩:=ahw D;have C9:=P.anh dh (f4 l rfl) oX;have u:=C9.anj gn (f5 n rfl) Mj;have Wd:aZ.map nE++[ab (some l) li.length li.length]=(aZ++[(l.block,bh li.length false)]).map nE:=by simp[nE,<-jq]
 have We:ro.map nE++[ab (some n) b.length b.length]=(ro++[(n.block,bh b.length false)]).map nE:=by simp[nE,<-nm]
 have y:bJ e6 193 1 d (aZ.length+1) j (aZ.map nE++[ab (some l) li.length li.length]):=y;have z:bJ nT 193 1 t (ro.length+1) s (ro.map nE++[ab (some n) b.length b.length]):=z;have aG0:xi=0:=by simpa using i
 rw[aD i]at a;have W:(g.a8.take (k+1)).map iC.dK=(g.a8.take k).map iC.dK++[g.a8[k].dK]:=by rw[kJ f,fF];rfl
 refine .ah ⟨(k+1,d,j,aZ++[(l.block,bh li.length false)],t,s,ro++[(n.block,bh b.length false)]),rfl,rfl,⟨⟨⟨?_,?_,?_,?_,?_,?_⟩,?_,?_⟩,f,?_⟩,by show g.a8.length- (k+1)<g.a8.length-k;omega⟩;rw[W];simpa using(u.mono N).mono Y;have:=y.mono Y;rw[Wd]at this;simpa using this;rw[We]at z;simpa using z;exactλq w=>⟨λH=>u.qh _ H (f6 q w),J.none_le u.le (f6 q w)⟩;exactλq w=>⟨λH=>(u.mono N).qh _ H (f7 q w),J.none_le (u.mono N).le (f7 q w)⟩;exactλg1 g2 G F K=>y.mem G (by rw[K];exact f7 g2 F);rw[kJ f,fF,fF,x.aZ];simp[CA,dr];rw[kJ f,fF,fF,x.ro];simp[CO,dr];rw[W];exact a;rw[aP (by simpa using r)]at a;refine aY (λi=>?_) (λi=>absurd i (by simpa using r));exact .ah ⟨_,_,_,by rw[<-a];rfl,A.le,λL=>by rw[L]at a;exact absurd a r⟩;refine .ah (aY (λE=>I) (λE=>?_));have iO:k=g.a8.length:=I;rw[rm I,vG]at a;refine .ah ⟨_,_,_,by rw[<-a];rfl,x.e'.core.le,λ_=>⟨hq,cb,aZ,gY,bO,ro,by rw[<-iO];exact x⟩⟩
theorem U3{l:List Nat}(a:l.Nodup){i o:Nat} c(b:o<l.length)(e:l[i]=l[o]):i=o:=by
 rw[List.Nodup,List.pairwise_iff_getElem]at a;rcases Nat.lt_trichotomy i o with h|h|h;exact absurd e (a i o c b h);exact h;exact absurd e.symm (a o i b c h)
def ve(rs:List (List Bool))(a p:Int):Int:=
 if a<0\/(rs.length:Int)<=a then 84 else
 if p<0\/((rs.getD a.toNat []).length:Int)<=p then 85 else
 if(rs.getD a.toNat []).getD p.toNat false=true then 86 else 0
def n9(rs:List (List Bool))(a p:Int):List (List Bool):=rs.set a.toNat ((rs.getD a.toNat []).set p.toNat true)
theorem abz(rs:List (Nat×List Bool)) i:(rs.map er).getD i []=(rs.getD i (0,[])).2:=by
 simp only[cx,dH];cases rs[i]? <;>rfl
theorem wB rs a p:qp rs a p=ve (rs.map er) a p:=by
 rw[qp,ve,abz,List.length_map]
theorem Po rs a p:(n4 rs a.toNat p.toNat).map er=n9 (rs.map er) a p:=by
 rw[n4,n9,lM,abz]
theorem CV rs a p:(n4 rs a p).length=rs.length:=by rw[n4,h2]
theorem Pn rs a p:(n4 rs a p).map gQ=rs.map gQ:=by
 rw[n4,lM];by_cases h:a<rs.length;apply um bd;intro i h1 ae;rw[wQ];split;rename_i e;subst e;simp[cx,bZ h];rfl;rw[X1 (by simpa using h)]
theorem ahW rs a p:(n4 rs a p).map nE=rs.map nE:=by
 rw[n4,lM];by_cases h:a<rs.length;apply um bd;intro i h1 ae;rw[wQ];split;rename_i e;subst e;simp[nE,cx,bZ h];rfl;rw[X1 (by simpa using h)]
section
variable {al h aa:J}{c m cb bO:Nat}{g:c8}{bs qi:List ByteArray}{bX O:ax}{hq gY:Option aI}{aZ ro:List (Nat×List Bool)}
theorem kL.HN{a p:Nat}(x:kL al h c m g bs bX O aZ ro) f:kL al (h.put aZ[a].1 (yp (aZ[a].2.set p true))) c m g bs bX O (n4 aZ a p) ro:=by
 obtain⟨c1,c2⟩:=x.tg;have mem:aZ[a]∈aZ++ro:=bd;have k:ed c m (n4 aZ a p) ro=ed c m aZ ro:=by rw[ed,ed,Pn]
 have aC:aZ.getD a (0,[])=aZ[a]:=by simp[cx,bZ f]
 have l:=x.dS;simp only[ed,iV,oS]at l;obtain⟨_,_,t,w,v⟩:=l;refine⟨AR x.le (x.new _ (by simp only[ed,ek,ej];exact bl (bl (bW (cU.2 ⟨_,cG f,rfl⟩))))),?_,?_,λq d=>?_,by rw[k];exact x.dS,λb o=>x.new b (by rw[<-k];exact o)⟩;rw[J.jS (d' (c2 _ mem).1)];exact x.head;rw[J.jS (d' (c2 _ mem).2)];exact x.map;rcases ej.1 d with d|d;obtain⟨i,j,rfl⟩:=oe d;rw[CV]at j;simp only[n4,wQ,aC];split;exact J.b1 _ _ _;rename_i e;rw[J.jS];exact x.hD _ bd;intro n;have s:i<(aZ.map gQ).length:=by simpa using j
 have u:a<(aZ.map gQ).length:=by simpa using f
 have r:(aZ.map gQ)[i]=(aZ.map gQ)[a]:=by simpa using n
 exact e (U3 t s u r).symm;rw[J.jS];exact x.hD _ (by simp[d]);exactλe=>v _ (cU.2 ⟨_,cG f,rfl⟩) _ (cU.2 ⟨_,d,rfl⟩) e.symm
theorem kL.aDf{a p:Nat}(x:kL al h c m g bs bX O aZ ro) f:kL al (h.put ro[a].1 (yp (ro[a].2.set p true))) c m g bs bX O aZ (n4 ro a p):=by
 obtain⟨c1,c2⟩:=x.tg;have mem:ro[a]∈aZ++ro:=bd;have k:ed c m aZ (n4 ro a p)=ed c m aZ ro:=by rw[ed,ed,Pn]
 have aC:ro.getD a (0,[])=ro[a]:=by simp[cx,bZ f]
 have l:=x.dS;simp only[ed,iV,oS]at l;obtain⟨_,_,w,s,v⟩:=l;refine⟨AR x.le (x.new _ (by simp only[ed,ek,ej];exact bl (bl (bl (cU.2 ⟨_,cG f,rfl⟩))))),?_,?_,λq d=>?_,by rw[k];exact x.dS,λb o=>x.new b (by rw[<-k];exact o)⟩;rw[J.jS (d' (c2 _ mem).1)];exact x.head;rw[J.jS (d' (c2 _ mem).2)];exact x.map;rcases ej.1 d with d|d;rw[J.jS];exact x.hD _ (by simp[d]);exactλe=>v _ (cU.2 ⟨_,d,rfl⟩) _ (cU.2 ⟨_,cG f,rfl⟩) e;obtain⟨i,j,rfl⟩:=oe d;rw[CV]at j;simp only[n4,wQ,aC];split;exact J.b1 _ _ _;rename_i e;rw[J.jS];exact x.hD _ bd;intro n;have t:i<(ro.map gQ).length:=by simpa using j
 have u:a<(ro.map gQ).length:=by simpa using f
 have r:(ro.map gQ)[i]=(ro.map gQ)[a]:=by simpa using n
 exact e (U3 s t u r).symm
theorem bJ.jS{bK size n c b:Nat}{A:Option aI}{xs:List ax}{U:Obj}(x:bJ h bK size A n c xs)(e:∀g,A=some g->g.block≠b):bJ (h.put b U) bK size A n c xs:=by
 obtain⟨h1,ae⟩:=x;refine⟨h1,?_⟩;rcases ae with ae|⟨g,f,a,d,i⟩;exact bW ae;refine bl ⟨g,f,a,?_,i⟩;rw[J.jS];exact d;exact e _ a
theorem aiM(e:qp rs a p=0):∃i:Nat,a=i/\i<rs.length:=by
 rw[qp]at e;split at e;cases e;exact⟨a.toNat,I,I⟩
theorem k4.aiH(x:k4 al h c m g bs hq cb aZ gY bO ro)(e:qp aZ a p=0):k4 al (qo h aZ a p) c m g bs hq cb (n4 aZ a.toNat p.toNat) gY bO ro:=by
 obtain⟨i,rfl,j⟩:=aiM e;have l:aZ.getD i (0,[])=aZ[i]:=by simp[cx,bZ j]
 have k:ed c m (n4 aZ i p.toNat) ro=ed c m aZ ro:=by rw[ed,ed,Pn]
 have mem:aZ[i].1∈ed c m aZ ro:=by simp only[ed,ek,ej];exact bl (bl (bW (cU.2 ⟨_,cG j,rfl⟩)))
 rw[qo,aP e,bz,l];exact⟨by rw[CV];exact x.core.HN j,by rw[CV,ahW];exact x.E'.jS λb d f=>(x.Ca b d).1 (by rw[f];exact mem),x.Fa.jS λb d f=>(x.Cb b d).1 (by rw[f];exact mem),λb d=>by rw[k];exact x.Ca b d,λb d=>by rw[k];exact x.Cb b d,x.Ib⟩
theorem k4.aiJ(x:k4 al h c m g bs hq cb aZ gY bO ro)(e:qp ro a p=0):k4 al (qo h ro a p) c m g bs hq cb aZ gY bO (n4 ro a.toNat p.toNat):=by
 obtain⟨i,rfl,j⟩:=aiM e;have l:ro.getD i (0,[])=ro[i]:=by simp[cx,bZ j]
 have k:ed c m aZ (n4 ro i p.toNat)=ed c m aZ ro:=by rw[ed,ed,Pn]
 have mem:ro[i].1∈ed c m aZ ro:=by simp only[ed,ek,ej];exact bl (bl (bl (cU.2 ⟨_,cG j,rfl⟩)))
 rw[qo,aP e,bz,l];exact⟨by rw[CV];exact x.core.aDf j,x.E'.jS λb d f=>(x.Ca b d).1 (by rw[f];exact mem),by rw[CV,ahW];exact x.Fa.jS λb d f=>(x.Cb b d).1 (by rw[f];exact mem),λb d=>by rw[k];exact x.Ca b d,λb d=>by rw[k];exact x.Cb b d,x.Ib⟩
theorem k4.side(x:k4 al h c m g bs hq cb aZ gY bO ro):IA h hq cb aZ/\IA h gY bO ro:=⟨⟨x.E',λp hp=>x.core.hD p (by simp[hp])⟩,⟨x.Fa,λp hp=>x.core.hD p (by simp[hp])⟩⟩
theorem k4.mono(x:k4 al h c m g bs hq cb aZ gY bO ro)(le:h.le aa):k4 al aa c m g bs hq cb aZ gY bO ro:=⟨x.core.mono le,x.E'.mono le,x.Fa.mono le,x.Ca,x.Cb,x.Ib⟩
theorem k4.names(x:k4 al h c m g bs hq cb aZ gY bO ro):k4 al (h.put m (sL qi)) c m g qi hq cb aZ gY bO ro:=by
 have mem:m∈ed c m aZ ro:=by simp[ed]
 exact⟨x.core.names,x.E'.jS λb d a=>(x.Ca b d).1 (by rw[a];exact mem),x.Fa.jS λb d a=>(x.Cb b d).1 (by rw[a];exact mem),x.Ca,x.Cb,x.Ib⟩
end
def mb:List (List Bool)->List (List Bool)->List GE->Int×List (List Bool)×List (List Bool)
 |aZ,ro,[]=>(0,aZ,ro)
 |aZ,ro,x::l=>if ve ro x.src x.sp≠0 then(ve ro x.src x.sp,aZ,ro)else if ve aZ x.dst x.iM≠0 then(ve aZ x.dst x.iM,aZ,ro)else if 256<x.n then(88,aZ,ro)else mb (n9 aZ x.dst x.iM) (n9 ro x.src x.sp) l
theorem ao1 c m g bs al h hq gY cb bO d f(t:k4 al h c m g bs hq cb d gY bO f)(ok:g.ok al)(E:g.be.length<=96):Fn aB 145 #[ie c] h λv aa=>∃s1 s2 B,v=ey #[R (mb (d.map er) (f.map er) g.be).1,Fl s1 s2 B]/\al.le aa/\((mb (d.map er) (f.map er) g.be).1=0->∃aZ ro,k4 al aa c m g bs hq cb aZ gY bO ro/\mb (d.map er) (f.map er) g.be=(0,aZ.map er,ro.map er)):=by
 generalize C:mb (d.map er) (f.map er) g.be=M;refine b6 awF rfl (.hp _ (bV t.core.head (o:=2) rfl) (.mk (Nat×List (Nat×List Bool)×List (Nat×List Bool)) [0,3,12,13,14] (λ(k,_,_)=>[.v (ie c),.p 0 0,.v (ab g.gF g.be.length g.cD),.v (R g.be.length),.v (R k)]) (λ_=>[.own [.v (bA .u8 0),.v (R 0),.v (R 0)] 253]) (λ(k,aZ,ro) aa=>k4 al aa c m g bs hq cb aZ gY bO ro/\k<=g.be.length/\mb (aZ.map er) (ro.map er) (g.be.drop k)=M) (λ(k,_,_)=>g.be.length-k) (0,d,f) (λ_=>rfl) ⟨t,cW _,C⟩ rfl rfl (λ⟨k,aZ,ro⟩ e h1⟨x,hk,a⟩=>aY (λy=>?_) (λy=>?_))));have r:k<g.be.length:=I;have D:=ok.mono x.core.le;obtain⟨A,u⟩:=ok.be.cg I;have w:g.be.drop k=g.be[k]::g.be.drop (k+1):=mE r;rw[w,mb]at a;refine .m A u (.hp (g.be[k]).cells rfl (by rw[bz];exact D.be.row u (iP r)) (.hp _ (bV x.core.head (o:=7) rfl) (.ah (.mk _ (Pw gY bO ro _ _ h1 x.side.2) ?_))));rintro _ _ ⟨rfl,rfl⟩;refine aY (λj=>?_) (λj=>?_);have i:=j;rw[wB]at i;rw[aP i]at a;rw[qo,aD j];exact .ah ⟨_,_,_,by rw[<-a,wB];rfl,x.core.le,λb=>by rw[<-a]at b;exact absurd b i⟩;have i:qp ro g.be[k].src g.be[k].sp=0:=jL.1 j;have q:=x.aiJ i;rw[aD (by rw[<-wB];exact j)]at a;refine .hp _ (bV q.core.head (o:=6) rfl) (.ah (.mk _ (Pw hq cb aZ _ _ _ q.side.1) ?_));rintro _ _ ⟨rfl,rfl⟩;refine aY (λl=>?_) (λl=>?_);have n:=l;rw[wB]at n;rw[aP n]at a;rw[show qo (qo h1 ro g.be[k].src g.be[k].sp) aZ g.be[k].dst g.be[k].iM=qo h1 ro g.be[k].src g.be[k].sp from by rw[qo,aD l]];exact .ah ⟨_,_,_,by rw[<-a,wB];rfl,q.core.le,λb=>by rw[<-a]at b;exact absurd b n⟩;have n:qp aZ g.be[k].dst g.be[k].iM=0:=jL.1 l;have s:=q.aiH n;rw[aD (by rw[<-wB];exact l)]at a;refine aY (λz=>?_) (λz=>?_);rw[aP I]at a;exact .ah ⟨_,_,_,by rw[<-a];rfl,s.core.le,λb=>by rw[<-a]at b;exact absurd b bd⟩;rw[aD I]at a;exact .bg (⟨(k+1,n4 aZ (g.be[k].dst).toNat (g.be[k].iM).toNat,n4 ro (g.be[k].src).toNat (g.be[k].sp).toNat),rfl,rfl,⟨s,r,by rw[Po,Po];exact a⟩,by show g.be.length- (k+1)<g.be.length-k;omega⟩);rw[rm I,mb]at a;exact .ah ⟨_,_,_,by rw[<-a];rfl,x.core.le,λ_=>⟨aZ,ro,x,a.symm⟩⟩
def lD:List ByteArray->List (List Bool)->List l5->Int×List ByteArray×List (List Bool)
 |bs,rs,[]=>(0,bs,rs)
 |bs,rs,x::l=>if pa bs x.dK≠0 then(pa bs x.dK,bs,rs)else if ve rs x.act x.port≠0 then(ve rs x.act x.port,bs,rs)else lD (bs++[x.dK]) (n9 rs x.act x.port) l
theorem aBu c m g f al h hq gY cb bO d s iU lc l da u(D:k4 al h c m g f hq cb d gY bO s)(t:bf al 3 iU l.length (l.map l5.cells))(z:∀a∈l,a.dK.size<=4611686018427387904)(L:l.length<=16):Fn aB 146 #[ie c,ab iU l.length lc,ab hq d.length cb,bA .u8 da,R u] h λv aa=>∃s1 s2 G,v=ey #[R (lD f (d.map er) l).1,Fl s1 s2 G]/\al.le aa/\((lD f (d.map er) l).1=0->∃bs aZ,k4 al aa c m g bs hq cb aZ gY bO s/\lD f (d.map er) l=(0,bs,aZ.map er)):=by
 generalize H:lD f (d.map er) l=M;refine b6 aec rfl (.mk (Nat×List ByteArray×List (Nat×List Bool)) [0,2,3,4,11,16,17,18] (λ(k,_,_)=>[.v (ie c),.v (ab hq d.length cb),.v (bA .u8 da),.v (R u),.p 0 0,.v (ab iU l.length lc),.v (R l.length),.v (R k)]) (λ_=>[.own [.v (bA .u8 0),.v (R 0),.v (R 0)] 253]) (λ(k,bs,aZ) aa=>k4 al aa c m g bs hq cb aZ gY bO s/\k<=l.length/\aZ.length=d.length/\lD bs (aZ.map er) (l.drop k)=M) (λ(k,_,_)=>l.length-k) (0,f,d) (λ_=>rfl) ⟨D,cW _,rfl,H⟩ rfl rfl (λ⟨k,bs,aZ⟩ e h1⟨x,hk,J,b⟩=>aY (λB=>?_) (λB=>?_)));have r:k<l.length:=I;obtain⟨F,w⟩:=t.cg I;have A:l.drop k=l[k]::l.drop (k+1):=mE r;rw[A,lD]at b;refine .m F w (.hp (l[k]).cells rfl (by rw[bz];exact(t.mono x.core.le).row w (iP r)) (.ah (.mk _ (UT c m _ _ (l[k]).dK h1 x.core.head rfl x.core.map (z _ (cG r))) ?_)));rintro _ _ ⟨rfl,ae,C,rfl⟩;have o:=(x.mono C).names (qi:=y7 (pa bs l[k].dK) bs l[k].dK);refine aY (λi=>?_) (λi=>?_);rw[aP i]at b;exact .ah ⟨_,_,_,by rw[<-b];rfl,o.core.le,λn=>by rw[<-b]at n;exact absurd n i⟩;rw[aD i]at b;have y:pa bs l[k].dK=0:=jL.1 i;have K:y7 (pa bs l[k].dK) bs l[k].dK=bs++[l[k].dK]:=by rw[y,y7,aP rfl]
 rw[K]at o⊢;rw[<-J];refine .ah (.mk _ (Pw hq cb aZ _ _ _ o.side.1) ?_);rintro _ _ ⟨rfl,rfl⟩;refine aY (λj=>?_) (λj=>?_);have q:=j;rw[wB]at q;rw[aP q]at b;rw[qo,aD j];exact .ah ⟨_,_,_,by rw[<-b,wB];rfl,o.core.le,λn=>by rw[<-b]at n;exact absurd n q⟩;have q:qp aZ l[k].act l[k].port=0:=jL.1 j;have E:=o.aiH q;rw[aD (by rw[<-wB];exact j)]at b;exact .bg (⟨(k+1,bs++[l[k].dK],n4 aZ (l[k].act).toNat (l[k].port).toNat),rfl,rfl,⟨E,r,by rw[CV],by rw[Po];exact b⟩,by show l.length- (k+1)<l.length-k;omega⟩);rw[rm I,lD]at b;exact .ah ⟨_,_,_,by rw[<-b];rfl,x.core.le,λ_=>⟨bs,aZ,x,b.symm⟩⟩
theorem aBv c m g f al h hq gY cb bO s d iU lc l da u(D:k4 al h c m g f hq cb s gY bO d)(t:bf al 3 iU l.length (l.map l5.cells))(z:∀a∈l,a.dK.size<=4611686018427387904)(L:l.length<=16):Fn aB 146 #[ie c,ab iU l.length lc,ab gY d.length bO,bA .u8 da,R u] h λv aa=>∃s1 s2 G,v=ey #[R (lD f (d.map er) l).1,Fl s1 s2 G]/\al.le aa/\((lD f (d.map er) l).1=0->∃bs ro,k4 al aa c m g bs hq cb s gY bO ro/\lD f (d.map er) l=(0,bs,ro.map er)):=by
 generalize H:lD f (d.map er) l=M;refine b6 aec rfl (.mk (Nat×List ByteArray×List (Nat×List Bool)) [0,2,3,4,11,16,17,18] (λ(k,_,_)=>[.v (ie c),.v (ab gY d.length bO),.v (bA .u8 da),.v (R u),.p 0 0,.v (ab iU l.length lc),.v (R l.length),.v (R k)]) (λ_=>[.own [.v (bA .u8 0),.v (R 0),.v (R 0)] 253]) (λ(k,bs,ro) aa=>k4 al aa c m g bs hq cb s gY bO ro/\k<=l.length/\ro.length=d.length/\lD bs (ro.map er) (l.drop k)=M) (λ(k,_,_)=>l.length-k) (0,f,d) (λ_=>rfl) ⟨D,cW _,rfl,H⟩ rfl rfl (λ⟨k,bs,ro⟩ e h1⟨x,hk,J,b⟩=>aY (λB=>?_) (λB=>?_)));have r:k<l.length:=I;obtain⟨F,w⟩:=t.cg I;have A:l.drop k=l[k]::l.drop (k+1):=mE r;rw[A,lD]at b;refine .m F w (.hp (l[k]).cells rfl (by rw[bz];exact(t.mono x.core.le).row w (iP r)) (.ah (.mk _ (UT c m _ _ (l[k]).dK h1 x.core.head rfl x.core.map (z _ (cG r))) ?_)));rintro _ _ ⟨rfl,ae,C,rfl⟩;have o:=(x.mono C).names (qi:=y7 (pa bs l[k].dK) bs l[k].dK);refine aY (λi=>?_) (λi=>?_);rw[aP i]at b;exact .ah ⟨_,_,_,by rw[<-b];rfl,o.core.le,λn=>by rw[<-b]at n;exact absurd n i⟩;rw[aD i]at b;have y:pa bs l[k].dK=0:=jL.1 i;have K:y7 (pa bs l[k].dK) bs l[k].dK=bs++[l[k].dK]:=by rw[y,y7,aP rfl]
 rw[K]at o⊢;rw[<-J];refine .ah (.mk _ (Pw gY bO ro _ _ _ o.side.2) ?_);rintro _ _ ⟨rfl,rfl⟩;refine aY (λj=>?_) (λj=>?_);have q:=j;rw[wB]at q;rw[aP q]at b;rw[qo,aD j];exact .ah ⟨_,_,_,by rw[<-b,wB];rfl,o.core.le,λn=>by rw[<-b]at n;exact absurd n q⟩;have q:qp ro l[k].act l[k].port=0:=jL.1 j;have E:=o.aiJ q;rw[aD (by rw[<-wB];exact j)]at b;exact .bg (⟨(k+1,bs++[l[k].dK],n4 ro (l[k].act).toNat (l[k].port).toNat),rfl,rfl,⟨E,r,by rw[CV],by rw[Po];exact b⟩,by show l.length- (k+1)<l.length-k;omega⟩);rw[rm I,lD]at b;exact .ah ⟨_,_,_,by rw[<-b];rfl,x.core.le,λ_=>⟨bs,ro,x,b.symm⟩⟩
def nS(l:List Bool):Bool:=l.all id
def CL(aZ ro:List (List Bool)):Int:=if aZ.all nS=true/\ro.all nS=true then 0 else 87
theorem abp{l:List Bool}{q:Nat} a(b:l[q]=false):nS l=false:=by
 cases h:nS l;rfl;rw[nS,List.all_eq_true]at h;have:=h _ (cG a)
 grind
theorem abq{l:List Bool}{q:Nat} b(h:nS (l.take q)=true)(a:l[q]=true):nS (l.take (q+1))=true:=by
 rw[kJ b,nS,List.all_append,<-nS,h];simp[a]
theorem aiK{k:Nat} hk(h:∀p∈rs.take k,nS p.2=true)(a:nS rs[k].2=true):∀p∈rs.take (k+1),nS p.2=true:=by
 intro p hp;rw[kJ hk,ej,hV]at hp
 grind
theorem aAL c m g bs al h hq gY cb bO aZ ro(x:k4 al h c m g bs hq cb aZ gY bO ro)(H:aZ.length=g.a8.length)(F:ro.length=g.a8.length)(E:g.a8.length<=32)(i:∀p∈aZ,p.2.length<=16)(D:∀p∈ro,p.2.length<=16):Fn aB 147 #[ie c] h λv aa=>∃s1 s2 C,v=ey #[R (CL (aZ.map er) (ro.map er)),Fl s1 s2 C]/\aa=h:=by
 have bad:∀k,(hk:k<g.a8.length)->(nS (aZ[k]'I).2=false\/nS (ro[k]'I).2=false)->CL (aZ.map er) (ro.map er)=87:=by
  intro k hk d;rw[CL,aD]
  grind
 refine b6 awG rfl (.hp _ (bV x.core.head (o:=1) rfl) (.mk Nat [0,3,14,15] (λk=>[.v (ie c),.p 0 0,.v (R g.a8.length),.v (R k)]) (λ_=>[.own [.v (bA .u8 0),.v (R 0),.v (R 0)] 253]) (λk aa=>aa=h/\k<=g.a8.length/\(∀p∈aZ.take k,nS p.2=true)/\(∀p∈ro.take k,nS p.2=true)) (λk=>g.a8.length-k) 0 (λ_=>rfl) ⟨rfl,cW _,bd,bd⟩ rfl rfl ?_));rintro k e h1 ⟨rfl,hk,f1,f2⟩;refine aY (λz=>?_) (λz=>?_);have n:k<g.a8.length:=I;have j:k<aZ.length:=I;have l:k<ro.length:=I;obtain⟨g1,w⟩:=x.E'.eQ.cg I;obtain⟨g2,u⟩:=x.Fa.eQ.cg I;refine .hp _ (bV x.core.head (o:=6) rfl) ?_;refine .m g1 w ?_;refine .hp _ (by rw[bz];exact x.side.1.row w j) ?_;refine .hp _ (bV x.core.head (o:=7) rfl) ?_;refine .m g2 u ?_;refine .hp _ (by rw[bz];exact x.side.2.row u l) ?_;refine .mk Nat [0,3,4,14,15,32,33,34] (λo=>[.v (ie c),.p 0 0,.v (R k),.v (R g.a8.length),.v (R k),.s 1 0 2 2,.v (R 2),.v (R o)]) (λ_=>[.own [.v (bA .u8 0),.v (R 0),.v (R 0)] 253,.own [.v (nE aZ[k]),.v (nE ro[k])] 193]) (λo aa=>aa=h1/\o<=2/\(1<=o->nS aZ[k].2=true)/\(2<=o->nS ro[k].2=true)) (λo=>2-o) 0 (λ_=>rfl) ⟨rfl,aM,bd,bd⟩ rfl rfl ?_;rintro o e ae ⟨rfl,G,f3,f4⟩;obtain rfl|rfl|rfl:o=0\/o=1\/o=2:=by omega
 refine .mk aM aM (.mk Nat [0,3,4,14,15,32,33,34,38,39,40] (λq=>[.v (ie c),.p 0 0,.v (R k),.v (R g.a8.length),.v (R k),.s 1 0 2 2,.v (R 2),.v (R (0:Nat)),.v (nE aZ[k]),.v (R aZ[k].2.length),.v (R q)]) (λ_=>[.own [.v (bA .u8 0),.v (R 0),.v (R 0)] 253,.own [.v (nE aZ[k]),.v (nE ro[k])] 193]) (λq aa=>aa=ae/\q<=aZ[k].2.length/\nS (aZ[k].2.take q)=true) (λq=>aZ[k].2.length-q) 0 (λ_=>rfl) ⟨rfl,cW _,rfl⟩ rfl rfl ?_);rintro q e A ⟨rfl,B,f5⟩;have d:=x.side.1.hD aZ[k] (cG I);have hw:=i _ (cG j);refine aY (λt=>?_) (λt=>?_);have a:q<aZ[k].2.length:=I;refine .r ?_;refine .hp (c5 aZ[k].2[q]) (by rw[add_lit,dM,bz,eV];exact bV d bd) ?_;cases b:aZ[k].2[q];exact .ah ⟨_,_,_,by rw[bad k n (bW (abp a b))];rfl,rfl⟩;exact .bg (⟨q+1,rfl,rfl,⟨rfl,a,abq a f5 b⟩,I⟩);refine .bg ?_;have f:q=aZ[k].2.length:=I;rw[f,r5]at f5;exact⟨1,rfl,rfl,⟨rfl,I,λ_=>f5,λ_=>I⟩,I⟩;refine .mk aM aM (.mk Nat [0,3,4,14,15,32,33,34,38,39,40] (λq=>[.v (ie c),.p 0 0,.v (R k),.v (R g.a8.length),.v (R k),.s 1 0 2 2,.v (R 2),.v (R (1:Nat)),.v (nE ro[k]),.v (R ro[k].2.length),.v (R q)]) (λ_=>[.own [.v (bA .u8 0),.v (R 0),.v (R 0)] 253,.own [.v (nE aZ[k]),.v (nE ro[k])] 193]) (λq aa=>aa=ae/\q<=ro[k].2.length/\nS (ro[k].2.take q)=true) (λq=>ro[k].2.length-q) 0 (λ_=>rfl) ⟨rfl,cW _,rfl⟩ rfl rfl ?_);rintro q e A ⟨rfl,B,f5⟩;have d:=x.side.2.hD ro[k] (cG I);have hw:=D _ (cG l);refine aY (λt=>?_) (λt=>?_);have a:q<ro[k].2.length:=I;refine .r ?_;refine .hp (c5 ro[k].2[q]) (by rw[add_lit,dM,bz,eV];exact bV d bd) ?_;cases b:ro[k].2[q];exact .ah ⟨_,_,_,by rw[bad k n (bl (abp a b))];rfl,rfl⟩;exact .bg (⟨q+1,rfl,rfl,⟨rfl,a,abq a f5 b⟩,I⟩);refine .bg ?_;have f:q=ro[k].2.length:=I;rw[f,r5]at f5;exact⟨2,rfl,rfl,⟨rfl,I,λ_=>f3 I,λ_=>f5⟩,I⟩;exact .bg (⟨k+1,rfl,rfl,⟨rfl,n,aiK j f1 (f3 I),aiK l f2 (f4 I)⟩,I⟩);have y:k=g.a8.length:=I;rw[lN I]at f1 f2;have:CL (aZ.map er) (ro.map er)=0:=by
  grind [CL]
 exact .ah ⟨_,_,_,by rw[this];rfl,rfl⟩
def iG(g:c8):Int:=
 if ts g≠0 then ts g else
 if vG [] g.a8≠0 then vG [] g.a8 else
 let a:=mb (g.a8.map CA) (g.a8.map CO) g.be
 if a.1≠0 then a.1 else
 let b:=lD (g.a8.map iC.dK) a.2.1 g.ins
 if b.1≠0 then b.1 else
 let c:=lD b.2.1 a.2.2 g.outs
 if c.1≠0 then c.1 else CL b.2.2 c.2.2
theorem k4.init(hm:h m=none)(ay:(h.put m (.map #[] 0)) c=none):k4 h ((h.put m (.map #[] 0)).put c (bb (Ac g m (ab none 0 0) (ab none 0 0)).toArray 334 (0,0))) c m g [] none 0 [] none 0 []:=by
 have ne:c≠m:=λe=>by rw[e,J.b1]at ay;cases ay
 have a:h c=none:=by rwa[J.jS ne]at ay
 refine⟨⟨AR (J.dI hm) a,J.b1 _ _ _,by rw[J.jS (d' ne),J.b1];rfl,bd,by simp[ed,ne],?_⟩,⟨rfl,bW ⟨rfl,rfl,rfl⟩⟩,⟨rfl,bW ⟨rfl,rfl,rfl⟩⟩,(λ_ e=>by cases e),(λ_ e=>by cases e),(λ_ _ e=>by cases e)⟩
 grind [ed]
theorem ah1 rs a p(w:∀r∈rs,r.length<=16):(n9 rs a p).length=rs.length/\∀r∈n9 rs a p,r.length<=16:=by
 refine⟨by simp[n9],λr b=>?_⟩;rcases List.mem_or_eq_of_mem_set b with b|rfl
 grind
 grind
def w5(n:Nat)(rs:List (List Bool)):Prop:=rs.length=n/\∀r∈rs,r.length<=16
theorem w5.set{rs:List (List Bool)}(x:w5 n rs) a p:w5 n (n9 rs a p):=⟨(ah1 rs a p x.2).1.trans x.1,(ah1 rs a p x.2).2⟩
theorem aah{n:Nat}:∀l aZ ro,w5 n aZ->w5 n ro->w5 n (mb aZ ro l).2.1/\w5 n (mb aZ ro l).2.2
 |[],_,_,h1,ae=>⟨h1,ae⟩
 |x::l,aZ,ro,h1,ae=>by
  rw[mb];split
  grind
  split
  grind
  split
  grind
  exact aah l _ _ (h1.set _ _) (ae.set _ _)
theorem VD{n:Nat}:∀l bs rs,w5 n rs->w5 n (lD bs rs l).2.2
 |[],_,_,h1=>h1
 |x::l,bs,rs,h1=>by
  rw[lD];split;omega;split;omega;exact VD l _ _ (h1.set _ _)
theorem apT g h(ok:g.ok h):Fn aB 102 #[.agg g.cells.toArray] h λv aa=>h.le aa/\∃s1 s2 e,v=ey #[R (iG g),Fl s1 s2 e]:=by
 refine b6 av7 rfl (.mk λm hm=>.mk λc ay=>?_);have y:=k4.init (g:=g) hm ay;refine .ah (.mk _ (asn c m g _ _ _ y.core.head (ok.mono y.core.le)) ?_);rintro _ h1 ⟨T,s1,s2,e,rfl⟩;have K:=y.mono T;refine aY (λb=>?_) (λb=>?_);exact .ah ⟨K.core.le,_,_,_,by rw[iG,aP b];rfl⟩;have HF:ts g=0:=jL.1 b;obtain⟨J,U,Z,lr⟩:g.a8.length<=32/\g.be.length<=96/\g.ins.length<=16/\g.outs.length<=16:=by
  grind [ts]
 refine .ah (.mk _ (anc c m g h h1 ⟨K,rfl,rfl⟩ ok J) ?_);rintro _ ae ⟨s1,s2,e,rfl,P,aT⟩;refine aY (λd=>?_) (λd=>?_);exact .ah ⟨P,_,_,_,by rw[iG,aD b,aP d];rfl⟩;obtain⟨hq,cb,aZ,gY,bO,ro,i⟩:=aT (jL.1 d);obtain⟨i,z,A⟩:=i;rw[r5]at i z A;have nH:w5 g.a8.length (g.a8.map CA):=⟨bd,λr t=>by obtain⟨a,_,rfl⟩:=cU.1 t;simpa[CA]using(A8 a.tag a.a6).1⟩;have s:w5 g.a8.length (g.a8.map CO):=⟨bd,λr t=>by obtain⟨a,_,rfl⟩:=cU.1 t;simpa[CO]using(A8 a.tag a.a6).2⟩;refine .ah (.mk _ (ao1 c m g _ h ae hq gY cb bO aZ ro i ok U) ?_);rw[z,A];rintro _ I ⟨s1,s2,e,rfl,W,Q⟩;refine aY (λu=>?_) (λu=>?_);exact .ah ⟨W,_,_,_,by rw[iG,aD b,aD d];dsimp only;rw[aP u];rfl⟩;obtain⟨D,j,L,k⟩:=Q (jL.1 u);have f:=aah g.be _ _ nH s;rw[k]at f;have dg:j.length=ro.length/\D.length=aZ.length:=by
  have h1:=f.1.1;have ae:=f.2.1;have I:=ee fi z;have H:=ee fi A
  grind
 refine .hp _ (bV L.core.head (o:=6) rfl) (⟨?_,?_⟩);all_goals conv=>whnf
 all_goals refine .ah (.mk _ (aBu c m g _ h I hq gY cb bO D j g.dR g.cb g.ins _ _ L ok.ins ok.adE Z) ?_)
 all_goals rintro _ H ⟨s1,s2,e,rfl,V,X⟩
 all_goals conv=>whnf
 all_goals refine aY (λw=>?_) (λw=>?_)
 iterate 2
  exact .ah ⟨V,_,_,_,by rw[iG,aD b,aD d];dsimp only;rw[k,aD bd,aP w];rfl⟩
  rotate_left
 all_goals obtain⟨q,F,M,l⟩:=X (jL.1 w)
 all_goals have C:=VD (n:=g.a8.length) g.ins (g.a8.map iC.dK) (D.map er) f.1
 all_goals rw[l]at C
 all_goals conv=>whnf
 all_goals refine .hp _ (bV M.core.head (o:=7) rfl) ?_
 all_goals conv=>whnf
 all_goals refine⟨?_,?_⟩
 all_goals conv=>whnf
 all_goals refine .ah (.mk _ (aBv c m g _ h H hq gY cb bO F j g.cj g.bO g.outs _ _ M ok.outs ok.agI lr) ?_)
 all_goals rintro _ S ⟨s1,s2,e,rfl,Y,hO⟩
 all_goals conv=>whnf
 all_goals refine aY (λx=>?_) (λx=>?_)
 iterate 4
  exact .ah ⟨Y,_,_,_,by rw[iG,aD b,aD d];dsimp only;rw[k,aD bd];dsimp only;rw[l,aD bd];dsimp only;rw[aP x];rfl⟩
  rotate_left
 all_goals obtain⟨O,N,E,G⟩:=hO (jL.1 x)
 all_goals have B:=VD (n:=g.a8.length) g.outs q (j.map er) f.2
 all_goals rw[G]at B
 all_goals conv=>whnf
 all_goals refine .ah (.mk _ (aAL c m g _ h S hq gY cb bO F N E (by simpa using C.1) (by simpa using B.1) J (λp hp=>C.2 _ (cU.2 ⟨p,hp,rfl⟩)) (λp hp=>B.2 _ (cU.2 ⟨p,hp,rfl⟩))) ?_)
 all_goals rintro _ _ ⟨s1,s2,e,rfl,rfl⟩
 all_goals conv=>whnf
 all_goals exact .ah ⟨E.core.le,_,_,_,by rw[iG,aD b,aD d];dsimp only;rw[k,aD bd];dsimp only;rw[l,aD bd];dsimp only;rw[G,aD bd];rfl⟩
theorem Zv g h(ok:g.ok h):Fn aB 44 #[.agg g.cells.toArray] h λv aa=>h.le aa/\v=R (iG g):=by
 refine b6 axD rfl (.ah (.mk _ (apT g h ok) ?_));rintro _ h1 ⟨a,s1,s2,b,rfl⟩;exact .ah ⟨a,rfl⟩
theorem WG{rs:List (List Bool)}(e:ve rs a p=0):0<=a/\a<rs.length/\0<=p/\p<((rs.map fi).getD a.toNat 0):=by
 rw[ve]at e
 grind
theorem HO rs a p:(n9 rs a p).map fi=rs.map fi:=by
 rw[n9,lM,h2];by_cases h:a.toNat<rs.length;apply um bd
 grind
 rw[X1 aJ]
def J6(ls:List Nat)(a p:Int):Prop:=0<=a/\a<ls.length/\0<=p/\p<(ls.getD a.toNat 0:Nat)
theorem aai:∀l aZ ro,(mb aZ ro l).1=0->∀x∈l,J6 (ro.map fi) x.src x.sp/\J6 (aZ.map fi) x.dst x.iM/\x.n<=256
 |[],_,_,_=>by simp
 |x::l,aZ,ro,e=>by
  rw[mb]at e;split at e;omega;split at e;omega;split at e;omega;rename_i h1 ae b;have t1:=WG (jL.1 h1);have t2:=WG (jL.1 ae);intro y a;rcases ek.1 a with rfl|a;exact⟨⟨t1.1,aJ,t1.2.2⟩,⟨t2.1,aJ,t2.2.2⟩,I⟩;have:=aai l _ _ e y a;rwa[HO,HO]at this
theorem YC:∀l bs,vG bs l=0->∀a∈l,(b3 a.tag a.a6).1=0
 |[],_,_=>by simp
 |a::l,bs,e=>by
  rw[vG]at e;split at e;omega;split at e;omega;rename_i h1 ae;intro y b;rcases ek.1 b with rfl|b;omega;exact YC l _ e y b
def ki(g:c8)(v:Int):List Int:=match g.a8[v.toNat]?with
 |some a=>(b3 a.tag a.a6).2.1
 |none=>[]
def lW(g:c8)(v:Int):List Int:=match g.a8[v.toNat]?with
 |some a=>(b3 a.tag a.a6).2.2
 |none=>[]
theorem VE:∀l bs rs,(lD bs rs l).1=0->∀x∈l,J6 (rs.map fi) x.act x.port
 |[],_,_,_=>by simp
 |x::l,bs,rs,e=>by
  rw[lD]at e;split at e;omega;split at e;omega;rename_i h1 ae;have t1:=WG (jL.1 ae);intro y a;rcases ek.1 a with rfl|a;exact⟨t1.1,aJ,t1.2.2⟩;have:=VE l _ _ e y a;rwa[HO]at this
theorem aag:∀l aZ ro,(mb aZ ro l).2.1.map fi=aZ.map fi/\(mb aZ ro l).2.2.map fi=ro.map fi
 |[],_,_=>⟨rfl,rfl⟩
 |x::l,aZ,ro=>by
  rw[mb];split;simp;split;simp;split;simp;have:=aag l (n9 aZ x.dst x.iM) (n9 ro x.src x.sp);rwa[HO,HO]at this
structure XD(g:c8):Prop where
 cH:1<=g.a8.length
 a32:g.a8.length<=32
 xe:g.be.length<=96
 i16:g.ins.length<=16
 E1:g.outs.length<=16
 t8:∀a∈g.a8,(b3 a.tag a.a6).1=0
 qI:∀x∈g.be,(0<=x.src/\x.src<g.a8.length/\0<=x.sp/\x.sp<(lW g x.src).length)/\(0<=x.dst/\x.dst<g.a8.length/\0<=x.iM/\x.iM<(ki g x.dst).length)/\x.n<=256
 NN:∀x∈g.ins,0<=x.act/\x.act<g.a8.length/\0<=x.port/\x.port<(ki g x.act).length
 OS:∀x∈g.outs,0<=x.act/\x.act<g.a8.length/\0<=x.port/\x.port<(lW g x.act).length
theorem ady(h:J6 ((g.a8.map CA).map fi) a p):0<=a/\a<g.a8.length/\0<=p/\p<(ki g a).length:=by
 obtain⟨h1,ae,c,b⟩:=h
 grind [ki,CA]
theorem adB(h:J6 ((g.a8.map CO).map fi) a p):0<=a/\a<g.a8.length/\0<=p/\p<(lW g a).length:=by
 obtain⟨h1,ae,c,b⟩:=h
 grind [lW,CO]
theorem yB(e:iG g=0):XD g:=by
 rw[iG]at e;split at e;omega;split at e;omega;dsimp only at e;split at e;omega;split at e;omega;split at e;omega;rename_i h1 ae f d i;have n:ts g=0:=jL.1 h1;obtain⟨k,h,j,l,m⟩:1<=g.a8.length/\g.a8.length<=32/\g.be.length<=96/\g.ins.length<=16/\g.outs.length<=16:=by
  grind [ts]
 have b:=aai g.be _ _ (jL.1 f);have el:=aag g.be (g.a8.map CA) (g.a8.map CO);have pi:=VE g.ins _ _ (jL.1 d);have c:=VE g.outs _ _ (jL.1 i);rw[el.1]at pi;rw[el.2]at c;exact⟨k,h,j,l,m,YC g.a8 _ (jL.1 ae),λx a=>⟨adB (b x a).1,ady (b x a).2.1,(b x a).2.2⟩,λx a=>ady (pi x a),λx a=>adB (c x a)⟩
def nq(g:c8)(x:GE):bT:=⟨x.src,x.dst,(lW g x.src).getD x.sp.toNat 0,(ki g x.dst).getD x.iM.toNat 0,x.n⟩
def dv(g:c8):List bT:=g.be.map (nq g)
def alF(h aa:J)(v:ax)(N:Int)(l:List bT):Prop:=∃A c,v=mW N A l.length c/\bJ aa 157 5 A l.length c (l.map bT.cells).flatten/\∀g,A=some g->h g.block=none
theorem aAs g h(ok:g.ok h):Fn aB 21 #[.agg g.cells.toArray] h λv aa=>h.le aa/\∃n,v=ey #[n,R (iG g)]/\(∃(N:Int)(A:Option aI)(m c:Nat),n=mW N A m c)/\(iG g=0->alF h aa n g.a8.length (dv g)):=by
 refine b6 aw9 rfl (.ah (.mk _ (Zv g h ok) ?_));rintro _ h1 ⟨E,rfl⟩;refine aY (λb=>?_) (λb=>?_);exact .ah ⟨E,_,rfl,⟨0,none,0,0,rfl⟩,λe=>absurd e b⟩;have i:=yB (jL.1 b);refine .mq [0,1,2] (Nat×Option aI×Nat) [1,2,5,27,28,29] (λ(k,_,_)=>[.p 0 0,.p 1 0,.p 2 0,.v (ab g.gF g.be.length g.cD),.v (R g.be.length),.v (R k)]) (λ(k,A,c)=>[.own (g.cells.map .v) 26,.own [.v (R 0),.v (ab none 0 0)] 33,.own [.v (R g.a8.length),.v (ab A k c)] 33]) (λ(k,A,c) aa=>h.le aa/\k<=g.be.length/\bJ aa 157 5 A k c (((dv g).take k).map bT.cells).flatten/\∀d,A=some d->h d.block=none) (λ(k,_,_)=>g.be.length-k) (0,none,0) (λ_=>rfl) ⟨E,cW _,⟨rfl,bW ⟨rfl,rfl,rfl⟩⟩,λ_ e=>by cases e⟩ rfl rfl rfl (λ⟨k,A,c⟩ e ae⟨D,hk,C,B⟩=>?_);by_cases s:k<g.be.length
 .refine .abs 157 5 A k c _ C (.ah ?_);have f:=ZQ D B;generalize eP ae A=hH at f⊢;have a:=ok.mono f;have X:=i.qI _ (cG s);have l:(g.be[k]).src.toNat<g.a8.length:=I;have x:(g.be[k]).dst.toNat<g.a8.length:=I;refine aY (λo=>?_) (λo=>I);obtain⟨ge,z⟩:=ok.be.cg I;obtain⟨G,j⟩:=ok.a8.cg I;refine .m ge z (.hp (g.be[k]).cells rfl (by rw[bz];exact a.be.row z (iP s)) (.m G j (.hp (g.a8[(g.be[k]).src.toNat]).cells rfl (a.a8.row j (iP l)) (.m G j (.hp (g.a8[(g.be[k]).dst.toNat]).cells rfl (a.a8.row j (iP x)) (⟨?_,?_⟩))))));all_goals conv=>whnf
  all_goals refine .ah (.mk _ (Hq _ _ _ _ (g.a8[(g.be[k]).src.toNat]).a6 _ (a.act _ (cG l)).dV (a.act _ (cG l)).n8) ?_)
  all_goals rintro _ au ⟨_,_,rfl,u,⟨iS,c1,rfl,eM,f1⟩,⟨dL,c2,rfl,S,f2⟩⟩
  all_goals conv=>whnf
  all_goals refine .ah (.mk _ (Hq _ _ _ _ (g.a8[(g.be[k]).dst.toNat]).a6 _ ((a.act _ (cG x)).dV.mono u) (a.act _ (cG x)).n8) ?_)
  all_goals rintro _ Z ⟨_,_,rfl,w,⟨lJ,eW,rfl,Q,f3⟩,⟨M,xa,rfl,ga,f4⟩⟩
  all_goals conv=>whnf
  all_goals have L:lW g (g.be[k]).src=(b3 g.a8[(g.be[k]).src.toNat].tag g.a8[(g.be[k]).src.toNat].a6).2.2:=by grind [lW]
  all_goals have H:ki g (g.be[k]).dst=(b3 g.a8[(g.be[k]).dst.toNat].tag g.a8[(g.be[k]).dst.toNat].a6).2.1:=by grind [ki]
  all_goals rw[L,H]at X
  all_goals have T:(g.be[k]).sp.toNat<(b3 g.a8[(g.be[k]).src.toNat].tag g.a8[(g.be[k]).src.toNat].a6).2.2.length:=by omega
  all_goals have U:(g.be[k]).iM.toNat<(b3 g.a8[(g.be[k]).dst.toNat].tag g.a8[(g.be[k]).dst.toNat].a6).2.1.length:=by omega
  all_goals have t2:=(S.mono w).kd
  all_goals have t3:=Q.kd
  all_goals obtain⟨g2,F⟩:=t2.cg I
  all_goals obtain⟨g3,y⟩:=t3.cg I
  all_goals refine .m g2 F ?_
  all_goals conv=>whnf
  all_goals refine .hp _ (t2.one F (iP T) rfl) ?_
  all_goals conv=>whnf
  all_goals refine .m g3 y ?_
  all_goals conv=>whnf
  all_goals refine .hp _ (t3.one y (iP U) rfl) ?_
  all_goals conv=>whnf
  all_goals refine .c3 3 _ (nq g g.be[k]).cells rfl (by simp_all[nq,bT.cells,L,H,R]) (by simp[bT.cells,zX,R]) (by have:=i.xe;grind [eD]) (by have:=i.xe;omega) λr t Y=>?_
  all_goals conv=>whnf
  all_goals refine .ok I (by have:=i.xe;omega) ?_
  all_goals conv=>whnf
  all_goals refine .b4 3 157 5 r (k+1) t _ rfl λO V K f5=>?_
  all_goals have K:bJ O 157 5 r (k+1) t ((((dv g).take k).map bT.cells).flatten++(nq g g.be[k]).cells):=K
  all_goals have q:k<(dv g).length:=by grind [dv]
  all_goals have j6:(((dv g).take (k+1)).map bT.cells).flatten=(((dv g).take k).map bT.cells).flatten++(nq g g.be[k]).cells:=by rw[kJ q,fF,vr];simp[dv]
  all_goals exact .ah ⟨(k+1,r,t),rfl,rfl,⟨J.le_trans f (J.le_trans u (J.le_trans w V)),s,aJ,λd P=>J.none_le (J.le_trans f (J.le_trans u w)) (f5 d P)⟩,aJ⟩
 refine .ah (aY (λo=>I) (λo=>?_));have W:k=g.be.length:=I;have ak:(dv g).length=k:=by simp[W,dv]
 rw[lN I]at C;refine .ah ⟨D,mW g.a8.length A k c,by rw[jL.1 b];rfl,⟨_,_,_,_,rfl⟩,λ_=>⟨A,c,by rw[ak],aJ,B⟩⟩
end Go.Sx
namespace Go.Sx
open Go.RowKit
set_option maxRecDepth 100000
set_option maxHeartbeats 0
set_option linter.all false
variable {cm:List Nat}
structure Alike(w bk:bw):Prop where
 heap:bk.heap=w.heap
 os:bk.os=w.os
 tape:bk.tape=w.tape
 output:bk.output=w.output
def Idle(P:eN)(g:l4)(cap:Array ax):Prop:=(∃fn,P.funcs[g]?=some fn/\fn.body.isSome=true/\(fn.name== "runtime.NumGoroutine")=false)/\∀w,CallsD P g cap .returning w λe u bk=>(∃v,e= .returned v)/\u= .returning/\Alike w bk
def FM(P:eN)(d:vl):Prop:=∃g cap,d={target:=.fn (.func g) cap,args:=#[]}/\Idle P g cap
abbrev F1:=Exit->List vl->cy->List LE->J->Prop
def Mz:Op->Option eb
 |.defer c=>(match c.callee,c.args.toList with
  |.value x,[]=>some (bS x)
  |_,_=>none)
 |_=>none
def Fz(P:eN)(n:Nat):List cK->List vl->cy->List LE->J->(List vl->cy->List LE->J->Prop)->Prop
 |[],a,e,L,h,K=>K a e L h
 |U::r,a,e,L,h,K=>(match U.g,U.k with
  |none,.raw op=>(match Mz op with
   |some x=>(match x.get e with
    |.v (.func (.func g) first cap)=>bif first.isEmpty then Idle P g cap/\g8 n U.d (.v fp) e L h λe L h=>Fz P n r ({target:=.fn (.func g) cap,args:=#[]}::a) e L h K else False
    |_=>False)
   |none=>hS P n U e L h λe L h=>Fz P n r a e L h K)
  |_,_=>hS P n U e L h λe L h=>Fz P n r a e L h K)
def Lq(P:eN)(n:Nat):IR->F1->List vl->cy->List LE->J->Prop
 |.seq a b,Q,c,e,L,h=>Lq P n a (λx c e L h=>match x with|.normal=>Lq P n b Q c e L h|x=>Q x c e L h) c e L h
 |.cd ops,Q,c,e,L,h=>Fz P n ops c e L h (Q .normal)
 |oC,Q,c,e,L,h=>di P n oC (λx e L h=>Q x c e L h) e L h
section
variable {P:eN}{al:J}{a':bw}{n:Nat}{β:Nat->Nat}{L:List LE}{h:J}{e:cy}{a:Act}{w:bw}
def Oa(P:eN)(al:J)(a':bw)(n:Nat)(Q:F1):Exit->Act->bw->Prop:=λx a w=>∃(a0:Act)(b:List vl),a={a0 with defers:=b}/\(∀d∈b,FM P d)/\∃β e L h,cX al a' β L h w/\dn n β L e a0/\dN L/\Q x b e L h
theorem aF6{U:Oper}{next:Act->bw->Prop}{Q c:Exit->Act->bw->Prop}(h:U.wp P a w next Q)(b:∀x a w,Q x a w->c x a w):U.wp P a w next c:=by
 unfold BF at h⊢;generalize(dk a.eval U).run P w=r at h⊢;cases r with
 |ok x bk=>
  cases x with
  |enter f args=>
   rw[Oper.upon_enter]at h⊢;refine Calls.mono h (λd g hw=>?_);cases d with
   |returned v=>exact hw
   |panicked e=>grind
   |outgrown=>obtain⟨a,w,q⟩:=hw;exact⟨a,w,b _ _ _ q⟩
  |_=>exact h
 |halt x bk=>
  cases x with
  |panic v=>exact b _ _ _ h
  |_=>exact h
theorem ay3{U op:Op}(h:bQ P U= .raw op)(a:Mz op≠none):U=op:=by
 cases U<;>simp only[bQ]at h<;>(try cases h;rfl)<;>exfalso<;>revert h<;>(repeat' split)<;>intro h<;>cases h<;>simp[Mz]at a
theorem ajA{ops:Array Oper}{Q:F1}:∀l f β e L h a w,(∀d∈f,FM P d)->cX al a' β L h w->dn n β L e a->dN L->Fz P n (l.map (fX P ops)) f e L h (Q .normal)->wpList P ops (Oa P al a' n Q) l {a with defers:=f} w
 |[],f,β,e,L,h,a,w,y,m,r,i,hp=>⟨a,f,rfl,y,β,e,L,h,m,r,i,hp⟩
 |U::l,f,β,e,L,h,a,w,y,m,r,i,hp=>by
  have A:=ajA (ops:=ops) (Q:=Q) l;refine wpList_step λnext B=>?_
  have plain:hS P n (fX P ops U) e L h (λe L h=>Fz P n (l.map (fX P ops)) f e L h (Q .normal))->if hF U (lI ops ({a with defers:=f}:Act).tmps)then U.wp P {a with defers:=f} w next (Oa P al a' n Q)else next (({a with defers:=f}:Act).put U.dst fp) w:=by
   intro hp;have s:=Lr (Q:=λ_ _ _=>False) (next:=λa w=>a.defers=[]/\next {a with defers:=f} w) (λβ e L h a w _ m r i hk=>⟨r.defers,B _ _ (A f β e L h a w y m r i hk)⟩) m r i hp;rw[show(lI ops ({a with defers:=f}:Act).tmps)=lI ops a.tmps from rfl];split;rename_i hw;rw[aP hw]at s;exact aF6 (Vf f s λ_ _ q=>q) (by rintro x a w ⟨_,_,q⟩;grind);rename_i hw;rw[aD hw]at s;rw[A1];grind
  rw[ec]at hp;unfold Fz at hp;split at hp;rename_i op p hk;split at hp;rename_i x j;split at hp;rename_i g first cap G
  cases N:first.isEmpty with
  |false=>grind
  |true=>
   rw[N]at hp;obtain⟨F,hp⟩:=hp;have D:first=#[]:=aJ
   subst D;unfold fX at hk p;cases u:xI ops U.guard with
   |none=>grind
   |some O=>
    rw[u]at hk p;simp only at hk p;subst p;have z:U.guard=none:=by
     cases z:U.guard with
     |none=>rfl
     |some M=>
      obtain⟨o,b⟩:=M;rw[z]at u
      grind [xI]
    have E:U.op=op:=ay3 hk aJ;have hw:hF U (lI ops ({a with defers:=f}:Act).tmps)=true:=by simp[hF,z]
    rw[aP hw];cases op with
    |defer c=>
     simp only[Mz]at j;split at j;rename_i H I R;injection j with j;subst j;have K:a.eval H= .func (.func g) #[] cap:=by rw[r.eval,G];rfl
     have J:c.args=#[]:=aJ;unfold BF;rw[MM];have:(dk a.eval U).run P w= .ok (.defer {target:=.fn (.func g) cap,args:=#[]}) w:=by
      simp[dk,E,resolve,I,J,H5,K]
     rw[this,Oper.upon_defer];have k:∀d∈{target:=.fn (.func g) cap,args:=#[]}::f,FM P d:=λd k=>by
      rcases ek.1 k with rfl|k;exact⟨g,cap,rfl,F⟩
      grind
     have:=j2 (next:=λa w=>next {a with defers:={target:=.fn (.func g) cap,args:=#[]}::f} w) (C:=Any) (λβ e L h a w _ m r i hk=>B _ _ (A _ β e L h a w k m r i hk)) trivial m r i (x:=.v fp) trivial hp;show next (({a with defers:={target:=.fn (.func g) cap,args:=#[]}::f}:Act).put U.dst fp) w
     rw[A1];have t:(fX P ops U).d=U.dst:=by unfold fX;rw[u]
     rw[t]at this;exact this
     grind
    |_=>cases j
  grind
  grind
  grind
theorem ajw(F:P.follows .mixedOrders=true):∀c Q b β e L h a w,(∀d∈b,FM P d)->cX al a' β L h w->dn n β L e a->dN L->Lq P n (lower P cm c) Q b e L h->c.wp P (Oa P al a' n Q) {a with defers:=b} w:=by
 intro c;have j:∀(c:Code)(Q:F1) b β e L h a w,(∀d∈b,FM P d)->cX al a' β L h w->dn n β L e a->dN L->di P n (lower P cm c) (λx e L h=>Q x b e L h) e L h->c.wp P (Oa P al a' n Q) {a with defers:=b} w:=by
  intro c Q b β e L h a w i m r g hp;refine xW (ajx b F c _ β e L h a w m r g hp) ?_;rintro ex _ bk ⟨u,rfl,s,l,p,aa,o,t,v,q⟩;exact⟨u,b,rfl,i,s,l,p,aa,o,t,v,q⟩
 induction c with
 |seq x y C D=>
  intro Q b β e L h a w i m r g hp;refine wp_seq (xW (C _ b β e L h a w i m r g hp) ?_);rintro ex _ bk ⟨u,A,rfl,k,s,l,p,aa,o,t,v,B⟩;cases ex with
  |normal=>exact D Q A s l p aa u bk k o t v B
  |_=>exact⟨u,A,rfl,k,s,l,p,aa,o,t,v,B⟩
 |region id ops d=>
  intro Q b β e L h a w i m r g hp;cases d with
  |false=>exact wp_region_list (ajA ops.toList b β e L h a w i m r g hp)
  |true=>
   refine j _ Q b β e L h a w i m r g ?_;simp only[lower]at hp⊢;split at hp;rename_i z;rw[aP z];exact hp;rename_i z;rw[aD z];exact hp
 |skip=>exactλQ b β e L h a w i m r g hp=>j _ Q b β e L h a w i m r g hp
 |cond=>exactλQ b β e L h a w i m r g hp=>j _ Q b β e L h a w i m r g hp
 |block=>exactλQ b β e L h a w i m r g hp=>j _ Q b β e L h a w i m r g hp
 |loop=>exactλQ b β e L h a w i m r g hp=>j _ Q b β e L h a w i m r g hp
 |rangeFunc f E x y=>intro Q b β e L h a w i m r g hp;cases E;exact j _ Q b β e L h a w i m r g hp
 |exit=>exactλQ b β e L h a w i m r g hp=>j _ Q b β e L h a w i m r g hp
 |scope=>exactλQ b β e L h a w i m r g hp=>j _ Q b β e L h a w i m r g hp
 |label=>exactλQ b β e L h a w i m r g hp=>j _ Q b β e L h a w i m r g hp
 |goto=>exactλQ b β e L h a w i m r g hp=>j _ Q b β e L h a w i m r g hp
 |ret=>exactλQ b β e L h a w i m r g hp=>j _ Q b β e L h a w i m r g hp
 |refuse=>exactλQ b β e L h a w i m r g hp=>j _ Q b β e L h a w i m r g hp
theorem Alike.refl w:Alike w w:=⟨rfl,rfl,rfl,rfl⟩
theorem Alike.trans{a b c:bw}(x:Alike a b)(y:Alike b c):Alike a c:=⟨y.heap.trans x.heap,y.os.trans x.os,y.tape.trans x.tape,y.output.trans x.output⟩
theorem aDb{w bk:bw}(x:Alike w bk){i:Nat}{l:LE}(h:l.fu β i w):l.fu β i bk:=by
 simp_all[LE.fu,x.heap,World.ownsRow]
theorem cX.alike{bk:bw}(m:cX al a' β L h w)(x:Alike w bk):cX al a' β L h bk:=⟨⟨λo U a=>by rw[x.heap];exact m.cA.hw o U a,λi l ak=>aDb x (m.cA.cA i l ak)⟩,m.hole,m.inj,λi l ak c=>by rw[x.heap];exact m.lt i l ak c,m.cQ,x.os.trans m.os,x.tape.trans m.tape,x.output.trans m.output,by rw[x.heap];exact m.size,λo a b=>by rw[x.heap];exact m.frame o a b,m.fresh⟩
theorem Uo{fn:Func}{tmps:Array ax}{ar:Ending->bw->Prop}:∀a w,(∀d∈a,FM P d)->(∀bk,Alike w bk->∃v,(results fn tmps).run P bk= .ok v bk/\ar (.returned v) bk)->Leaves P fn tmps ar a .returning w
 |[],w,_,h=>h w (.refl w)
 |d::a,w,b,h=>by
  obtain⟨g,cap,rfl,k,j⟩:=b d bd;refine leaves_cons bd (f:=g) (args:=#[]++cap) ?_ ?_;simp only[invoke];exact A6 k;rw[ajU];refine aj4 (j w) ?_;rintro e u bk ⟨⟨v,rfl⟩,rfl,c⟩;exact Uo a bk (λd i=>b d (by simp[i])) λl x=>h l (c.trans x)
def aFU(P:eN)(rs:List BI)(Q:ax->J->Prop):F1:=λx _ e L h=>vf P rs Q x e L h
theorem akp.intro{f:l4}{fn:Func}{c:Code}{oC:IR}{rs:List BI}{args:List ax}{h:J}{Q:ax->J->Prop}(O:P.follows .mixedOrders=true)(d:P.funcs[f]?=some fn)(C:fn.body=some c)(t:(fn.name== "runtime.NumGoroutine")=false)(y:fn.ntmps=n)(x:fn.results.toList=rs)(s:lower P cm c=oC)(N:p0 args.length n=true)(M:Lq P n oC (aFU P rs Q) [] (sk args) [] h):Fn P f args.toArray h Q:=by
 refine⟨⟨fn,d,aJ,t⟩,λw hw=>?_⟩;subst s;subst x;subst y;refine anZ d C ?_;have m:cX h w (λ_=>0) [] h w:=⟨⟨hw,(λi l ak=>by cases ak)⟩,(λi l ak=>by cases ak),(λi o l cw ak=>by cases ak),(λi l ak=>by cases ak),(λi l ak=>by cases ak),rfl,rfl,rfl,dz _,(λ_ _ _=>rfl),(λo A=>.inl A)⟩;have z:dN []:=λi cs ty B=>by cases B
 have D:=ajw O (al:=h) (a':=w) (n:=fn.ntmps) c _ [] (λ_=>0) (sk args) [] h _ w bd m (I6 (yc N) _) z M;refine xW D ?_;rintro ex _ bk ⟨F,k,rfl,I,β,e,L,aa,b,E,q,a⟩;have fin:xV P fn.results.toList [] e L aa (λfA=>mx 40 fA (λL h=>match ph L fA with
  |some aG=>hc (λ_ h=>Q (kH aG) h) L h
  |none=>False) L aa)->Leaves P fn F.tmps (λe bk=>∃v aa,e= .returned v/\Q v aa/\Ext h w aa bk) k .returning bk:=by
  refineλr=>Uo k bk I λbk u=>?_
  have b:=b.alike u
  obtain⟨fA,j,S,p⟩:=HZ b E q _ _ [] r bd
  simp only[Im]at j
  obtain⟨T,h1,g,m1,H,V,_⟩:=xL fA _ _ _ b q j
  split at g
  rename_i aG G
  have ay:=xN m1.cA fA aG G
  obtain⟨W,U,ae,K,m2,_,_,_⟩:=sW g β m1 H
  rw[ay]at p
  exact⟨_,O8 p,_,ae,rfl,K,⟨m2.cA.hw,m2.os,m2.tape,m2.output,m2.size,m2.frame,m2.fresh⟩⟩
  grind
 cases ex with
 |normal=>exact fin a
 |ret=>exact fin a
 |exit id=>exact a.elim
 |goto l=>exact a.elim
 |panic R=>exact a.elim
 |outgrown=>exact a.elim
def BH(P:eN)(d:vl)(v:ax)(h:J)(Q:J->Prop):Prop:=∃g cap,d={target:=.fn (.func g) cap,args:=#[]}/\(∃fn,P.funcs[g]?=some fn/\fn.body.isSome=true/\(fn.name== "runtime.NumGoroutine")=false)/\∀w,ng h w->CallsD P g cap (.panicking [{v:=v,recovered:=false}]) w λe u bk=>(∃r,e= .returned r)/\u= .panicking [{v:=v,recovered:=true}]/\∃aa,Q aa/\Ext h w aa bk
def ajv(P:eN)(rs:List BI)(Q:ax->J->Prop):F1:=λx a e L h=>match x,a with
 |.panic [p],[d]=>p={v:=p.v,recovered:=false}/\BH P d p.v h λaa=>vf P rs Q .ret e L aa
 |x,_=>vf P rs Q x e L h
theorem akq.intro{f:l4}{fn:Func}{c:Code}{oC:IR}{rs:List BI}{args:List ax}{h:J}{Q:ax->J->Prop}(Z:P.follows .mixedOrders=true)(x:P.funcs[f]?=some fn)(q:fn.body=some c)(D:(fn.name== "runtime.NumGoroutine")=false)(G:fn.ntmps=n)(F:fn.results.toList=rs)(C:lower P cm c=oC)(Y:p0 args.length n=true)(X:Lq P n oC (ajv P rs Q) [] (sk args) [] h):Fn P f args.toArray h Q:=by
 refine⟨⟨fn,x,aJ,D⟩,λw hw=>?_⟩;subst C;subst F;subst G;refine anZ x q ?_;have m:cX h w (λ_=>0) [] h w:=⟨⟨hw,(λi l ak=>by cases ak)⟩,(λi l ak=>by cases ak),(λi o l cw ak=>by cases ak),(λi l ak=>by cases ak),(λi l ak=>by cases ak),rfl,rfl,rfl,dz _,(λ_ _ _=>rfl),(λo K=>.inl K)⟩;have I:dN []:=λi cs ty M=>by cases M
 have N:=ajw Z (al:=h) (a':=w) (n:=fn.ntmps) c _ [] (λ_=>0) (sk args) [] h _ w bd m (I6 (yc Y) _) I X;refine xW N ?_;rintro ex _ bk ⟨t,s,rfl,V,β,e,L,aa,b,R,B,a⟩;have j:∀aa bk,cX h w β L aa bk->xV P fn.results.toList [] e L aa (λfA=>mx 40 fA (λL h=>match ph L fA with
  |some aG=>hc (λ_ h=>Q (kH aG) h) L h
  |none=>False) L aa)->∃v,(results fn t.tmps).run P bk= .ok v bk/\∃u ae,Ending.returned v= .returned u/\Q u ae/\Ext h w ae bk:=by
  intro aa bk b k
  obtain⟨fA,z,bN,A⟩:=HZ b R B _ _ [] k bd
  simp only[Im]at z
  obtain⟨hb,h1,y,m1,U,oL,_⟩:=xL fA _ _ _ b B z
  split at y
  rename_i aG T
  have ay:=xN m1.cA fA aG T
  obtain⟨qv,mD,ae,W,m2,_,_,_⟩:=sW y β m1 U
  rw[ay]at A
  exact⟨_,O8 A,_,ae,rfl,W,⟨m2.cA.hw,m2.os,m2.tape,m2.output,m2.size,m2.frame,m2.fresh⟩⟩
  grind
 have fin:vf P fn.results.toList Q .ret e L aa->Leaves P fn t.tmps (λe bk=>∃v aa,e= .returned v/\Q v aa/\Ext h w aa bk) s .returning bk:=λk=>Uo s bk V λbk E=>j _ _ (b.alike E) k;have tz:(∃p d,ex= .panic [p]/\s=[d]/\p={v:=p.v,recovered:=false}/\BH P d p.v aa λaa=>vf P fn.results.toList Q .ret e L aa)\/vf P fn.results.toList Q ex e L aa:=by
  unfold ajv at a
  grind
 rcases tz with⟨p,d,rfl,rfl,hp,g,cap,rfl,q,O⟩|a;show Leaves P fn t.tmps _ [_] (.panicking [p]) bk;refine leaves_cons bd (f:=g) (args:=#[]++cap) ?_ ?_;simp only[invoke];exact A6 q;rw[ajU,hp];refine aj4 (O bk b.cA.hw) ?_;rintro aQ u gi ⟨⟨r,rfl⟩,rfl,ae,H,S⟩;exact j _ _ (b.ext S) H;cases ex with
 |normal=>exact fin a
 |ret=>exact fin a
 |exit id=>exact a.elim
 |goto l=>exact a.elim
 |panic B1=>exact a.elim
 |outgrown=>exact a.elim
end
end Go.Sx
namespace Go.Sx
set_option maxRecDepth 100000
set_option maxHeartbeats 0
set_option linter.all false
variable {x y:Nat}
abbrev eh(n:Nat):ax:=bA .u64 n
theorem Ly z:IntKind.u64.wrap z=z%18446744073709551616:=dC
theorem PP{n:Nat}(h:n<18446744073709551616):IntKind.u64.wrap n=n:=by rw[Ly];omega
section
variable {P:eN}{w:bw}{t:Nat}
theorem aFy(a:y≠0):(binOp .rem t (eh x) (eh y)).run P w= .ok (eh (x%y)) w:=by
 simp[binOp,Op.intDiv,a];rw[Int.tmod_eq_emod_of_nonneg I]
theorem PG(a:y≠0)(b:x<18446744073709551616):(binOp .quo t (eh x) (eh y)).run P w= .ok (eh (x/y)) w:=by
 simp[binOp,Op.intDiv,a];rw[show(x:Int)/(y:Int)=((x/y:Nat):Int) by simp,PP (alv (Nat.div_le_self _ _) b)]
theorem C7{k:IntKind}(a:y<=64):(binOp .shr t (eh x) (bA k y)).run P w= .ok (eh (x/2^y)) w:=by
 have:min ((y:Int).toNat) IntKind.u64.bits=y:=by simp[LQ];omega
 simp only[binOp,Op.shift,this];simp;rw[Int.fdiv_eq_ediv_of_nonneg _ (Int.pow_nonneg aM),aD I];simp
theorem aFz{k:IntKind}(a:y<=64)(h:x*2^y<18446744073709551616):(binOp .shl t (eh x) (bA k y)).run P w= .ok (eh (x*2^y)) w:=by
 have:min ((y:Int).toNat) IntKind.u64.bits=y:=by simp[LQ];omega
 simp only[binOp,Op.shift,this];simp;rw[show(x:Int)*2^y=((x*2^y:Nat):Int) by simp,PP h,aD I]
theorem ajd(h:y<=x)(a:x<18446744073709551616):(binOp .sub t (eh x) (eh y)).run P w= .ok (eh (x-y)) w:=by
 simp[binOp,L7,Ly];omega
theorem aFx(b:x<18446744073709551616)(a:y<18446744073709551616):(binOp .or t (eh x) (eh y)).run P w= .ok (eh (x|||y)) w:=by
 simp[binOp,alI];have h1:x%2^IntKind.u64.bits=x:=Is b;have ae:y%2^IntKind.u64.bits=y:=Is a;rw[h1,ae,PP];exact Nat.or_lt_two_pow (n:=64) b a
theorem PF(b:x<18446744073709551616)(a:y<18446744073709551616):(binOp .and t (eh x) (eh y)).run P w= .ok (eh (x&&&y)) w:=by
 simp[binOp,alI];have h1:x%2^IntKind.u64.bits=x:=Is b;have ae:y%2^IntKind.u64.bits=y:=Is a;rw[h1,ae,PP];exact Nat.and_lt_two_pow (n:=64) x a
end
end Go.Sx
namespace Go.Sx
open Go.Proofs
set_option maxRecDepth 100000
set_option maxHeartbeats 0
set_option linter.all false
theorem HQ(a:Nat) h(b:a<9223372036854775808):Fn aB 150 #[R a] h λv aa=>v=eh a/\aa=h:=by
 exact b6 aed rfl (.mk I I (.ah ⟨rfl,rfl⟩))
theorem CX(a:Nat) h(b:a<9223372036854775808):Fn aB 153 #[R a] h λv aa=>v=eh a/\aa=h:=by
 exact b6 awK rfl (.mk I I (.ah ⟨rfl,rfl⟩))
theorem ZF a b h(d:a<9223372036854775808)(g:b<9223372036854775808):Fn aB 188 #[eh a,eh b] h λv aa=>v=eh (h3 a b)/\aa=h:=by
 refine b6 awY rfl (.mk (Nat×Nat) [0,1] (λ(x,y)=>[.v (eh x),.v (eh y)]) (λ_=>[]) (λ(x,y) aa=>aa=h/\x<9223372036854775808/\y<9223372036854775808/\h3 x y=h3 a b) (λ(_,y)=>y) (a,b) (λ_=>rfl) ⟨rfl,d,g,rfl⟩ rfl rfl (λ⟨x,y⟩ e aa⟨rfl,f,c,i⟩=>aY (λq=>?_) (λq=>?_)));refine .mk (eh (x%y)) (λP w=>aFy I) (⟨(y,x%y),rfl,rfl,⟨rfl,c,alv (Nat.mod_le _ _) f,?_⟩,Nat.mod_lt _ I⟩);rw[<-i,alp,<-Nat.gcd_rec,alp];have:y=0:=I;subst this;exact .ah ⟨by show eh x=_;grind,rfl⟩
def zs:List Nat:=[0,1,56,2,57,49,28,3,61,58,42,50,38,29,17,4,62,47,59,36,45,43,51,22,53,39,33,30,24,18,12,5,63,55,48,27,60,41,37,16,46,35,44,21,52,32,23,11,54,26,40,15,34,20,31,10,25,14,19,9,13,8,7,6]
def PE(x:Nat):Nat:=(x&&&(18446744073709551616-x))*285870213051353865%18446744073709551616/288230376151711744
def lG(x:Nat):Nat:=zs.getD (PE x) 0
def vz(h:J):Prop:=∀k,k<64->h.cell? ⟨0,k,none⟩=some (bA .u8 (zs.getD k 0:Nat))
theorem vz.mono{h aa:J}(t:vz h)(le:h.le aa):vz aa:=λk hk=>J.la le (t k hk)
theorem aFr x:PE x<64:=by
 unfold PE;omega
theorem azZ{x y:Nat}(al:0<x)(e:x<18446744073709551616)(d:y=18446744073709551616-x){a:fM}{w:bw}:vm aB (.unOp .neg 247 a) [eh x] w (eh y) w:=by
 intro f q c b;simp[Iv]at b;simp[dk,c,b,Op.unary,L7,Ly];omega
theorem wrap_small{z:Int}(al: -9223372036854775808<=z)(h1:z<=9223372036854775807):IntKind.i64.wrap z=z:=by
 have:∀z:Int,IntKind.i64.wrap z=if 9223372036854775808<=z%18446744073709551616 then z%18446744073709551616-18446744073709551616 else z%18446744073709551616:=λz=>by
  unfold IntKind.wrap;simp[LQ,IntKind.signed]
 grind
theorem aFt:∀k,k<64->zs.getD k 0<=63:=aM
theorem aFs x:lG x<=63:=aFt _ (aFr x)
theorem WU x h(al:0<x)(c:x<18446744073709551616)(j:vz h):Fn aB 187 #[eh x] h λv aa=>v=R (lG x)/\aa=h:=by
 refine b6 awX rfl ?_;obtain⟨f,h1⟩:∃y,y=18446744073709551616-x:=⟨_,rfl⟩;obtain⟨e,ae⟩:∃y,y=x&&&f:=⟨_,rfl⟩;obtain⟨g,d⟩:∃y,y=e*285870213051353865%18446744073709551616:=⟨_,rfl⟩;obtain⟨a,b⟩:∃y,y=g/2^58:=⟨_,rfl⟩;have k:a=PE x:=by rw[b,d,ae,h1];rfl
 have l:a<64:=I;have i:zs.getD a 0=lG x:=by rw[k];rfl
 have m:=aFs x;generalize lG x=y at i m;exact aY (λq=>I) (λq=>.ah (.mk (eh f) (λw _=>azZ al c h1) (.mk (eh e) (λP w=>by rw[ae];exact PF c I) (.mk (eh g) (λP w=>by rw[d];rfl) (.mk (eh a) (λP w=>by rw[b];exact C7 (y:=58) aM) (.mk I I (.hp (bA .u8 (y:Nat)) (by simp only[add_lit,dM,bz,eV];rw[<-i];exact j _ l) (.ah ⟨by show R _=_;rw[wrap_small I I],rfl⟩))))))))
end Go.Sx
