/- A part of the proof that the statement holds. Conditions: none. -/
import Derived.Recover
import Derived.Test.YtlbdbpaelcnfgaaGreatDoorAC
import Derived.Test.YtlbdbpaelcnfgaaGreatDoorAO
import Derived.Test.YtlbdbpaelcnfgaaGreatDoorAP
open Array renaming empty_append->alA
open ByteArray renaming ext->aIq
open Classical renaming not_not->kc
open Decidable renaming byContradiction->xH
open Go renaming Addr->aE,Deferred->wt,FuncId->mT,Operand->gu,Program->fk,ResultVar->CN,Value->aA,World->bD,calls_of_wp_defers->apF,execOp->dD,getObj->Fi,maxLen->eQ,run_underlying->hg,undef->fS,wp_mono->yV,yielded->mF
open Go.CallsD renaming mono->alK
open Go.Deferred renaming ofValue->JD
open Go.Instr renaming checkKey->sc,findKey->EC,findNow->ED
open Go.IntKind renaming bits->RQ
open Go.Obj renaming cells->bb
open Go.Op renaming intBits->anj,operands->He
open Go.Oper renaming wp->CL
open Go.Proofs.Tryz renaming prog->aD,underlying331->aod,underlying9->CT
open Go.Region renaming wanted->ih
open Go.Result renaming andThen_ok->jc
open Go.Sem renaming run->CP,run_bind->iT,run_pure->l3
open Go.Value renaming bool->dh,int->bC,oneCell'->Bd,slice->ab,tuple->eA
open Int renaming toNat_natCast->bn
open List renaming append_assoc->mg,cons_append->A2,drop_drop->RW,drop_eq_getElem_cons->l1,drop_eq_nil_of_le->py,ext_getElem->vj,flatten_append->wy,flatten_singleton->amw,getD_eq_getElem?_getD->cc,getElem?_drop->CE,getElem?_eq_getElem->bK,getElem?_map->de,getElem_mem->b3,getElem_of_mem->n4,getElem_set->s6,length->fv,length_cons->iJ,length_drop->mU,length_replicate->uc,length_set->fI,map_append->fw,map_cons->er,map_nil->y8,map_set->kB,mem_append->eI,mem_cons->ez,mem_map->cO,mem_of_mem_take->Nl,mem_singleton->hZ,nil_append->JV,nodup_append->qP,nodup_cons->jb,replicate->bp,set_eq_of_length_le->Zr,take_length->rv,take_of_length_le->mJ
open List.Perm renaming swap->RS
open List.cons renaming injEq->A1
open Nat renaming ble->qQ,le_add_right->am4,le_of_ble_eq_true->za,le_refl->dM,lt_succ_self->A8,mod_eq_of_lt->J1,mul_le_mul->mh,mul_le_mul_right->vn,mul_one->e4,succ_mul->A9,zero_add->dZ,zero_le->cU
open Ne renaming symm->eh
open Or renaming inl->bQ,inr->ba
open Prod renaming fst->hE,snd->dV
namespace Go.Sx
open Go.Proofs
set_option maxRecDepth 100000
set_option maxHeartbeats 0
set_option linter.all false
variable {s:ByteArray}{a p:Int}{rs:List (Nat×List Bool)}{bA:List Nat}{b bF bj c c' cb ch m n size w:Nat}{A D:Option aE}
structure xK(H:J)(hj:Nat)(A D:Option aE)(m c bj:Nat)(l:cd)(bA:List Nat):Prop where
 cell:H hj=some (bb [ab A m c,ab D m bj].toArray 203 (0,0))
 sat:kR H A m l
 dK:bg H 1 D m ((j7 bA).map λz=>[R z])
 cw:m<=c
 qc:m<=bj
 le:m<=200000
theorem xK.mono{H lZ:J}{hj:Nat}{A D:Option aE}{m c bj:Nat}{l:cd}{bA:List Nat}(x:xK H hj A D m c bj l bA)(y:H.le lZ):xK lZ hj A D m c bj l bA:=⟨y _ _ x.cell,x.sat.mono y,x.dK.mono y,x.cw,x.qc,x.le⟩
theorem xK.len{H:J}{hj:Nat}{A D:Option aE}{m c bj:Nat}{l:cd}{bA:List Nat}(x:xK H hj A D m c bj l bA):bA.length=m/\l.bR.eL.length=m:=by
 refine⟨?_,?_⟩;have:=x.dK.len;grind [j7];rw[Fd];exact x.sat.1.symm
theorem xK.num{H:J}{hj:Nat}{l:cd}(x:xK H hj A D m c bj l bA){i:Nat}(a:i<m):((j7 bA).map λz=>[R z])[i]?=some [R ((bA[i]'(by grind [x.len.1]):Nat):Int)]:=by
 have:=x.len.1;simp[j7,this,a]
noncomputable def Po:IR:=(IR.seq (IR.seq (IR.ck axE) (IR.cond (eC.t 41) (IR.seq (IR.Af axF) (IR.seq (IR.Af axx) (IR.seq (IR.ck axy) (IR.exit 1)))) IR.skip)) (IR.seq (IR.ck axz) (IR.seq (IR.seq (IR.ck axA) (IR.block 4 (IR.loop axw))) (IR.seq (IR.Af axB) (IR.seq (IR.Af axC) (IR.ck axD))))))
abbrev y6(hj:Nat)(E:Option aE)(o a:Nat)(G:Option aE)(gc:Nat)(b rg:List aA):List LE:=[.b5 hj,.own [.v (ab none 0 0),.v (ab none 0 0)] 203,.own [.v (ab E o a),.v (ab G o gc)] 203,.row 199 3 E o a b,.row 3 1 G o gc rg]
theorem aFU t Q(e:cg){H:J}{hj c':Nat}{A D:Option aE}{m c bj:Nat}{l:cd}{bA:List Nat}(x:xK H hj A D m c bj l bA){N:dU}(ok:N.Ok)(F:pA N bA l.bR.eL){w:Nat}(hw:1<=w)(j:w<=16){i:Nat}(O:i<m) E o f G gc g rg(he:[0,2,4,6,7,8].map e=[.v (iW c'),.v (R w),.p 0 0,.p 1 0,.p 2 0,.v (R i)])(s:∀e k,ua w (l.bR.eL.drop i) k->k<=m->[0,2,4,6,7,8,9].map e=[.v (iW c'),.v (R w),.p 0 0,.p 1 0,.p 2 0,.v (R i),.v (R k)]->dq aD 111 t Q e (y6 hj E o f G gc g rg) H):dq aD 111 (.seq (.ck Vz) (.seq (.block 2 (.loop Vy)) t)) Q e (y6 hj E o f G gc g rg) H:=by
 have y:=fi [0,2,4,6,7,8] e;rw[he]at y;rw[<-y];have K:=x.le;obtain⟨L,T⟩:=x.len;refine .mk Nat [0,2,4,6,7,8,9] (λk=>[.v (iW c'),.v (R w),.p 0 0,.p 1 0,.p 2 0,.v (R i),.v (R k)]) (λ_=>y6 hj E o f G gc g rg) (λk aa=>aa=H/\1<=k/\k<=m/\∀q,1<=q->q<k->CA w (l.bR.eL.drop i) q) (λk=>m-k) 1 (λ_=>rfl) ⟨rfl,dM _,I,λq h1 ae=>I⟩ rfl rfl (λk e aa⟨rfl,n,z,r⟩=>?_);have P:(k+1)*w<=200001*16:=mh I j;have S:k*w<=200001*16:=mh I j;have M:((k:Int)+1)*w=(((k+1)*w:Nat):Int):=dW;have B:(k:Int)*w=((k*w:Nat):Int):=dW;have U:k<=k*w:=Nat.le_mul_of_pos_right k hw;have V:(k+1)*w=k*w+w:=A9 k w;refine .bl (.bl (.bl (.hp (ab A m c) (q8 x.cell rfl) (aW (λu=>?_) (λu=>?_)))));have W:i+(k+1)*w<=m:=I;have C:=aE5 (w:=w) x.cell x.dK I (a:=i) (b:=i+k*w) I I;have d:CA w (l.bR.eL.drop i) k↔(bA.drop i).take w=(bA.drop (i+k*w)).take w:=by
  rw[F.asH ok];unfold CA;rw[mU,RW]
  grind
 refine .bl (.bl ?_);rw[B,<-Int.natCast_add];refine .ag (.mk _ C ?_);rintro _ _ ⟨rfl,rfl⟩;refine aW (λv=>?_) (λv=>?_);refine .bl ?_;refine⟨k+1,rfl,rfl,⟨rfl,I,I,λq h1 ae=>?_⟩,I⟩
 grind
 exact s _ k ⟨n,r,λh=>v (d.1 h)⟩ z rfl;refine s _ k ⟨n,r,λh=>?_⟩ z rfl;have:=h.1
 grind
theorem stepT(Q:mi)(e:cg){H:J}{hj:Nat}{l:cd}{F:J}(x:xK F hj A D m c bj l bA)(hH:F.le (H.off ch cb)){M:dU}(iH:jr H c' ch cb M)(zJ:pA M bA l.bR.eL)(hw:1<=w)(FV:w<=16){i:Nat}(ai:i<m){k:Nat}(hk:ua w (l.bR.eL.drop i) k)(sF:k<=m)(iC:M.hA+20<=4000000000)(E:Option aE)(o b0:Nat)(G:Option aE)(gc:Nat)(Y rg:List aA)(ah:o<=200000)(he:[0,2,4,6,7,8,9].map e=[.v (iW c'),.v (R w),.p 0 0,.p 1 0,.p 2 0,.v (R i),.v (R k)])
 (Ue:k=1->∀O h j s y X t n B f d b r,l.th i= .cons t n B f d b r->kR F B f b->[0,2,4,6,7,8].map O=[.v (iW c'),.v (R w),.p 0 0,.p 1 0,.p 2 0,.v (R ((i+1:Nat):Int))]->
  Q (.exit 1) O (y6 hj h (o+1) j s y (Y++k9 t n B f d) (rg++[R ((bA[i]'(by grind [x.len.1]):Nat):Int)])++X) H)
 (Uf:2<=k->∀O h j s y X B d jI r lZ,kR F B w ((l.th i).fQ w)->M.Ext jI->jr lZ c' ch cb jI->lZ.off ch cb=H.off ch cb->jI.mH r=((k:Int),0,gA ((l.bR.eL.drop i).take w))->1<=r->r<=jI.bk.length->jI.hA<=M.hA+w+1->
  [0,2,4,6,7,8].map O=[.v (iW c'),.v (R w),.p 0 0,.p 1 0,.p 2 0,.v (R ((i+k*w:Nat):Int))]->
  Q .normal O (y6 hj h (o+1) j s y (Y++k9 k 0 B w d) (rg++[R (r:Int)])++X) lZ):
 dq aD 111 Po Q e (y6 hj E o b0 G gc Y rg) H:=by
 have eP:=fi [0,2,4,6,7,8,9] e
 rw[he]at eP
 rw[<-eP]
 have BK:=x.le
 obtain⟨Ii,k6⟩:=x.len
 have C:=x.mono (J.le_trans hH (J.Ah _ _ _))
 obtain⟨g,ak⟩:=C.dK.b4 I
 have U:=aGC x.sat (Nat.le_of_lt ai)
 refine aW (λu=>?_) (λu=>?_)
 have Ib:k=1:=I
 cases aq:l.th i with
 |nil=>
  rw[aq]at U;have:=U.fin;omega
 |cons t n B f d b r=>
  rw[aq]at U;obtain⟨e6,aK,_,Z,T,_⟩:=U.open;have Z:∀q v,(k9 t n B f d)[q]?=some v->H.cell? ((e6.add (i*3)).add q)=some v:=λq v ao=>J.l5 (J.le_trans hH (J.Ah _ _ _)) (Z q v ao);exact .hp (ab A m c) (q8 C.cell rfl) (.m e6 aK (.hp (k9 t n B f d) rfl (by rw[bn];exact Z) (.c0 3 _ (k9 t n B f d) rfl rfl (PC _ _ _ _ _) (by grind [eQ]) I λh j KW=>.hp (ab D m bj) (q8 C.cell rfl) (.m g ak (.hp (R ((bA[i]'I:Nat):Int)) (by rw[bn];exact C.dK.one ak (x.num ai) rfl) (.c0 4 _ [R ((bA[i]'I:Nat):Int)] rfl rfl (WD [((bA[i]'I:Nat):Int)]) (by grind [eQ]) I λs y sx=>.bl (Ue Ib _ h j s y _ t n B f d b r aq T rfl)))))))
 have jF:2<=k:=by have:=hk.pos;omega
 have zN:=hk.room jF
 rw[mU]at zN
 have aut:1*w<=k*w:=vn w I
 have eM:k*w<=200001*16:=mh I FV
 have aIU:(k:Int)*w=((k*w:Nat):Int):=dW
 have adS:=x.qc
 have adR:=x.cw
 refine .hp (ab D m bj) (q8 C.cell rfl) (.bl (.mk i (i+w) rfl dW (am4 _ _) I λB mo pa=>?_))
 have AA:bg H 1 B w ((((j7 bA).map λz=>[R z]).drop i).take w):=(C.dK.drop (k:=i) (B:=B) (λq=>mo I) I).take I
 have asW:∀q(aB:q<w),((((j7 bA).map λz=>[R z]).drop i).take w)[q]?=some [R ((bA[i+q]'I:Nat):Int)]:=λq aB=>by
  rw[List.getElem?_take,aS aB,CE];exact x.num I
 obtain⟨W,mq⟩:∃W,W=i+w-i:=⟨_,rfl⟩
 have atd:W=w:=I
 rw[<-mq]
 refine .mk (Nat×Nat×dU) [0,2,4,6,7,8,9,10,70,71,72] (λ(q,b,_)=>[.v (iW c'),.v (R w),.p 0 0,.p 1 0,.p 2 0,.v (R i),.v (R k),.v (R b),.v (ab B W (bj-i)),.v (R W),.v (R q)]) (λ_=>y6 hj E o b0 G gc Y rg) (λ(q,b,jI) lZ=>jr lZ c' ch cb jI/\lZ.off ch cb=H.off ch cb/\M.Ext jI/\b<=jI.ls.length/\q<=w/\jI.l0 b=(l.bR.eL.drop i).take q/\jI.hA<=M.hA+q) (λ(q,_,_)=>W-q) (0,0,M) (λ(_,_,_)=>rfl) ⟨iH,rfl,dU.Ext.refl M,cU _,cU _,by simp[iH.ok.q6],dM _⟩ rfl rfl ?_
 rintro⟨q,b,jI⟩ e lZ ⟨L,aJN,V,T,aB,aX,a7⟩
 have Fr:F.le lZ:=J.le_trans aL (J.Ah lZ ch cb)
 have N:=x.mono Fr
 refine aW (λv=>?_) (λv=>?_)
 have S:q<w:=I
 obtain⟨TS,K⟩:=AA.b4 I
 have aGi:bg lZ 1 B w ((((j7 bA).map λz=>[R z]).drop i).take w):=(N.dK.drop (k:=i) (B:=B) (λq=>mo I) I).take I
 have qk:=(zJ.ext V).le (bA[i+q]'I) (b3 _)
 refine .m TS K (.hp (R ((bA[i+q]'I:Nat):Int)) (by rw[bn];exact aGi.one K (asW q S) rfl) (.ag (.mk _ (agI L (a:=b) (b:=bA[i+q]'I) T qk.1 qk.2 I) ?_)))
 rintro _ aT ⟨EI,P,rfl,Cy,Fs,Ub,Fo,Vm,UU⟩
 refine .bl (⟨(q+1,P,EI),rfl,rfl,⟨Fs,aL,V.trans Cy,Fo,S,?_,I⟩,aL⟩)
 rw[Ub,aX,Tb I]
 congr 2
 have Td:=(zJ.ext V).eq
 grind
 have S:q=w:=I
 subst S
 have a7:=a7
 refine .hp (ab A m c) (q8 N.cell rfl) (.bl (.mk i (i+q) rfl dW (am4 _ _) I λhW asU aI5=>?_))
 rw[<-mq,atd]
 refine .c0 3 _ (k9 k 0 hW q (c-i)) rfl rfl (PC _ _ _ _ _) (by grind [eQ]) I λh j KW=>.mk _ (aci L (t:=(k:Int)) (n:=0) (b:=b) T I) ?_
 rintro _ aT ⟨EI,P,rfl,Cy,Fs,adp,T5,Fo,Vm,UU⟩
 exact .c0 4 _ [R (P:Int)] rfl rfl (WD [(P:Int)]) (by grind [eQ]) I λs y sx=>.bl (.bl (Uf jF _ h j s y _ hW (c-i) EI P aT (aE8 x.sat I λ_=>asU I) (V.trans Cy) Fs aL aL T5 Fo I rfl))
theorem aFS d Q(e:cg){H:J}{hj c':Nat}{A D:Option aE}{m c bj:Nat}{l:cd}{bA:List Nat}(x:xK H hj A D m c bj l bA){w i:Nat} E o a G gc b rg(he:[0,2,4,6,7,8].map e=[.v (iW c'),.v (R w),.p 0 0,.p 1 0,.p 2 0,.v (R i)])(h1:i<m->∀e,[0,2,4,6,7,8].map e=[.v (iW c'),.v (R w),.p 0 0,.p 1 0,.p 2 0,.v (R i)]->dq aD 111 d Q e (y6 hj E o a G gc b rg) H)(ae:m<=i->∀e,[0,2,4,6,7,8].map e=[.v (iW c'),.v (R w),.p 0 0,.p 1 0,.p 2 0,.v (R i)]->Q (.exit 0) e (y6 hj E o a G gc b rg) H):dq aD 111 (.seq (.seq (.ck afx) (.cond (.t 17) .skip (.exit 0))) d) Q e (y6 hj E o a G gc b rg) H:=by
 have f:=fi [0,2,4,6,7,8] e;rw[he]at f;rw[<-f];refine .hp (ab A m c) (q8 x.cell rfl) ?_;refine aW (λu=>?_) (λu=>?_);exact h1 I _ rfl;exact ae I _ rfl
theorem bw.off{h:J}{ch cb bF size n cap:Nat}{A:Option aE}{xs:List aA}(x:bw h bF size A n cap xs)(f:∀g,A=some g->g.block≠ch/\g.block≠cb):bw (h.off ch cb) bF size A n cap xs:=by
 obtain⟨h1,ae⟩:=x;refine⟨h1,ae.imp id λ⟨g,e,a,d,i⟩=>⟨g,e,a,?_,i⟩⟩;obtain⟨c,b⟩:=f _ a;rw[J.IX c b];exact d
theorem bg.Qh{h:J}{rows:List (List aA)}(x:bg h size A n rows)(c:∀g,A=some g->g.block≠ch/\g.block≠cb):bg (h.off ch cb) size A n rows:=x.at_ λg e=>by obtain⟨b,a⟩:=c g e;rw[J.IX b a]
theorem jr.Pe{h:J}{N:dU}(x:jr h c' ch cb N):h c'≠none/\h ch≠none/\h cb≠none:=by
 obtain⟨_,_,a,_⟩:=x.f;obtain⟨_,_,al,_⟩:=x.l;exact⟨by simp[x.cell],by rw[a.at_];simp,by rw[al.at_];simp⟩
theorem jr.c0{h1 H:J}{M:dU}(x:jr H c' ch cb M)(y:(h1.off ch cb).le (H.off ch cb)){g:Nat}(e:H g=none):h1 g=none:=by
 obtain⟨_,b,a⟩:=x.Pe;have c:g≠ch:=λq=>b aL;have d:g≠cb:=λq=>a aL;have:=xk y (WK e);rwa[J.IX c d]at this
theorem cd.aFt t n B m c(b p:cd):(p.snoc t n B m c b).bR.eL=p.bR.eL++[(t,n,b.bR)]:=by
 have:=cd.XV t n B m c b .nil p;rw[e3.SA]at this;rw[this,abM];rfl
variable {l:cd}
theorem cd.ajX{K:wl}{h:J} t n B m c b(a:K h B m c b):∀{p:cd},wm K h p->wm K h (p.snoc t n B m c b)
 |.nil,_=>⟨a,trivial⟩
 |.cons _ _ _ _ _ _ _,⟨x,y⟩=>⟨x,cd.ajX t n B m c b a y⟩
structure Y5(h h1:J)(c' ch cb:Nat)(N:dU)(es:List jB)(m w:Nat)(aa:J)(i:Nat)(E:Option aE)(b0:Nat)(G:Option aE)(gc o:Nat)(p:cd)(bA:List Nat)(M:dU):Prop where
 ea:jr aa c' ch cb M
 ext:N.Ext M
 aeU:i<=m
 out:p.bR.eL++jO w (es.drop i)=jO w es
 len:p.len=o
 afV:o<=i
 Xv:bw aa 199 3 E o b0 p.cl.flatten
 aEw:bw aa 3 1 G o gc ((j7 bA).map R)
 num:pA M bA p.bR.eL
 Kj:wm xW (h1.off ch cb) p
 tn:∀g,E=some g->h1 g.block=none
 Tw:∀g,G=some g->h1 g.block=none
 x9:∀g bq,E=some g->G=some bq->g.block≠bq.block
 off:(h1.off ch cb).le (aa.off ch cb)
 hA:M.hA<=N.hA+i
theorem QI{h:J}{cap:Nat}{xs:List aA}(x:bw h bF size A n cap xs):n<=cap:=by
 rcases x.2 with⟨_,q,_⟩|⟨_,_,_,_,q,_⟩<;>omega
structure al9(h:J)(c' ch cb:Nat)(N:dU)(U:List jB)(B:Nat)(aa:J)(M:dU)(E:Option aE)(o b0:Nat)(G:Option aE)(gc:Nat)(p:cd)(bA:List Nat):Prop where
 ea:jr aa c' ch cb M
 ext:N.Ext M
 eL:p.bR.eL=U
 sat:kR (aa.off ch cb) E o p
 ce:o<=b0
 dK:bg (aa.off ch cb) 1 G o ((j7 bA).map λz=>[R z])
 aaV:o<=gc
 num:pA M bA U
 off:(h.off ch cb).le (aa.off ch cb)
 hA:M.hA<=N.hA+B
theorem ar8{h:J}{N:dU}(aF:jr h c' ch cb N)(an:kR (h.off ch cb) A m l)(adR:m<=c)(aw:bg (h.off ch cb) 1 D m ((j7 bA).map λz=>[R z]))(adS:m<=bj)(zJ:pA N bA l.bR.eL)(av:l.br<=200000)(hw:1<=w)(FV:w<=16)(iC:N.hA+m+20<=4000000000):Fn aD 68 #[iW c',.agg #[ab A m c,ab D m bj],R w] h λv aa=>∃M E o d G gc p q',v= .agg #[ab E o d,ab G o gc]/\al9 h c' ch cb N (jO w l.bR.eL) m aa M E o d G gc p q':=by
 have hm:m<=200000:=by have:=an.1;have:=l.Ac;omega
 refine bU uH rfl ?_;refine .Xc [.p 0 0] ?_;refine .mk λhj FK=>?_;obtain⟨h1,UF⟩:∃h1,h1=h.put hj (bb [ab A m c,ab D m bj].toArray 203 (0,0)):=⟨_,rfl⟩;have zG:h.le h1:=by rw[UF];exact J.d' FK
 have tD:=aF.mono zG;obtain⟨_,i2,i3⟩:=aF.Pe;have UW:=J.Mb (ch:=ch) (cb:=cb) zG;have hn:xK (h1.off ch cb) hj A D m c bj l bA:=⟨by
  rw[J.IX (λq=>i2 aL) (λq=>i3 aL),UF];exact J.b8 _ _ _,an.mono UW,aw.mono UW,adR,adS,hm⟩
 have k6:=hn.len.2;refine .mb [0,1,2] (Nat×Option aE×Nat×Option aE×Nat×Nat×cd×List Nat×dU) [0,2,4,6,7,8] (λ(i,_,_,_,_,_,_,_,_)=>[.v (iW c'),.v (R w),.p 0 0,.p 1 0,.p 2 0,.v (R i)]) (λ(_,E,d,G,gc,o,_,_,_)=>[.b5 hj,.own [.v (ab none 0 0),.v (ab none 0 0)] 203,.own [.v (ab E o d),.v (ab G o gc)] 203]) (λ(i,E,d,G,gc,o,p,q',M) aa=>Y5 h h1 c' ch cb N l.bR.eL m w aa i E d G gc o p q' M) (λ(i,_,_,_,_,_,_,_,_)=>m-i) (0,none,0,none,0,0,.nil,[],N) (λ_=>rfl) ⟨aL,dU.Ext.refl N,cU _,rfl,rfl,dM _,⟨rfl,bQ ⟨rfl,rfl,rfl⟩⟩,⟨rfl,bQ ⟨rfl,rfl,rfl⟩⟩,pA.nil N,trivial,(λ_ e=>by cases e),(λ_ e=>by cases e),(λ_ _ e=>by cases e),by rw[UF];exact J.le_refl _,dM _⟩ rfl rfl rfl ?_;rintro⟨i,E,d,G,gc,o,p,q',M⟩ e aa S;have tE:=tD.del S.ea S.tn;have Q:=tD.del tE S.Tw;have Y:=WJ (WJ S.off S.tn) S.Tw;have AG:=hn.mono (J.le_trans Y (J.Ah _ _ _));refine .abs 199 3 E o d _ S.Xv (.abs 3 1 G o gc _ (S.aEw.del λg bq a b q=>S.x9 bq g b a q.symm) (.ag ?_));obtain⟨fe,aud⟩:∃fe,fe=en (en aa E) G:=⟨_,rfl⟩;rw[<-aud]at Q Y AG⊢;have fin:∀{lZ:J}{jI:dU}{P:Nat}{s:Option aE}{C:Nat}{x:Option aE}{F:Nat}{t n:Int}{B:Option aE}{O H:Nat}{b:cd}{r:Nat},jr lZ c' ch cb jI->M.Ext jI->lZ.off ch cb=fe.off ch cb->i<P->P<=m->jO w (l.bR.eL.drop i)=(t,n,b.bR)::jO w (l.bR.eL.drop P)->kR (h1.off ch cb) B O b->jI.mH r=(t,n,b.bR)->1<=r->r<=jI.bk.length->jI.hA+i<=M.hA+P->∀{aT L:J},lZ.le aT->bw aT 199 3 s (o+1) C (p.cl.flatten++k9 t n B O H)->(∀g,s=some g->lZ g.block=none)->aT.le L->bw L 3 1 x (o+1) F ((j7 q').map R++[R (r:Int)])->(∀g,x=some g->aT g.block=none)->Y5 h h1 c' ch cb N l.bR.eL m w L P s C x F (o+1) (p.snoc t n B O H b) (q'++[r]) jI:=by
  intro lZ jI P s C x F t n B O H b r V a2 a3 a4 a5 Sv ZT aoI a9 aoH aIK aT L u y f4 j K f5;have UV:(h1.off ch cb).le (lZ.off ch cb):=aL;have BD:=cd.aFt t n B O H b p;have s1:=S.hA;have s2:=S.afV;refine⟨V.mono (J.le_trans u j),S.ext.trans a2,a5,?_,by rw[cd.XW,S.len],I,?_,?_,?_,cd.ajX _ _ _ _ _ _ ZT S.Kj,λg e=>V.c0 UV (f4 g e),λg e=>V.c0 UV (J.none_le u (f5 g e)),λg bq aQ aR q=>?_,J.le_trans UV (J.Mb (J.le_trans u j)),I⟩;simp[BD,<-S.out,Sv];rw[cd.XU,wy,amw];exact y.mono j;rw[ahJ,fw];exact K;rw[BD,<-aoI];exact(S.num.ext a2).snoc a9 aoH;exact y.mem aQ aL
 show dq aD 111 (.seq (.seq (.ck afx) (.cond (.t 17) .skip (.exit 0))) (.block 1 (.seq (.ck Vz) (.seq (.block 2 (.loop Vy)) Po)))) _ _ _ _;refine aFS _ _ _ AG E o d G gc _ _ rfl (λai e he=>?_) (λai e he=>?_);have W:=zJ.ext S.ext;show dq aD 111 (.seq (.ck Vz) (.seq (.block 2 (.loop Vy)) Po)) _ _ _ _;refine aFU Po _ _ AG Q.ok W hw FV ai E o d G gc _ _ he (λe k hk sF he=>?_);have s1:=S.hA;have s2:=S.afV;have ic:=S.aeU;have e':i<l.bR.eL.length:=I;refine stepT _ _ hn Y Q W hw FV ai hk sF I E o d G gc _ _ I he ?_ ?_;rintro rfl bH s C x F X t n B O H b r K8 aj rO;have ar:l.bR.eL.drop i=(t,n,b.bR)::l.bR.eL.drop (i+1):=by
  have Z:=N3 i l;rw[K8]at Z;have aG:l.bR.eL.drop (i+1)=(l.bR.eL.drop i).drop 1:=bc;rw[aG,<-Z];rfl
 have qk:=W.le (bA[i]'(by grind [hn.len.1])) (b3 _);have as3:M.mH (bA[i]'aL)=(t,n,b.bR):=by
  have Z:(l.bR.eL.drop i)[0]?=some (t,n,b.bR):=aL;rw[CE,<-W.eq,de,bK aL]at Z
  grind
 refine .b5 3 199 3 s (o+1) C _ rfl λaT u y f4=>.b5 4 3 1 x (o+1) F _ rfl λL j K f5=>.ag ⟨(i+1,s,C,x,F,o+1,p.snoc t n B O H b,q'++[bA[i]'aL],M),rO,rfl,?_,aL⟩;refine fin Q (dU.Ext.refl M) rfl (A8 i) ai ?_ aj as3 qk.1 qk.2 I u y f4 j K f5;rw[ar]at hk⊢;exact I9 hw hk;intro jF bH s C x F X B H jI r lZ cy V a2 a3 a4 a5 Sv ZT rO;have zN:=hk.room jF;rw[mU]at zN;have aut:2*w<=k*w:=vn w jF;have auH:gA ((l.bR.eL.drop i).take w)=((l.th i).fQ w).bR:=by
  rw[<-N3,<-Yg,Ge]
 refine .b5 3 199 3 s (o+1) C _ rfl λaT u y f4=>.b5 4 3 1 x (o+1) F _ rfl λL j K f5=>.ag ⟨(i+k*w,s,C,x,F,o+1,p.snoc k 0 B w H ((l.th i).fQ w),q'++[r],jI),rO,rfl,?_,aL⟩;refine fin a2 V a3 I I ?_ cy aL a5 Sv I u y f4 j K f5;rw[Ml hw hk jF,auH,RW];have Ia:i=m:=by have:=S.aeU;omega
 subst Ia;have eP:=fi [0,2,4,6,7,8] e;rw[he]at eP;rw[<-eP];refine .b5 3 199 3 E o d _ rfl λaT u y f4=>.b5 4 3 1 G o gc _ rfl λL j K f5=>.ag ?_;have T:=J.le_trans Y (J.Mb (ch:=ch) (cb:=cb) (J.le_trans u j));have yt:=S.out;rw[List.drop_of_length_le I,aDc,List.append_nil]at yt;obtain⟨_,zX,BY⟩:=tD.Pe;have U:∀{E:Option aE},(∀g,E=some g->h1 g.block=none)->∀g,E=some g->g.block≠ch/\g.block≠cb:=λf g e=>⟨λq=>zX aL,λq=>BY aL⟩;refine⟨M,E,o,d,G,gc,p,q',rfl,Q.mono (J.le_trans u j),S.ext,yt,?_,QI y,(bw.j7 K).Qh (U S.Tw),QI K,by rw[<-yt];exact S.num,J.le_trans UW T,S.hA⟩;have:=bg.sat (l:=p) (A:=E) (n:=o) (bw.dK ((y.mono j).off (U S.tn)) p.Kv aH) (S.Kj.mono xW.mono T);omega
theorem ail{α:Type}:∀(c0 r S:List α),r.length=c0.length->over (c0++S) 0 r=some (r++S)
 |[],[],S,_=>by cases S<;>rfl
 |[],_::_,_,h=>by simp at h
 |_::_,[],_,h=>by simp at h
 |U::c0,y::r,S,h=>by
  simp only[A2,over,ail c0 r S aL]
theorem WU{α:Type}(c0 r S:List α)(h:r.length=c0.length):∀P,over (P++(c0++S)) P.length r=some (P++(r++S))
 |[]=>ail c0 r S h
 |x::P=>by
  simp only[A2,iJ,over,WU c0 r S h P]
def ES(X:J):cd->Prop
 |.nil=>True
 |.cons _ _ B m c b r=>∃a e:J,a.le X/\e.le X/\(∀o,a o≠none->e o=none)/\(m=b.len/\(b= .nil\/∃d,bw a 199 3 B m c b.cl.flatten/\(∀g,B=some g->d g.block=none)/\d.le a/\ES d b))/\ES e r
structure xY(X:J)(A:Option aE)(m c:Nat)(l:cd):Prop where
 len:m=l.len
 ex:∃cy,bw X 199 3 A m c l.cl.flatten/\(∀g,A=some g->cy g.block=none)/\cy.le X/\ES cy l
theorem bw.less{h:J}{k cap:Nat}{xs aV:List aA}(x:bw h bF size A (n+k) cap (xs++aV))(al:xs.length=n*size):A≠none->bw h bF size A n cap xs:=by
 intro aK;obtain⟨h1,ae⟩:=x;rcases ae with⟨ae,_⟩|⟨g,a,c,b,f,d,e,i⟩
 grind
 refine⟨al,ba ⟨g,a,c,b,I,d,e,?_⟩⟩;have:a.toList.take (n*size)=(a.toList.take ((n+k)*size)).take (n*size):=by
  grind
 grind
theorem Yn:∀l X,ES X l->wm xW X l
 |.nil,_,_=>trivial
 |.cons _ _ B m _ b r,X,⟨k,i,f,a2,_,⟨hm,a⟩,d⟩=>⟨by
  rcases a with a|⟨h,c,j,e,g⟩;exact⟨hm,bQ a⟩;have:=bg.sat (l:=b) (A:=B) (n:=m) (bw.dK c b.Kv aH) ((Yn b h g).mono xW.mono e);exact kR.mono f this,(Yn r i d).mono xW.mono a2⟩
def Hs:wl:=λX B m c b=>m=b.len/\(b= .nil\/∃a,bw X 199 3 B m c b.cl.flatten/\(∀g,B=some g->a g.block=none)/\a.le X/\ES a b)
theorem akW:∀l X,ES X l↔GW Hs X l
 |.nil,_=>Iff.rfl
 |.cons _ _ _ _ _ _ r,X=>by
  simp only[ES,GW,Hs,akW r]
theorem xY.aHz{X:J}(s:xY X A m c l):Hs X A m c l:=⟨s.len,ba s.ex⟩
theorem xY.sat{X:J}{A:Option aE}{m c:Nat}{l:cd}(s:xY X A m c l):kR X A m l:=by
 obtain⟨e,a,_,b,d⟩:=s.ex;exact bg.sat (l:=l) (A:=A) (n:=m) (bw.dK a l.Kv aH) ((Yn l e d).mono xW.mono b)
theorem xY.mono{X Y:J}{A:Option aE}{m c:Nat}{l:cd}(x:X.le Y)(s:xY X A m c l):xY Y A m c l:=⟨s.len,let⟨e,a,b,c,d⟩:=s.ex;⟨e,a.mono x,b,J.le_trans c x,d⟩⟩
theorem aC5{h aa a:J}{p:cd}(x:Cw Hs h aa a A n c p):xY (aa.sub h) A n c p:=⟨x.len.symm,a,aEA x.row λg e=>(x.qe g e).1,λg e=>(x.qe g e).2,J.PG x.hd x.out,(akW p a).2 x.Kj⟩
theorem WX:∀N l,l.br<N->l.br<=200000->∀A m cap h,kR h A m l->Fn aD 69 #[ab A m cap] h λv aa=>h.le aa/\∃bo bj cC,v=ab bo m bj/\xY (aa.sub h) bo m bj cC/\cC.bR=l.bR
 |0,l,x,_=>absurd x (Nat.not_lt_zero _)
 |N+1,l,x,S=>by
  intro A m cap h n;have hm:m<=200000:=by have:=n.1;have:=l.Ac;omega
  refine bU azO rfl ?_;refine .mb [] (Nat×Option aE×Nat×cd×cd) [3,6,7,8] (λ(i,D,c,_,_)=>[.v (ab D i c),.v (ab A m cap),.v (R m),.v (R i)]) (λ_=>[]) (λ(i,D,c,p,r) aa=>∃s,Cw Hs h aa s D i c p/\s' h A m i r/\r.br<=l.br/\p.bR.app r.bR=l.bR) (λ(i,_,_,_,_)=>m-i) (0,none,0,.nil,l) (λ_=>rfl) ⟨_,Cw.nil Hs h,n.cK,dM _,rfl⟩ rfl rfl rfl ?_;refineλ⟨i,D,c,p,r⟩ e aa⟨s,a,d,M,he⟩=>.ag (aW (λae=>?_) (λae=>?_));cases r with
  |nil=>have:=d.fin;omega
  |cons t w B f jW b r=>
   obtain⟨g,aK,z,av,C,F⟩:=d.open;simp only[cd.br]at M;refine .m g aK (.hp (k9 t w B f jW) rfl (by rw[bn];exactλo v E=>J.l5 a.le (av o v E)) (.ag (.mk _ (WX N b I I B f jW aa (C.mono a.le)) ?_)));rintro _ ae ⟨q,u,c2,K,rfl,O,j⟩;refine .abs 199 3 D i c _ (a.row.mono q) (.ag (.c0 2 _ (k9 t w u f c2) rfl rfl (PC _ _ _ _ _) (by grind [eQ]) I λk y G=>.bl (.b5 2 199 3 k (i+1) y _ rfl λQ L P H=>.ag ⟨(i+1,k,y,p.snoc t w u f c2 K,r),rfl,rfl,⟨_,a.step q t w O.aHz L P H,F,I,?_⟩,aL⟩)));rw[cd.XV,j];exact he
  cases r with
  |nil=>
   have:=d.fin;subst this;refine .ag ⟨a.le,D,c,p,rfl,aC5 a,?_⟩;rw[<-he];exact(e3.SA _).symm
  |cons=>obtain⟨g,aK,z,_⟩:=d.open;omega
def xL:e3->Prop
 |.nil=>True
 |.cons t n b r=>1<=t/\(b.leaf=true->0<=n/\n<32)/\(b.leaf=false->n=0)/\xL b/\xL r
theorem xL.pos:∀{f:e3},xL f->o2 f
 |.nil,_=>trivial
 |.cons _ _ _ _,⟨a,_,_,b,c⟩=>⟨a,b.pos,c.pos⟩
theorem KK:∀f d k,xL f->k+vC f<=2048->d+pH f<=16->jo f d k=(0,k+vC f)
 |.nil,_,_,_,_,_=>rfl
 |.cons t n b r,d,k,⟨h1,ae,h,aT,c⟩,hk,a=>by
  simp only[vC,pH]at hk a⊢;cases al:b.leaf with
  |true=>
   rw[al]at hk a;simp only[pG]at hk a⊢;have e:∀hj,kK t n true d k hj=(0,k+1):=λhj=>by
    unfold kK
    grind
   simp only[jo,al,e];rw[aS trivial,KK r d (k+1) c I I]
   grind
  |false=>
   rw[al]at hk a;simp only[vw]at hk a⊢;have g:=TE (f:=b) al;have e:kK t n false d k (jo b (d+1) k)=(0,k+vC b):=by
    unfold kK;rw[aC I,aC I,aC I,aC bc,aC aL,KK b (d+1) k aT I I]
   simp only[jo,al,e];rw[aS trivial,KK r d _ c I I]
   grind
theorem KJ:∀f d k,xL f->k+vC f<=2048->d<=16->16<d+pH f->(jo f d k).1=161
 |.nil,_,_,_,_,h,ae=>by grind [pH]
 |.cons t n b r,d,k,⟨h1,ae,o,aT,g⟩,hk,c,a=>by
  simp only[vC,pH]at hk a⊢;cases al:b.leaf with
  |true=>
   rw[al]at hk a;simp only[pG]at hk a;have e:∀hj,kK t n true d k hj=(0,k+1):=λhj=>by
    unfold kK
    grind
   simp only[jo,al,e];rw[aS trivial];exact KJ r d (k+1) g I c I
  |false=>
   rw[al]at hk a;simp only[vw]at hk a;have m:=TE (f:=b) al;by_cases i:16<=d;have e:kK t n false d k (jo b (d+1) k)=(161,k):=by
    unfold kK
    grind
   simp[jo,al,e];by_cases j:d+1+pH b<=16;have e:kK t n false d k (jo b (d+1) k)=(0,k+vC b):=by
    unfold kK;rw[aC I,aC I,aC I,aC bc,aC aL,KK b (d+1) k aT I I]
   simp only[jo,al,e];rw[aS trivial];exact KJ r d _ g I c I;have l:=KJ b (d+1) k aT I I I;have e:kK t n false d k (jo b (d+1) k)=jo b (d+1) k:=by
    unfold kK
    grind
   simp[jo,al,e,l]
theorem apQ{f:e3}(h:xL f)(b:gn f<=2048):wZ f=if pH f<=16 then 0 else 161:=by
 have c:=TF f h.pos;unfold wZ;split;rename_i h1;split;rename_i a;rw[KK f 0 0 h I I]at h1;omega;rename_i a;exact KJ f 0 0 h I I I;rename_i h1;rw[aC I];split;rfl;rename_i a;rw[KJ f 0 0 h I I I]at h1;omega
def EB(x:jB):Prop:=1<=x.1/\(x.2.2.leaf=true->0<=x.2.1/\x.2.1<32)/\(x.2.2.leaf=false->x.2.1=0)/\xL x.2.2
theorem T1:∀l,xL (gA l)↔∀x∈l,EB x
 |[]=>⟨(λ_ x h=>by cases h),λ_=>trivial⟩
 |(t,n,b)::l=>by
  simp only[gA,xL,T1 l,ez,forall_eq_or_imp,EB]
  grind
theorem aBo l:(gA l).leaf=decide (l=[]):=by
 cases l with
 |nil=>rfl
 |cons x l=>rfl
theorem On a b:gS (gA (a++b))=gS (gA a)++gS (gA b):=by rw[ag6,acE]
theorem ai5{α:Type}(w:List α):∀k,w++rep k w=rep k w++w
 |0=>by simp[rep]
 |k+1=>by simp only[rep];rw[mg,<-ai5 w k]
theorem ua.jL{w:Nat}{l:List jB}{m:Nat}(r:ua w l m):∀o,o<=m->gS (gA (l.take (o*w)))=rep o (gS (gA (l.take w)))
 |0,_=>by simp[gA,gS,rep]
 |o+1,c=>by
  have b:=r.jL o I;have a:l.take ((o+1)*w)=l.take (o*w)++(l.drop (o*w)).take w:=by
   rw[A9,List.take_add]
  rw[a,On,b];simp only[rep];rw[ai5];congr 2;by_cases am:o=0;simp_all;rw[(r.ok o I I).2]
theorem W3{w:Nat}(hw:1<=w):∀N l,l.length<=N->gS (gA (jO w l))=gS (gA l)/\((∀x∈l,EB x)->∀x∈jO w l,EB x)
 |N,[],_=>⟨rfl,λh=>h⟩
 |0,x::l,h=>by simp at h
 |N+1,x::l,h=>by
  simp only[iJ]at h;have c:=Gw hw (x::l);by_cases h1:eF w (x::l)=1;rw[h1]at c;obtain⟨a,b⟩:=W3 hw N l I;rw[I9 hw c];refine⟨?_,λf y d=>?_⟩;have p:=On [x] (jO w l);have e:=On [x] l
  grind
  grind
  have ae:2<=eF w (x::l):=by have:=c.pos;omega
  obtain⟨m,hm⟩:∃m,m=eF w (x::l):=⟨_,rfl⟩;rw[<-hm]at c ae;have n:=c.room ae;have o:2*w<=m*w:=vn w ae;rw[Ml hw c ae];obtain⟨cC,j⟩:∃cC,cC=x::l:=⟨_,rfl⟩;rw[<-j]at c n⊢;have r:cC.length=l.length+1:=aL;obtain⟨a,b⟩:=W3 hw N (cC.drop (m*w)) aL;have i:cC.take w≠[]:=by
   intro q;simp_all
  have k:(gA (cC.take w)).leaf=false:=by rw[aBo,jn i]
  refine⟨?_,λf y d=>?_⟩;have e:gS (gA cC)=gS (gA (cC.take (m*w)))++gS (gA (cC.drop (m*w))):=by
   simp[<-On]
  rw[e,<-a,c.jL m (dM _)];simp[gA,gS,k];rcases ez.1 d with rfl|d;refine⟨I,(λq=>bc),(λ_=>rfl),(T1 _).2 λz g=>f z (Nl g)⟩
  grind
theorem Yp h:xY h none 0 0 .nil:=⟨rfl,λ_=>none,⟨rfl,bQ ⟨rfl,rfl,rfl⟩⟩,(λ_ e=>by cases e),(λ_ _ e=>by cases e),trivial⟩
theorem J.akb{h hk aa:J}(x:h.le hk):(aa.sub hk).le (aa.sub h):=J.PG (J.sub_le _ _) λ_ a=>J.none_le x (J.MK a)
variable {H h:J}
theorem PN(p:cd):p.br=oH p.bR.eL:=by unfold oH;rw[Ge,cd.TL]
theorem aDb(hw:1<=w){p:cd}(h:p.bR.eL=jO w l.bR.eL):p.br<=l.br:=by
 rw[PN,PN,h];exact(Gp hw _ _ (dM _)).1
def qv:List CO->cd
 |[]=>.nil
 |r::l=>.cons (r.2:Int) r.1 none 0 0 .nil (qv l)
def nO(l:List CO):List jB:=l.map λr=>((r.2:Int),r.1,e3.nil)
theorem V3:∀l,(qv l).bR.eL=nO l
 |[]=>rfl
 |r::l=>by simp only[qv,cd.bR,e3.eL,V3 l];rfl
theorem V2:∀l,(qv l).br=l.length
 |[]=>rfl
 |_::l=>by simp only[qv,cd.br,V2 l,iJ];omega
theorem agC h:∀l,wm xW h (qv l)
 |[]=>trivial
 |_::l=>⟨⟨rfl,bQ rfl⟩,agC h l⟩
theorem agD r:∀l,(qv (l++[r])).cl=(qv l).cl++[k9 (r.2:Int) r.1 none 0 0]
 |[]=>rfl
 |x::l=>by simp only[A2,qv,cd.cl,agD r l]
theorem QP{P:Int->Prop}:∀l,(∀r∈gI l,P r.1)↔(∀x∈l,P x)
 |[]=>by simp[gI]
 |x::l=>by
  have a:=QP (P:=P) l;simp only[gI];split;rename_i y k r b;rw[b]at a;simp only[ez,forall_eq_or_imp]at a⊢;rw[<-a];split;rename_i e;subst e;simp;simp;simp_all
def wV(x:Int):Prop:=x<0\/32<=x
instance (x:Int):Decidable (wV x):=inferInstanceAs (Decidable (_\/_))
def rB(l:List Int):Int×List jB:=if 2048<l.length then(2,[])else if∃x∈l,wV x then(100,[])else(0,comp (nO (gI l)))
theorem alO{k:Nat}{l au:List jB}(hw:1<=w)(hk:20*l.length+17<k+w)(b:o4 k w l=au)(av:w<=16/\2*w<=l.length):∃a,k=a+1/\((jO w l).length<l.length->o4 a 1 (jO w l)=au/\20*(jO w l).length+17<a+1)/\(¬(jO w l).length<l.length->o4 a (w+1) (jO w l)=au/\20*(jO w l).length+17<a+(w+1)):=by
 cases k with
 |zero=>omega
 |succ a=>
  have hp:=(Gp hw _ l (dM _)).2
  grind [o4]
theorem YU{k:Nat}{l au:List jB}(a:o4 k w l=au)(av:¬(w<=16/\2*w<=l.length)):l=au:=by
 cases k with
 |zero=>exact a
 |succ b=>grind [o4]
structure alN(ae:J)(c' ch cb:Nat)(au:List jB)(aa:J)(A:Option aE)(m c:Nat)(D:Option aE)(tf:Nat)(l:cd)(bA:List Nat)(M:dU)(w k:Nat):Prop where
 ea:jr aa c' ch cb M
 sat:kR (aa.off ch cb) A m l
 cw:m<=c
 dK:bg (aa.off ch cb) 1 D m ((j7 bA).map λz=>[R z])
 qc:m<=tf
 num:pA M bA l.bR.eL
 br:l.br<=2048
 gE:1<=w
 gT:w<=17
 kV:20*l.bR.eL.length+17<k+w
 eq:o4 k w l.bR.eL=au
 le:ae.le (aa.off ch cb)
 hA:M.hA+2048*k<=100000000
theorem ap4 l D n cap h(a7:bg h 1 D n (l.map λz=>[R z])):Fn aD 25 #[ab D n cap] h λv aa=>h.le aa/\∃bo bE bj cC,v=eA #[ab bo bE bj,R (rB l).1]/\xY (aa.sub h) bo bE bj cC/\cC.bR.eL=(rB l).2:=by
 have al:l.length=n:=by simpa using a7.len
 refine bU aza rfl (aW (λu=>?_) (λu=>?_));have d:rB l=(2,[]):=by unfold rB;grind
 refine .ag ⟨J.le_refl h,none,0,0,.nil,?_,Yp _,?_⟩;rw[d];rfl;rw[d];rfl;have aF:n<=2048:=I;refine .ag (.mk _ (aEV D n cap l h a7 I) ?_);rintro _ h1 ⟨vh,m1,c1,rfl,sG,j⟩;have j0:=QO l;have r8:=j.dK;refine .mb [] (Nat×Option aE×Nat) [4,15,16,17] (λ(i,E,a)=>[.v (ab E i a),.v (ab vh m1 c1),.v (R m1),.v (R i)]) (λ_=>[]) (λ(i,E,a) aa=>h1.le aa/\i<=m1/\bw aa 199 3 E i a (qv ((gI l).take i)).cl.flatten/\(∀g,E=some g->h1 g.block=none)/\∀r∈(gI l).take i,¬wV r.1) (λ(i,_,_)=>m1-i) (0,none,0) (λ_=>rfl) ⟨J.le_refl _,cU _,⟨rfl,bQ ⟨rfl,rfl,rfl⟩⟩,(λ_ e=>by cases e),(λr aq=>aL)⟩ rfl rfl rfl ?_;rintro⟨i,E,a⟩ e aa ⟨cP,Ia,j1,bf,e7⟩;have f:=Bp cP bf;refine .abs 199 3 E i a _ j1 (.ag (aW (λsZ=>?_) (λsZ=>?_)));have ai:i<(gI l).length:=I;obtain⟨r,aq⟩:∃r,r=(gI l)[i]:=⟨_,rfl⟩;have tB:((gI l).map Ap)[i]?=some (Ap r):=aL;have N:=r8.mono f;obtain⟨g,ak⟩:=N.b4 I;have bad:wV r.1->rB l=(100,[]):=λq=>by
  unfold rB;rw[aC I,aS];refine xH λyq=>?_;have:=(QP (P:=λx=>¬wV x) l).2 λx Z aj=>yq ⟨x,Z,aj⟩
  grind
 refine .m g ak (.hp (Ap r) rfl (by rw[bn];exact N.row ak tB) (aW (λjz=>?_) (λjz=>?_)));refine .ag ⟨J.le_trans j.le f,none,0,0,.nil,?_,Yp _,?_⟩;rw[bad (bQ jz)];rfl;rw[bad (bQ jz)];rfl;refine aW (λxC=>?_) (λxC=>?_);refine .ag ⟨J.le_trans j.le f,none,0,0,.nil,?_,Yp _,?_⟩;rw[bad (ba xC)];rfl;rw[bad (ba xC)];rfl;refine .ag (.c0 0 _ (k9 (r.2:Int) r.1 none 0 0) rfl rfl (PC _ _ _ _ _) (by grind [eQ]) I λhX nC KW=>.bl ?_);have Lt:(gI l).take (i+1)=(gI l).take i++[r]:=by simp_all
 refine .b5 0 199 3 hX (i+1) nC _ rfl λaT iI lQ f4=>.ag ⟨(i+1,hX,nC),rfl,rfl,⟨J.le_trans f iI,I,?_,λg e=>J.none_le f (f4 g e),λq o=>?_⟩,aL⟩;rw[Lt,agD,wy,amw];exact lQ;rw[Lt]at o;rcases eI.1 o with o|o
 grind
 rw[hZ.1 o];intro q;rcases q with q|q;omega;omega;have Q:i=(gI l).length:=I;rw[Q,rv]at j1 e7;have d:rB l=(0,comp (nO (gI l))):=by
  unfold rB;rw[aC I,aC];exactλ⟨x,Z,aj⟩=>(QP (P:=λx=>¬wV x) l).1 e7 x Z aj
 refine .b5 0 199 3 E i a _ rfl λae cG T f2=>.ag (.mk _ (asj ae) ?_);rw[Q,rv]at T;have Pw:h1.le ae:=J.le_trans f cG;have mu:kR ae E i (qv (gI l)):=by
  have:=bg.sat (l:=qv (gI l)) (A:=E) (n:=i) (by rw[Q];exact bw.dK T (qv (gI l)).Kv aH) (agC ae _);omega
 have auj:i<=a:=by rw[Q];exact QI T
 rintro _ ax ⟨c',ch,cb,rfl,kj,hG,_,_,_,lL⟩;have BC:(qv (gI l)).br<=2048:=by rw[V2];omega
 have ic:=mu.mono lL;refine .ag (.mk _ (aBK (cap:=a) kj ic I (by grind [dU.hA,dU.fresh])) ?_);rintro _ aT ⟨M,bA,G,apy,rfl,Cy,Ad,L,Y,f4,W,z4⟩;have z4:M.hA<=4096:=by
  have:dU.fresh.hA=0:=rfl;omega
 obtain⟨_,i2,i3⟩:=kj.Pe;have t4:=(bw.j7 Y).Qh (ch:=ch) (cb:=cb) λg e=>⟨λq=>i2 aL,λq=>i3 aL⟩;have H:ae.le (aT.off ch cb):=J.le_trans lL W;have X:=V3 (gI l);have ev:(qv (gI l)).bR.eL.length<=2048:=by rw[X];grind [nO]
 obtain⟨au,B⟩:∃au,au=comp (nO (gI l)):=⟨_,rfl⟩;have OH:o4 (20*(qv (gI l)).bR.eL.length+20) 1 (qv (gI l)).bR.eL=au:=by rw[B,X];rfl
 rw[<-B]at d;refine .mb [1] (Option aE×Nat×Nat×Option aE×Nat×cd×List Nat×dU×Nat×Nat) [7,8,9] (λ(_,_,_,_,_,_,_,_,w,_)=>[.v (iW c'),.p 0 0,.v (R w)]) (λ(A,m,c,D,U,_,_,_,_,_)=>[.own [.v (ab A m c),.v (ab D m U)] 203]) (λ(A,m,c,D,U,b,bA,M,w,k) aa=>alN ae c' ch cb au aa A m c D U b bA M w k) (λ(_,_,_,_,_,_,_,_,_,k)=>k) (E,i,a,G,apy,qv (gI l),bA,M,1,20*(qv (gI l)).bR.eL.length+20) (λ_=>rfl) ⟨Ad,ic.mono W,auj,t4,QI Y,L,BC,dM _,aH,I,OH,H,I⟩ rfl rfl rfl ?_;clear t4 Ad Y f4 L ic kj mu T f2 j1 e7 OH ev X BC i2 i3 z4 W lL H;rintro⟨A,m,c,D,U,b,bA,M,w,k⟩ e aa S;have BK:b.bR.eL.length=m:=by rw[Fd];exact S.sat.1.symm
 have aJI:m<=2048:=by have:=S.br;have:=b.Ac;have:=S.sat.1;omega
 have gE:=S.gE;have gT:=S.gT;refine .ag (aW (λv1=>?_) (λv1=>?_));refine .bl (aW (λv2=>?_) (λv2=>?_));obtain⟨hx,rfl,cS,a2⟩:=alO gE S.kV S.eq ⟨I,I⟩;have hA:=S.hA;refine .ag (.mk _ (ar8 S.ea S.sat S.cw S.dK S.qc S.num (by have:=S.br;omega) gE I I) ?_);rintro _ cr ⟨Zs,YZ,LI,s,Y6,t,V,K,rfl,F⟩;have auU:V.bR.eL.length=LI:=by rw[Fd];exact F.sat.1.symm
 have y:V.br<=2048:=Nat.le_trans (aDb gE F.eL) S.br;have aJV:=F.hA;have C:ae.le (cr.off ch cb):=J.le_trans S.le F.off;have aJw:(jO w b.bR.eL).length=LI:=by rw[<-F.eL,auU]
 refine aW (λv3=>?_) (λv3=>?_);obtain⟨bN,cB⟩:=cS I;refine .ag ⟨(YZ,LI,s,Y6,t,V,K,Zs,1,hx),rfl,rfl,⟨F.ea,F.sat,F.ce,F.dK,F.aaV,by rw[F.eL];exact F.num,y,dM _,aH,I,by grind [F.eL],C,I⟩,A8 _⟩;obtain⟨bN,cB⟩:=a2 I;refine .bl (.ag ⟨(YZ,LI,s,Y6,t,V,K,Zs,w+1,hx),rfl,rfl,⟨F.ea,F.sat,F.ce,F.dK,F.aaV,by rw[F.eL];exact F.num,y,I,I,I,by grind [F.eL],C,I⟩,A8 _⟩);have at0:=YU S.eq I;refine .ag (.mk _ (WX _ b (A8 _) (by have:=S.br;omega) A m c aa (S.sat.mono (J.Ah _ _ _))) ?_);rintro _ eX ⟨z8,bo,bj,cC,rfl,Rf,bf⟩;have O:h.le aa:=J.le_trans j.le (J.le_trans Pw (J.le_trans S.le (J.Ah _ _ _)));refine .ag ⟨J.le_trans O z8,bo,m,bj,cC,?_,Rf.mono (J.akb O),?_⟩;rw[d];rfl
 grind
 have at0:=YU S.eq I;refine .ag (.mk _ (WX _ b (A8 _) (by have:=S.br;omega) A m c aa (S.sat.mono (J.Ah _ _ _))) ?_);rintro _ eX ⟨z8,bo,bj,cC,rfl,Rf,bf⟩;have O:h.le aa:=J.le_trans j.le (J.le_trans Pw (J.le_trans S.le (J.Ah _ _ _)));refine .ag ⟨J.le_trans O z8,bo,m,bj,cC,?_,Rf.mono (J.akb O),?_⟩;rw[d];rfl
 grind
theorem NW:∀k w l,1<=w->oH (o4 k w l)<=oH l/\gS (gA (o4 k w l))=gS (gA l)/\((∀x∈l,EB x)->∀x∈o4 k w l,EB x)
 |0,_,_,_=>⟨dM _,rfl,λh=>h⟩
 |k+1,w,l,hw=>by
  unfold o4;split;obtain⟨a,_⟩:=Gp hw _ l (dM _);obtain⟨b,c⟩:=W3 hw _ l (dM _);split;obtain⟨x,y,z⟩:=NW k 1 (jO w l) (dM _)
  grind
  obtain⟨x,y,z⟩:=NW k (w+1) (jO w l) I
  grind
  simp
theorem agB l:oH (nO l)=l.length:=by
 rw[<-V3,<-PN,V2]
theorem ap0 l:oH (rB l).2<=2048:=by
 unfold rB;split;exact cU _;split;exact cU _;have h1:=(NW (20*(nO (gI l)).length+20) 1 (nO (gI l)) (dM _)).1;have ae:=QO l;have a:=agB (gI l);show oH (comp _)<=2048;unfold comp;omega
theorem aiu{w:Nat}(hw:1<=w):∀N l,l.length<=N->(jO w l).length=l.length->jO w l=l
 |_,[],_,_=>rfl
 |0,x::l,h,_=>by simp at h
 |N+1,x::l,h,he=>by
  simp only[iJ]at h;have a:=Gw hw (x::l);by_cases h1:eF w (x::l)=1;rw[h1]at a;rw[I9 hw a]at he⊢;simp only[iJ]at he;rw[aiu hw N l I I];have ae:2<=eF w (x::l):=by have:=a.pos;omega
  obtain⟨m,hm⟩:∃m,m=eF w (x::l):=⟨_,rfl⟩;rw[<-hm]at a ae;have c:=a.room ae;have b:2*w<=m*w:=vn w ae;rw[Ml hw a ae]at he;have av:=(Gp hw _ ((x::l).drop (m*w)) (dM _)).2
  grind
theorem aiv{w:Nat}(hw:1<=w):∀l,l.length<2*w->jO w l=l
 |[],_=>rfl
 |x::l,h=>by
  have a:ua w (x::l) 1:=⟨dM _,λo h1 ae=>I,λq=>by have:=q.1;omega⟩;simp only[iJ]at h;rw[I9 hw a,aiv hw l I]
theorem S4:∀k w l,1<=w->20*l.length+17<k+w->(∀v,1<=v->v<w->jO v l=l)->∀v,1<=v->v<=16->jO v (o4 k w l)=o4 k w l
 |0,w,l,_,hk,c,v,h1,ae=>c v h1 I
 |k+1,w,l,hw,hk,c,v,h1,ae=>by
  unfold o4;split;rename_i av;split;rename_i d;exact S4 k 1 _ (dM _) I (λv a b=>I) v h1 ae;rename_i d;have hp:=(Gp hw _ l (dM _)).2;have he:=aiu hw _ l (dM _) I;rw[he];refine S4 k (w+1) l I I (λv a b=>?_) v h1 ae
  grind
  rename_i av;by_cases e:v<w
  grind
  exact aiv h1 l I
theorem ap2 l:∀v,1<=v->v<=16->jO v (comp l)=comp l:=S4 _ 1 l (dM _) I (λv a b=>I)
def GX:e3->Prop
 |.nil=>True
 |.cons t _ b r=>1<=t/\(b.leaf=false->2<=t)/\GX b/\GX r
def Eu(x:jB):Prop:=1<=x.1/\(x.2.2.leaf=false->2<=x.1)/\GX x.2.2
theorem SJ:∀l,GX (gA l)↔∀x∈l,Eu x
 |[]=>⟨(λ_ x h=>by cases h),λ_=>trivial⟩
 |(t,n,b)::l=>by
  simp only[gA,GX,SJ l,ez,forall_eq_or_imp,Eu]
  grind
theorem S':∀f,GX f->f.leaf=false->2^pH f<=gn f
 |.nil,_,h=>by cases h
 |.cons t n b r,⟨h1,ae,a,aT⟩,_=>by
  have d:r.leaf=false->2^pH r<=gn r:=S' r aT;have e:2^pH r<=gn r+1:=by
   cases al:r.leaf with
   |true=>rw[agr al];simp[pH]
   |false=>grind
  obtain⟨T,rfl⟩:∃T:Nat,t=T:=⟨t.toNat,I⟩;simp only[pH,gn,bn];cases al:b.leaf with
  |true=>
   grind
  |false=>
   have c:=S' b a al;have ae:=ae al;simp only[vw];have hm:2*gn b<=T*gn b:=vn _ I;have hp:2^(pH b+1)=2*2^pH b:=I
   grind
theorem Qr{w:Nat}(hw:1<=w):∀N l,l.length<=N->(∀x∈l,Eu x)->∀x∈jO w l,Eu x
 |N,[],_,_=>λx h=>by cases h
 |0,x::l,h,_=>by simp at h
 |N+1,x::l,h,d=>by
  simp only[iJ]at h;have c:=Gw hw (x::l);by_cases h1:eF w (x::l)=1;rw[h1]at c;rw[I9 hw c];intro y a;rcases ez.1 a with rfl|a
  grind
  exact Qr hw N l I (λz b=>d z (List.mem_cons_of_mem _ b)) y a;have ae:2<=eF w (x::l):=by have:=c.pos;omega
  obtain⟨m,hm⟩:∃m,m=eF w (x::l):=⟨_,rfl⟩;rw[<-hm]at c ae;have e:2*w<=m*w:=vn w ae;rw[Ml hw c ae];intro y a;rcases ez.1 a with rfl|a;exact⟨I,λ_=>I,(SJ _).2 λz b=>d z (Nl b)⟩;exact Qr hw N _ aL (λz b=>d z (List.mem_of_mem_drop b)) y a
theorem S3:∀k w l,1<=w->(∀x∈l,Eu x)->∀x∈o4 k w l,Eu x
 |0,_,_,_,h=>h
 |k+1,w,l,hw,h=>by
  unfold o4;split;split;exact S3 k 1 _ (dM _) (Qr hw _ l (dM _) h);exact S3 k (w+1) _ I (Qr hw _ l (dM _) h);omega
theorem agE:∀l,gS (gA (nO (gI l)))=l
 |[]=>rfl
 |x::l=>by
  have a:=agE l;simp only[gI];split;rename_i y k r h;rw[h]at a;simp only[nO,er,gA,gS,e3.leaf,pG,bn]at a;split;simp_all[nO,gA,gS,e3.leaf,rep,a];simp only[nO,er,gA,gS,e3.leaf,pG,bn];rw[a];rfl;rename_i h;rw[h]at a;simp only[nO,y8,gA,gS]at a;rw[<-a];rfl
theorem ajp:∀l,∀r∈gI l,1<=r.2
 |[],_,h=>by cases h
 |x::l,r,h=>by
  have a:=ajp l;simp only[gI]at h
  grind
structure JB(l:List Int)(C:List jB):Prop where
 tr:xL (gA C)
 jL:gS (gA C)=l
 hF:pH (gA C)<=11
 fF:wZ (gA C)=0
 br:(gA C).br<=(gI l).length
 fix:∀v,1<=v->v<=16->jO v C=C
theorem JB.of{l:List Int}(al:l.length<=2048)(m:∀x∈l,¬wV x):JB l (comp (nO (gI l))):=by
 have h:∀x∈nO (gI l),EB x/\Eu x:=by
  intro x a;obtain⟨r,g,rfl⟩:=cO.1 a;have h1:=ajp l r g;have ae:=(QP l (P:=λx=>¬wV x)).2 m r g;unfold wV at ae;refine⟨⟨I,λ_=>⟨aL,aL⟩,(λq=>by cases q),trivial⟩,⟨I,(λq=>by cases q),trivial⟩⟩
 obtain⟨b,c,d⟩:=NW (20*(nO (gI l)).length+20) 1 (nO (gI l)) (dM _);have e:=S3 (20*(nO (gI l)).length+20) 1 (nO (gI l)) (dM _) λx a=>(h x a).2;have i:=ap2 (nO (gI l));have hC:o4 (20*(nO (gI l)).length+20) 1 (nO (gI l))=comp (nO (gI l)):=rfl;rw[hC]at b c d e;generalize comp (nO (gI l))=C at b c d e i;have f:=(T1 C).2 (d λx a=>(h x a).1);have ae:=(SJ C).2 e;have j:gS (gA C)=l:=c.trans (agE l);have p:gn (gA C)<=2048:=by rw[<-TG,j];exact al
 have o:pH (gA C)<=11:=by
  cases k:(gA C).leaf with
  |true=>rw[agr k];exact cU _
  |false=>
   have s:=S' _ ae k;rcases Nat.lt_or_ge 11 (pH (gA C))with aT|aT;have:=Nat.pow_le_pow_right (n:=2) aH (show 12<=pH (gA C)from aT);omega;omega
 refine⟨f,j,o,?_,?_,i⟩;rw[apQ f p,aS I];rw[agB]at b;exact b
theorem abp{a b:gu}{k:Nat}{w:bD} hk:wu aD (.index 9 a b) [.string s,R k] w (bC .u8 s[k].toNat) w:=by
 intro e q d c;simp only[He,er,y8,A1,and_true]at c;obtain⟨h1,ae⟩:=c;have hu:=hg (w:=w) CT;simp[dD,d,h1,ae,Instr.index,asIntOf,R,hu,hk]
theorem abr{a b c:gu}{k:Nat}{w:bD}(hk:k<=m)(hm:m<=s.size):wu aD (.slice 9 a (some b) (some c) none) [.string s,R k,R m] w (.string (s.extract k m)) w:=by
 intro g q e d;simp[He]at d;obtain⟨h1,ae,f⟩:=d;have hu:=hg (w:=w) CT;simp[dD,e,h1,ae,f,Instr.sliceAt,Instr.slice,Instr.sliceBounds,Instr.sliceBound,asIntOf,R,hu,hk,hm]
abbrev bv(b:UInt8):aA:=bC .u8 b.toNat
def F'(b:UInt8):Bool:=decide ((97:Int)<=b.toNat)&&decide ((b.toNat:Int)<=122)
def Ky(b:UInt8):Bool:=decide ((48:Int)<=b.toNat)&&decide ((b.toNat:Int)<=57)
def Is(b:UInt8):Bool:=F' b||Ky b||decide ((b.toNat:Int)=95)
theorem agA b h:Fn aD 202 #[bv b] h λv aa=>v=dh (F' b)/\aa=h:=by
 refine bU ayV rfl (aW (λh1=>?_) (λh1=>?_));refine .ag ⟨?_,rfl⟩;simp[F',h1,kL];refine .ag ⟨?_,rfl⟩;simp[F',h1,kL]
theorem aqn b h:Fn aD 217 #[bv b] h λv aa=>v=dh (Ky b)/\aa=h:=by
 refine bU ay2 rfl (aW (λh1=>?_) (λh1=>?_));refine .ag ⟨?_,rfl⟩;simp[Ky,h1,kL];refine .ag ⟨?_,rfl⟩;simp[Ky,h1,kL]
theorem avV b h:Fn aD 205 #[bv b] h λv aa=>v=dh (Is b)/\aa=h:=by
 refine bU ayY rfl (.ag (.mk _ (agA _ _) ?_));rintro _ _ ⟨rfl,rfl⟩;cases h1:F' b;refine .ag (.mk _ (aqn _ _) ?_);rintro _ _ ⟨rfl,rfl⟩;cases ae:Ky b;refine .ag ⟨?_,rfl⟩;simp[Is,h1,ae,kL];refine .ag ⟨?_,rfl⟩;simp[Is,h1,ae,kL];refine .ag ⟨?_,rfl⟩;simp[Is,h1,kL]
def zs(s:ByteArray)(k:Nat):Obj:=bb [.string s,R k].toArray 394 (0,0)
def C4(s:ByteArray)(k:Nat):UInt8:=if h:k<s.size then s[k]else 0
theorem aDf c s k h(av:h c=some (zs s k))(hk:k<=4611686018427387904):Fn aD 203 #[iW c,R 0] h λv aa=>v=bv (C4 s k)/\aa=h:=by
 refine bU ayW rfl (.hp (R k) (b1 av rfl) (.bl (.hp (.string s) (b1 av rfl) (aW (λh1=>?_) (λh1=>?_)))));refine .ag ⟨?_,rfl⟩;have:¬k<s.size:=I;simp[C4,this,kL];refine .hp (.string s) (b1 av rfl) (.hp (R k) (b1 av rfl) (.bl ?_));have a:k<s.size:=I;refine .ag (.mk (bv s[k]) (λw _=>?_) ?_);rw[show((k:Int)+0)=(k:Nat)from I];exact abp a;refine .ag ⟨?_,rfl⟩;simp[C4,a,kL]
theorem aBr c s k h(av:h c=some (zs s k)):Fn aD 216 #[iW c] h λv aa=>v=dh (decide ((k:Int)<s.size))/\aa=h:=by
 exact bU ay1 rfl (.hp (R k) (b1 av rfl) (.hp (.string s) (b1 av rfl) (.ag ⟨rfl,rfl⟩)))
theorem J.tT{U:Obj}(a:h b=some U):h.put b U=h:=by
 funext o;unfold J.put
 grind
def r7(s:ByteArray):Nat->Nat->Nat
 |0,k=>k
 |n+1,k=>if k<s.size/\Is (C4 s k)=true then r7 s n (k+1)else k
theorem ajg s:∀n k,k<=s.size->r7 s n k<=s.size/\k<=r7 s n k
 |0,k,hk=>⟨hk,dM _⟩
 |n+1,k,hk=>by
  rw[r7];split;rename_i h1;have:=ajg s n (k+1) h1.1;omega;omega
theorem aHO c s h(av:h c=some (zs s 0))(j:s.size<=4611686018427387904):Fn aD 204 #[iW c,.func (.func 205) #[] #[]] h λv aa=>v= .string (s.extract 0 (r7 s s.size 0))/\aa=h.put c (zs s (r7 s s.size 0)):=by
 refine bU ayX rfl (.hp (R (0:Nat)) (b1 av rfl) (.mk Nat [0,1,5] (λk=>[.v (iW c),.v (.func (.func 205) #[] #[]),.v (R 0)]) (λ_=>[]) (λk aa=>aa=h.put c (zs s k)/\k<=s.size/\r7 s (s.size-k) k=r7 s s.size 0) (λk=>s.size-k) 0 (λ_=>rfl) ⟨(J.tT av).symm,cU _,rfl⟩ rfl rfl ?_));rintro k e aa ⟨rfl,hk,f⟩;have a:(h.put c (zs s k)) c=some (zs s k):=J.b8 _ _ _;refine .mk _ (aBr c s k _ a) (λ_ _ d=>d.2▸J.le_refl _) ?_;rintro _ _ ⟨rfl,rfl⟩;by_cases h1:(k:Int)<s.size;rw[hr h1];have b:k<s.size:=I;refine .hp (.string s) (b1 a rfl) (.hp (R k) (b1 a rfl) (.ag (.mk (bv s[k]) (λw _=>abp b) (.mk _ (avV _ _) (λ_ _ d=>d.2▸J.le_refl _) ?_))));rintro _ _ ⟨rfl,rfl⟩;have l:C4 s k=s[k]:=by simp[C4,b]
 have g:s.size-k=(s.size- (k+1))+1:=I;cases ae:Is s[k];refine .hp (.string s) (b1 a rfl) ?_;refine .hp (R k) (b1 a rfl) ?_;refine .ag (.mk (.string (s.extract 0 k)) (λw _=>abr (cU _) hk) ?_);have:r7 s s.size 0=k:=by simp_all[<-f,g,r7]
 exact .ag ⟨by rw[this];rfl,by rw[this]⟩;refine .hp (R k) (b1 a rfl) ?_;refine .bl ?_;refine .hp c 1 394 [.string s,R k] [.string s,R ((k:Int)+1)] rfl a rfl ?_;refine⟨k+1,rfl,rfl,⟨by rw[J.tS];rfl,b,?_⟩,I⟩;rw[<-f,g,r7,aS ⟨b,aL⟩];rw[jn h1];refine .hp (.string s) (b1 a rfl) ?_;refine .hp (R k) (b1 a rfl) ?_;refine .ag (.mk (.string (s.extract 0 k)) (λw _=>abr (cU _) hk) ?_);have i:s.size-k=0:=I;have:r7 s s.size 0=k:=by rw[<-f,i];rfl
 exact .ag ⟨by rw[this];rfl,by rw[this]⟩
def DO(s:ByteArray):Bool:=F' (C4 s 0)&&decide (r7 s s.size 0=s.size)&&decide (s.size<=16)
theorem ahq s h(f:s.size<=4611686018427387904):Fn aD 184 #[.string s] h λv aa=>v=dh (DO s)/\h.le aa:=by
 refine bU ayK rfl (.mk λb a=>?_);have g:h.le (h.put b (zs s 0)):=J.d' a;have av:(h.put b (zs s 0)) b=some (zs s 0):=J.b8 _ _ _;refine .ag (.mk _ (aDf b s 0 _ av I) ?_);rintro _ _ ⟨rfl,rfl⟩;refine .ag (.mk _ (agA _ _) ?_);rintro _ _ ⟨rfl,rfl⟩;cases h1:F' (C4 s 0);exact .ag ⟨by simp[DO,h1,kL],g⟩;refine .ag (.mk _ (aHO b s _ av f) ?_);rintro _ _ ⟨rfl,rfl⟩;have hw:=(ajg s s.size 0 (cU _)).1;have d:(s.extract 0 (r7 s s.size 0)).size=r7 s s.size 0:=by simp_all
 conv=>whnf
 refine aW (λae=>?_) (λae=>?_);rw[d]at ae;have c:r7 s s.size 0=s.size:=I;refine .ag ⟨?_,by rw[J.tS];exact J.d' a⟩;simp[DO,h1,c,kL];omega;rw[d]at ae;have c:¬r7 s s.size 0=s.size:=λe=>ae (by rw[e]);refine .ag ⟨by simp[DO,h1,c,kL],?_⟩;rw[J.tS];exact J.d' a
def wD(h aa:J)(v:aA)(l:List Int):Prop:=∃A c,v=ab A l.length c/\bw aa 3 1 A l.length c (l.map R)/\∀g,A=some g->h g.block=none
theorem lO A n c l h(aK:bg h 1 A n (l.map λz=>[R z]))(i:n*8<=140737488355328):Fn aD 104 #[ab A n c] h λr aa=>h.le aa/\wD h aa r l:=by
 have al:l.length=n:=by simpa using aK.len
 refine bU axX rfl (.mk λb j=>.ag (.c0 1 _ _ rfl (aK.src _) (by rw[vD];exact Gh _) (by grind [eQ]) I λbo bj g=>.b5 1 3 1 bo (0+n) bj _ rfl λaa f d e=>?_));have a:bw aa 3 1 bo (0+n) bj (l.map λz=>[R z]).flatten:=d;rw[dZ,vD,<-al]at a;exact .ag ⟨f,bo,bj,by rw[dZ,al];rfl,a,e⟩
theorem va n m h:Fn aD 103 #[R n,R m] h λr aa=>r=dh (decide (1<=n/\n<=m))/\aa=h:=by
 refine bU axW rfl (aW (λh1=>?_) (λh1=>?_));exact .ag ⟨by simp[h1,kL],rfl⟩;exact .ag ⟨by simp[h1,kL],rfl⟩
theorem aEm{k:Nat}{a b:aA}(hk:k<n):over (bp k a++bp (n-k) b) (k*1) [a]=some (bp (k+1) a++bp (n- (k+1)) b):=by
 rw[io _ _ _ aL,e4,List.set_append_right _ _ bc,uc,Nat.sub_self,show n-k=(n- (k+1))+1 from I,List.replicate_succ,List.set_cons_zero,List.replicate_succ' (n:=k),mg];rfl
theorem QS(n:Nat) m h(i:n<=1000000):Fn aD 105 #[R n,R m] h λr aa=>h.le aa/\wD h aa r (bp n m):=by
 refine bU axY rfl (pw.one n (R 0) rfl rfl rfl rfl I I λg=>.mk Nat [1,5,10,11] (λk=>[.v (R m),.v (ab (some g) n n),.v (R n),.v (R k)]) (λk=>[.row 3 1 (some g) n n (bp k (R m)++bp (n-k) (R 0))]) (λk aa=>aa=h/\k<=n) (λk=>n-k) 0 (λ_=>rfl) ⟨rfl,cU _⟩ rfl rfl (λk e aa⟨rfl,hk⟩=>aW (λh1=>?_) (λh1=>?_)));refine .m g rfl ?_;have a:k<n:=I;exact .row 0 3 1 g n n _ (bp (k+1) (R m)++bp (n- (k+1)) (R 0)) (k*1) rfl dW (aEm a) (.bl (⟨k+1,rfl,rfl,⟨rfl,a⟩,I⟩));have b:k=n:=I;subst b;refine .b5 0 3 1 (some g) k k _ rfl λae f c d=>?_;have j:bw ae 3 1 (some g) k k (bp k (R m)++bp (k-k) (R 0)):=c;refine .ag ⟨f,some g,k,by simp[kL],?_,d⟩;simp_all
theorem wD.mono{am h aa d:J}{v:aA}{l:List Int}(x:wD h aa v l)(a:am.le h)(b:aa.le d):wD am d v l:=by
 obtain⟨A,c,e,r,f⟩:=x;exact⟨A,c,e,r.mono b,λg i=>J.none_le a (f g i)⟩
theorem lS(h:J) b(l:List Int):bg (h.put b (bb (l.map R).toArray 3 (0,0))) 1 (some ⟨b,0,none⟩) l.length (l.map λz=>[R z]):=bg.lit (J.b8 _ _ _) (vD l) (λr a=>aL) bc
theorem wD.nil h aa:wD h aa (ab none 0 0) []:=⟨none,0,rfl,⟨rfl,bQ ⟨rfl,rfl,rfl⟩⟩,λ_ e=>by cases e⟩
def b6(tag:Int)(l:List Int):Int×List Int×List Int:=
 if tag<1\/11<tag then(60,[],[])else
 let n:=l.getD 0 0
 let m:=l.getD 1 0
 let single:=l.length=1
 let pair:=l.length=2/\(1<=n/\n<=16)/\(1<=m/\m<=64)/\n*m<=64
 if tag=1/\(1<=(l.length:Int)/\(l.length:Int)<=16)\/tag=8/\l.length=0 then(0,[1],[1])
 else if tag=2/\single/\(1<=n/\n<=64)then(0,[1],[n])
 else if tag=3/\single/\(1<=n/\n<=64)then(0,[n],[1])
 else if tag=4/\pair then(0,bp n.toNat m,[n*m])
 else if tag=5/\pair then(0,[n*m],bp n.toNat m)
 else if tag=6/\single/\(1<=n/\n<=16)then(0,bp n.toNat 1,[1])
 else if tag=7/\l.length=0 then(0,[1,1],[1])
 else if tag=9/\single/\(1<=n/\n<=16)then(0,[1],bp n.toNat 1)
 else if tag=10/\l.length=2 then(0,[],[1])
 else if tag=11/\single/\(1<=n/\n<=64)then(0,[n],[])
 else(61,[],[])
def Kb(h:J)(x:Int×List Int×List Int)(v:aA)(aa:J):Prop:=∃a b,v=eA #[a,b,R x.1]/\h.le aa/\wD h aa a x.2.1/\wD h aa b x.2.2
theorem Kb.err{k:Int}:Kb h (k,[],[]) (eA #[ab none 0 0,ab none 0 0,R k]) h:=⟨_,_,rfl,J.le_refl _,.nil _ _,.nil _ _⟩
theorem IW tag A n c l h(aK:bg h 1 A n (l.map λz=>[R z]))(D:n*8<=140737488355328):Fn aD 45 #[bC .u8 tag,ab A n c] h (Kb h (b6 tag l)):=by
 have al:l.length=n:=by simpa using aK.len
 refine bU azv rfl ?_;conv=>whnf
 refine aW (λh1=>?_) (λh1=>?_);conv=>whnf
 rw[b6,aS (bQ h1)];exact .ag .err;conv=>whnf
 refine aW (λae=>?_) (λae=>?_);conv=>whnf
 rw[b6,aS (ba ae)];exact .ag .err;have u:tag=1\/tag=2\/tag=3\/tag=4\/tag=5\/tag=6\/tag=7\/tag=8\/tag=9\/tag=10\/tag=11:=I;subst al;rcases l with _|⟨x,_|⟨y,_|⟨z,l⟩⟩⟩;conv=>whnf
 rcases u with rfl|rfl|rfl|rfl|rfl|rfl|rfl|rfl|rfl|rfl|rfl;conv=>whnf
 refine .ag (.mk _ (va _ 16 _) ?_);rintro _ _ ⟨rfl,rfl⟩;conv=>whnf
 rw[show b6 1 []=(61,[],[])from aH];exact .ag .err;conv=>whnf
 rw[show b6 2 []=(61,[],[])from aH];exact .ag .err;conv=>whnf
 rw[show b6 3 []=(61,[],[])from aH];exact .ag .err;conv=>whnf
 rw[show b6 4 []=(61,[],[])from aH];exact .ag .err;conv=>whnf
 rw[show b6 5 []=(61,[],[])from aH];exact .ag .err;conv=>whnf
 rw[show b6 6 []=(61,[],[])from aH];exact .ag .err;conv=>whnf
 rw[show b6 7 []=(0,[1,1],[1])from aH];refine .mk λm o=>?_;conv=>whnf
 refine .ag (.mk _ (lO _ _ _ _ _ (lS _ m [1,1]) aH) (λj s⟨b,f⟩=>?_));have a:=J.d' (U:=bb (([1,1]:List Int).map R).toArray 3 (0,0)) o;conv=>whnf
 refine .mk λq r=>?_;conv=>whnf
 refine .ag (.mk _ (lO _ _ _ _ _ (lS _ q [1]) aH) (λa2 t⟨e,p⟩=>?_));have d:=J.d' (U:=bb (([1]:List Int).map R).toArray 3 (0,0)) r;conv=>whnf
 exact .ag ⟨j,a2,rfl,(J.le_trans a (J.le_trans b (J.le_trans d e))),f.mono a (J.le_trans d e),p.mono (J.le_trans a (J.le_trans b d)) (J.le_refl _)⟩;conv=>whnf
 rw[show b6 8 []=(0,[1],[1])from aH];refine .mk λm o=>?_;conv=>whnf
 refine .ag (.mk _ (lO _ _ _ _ _ (lS _ m [1]) aH) (λj s⟨b,f⟩=>?_));have a:=J.d' (U:=bb (([1]:List Int).map R).toArray 3 (0,0)) o;conv=>whnf
 refine .mk λq r=>?_;conv=>whnf
 refine .ag (.mk _ (lO _ _ _ _ _ (lS _ q [1]) aH) (λa2 t⟨e,p⟩=>?_));have d:=J.d' (U:=bb (([1]:List Int).map R).toArray 3 (0,0)) r;conv=>whnf
 exact .ag ⟨j,a2,rfl,(J.le_trans a (J.le_trans b (J.le_trans d e))),f.mono a (J.le_trans d e),p.mono (J.le_trans a (J.le_trans b d)) (J.le_refl _)⟩;conv=>whnf
 rw[show b6 9 []=(61,[],[])from aH];exact .ag .err;conv=>whnf
 rw[show b6 10 []=(61,[],[])from aH];exact .ag .err;conv=>whnf
 rw[show b6 11 []=(61,[],[])from aH];exact .ag .err;obtain⟨g,rfl⟩:=aK.b4 bc;conv=>whnf
 refine .mk g rfl bc bc ?_;conv=>whnf
 refine .hp (R x) (aK.one (i:=0) rfl rfl rfl) ?_;conv=>whnf
 rcases u with rfl|rfl|rfl|rfl|rfl|rfl|rfl|rfl|rfl|rfl|rfl;conv=>whnf
 refine .ag (.mk _ (va _ 16 _) ?_);rintro _ _ ⟨rfl,rfl⟩;conv=>whnf
 rw[show b6 1 [x]=(0,[1],[1])from dW];refine .mk λm o=>?_;conv=>whnf
 refine .ag (.mk _ (lO _ _ _ _ _ (lS _ m [1]) aH) (λj s⟨b,f⟩=>?_));have a:=J.d' (U:=bb (([1]:List Int).map R).toArray 3 (0,0)) o;conv=>whnf
 refine .mk λq r=>?_;conv=>whnf
 refine .ag (.mk _ (lO _ _ _ _ _ (lS _ q [1]) aH) (λa2 t⟨e,p⟩=>?_));have d:=J.d' (U:=bb (([1]:List Int).map R).toArray 3 (0,0)) r;conv=>whnf
 exact .ag ⟨j,a2,rfl,(J.le_trans a (J.le_trans b (J.le_trans d e))),f.mono a (J.le_trans d e),p.mono (J.le_trans a (J.le_trans b d)) (J.le_refl _)⟩;conv=>whnf
 refine .ag (.mk _ (va _ 64 _) ?_);rintro _ _ ⟨rfl,rfl⟩;by_cases hw:1<=x/\x<=64;rw[hr hw];conv=>whnf
 rw[show b6 2 [x]=(0,[1],[x])from by grind [b6]];refine .mk λm o=>?_;conv=>whnf
 refine .ag (.mk _ (lO _ _ _ _ _ (lS _ m [1]) aH) (λj s⟨b,f⟩=>?_));have a:=J.d' (U:=bb (([1]:List Int).map R).toArray 3 (0,0)) o;conv=>whnf
 refine .mk λq r=>?_;conv=>whnf
 refine .ag (.mk _ (lO _ _ _ _ _ (lS _ q [x]) aH) ?_);rintro a2 t ⟨e,p⟩;have d:=J.d' (U:=bb (([x]:List Int).map R).toArray 3 (0,0)) r;conv=>whnf
 exact .ag ⟨j,a2,rfl,(J.le_trans a (J.le_trans b (J.le_trans d e))),f.mono a (J.le_trans d e),p.mono (J.le_trans a (J.le_trans b d)) (J.le_refl _)⟩;rw[jn hw];conv=>whnf
 rw[show b6 2 [x]=(61,[],[])from by grind [b6]];exact .ag .err;conv=>whnf
 refine .ag (.mk _ (va _ 64 _) ?_);rintro _ _ ⟨rfl,rfl⟩;by_cases hw:1<=x/\x<=64;rw[hr hw];conv=>whnf
 rw[show b6 3 [x]=(0,[x],[1])from by grind [b6]];refine .mk λm o=>?_;conv=>whnf
 refine .ag (.mk _ (lO _ _ _ _ _ (lS _ m [x]) aH) (λj s⟨b,f⟩=>?_));have a:=J.d' (U:=bb (([x]:List Int).map R).toArray 3 (0,0)) o;conv=>whnf
 refine .mk λq r=>?_;conv=>whnf
 refine .ag (.mk _ (lO _ _ _ _ _ (lS _ q [1]) aH) ?_);rintro a2 t ⟨e,p⟩;have d:=J.d' (U:=bb (([1]:List Int).map R).toArray 3 (0,0)) r;conv=>whnf
 exact .ag ⟨j,a2,rfl,(J.le_trans a (J.le_trans b (J.le_trans d e))),f.mono a (J.le_trans d e),p.mono (J.le_trans a (J.le_trans b d)) (J.le_refl _)⟩;rw[jn hw];conv=>whnf
 rw[show b6 3 [x]=(61,[],[])from by grind [b6]];exact .ag .err;conv=>whnf
 rw[show b6 4 [x]=(61,[],[])from dW];exact .ag .err;conv=>whnf
 rw[show b6 5 [x]=(61,[],[])from dW];exact .ag .err;conv=>whnf
 refine .ag (.mk _ (va _ 16 _) ?_);rintro _ _ ⟨rfl,rfl⟩;by_cases hw:1<=x/\x<=16;rw[hr hw];conv=>whnf
 obtain⟨k,rfl⟩:∃k:Nat,x=k:=⟨x.toNat,I⟩;rw[show b6 6 [(k:Int)]=(0,bp k 1,[1])from by grind [b6]];refine .ag (.mk _ (QS k 1 _ I) (λj s⟨b,f⟩=>?_));conv=>whnf
 refine .mk λq r=>?_;conv=>whnf
 refine .ag (.mk _ (lO _ _ _ _ _ (lS _ q [1]) aH) ?_);rintro a2 t ⟨e,p⟩;have d:=J.d' (U:=bb (([1]:List Int).map R).toArray 3 (0,0)) r;conv=>whnf
 exact .ag ⟨j,a2,rfl,(J.le_trans b (J.le_trans d e)),f.mono (J.le_refl _) (J.le_trans d e),p.mono (J.le_trans b d) (J.le_refl _)⟩;rw[jn hw];conv=>whnf
 rw[show b6 6 [x]=(61,[],[])from by grind [b6]];exact .ag .err;conv=>whnf
 rw[show b6 7 [x]=(61,[],[])from dW];exact .ag .err;conv=>whnf
 rw[show b6 8 [x]=(61,[],[])from dW];exact .ag .err;conv=>whnf
 refine .ag (.mk _ (va _ 16 _) ?_);rintro _ _ ⟨rfl,rfl⟩;by_cases hw:1<=x/\x<=16;rw[hr hw];conv=>whnf
 obtain⟨k,rfl⟩:∃k:Nat,x=k:=⟨x.toNat,I⟩;rw[show b6 9 [(k:Int)]=(0,[1],bp k 1)from by grind [b6]];refine .mk λm o=>?_;conv=>whnf
 refine .ag (.mk _ (lO _ _ _ _ _ (lS _ m [1]) aH) (λj s⟨b,f⟩=>?_));have a:=J.d' (U:=bb (([1]:List Int).map R).toArray 3 (0,0)) o;conv=>whnf
 refine .ag (.mk _ (QS k 1 _ I) ?_);rintro a2 t ⟨e,p⟩;conv=>whnf
 exact .ag ⟨j,a2,rfl,(J.le_trans a (J.le_trans b e)),f.mono a e,p.mono (J.le_trans a b) (J.le_refl _)⟩;rw[jn hw];conv=>whnf
 rw[show b6 9 [x]=(61,[],[])from by grind [b6]];exact .ag .err;conv=>whnf
 rw[show b6 10 [x]=(61,[],[])from dW];exact .ag .err;conv=>whnf
 refine .ag (.mk _ (va _ 64 _) ?_);rintro _ _ ⟨rfl,rfl⟩;by_cases hw:1<=x/\x<=64;rw[hr hw];conv=>whnf
 rw[show b6 11 [x]=(0,[x],[])from by grind [b6]];refine .mk λm o=>?_;conv=>whnf
 refine .ag (.mk _ (lO _ _ _ _ _ (lS _ m [x]) aH) ?_);rintro j s ⟨b,f⟩;have a:=J.d' (U:=bb (([x]:List Int).map R).toArray 3 (0,0)) o;conv=>whnf
 exact .ag ⟨j,_,rfl,(J.le_trans a b),f.mono a (J.le_refl _),.nil _ _⟩;rw[jn hw];conv=>whnf
 rw[show b6 11 [x]=(61,[],[])from by grind [b6]];exact .ag .err;obtain⟨g,rfl⟩:=aK.b4 bc;conv=>whnf
 refine .mk g rfl bc bc ?_;conv=>whnf
 refine .hp (R x) (aK.one (i:=0) rfl rfl rfl) ?_;conv=>whnf
 refine .mk g rfl bc bc ?_;conv=>whnf
 refine .hp (R y) (aK.one (i:=1) rfl rfl rfl) ?_;conv=>whnf
 refine .ag (.mk _ (va x 16 _) ?_);rintro _ _ ⟨rfl,rfl⟩;by_cases v:1<=x/\x<=16;rw[hr v];conv=>whnf
 refine .ag (.mk _ (va y 64 _) ?_);rintro _ _ ⟨rfl,rfl⟩;by_cases w:1<=y/\y<=64;rw[hr w];have F:x*y<=16*64/\0<=x*y:=⟨Int.mul_le_mul v.2 w.2 I I,Int.mul_nonneg I I⟩;conv=>whnf
 refine .bl ?_;conv=>whnf
 by_cases B:x*y<=64;rw[hr B];rcases u with rfl|rfl|rfl|rfl|rfl|rfl|rfl|rfl|rfl|rfl|rfl;conv=>whnf
 refine .ag (.mk _ (va _ 16 _) ?_);rintro _ _ ⟨rfl,rfl⟩;conv=>whnf
 rw[show b6 1 [x,y]=(0,[1],[1])from dW];refine .mk λm o=>?_;conv=>whnf
 refine .ag (.mk _ (lO _ _ _ _ _ (lS _ m [1]) aH) (λj s⟨b,f⟩=>?_));have a:=J.d' (U:=bb (([1]:List Int).map R).toArray 3 (0,0)) o;conv=>whnf
 refine .mk λq r=>?_;conv=>whnf
 refine .ag (.mk _ (lO _ _ _ _ _ (lS _ q [1]) aH) (λa2 t⟨e,p⟩=>?_));have d:=J.d' (U:=bb (([1]:List Int).map R).toArray 3 (0,0)) r;conv=>whnf
 exact .ag ⟨j,a2,rfl,(J.le_trans a (J.le_trans b (J.le_trans d e))),f.mono a (J.le_trans d e),p.mono (J.le_trans a (J.le_trans b d)) (J.le_refl _)⟩;conv=>whnf
 rw[show b6 2 [x,y]=(61,[],[])from dW];exact .ag .err;conv=>whnf
 rw[show b6 3 [x,y]=(61,[],[])from dW];exact .ag .err;conv=>whnf
 obtain⟨k,rfl⟩:∃k:Nat,x=k:=⟨x.toNat,I⟩;rw[show b6 4 [(k:Int),y]=(0,bp k y,[(k:Int)*y])from by grind [b6]];refine .ag (.mk _ (QS k y _ I) (λj s⟨b,f⟩=>?_));conv=>whnf
 refine .bl ?_;conv=>whnf
 refine .mk λq r=>?_;conv=>whnf
 refine .ag (.mk _ (lO _ _ _ _ _ (lS _ q [(k:Int)*y]) aH) (λa2 t⟨e,p⟩=>?_));have d:=J.d' (U:=bb (([(k:Int)*y]:List Int).map R).toArray 3 (0,0)) r;conv=>whnf
 exact .ag ⟨j,a2,rfl,(J.le_trans b (J.le_trans d e)),f.mono (J.le_refl _) (J.le_trans d e),p.mono (J.le_trans b d) (J.le_refl _)⟩;conv=>whnf
 obtain⟨k,rfl⟩:∃k:Nat,x=k:=⟨x.toNat,I⟩;rw[show b6 5 [(k:Int),y]=(0,[(k:Int)*y],bp k y)from by grind [b6]];refine .bl ?_;conv=>whnf
 refine .mk λm o=>?_;conv=>whnf
 refine .ag (.mk _ (lO _ _ _ _ _ (lS _ m [(k:Int)*y]) aH) (λj s⟨b,f⟩=>?_));have a:=J.d' (U:=bb (([(k:Int)*y]:List Int).map R).toArray 3 (0,0)) o;conv=>whnf
 refine .ag (.mk _ (QS k y _ I) (λa2 t⟨e,p⟩=>?_));conv=>whnf
 exact .ag ⟨j,a2,rfl,(J.le_trans a (J.le_trans b e)),f.mono a e,p.mono (J.le_trans a b) (J.le_refl _)⟩;conv=>whnf
 rw[show b6 6 [x,y]=(61,[],[])from dW];exact .ag .err;conv=>whnf
 rw[show b6 7 [x,y]=(61,[],[])from dW];exact .ag .err;conv=>whnf
 rw[show b6 8 [x,y]=(61,[],[])from dW];exact .ag .err;conv=>whnf
 rw[show b6 9 [x,y]=(61,[],[])from dW];exact .ag .err;conv=>whnf
 rw[show b6 10 [x,y]=(0,[],[1])from dW];refine .mk λm o=>?_;conv=>whnf
 refine .ag (.mk _ (lO _ _ _ _ _ (lS _ m [1]) aH) (λj s⟨b,f⟩=>?_));have a:=J.d' (U:=bb (([1]:List Int).map R).toArray 3 (0,0)) o;conv=>whnf
 exact .ag ⟨_,j,rfl,(J.le_trans a b),.nil _ _,f.mono a (J.le_refl _)⟩;conv=>whnf
 rw[show b6 11 [x,y]=(61,[],[])from dW];exact .ag .err;rw[jn B];rcases u with rfl|rfl|rfl|rfl|rfl|rfl|rfl|rfl|rfl|rfl|rfl;conv=>whnf
 refine .ag (.mk _ (va _ 16 _) ?_);rintro _ _ ⟨rfl,rfl⟩;conv=>whnf
 rw[show b6 1 [x,y]=(0,[1],[1])from dW];refine .mk λm o=>?_;conv=>whnf
 refine .ag (.mk _ (lO _ _ _ _ _ (lS _ m [1]) aH) (λj s⟨b,f⟩=>?_));have a:=J.d' (U:=bb (([1]:List Int).map R).toArray 3 (0,0)) o;conv=>whnf
 refine .mk λq r=>?_;conv=>whnf
 refine .ag (.mk _ (lO _ _ _ _ _ (lS _ q [1]) aH) (λa2 t⟨e,p⟩=>?_));have d:=J.d' (U:=bb (([1]:List Int).map R).toArray 3 (0,0)) r;conv=>whnf
 exact .ag ⟨j,a2,rfl,(J.le_trans a (J.le_trans b (J.le_trans d e))),f.mono a (J.le_trans d e),p.mono (J.le_trans a (J.le_trans b d)) (J.le_refl _)⟩;conv=>whnf
 rw[show b6 2 [x,y]=(61,[],[])from dW];exact .ag .err;conv=>whnf
 rw[show b6 3 [x,y]=(61,[],[])from dW];exact .ag .err;conv=>whnf
 rw[show b6 4 [x,y]=(61,[],[])from by grind [b6]];exact .ag .err;conv=>whnf
 rw[show b6 5 [x,y]=(61,[],[])from by grind [b6]];exact .ag .err;conv=>whnf
 rw[show b6 6 [x,y]=(61,[],[])from dW];exact .ag .err;conv=>whnf
 rw[show b6 7 [x,y]=(61,[],[])from dW];exact .ag .err;conv=>whnf
 rw[show b6 8 [x,y]=(61,[],[])from dW];exact .ag .err;conv=>whnf
 rw[show b6 9 [x,y]=(61,[],[])from dW];exact .ag .err;conv=>whnf
 rw[show b6 10 [x,y]=(0,[],[1])from dW];refine .mk λm o=>?_;conv=>whnf
 refine .ag (.mk _ (lO _ _ _ _ _ (lS _ m [1]) aH) ?_);rintro j s ⟨b,f⟩;have a:=J.d' (U:=bb (([1]:List Int).map R).toArray 3 (0,0)) o;conv=>whnf
 exact .ag ⟨_,j,rfl,(J.le_trans a b),.nil _ _,f.mono a (J.le_refl _)⟩;conv=>whnf
 rw[show b6 11 [x,y]=(61,[],[])from dW];exact .ag .err;rw[jn w];conv=>whnf
 rcases u with rfl|rfl|rfl|rfl|rfl|rfl|rfl|rfl|rfl|rfl|rfl;conv=>whnf
 refine .ag (.mk _ (va _ 16 _) ?_);rintro _ _ ⟨rfl,rfl⟩;conv=>whnf
 rw[show b6 1 [x,y]=(0,[1],[1])from dW];refine .mk λm o=>?_;conv=>whnf
 refine .ag (.mk _ (lO _ _ _ _ _ (lS _ m [1]) aH) (λj s⟨b,f⟩=>?_));have a:=J.d' (U:=bb (([1]:List Int).map R).toArray 3 (0,0)) o;conv=>whnf
 refine .mk λq r=>?_;conv=>whnf
 refine .ag (.mk _ (lO _ _ _ _ _ (lS _ q [1]) aH) (λa2 t⟨e,p⟩=>?_));have d:=J.d' (U:=bb (([1]:List Int).map R).toArray 3 (0,0)) r;conv=>whnf
 exact .ag ⟨j,a2,rfl,(J.le_trans a (J.le_trans b (J.le_trans d e))),f.mono a (J.le_trans d e),p.mono (J.le_trans a (J.le_trans b d)) (J.le_refl _)⟩;conv=>whnf
 rw[show b6 2 [x,y]=(61,[],[])from dW];exact .ag .err;conv=>whnf
 rw[show b6 3 [x,y]=(61,[],[])from dW];exact .ag .err;conv=>whnf
 rw[show b6 4 [x,y]=(61,[],[])from by grind [b6]];exact .ag .err;conv=>whnf
 rw[show b6 5 [x,y]=(61,[],[])from by grind [b6]];exact .ag .err;conv=>whnf
 rw[show b6 6 [x,y]=(61,[],[])from dW];exact .ag .err;conv=>whnf
 rw[show b6 7 [x,y]=(61,[],[])from dW];exact .ag .err;conv=>whnf
 rw[show b6 8 [x,y]=(61,[],[])from dW];exact .ag .err;conv=>whnf
 rw[show b6 9 [x,y]=(61,[],[])from dW];exact .ag .err;conv=>whnf
 rw[show b6 10 [x,y]=(0,[],[1])from dW];refine .mk λm o=>?_;conv=>whnf
 refine .ag (.mk _ (lO _ _ _ _ _ (lS _ m [1]) aH) ?_);rintro j s ⟨b,f⟩;have a:=J.d' (U:=bb (([1]:List Int).map R).toArray 3 (0,0)) o;conv=>whnf
 exact .ag ⟨_,j,rfl,(J.le_trans a b),.nil _ _,f.mono a (J.le_refl _)⟩;conv=>whnf
 rw[show b6 11 [x,y]=(61,[],[])from dW];exact .ag .err;rw[jn v];conv=>whnf
 rcases u with rfl|rfl|rfl|rfl|rfl|rfl|rfl|rfl|rfl|rfl|rfl;conv=>whnf
 refine .ag (.mk _ (va _ 16 _) ?_);rintro _ _ ⟨rfl,rfl⟩;conv=>whnf
 rw[show b6 1 [x,y]=(0,[1],[1])from dW];refine .mk λm o=>?_;conv=>whnf
 refine .ag (.mk _ (lO _ _ _ _ _ (lS _ m [1]) aH) (λj s⟨b,f⟩=>?_));have a:=J.d' (U:=bb (([1]:List Int).map R).toArray 3 (0,0)) o;conv=>whnf
 refine .mk λq r=>?_;conv=>whnf
 refine .ag (.mk _ (lO _ _ _ _ _ (lS _ q [1]) aH) (λa2 t⟨e,p⟩=>?_));have d:=J.d' (U:=bb (([1]:List Int).map R).toArray 3 (0,0)) r;conv=>whnf
 exact .ag ⟨j,a2,rfl,(J.le_trans a (J.le_trans b (J.le_trans d e))),f.mono a (J.le_trans d e),p.mono (J.le_trans a (J.le_trans b d)) (J.le_refl _)⟩;conv=>whnf
 rw[show b6 2 [x,y]=(61,[],[])from dW];exact .ag .err;conv=>whnf
 rw[show b6 3 [x,y]=(61,[],[])from dW];exact .ag .err;conv=>whnf
 rw[show b6 4 [x,y]=(61,[],[])from by grind [b6]];exact .ag .err;conv=>whnf
 rw[show b6 5 [x,y]=(61,[],[])from by grind [b6]];exact .ag .err;conv=>whnf
 rw[show b6 6 [x,y]=(61,[],[])from dW];exact .ag .err;conv=>whnf
 rw[show b6 7 [x,y]=(61,[],[])from dW];exact .ag .err;conv=>whnf
 rw[show b6 8 [x,y]=(61,[],[])from dW];exact .ag .err;conv=>whnf
 rw[show b6 9 [x,y]=(61,[],[])from dW];exact .ag .err;conv=>whnf
 rw[show b6 10 [x,y]=(0,[],[1])from dW];refine .mk λm o=>?_;conv=>whnf
 refine .ag (.mk _ (lO _ _ _ _ _ (lS _ m [1]) aH) (λj s⟨b,f⟩=>?_));have a:=J.d' (U:=bb (([1]:List Int).map R).toArray 3 (0,0)) o;conv=>whnf
 exact .ag ⟨_,j,rfl,(J.le_trans a b),.nil _ _,f.mono a (J.le_refl _)⟩;conv=>whnf
 rw[show b6 11 [x,y]=(61,[],[])from dW];exact .ag .err;obtain⟨g,rfl⟩:=aK.b4 bc;have E:(x::y::z::l).length=l.length+3:=rfl;conv=>whnf
 refine aW (λC=>?_) (λC=>I);conv=>whnf
 refine .mk g rfl aH I ?_;conv=>whnf
 refine .hp (R x) (aK.one (i:=0) rfl rfl rfl) ?_;conv=>whnf
 refine aW (λaT=>?_) (λaT=>I);conv=>whnf
 refine .mk g rfl aH I ?_;conv=>whnf
 refine .hp (R y) (aK.one (i:=1) rfl rfl rfl) ?_;conv=>whnf
 rcases u with rfl|rfl|rfl|rfl|rfl|rfl|rfl|rfl|rfl|rfl|rfl;conv=>whnf
 refine .ag (.mk _ (va _ 16 _) ?_);rintro _ _ ⟨rfl,rfl⟩;by_cases hw:(1:Int)<=(((x::y::z::l).length:Nat):Int)/\(((x::y::z::l).length:Nat):Int)<=16;rw[hr hw];conv=>whnf
 rw[show b6 1 (x::y::z::l)=(0,[1],[1])from by grind [b6]];refine .mk λm o=>?_;conv=>whnf
 refine .ag (.mk _ (lO _ _ _ _ _ (lS _ m [1]) aH) (λj s⟨b,f⟩=>?_));have a:=J.d' (U:=bb (([1]:List Int).map R).toArray 3 (0,0)) o;conv=>whnf
 refine .mk λq r=>?_;conv=>whnf
 refine .ag (.mk _ (lO _ _ _ _ _ (lS _ q [1]) aH) ?_);rintro a2 t ⟨e,p⟩;have d:=J.d' (U:=bb (([1]:List Int).map R).toArray 3 (0,0)) r;conv=>whnf
 exact .ag ⟨j,a2,rfl,(J.le_trans a (J.le_trans b (J.le_trans d e))),f.mono a (J.le_trans d e),p.mono (J.le_trans a (J.le_trans b d)) (J.le_refl _)⟩;rw[jn hw];conv=>whnf
 rw[show b6 1 (x::y::z::l)=(61,[],[])from by grind [b6]];exact .ag .err;conv=>whnf
 rw[show b6 2 (x::y::z::l)=(61,[],[])from dW];exact .ag .err;conv=>whnf
 rw[show b6 3 (x::y::z::l)=(61,[],[])from dW];exact .ag .err;conv=>whnf
 rw[show b6 4 (x::y::z::l)=(61,[],[])from dW];exact .ag .err;conv=>whnf
 rw[show b6 5 (x::y::z::l)=(61,[],[])from dW];exact .ag .err;conv=>whnf
 rw[show b6 6 (x::y::z::l)=(61,[],[])from dW];exact .ag .err;conv=>whnf
 rw[show b6 7 (x::y::z::l)=(61,[],[])from dW];exact .ag .err;conv=>whnf
 rw[show b6 8 (x::y::z::l)=(61,[],[])from dW];exact .ag .err;conv=>whnf
 rw[show b6 9 (x::y::z::l)=(61,[],[])from dW];exact .ag .err;conv=>whnf
 rw[show b6 10 (x::y::z::l)=(61,[],[])from dW];exact .ag .err;conv=>whnf
 rw[show b6 11 (x::y::z::l)=(61,[],[])from dW];exact .ag .err
def Jh(p:ByteArray×Nat):MapEntry:={key:=.string p.1,val:=R 1,born:=p.2}
def tN(bA:List ByteArray):Obj:=.map (bA.zipIdx.map Jh).toArray bA.length
theorem aaD(a b:ByteArray):(a==b)=decide (a=b):=by
 have h1:(a==b)=(a.data==b.data):=rfl;rw[h1];by_cases e:a=b;subst e;simp;rw[jn e];have:a.data≠b.data:=λh=>e (aIq h);simpa using this
theorem acx s:∀(l:List (ByteArray×Nat)) i,∃r,ED .string (.string s) (l.map Jh) i=some r/\((r=none/\s∉l.map hE)\/∃o,r=some (o,R 1)/\s∈l.map hE)
 |[],i=>⟨none,rfl,bQ ⟨rfl,bc⟩⟩
 |p::l,i=>by
  simp only[er,ED,Jh,Instr.sameNow];by_cases e:s=p.1;have:(s==p.1)=true:=by rw[aaD,hr e]
  rw[this];exact⟨_,rfl,ba ⟨_,rfl,by simp[e]⟩⟩;have:(s==p.1)=false:=by rw[aaD,jn e]
  rw[this];obtain⟨r,h1,ae⟩:=acx s l (i+1);refine⟨r,h1,?_⟩;rcases ae with⟨b,a⟩|⟨o,b,a⟩;exact bQ ⟨b,by simp only[ez,not_or];exact⟨e,a⟩⟩;exact ba ⟨o,b,by simp only[ez];exact ba a⟩
theorem zip_fst(bA:List ByteArray):bA.zipIdx.map hE=bA:=bc
theorem acv s(bA:List ByteArray) w:∃r,(EC 9 (.string s) (bA.zipIdx.map Jh)).run aD w= .ok r w/\((r=none/\s∉bA)\/∃o,r=some (o,R 1)/\s∈bA):=by
 obtain⟨r,h1,ae⟩:=acx s bA.zipIdx 0;rw[zip_fst]at ae;refine⟨r,?_,ae⟩;have hu:=hg (w:=w) CT;simp[EC,hu,h1]
theorem aaY em s w:(sc em 10000 9 (.string s)).run aD w= .ok () w:=by
 have:∀d,(sc em (d+1) 9 (.string s)).run aD w= .ok () w:=λd=>by simp[sc,hg CT]
 exact this 9999
def Ft(bA:List ByteArray)(s:ByteArray):Bool:=bA.any λt=>decide (t=s)
theorem Um{bA:List ByteArray}:Ft bA s=true↔s∈bA:=by simp[Ft]
theorem aqp{a b:gu}{bA:List ByteArray}{w:bD}(hm:w.heap[m]?=some (tN bA)):wu aD (.lookup 331 a b false) [.map (some m),.string s] w (R (if Ft bA s=true then 1 else 0)) w:=by
 intro i q g d;simp[He]at d;obtain⟨h1,ae⟩:=d;have hu:=hg (w:=w) aod;obtain⟨r,f1,f2⟩:=acv s bA w;have hk:=aaY (bA.zipIdx.map Jh).toArray.isEmpty s w;have h:(Fi m).run aD w= .ok (tN bA) w:=by simp[Fi,CP,hm,tN]
 simp only[dD,g,h1,ae,Instr.lookup,iT,hu,jc,h,tN,l3,hk,f1];rcases f2 with⟨rfl,c⟩|⟨o,rfl,c⟩;rw[aC (λe=>c (Um.1 e))];have f:M6 aD 3=some (R 0):=fl;simp[alx f];rw[aS (Um.2 c)];simp[R]
theorem aqq{a b:gu}{bA:List ByteArray}{w:bD}(hm:w.heap[m]?=some (tN bA))(g:s∉bA):∀d q,q.op= .mapUpdate 331 a b (.const (bC .i64 1))->(He (.mapUpdate 331 a b (.const (bC .i64 1)))).toList.map d=[.map (some m),.string s,bC .i64 1]->(dD d q).run aD w= .ok .skip {w with heap:=w.heap.setIfInBounds m (tN (bA++[s]))}:=by
 intro d q f e;simp[He]at e;obtain⟨h1,ae,j⟩:=e;have hu:=hg (w:=w) aod;obtain⟨r,f1,f2⟩:=acv s bA w;have hk:=aaY false s w;have i:(Fi m).run aD w= .ok (tN bA) w:=by simp[Fi,CP,hm,tN]
 have k:∀c,(setObj m c).run aD w= .ok () {w with heap:=w.heap.setIfInBounds m c}:=λc=>by simp[setObj,CP,hm,tN]
 rcases f2 with⟨rfl,_⟩|⟨o,rfl,h⟩;simp only[dD,f,h1,ae,j,Instr.mapUpdate,iT,hu,jc,i,tN,l3,hk,f1,k];rw[show(⟨.string s,bC .i64 1,bA.length⟩:MapEntry)=Jh (s,bA.length)from rfl];simp[List.zipIdx_append];exact absurd h g
def pS(bA:List ByteArray)(s:ByteArray):Int:=if DO s=false then 82 else if Ft bA s=true then 83 else 0
def Ae(e:Int)(bA:List ByteArray)(s:ByteArray):List ByteArray:=if e=0 then bA++[s]else bA
theorem Wo c m(cs:List aA) bA s h(av:h c=some (bb cs.toArray 334 (0,0)))(i:cs[5]?=some (.map (some m)))(hm:h m=some (tN bA))(k:s.size<=4611686018427387904):Fn aD 185 #[iW c,.string s] h λv aa=>v=R (pS bA s)/\∃h1,h.le h1/\aa=h1.put m (tN (Ae (pS bA s) bA s)):=by
 refine bU ayL rfl (.ag (.mk _ (ahq s _ k) ?_));rintro _ h1 ⟨rfl,a⟩;have j:=a _ _ av;have d:=a _ _ hm;cases f:DO s;refine .ag ⟨by rw[pS,aS f];rfl,h1,a,?_⟩;rw[pS,aS f];exact(J.tT d).symm;refine .hp _ (b1 j i) ?_;refine .ag (.mk _ (λw hw=>aqp (bA:=bA) (hw _ _ d)) ?_);refine aW (λae=>?_) (λae=>?_);have g:Ft bA s=true:=by
  by_cases e:Ft bA s=true;exact e;rw[aC e]at ae;omega
 have b:pS bA s=83:=by rw[pS,aC (by simp[f]),aS g]
 refine .ag ⟨by rw[b];rfl,h1,a,?_⟩;rw[b];exact(J.tT d).symm;have g:¬Ft bA s=true:=by
  intro e;rw[aS e]at ae;omega
 have b:pS bA s=0:=by rw[pS,aC (by simp[f]),aC g]
 refine .hp _ (b1 j i) (.ag (.ajR m _ _ d (λw hw=>aqq (hw _ _ d) λe=>g (Um.2 e)) (.ag ⟨by rw[b];rfl,h1,a,?_⟩)));rw[b];rfl
theorem ar4(l:List aA):(l.map λv=>[v]).flatten=l:=by
 induction l with
 |nil=>rfl
 |cons a l b=>rw[er,List.flatten_cons,b];rfl
theorem bw.e2{l:List aA}(x:bw h bF 1 A n c l):bg h 1 A n (l.map λv=>[v]):=bw.dK (by rw[ar4];exact x) (λr a=>by obtain⟨v,_,rfl⟩:=cO.1 a;rfl) aH
def zn(r:List Bool):Obj:=bb (r.map dh).toArray 4 (0,0)
def ow(p:Nat×List Bool):aA:=ab (some ⟨p.1,0,none⟩) p.2.length p.2.length
structure Kc(h:J)(A:Option aE)(c:Nat)(rs:List (Nat×List Bool)):Prop where
 out:bw h 193 1 A rs.length c (rs.map ow)
 hv:∀p∈rs,h p.1=some (zn p.2)
theorem Kc.row(x:Kc h A c rs){g:aE}(b:A=some g){i:Nat} a:h.cell? (g.add (i*1))=some (ow rs[i]):=x.out.e2.one b (i:=i) (by rw[de,de,bK a];rfl) rfl
def ri(rs:List (Nat×List Bool))(a p:Int):Int:=
 if a<0\/(rs.length:Int)<=a then 84 else
 if p<0\/((rs.getD a.toNat (0,[])).2.length:Int)<=p then 85 else
 if(rs.getD a.toNat (0,[])).2.getD p.toNat false=true then 86 else 0
def oU(rs:List (Nat×List Bool))(a p:Nat):List (Nat×List Bool):=rs.set a ((rs.getD a (0,[])).1,(rs.getD a (0,[])).2.set p true)
def rh(h:J)(rs:List (Nat×List Bool))(a p:Int):J:=if ri rs a p=0 then h.put (rs.getD a.toNat (0,[])).1 (zn ((rs.getD a.toNat (0,[])).2.set p.toNat true))else h
theorem Q7 A c rs a p h(x:Kc h A c rs):Fn aD 186 #[ab A rs.length c,R a,R p] h λv aa=>v=R (ri rs a p)/\aa=rh h rs a p:=by
 refine bU ayM rfl ?_;have d:(a<0\/(rs.length:Int)<=a)->ri rs a p=84:=λe=>by rw[ri,aS e]
 refine aW (λh1=>?_) (λh1=>?_);exact .ag ⟨by rw[d (bQ h1)];rfl,by simp[rh,d (bQ h1)]⟩;refine aW (λae=>?_) (λae=>?_);exact .ag ⟨by rw[d (ba ae)];rfl,by simp[rh,d (ba ae)]⟩;obtain⟨i,rfl⟩:∃i:Nat,a=i:=⟨a.toNat,I⟩;have l:i<rs.length:=I;have o:rs.getD (i:Int).toNat (0,[])=rs[i]:=by simp[cc,bK l]
 have f:(p<0\/(rs[i].2.length:Int)<=p)->ri rs i p=85:=λe=>by rw[ri,aC I,o,aS e]
 obtain⟨g,j⟩:=x.out.e2.b4 I;have n:=x.row j l;refine aW (λq=>?_) (λq=>?_);exact .ag ⟨by rw[f (bQ q)];rfl,by simp[rh,f (bQ q)]⟩;refine .m g j ?_;refine .hp _ (by rw[bn];exact n) ?_;refine aW (λaT=>?_) (λaT=>?_);exact .ag ⟨by rw[f (ba aT)];rfl,by simp[rh,f (ba aT)]⟩;obtain⟨k,rfl⟩:∃k:Nat,p=k:=⟨p.toNat,I⟩;have hk:k<rs[i].2.length:=I;have s:=x.hv rs[i] (b3 l);have u:rs[i].2.getD (k:Int).toNat false=rs[i].2[k]:=by simp[cc,bK hk]
 have b:ri rs i k=if rs[i].2[k]=true then 86 else 0:=by rw[ri,aC I,o,aC I,u]
 have w:h.cell? ((Addr.mk rs[i].1 0 none).add (k*1))=some (dh rs[i].2[k]):=by
  rw[add_lit,dZ,e4];exact b1 s (by rw[de,bK hk];rfl)
 refine .m g j ?_;refine .hp _ (by rw[bn];exact n) ?_;refine .r ?_;refine .hp _ (by rw[bn];exact w) ?_;cases t:rs[i].2[k];rw[t]at b;refine .m g j ?_;refine .hp _ (by rw[bn];exact n) ?_;refine .r ?_;refine .hp rs[i].1 (k*1) 4 (rs[i].2.map dh) ((rs[i].2.set k true).map dh) (by rw[add_lit,dZ,bn]) s (by rw[io _ _ _ (by simp;omega),kB,e4]) ?_;refine .ag ⟨by rw[b];rfl,?_⟩;rw[rh,b,o];simp[zn];rw[t]at b;exact .ag ⟨by rw[b];rfl,by rw[rh,b];simp⟩
structure hh where
 ea:ByteArray
 tag:Int
 A:Option aE
 n:Nat
 c:Nat
 a8:List Int
def hh.cells(a:hh):List aA:=[.string a.ea,bC .u8 a.tag,ab a.A a.n a.c]
structure hh.ok(h:J)(a:hh):Prop where
 dK:bg h 1 a.A a.n (a.a8.map λz=>[R z])
 n8:a.n*8<=140737488355328
 hA:a.ea.size<=4611686018427387904
structure GE where
 src:Int
 sp:Int
 dst:Int
 hF:Int
 A:Option aE
 n:Nat
 c:Nat
 st:List Int
def GE.cells(a:GE):List aA:=[R a.src,R a.sp,R a.dst,R a.hF,ab a.A a.n a.c]
structure GE.ok(h:J)(a:GE):Prop where
 dK:bg h 1 a.A a.n (a.st.map λz=>[R z])
 n8:a.n*8<=140737488355328
structure kO where
 ea:ByteArray
 act:Int
 port:Int
def kO.cells(a:kO):List aA:=[.string a.ea,R a.act,R a.port]
structure dd where
 ea:ByteArray
 h2:Option aE
 ac:Nat
 aY:List hh
 c8:Option aE
 b0:Nat
 aP:List GE
 eg:Option aE
 cf:Nat
 ins:List kO
 cn:Option aE
 bT:Nat
 outs:List kO
variable {g:dd}
def dd.cells(g:dd):List aA:=[.string g.ea,ab g.h2 g.aY.length g.ac,ab g.c8 g.aP.length g.b0,ab g.eg g.ins.length g.cf,ab g.cn g.outs.length g.bT]
structure dd.ok(h:J)(g:dd):Prop where
 ea:g.ea.size<=4611686018427387904
 aY:bg h 3 g.h2 g.aY.length (g.aY.map hh.cells)
 act:∀a∈g.aY,a.ok h
 aP:bg h 5 g.c8 g.aP.length (g.aP.map GE.cells)
 nD:∀a∈g.aP,a.ok h
 ins:bg h 3 g.eg g.ins.length (g.ins.map kO.cells)
 ae6:∀a∈g.ins,a.ea.size<=4611686018427387904
 outs:bg h 3 g.cn g.outs.length (g.outs.map kO.cells)
 aii:∀a∈g.outs,a.ea.size<=4611686018427387904
theorem dd.ok.mono{h aa:J}{g:dd}(x:g.ok h)(le:h.le aa):g.ok aa:=⟨x.ea,x.aY.mono le,λa b=>⟨(x.act a b).dK.mono le,(x.act a b).n8,(x.act a b).hA⟩,x.aP.mono le,λa b=>⟨(x.nD a b).dK.mono le,(x.nD a b).n8⟩,x.ins.mono le,x.ae6,x.outs.mono le,x.aii⟩
def ux(g:dd):Int:=
 if DO g.ea=false then 82 else if g.aY.length=0 then 80 else if 32<g.aY.length then 81 else if 96<g.aP.length then 81 else if 16<g.ins.length then 81 else if 16<g.outs.length then 81 else 0
def Bm(g:dd)(m:Nat)(b7 O:aA):List aA:=g.cells++[.map (some m),b7,O]
def GF(a b c:Int):aA:=.agg #[bC .u8 a,R b,R c]
theorem atW c m g b7 O h(av:h c=some (bb (Bm g m b7 O).toArray 334 (0,0)))(ok:g.ok h):Fn aD 143 #[iW c] h λv aa=>h.le aa/\∃s1 s2 l,v=eA #[R (ux g),GF s1 s2 l]:=by
 refine bU ayr rfl ?_;refine .hp g.cells rfl (λo v d=>?_) ?_;simp only[add_lit,dZ];exact b1 av (by rw[Bm,List.getElem?_append_left (List.getElem?_eq_some_iff.1 d).1];exact d);refine .ag (.mk _ (ahq _ _ ok.ea) ?_);rintro _ h1 ⟨rfl,b⟩;cases a:DO g.ea;exact .ag ⟨b,_,_,_,by rw[ux,aS a];rfl⟩;refine aW (λf=>?_) (λf=>?_);exact .ag ⟨b,_,_,_,by rw[ux,aC (by simp[a]),aS I];rfl⟩;refine aW (λe=>?_) (λe=>?_);exact .ag ⟨b,_,_,_,by rw[ux,aC (by simp[a]),aC I,aS I];rfl⟩;refine aW (λi=>?_) (λi=>?_);exact .ag ⟨b,_,_,_,by rw[ux,aC (by simp[a]),aC I,aC I,aS I];rfl⟩;refine aW (λj=>?_) (λj=>?_);exact .ag ⟨b,_,_,_,by rw[ux,aC (by simp[a]),aC I,aC I,aC I,aS I];rfl⟩;refine aW (λk=>?_) (λk=>?_);exact .ag ⟨b,_,_,_,by rw[ux,aC (by simp[a]),aC I,aC I,aC I,aC I,aS I];rfl⟩;exact .ag ⟨b,_,_,_,by rw[ux,aC (by simp[a]),aC I,aC I,aC I,aC I,aC I];rfl⟩
def ey(c m:Nat)(a6 ro:List (Nat×List Bool)):List Nat:=c::m::(a6.map hE++ro.map hE)
structure lB(am h:J)(c m:Nat)(g:dd)(bA:List ByteArray)(b7 O:aA)(a6 ro:List (Nat×List Bool)):Prop where
 le:am.le h
 head:h c=some (bb (Bm g m b7 O).toArray 334 (0,0))
 map:h m=some (tN bA)
 hv:∀p∈a6++ro,h p.1=some (zn p.2)
 dE:(ey c m a6 ro).Nodup
 new:∀b∈ey c m a6 ro,am b=none
structure lY(am h:J)(c m:Nat)(g:dd)(bA:List ByteArray)(hY:Option aE)(cf:Nat)(a6:List (Nat×List Bool))(hD:Option aE)(bT:Nat)(ro:List (Nat×List Bool)):Prop where
 core:lB am h c m g bA (ab hY a6.length cf) (ab hD ro.length bT) a6 ro
 lx:bw h 193 1 hY a6.length cf (a6.map ow)
 Gt:bw h 193 1 hD ro.length bT (ro.map ow)
 Df:∀g,hY=some g->g.block∉ey c m a6 ro/\am g.block=none
 Dg:∀g,hD=some g->g.block∉ey c m a6 ro/\am g.block=none
 JK:∀g bq,hY=some g->hD=some bq->g.block≠bq.block
section
variable {am h aa:J}{c m cf bT:Nat}{g:dd}{bA q':List ByteArray}{b7 O:aA}{hY hD:Option aE}{a6 ro:List (Nat×List Bool)}
theorem J.kx{k:Nat}{U:Obj}(e:k≠b):h.put b U k=h k:=by simp[J.put,e]
theorem B2{U:Obj}(le:am.le h)(e:am b=none):am.le (h.put b U):=λo c a=>by
 have:o≠b:=λq=>by rw[q,e]at a;cases a
 rw[J.kx this];exact le _ _ a
theorem lB.mono(x:lB am h c m g bA b7 O a6 ro)(le:h.le aa):lB am aa c m g bA b7 O a6 ro:=⟨J.le_trans x.le le,le _ _ x.head,le _ _ x.map,λp hp=>le _ _ (x.hv p hp),x.dE,x.new⟩
theorem lB.uj(x:lB am h c m g bA b7 O a6 ro):c≠m/\(∀p∈a6++ro,p.1≠c/\p.1≠m):=by
 have a:=x.dE;simp only[ey,jb,ez,eI,not_or]at a;obtain⟨⟨c1,c2⟩,b,_⟩:=a;refine⟨c1,λp hp=>⟨λe=>?_,λe=>?_⟩⟩;rcases eI.1 hp with q|q;exact c2.1 (by rw[<-e];exact cO.2 ⟨p,q,rfl⟩);exact c2.2 (by rw[<-e];exact cO.2 ⟨p,q,rfl⟩);rcases eI.1 hp with q|q;exact b.1 (by rw[<-e];exact cO.2 ⟨p,q,rfl⟩);exact b.2 (by rw[<-e];exact cO.2 ⟨p,q,rfl⟩)
theorem lB.names(x:lB am h c m g bA b7 O a6 ro):lB am (h.put m (tN q')) c m g q' b7 O a6 ro:=by
 obtain⟨c1,c2⟩:=x.uj;exact⟨B2 x.le (x.new m (by simp[ey])),by rw[J.kx c1];exact x.head,J.b8 _ _ _,λp hp=>by rw[J.kx (c2 p hp).2];exact x.hv p hp,x.dE,x.new⟩
theorem lB.ar{Nf Nu:aA}(x:lB am h c m g bA b7 O a6 ro):lB am (h.put c (bb (Bm g m Nf Nu).toArray 334 (0,0))) c m g bA Nf Nu a6 ro:=by
 obtain⟨c1,c2⟩:=x.uj;exact⟨B2 x.le (x.new c (by simp[ey])),J.b8 _ _ _,by rw[J.kx (eh c1)];exact x.map,λp hp=>by rw[J.kx (c2 p hp).1];exact x.hv p hp,x.dE,x.new⟩
theorem abi(le:am.le h)(f:∀g,A=some g->am g.block=none):am.le (en h A):=by
 cases A with
 |none=>exact le
 |some g=>
  intro o U a;have:o≠g.block:=λe=>by rw[e,f g rfl]at a;cases a
  simp only[en,J.del];rw[aC this];exact le _ _ a
theorem aqk{o:Nat}(f:∀g,A=some g->g.block≠o):en h A o=h o:=by
 cases A with
 |none=>rfl
 |some g=>simp only[en,J.del];rw[aC (eh (f g rfl))]
theorem lB.del(x:lB am h c m g bA b7 O a6 ro)(f:∀g,A=some g->g.block∉ey c m a6 ro/\am g.block=none):lB am (en h A) c m g bA b7 O a6 ro:=by
 have ne:∀o∈ey c m a6 ro,en h A o=h o:=λo b=>aqk λg a e=>(f g a).1 (by rw[e];exact b);refine⟨abi x.le λg a=>(f g a).2,by rw[ne c (by simp[ey])];exact x.head,by rw[ne m (by simp[ey])];exact x.map,λp hp=>?_,x.dE,x.new⟩;rw[ne p.1];exact x.hv p hp;rcases eI.1 hp with q|q;simp only[ey,ez,eI];exact ba (ba (bQ (cO.2 ⟨p,q,rfl⟩)));simp only[ey,ez,eI];exact ba (ba (ba (cO.2 ⟨p,q,rfl⟩)))
theorem lB.gH(x:lB am h c m g bA b7 O a6 ro):∀o∈ey c m a6 ro,h o≠none:=by
 intro o a;simp only[ey,ez,eI,cO]at a;rcases a with rfl|rfl|⟨p,hp,rfl⟩|⟨p,hp,rfl⟩;rw[x.head];simp;rw[x.map];simp;rw[x.hv p (by simp[hp])];simp;rw[x.hv p (by simp[hp])];simp
theorem ai9{b:aE}(r:bw h 4 1 (some b) n n (bp n (dh false))):b=⟨b.block,0,none⟩/\h b.block=some (zn (bp n false)):=by
 obtain⟨_,r⟩:=r;rcases r with⟨e,_⟩|⟨k,a,e,d,_,_,f,c⟩;cases e;injection e with e;subst e;refine⟨rfl,?_⟩;rw[d,zn];have:a=(List.map dh (bp n false)).toArray:=by
  rw[<-Array.toArray_toList (xs:=a)];congr 1;rw[mJ (by simp[f])]at c;rw[c];simp
 rw[this]
theorem lB.aoU{r:List Bool}(x:lB am h c m g bA b7 O a6 ro)(le:h.le aa)(d:h b=none)(f:aa b=some (zn r)):lB am aa c m g bA b7 O (a6++[(b,r)]) ro:=by
 have e:b∉ey c m a6 ro:=λa=>x.gH b a d;have perm:(ey c m (a6++[(b,r)]) ro).Perm (b::ey c m a6 ro):=by
  simp only[ey,fw,er,y8,mg];have h1:(a6.map hE++([b]++ro.map hE)).Perm (b::(a6.map hE++ro.map hE)):=List.perm_middle;exact((h1.cons m).cons c).trans (((RS b m _).cons c).trans (RS b c _))
 have y:=x.mono le;refine⟨y.le,y.head,y.map,λp hp=>?_,?_,λo a=>?_⟩;rcases eI.1 hp with q|q;rcases eI.1 q with q|q;exact y.hv p (by simp[q]);simp only[hZ]at q;subst q;exact f;exact y.hv p (by simp[q]);exact perm.nodup_iff.2 (jb.2 ⟨e,x.dE⟩);rcases ez.1 (perm.mem_iff.1 a)with q|q;subst q;exact J.none_le x.le d;exact x.new o q
theorem lB.aoW{r:List Bool}(x:lB am h c m g bA b7 O a6 ro)(le:h.le aa)(d:h b=none)(f:aa b=some (zn r)):lB am aa c m g bA b7 O a6 (ro++[(b,r)]):=by
 have e:b∉ey c m a6 ro:=λa=>x.gH b a d;have perm:(ey c m a6 (ro++[(b,r)])).Perm (b::ey c m a6 ro):=by
  simp only[ey,fw,er,y8,<-mg];have h1:(a6.map hE++ro.map hE++[b]).Perm (b::(a6.map hE++ro.map hE)):=List.perm_append_comm;exact((h1.cons m).cons c).trans (((RS b m _).cons c).trans (RS b c _))
 have y:=x.mono le;refine⟨y.le,y.head,y.map,λp hp=>?_,?_,λo a=>?_⟩;rcases eI.1 hp with q|q;exact y.hv p (by simp[q]);rcases eI.1 q with q|q;exact y.hv p (by simp[q]);simp only[hZ]at q;subst q;exact f;exact perm.nodup_iff.2 (jb.2 ⟨e,x.dE⟩);rcases ez.1 (perm.mem_iff.1 a)with q|q;subst q;exact J.none_le x.le d;exact x.new o q
end
def wR:List ByteArray->List hh->Int
 |_,[]=>0
 |bA,a::l=>if pS bA a.ea≠0 then pS bA a.ea else if(b6 a.tag a.a8).1≠0 then(b6 a.tag a.a8).1 else wR (bA++[a.ea]) l
def DI(a:hh):List Bool:=bp (b6 a.tag a.a8).2.1.length false
def DW(a:hh):List Bool:=bp (b6 a.tag a.a8).2.2.length false
def ER(x:Int×List Int×List Int):Prop:=x.2.1.length<=16/\x.2.2.length<=16
theorem ER.ite{p:Prop}[Decidable p]{a b:Int×List Int×List Int}(c:p->ER a)(d:¬p->ER b):ER (if p then a else b):=by
 by_cases h:p;rw[aS h];exact c h;rw[aC h];exact d h
theorem Cl tag l:ER (b6 tag l):=by
 have lit:∀(e:Int)(a b:List Int),a.length<=16->b.length<=16->ER (e,a,b):=λe a b h1 ae=>⟨h1,ae⟩;unfold b6;dsimp only;exact .ite (λ_=>lit _ _ _ bc bc) λ_=>.ite (λ_=>lit _ _ _ bc bc) λ_=>.ite (λ_=>lit _ _ _ bc bc) λ_=>.ite (λ_=>lit _ _ _ bc bc) λ_=>.ite (λh=>lit _ _ _ (by simp only[uc];omega) bc) λ_=>.ite (λh=>lit _ _ _ bc (by simp only[uc];omega)) λ_=>.ite (λh=>lit _ _ _ (by simp only[uc];omega) bc) λ_=>.ite (λ_=>lit _ _ _ bc bc) λ_=>.ite (λh=>lit _ _ _ bc (by simp only[uc];omega)) λ_=>.ite (λ_=>lit _ _ _ bc bc) λ_=>.ite (λ_=>lit _ _ _ bc bc) λ_=>lit _ _ _ bc bc
structure Rz(am h:J)(c m:Nat)(g:dd)(k:Nat)(hY:Option aE)(cf:Nat)(a6:List (Nat×List Bool))(hD:Option aE)(bT:Nat)(ro:List (Nat×List Bool)):Prop where
 fF:lY am h c m g ((g.aY.take k).map hh.ea) hY cf a6 hD bT ro
 a6:a6.map dV=(g.aY.take k).map DI
 ro:ro.map dV=(g.aY.take k).map DW
theorem aoQ c m g am h(V:Rz am h c m g 0 none 0 [] none 0 [])(ok:g.ok am)(aF:g.aY.length<=32):Fn aD 144 #[iW c] h λv aa=>∃s1 s2 ic,v=eA #[R (wR [] g.aY),GF s1 s2 ic]/\am.le aa/\(wR [] g.aY=0->∃hY cf a6 hD bT ro,Rz am aa c m g g.aY.length hY cf a6 hD bT ro):=by
 refine bU ays rfl (.hp _ (b1 V.fF.core.head (o:=1) rfl) (.mb [0] (Nat×Option aE×Nat×List (Nat×List Bool)×Option aE×Nat×List (Nat×List Bool)) [0,3,13,14,15] (λ(k,_)=>[.v (iW c),.p 0 0,.v (ab g.h2 g.aY.length g.ac),.v (R g.aY.length),.v (R k)]) (λ_=>[.own [.v (bC .u8 0),.v (R 0),.v (R 0)] 253]) (λ(k,hY,cf,a6,hD,bT,ro) aa=>Rz am aa c m g k hY cf a6 hD bT ro/\k<=g.aY.length/\wR ((g.aY.take k).map hh.ea) (g.aY.drop k)=wR [] g.aY) (λ(k,_)=>g.aY.length-k) (0,none,0,[],none,0,[]) (λ_=>rfl) ⟨V,cU _,rfl⟩ rfl rfl rfl (λ⟨k,hY,cf,a6,hD,bT,ro⟩ e h1⟨x,hk,a⟩=>?_)));by_cases f:k<g.aY.length;have jW:=(x.fF.core.del x.fF.Df).del x.fF.Dg;refine .abs 193 1 hY a6.length cf _ x.fF.lx (.abs 193 1 hD ro.length bT _ (x.fF.Gt.del λg n F G L=>x.fF.JK n g G F L.symm) (.ag ?_));generalize en (en h1 hY) hD=hH at jW⊢;refine aW (λE=>?_) (λE=>I);have xq:=ok.mono jW.le;obtain⟨g',X⟩:=ok.aY.b4 I;have xp:=xq.act _ (b3 f);refine .m g' X (.hp (g.aY[k]).cells rfl (by rw[bn];exact xq.aY.row X (jx f)) (.ag (.mk _ (Wo c m _ _ (g.aY[k]).ea hH jW.head rfl jW.map xp.hA) ?_)));rintro _ _ ⟨rfl,ae,cj,rfl⟩;have A:=(jW.mono cj).names (q':=Ae (pS ((g.aY.take k).map hh.ea) g.aY[k].ea) ((g.aY.take k).map hh.ea) g.aY[k].ea);have ar:g.aY.drop k=g.aY[k]::g.aY.drop (k+1):=l1 f;rw[ar,wR]at a;refine aW (λr=>?_) (λr=>?_);rw[aC (by simpa using r)]at a;have vA:Ae (pS ((g.aY.take k).map hh.ea) g.aY[k].ea) ((g.aY.take k).map hh.ea) g.aY[k].ea=(g.aY.take k).map hh.ea++[g.aY[k].ea]:=by rw[r,Ae,aS rfl]
 rw[vA]at A⊢;refine .ag (.mk _ (IW _ _ _ _ (g.aY[k]).a8 _ ((ok.act _ (b3 f)).dK.mono A.le) xp.n8) ?_);rintro _ ax ⟨_,_,rfl,d7,⟨jA,c1,rfl,U,f1⟩,⟨dT,c2,rfl,T,f2⟩⟩;have N:=A.mono d7;refine .hp _ (b1 N.head (o:=6) rfl) ?_;have Q:=Cl g.aY[k].tag g.aY[k].a8;have j0:a6.length=k:=by have:=eu fv x.a6;simp at this;omega
 have q3:ro.length=k:=by have:=eu fv x.ro;simp at this;omega
 generalize dy:b6 g.aY[k].tag g.aY[k].a8=S at Q a U T⊢;obtain⟨Z,li,b⟩:=S;simp only[ER]at Q a U T⊢;refine pw.one li.length (dh false) rfl rfl rfl rfl I I λq=>.c0 1 _ [ab (some q) li.length li.length] rfl rfl (by simp[Bd]) (by simp[eQ];omega) I λd j aI7=>.hp c 6 334 (Bm g m (ab hY a6.length cf) (ab hD ro.length bT)) (Bm g m (ab d (a6.length+1) j) (ab hD ro.length bT)) (by rw[add_lit]) N.head rfl ?_;have O:=N.ar (Nf:=ab d (a6.length+1) j) (Nu:=ab hD ro.length bT);refine .hp _ (b1 O.head (o:=7) rfl) (pw.one b.length (dh false) rfl rfl rfl rfl I I λl=>.c0 2 _ [ab (some l) b.length b.length] rfl rfl (by simp[Bd]) (by simp[eQ];omega) I λt s aJa=>.hp c 7 334 (Bm g m (ab d (a6.length+1) j) (ab hD ro.length bT)) (Bm g m (ab d (a6.length+1) j) (ab t (ro.length+1) s)) (by rw[add_lit]) O.head rfl ?_);have P:=O.ar (Nf:=ab d (a6.length+1) j) (Nu:=ab t (ro.length+1) s);refine aW (λi=>?_) (λi=>?_);have B:wR [] g.aY=Z:=by rw[<-a,aS i]
 exact .ag ⟨_,_,_,by rw[B];rfl,P.le,λK=>by rw[K]at B;exact absurd B.symm i⟩;refine .bl (.b5 4 4 1 (some q) li.length li.length _ rfl λaT c3 C f4=>.b5 6 4 1 (some l) b.length b.length _ rfl λcr gh D f5=>.b5 1 193 1 d (a6.length+1) j _ rfl λeX M y f6=>.b5 2 193 1 t (ro.length+1) s _ rfl λo' Y z f7=>?_);obtain⟨jX,pE⟩:=ai9 C;obtain⟨oa,NK⟩:=ai9 D;have Es:=P.aoU c3 (f4 q rfl) pE;have u:=Es.aoW gh (f5 l rfl) NK;have XM:a6.map ow++[ab (some q) li.length li.length]=(a6++[(q.block,bp li.length false)]).map ow:=by simp[ow,<-jX]
 have XN:ro.map ow++[ab (some l) b.length b.length]=(ro++[(l.block,bp b.length false)]).map ow:=by simp[ow,<-oa]
 have y:bw eX 193 1 d (a6.length+1) j (a6.map ow++[ab (some q) li.length li.length]):=y;have z:bw o' 193 1 t (ro.length+1) s (ro.map ow++[ab (some l) b.length b.length]):=z;have aIW:Z=0:=by simpa using i
 rw[aC i]at a;have W:(g.aY.take (k+1)).map hh.ea=(g.aY.take k).map hh.ea++[g.aY[k].ea]:=by rw[lz f,fw];rfl
 refine .ag ⟨(k+1,d,j,a6++[(q.block,bp li.length false)],t,s,ro++[(l.block,bp b.length false)]),rfl,rfl,⟨⟨⟨?_,?_,?_,?_,?_,?_⟩,?_,?_⟩,f,?_⟩,by show g.aY.length- (k+1)<g.aY.length-k;omega⟩;rw[W];simpa using(u.mono M).mono Y;have:=y.mono Y;rw[XM]at this;simpa using this;rw[XN]at z;simpa using z;exactλn w=>⟨λH=>u.gH _ H (f6 n w),J.none_le u.le (f6 n w)⟩;exactλn w=>⟨λH=>(u.mono M).gH _ H (f7 n w),J.none_le (u.mono M).le (f7 n w)⟩;exactλg1 g2 F G L=>y.mem F (by rw[L];exact f7 g2 G);rw[lz f,fw,fw,x.a6];simp[DI,dy];rw[lz f,fw,fw,x.ro];simp[DW,dy];rw[W];exact a;rw[aS (by simpa using r)]at a;refine aW (λi=>?_) (λi=>absurd i (by simpa using r));exact .ag ⟨_,_,_,by rw[<-a];rfl,A.le,λK=>by rw[K]at a;exact absurd a r⟩;refine .ag (aW (λE=>I) (λE=>?_));have jF:k=g.aY.length:=I;rw[py I,wR]at a;refine .ag ⟨_,_,_,by rw[<-a];rfl,x.fF.core.le,λ_=>⟨hY,cf,a6,hD,bT,ro,by rw[<-jF];exact x⟩⟩
theorem WA{l:List Nat}(a:l.Nodup){i o:Nat} c(b:o<l.length)(e:l[i]=l[o]):i=o:=by
 rw[List.Nodup,List.pairwise_iff_getElem]at a;rcases Nat.lt_trichotomy i o with h|h|h;exact absurd e (a i o c b h);exact h;exact absurd e.symm (a o i b c h)
def wh(rs:List (List Bool))(a p:Int):Int:=
 if a<0\/(rs.length:Int)<=a then 84 else
 if p<0\/((rs.getD a.toNat []).length:Int)<=p then 85 else
 if(rs.getD a.toNat []).getD p.toNat false=true then 86 else 0
def oV(rs:List (List Bool))(a p:Int):List (List Bool):=rs.set a.toNat ((rs.getD a.toNat []).set p.toNat true)
theorem ac7(rs:List (Nat×List Bool)) i:(rs.map dV).getD i []=(rs.getD i (0,[])).2:=by
 simp only[cc,de];cases rs[i]? <;>rfl
theorem xz rs a p:ri rs a p=wh (rs.map dV) a p:=by
 rw[ri,wh,ac7,List.length_map]
theorem QV rs a p:(oU rs a.toNat p.toNat).map dV=oV (rs.map dV) a p:=by
 rw[oU,oV,kB,ac7]
theorem D9 rs a p:(oU rs a p).length=rs.length:=by rw[oU,fI]
theorem QU rs a p:(oU rs a p).map hE=rs.map hE:=by
 rw[oU,kB];by_cases h:a<rs.length;apply vj bc;intro i h1 ae;rw[s6];split;rename_i e;subst e;simp[cc,bK h];rfl;rw[Zr (by simpa using h)]
theorem ajB rs a p:(oU rs a p).map ow=rs.map ow:=by
 rw[oU,kB];by_cases h:a<rs.length;apply vj bc;intro i h1 ae;rw[s6];split;rename_i e;subst e;simp[ow,cc,bK h];rfl;rw[Zr (by simpa using h)]
section
variable {am h aa:J}{c m cf bT:Nat}{g:dd}{bA q':List ByteArray}{b7 O:aA}{hY hD:Option aE}{a6 ro:List (Nat×List Bool)}
theorem lB.Ji{a p:Nat}(x:lB am h c m g bA b7 O a6 ro) f:lB am (h.put a6[a].1 (zn (a6[a].2.set p true))) c m g bA b7 O (oU a6 a p) ro:=by
 obtain⟨c1,c2⟩:=x.uj;have mem:a6[a]∈a6++ro:=bc;have k:ey c m (oU a6 a p) ro=ey c m a6 ro:=by rw[ey,ey,QU]
 have ar:a6.getD a (0,[])=a6[a]:=by simp[cc,bK f]
 have l:=x.dE;simp only[ey,jb,qP]at l;obtain⟨_,_,r,w,v⟩:=l;refine⟨B2 x.le (x.new _ (by simp only[ey,ez,eI];exact ba (ba (bQ (cO.2 ⟨_,b3 f,rfl⟩))))),?_,?_,λq d=>?_,by rw[k];exact x.dE,λb o=>x.new b (by rw[<-k];exact o)⟩;rw[J.kx (eh (c2 _ mem).1)];exact x.head;rw[J.kx (eh (c2 _ mem).2)];exact x.map;rcases eI.1 d with d|d;obtain⟨i,j,rfl⟩:=n4 d;rw[D9]at j;simp only[oU,s6,ar];split;exact J.b8 _ _ _;rename_i e;rw[J.kx];exact x.hv _ bc;intro n;have s:i<(a6.map hE).length:=by simpa using j
 have u:a<(a6.map hE).length:=by simpa using f
 have t:(a6.map hE)[i]=(a6.map hE)[a]:=by simpa using n
 exact e (WA r s u t).symm;rw[J.kx];exact x.hv _ (by simp[d]);exactλe=>v _ (cO.2 ⟨_,b3 f,rfl⟩) _ (cO.2 ⟨_,d,rfl⟩) e.symm
theorem lB.aFf{a p:Nat}(x:lB am h c m g bA b7 O a6 ro) f:lB am (h.put ro[a].1 (zn (ro[a].2.set p true))) c m g bA b7 O a6 (oU ro a p):=by
 obtain⟨c1,c2⟩:=x.uj;have mem:ro[a]∈a6++ro:=bc;have k:ey c m a6 (oU ro a p)=ey c m a6 ro:=by rw[ey,ey,QU]
 have ar:ro.getD a (0,[])=ro[a]:=by simp[cc,bK f]
 have l:=x.dE;simp only[ey,jb,qP]at l;obtain⟨_,_,w,s,v⟩:=l;refine⟨B2 x.le (x.new _ (by simp only[ey,ez,eI];exact ba (ba (ba (cO.2 ⟨_,b3 f,rfl⟩))))),?_,?_,λq d=>?_,by rw[k];exact x.dE,λb o=>x.new b (by rw[<-k];exact o)⟩;rw[J.kx (eh (c2 _ mem).1)];exact x.head;rw[J.kx (eh (c2 _ mem).2)];exact x.map;rcases eI.1 d with d|d;rw[J.kx];exact x.hv _ (by simp[d]);exactλe=>v _ (cO.2 ⟨_,d,rfl⟩) _ (cO.2 ⟨_,b3 f,rfl⟩) e;obtain⟨i,j,rfl⟩:=n4 d;rw[D9]at j;simp only[oU,s6,ar];split;exact J.b8 _ _ _;rename_i e;rw[J.kx];exact x.hv _ bc;intro n;have r:i<(ro.map hE).length:=by simpa using j
 have u:a<(ro.map hE).length:=by simpa using f
 have t:(ro.map hE)[i]=(ro.map hE)[a]:=by simpa using n
 exact e (WA s r u t).symm
theorem bw.kx{bF size n c b:Nat}{A:Option aE}{xs:List aA}{U:Obj}(x:bw h bF size A n c xs)(e:∀g,A=some g->g.block≠b):bw (h.put b U) bF size A n c xs:=by
 obtain⟨h1,ae⟩:=x;refine⟨h1,?_⟩;rcases ae with ae|⟨g,d,a,aT,f⟩;exact bQ ae;refine ba ⟨g,d,a,?_,f⟩;rw[J.kx];exact aT;exact e _ a
theorem aks(e:ri rs a p=0):∃i:Nat,a=i/\i<rs.length:=by
 rw[ri]at e;split at e;cases e;exact⟨a.toNat,I,I⟩
theorem lY.akn(x:lY am h c m g bA hY cf a6 hD bT ro)(e:ri a6 a p=0):lY am (rh h a6 a p) c m g bA hY cf (oU a6 a.toNat p.toNat) hD bT ro:=by
 obtain⟨i,rfl,j⟩:=aks e;have l:a6.getD i (0,[])=a6[i]:=by simp[cc,bK j]
 have k:ey c m (oU a6 i p.toNat) ro=ey c m a6 ro:=by rw[ey,ey,QU]
 have mem:a6[i].1∈ey c m a6 ro:=by simp only[ey,ez,eI];exact ba (ba (bQ (cO.2 ⟨_,b3 j,rfl⟩)))
 rw[rh,aS e,bn,l];exact⟨by rw[D9];exact x.core.Ji j,by rw[D9,ajB];exact x.lx.kx λb d f=>(x.Df b d).1 (by rw[f];exact mem),x.Gt.kx λb d f=>(x.Dg b d).1 (by rw[f];exact mem),λb d=>by rw[k];exact x.Df b d,λb d=>by rw[k];exact x.Dg b d,x.JK⟩
theorem lY.akp(x:lY am h c m g bA hY cf a6 hD bT ro)(e:ri ro a p=0):lY am (rh h ro a p) c m g bA hY cf a6 hD bT (oU ro a.toNat p.toNat):=by
 obtain⟨i,rfl,j⟩:=aks e;have l:ro.getD i (0,[])=ro[i]:=by simp[cc,bK j]
 have k:ey c m a6 (oU ro i p.toNat)=ey c m a6 ro:=by rw[ey,ey,QU]
 have mem:ro[i].1∈ey c m a6 ro:=by simp only[ey,ez,eI];exact ba (ba (ba (cO.2 ⟨_,b3 j,rfl⟩)))
 rw[rh,aS e,bn,l];exact⟨by rw[D9];exact x.core.aFf j,x.lx.kx λb d f=>(x.Df b d).1 (by rw[f];exact mem),by rw[D9,ajB];exact x.Gt.kx λb d f=>(x.Dg b d).1 (by rw[f];exact mem),λb d=>by rw[k];exact x.Df b d,λb d=>by rw[k];exact x.Dg b d,x.JK⟩
theorem lY.side(x:lY am h c m g bA hY cf a6 hD bT ro):Kc h hY cf a6/\Kc h hD bT ro:=⟨⟨x.lx,λp hp=>x.core.hv p (by simp[hp])⟩,⟨x.Gt,λp hp=>x.core.hv p (by simp[hp])⟩⟩
theorem lY.mono(x:lY am h c m g bA hY cf a6 hD bT ro)(le:h.le aa):lY am aa c m g bA hY cf a6 hD bT ro:=⟨x.core.mono le,x.lx.mono le,x.Gt.mono le,x.Df,x.Dg,x.JK⟩
theorem lY.names(x:lY am h c m g bA hY cf a6 hD bT ro):lY am (h.put m (tN q')) c m g q' hY cf a6 hD bT ro:=by
 have mem:m∈ey c m a6 ro:=by simp[ey]
 exact⟨x.core.names,x.lx.kx λb d a=>(x.Df b d).1 (by rw[a];exact mem),x.Gt.kx λb d a=>(x.Dg b d).1 (by rw[a];exact mem),x.Df,x.Dg,x.JK⟩
end
def m':List (List Bool)->List (List Bool)->List GE->Int×List (List Bool)×List (List Bool)
 |a6,ro,[]=>(0,a6,ro)
 |a6,ro,x::l=>if wh ro x.src x.sp≠0 then(wh ro x.src x.sp,a6,ro)else if wh a6 x.dst x.hF≠0 then(wh a6 x.dst x.hF,a6,ro)else if 256<x.n then(88,a6,ro)else m' (oV a6 x.dst x.hF) (oV ro x.src x.sp) l
theorem aqH c m g bA am h hY hD cf bT f d(s:lY am h c m g bA hY cf f hD bT d)(ok:g.ok am)(E:g.aP.length<=96):Fn aD 145 #[iW c] h λv aa=>∃s1 s2 C,v=eA #[R (m' (f.map dV) (d.map dV) g.aP).1,GF s1 s2 C]/\am.le aa/\((m' (f.map dV) (d.map dV) g.aP).1=0->∃a6 ro,lY am aa c m g bA hY cf a6 hD bT ro/\m' (f.map dV) (d.map dV) g.aP=(0,a6.map dV,ro.map dV)):=by
 generalize B:m' (f.map dV) (d.map dV) g.aP=M;refine bU ayt rfl (.hp _ (b1 s.core.head (o:=2) rfl) (.mk (Nat×List (Nat×List Bool)×List (Nat×List Bool)) [0,3,12,13,14] (λ(k,_,_)=>[.v (iW c),.p 0 0,.v (ab g.c8 g.aP.length g.b0),.v (R g.aP.length),.v (R k)]) (λ_=>[.own [.v (bC .u8 0),.v (R 0),.v (R 0)] 253]) (λ(k,a6,ro) aa=>lY am aa c m g bA hY cf a6 hD bT ro/\k<=g.aP.length/\m' (a6.map dV) (ro.map dV) (g.aP.drop k)=M) (λ(k,_,_)=>g.aP.length-k) (0,f,d) (λ_=>rfl) ⟨s,cU _,B⟩ rfl rfl (λ⟨k,a6,ro⟩ e h1⟨x,hk,a⟩=>aW (λw=>?_) (λw=>?_))));have r:k<g.aP.length:=I;have D:=ok.mono x.core.le;obtain⟨A,u⟩:=ok.aP.b4 I;have y:g.aP.drop k=g.aP[k]::g.aP.drop (k+1):=l1 r;rw[y,m']at a;refine .m A u (.hp (g.aP[k]).cells rfl (by rw[bn];exact D.aP.row u (jx r)) (.hp _ (b1 x.core.head (o:=7) rfl) (.ag (.mk _ (Q7 hD bT ro _ _ h1 x.side.2) ?_))));rintro _ _ ⟨rfl,rfl⟩;refine aW (λj=>?_) (λj=>?_);have i:=j;rw[xz]at i;rw[aS i]at a;rw[rh,aC j];exact .ag ⟨_,_,_,by rw[<-a,xz];rfl,x.core.le,λb=>by rw[<-a]at b;exact absurd b i⟩;have i:ri ro g.aP[k].src g.aP[k].sp=0:=kc.1 j;have q:=x.akp i;rw[aC (by rw[<-xz];exact j)]at a;refine .hp _ (b1 q.core.head (o:=6) rfl) (.ag (.mk _ (Q7 hY cf a6 _ _ _ q.side.1) ?_));rintro _ _ ⟨rfl,rfl⟩;refine aW (λl=>?_) (λl=>?_);have n:=l;rw[xz]at n;rw[aS n]at a;rw[show rh (rh h1 ro g.aP[k].src g.aP[k].sp) a6 g.aP[k].dst g.aP[k].hF=rh h1 ro g.aP[k].src g.aP[k].sp from by rw[rh,aC l]];exact .ag ⟨_,_,_,by rw[<-a,xz];rfl,q.core.le,λb=>by rw[<-a]at b;exact absurd b n⟩;have n:ri a6 g.aP[k].dst g.aP[k].hF=0:=kc.1 l;have t:=q.akn n;rw[aC (by rw[<-xz];exact l)]at a;refine aW (λz=>?_) (λz=>?_);rw[aS I]at a;exact .ag ⟨_,_,_,by rw[<-a];rfl,t.core.le,λb=>by rw[<-a]at b;exact absurd b bc⟩;rw[aC I]at a;exact .bl (⟨(k+1,oU a6 (g.aP[k].dst).toNat (g.aP[k].hF).toNat,oU ro (g.aP[k].src).toNat (g.aP[k].sp).toNat),rfl,rfl,⟨t,r,by rw[QV,QV];exact a⟩,by show g.aP.length- (k+1)<g.aP.length-k;omega⟩);rw[py I,m']at a;exact .ag ⟨_,_,_,by rw[<-a];rfl,x.core.le,λ_=>⟨a6,ro,x,a.symm⟩⟩
def mA:List ByteArray->List (List Bool)->List kO->Int×List ByteArray×List (List Bool)
 |bA,rs,[]=>(0,bA,rs)
 |bA,rs,x::l=>if pS bA x.ea≠0 then(pS bA x.ea,bA,rs)else if wh rs x.act x.port≠0 then(wh rs x.act x.port,bA,rs)else mA (bA++[x.ea]) (oV rs x.act x.port) l
theorem aDr c m g f am h hY hD cf bT d s ho lc l dk u(D:lY am h c m g f hY cf d hD bT s)(t:bg am 3 ho l.length (l.map kO.cells))(z:∀a∈l,a.ea.size<=4611686018427387904)(L:l.length<=16):Fn aD 146 #[iW c,ab ho l.length lc,ab hY d.length cf,bC .u8 dk,R u] h λv aa=>∃s1 s2 G,v=eA #[R (mA f (d.map dV) l).1,GF s1 s2 G]/\am.le aa/\((mA f (d.map dV) l).1=0->∃bA a6,lY am aa c m g bA hY cf a6 hD bT s/\mA f (d.map dV) l=(0,bA,a6.map dV)):=by
 generalize F:mA f (d.map dV) l=M;refine bU afG rfl (.mk (Nat×List ByteArray×List (Nat×List Bool)) [0,2,3,4,11,16,17,18] (λ(k,_,_)=>[.v (iW c),.v (ab hY d.length cf),.v (bC .u8 dk),.v (R u),.p 0 0,.v (ab ho l.length lc),.v (R l.length),.v (R k)]) (λ_=>[.own [.v (bC .u8 0),.v (R 0),.v (R 0)] 253]) (λ(k,bA,a6) aa=>lY am aa c m g bA hY cf a6 hD bT s/\k<=l.length/\a6.length=d.length/\mA bA (a6.map dV) (l.drop k)=M) (λ(k,_,_)=>l.length-k) (0,f,d) (λ_=>rfl) ⟨D,cU _,rfl,F⟩ rfl rfl (λ⟨k,bA,a6⟩ e h1⟨x,hk,H,b⟩=>aW (λA=>?_) (λA=>?_)));have r:k<l.length:=I;obtain⟨E,w⟩:=t.b4 I;have B:l.drop k=l[k]::l.drop (k+1):=l1 r;rw[B,mA]at b;refine .m E w (.hp (l[k]).cells rfl (by rw[bn];exact(t.mono x.core.le).row w (jx r)) (.ag (.mk _ (Wo c m _ _ (l[k]).ea h1 x.core.head rfl x.core.map (z _ (b3 r))) ?_)));rintro _ _ ⟨rfl,ae,C,rfl⟩;have o:=(x.mono C).names (q':=Ae (pS bA l[k].ea) bA l[k].ea);refine aW (λi=>?_) (λi=>?_);rw[aS i]at b;exact .ag ⟨_,_,_,by rw[<-b];rfl,o.core.le,λn=>by rw[<-b]at n;exact absurd n i⟩;rw[aC i]at b;have y:pS bA l[k].ea=0:=kc.1 i;have K:Ae (pS bA l[k].ea) bA l[k].ea=bA++[l[k].ea]:=by rw[y,Ae,aS rfl]
 rw[K]at o⊢;rw[<-H];refine .ag (.mk _ (Q7 hY cf a6 _ _ _ o.side.1) ?_);rintro _ _ ⟨rfl,rfl⟩;refine aW (λj=>?_) (λj=>?_);have q:=j;rw[xz]at q;rw[aS q]at b;rw[rh,aC j];exact .ag ⟨_,_,_,by rw[<-b,xz];rfl,o.core.le,λn=>by rw[<-b]at n;exact absurd n q⟩;have q:ri a6 l[k].act l[k].port=0:=kc.1 j;have J:=o.akn q;rw[aC (by rw[<-xz];exact j)]at b;exact .bl (⟨(k+1,bA++[l[k].ea],oU a6 (l[k].act).toNat (l[k].port).toNat),rfl,rfl,⟨J,r,by rw[D9],by rw[QV];exact b⟩,by show l.length- (k+1)<l.length-k;omega⟩);rw[py I,mA]at b;exact .ag ⟨_,_,_,by rw[<-b];rfl,x.core.le,λ_=>⟨bA,a6,x,b.symm⟩⟩
theorem aDs c m g f am h hY hD cf bT s d ho lc l dk u(D:lY am h c m g f hY cf s hD bT d)(t:bg am 3 ho l.length (l.map kO.cells))(z:∀a∈l,a.ea.size<=4611686018427387904)(L:l.length<=16):Fn aD 146 #[iW c,ab ho l.length lc,ab hD d.length bT,bC .u8 dk,R u] h λv aa=>∃s1 s2 G,v=eA #[R (mA f (d.map dV) l).1,GF s1 s2 G]/\am.le aa/\((mA f (d.map dV) l).1=0->∃bA ro,lY am aa c m g bA hY cf s hD bT ro/\mA f (d.map dV) l=(0,bA,ro.map dV)):=by
 generalize F:mA f (d.map dV) l=M;refine bU afG rfl (.mk (Nat×List ByteArray×List (Nat×List Bool)) [0,2,3,4,11,16,17,18] (λ(k,_,_)=>[.v (iW c),.v (ab hD d.length bT),.v (bC .u8 dk),.v (R u),.p 0 0,.v (ab ho l.length lc),.v (R l.length),.v (R k)]) (λ_=>[.own [.v (bC .u8 0),.v (R 0),.v (R 0)] 253]) (λ(k,bA,ro) aa=>lY am aa c m g bA hY cf s hD bT ro/\k<=l.length/\ro.length=d.length/\mA bA (ro.map dV) (l.drop k)=M) (λ(k,_,_)=>l.length-k) (0,f,d) (λ_=>rfl) ⟨D,cU _,rfl,F⟩ rfl rfl (λ⟨k,bA,ro⟩ e h1⟨x,hk,H,b⟩=>aW (λA=>?_) (λA=>?_)));have r:k<l.length:=I;obtain⟨E,w⟩:=t.b4 I;have B:l.drop k=l[k]::l.drop (k+1):=l1 r;rw[B,mA]at b;refine .m E w (.hp (l[k]).cells rfl (by rw[bn];exact(t.mono x.core.le).row w (jx r)) (.ag (.mk _ (Wo c m _ _ (l[k]).ea h1 x.core.head rfl x.core.map (z _ (b3 r))) ?_)));rintro _ _ ⟨rfl,ae,C,rfl⟩;have o:=(x.mono C).names (q':=Ae (pS bA l[k].ea) bA l[k].ea);refine aW (λi=>?_) (λi=>?_);rw[aS i]at b;exact .ag ⟨_,_,_,by rw[<-b];rfl,o.core.le,λn=>by rw[<-b]at n;exact absurd n i⟩;rw[aC i]at b;have y:pS bA l[k].ea=0:=kc.1 i;have K:Ae (pS bA l[k].ea) bA l[k].ea=bA++[l[k].ea]:=by rw[y,Ae,aS rfl]
 rw[K]at o⊢;rw[<-H];refine .ag (.mk _ (Q7 hD bT ro _ _ _ o.side.2) ?_);rintro _ _ ⟨rfl,rfl⟩;refine aW (λj=>?_) (λj=>?_);have q:=j;rw[xz]at q;rw[aS q]at b;rw[rh,aC j];exact .ag ⟨_,_,_,by rw[<-b,xz];rfl,o.core.le,λn=>by rw[<-b]at n;exact absurd n q⟩;have q:ri ro l[k].act l[k].port=0:=kc.1 j;have J:=o.akp q;rw[aC (by rw[<-xz];exact j)]at b;exact .bl (⟨(k+1,bA++[l[k].ea],oU ro (l[k].act).toNat (l[k].port).toNat),rfl,rfl,⟨J,r,by rw[D9],by rw[QV];exact b⟩,by show l.length- (k+1)<l.length-k;omega⟩);rw[py I,mA]at b;exact .ag ⟨_,_,_,by rw[<-b];rfl,x.core.le,λ_=>⟨bA,ro,x,b.symm⟩⟩
def oJ(l:List Bool):Bool:=l.all id
def DS(a6 ro:List (List Bool)):Int:=if a6.all oJ=true/\ro.all oJ=true then 0 else 87
theorem acX{l:List Bool}{q:Nat} a(b:l[q]=false):oJ l=false:=by
 cases h:oJ l;rfl;rw[oJ,List.all_eq_true]at h;have:=h _ (b3 a)
 grind
theorem acY{l:List Bool}{q:Nat} a(h:oJ (l.take q)=true)(b:l[q]=true):oJ (l.take (q+1))=true:=by
 rw[lz a,oJ,List.all_append,<-oJ,h];simp[b]
theorem akq{k:Nat} hk(h:∀p∈rs.take k,oJ p.2=true)(a:oJ rs[k].2=true):∀p∈rs.take (k+1),oJ p.2=true:=by
 intro p hp;rw[lz hk,eI,hZ]at hp
 grind
theorem aCJ c m g bA am h hY hD cf bT a6 ro(x:lY am h c m g bA hY cf a6 hD bT ro)(H:a6.length=g.aY.length)(F:ro.length=g.aY.length)(E:g.aY.length<=32)(i:∀p∈a6,p.2.length<=16)(D:∀p∈ro,p.2.length<=16):Fn aD 147 #[iW c] h λv aa=>∃s1 s2 C,v=eA #[R (DS (a6.map dV) (ro.map dV)),GF s1 s2 C]/\aa=h:=by
 have bad:∀k,(hk:k<g.aY.length)->(oJ (a6[k]'I).2=false\/oJ (ro[k]'I).2=false)->DS (a6.map dV) (ro.map dV)=87:=by
  intro k hk d;rw[DS,aC]
  grind
 refine bU ayu rfl (.hp _ (b1 x.core.head (o:=1) rfl) (.mk Nat [0,3,14,15] (λk=>[.v (iW c),.p 0 0,.v (R g.aY.length),.v (R k)]) (λ_=>[.own [.v (bC .u8 0),.v (R 0),.v (R 0)] 253]) (λk aa=>aa=h/\k<=g.aY.length/\(∀p∈a6.take k,oJ p.2=true)/\(∀p∈ro.take k,oJ p.2=true)) (λk=>g.aY.length-k) 0 (λ_=>rfl) ⟨rfl,cU _,bc,bc⟩ rfl rfl ?_));rintro k e h1 ⟨rfl,hk,f1,f2⟩;refine aW (λA=>?_) (λA=>?_);have j:k<g.aY.length:=I;have n:k<a6.length:=I;have l:k<ro.length:=I;obtain⟨g1,w⟩:=x.lx.e2.b4 I;obtain⟨g2,u⟩:=x.Gt.e2.b4 I;refine .hp _ (b1 x.core.head (o:=6) rfl) ?_;refine .m g1 w ?_;refine .hp _ (by rw[bn];exact x.side.1.row w n) ?_;refine .hp _ (b1 x.core.head (o:=7) rfl) ?_;refine .m g2 u ?_;refine .hp _ (by rw[bn];exact x.side.2.row u l) ?_;refine .mk Nat [0,3,4,14,15,32,33,34] (λo=>[.v (iW c),.p 0 0,.v (R k),.v (R g.aY.length),.v (R k),.s 1 0 2 2,.v (R 2),.v (R o)]) (λ_=>[.own [.v (bC .u8 0),.v (R 0),.v (R 0)] 253,.own [.v (ow a6[k]),.v (ow ro[k])] 193]) (λo aa=>aa=h1/\o<=2/\(1<=o->oJ a6[k].2=true)/\(2<=o->oJ ro[k].2=true)) (λo=>2-o) 0 (λ_=>rfl) ⟨rfl,aH,bc,bc⟩ rfl rfl ?_;rintro o e ae ⟨rfl,G,f3,f4⟩;obtain rfl|rfl|rfl:o=0\/o=1\/o=2:=by omega
 refine .mk aH aH (.mk Nat [0,3,4,14,15,32,33,34,38,39,40] (λq=>[.v (iW c),.p 0 0,.v (R k),.v (R g.aY.length),.v (R k),.s 1 0 2 2,.v (R 2),.v (R (0:Nat)),.v (ow a6[k]),.v (R a6[k].2.length),.v (R q)]) (λ_=>[.own [.v (bC .u8 0),.v (R 0),.v (R 0)] 253,.own [.v (ow a6[k]),.v (ow ro[k])] 193]) (λq aa=>aa=ae/\q<=a6[k].2.length/\oJ (a6[k].2.take q)=true) (λq=>a6[k].2.length-q) 0 (λ_=>rfl) ⟨rfl,cU _,rfl⟩ rfl rfl ?_);rintro q e B ⟨rfl,y,f5⟩;have d:=x.side.1.hv a6[k] (b3 I);have hw:=i _ (b3 n);refine aW (λt=>?_) (λt=>?_);have a:q<a6[k].2.length:=I;refine .r ?_;refine .hp (dh a6[k].2[q]) (by rw[add_lit,dZ,bn,e4];exact b1 d bc) ?_;cases b:a6[k].2[q];exact .ag ⟨_,_,_,by rw[bad k j (bQ (acX a b))];rfl,rfl⟩;exact .bl (⟨q+1,rfl,rfl,⟨rfl,a,acY a f5 b⟩,I⟩);refine .bl ?_;have f:q=a6[k].2.length:=I;rw[f,rv]at f5;exact⟨1,rfl,rfl,⟨rfl,I,λ_=>f5,λ_=>I⟩,I⟩;refine .mk aH aH (.mk Nat [0,3,4,14,15,32,33,34,38,39,40] (λq=>[.v (iW c),.p 0 0,.v (R k),.v (R g.aY.length),.v (R k),.s 1 0 2 2,.v (R 2),.v (R (1:Nat)),.v (ow ro[k]),.v (R ro[k].2.length),.v (R q)]) (λ_=>[.own [.v (bC .u8 0),.v (R 0),.v (R 0)] 253,.own [.v (ow a6[k]),.v (ow ro[k])] 193]) (λq aa=>aa=ae/\q<=ro[k].2.length/\oJ (ro[k].2.take q)=true) (λq=>ro[k].2.length-q) 0 (λ_=>rfl) ⟨rfl,cU _,rfl⟩ rfl rfl ?_);rintro q e B ⟨rfl,y,f5⟩;have d:=x.side.2.hv ro[k] (b3 I);have hw:=D _ (b3 l);refine aW (λt=>?_) (λt=>?_);have a:q<ro[k].2.length:=I;refine .r ?_;refine .hp (dh ro[k].2[q]) (by rw[add_lit,dZ,bn,e4];exact b1 d bc) ?_;cases b:ro[k].2[q];exact .ag ⟨_,_,_,by rw[bad k j (ba (acX a b))];rfl,rfl⟩;exact .bl (⟨q+1,rfl,rfl,⟨rfl,a,acY a f5 b⟩,I⟩);refine .bl ?_;have f:q=ro[k].2.length:=I;rw[f,rv]at f5;exact⟨2,rfl,rfl,⟨rfl,I,λ_=>f3 I,λ_=>f5⟩,I⟩;exact .bl (⟨k+1,rfl,rfl,⟨rfl,j,akq n f1 (f3 I),akq l f2 (f4 I)⟩,I⟩);have z:k=g.aY.length:=I;rw[mJ I]at f1 f2;have:DS (a6.map dV) (ro.map dV)=0:=by
  grind [DS]
 exact .ag ⟨_,_,_,by rw[this];rfl,rfl⟩
def iV(g:dd):Int:=
 if ux g≠0 then ux g else
 if wR [] g.aY≠0 then wR [] g.aY else
 let a:=m' (g.aY.map DI) (g.aY.map DW) g.aP
 if a.1≠0 then a.1 else
 let b:=mA (g.aY.map hh.ea) a.2.1 g.ins
 if b.1≠0 then b.1 else
 let c:=mA b.2.1 a.2.2 g.outs
 if c.1≠0 then c.1 else DS b.2.2 c.2.2
theorem lY.init(hm:h m=none)(av:(h.put m (.map #[] 0)) c=none):lY h ((h.put m (.map #[] 0)).put c (bb (Bm g m (ab none 0 0) (ab none 0 0)).toArray 334 (0,0))) c m g [] none 0 [] none 0 []:=by
 have ne:c≠m:=λe=>by rw[e,J.b8]at av;cases av
 have a:h c=none:=by rwa[J.kx ne]at av
 refine⟨⟨B2 (J.d' hm) a,J.b8 _ _ _,by rw[J.kx (eh ne),J.b8];rfl,bc,by simp[ey,ne],?_⟩,⟨rfl,bQ ⟨rfl,rfl,rfl⟩⟩,⟨rfl,bQ ⟨rfl,rfl,rfl⟩⟩,(λ_ e=>by cases e),(λ_ e=>by cases e),(λ_ _ e=>by cases e)⟩
 grind [ey]
theorem ajG rs a p(w:∀r∈rs,r.length<=16):(oV rs a p).length=rs.length/\∀r∈oV rs a p,r.length<=16:=by
 refine⟨by simp[oV],λr b=>?_⟩;rcases List.mem_or_eq_of_mem_set b with b|rfl
 grind
 grind
def xZ(n:Nat)(rs:List (List Bool)):Prop:=rs.length=n/\∀r∈rs,r.length<=16
theorem xZ.set{rs:List (List Bool)}(x:xZ n rs) a p:xZ n (oV rs a p):=⟨(ajG rs a p x.2).1.trans x.1,(ajG rs a p x.2).2⟩
theorem abK{n:Nat}:∀l a6 ro,xZ n a6->xZ n ro->xZ n (m' a6 ro l).2.1/\xZ n (m' a6 ro l).2.2
 |[],_,_,h1,ae=>⟨h1,ae⟩
 |x::l,a6,ro,h1,ae=>by
  rw[m'];split
  grind
  split
  grind
  split
  grind
  exact abK l _ _ (h1.set _ _) (ae.set _ _)
theorem W'{n:Nat}:∀l bA rs,xZ n rs->xZ n (mA bA rs l).2.2
 |[],_,_,h1=>h1
 |x::l,bA,rs,h1=>by
  rw[mA];split;omega;split;omega;exact W' l _ _ (h1.set _ _)
theorem arA g h(ok:g.ok h):Fn aD 102 #[.agg g.cells.toArray] h λv aa=>h.le aa/\∃s1 s2 e,v=eA #[R (iV g),GF s1 s2 e]:=by
 refine bU axV rfl (.mk λm hm=>.mk λc av=>?_);have y:=lY.init (g:=g) hm av;refine .ag (.mk _ (atW c m g _ _ _ y.core.head (ok.mono y.core.le)) ?_);rintro _ h1 ⟨T,s1,s2,e,rfl⟩;have J:=y.mono T;refine aW (λb=>?_) (λb=>?_);exact .ag ⟨J.core.le,_,_,_,by rw[iV,aS b];rfl⟩;have Ja:ux g=0:=kc.1 b;obtain⟨I,P,X,Z⟩:g.aY.length<=32/\g.aP.length<=96/\g.ins.length<=16/\g.outs.length<=16:=by
  grind [ux]
 refine .ag (.mk _ (aoQ c m g h h1 ⟨J,rfl,rfl⟩ ok I) ?_);rintro _ ae ⟨s1,s2,e,rfl,Q,aK⟩;refine aW (λd=>?_) (λd=>?_);exact .ag ⟨Q,_,_,_,by rw[iV,aC b,aS d];rfl⟩;obtain⟨hY,cf,a6,hD,bT,ro,j⟩:=aK (kc.1 d);obtain⟨j,A,C⟩:=j;rw[rv]at j A C;have oz:xZ g.aY.length (g.aY.map DI):=⟨bc,λr u=>by obtain⟨a,_,rfl⟩:=cO.1 u;simpa[DI]using(Cl a.tag a.a8).1⟩;have t:xZ g.aY.length (g.aY.map DW):=⟨bc,λr u=>by obtain⟨a,_,rfl⟩:=cO.1 u;simpa[DW]using(Cl a.tag a.a8).2⟩;refine .ag (.mk _ (aqH c m g _ h ae hY hD cf bT a6 ro j ok P) ?_);rw[A,C];rintro _ H ⟨s1,s2,e,rfl,U,W⟩;refine aW (λw=>?_) (λw=>?_);exact .ag ⟨U,_,_,_,by rw[iV,aC b,aC d];dsimp only;rw[aS w];rfl⟩;obtain⟨E,k,K,l⟩:=W (kc.1 w);have i:=abK g.aP _ _ oz t;rw[l]at i;have cG:k.length=ro.length/\E.length=a6.length:=by
  have h1:=i.1.1;have ae:=i.2.1;have H:=eu fv A;have aT:=eu fv C
  grind
 refine .hp _ (b1 K.core.head (o:=6) rfl) (⟨?_,?_⟩);all_goals conv=>whnf
 all_goals refine .ag (.mk _ (aDr c m g _ h H hY hD cf bT E k g.eg g.cf g.ins _ _ K ok.ins ok.ae6 X) ?_)
 all_goals rintro _ aT ⟨s1,s2,e,rfl,O,V⟩
 all_goals conv=>whnf
 all_goals refine aW (λx=>?_) (λx=>?_)
 iterate 2
  exact .ag ⟨O,_,_,_,by rw[iV,aC b,aC d];dsimp only;rw[l,aC bc,aS x];rfl⟩
  rotate_left
 all_goals obtain⟨s,G,L,q⟩:=V (kc.1 x)
 all_goals have D:=W' (n:=g.aY.length) g.ins (g.aY.map hh.ea) (E.map dV) i.1
 all_goals rw[q]at D
 all_goals conv=>whnf
 all_goals refine .hp _ (b1 L.core.head (o:=7) rfl) ?_
 all_goals conv=>whnf
 all_goals refine⟨?_,?_⟩
 all_goals conv=>whnf
 all_goals refine .ag (.mk _ (aDs c m g _ h aT hY hD cf bT G k g.cn g.bT g.outs _ _ L ok.outs ok.aii Z) ?_)
 all_goals rintro _ S ⟨s1,s2,e,rfl,Y,hO⟩
 all_goals conv=>whnf
 all_goals refine aW (λz=>?_) (λz=>?_)
 iterate 4
  exact .ag ⟨Y,_,_,_,by rw[iV,aC b,aC d];dsimp only;rw[l,aC bc];dsimp only;rw[q,aC bc];dsimp only;rw[aS z];rfl⟩
  rotate_left
 all_goals obtain⟨N,M,F,f⟩:=hO (kc.1 z)
 all_goals have B:=W' (n:=g.aY.length) g.outs s (k.map dV) i.2
 all_goals rw[f]at B
 all_goals conv=>whnf
 all_goals refine .ag (.mk _ (aCJ c m g _ h S hY hD cf bT G M F (by simpa using D.1) (by simpa using B.1) I (λp hp=>D.2 _ (cO.2 ⟨p,hp,rfl⟩)) (λp hp=>B.2 _ (cO.2 ⟨p,hp,rfl⟩))) ?_)
 all_goals rintro _ _ ⟨s1,s2,e,rfl,rfl⟩
 all_goals conv=>whnf
 all_goals exact .ag ⟨F.core.le,_,_,_,by rw[iV,aC b,aC d];dsimp only;rw[l,aC bc];dsimp only;rw[q,aC bc];dsimp only;rw[f,aC bc];rfl⟩
theorem aaW g h(ok:g.ok h):Fn aD 44 #[.agg g.cells.toArray] h λv aa=>h.le aa/\v=R (iV g):=by
 refine bU azu rfl (.ag (.mk _ (arA g h ok) ?_));rintro _ h1 ⟨a,s1,s2,b,rfl⟩;exact .ag ⟨a,rfl⟩
theorem X'{rs:List (List Bool)}(e:wh rs a p=0):0<=a/\a<rs.length/\0<=p/\p<((rs.map fv).getD a.toNat 0):=by
 rw[wh]at e
 grind
theorem Jj rs a p:(oV rs a p).map fv=rs.map fv:=by
 rw[oV,kB,fI];by_cases h:a.toNat<rs.length;apply vj bc
 grind
 rw[Zr aL]
def LB(ls:List Nat)(a p:Int):Prop:=0<=a/\a<ls.length/\0<=p/\p<(ls.getD a.toNat 0:Nat)
theorem abL:∀l a6 ro,(m' a6 ro l).1=0->∀x∈l,LB (ro.map fv) x.src x.sp/\LB (a6.map fv) x.dst x.hF/\x.n<=256
 |[],_,_,_=>by simp
 |x::l,a6,ro,e=>by
  rw[m']at e;split at e;omega;split at e;omega;split at e;omega;rename_i h1 ae b;have t1:=X' (kc.1 h1);have t2:=X' (kc.1 ae);intro y a;rcases ez.1 a with rfl|a;exact⟨⟨t1.1,aL,t1.2.2⟩,⟨t2.1,aL,t2.2.2⟩,I⟩;have:=abL l _ _ e y a;rwa[Jj,Jj]at this
theorem Z2:∀l bA,wR bA l=0->∀a∈l,(b6 a.tag a.a8).1=0
 |[],_,_=>by simp
 |a::l,bA,e=>by
  rw[wR]at e;split at e;omega;split at e;omega;rename_i h1 ae;intro y b;rcases ez.1 b with rfl|b;omega;exact Z2 l _ e y b
def eo(g:dd)(v:Int):List Int:=match g.aY[v.toNat]?with
 |some a=>(b6 a.tag a.a8).2.1
 |none=>[]
def jp(g:dd)(v:Int):List Int:=match g.aY[v.toNat]?with
 |some a=>(b6 a.tag a.a8).2.2
 |none=>[]
theorem Xa:∀l bA rs,(mA bA rs l).1=0->∀x∈l,LB (rs.map fv) x.act x.port
 |[],_,_,_=>by simp
 |x::l,bA,rs,e=>by
  rw[mA]at e;split at e;omega;split at e;omega;rename_i h1 ae;have t1:=X' (kc.1 ae);intro y a;rcases ez.1 a with rfl|a;exact⟨t1.1,aL,t1.2.2⟩;have:=Xa l _ _ e y a;rwa[Jj]at this
theorem abJ:∀l a6 ro,(m' a6 ro l).2.1.map fv=a6.map fv/\(m' a6 ro l).2.2.map fv=ro.map fv
 |[],_,_=>⟨rfl,rfl⟩
 |x::l,a6,ro=>by
  rw[m'];split;simp;split;simp;split;simp;have:=abJ l (oV a6 x.dst x.hF) (oV ro x.src x.sp);rwa[Jj,Jj]at this
structure Y7(g:dd):Prop where
 cS:1<=g.aY.length
 a32:g.aY.length<=32
 o6:g.aP.length<=96
 i16:g.ins.length<=16
 r2:g.outs.length<=16
 sX:∀a∈g.aY,(b6 a.tag a.a8).1=0
 nD:∀x∈g.aP,(0<=x.src/\x.src<g.aY.length/\0<=x.sp/\x.sp<(jp g x.src).length)/\(0<=x.dst/\x.dst<g.aY.length/\0<=x.hF/\x.hF<(eo g x.dst).length)/\x.n<=256
 Ir:∀x∈g.ins,0<=x.act/\x.act<g.aY.length/\0<=x.port/\x.port<(eo g x.act).length
 I6:∀x∈g.outs,0<=x.act/\x.act<g.aY.length/\0<=x.port/\x.port<(jp g x.act).length
theorem ae2(h:LB ((g.aY.map DI).map fv) a p):0<=a/\a<g.aY.length/\0<=p/\p<(eo g a).length:=by
 obtain⟨h1,ae,b,aT⟩:=h
 grind [eo,DI]
theorem ae3(h:LB ((g.aY.map DW).map fv) a p):0<=a/\a<g.aY.length/\0<=p/\p<(jp g a).length:=by
 obtain⟨h1,ae,b,aT⟩:=h
 grind [jp,DW]
theorem ts(e:iV g=0):Y7 g:=by
 rw[iV]at e;split at e;omega;split at e;omega;dsimp only at e;split at e;omega;split at e;omega;split at e;omega;rename_i h1 ae d aT i;have m:ux g=0:=kc.1 h1;obtain⟨j,f,h,k,l⟩:1<=g.aY.length/\g.aY.length<=32/\g.aP.length<=96/\g.ins.length<=16/\g.outs.length<=16:=by
  grind [ux]
 have b:=abL g.aP _ _ (kc.1 d);have el:=abJ g.aP (g.aY.map DI) (g.aY.map DW);have pi:=Xa g.ins _ _ (kc.1 aT);have c:=Xa g.outs _ _ (kc.1 i);rw[el.1]at pi;rw[el.2]at c;exact⟨j,f,h,k,l,Z2 g.aY _ (kc.1 ae),λx a=>⟨ae3 (b x a).1,ae2 (b x a).2.1,(b x a).2.2⟩,λx a=>ae2 (pi x a),λx a=>ae3 (c x a)⟩
def od(g:dd)(x:GE):b2:=⟨x.src,x.dst,(jp g x.src).getD x.sp.toNat 0,(eo g x.dst).getD x.hF.toNat 0,x.n⟩
def dJ(g:dd):List b2:=g.aP.map (od g)
def ang(h aa:J)(v:aA)(N:Int)(l:List b2):Prop:=∃A c,v=nQ N A l.length c/\bw aa 157 5 A l.length c (l.map b2.cells).flatten/\∀g,A=some g->h g.block=none
theorem aCn g h(ok:g.ok h):Fn aD 21 #[.agg g.cells.toArray] h λv aa=>h.le aa/\∃n,v=eA #[n,R (iV g)]/\(∃(N:Int)(A:Option aE)(m c:Nat),n=nQ N A m c)/\(iV g=0->ang h aa n g.aY.length (dJ g)):=by
 refine bU ayZ rfl (.ag (.mk _ (aaW g h ok) ?_));rintro _ h1 ⟨C,rfl⟩;refine aW (λb=>?_) (λb=>?_);exact .ag ⟨C,_,rfl,⟨0,none,0,0,rfl⟩,λe=>absurd e b⟩;have i:=ts (kc.1 b);refine .mb [0,1,2] (Nat×Option aE×Nat) [1,2,5,27,28,29] (λ(k,_,_)=>[.p 0 0,.p 1 0,.p 2 0,.v (ab g.c8 g.aP.length g.b0),.v (R g.aP.length),.v (R k)]) (λ(k,A,c)=>[.own (g.cells.map .v) 26,.own [.v (R 0),.v (ab none 0 0)] 33,.own [.v (R g.aY.length),.v (ab A k c)] 33]) (λ(k,A,c) aa=>h.le aa/\k<=g.aP.length/\bw aa 157 5 A k c (((dJ g).take k).map b2.cells).flatten/\∀d,A=some d->h d.block=none) (λ(k,_,_)=>g.aP.length-k) (0,none,0) (λ_=>rfl) ⟨C,cU _,⟨rfl,bQ ⟨rfl,rfl,rfl⟩⟩,λ_ e=>by cases e⟩ rfl rfl rfl (λ⟨k,A,c⟩ e ae⟨B,hk,y,z⟩=>?_);by_cases r:k<g.aP.length
 .refine .abs 157 5 A k c _ y (.ag ?_);have f:=abi B z;generalize en ae A=hH at f⊢;have a:=ok.mono f;have V:=i.nD _ (b3 r);have l:(g.aP[k]).src.toNat<g.aY.length:=I;have u:(g.aP[k]).dst.toNat<g.aY.length:=I;refine aW (λo=>?_) (λo=>I);obtain⟨ge,x⟩:=ok.aP.b4 I;obtain⟨D,j⟩:=ok.aY.b4 I;refine .m ge x (.hp (g.aP[k]).cells rfl (by rw[bn];exact a.aP.row x (jx r)) (.m D j (.hp (g.aY[(g.aP[k]).src.toNat]).cells rfl (a.aY.row j (jx l)) (.m D j (.hp (g.aY[(g.aP[k]).dst.toNat]).cells rfl (a.aY.row j (jx u)) (⟨?_,?_⟩))))));all_goals conv=>whnf
  all_goals refine .ag (.mk _ (IW _ _ _ _ (g.aY[(g.aP[k]).src.toNat]).a8 _ (a.act _ (b3 l)).dK (a.act _ (b3 l)).n8) ?_)
  all_goals rintro _ X ⟨_,_,rfl,s,⟨jA,c1,rfl,Z,f1⟩,⟨Y,c2,rfl,Q,f2⟩⟩
  all_goals conv=>whnf
  all_goals refine .ag (.mk _ (IW _ _ _ _ (g.aY[(g.aP[k]).dst.toNat]).a8 _ ((a.act _ (b3 u)).dK.mono s) (a.act _ (b3 u)).n8) ?_)
  all_goals rintro _ aT ⟨_,_,rfl,t,⟨mG,fc,rfl,S,f3⟩,⟨K,x7,rfl,fC,f4⟩⟩
  all_goals conv=>whnf
  all_goals have H:jp g (g.aP[k]).src=(b6 g.aY[(g.aP[k]).src.toNat].tag g.aY[(g.aP[k]).src.toNat].a8).2.2:=by grind [jp]
  all_goals have F:eo g (g.aP[k]).dst=(b6 g.aY[(g.aP[k]).dst.toNat].tag g.aY[(g.aP[k]).dst.toNat].a8).2.1:=by grind [eo]
  all_goals rw[H,F]at V
  all_goals have O:(g.aP[k]).sp.toNat<(b6 g.aY[(g.aP[k]).src.toNat].tag g.aY[(g.aP[k]).src.toNat].a8).2.2.length:=by omega
  all_goals have M:(g.aP[k]).hF.toNat<(b6 g.aY[(g.aP[k]).dst.toNat].tag g.aY[(g.aP[k]).dst.toNat].a8).2.1.length:=by omega
  all_goals have t2:=(Q.mono t).j7
  all_goals have t3:=S.j7
  all_goals obtain⟨g2,E⟩:=t2.b4 I
  all_goals obtain⟨g3,w⟩:=t3.b4 I
  all_goals refine .m g2 E ?_
  all_goals conv=>whnf
  all_goals refine .hp _ (t2.one E (jx O) rfl) ?_
  all_goals conv=>whnf
  all_goals refine .m g3 w ?_
  all_goals conv=>whnf
  all_goals refine .hp _ (t3.one w (jx M) rfl) ?_
  all_goals conv=>whnf
  all_goals refine .c0 3 _ (od g g.aP[k]).cells rfl (by simp_all[od,b2.cells,H,F,R]) (by simp[b2.cells,Bd,R]) (by have:=i.o6;grind [eQ]) (by have:=i.o6;omega) λbo bj W=>?_
  all_goals conv=>whnf
  all_goals refine .ok I (by have:=i.o6;omega) ?_
  all_goals conv=>whnf
  all_goals refine .b5 3 157 5 bo (k+1) bj _ rfl λP T G f5=>?_
  all_goals have G:bw P 157 5 bo (k+1) bj ((((dJ g).take k).map b2.cells).flatten++(od g g.aP[k]).cells):=G
  all_goals have q:k<(dJ g).length:=by grind [dJ]
  all_goals have kT:(((dJ g).take (k+1)).map b2.cells).flatten=(((dJ g).take k).map b2.cells).flatten++(od g g.aP[k]).cells:=by rw[lz q,fw,wy];simp[dJ]
  all_goals exact .ag ⟨(k+1,bo,bj),rfl,rfl,⟨J.le_trans f (J.le_trans s (J.le_trans t T)),r,aL,λd L=>J.none_le (J.le_trans f (J.le_trans s t)) (f5 d L)⟩,aL⟩
 refine .ag (aW (λo=>I) (λo=>?_));have U:k=g.aP.length:=I;have al:(dJ g).length=k:=by simp[U,dJ]
 rw[mJ I]at y;refine .ag ⟨B,nQ g.aY.length A k c,by rw[kc.1 b];rfl,⟨_,_,_,_,rfl⟩,λ_=>⟨A,c,by rw[al],aL,z⟩⟩
end Go.Sx
namespace Go.Sx
open Go.RowKit
set_option maxRecDepth 100000
set_option maxHeartbeats 0
set_option linter.all false
variable {cu:List Nat}
structure Alike(w bz:bD):Prop where
 heap:bz.heap=w.heap
 os:bz.os=w.os
 tape:bz.tape=w.tape
 output:bz.output=w.output
def Idle(P:fk)(g:mT)(cap:Array aA):Prop:=(∃fn,P.funcs[g]?=some fn/\fn.body.isSome=true/\(fn.name== "runtime.NumGoroutine")=false)/\∀w,CallsD P g cap .returning w λe u bz=>(∃v,e= .returned v)/\u= .returning/\Alike w bz
def G4(P:fk)(d:wt):Prop:=∃g cap,d={target:=.fn (.func g) cap,args:=#[]}/\Idle P g cap
abbrev Hj:=Exit->List wt->cg->List LE->J->Prop
def NZ:Op->Option eC
 |.defer c=>(match c.callee,c.args.toList with
  |.value x,[]=>some (bZ x)
  |_,_=>none)
 |_=>none
def GQ(P:fk)(n:Nat):List cY->List wt->cg->List LE->J->(List wt->cg->List LE->J->Prop)->Prop
 |[],a,e,L,h,K=>K a e L h
 |U::r,a,e,L,h,K=>(match U.g,U.k with
  |none,.raw op=>(match NZ op with
   |some x=>(match x.get e with
    |.v (.func (.func g) first cap)=>bif first.isEmpty then Idle P g cap/\hJ n U.d (.v fS) e L h λe L h=>GQ P n r ({target:=.fn (.func g) cap,args:=#[]}::a) e L h K else False
    |_=>False)
   |none=>iu P n U e L h λe L h=>GQ P n r a e L h K)
  |_,_=>iu P n U e L h λe L h=>GQ P n r a e L h K)
def MT(P:fk)(n:Nat):IR->Hj->List wt->cg->List LE->J->Prop
 |.seq a b,Q,c,e,L,h=>MT P n a (λx c e L h=>match x with|.normal=>MT P n b Q c e L h|x=>Q x c e L h) c e L h
 |.ck ops,Q,c,e,L,h=>GQ P n ops c e L h (Q .normal)
 |pj,Q,c,e,L,h=>dq P n pj (λx e L h=>Q x c e L h) e L h
section
variable {P:fk}{am:J}{bh:bD}{n:Nat}{β:Nat->Nat}{L:List LE}{h:J}{e:cg}{a:Act}{w:bD}
def PJ(P:fk)(am:J)(bh:bD)(n:Nat)(Q:Hj):Exit->Act->bD->Prop:=λx a w=>∃(a0:Act)(b:List wt),a={a0 with defers:=b}/\(∀d∈b,G4 P d)/\∃β e L h,dm am bh β L h w/\dF n β L e a0/\ei L/\Q x b e L h
theorem aH2{U:Oper}{next:Act->bD->Prop}{Q c:Exit->Act->bD->Prop}(h:U.wp P a w next Q)(b:∀x a w,Q x a w->c x a w):U.wp P a w next c:=by
 unfold CL at h⊢;generalize(dD a.eval U).run P w=r at h⊢;cases r with
 |ok x bz=>
  cases x with
  |enter f args=>
   rw[Oper.upon_enter]at h⊢;refine Calls.mono h (λd g hw=>?_);cases d with
   |returned v=>exact hw
   |panicked e=>grind
   |outgrown=>obtain⟨a,w,q⟩:=hw;exact⟨a,w,b _ _ _ q⟩
  |_=>exact h
 |halt x bz=>
  cases x with
  |panic v=>exact b _ _ _ h
  |_=>exact h
theorem aAX{U op:Op}(h:bW P U= .raw op)(a:NZ op≠none):U=op:=by
 cases U<;>simp only[bW]at h<;>(try cases h;rfl)<;>exfalso<;>revert h<;>(repeat' split)<;>intro h<;>cases h<;>simp[NZ]at a
theorem alh{ops:Array Oper}{Q:Hj}:∀l f β e L h a w,(∀d∈f,G4 P d)->dm am bh β L h w->dF n β L e a->ei L->GQ P n (l.map (gz P ops)) f e L h (Q .normal)->wpList P ops (PJ P am bh n Q) l {a with defers:=f} w
 |[],f,β,e,L,h,a,w,y,m,r,i,hp=>⟨a,f,rfl,y,β,e,L,h,m,r,i,hp⟩
 |U::l,f,β,e,L,h,a,w,y,m,r,i,hp=>by
  have A:=alh (ops:=ops) (Q:=Q) l;refine wpList_step λnext B=>?_
  have plain:iu P n (gz P ops U) e L h (λe L h=>GQ P n (l.map (gz P ops)) f e L h (Q .normal))->if ih U (mF ops ({a with defers:=f}:Act).tmps)then U.wp P {a with defers:=f} w next (PJ P am bh n Q)else next (({a with defers:=f}:Act).put U.dst fS) w:=by
   intro hp;have s:=MU (Q:=λ_ _ _=>False) (next:=λa w=>a.defers=[]/\next {a with defers:=f} w) (λβ e L h a w _ m r i hk=>⟨r.defers,B _ _ (A f β e L h a w y m r i hk)⟩) m r i hp;rw[show(mF ops ({a with defers:=f}:Act).tmps)=mF ops a.tmps from rfl];split;rename_i hw;rw[aS hw]at s;exact aH2 (WP f s λ_ _ q=>q) (by rintro x a w ⟨_,_,q⟩;grind);rename_i hw;rw[aC hw]at s;rw[Cc];grind
  rw[er]at hp;unfold GQ at hp;split at hp;rename_i op k hk;split at hp;rename_i x j;split at hp;rename_i g first cap G
  cases N:first.isEmpty with
  |false=>grind
  |true=>
   rw[N]at hp;obtain⟨F,hp⟩:=hp;have D:first=#[]:=aL
   subst D;unfold gz at hk k;cases u:yE ops U.guard with
   |none=>grind
   |some R=>
    rw[u]at hk k;simp only at hk k;subst k;have z:U.guard=none:=by
     cases z:U.guard with
     |none=>rfl
     |some M=>
      obtain⟨o,b⟩:=M;rw[z]at u
      grind [yE]
    have E:U.op=op:=aAX hk aL;have hw:ih U (mF ops ({a with defers:=f}:Act).tmps)=true:=by simp[ih,z]
    rw[aS hw];cases op with
    |defer c=>
     simp only[NZ]at j;split at j;rename_i H I O;injection j with j;subst j;have K:a.eval H= .func (.func g) #[] cap:=by rw[r.eval,G];rfl
     have J:c.args=#[]:=aL;unfold CL;rw[Od];have:(dD a.eval U).run P w= .ok (.defer {target:=.fn (.func g) cap,args:=#[]}) w:=by
      simp[dD,E,resolve,I,J,JD,K]
     rw[this,Oper.upon_defer];have p:∀d∈{target:=.fn (.func g) cap,args:=#[]}::f,G4 P d:=λd p=>by
      rcases ez.1 p with rfl|p;exact⟨g,cap,rfl,F⟩
      grind
     have:=kM (next:=λa w=>next {a with defers:={target:=.fn (.func g) cap,args:=#[]}::f} w) (C:=Any) (λβ e L h a w _ m r i hk=>B _ _ (A _ β e L h a w p m r i hk)) trivial m r i (x:=.v fS) trivial hp;show next (({a with defers:={target:=.fn (.func g) cap,args:=#[]}::f}:Act).put U.dst fS) w
     rw[Cc];have t:(gz P ops U).d=U.dst:=by unfold gz;rw[u]
     rw[t]at this;exact this
     grind
    |_=>cases j
  grind
  grind
  grind
theorem ald(F:P.follows .mixedOrders=true):∀c Q b β e L h a w,(∀d∈b,G4 P d)->dm am bh β L h w->dF n β L e a->ei L->MT P n (lower P cu c) Q b e L h->c.wp P (PJ P am bh n Q) {a with defers:=b} w:=by
 intro c;have j:∀(c:Code)(Q:Hj) b β e L h a w,(∀d∈b,G4 P d)->dm am bh β L h w->dF n β L e a->ei L->dq P n (lower P cu c) (λx e L h=>Q x b e L h) e L h->c.wp P (PJ P am bh n Q) {a with defers:=b} w:=by
  intro c Q b β e L h a w i m r g hp;refine yV (ale b F c _ β e L h a w m r g hp) ?_;rintro ex _ bz ⟨u,rfl,s,p,l,aa,o,t,v,q⟩;exact⟨u,b,rfl,i,s,p,l,aa,o,t,v,q⟩
 induction c with
 |seq x y C D=>
  intro Q b β e L h a w i m r g hp;refine wp_seq (yV (C _ b β e L h a w i m r g hp) ?_);rintro ex _ bz ⟨u,A,rfl,k,s,p,l,aa,o,t,v,B⟩;cases ex with
  |normal=>exact D Q A s p l aa u bz k o t v B
  |_=>exact⟨u,A,rfl,k,s,p,l,aa,o,t,v,B⟩
 |region id ops d=>
  intro Q b β e L h a w i m r g hp;cases d with
  |false=>exact wp_region_list (alh ops.toList b β e L h a w i m r g hp)
  |true=>
   refine j _ Q b β e L h a w i m r g ?_;simp only[lower]at hp⊢;split at hp;rename_i z;rw[aS z];exact hp;rename_i z;rw[aC z];exact hp
 |skip=>exactλQ b β e L h a w i m r g hp=>j _ Q b β e L h a w i m r g hp
 |cond=>exactλQ b β e L h a w i m r g hp=>j _ Q b β e L h a w i m r g hp
 |block=>exactλQ b β e L h a w i m r g hp=>j _ Q b β e L h a w i m r g hp
 |loop=>exactλQ b β e L h a w i m r g hp=>j _ Q b β e L h a w i m r g hp
 |rangeFunc f E x y=>intro Q b β e L h a w i m r g hp;cases E;exact j _ Q b β e L h a w i m r g hp
 |exit=>exactλQ b β e L h a w i m r g hp=>j _ Q b β e L h a w i m r g hp
 |scope=>exactλQ b β e L h a w i m r g hp=>j _ Q b β e L h a w i m r g hp
 |label=>exactλQ b β e L h a w i m r g hp=>j _ Q b β e L h a w i m r g hp
 |goto=>exactλQ b β e L h a w i m r g hp=>j _ Q b β e L h a w i m r g hp
 |ret=>exactλQ b β e L h a w i m r g hp=>j _ Q b β e L h a w i m r g hp
 |refuse=>exactλQ b β e L h a w i m r g hp=>j _ Q b β e L h a w i m r g hp
theorem Alike.refl w:Alike w w:=⟨rfl,rfl,rfl,rfl⟩
theorem Alike.trans{a b c:bD}(x:Alike a b)(y:Alike b c):Alike a c:=⟨y.heap.trans x.heap,y.os.trans x.os,y.tape.trans x.tape,y.output.trans x.output⟩
theorem aFa{w bz:bD}(x:Alike w bz){i:Nat}{l:LE}(h:l.fX β i w):l.fX β i bz:=by
 simp_all[LE.fX,x.heap,World.ownsRow]
theorem dm.alike{bz:bD}(m:dm am bh β L h w)(x:Alike w bz):dm am bh β L h bz:=⟨⟨λo U a=>by rw[x.heap];exact m.cJ.hw o U a,λi l al=>aFa x (m.cJ.cJ i l al)⟩,m.hole,m.inj,λi l al c=>by rw[x.heap];exact m.lt i l al c,m.df,x.os.trans m.os,x.tape.trans m.tape,x.output.trans m.output,by rw[x.heap];exact m.size,λo a b=>by rw[x.heap];exact m.frame o a b,m.fresh⟩
theorem VY{fn:Func}{tmps:Array aA}{au:Ending->bD->Prop}:∀a w,(∀d∈a,G4 P d)->(∀bz,Alike w bz->∃v,(results fn tmps).run P bz= .ok v bz/\au (.returned v) bz)->Leaves P fn tmps au a .returning w
 |[],w,_,h=>h w (.refl w)
 |d::a,w,b,h=>by
  obtain⟨g,cap,rfl,k,j⟩:=b d bc;refine leaves_cons bc (f:=g) (args:=#[]++cap) ?_ ?_;simp only[invoke];exact Cj k;rw[alA];refine alK (j w) ?_;rintro e u bz ⟨⟨v,rfl⟩,rfl,c⟩;exact VY a bz (λd i=>b d (by simp[i])) λl x=>h l (c.trans x)
def aHQ(P:fk)(rs:List CN)(Q:aA->J->Prop):Hj:=λx _ e L h=>wi P rs Q x e L h
theorem al6.intro{f:mT}{fn:Func}{c:Code}{pj:IR}{rs:List CN}{args:List aA}{h:J}{Q:aA->J->Prop}(O:P.follows .mixedOrders=true)(j:P.funcs[f]?=some fn)(C:fn.body=some c)(s:(fn.name== "runtime.NumGoroutine")=false)(y:fn.ntmps=n)(x:fn.results.toList=rs)(r:lower P cu c=pj)(N:qQ args.length n=true)(M:MT P n pj (aHQ P rs Q) [] (tm args) [] h):Fn P f args.toArray h Q:=by
 refine⟨⟨fn,j,aL,s⟩,λw hw=>?_⟩;subst r;subst x;subst y;refine apF j C ?_;have m:dm h w (λ_=>0) [] h w:=⟨⟨hw,(λi l al=>by cases al)⟩,(λi l al=>by cases al),(λi o l cC al=>by cases al),(λi l al=>by cases al),(λi l al=>by cases al),rfl,rfl,rfl,dM _,(λ_ _ _=>rfl),(λo A=>.inl A)⟩;have z:ei []:=λi cs ty B=>by cases B
 have D:=ald O (am:=h) (bh:=w) (n:=fn.ntmps) c _ [] (λ_=>0) (tm args) [] h _ w bc m (KE (za N) _) z M;refine yV D ?_;rintro ex _ bz ⟨F,g,rfl,K,β,e,L,aa,b,E,q,a⟩;have fin:yU P fn.results.toList [] e L aa (λgb=>nt 40 gb (λL h=>match pY L gb with
  |some aI=>hL (λ_ h=>Q (kL aI) h) L h
  |none=>False) L aa)->Leaves P fn F.tmps (λe bz=>∃v aa,e= .returned v/\Q v aa/\Ext h w aa bz) g .returning bz:=by
  refineλt=>VY g bz K λbz u=>?_
  have b:=b.alike u
  obtain⟨gb,k,S,p⟩:=Jx b E q _ _ [] t bc
  simp only[JV]at k
  obtain⟨T,h1,d,m1,H,V,_⟩:=yK gb _ _ _ b q k
  split at d
  rename_i aI G
  have av:=yL m1.cJ gb aI G
  obtain⟨W,U,ae,I,m2,_,_,_⟩:=tW d β m1 H
  rw[av]at p
  exact⟨_,QF p,_,ae,rfl,I,⟨m2.cJ.hw,m2.os,m2.tape,m2.output,m2.size,m2.frame,m2.fresh⟩⟩
  grind
 cases ex with
 |normal=>exact fin a
 |ret=>exact fin a
 |exit id=>exact a.elim
 |goto l=>exact a.elim
 |panic R=>exact a.elim
 |outgrown=>exact a.elim
def CM(P:fk)(d:wt)(v:aA)(h:J)(Q:J->Prop):Prop:=∃g cap,d={target:=.fn (.func g) cap,args:=#[]}/\(∃fn,P.funcs[g]?=some fn/\fn.body.isSome=true/\(fn.name== "runtime.NumGoroutine")=false)/\∀w,n2 h w->CallsD P g cap (.panicking [{v:=v,recovered:=false}]) w λe u bz=>(∃r,e= .returned r)/\u= .panicking [{v:=v,recovered:=true}]/\∃aa,Q aa/\Ext h w aa bz
def alc(P:fk)(rs:List CN)(Q:aA->J->Prop):Hj:=λx a e L h=>match x,a with
 |.panic [p],[d]=>p={v:=p.v,recovered:=false}/\CM P d p.v h λaa=>wi P rs Q .ret e L aa
 |x,_=>wi P rs Q x e L h
theorem al7.intro{f:mT}{fn:Func}{c:Code}{pj:IR}{rs:List CN}{args:List aA}{h:J}{Q:aA->J->Prop}(Z:P.follows .mixedOrders=true)(y:P.funcs[f]?=some fn)(q:fn.body=some c)(D:(fn.name== "runtime.NumGoroutine")=false)(G:fn.ntmps=n)(F:fn.results.toList=rs)(C:lower P cu c=pj)(Y:qQ args.length n=true)(X:MT P n pj (alc P rs Q) [] (tm args) [] h):Fn P f args.toArray h Q:=by
 refine⟨⟨fn,y,aL,D⟩,λw hw=>?_⟩;subst C;subst F;subst G;refine apF y q ?_;have m:dm h w (λ_=>0) [] h w:=⟨⟨hw,(λi l al=>by cases al)⟩,(λi l al=>by cases al),(λi o l cC al=>by cases al),(λi l al=>by cases al),(λi l al=>by cases al),rfl,rfl,rfl,dM _,(λ_ _ _=>rfl),(λo K=>.inl K)⟩;have I:ei []:=λi cs ty M=>by cases M
 have N:=ald Z (am:=h) (bh:=w) (n:=fn.ntmps) c _ [] (λ_=>0) (tm args) [] h _ w bc m (KE (za Y) _) I X;refine yV N ?_;rintro ex _ bz ⟨t,s,rfl,W,β,e,L,aa,b,R,B,a⟩;have j:∀aa bz,dm h w β L aa bz->yU P fn.results.toList [] e L aa (λgb=>nt 40 gb (λL h=>match pY L gb with
  |some aI=>hL (λ_ h=>Q (kL aI) h) L h
  |none=>False) L aa)->∃v,(results fn t.tmps).run P bz= .ok v bz/\∃u ae,Ending.returned v= .returned u/\Q u ae/\Ext h w ae bz:=by
  intro aa bz b k
  obtain⟨gb,z,bS,A⟩:=Jx b R B _ _ [] k bc
  simp only[JV]at z
  obtain⟨hK,h1,x,m1,U,pt,_⟩:=yK gb _ _ _ b B z
  split at x
  rename_i aI T
  have av:=yL m1.cJ gb aI T
  obtain⟨rp,nx,ae,V,m2,_,_,_⟩:=tW x β m1 U
  rw[av]at A
  exact⟨_,QF A,_,ae,rfl,V,⟨m2.cJ.hw,m2.os,m2.tape,m2.output,m2.size,m2.frame,m2.fresh⟩⟩
  grind
 have fin:wi P fn.results.toList Q .ret e L aa->Leaves P fn t.tmps (λe bz=>∃v aa,e= .returned v/\Q v aa/\Ext h w aa bz) s .returning bz:=λk=>VY s bz W λbz E=>j _ _ (b.alike E) k;have uD:(∃p d,ex= .panic [p]/\s=[d]/\p={v:=p.v,recovered:=false}/\CM P d p.v aa λaa=>wi P fn.results.toList Q .ret e L aa)\/wi P fn.results.toList Q ex e L aa:=by
  unfold alc at a
  grind
 rcases uD with⟨p,d,rfl,rfl,hp,g,cap,rfl,q,O⟩|a;show Leaves P fn t.tmps _ [_] (.panicking [p]) bz;refine leaves_cons bc (f:=g) (args:=#[]++cap) ?_ ?_;simp only[invoke];exact Cj q;rw[alA,hp];refine alK (O bz b.cJ.hw) ?_;rintro aR u gT ⟨⟨r,rfl⟩,rfl,ae,H,S⟩;exact j _ _ (b.ext S) H;cases ex with
 |normal=>exact fin a
 |ret=>exact fin a
 |exit id=>exact a.elim
 |goto l=>exact a.elim
 |panic C8=>exact a.elim
 |outgrown=>exact a.elim
end
end Go.Sx
namespace Go.Sx
set_option maxRecDepth 100000
set_option maxHeartbeats 0
set_option linter.all false
variable {x y:Nat}
abbrev eG(n:Nat):aA:=bC .u64 n
theorem M1 z:IntKind.u64.wrap z=z%18446744073709551616:=dW
theorem Ro{n:Nat}(h:n<18446744073709551616):IntKind.u64.wrap n=n:=by rw[M1];omega
section
variable {P:fk}{w:bD}{t:Nat}
theorem aHw(a:y≠0):(binOp .rem t (eG x) (eG y)).run P w= .ok (eG (x%y)) w:=by
 simp[binOp,Op.intDiv,a];rw[Int.tmod_eq_emod_of_nonneg I]
theorem Re(a:y≠0)(b:x<18446744073709551616):(binOp .quo t (eG x) (eG y)).run P w= .ok (eG (x/y)) w:=by
 simp[binOp,Op.intDiv,a];rw[show(x:Int)/(y:Int)=((x/y:Nat):Int) by simp,Ro (Nat.lt_of_le_of_lt (Nat.div_le_self _ _) b)]
theorem Eo{k:IntKind}(a:y<=64):(binOp .shr t (eG x) (bC k y)).run P w= .ok (eG (x/2^y)) w:=by
 have:min ((y:Int).toNat) IntKind.u64.bits=y:=by simp[RQ];omega
 simp only[binOp,Op.shift,this];simp;rw[Int.fdiv_eq_ediv_of_nonneg _ (Int.pow_nonneg aH),aC I];simp
theorem aHx{k:IntKind}(a:y<=64)(h:x*2^y<18446744073709551616):(binOp .shl t (eG x) (bC k y)).run P w= .ok (eG (x*2^y)) w:=by
 have:min ((y:Int).toNat) IntKind.u64.bits=y:=by simp[RQ];omega
 simp only[binOp,Op.shift,this];simp;rw[show(x:Int)*2^y=((x*2^y:Nat):Int) by simp,Ro h,aC I]
theorem akV(h:y<=x)(a:x<18446744073709551616):(binOp .sub t (eG x) (eG y)).run P w= .ok (eG (x-y)) w:=by
 simp[binOp,Op.intArith,M1];omega
theorem aHv(b:x<18446744073709551616)(a:y<18446744073709551616):(binOp .or t (eG x) (eG y)).run P w= .ok (eG (x|||y)) w:=by
 simp[binOp,anj];have h1:x%2^IntKind.u64.bits=x:=J1 b;have ae:y%2^IntKind.u64.bits=y:=J1 a;rw[h1,ae,Ro];exact Nat.or_lt_two_pow (n:=64) b a
theorem Rd(b:x<18446744073709551616)(a:y<18446744073709551616):(binOp .and t (eG x) (eG y)).run P w= .ok (eG (x&&&y)) w:=by
 simp[binOp,anj];have h1:x%2^IntKind.u64.bits=x:=J1 b;have ae:y%2^IntKind.u64.bits=y:=J1 a;rw[h1,ae,Ro];exact Nat.and_lt_two_pow (n:=64) x a
end
end Go.Sx
