/- A part of the proof that the statement holds. Conditions: none. -/
import Derived.Laws.StructEq
import Derived.Test.YtlbdbpaelcnfgaaGreatDoorAR
open Bool renaming and_eq_true->iv,false_and->Cv,false_or->alF,true_and->AP
open Classical renaming not_not->kc
open Go renaming Addr->aE,Program->fk,Value->aA,maxLen->eQ,run_equalIn_int->XC,run_underlying->hg
open Go.Obj renaming cells->bb
open Go.Proofs.Tryz renaming prog->aD
open Go.Value renaming bool->dh,int->bC,oneCell'->Bd,slice->ab,tuple->eA
open Int renaming le_ediv_iff_mul_le->Ze,mul_comm->amj,mul_nonneg->amk,natCast_add->Ni,toNat->CD,toNat_natCast->bn
open List renaming all_eq_true->se,append_assoc->mg,append_nil->sf,dropLast_cons_of_ne_nil->amq,drop_eq_getElem_cons->l1,drop_length->RX,ext_getElem->vj,flatten_append->wy,flatten_cons->qN,getD_cons_succ->amy,getD_eq_getElem?_getD->cc,getElem?_append_left->G5,getElem?_append_right->G6,getElem?_eq_getElem->bK,getElem?_eq_none->l2,getElem?_eq_some_iff->qO,getElem?_map->de,getElem?_set_self->JP,getElem_mem->b3,getElem_of_mem->n4,getElem_set->s6,length->fv,length_append->fb,length_cons->iJ,length_drop->mU,length_eq_zero_iff->R3,length_map->fj,length_nil->R4,length_reverse->Zn,length_set->fI,map_append->fw,map_cons->er,map_set->kB,map_singleton->JS,mem_append->eI,mem_append_left->wz,mem_append_right->xN,mem_cons->ez,mem_map->cO,mem_singleton->hZ,nil_append->JV,range->fJ,replicate->bp,reverse_cons->R8,set_append_right->vm,size_toArray->amR,sum_append->amS,sum_cons->amT,take_append_drop->Ha,take_left->A5,take_length->rv,zipWith->sh
open List.Perm renaming nodup_iff->amo
open List.cons renaming injEq->A1
open Nat renaming add_mul->CI,add_sub_cancel_left->CJ,add_zero->A6,beq->ix,le_max_left->am5,le_refl->dM,lt_succ_self->A8,mul_add->am9,mul_le_mul_left->Sc,mul_le_mul_right->vn,mul_one->e4,not_lt_zero->CK,sub_self->xQ,sub_zero->anc,zero_add->dZ,zero_le->cU,zero_mul->Hd
open Ne renaming symm->eh
open Option renaming bind_some->ue,getD_some->pB
open Or renaming inl->bQ,inr->ba
open Prod renaming fst->hE,snd->dV
open Prod.mk renaming injEq->Hk
namespace Go.Sx
open Go.Proofs
set_option maxRecDepth 100000
set_option maxHeartbeats 0
set_option linter.all false
variable {am h:J}{ep:List Int}{L:List LE}{bk:List dv}{a a1 b c dn n op:Nat}{A:Option aE}{F:aA}{g:dd}
def Cm(N:Nat)(ad:List b2)(a:List Nat):Nat->List Int->List Nat->List Nat->List Nat×List Nat
 |0,_,left,l=>(left,l)
 |n+1,f,left,l=>match qa N ad (dP ad f) left a N with
  |none=>(left,l)
  |some v=>Cm N ad a n (bump f v) (left.set v (left.getD v 0-1)) (l++[v])
def tX(N:Nat)(ad:List b2)(eF:List Nat)(az:List Int):Option (List Nat):=
 if fF N ad=0/\eF.length=N/\BO ad eF=true/\eF.sum<=2048/\(∀z∈az,0<=z/\z<N)then(if∀x∈(Cm N ad (Cf N az) (eF.sum+1) (bp N 0) eF []).1,x=0 then some (Cm N ad (Cf N az) (eF.sum+1) (bp N 0) eF []).2 else none)else none
theorem aau{N:Nat}{ad:List b2}{dc:List Int}{left a:List Nat}:∀{w v:Nat},qa N ad dc left a w=some v->0<left.getD v 0/\yF N ad dc v=true
 |0,v,h=>by cases h
 |w+1,v,h=>by
  unfold qa at h;split at h;rename_i av;injection h with h;subst h;simp only[iv,vx]at av;exact⟨av.1,av.2.1⟩;exact aau h
theorem aF3(l:List Nat):∀v,v<l.length->0<l.getD v 0->(l.set v (l.getD v 0-1)).sum+1=l.sum:=by
 induction l with
 |nil=>intro v h;simp at h
 |cons a l b=>
  intro v h hp;cases v with
  |zero=>simp at hp⊢;omega
  |succ v=>
   have:=b v (by simpa using h) (by simpa using hp);simp only[List.set_cons_succ,amT,amy];omega
theorem aj6{c:J}{gt bx o:Nat}{t f:List Int}(h1:o≠gt)(ae:o≠bx) U:(st c gt bx t f).put o U=st (c.put o U) gt bx t f:=by
 funext k;unfold st J.put;by_cases a:k=o;subst a;simp[h1,ae];by_cases b:k=bx;subst b;simp[a];by_cases d:k=gt;subst d;simp[a,b];simp[a,b,d]
def ZI(h:J)(N:Nat)(ad:List b2)(eF:List Nat)(az:List Int)(v:aA)(aa:J):Prop:=h.le aa/\match tX N ad eF az with
 |some l=>l.length<=2048/\∃A c,v=eA #[.agg #[ab A l.length c,ab none 0 0],R 0]/\bg aa 1 A l.length (l.map λz:Nat=>[R (z:Int)])
 |none=>∃(b:Option aE)(a c2:Nat)(A:Option aE)(k c:Nat)(e:Int),v=eA #[.agg #[ab b a c2,ab A k c],R e]/\¬(e=0/\k=0)
theorem acH(l:List Nat):(l.map λz:Nat=>[R z]).flatten=l.map λz:Nat=>R z:=by
 induction l with
 |nil=>rfl
 |cons a l b=>rw[er,qN,b];rfl
theorem XZ{b:J}{gt bx o:Nat}{t f:List Int}(a:gt≠bx)(h:st b gt bx t f o=none):o≠gt/\o≠bx:=by
 constructor;intro e;subst e;rw[GH a]at h;cases h;intro e;subst e;rw[Jm]at h;cases h
theorem ass(l:List Nat):∀v,l.getD v 0<=l.sum:=by
 induction l with
 |nil=>intro v;simp
 |cons a l b=>
  intro v;cases v with
  |zero=>simp
  |succ v=>have:=b v;simp only[amy,amT];omega
theorem ay{P:fk}{x y:IR}{Q:mi}{e:cg}(k:∀a,(∀e L h,dq P n y Q e L h->a .normal e L h)->(∀ex e L h,ex≠.normal->Q ex e L h->a ex e L h)->dq P n x a e L h):dq P n (.seq x y) Q e L h:=k (λex e L h=>match ex with|.normal=>dq P n y Q e L h|ex=>Q ex e L h) (λ_ _ _ q=>q) (λex _ _ _ b q=>by cases ex<;>first|exact absurd rfl b|exact q)
theorem ew{P:fk}{id:Nat}{x:IR}{Q:mi}{e:cg}(k:∀a,(∀e L h,Q .normal e L h->a (.exit id) e L h)->(∀ex e L h,ex≠.exit id->Q ex e L h->a ex e L h)->dq P n x a e L h):dq P n (.block id x) Q e L h:=by
 refine k (λex e L h=>match ex with|.exit o=>bif ix o id then Q .normal e L h else Q (.exit o) e L h|ex=>Q ex e L h) (λe L h q=>?_) (λex e L h b q=>?_);show(bif ix id id then Q .normal e L h else Q (.exit id) e L h);rw[Nat.beq_refl];exact q;cases ex with
 |exit o=>
  show(bif ix o id then Q .normal e L h else Q (.exit o) e L h);rw[show ix o id=false from Bool.eq_false_iff.2 λq=>b (by rw[Nat.eq_of_beq_eq_true q])];exact q
 |_=>exact q
theorem aEH Q(e:cg)(m n T gw b gt bx a i c1:Nat) A sp ad eF j bs C w(an:fF m ad=0)(w6:m<=32)(yp:ad.length<=96)(kN:tc bs b gt bx m ad)(mo:bs gw=none)(ij:bs a=none)(LV:bs.le C)(E:C gt=none)(D:C bx=none)(bM:xU C gw b a i m c1 sp eF j (ab none 0 0))(DF:eF.sum<=2048)(Oy:w=Cm m ad j (eF.sum+1) (bp m 0) eF [])(P4:a≠gw)(Wm:a≠i)(he:[6,16,17].map e=[.p 1 0,.p 4 0,.v (R (C3 (qa m ad (dP ad (bp m 0)) eF j m)))])(cF:∀e c f B ey,bs.le c->c gt=none->c bx=none->f.length=m->xU c gw b a i m c1 sp w.1 j (ab B w.2.length ey)->w.2.length<=2048->e 6= .p 1 0->e 16= .p 4 0->Q (.exit 4) e [.own [.v (R m),.v (ab A n T)] 33,.own [.v (ab none 0 0),.v (ab none 0 0)] 85,.gone,.gone,.b5 gw,.row 3 1 B w.2.length ey (w.2.map λz:Nat=>R z)] (st c gt bx (dP ad f) f)):jk (λQ e L h=>dq aD 124 afn Q e L h) Q e [.own [.v (R m),.v (ab A n T)] 33,.own [.v (ab none 0 0),.v (ab none 0 0)] 85,.gone,.gone,.b5 gw,.row 3 1 none 0 0 []] (st C gt bx (dP ad (bp m 0)) (bp m 0)):=by
 have g0:Good m ad (bp m 0) 0:=Fk an;refine .mk (Int×List Int×List Nat×List Nat×Option aE×Nat×J×Nat) [6,16,17] (λ(z,_)=>[.p 1 0,.p 4 0,.v (R z)]) (λ(_,_,_,l,B,ey,_,_)=>[.own [.v (R m),.v (ab A n T)] 33,.own [.v (ab none 0 0),.v (ab none 0 0)] 85,.gone,.gone,.b5 gw,.row 3 1 B l.length ey (l.map λz:Nat=>R (z:Int))]) (λ(z,f,left,l,B,ey,c,d) aa=>z=C3 (qa m ad (dP ad f) left j m)/\aa=st c gt bx (dP ad f) f/\bs.le c/\c gt=none/\c bx=none/\Good m ad f l.length/\xU c gw b a i m c1 sp left j (ab B l.length ey)/\left.sum+l.length=eF.sum/\Cm m ad j d f left l=w/\left.sum<d) (λ(_,_,_,_,_,_,_,d)=>d) (_,bp m 0,eF,[],none,0,C,eF.sum+1) (λ_=>rfl) ⟨rfl,rfl,LV,E,D,g0,bM,bc,Oy.symm,I⟩ he rfl ?_;rintro⟨z,f,left,l,B,ey,c,d⟩ di cr ⟨o,rfl,Z,E,D,tq,Y,xc,O8,aJq⟩;have hs:l.length<=2048:=I;show dq aD 124 afn _ (mE di [6,16,17] [.p 1 0,.p 4 0,.v (R z)]) [.own [.v (R m),.v (ab A n T)] 33,.own [.v (ab none 0 0),.v (ab none 0 0)] 85,.gone,.gone,.b5 gw,.row 3 1 B l.length ey (l.map λz:Nat=>R (z:Int))] (st c gt bx (dP ad f) f);refine ay λfy cM d9=>aW (λmR=>?_) (λmR=>?_);cases y:qa m ad (dP ad f) left j m with
 |none=>rw[y]at o;simp[C3]at o;omega
 |some v=>
  have X:z=(v:Int):=by rw[o,y];rfl
  clear o;have o:=y;obtain⟨zK,auE⟩:=aau o;have Vb:=SG o;have N:may m ad f v=true:=auE;obtain⟨d,rfl⟩:∃g,d=g+1:=⟨d-1,I⟩;have M:Cm m ad j d (bump f v) (left.set v (left.getD v 0-1)) (l++[v])=w:=by rw[<-O8,Cm,o]
  have cP:=ass left v;have ava:=aF3 left v (by rw[Y.hf];exact Vb) zK;have asq:=tq.bump an N;have aso:oI m ad [z] f=(1,bump f v):=by rw[X,HW N,bn]
  have aA2:c.le (st c gt bx (dP ad f) f):=J.kI E D;refine cM _ _ _ (ay λfz cL eZ=>ew λfE dR dH=>ay λgF du gN=>.hp _ (b1 (aA2 _ _ Y.box) rfl) (.mk λa' atA=>?_));have CY:At c c b gt bx m ad f l.length:=⟨J.le_refl _,kN.mono Z E D,tq⟩;refine .ag (.mk _ (HU an CY I z atA) ?_);rintro _ eX ⟨rfl,F,rfl,G⟩;rw[aso]at G⊢;simp only at G⊢;have k:=Y.mono G.le;obtain⟨_,_,_,_,_,_,_,_,u⟩:=G.kN.ex;have Wa:=J.kI (dc:=dP ad (bump f v)) (cW:=bump f v) u.o9 u.o8;have lD:=DQ (WC (Wa _ _ k.mw) k.hf) rfl Vb;refine du _ _ _ (ay λgL ed gG=>.hp _ (b1 (Wa _ _ k.box) rfl) ?_);have V:=k.box;have H:gw≠gt:=λe=>by rw[e,u.o9]at V;cases V
  have K:gw≠bx:=λe=>by rw[e,u.o8]at V;cases V
  have W:=k.mw;have O:a≠gt:=λe=>by rw[e,u.o9]at W;cases W
  have P:a≠bx:=λe=>by rw[e,u.o8]at W;cases W
  generalize left.getD v 0=x at lD zK ava M cP;refine .r (.hp (R x) (by rw[X,bn];exact lD) (.bl (.r ?_)));have aCi:over ((left.map λz:Nat=>R (z:Int))++sp) v [R ((x:Int)-1)]=some (((left.set v (x-1)).map λz:Nat=>R (z:Int))++sp):=by
   rw[io _ _ _ (by simp[k.hf];omega),List.set_append_left _ _ (by simp[k.hf];exact Vb),kB,show(x:Int)-1=((x-1:Nat):Int) by omega]
  refine .hp a v 3 _ _ (by show(Addr.mk a 0 none).add (z.toNat*1)=_;rw[X,bn,add_lit,dZ,e4]) (Wa _ _ k.mw) aCi ?_;rw[aj6 O P];have S:bs.le (F.put a (bb (((left.set v (x-1)).map λz:Nat=>R (z:Int))++sp).toArray 3 (0,0))):=lK ij (J.le_trans Z G.le);have s:xU (F.put a (bb (((left.set v (x-1)).map λz:Nat=>R (z:Int))++sp).toArray 3 (0,0))) gw b a i m c1 sp (left.set v (x-1)) j (ab B l.length ey):=⟨by rw[J.cD _ _ (eh P4)];exact k.box,J.b8 _ _ _,by rw[J.cD _ _ (eh Wm)];exact k.Cg,by simp[k.hf],k.yM⟩;have jS:(F.put a (bb (((left.set v (x-1)).map λz:Nat=>R (z:Int))++sp).toArray 3 (0,0))) gt=none:=by rw[J.cD _ _ (eh O)];exact u.o9
  have z2:(F.put a (bb (((left.set v (x-1)).map λz:Nat=>R (z:Int))++sp).toArray 3 (0,0))) bx=none:=by rw[J.cD _ _ (eh P)];exact u.o8
  generalize F.put a (bb (((left.set v (x-1)).map λz:Nat=>R (z:Int))++sp).toArray 3 (0,0))=U at S s jS z2;have L3:=J.kI (dc:=dP ad (bump f v)) (cW:=bump f v) jS z2;refine ed _ _ _ (.hp _ (b1 (L3 _ _ s.box) rfl) (.ag (.c0 5 _ [R z] rfl rfl (by simp[Bd,R]) (by simp[eQ];omega) I λt q aI4=>.hp gw 3 182 _ [iR b,ab (some ⟨a,0,none⟩) m c1,ab (some ⟨i,0,none⟩) m m,ab t (l.length+1) q] rfl (L3 _ _ s.box) rfl ?_)));rw[aj6 H K];have VW:bs.le (U.put gw (bb [iR b,ab (some ⟨a,0,none⟩) m c1,ab (some ⟨i,0,none⟩) m m,ab t (l.length+1) q].toArray 182 (0,0))):=lK mo S;have aBC:i≠gw:=λe=>by have:=s.Cg;rw[e,s.box]at this;injection this with this;injection this with _ this;exact absurd this aH
  have Xk:xU (U.put gw (bb [iR b,ab (some ⟨a,0,none⟩) m c1,ab (some ⟨i,0,none⟩) m m,ab t (l.length+1) q].toArray 182 (0,0))) gw b a i m c1 sp (left.set v (x-1)) j (ab t (l.length+1) q):=⟨J.b8 _ _ _,by rw[J.cD _ _ P4];exact s.mw,by rw[J.cD _ _ aBC];exact s.Cg,s.hf,s.yM⟩;have fT:(U.put gw (bb [iR b,ab (some ⟨a,0,none⟩) m c1,ab (some ⟨i,0,none⟩) m m,ab t (l.length+1) q].toArray 182 (0,0))) gt=none:=by rw[J.cD _ _ (eh H)];exact jS
  have gJ:(U.put gw (bb [iR b,ab (some ⟨a,0,none⟩) m c1,ab (some ⟨i,0,none⟩) m m,ab t (l.length+1) q].toArray 182 (0,0))) bx=none:=by rw[J.cD _ _ (eh K)];exact z2
  generalize U.put gw (bb [iR b,ab (some ⟨a,0,none⟩) m c1,ab (some ⟨i,0,none⟩) m m,ab t (l.length+1) q].toArray 182 (0,0))=as4 at VW Xk fT gJ;refine dH _ _ _ _ nofun (cL _ _ _ (.ag (.mk _ (aat (kN.mono VW fT gJ) Xk (dP ad (bump f v)) (bump f v) (rj _ _) yp I) ?_)));rintro _ _ ⟨rfl,rfl⟩;refine⟨(_,bump f v,left.set v (x-1),l++[v],t,q,as4,d),rfl,?_,⟨rfl,rfl,VW,fT,gJ,by rw[fb];exact asq,by rw[fb];exact Xk,by rw[fb];simp only[iJ,R4];omega,M,by show(left.set v (x-1)).sum<d;omega⟩,by show d<d+1;omega⟩;show _=[LE.own [.v (R m),.v (ab A n T)] 33,LE.own [.v (ab none 0 0),.v (ab none 0 0)] 85,LE.gone,LE.gone,LE.b5 gw,LE.row 3 1 t (l++[v]).length q ((l++[v]).map λz:Nat=>R (z:Int))];rw[fw,fb,X];rfl
 obtain⟨d,rfl⟩:∃g,d=g+1:=⟨d-1,I⟩;cases y:qa m ad (dP ad f) left j m with
 |some v=>rw[y]at o;simp[C3]at o;omega
 |none=>
  rw[Cm,y]at O8;subst O8;exact d9 _ _ _ _ nofun (cF _ c f B ey Z E D tq.len Y hs rfl rfl)
theorem aEF(N n D m c k c2:Nat) A au P ad eF az h(aw:bg h 5 A n (ad.map b2.cells))(aF:n*40<=140737488355328)(Z:bg h 1 au m (eF.map λz:Nat=>[R z]))(aq:∀q∈eF,q<=1000000)(hm:m<=1000)(p2:bg h 1 P k (az.map λz=>[R z]))(hk:k<=70368744177664):Fn aD 23 #[nQ N A n D,ab au m c,ab P k c2] h λv aa=>ZI h N ad eF az v aa:=by
 have al:ad.length=n:=by simpa using aw.len
 have BJ:eF.length=m:=by simpa using Z.len
 have aJG:az.length=k:=by simpa using p2.len
 have y:∀(aa:J)(e:Int),h.le aa->tX N ad eF az=none->e≠0->ZI h N ad eF az (eA #[.agg #[ab none 0 0,ab none 0 0],R e]) aa:=λaa e le iH he=>⟨le,by rw[iH];exact⟨none,0,0,none,0,0,e,rfl,λq=>he q.1⟩⟩;refine bU afP rfl (.ag (.mk _ (auM N n D m c A au ad eF h aw I Z aq hm) ?_));rintro _ _ ⟨rfl,rfl⟩;by_cases w:fF N ad≠0;rw[aS w];refine aW (λq=>?_) (λq=>absurd w q);exact .ag (y _ _ (J.le_refl _) (by rw[tX,aC (λq=>w q.1)]) w);rw[aC w];have V:=kc.1 w;obtain⟨KY,w6,yp,e7⟩:=mM V;by_cases t:m≠N;rw[aS t];exact .ag (y _ _ (J.le_refl _) (by rw[tX,aC (λq=>t I)]) aH);rw[aC t];have t:=kc.1 t;subst t;cases hH:BO ad eF;exact .ag (y _ _ (J.le_refl _) (by rw[tX,aC (λq=>by rw[hH]at q;cases q.2.2.1)]) aH);have U4:∀q∈eF,q<=4096:=λq aB=>by
  simp only[BO,iv,se,Gu,vx]at hH;exact(hH.1 q aB).2
 have DF:∀i,(eF.take i).sum<=i*4096:=λi=>by
  induction i with
  |zero=>simp
  |succ i bI=>
   rw[List.take_add_one,amS];have:(eF[i]?.toList).sum<=4096:=by
    cases he:eF[i]?with
    |none=>simp
    |some x=>simp;exact U4 x (List.mem_of_getElem? he)
   omega
 refine .mk Nat [1,2,3,6,10,32,33,34] (λi=>[.v (ab au m c),.v (ab P k c2),.p 0 0,.p 1 0,.v (R ((eF.take i).sum:Nat)),.v (ab au m c),.v (R m),.v (R i)]) (λ_=>[.own [.v (R m),.v (ab A n D)] 33,.own [.v (ab none 0 0),.v (ab none 0 0)] 85]) (λi aa=>aa=_/\i<=m) (λi=>m-i) 0 (λ_=>rfl) ⟨rfl,cU _⟩ rfl rfl ?_;rintro i e h1 ⟨rfl,ai⟩;refine aW (λq=>?_) (λq=>?_);have a:i<eF.length:=I;obtain⟨g,T⟩:=Z.b4 I;have wY:=DQ Z T (i:=i) I;have j:eF.getD i 0=eF[i]:=by rw[cc,bK a];rfl
 rw[j]at wY;have E:(eF.take (i+1)).sum=(eF.take i).sum+eF[i]:=by rw[lz a,amS];simp
 have aj:=U4 _ (b3 a);have dy:=DF i;generalize eF[i]=x at wY E aj;generalize(eF.take i).sum=s at E dy;refine .m g T ?_;refine .hp _ (by rw[bn];exact wY) ?_;refine .bl ?_;refine .bl ?_;refine⟨i+1,?_,rfl,⟨rfl,I⟩,by show m- (i+1)<m-i;omega⟩;rw[E];show[_,_,_,_,aN.v (R ((s:Int)+x)),_,_,_]=_;rw[show(s:Int)+x=((s+x:Nat):Int) by simp];rfl;have BG:i=eF.length:=I;rw[BG,rv];have dy:=DF eF.length;rw[rv]at dy;refine aW (λaG=>?_) (λaG=>?_);exact .ag (y _ _ (J.le_refl _) (by rw[tX,aC (λq=>by have:=q.2.2.2.1;omega)]) aH);refine .mk Nat [1,2,3,6,45,46,47] (λi=>[.v (ab au m c),.v (ab P k c2),.p 0 0,.p 1 0,.v (ab P k c2),.v (R k),.v (R i)]) (λ_=>[.own [.v (R m),.v (ab A n D)] 33,.own [.v (ab none 0 0),.v (ab none 0 0)] 85]) (λi aa=>aa=_/\i<=k/\∀z∈az.take i,0<=z/\z<(m:Int)) (λi=>k-i) 0 (λ_=>rfl) ⟨rfl,cU _,bc⟩ rfl rfl ?_;rintro i e h1 ⟨rfl,ai,a7⟩;refine aW (λbt=>?_) (λbt=>?_);have a:i<az.length:=I;obtain⟨g,T⟩:=p2.b4 I;have HA:=F0 p2 T (i:=i) I;have j:az.getD i 0=az[i]:=by rw[cc,bK a];rfl
 rw[j]at HA;have E:az.take (i+1)=az.take i++[az[i]]:=lz a;have pN:=b3 a;generalize az[i]=x at HA E pN;refine .m g T ?_;refine .hp _ (by rw[bn];exact HA) ?_;refine aW (λcp=>?_) (λcp=>?_);exact .ag (y _ _ (J.le_refl _) (by rw[tX,aC (λq=>by have:=q.2.2.2.2 x pN;omega)]) aH);refine aW (λfh=>?_) (λfh=>?_);exact .ag (y _ _ (J.le_refl _) (by rw[tX,aC (λq=>by have:=q.2.2.2.2 x pN;omega)]) aH);refine .bl (⟨i+1,rfl,rfl,⟨rfl,I,λz l=>?_⟩,by show k- (i+1)<k-i;omega⟩);rw[E]at l;rcases eI.1 l with l|l;exact a7 z l;simp at l;subst l;omega;have BG:i=az.length:=I;rw[BG,rv]at a7;refine .ag (.mk _ (P8 m n D ad A h1 aw aF V) ?_);rintro _ ae ⟨bs,b,gt,bx,rfl,F,kN,rfl⟩;obtain⟨fN,h9,h',SU,ci,co,b7,O,bh⟩:=kN.ex;have iX:bs.le (st bs gt bx (dP ad (bp m 0)) (bp m 0)):=J.kI bh.o9 bh.o8;have cG:=J.le_trans F iX;refine .mk λbN dO=>.c0 3 _ _ rfl ((Z.mono cG).src _) (by rw[acH];intro u hu;obtain⟨z,_,rfl⟩:=cO.1 hu;rfl) (by simp[eQ];omega) I λjA c1 aI3=>.mk _ (aDO m k c2 P az _ (p2.mono cG) hk I a7 I) (λv ae q=>q.1) ?_;rintro _ ax ⟨W,X,rfl,L,alv⟩;refine .mk λgw Fw=>?_;have G:=bh.ne;obtain⟨aBz,aBA⟩:=XZ G alv;obtain⟨M,Q⟩:=XZ G (J.none_le W Fw);have Y:=J.d' (U:=bb #[iR b,ab jA (0+m) c1,ab (some ⟨X,0,none⟩) m m,ab none 0 0] 182 (0,0)) Fw;refine .b5 3 3 1 jA (0+m) c1 _ rfl λaT c3 S K=>?_;obtain⟨ev,S|⟨d,C,rfl,ng,_,_,gq,pc⟩⟩:=S;omega;have H:=K _ rfl;have Rt:=J.none_le (J.le_trans W Y) H;obtain⟨Wk,Wl⟩:=XZ G Rt;have P4:d≠gw:=λe=>by rw[e,J.b8]at H;cases H
 have Wm:d≠X:=λe=>by have:=(Y _ _ L).symm.trans ((eu _ e.symm).trans H);cases this
 obtain⟨cE,j,LV,AI,AH⟩:=MJ G bh.o9 bh.o8 (J.le_trans W (J.le_trans Y c3));rw[j];have r8:∀o U,o≠gt->o≠bx->aT o=some U->cE o=some U:=λo U qq zX ah=>by rw[j,GI qq zX]at ah;exact ah
 have ya:C=((eF.map λz:Nat=>R (z:Int))++C.toList.drop m).toArray:=by
  have h1:C.toList.take m=eF.map λz:Nat=>R (z:Int):=by
   have ae:=pc;rw[acH,dZ,e4]at ae;exact ae
  rw[<-h1,Ha,Array.toArray_toList]
 have bM:xU cE gw b d X m c1 (C.toList.drop m) eF (Cf m az) (ab none 0 0):=⟨by rw[r8 gw _ M Q (c3 _ _ (J.b8 _ _ _)),dZ],by rw[r8 d _ Wk Wl ng];exact eu (λc=>some (bb c 3 (0,0))) ya,r8 X _ aBz aBA (c3 _ _ (Y _ _ L)),BJ,by rw[Cf,Xl]⟩;have aAv:=kN.mono LV AI AH;have g0:Good m ad (bp m 0) 0:=Fk V;have Dl:h1 gw=none:=J.none_le (J.le_trans F (J.le_trans iX W)) Fw;have aI8:h1 d=none:=J.none_le F (by have:=Rt;rwa[GI Wk Wl]at this);have mo:bs gw=none:=by have:=J.none_le W Fw;rwa[GI M Q]at this
 have ij:bs d=none:=by rwa[GI Wk Wl]at Rt
 generalize C.toList.drop m=sp at bM;clear r8 j ng pc ya gq C H Rt Y K;refine .ag (.mk _ (aat aAv bM (dP ad (bp m 0)) (bp m 0) (rj _ _) yp I) ?_);rintro _ _ ⟨rfl,rfl⟩;obtain⟨vi,Oy⟩:∃r,r=Cm m ad (Cf m az) (eF.sum+1) (bp m 0) eF []:=⟨_,rfl⟩;have iH:tX m ad eF az=if∀x∈vi.1,x=0 then some vi.2 else none:=by
  rw[tX,aS ⟨V,BJ,hH,I,a7⟩,Oy]
 have LW:=J.le_trans F LV;refine .jG (.abs 3 1 none 0 0 [] ⟨rfl,bQ ⟨rfl,rfl,rfl⟩⟩ (.ag ?_));refine aEH _ _ m n D gw b gt bx d X c1 A sp ad eF (Cf m az) bs cE vi V I yp kN mo ij LV AI AH bM I Oy P4 Wm rfl ?_;rintro e qf f B ey IB AI AH bf u3 auB Uz atV;rw[show e=mE e [6,16] [.p 1 0,.p 4 0] by rw[<-Uz,<-atV];exact(fi [6,16] e).symm];refine .b5 5 3 1 B vi.2.length ey _ rfl λcr gh lP f5=>?_;obtain⟨hH,N6,PF,jS,z2⟩:=MJ G AI AH gh;rw[N6]at gh lP⊢;refine .ag (.mk _ (apm (kN.mono (J.le_trans IB PF) jS z2) (u3.mono PF) (dP ad f) f (rj _ _) yp I bf) ?_);rintro _ eX ⟨im,dT,bS,fc,rfl,jF⟩;have L3:h1.le eX:=J.le_trans F (J.le_trans IB (J.le_trans PF (J.le_trans (J.kI jS z2) im)));refine aW (λQy=>?_) (λQy=>?_);refine .ag ⟨L3,?_⟩;rw[iH,aC (λq=>by have:=jF.2 q;omega)];exact⟨_,_,_,dT,bS,fc,0,rfl,λq=>by have:=q.2;omega⟩;have hj:=im _ _ (J.kI jS z2 _ _ (u3.mono PF).box);refine .hp _ (b1 hj rfl) (.ag ⟨L3,?_⟩);rw[iH,aS (jF.1 I)];exact⟨auB,B,ey,rfl,(lP.mono im).ahI⟩
def wg(K:Int):e3->Bool
 |.nil=>false
 |.cons _ n b r=>b.leaf&&decide (K<=n)||wg K b||wg K r
theorem aj' K:∀N l,l.br<N->l.br<=200000->∀A m cap h,kR h A m l->Fn aD 70 #[ab A m cap,R K] h λv aa=>v=dh (wg K l.bR)/\aa=h
 |0,l,n,_=>absurd n (CK _)
 |N+1,l,n,y=>by
  intro A m cap bs j;have hm:m<=200000:=by have:=j.1;have:=l.Ac;omega
  refine bU azQ rfl ?_;refine .mk (Nat×cd) [1,7,8,9] (λ(i,_)=>[.v (R K),.v (ab A m cap),.v (R m),.v (R i)]) (λ_=>[]) (λ(i,r) aa=>aa=bs/\s' bs A m i r/\r.br<=l.br/\wg K l.bR=wg K r.bR) (λ(i,_)=>m-i) (0,l) (λ_=>rfl) ⟨rfl,j.cK,dM _,rfl⟩ rfl rfl ?_;refineλ⟨i,r⟩ e aa⟨rfl,d,u,he⟩=>aW (λae=>?_) (λae=>?_);cases r with
  |nil=>have:=d.fin;omega
  |cons t w B f c a r=>
   obtain⟨g,aK,s,av,o,k⟩:=d.open;simp only[cd.br]at u;have z:=o.1;have x:=a.LX;refine .m g aK (.hp (k9 t w B f c) rfl (by rw[bn];exact av) ?_);have F:=aj' K N a I I B f c aa o;have go:(cd.bR (.cons t w B f c a r))= .cons t w a.bR r.bR:=rfl;rw[go,wg,x]at he;refine aW (λq=>?_) (λq=>?_);rw[hr (show a.len=0 by omega),AP]at he;refine aW (λp=>?_) (λp=>?_);refine .ag ⟨?_,rfl⟩;rw[he,hr I];rfl;rw[jn (show¬K<=w by omega),alF]at he;refine .ag (.mk _ F ?_);rintro _ _ ⟨rfl,rfl⟩;cases b:wg K a.bR;refine .bl ?_;exact⟨(i+1,r),rfl,rfl,⟨rfl,k,I,by rw[he,b];rfl⟩,by show m- (i+1)<m-i;omega⟩;exact .ag ⟨by rw[he,b];rfl,rfl⟩;rw[jn (show¬a.len=0 by omega),Cv,alF]at he;refine .ag (.mk _ F ?_);rintro _ _ ⟨rfl,rfl⟩;cases b:wg K a.bR;refine .bl ?_;exact⟨(i+1,r),rfl,rfl,⟨rfl,k,I,by rw[he,b];rfl⟩,by show m- (i+1)<m-i;omega⟩;exact .ag ⟨by rw[he,b];rfl,rfl⟩
  cases r with
  |nil=>
   refine .ag ?_;rw[he];exact⟨rfl,rfl⟩
  |cons=>obtain⟨g,aK,s,_⟩:=d.open;omega
theorem ar1(g:dd) h(ok:g.ok h) A k c T(a:List dv)(j:bg h 2 A k (a.map c7))(hk:a.length=k)(l:g.aP.length=k)(he:k<=96)(am:0<=T)(hs:T<=1024)(s:∀i r(L:i<g.aP.length),0<=a[i].1/\a[i].1+a[i].2<=T/\(g.aP[i].n:Int)<=a[i].2):Fn aD 71 #[.agg g.cells.toArray,Mt A k c T] h λv aa=>v=dh true/\aa=h:=by
 refine bU azR rfl ?_;have b:=ok.aP;rw[l]at b;have gc:g.cells=[.string g.ea,ab g.h2 g.aY.length g.ac,ab g.c8 k g.b0,ab g.eg g.ins.length g.cf,ab g.cn g.outs.length g.bT]:=by rw[dd.cells,l]
 rw[gc];clear gc;refine ay λU w P=>?_;refine w _ _ _ ?_;refine ay λW u N=>?_;refine aW (λq=>absurd q I) (λ_=>?_);refine aW (λq=>absurd q I) (λ_=>?_);refine aW (λq=>absurd q I) (λ_=>?_);refine u _ _ _ ?_;refine ay λX t S=>?_;refine .mk Nat [2,3,25,26,27] (λi=>[.p 0 0,.p 1 0,.v (ab A k c),.v (R k),.v (R i)]) (λ_=>[.own [.v (.string g.ea),.v (ab g.h2 g.aY.length g.ac),.v (ab g.c8 k g.b0),.v (ab g.eg g.ins.length g.cf),.v (ab g.cn g.outs.length g.bT)] 26,.own [.v (ab A k c),.v (R T)] 37]) (λi aa=>aa=h/\i<=k) (λi=>k-i) 0 (λ_=>rfl) ⟨rfl,cU _⟩ rfl rfl ?_;rintro i e aa ⟨rfl,r⟩;refine ay λV z O=>?_;refine z _ _ _ ?_;refine ay λY B F=>?_;refine aW (λq=>?_) (λq=>?_);have M:i<k:=I;obtain⟨f1,f2,f3⟩:=s i I I;have h1:(a.map c7)[i]?=some (c7 a[i]):=by rw[de,bK];rfl
 have ae:(g.aP.map GE.cells)[i]?=some (GE.cells g.aP[i]):=by rw[de,bK];rfl
 generalize a[i]=x at f1 f2 f3 h1;generalize g.aP[i]=y at f3 ae;obtain⟨E,f⟩:=j.b4 I;obtain⟨o,d⟩:=b.b4 I;have J:=j.row f h1;have K:=b.row d ae;refine B _ _ _ ?_;refine ay λgL C Z=>?_;refine ew λjl Q G=>?_;refine ay λkd D j3=>?_;refine .m E f ?_;refine .hp (c7 x) rfl (by rw[bn];exact J) ?_;refine D _ _ _ ?_;refine ay λjU H iD=>?_;refine aW (λq=>absurd q I) (λ_=>?_);refine aW (λq=>absurd q I) (λ_=>?_);refine .m o d ?_;refine .hp (ab y.A y.n y.c) (by rw[bn];exact K 4 _ rfl) ?_;refine aW (λq=>absurd q I) (λ_=>?_);refine .bl ?_;refine H _ _ _ ?_;refine aW (λq=>absurd q I) (λ_=>?_);refine G _ _ _ _ nofun ?_;refine C _ _ _ ?_;refine .bl ?_;refine⟨i+1,rfl,rfl,⟨rfl,I⟩,by show k- (i+1)<k-i;omega⟩;refine F _ _ _ _ nofun ?_;refine t _ _ _ ?_;exact .ag ⟨rfl,rfl⟩
structure cm where
 k:Nat
 a:Int
 b:Int
 deriving DecidableEq
variable {au:List (List cm)}{l ops:List cm}
def cm.cells(x:cm):List aA:=[bC .u8 x.k,R x.a,R x.b]
def h7(l:List cm):List aA:=(l.map cm.cells).flatten
theorem DU:∀l,(h7 l).length=l.length*3
 |[]=>rfl
 |x::l=>by
  have:=DU l;simp only[h7,er,qN,fb,iJ]at this⊢;rw[this];simp[cm.cells];omega
theorem I3 l m:h7 (l++m)=h7 l++h7 m:=by simp[h7]
theorem Gn:∀l,∀u∈h7 l,u.oneCell'=true:=λl u hu=>by
 obtain⟨r,a,hu⟩:=List.mem_flatten.1 hu;obtain⟨x,_,rfl⟩:=cO.1 a;simp only[cm.cells,ez,List.not_mem_nil,or_false]at hu;rcases hu with rfl|rfl|rfl<;>rfl
theorem bw.split{bF size:Nat}{g:aE}{xs:List aA}(r:bw h bF size (some g) n c xs):∃b au,g=⟨b,0,none⟩/\h b=some (bb (xs++au).toArray bF (0,0))/\au.length=(c-n)*size/\n<=c/\c<=eQ/\xs.length=n*size:=by
 obtain⟨d,⟨q,_⟩|⟨b,f,q,e,a,i,j,k⟩⟩:=r;cases q;injection q with q;refine⟨b,f.toList.drop (n*size),q,?_,?_,a,i,d⟩;rw[<-k,Ha];exact e;rw[mU,Array.length_toList,j,Nat.sub_mul]
theorem NJ{bF size bytes:Nat}{cap m:Nat}{S:List aA->Prop}{K:aN->List LE->J->Prop}{xs aI:List aA}(r:bw h bF size A n cap xs)(k:S aI)(h1:∀u∈aI,u.oneCell'=true)(am:0<m)(c:aI.length=m*size)(hm:n+m<=eQ)(j:(n+m)*bytes<=140737488355328)(s:∀b U,A=some ⟨b,0,none⟩->bw (h.put b U) bF size A (n+m) cap (xs++aI)->K (.v (ab A (n+m) cap)) L (h.put b U))(l:∀bo f,bo≠none->n+m<=f->K (.v (ab bo (n+m) f)) (L++[.row bF size bo (n+m) f (xs++aI)]) h):Ey bF size bytes A n cap m S L h K:=by
 rcases A with _|g;obtain⟨z,⟨_,i,d⟩|⟨g,D,q,_⟩⟩:=r;subst i d;obtain rfl:xs=[]:=R3.1 I;refine .fresh aI rfl rfl rfl k h1 I (by rwa[dZ]at j) λbo bj aK=>?_;have:=l bo bj (λe=>by have:=aK.1.1 e;omega) I;rwa[dZ,JV]at this;cases q;obtain⟨b,au,rfl,t,y,i,d,a⟩:=r.split;refine .mem b 0 (xs++au) (xs++(aI++au.drop (m*size))) aI xs rfl t k h1 am a (λo u p=>?_) (λav=>?_) hm j (λav=>?_) (λav E bj w=>l _ _ nofun w);rw[dZ];obtain⟨x,rfl⟩:=qO.1 p;rw[G5 x,bK];have hk:m*size<=(cap-n)*size:=vn _ I;have:=WU (au.take (m*size)) aI (au.drop (m*size)) (by rw[c,List.length_take];omega) xs;rw[Ha]at this;rw[dZ,<-a];exact this;refine s b _ rfl ⟨?_,ba ⟨b,_,rfl,J.b8 _ _ _,av,d,?_,?_⟩⟩;rw[fb,c,a,CI];have B:m*size+(cap-n-m)*size=(cap-n)*size:=by rw[<-CI];congr 1;omega
 have C:n*size+(cap-n)*size=cap*size:=by rw[<-CI];congr 1;omega
 simp only[amR,fb,mU,a,c,y];omega;have:(n+m)*size=(xs++aI).length:=by rw[fb,c,a,CI]
 rw[this,<-mg];exact A5
structure oG(am h:J)(a1:Nat)(A:Option aE)(c op dn:Nat)(F:aA)(l:List cm):Prop where
 le:am.le h
 c':am a1=none
 box:h a1=some (bb #[ab A l.length c,R op,R dn,F] 215 (0,0))
 row:bw h 66 3 A l.length c (h7 l)
 ku:∀g,A=some g->g.block≠a1/\am g.block=none
theorem Xd(w:oG am h a1 A c op dn F l)(al:l.length<=1000000)(x:cm):Fn aD 74 #[iR a1,bC .u8 x.k,R x.a,R x.b] h λ_ aa=>∃bo bj,oG am aa a1 bo bj op dn F (l++[x]):=by
 refine bU azS rfl ?_;have d:(l++[x]).length=l.length+1:=bc;refine .hp _ (b1 w.box rfl) ?_;refine .ag (NJ w.row (aI:=h7 [x]) rfl (Gn [x]) aH rfl (by simp[eQ];omega) I (λb U aK p=>?_) (λbo bj aK av=>?_));have i:=w.ku _ aK;refine .hp a1 0 215 [ab A l.length c,R op,R dn,F] [ab A (l.length+1) c,R op,R dn,F] rfl (by rw[J.cD _ _ (eh i.1)];exact w.box) rfl ?_;refine .ag ⟨A,c,lK w.c' (lK i.2 w.le),w.c',by rw[d];exact J.b8 _ _ _,?_,w.ku⟩;rw[d,I3];exact bw.kx p λg f=>(w.ku g f).1;refine .hp a1 0 215 [ab A l.length c,R op,R dn,F] [ab bo (l.length+1) bj,R op,R dn,F] rfl w.box rfl ?_;refine .b5 1 66 3 bo (l.length+1) bj _ rfl λh1 m n o=>.ag ⟨bo,bj,J.le_trans (lK w.c' w.le) m,w.c',?_,?_,λg f=>?_⟩;rw[d];exact m _ _ (J.b8 _ _ _);rw[d,I3];exact n;have q:=o g f;have j:g.block≠a1:=λe=>by rw[e,J.b8]at q;cases q
 rw[J.cD _ _ j]at q;exact⟨j,J.none_le w.le q⟩
theorem oG.set(w:oG am h a1 A c op dn F l)(a b:Nat):oG am (h.put a1 (bb [ab A l.length c,R a,R b,F].toArray 215 (0,0))) a1 A c a b F l:=⟨lK w.c' w.le,w.c',J.b8 _ _ _,bw.kx w.row λg d=>(w.ku g d).1,w.ku⟩
theorem adW(w:oG am h a1 A c op dn F l)(al:l.length<=1000000)(r:op<=100000) t:Fn aD 131 #[iR a1,R t] h λv aa=>v=R ((l.length+1:Nat):Int)/\∃bo bj,oG am aa a1 bo bj (op+1) (max dn (op+1)) F (l++[⟨1,op,t⟩]):=by
 refine bU ayl rfl (ay λB p y=>p _ _ _ (ay λD o u=>.hp _ (b1 w.box rfl) (.ag (.mk _ (Xd w al ⟨1,op,t⟩) (λ_ h1⟨b,c1,i⟩=>?_)))));have a:(l++[(⟨1,op,t⟩:cm)]).length=l.length+1:=bc;have j:=i.box;rw[a]at j;refine o _ _ _ (ay λE n z=>.hp _ (b1 i.box rfl) (.bl (.hp a1 1 215 [ab b (l.length+1) c1,R op,R dn,F] [ab b (l.length+1) c1,R ((op:Int)+1),R dn,F] rfl j rfl ?_)));have e:=i.set (op+1) dn;have g:R (((op+1:Nat):Int))=R ((op:Int)+1):=bc;rw[g,a]at e;generalize h1.put a1 _=ae at e;refine n _ _ _ (ay λC q x=>?_);have d:=e.box;rw[a,g]at d;refine .hp _ (b1 d rfl) (.hp _ (b1 d rfl) (.hp a1 2 215 [ab b (l.length+1) c1,R ((op:Int)+1),R dn,F] [ab b (l.length+1) c1,R ((op:Int)+1),R (max (dn:Int) ((op:Int)+1)),F] rfl d rfl ?_));have f:=e.set (op+1) (max dn (op+1));have m:R (((max dn (op+1):Nat):Int))=R (max (dn:Int) ((op:Int)+1)):=eu R I;rw[g,m,a]at f;generalize ae.put a1 _=s at f;refine q _ _ _ ?_;have k:=f.box;rw[a]at k;refine .hp _ (b1 k rfl) (.ag ⟨rfl,b,c1,f⟩)
theorem aaq(w:oG am h a1 A c (op+1) dn F l)(al:l.length<=1000000)(f:op<=100000)(t:Int):Fn aD 132 #[iR a1,R t] h λ_ aa=>∃bo bj,oG am aa a1 bo bj op dn F (l++[⟨2,op,t⟩]):=by
 refine bU aym rfl (ay λi b g=>.hp _ (b1 w.box rfl) (.bl (.hp a1 1 215 _ [ab A l.length c,R ((op+1:Nat)-1:Int),R dn,F] rfl w.box rfl ?_)));have a:=w.set op dn;rw[show R (op:Int)=R ((op+1:Nat)-1:Int)from eu R I]at a;generalize h.put a1 _=ae at a;exact b _ _ _ (.hp _ (b1 a.box rfl) (.ag (.mk _ (Xd a al ⟨2,op,t⟩) (λ_ h1⟨e,c1,d⟩=>.ag ⟨e,c1,d⟩))))
theorem yd(l:List Int):(l.map λz=>[R z]).flatten=l.map R:=by
 induction l with
 |nil=>rfl
 |cons a l b=>rw[er,qN,b];rfl
def EM(h:J)(n:Nat)(xs:List aA)(v:aA)(aa:J):Prop:=h.le aa/\∃A c,v=ab A n c/\bw aa 3 1 A n c xs/\∀g,A=some g->h g.block=none
theorem aio A n c(l:List Int) h(t:bg h 1 A n (l.map λz=>[R z]))(f:n<=1000000000):Fn aD 75 #[ab A n c] h (EM h n (l.map R)):=by
 have e:=yd l;refine bU azT rfl (.ag (.fresh (l.map R) rfl rfl rfl (by rw[<-e];exact t.src _) (λu hu=>by obtain⟨x,_,rfl⟩:=cO.1 hu;rfl) (by simp[eQ];omega) I λbo bj aK=>.b5 0 3 1 bo n bj _ rfl λh1 d a b=>.ag ⟨d,bo,bj,rfl,a,b⟩))
theorem aC4 A n c(l:List Int) h(t:bg h 1 A n (l.map λz=>[R z]))(f:n<=1000000000):Fn aD 37 #[ab A n c] h (EM h n (l.map R)):=by
 have e:=yd l;refine bU azs rfl (.ag (.fresh (l.map R) rfl rfl rfl (by rw[<-e];exact t.src _) (λu hu=>by obtain⟨x,_,rfl⟩:=cO.1 hu;rfl) (by simp[eQ];omega) I λbo bj aK=>.b5 0 3 1 bo n bj _ rfl λh1 d a b=>.ag ⟨d,bo,bj,rfl,a,b⟩))
theorem S0 A n c(l:List Int) h(t:bg h 1 A n (l.map λz=>[R z]))(g:n<=1000000000):Fn aD 136 #[ab A n c] h (EM h n (l.map R)):=by
 have e:=yd l;refine bU ayn rfl (.mk λb i=>.ag (.c0 1 [] (l.map R) rfl (by rw[<-e];exact t.src _) (λu hu=>by obtain⟨x,_,rfl⟩:=cO.1 hu;rfl) (by simp[eQ];omega) I λbo bj aK=>.b5 1 3 1 bo (0+n) bj _ rfl λh1 f a d=>.ag ?_));rw[dZ]at a⊢;exact⟨f,bo,bj,rfl,a,d⟩
theorem ah9:∀l p hp o,o<3->(h7 l)[p*3+o]?=l[p].cells[o]?
 |x::l,0,_,o,a=>by
  show(x.cells++h7 l)[0*3+o]?=_;rw[Hd,dZ,G5 (by show o<3;exact a)];rfl
 |x::l,p+1,hp,o,a=>by
  show(x.cells++h7 l)[(p+1)*3+o]?=_;rw[show(p+1)*3+o=x.cells.length+(p*3+o) by show _=3+_;omega,G6 I,CJ];exact ah9 l p (by simpa using hp) o a
theorem ah':∀l p hp(k:Nat) a,((h7 l).set (p*3) (bC .u8 k)).set (p*3+1) (R a)=h7 (l.set p ⟨k,a,l[p].b⟩)
 |x::l,0,_,k,a=>rfl
 |x::l,p+1,hp,k,a=>by
  show((x.cells++h7 l).set ((p+1)*3) _).set ((p+1)*3+1) _=x.cells++h7 (l.set p _);have d:p<l.length:=by simpa using hp
  have c:=ah' l p d k a;rw[vm _ _ (by show 3<=_;omega),vm _ _ (by show 3<=_;omega)];show _=x.cells++h7 (l.set p ⟨k,a,l[p].b⟩);rw[<-c];show x.cells++((h7 l).set ((p+1)*3-3) _).set ((p+1)*3+1-3) _=_;rw[show(p+1)*3-3=p*3 by omega,show(p+1)*3+1-3=p*3+1 by omega]
theorem Qj(b p k:Nat)(a:Int)(l:List cm)(h:J)(c:h b=some (bb (h7 l).toArray 66 (0,0)))(hp:p<l.length):Fn aD 130 #[Value.pointer (some ⟨b,p*3,none⟩),bC .u8 k,R a] h λ_ aa=>aa=h.put b (bb (h7 (l.set p ⟨k,a,l[p].b⟩)).toArray 66 (0,0)):=by
 refine bU ayk rfl ?_;have al:=DU l;refine .hp b (p*3) 66 (h7 l) ((h7 l).set (p*3) (bC .u8 k)) (by rw[add_lit];rfl) c (io _ _ _ I) (.hp b (p*3+1) 66 _ _ (by rw[add_lit]) (J.b8 _ _ _) (io _ _ _ (by rw[fI];omega)) ?_);rw[J.tS,ah' l p hp];exact .ag rfl
abbrev mj:=Nat×List cm
variable {a6 r:List mj}
def lM(l:List cm):Obj:=bb (h7 l).toArray 66 (0,0)
def tZ(q:mj):aA:=ab (some ⟨q.1,0,none⟩) q.2.length q.2.length
def e8(n:Nat)(r:List mj):List aA:=r.map tZ++bp (n-r.length) (ab none 0 0)
structure kC(am h:J)(a6 ro:List mj):Prop where
 le:am.le h
 at_:∀q∈a6++ro,h q.1=some (lM q.2)
 dE:((a6++ro).map hE).Nodup
 new:∀q∈a6++ro,am q.1=none
section
variable {am h aa:J}{a6 ro:List mj}
theorem kC.swap(x:kC am h a6 ro):kC am h ro a6:=⟨x.le,λq a=>x.at_ q (by simp only[eI]at a⊢;exact a.symm),(amo ((List.perm_append_comm).map _)).1 x.dE,λq a=>x.new q (by simp only[eI]at a⊢;exact a.symm)⟩
theorem kC.mono(x:kC am h a6 ro)(le:h.le aa):kC am aa a6 ro:=⟨J.le_trans x.le le,λq a=>le _ _ (x.at_ q a),x.dE,x.new⟩
theorem kC.zero h:kC h h [] []:=⟨J.le_refl _,bc,bc,bc⟩
theorem kC.KR(x:kC am h a6 ro) b:h a6[a].1=some (lM a6[a].2):=x.at_ _ (wz _ (b3 b))
theorem aFh{l:List mj} b U:(l.set a (l[a].1,U)).map hE=l.map hE:=by
 rw[kB];apply vj bc;intro i h1 ae;rw[s6];split;rename_i e;subst e;simp;rfl
theorem kC.Ji(x:kC am h a6 ro) d U:kC am (h.put a6[a].1 (lM U)) (a6.set a (a6[a].1,U)) ro:=by
 have hm:a6[a]∈a6++ro:=wz _ (b3 d);have g:=x.dE;rw[fw]at g;obtain⟨j,l,k⟩:=List.nodup_append.1 g;have inj:∀{i:Nat}(c:i<a6.length),a6[i].1=a6[a].1->i=a:=λc e=>WA j (by simpa using c) (by simpa using d) (by simpa using e);refine⟨B2 x.le (x.new _ hm),λq b=>?_,?_,λq b=>?_⟩;rcases eI.1 b with b|b;obtain⟨i,c,rfl⟩:=n4 b;have f:i<a6.length:=by simpa using c
 rw[s6];split;exact J.b8 _ _ _;rename_i e;rw[J.kx (λq=>e (inj f q).symm)];exact x.KR f;rw[J.kx (λe=>k _ (cO.2 ⟨_,b3 d,rfl⟩) _ (cO.2 ⟨q,b,rfl⟩) e.symm)];exact x.at_ q (xN _ b);rw[fw,aFh d,<-fw];exact x.dE;rcases eI.1 b with b|b;obtain⟨i,c,rfl⟩:=n4 b;have f:i<a6.length:=by simpa using c
 rw[s6];split;exact x.new a6[a] hm;exact x.new _ (wz _ (b3 f));exact x.new q (xN _ b)
end
theorem aid(h:r.length<=n):(e8 n r).length=n:=by simp[e8];omega
theorem Mg{i:Nat} a:(e8 n r)[i]?=some (tZ r[i]):=by
 rw[e8,G5 (by simpa using a),de,bK a];rfl
theorem aie(h:r.length<n) q:(e8 n r).set r.length (tZ q)=e8 n (r++[q]):=by
 unfold e8;rw[vm _ _ bc,fj,xQ,fw,mg,fb];congr 1;obtain⟨d,a⟩:∃d,n-r.length=d+1:=⟨n-r.length-1,I⟩;rw[a,show n- (r.length+[q].length)=d by simp;omega];rfl
theorem aCQ n:e8 n []=bp n (ab none 0 0):=by simp[e8]
theorem Qn b{U:List cm}(al:U.length=r[a].2.length):e8 n (r.set a (r[a].1,U))=e8 n r:=by
 unfold e8;rw[fI];congr 1;apply vj bc;intro i h1 ae;simp only[List.getElem_map,s6];split;rename_i e;subst e;simp[tZ,al];rfl
def ly(ep:List Int)(k:Nat):List cm:=((ep.take k).map λr=>⟨0,0,r⟩)++bp (ep.length-k) ⟨0,0,0⟩
theorem Xm{k:Nat}(h:k<=ep.length):(ly ep k).length=ep.length:=by simp[ly];omega
theorem aiR{k:Nat} h:(ly ep k).set k ⟨0,0,ep[k]⟩=ly ep (k+1):=by
 unfold ly;rw[vm _ _ (by simp;omega),lz h,fw,mg];congr 1;obtain⟨d,a⟩:∃d,ep.length-k=d+1:=⟨ep.length-k-1,I⟩;rw[a,show ep.length- (k+1)=d by omega,show k- (List.map (λr=>(⟨0,0,r⟩:cm)) (List.take k ep)).length=0 by simp;omega];rfl
theorem aiP ep:ly ep ep.length=ep.map λr=>⟨0,0,r⟩:=by simp[ly]
theorem aiQ{k:Nat}(h:k<ep.length):∃hk,(ly ep k)[k]=⟨0,0,0⟩:=by
 refine⟨by rw[Xm I];exact h,?_⟩;simp only[ly];rw[List.getElem_append_right (by simp;omega)];simp
theorem WR:∀l p hp z,(h7 l).set (p*3+2) (R z)=h7 (l.set p ⟨l[p].k,l[p].a,z⟩)
 |x::l,0,_,z=>rfl
 |x::l,p+1,hp,z=>by
  have c:p<l.length:=by simpa using hp
  have b:=WR l p c z;show(x.cells++h7 l).set ((p+1)*3+2) _=x.cells++h7 (l.set p ⟨l[p].k,l[p].a,z⟩);rw[vm _ _ (by show 3<=_;omega),<-b];show x.cells++(h7 l).set ((p+1)*3+2-3) _=_;rw[show(p+1)*3+2-3=p*3+2 by omega]
theorem aAm Q(e:cg) g0 g1 g2 g3 g4 a0 y a2 h n k c a C s c2 f b d j D ep l E u w(hk:k<n)(pb:j.length=n)(Z:j[k]?=some (ab (some ⟨c,0,none⟩) ep.length ep.length))(N:h c=some (lM (ly ep 0)))(t:bg h 1 l a (ep.map λz=>[R z]))(O:∀g,l=some g->0<a->g.block≠c)(aF:a<=1000)(he:[1,3,4,5,8,31,32,33,59,60,61].map e=[.p 0 0,.v (ab (some b) n n),.v (ab (some d) n n),.v (R k),.v (ab u w c2),.v (ab E f C),.v (R f),.v (R k),.v (ab l a s),.v (R a),.v (R (0:Nat))])(P:∀e,[1,3,4,5,8,31,32,33].map e=[.p 0 0,.v (ab (some b) n n),.v (ab (some d) n n),.v (R k),.v (ab u w c2),.v (ab E f C),.v (R f),.v (R k)]->Q (.exit 2) e [.own [.v g0,.v g1,.v g2,.v g3,.v g4] 26,.row 40 1 (some b) n n j,.row 40 1 (some d) n n D,.own [.v a0,.v y,.v a2] 96,.gone,.gone] (h.put c (lM (ep.map λr=>⟨0,0,r⟩)))):jk (λQ e L h=>dq aD 194 VA Q e L h) Q e [.own [.v g0,.v g1,.v g2,.v g3,.v g4] 26,.row 40 1 (some b) n n j,.row 40 1 (some d) n n D,.own [.v a0,.v y,.v a2] 96,.gone,.gone] h:=by
 have al:ep.length=a:=by simpa using t.len
 refine .mk Nat [1,3,4,5,8,31,32,33,59,60,61] (λo=>[.p 0 0,.v (ab (some b) n n),.v (ab (some d) n n),.v (R k),.v (ab u w c2),.v (ab E f C),.v (R f),.v (R k),.v (ab l a s),.v (R a),.v (R o)]) (λ_=>[.own [.v g0,.v g1,.v g2,.v g3,.v g4] 26,.row 40 1 (some b) n n j,.row 40 1 (some d) n n D,.own [.v a0,.v y,.v a2] 96,.gone,.gone]) (λo aa=>aa=h.put c (lM (ly ep o))/\o<=a) (λo=>a-o) 0 (λ_=>rfl) ⟨(J.tT N).symm,cU _⟩ he rfl ?_;rintro o e aa ⟨rfl,ah⟩;refine ay λfD U eT=>U _ _ _ (ay λfy T V=>aW (λq=>?_) (λq=>?_));have A:o<ep.length:=I;obtain⟨G,B⟩:=t.b4 I;have s:=F0 t B (i:=o) I;have H:ep.getD o 0=ep[o]:=by rw[cc,bK A];rfl
 rw[H]at s;obtain⟨M,X⟩:=aiQ A;have UO:=Xm (ep:=ep) (k:=o) I;have F:(h.put c (lM (ly ep o))).cell? (G.add (o*1))=some (R ep[o]):=(F0 (t.D0 O) B (i:=o) I).trans (by rw[H]);have st:=WR (ly ep o) o M ep[o];rw[X,aiR A]at st;generalize ep[o]=x at F st;refine T _ _ _ ?_;refine ay λfz S eZ=>?_;refine ew λfE dR W=>?_;refine ay λgF Y gN=>?_;refine .m G B ?_;refine .hp _ (by rw[bn];exact F) ?_;refine Y _ _ _ ?_;refine .m b rfl ?_;refine .row 1 40 1 b n n j _ _ rfl (by rw[bn]) (by rw[e4];exact Z) ?_;refine .r ?_;refine .hp c (o*3+2) 66 _ _ (by rw[bn,add_lit,add_lit];simp) (J.b8 _ _ _) (io _ _ _ (by rw[DU];omega)) ?_;rw[J.tS,st];refine W _ _ _ _ nofun ?_;refine S _ _ _ ?_;refine .bl ?_;exact⟨o+1,rfl,rfl,⟨rfl,I⟩,by show a- (o+1)<a-o;omega⟩;refine V _ _ _ _ nofun ?_;have K:o=ep.length:=I;rw[K,aiP];exact P _ rfl
theorem aAn Q(e:cg) g0 g1 g2 g3 g4 a0 u a2 h n k c a A s f d b B j ep l C(hk:k<n)(pb:j.length=n)(X:j[k]?=some (ab (some ⟨c,0,none⟩) ep.length ep.length))(K:h c=some (lM (ly ep 0)))(t:bg h 1 l a (ep.map λz=>[R z]))(M:∀g,l=some g->0<a->g.block≠c)(Z:a<=1000)(he:[1,3,4,5,31,32,33,75,76,77].map e=[.p 0 0,.v (ab (some d) n n),.v (ab (some b) n n),.v (R k),.v (ab C f A),.v (R f),.v (R k),.v (ab l a s),.v (R a),.v (R (0:Nat))])(N:∀e,[1,3,4,31,32,33].map e=[.p 0 0,.v (ab (some d) n n),.v (ab (some b) n n),.v (ab C f A),.v (R f),.v (R k)]->Q (.exit 4) e [.own [.v g0,.v g1,.v g2,.v g3,.v g4] 26,.row 40 1 (some d) n n B,.row 40 1 (some b) n n j,.own [.v a0,.v u,.v a2] 96,.gone,.gone] (h.put c (lM (ep.map λr=>⟨0,0,r⟩)))):jk (λQ e L h=>dq aD 194 VB Q e L h) Q e [.own [.v g0,.v g1,.v g2,.v g3,.v g4] 26,.row 40 1 (some d) n n B,.row 40 1 (some b) n n j,.own [.v a0,.v u,.v a2] 96,.gone,.gone] h:=by
 have al:ep.length=a:=by simpa using t.len
 refine .mk Nat [1,3,4,5,31,32,33,75,76,77] (λo=>[.p 0 0,.v (ab (some d) n n),.v (ab (some b) n n),.v (R k),.v (ab C f A),.v (R f),.v (R k),.v (ab l a s),.v (R a),.v (R o)]) (λ_=>[.own [.v g0,.v g1,.v g2,.v g3,.v g4] 26,.row 40 1 (some d) n n B,.row 40 1 (some b) n n j,.own [.v a0,.v u,.v a2] 96,.gone,.gone]) (λo aa=>aa=h.put c (lM (ly ep o))/\o<=a) (λo=>a-o) 0 (λ_=>rfl) ⟨(J.tT K).symm,cU _⟩ he rfl ?_;rintro o e aa ⟨rfl,ah⟩;refine ay λfD S eT=>S _ _ _ (ay λfy P T=>aW (λq=>?_) (λq=>?_));have w:o<ep.length:=I;obtain⟨E,y⟩:=t.b4 I;have s:=F0 t y (i:=o) I;have F:ep.getD o 0=ep[o]:=by rw[cc,bK w];rfl
 rw[F]at s;obtain⟨H,V⟩:=aiQ w;have Y:=Xm (ep:=ep) (k:=o) I;have D:(h.put c (lM (ly ep o))).cell? (E.add (o*1))=some (R ep[o]):=(F0 (t.D0 M) y (i:=o) I).trans (by rw[F]);have st:=WR (ly ep o) o H ep[o];rw[V,aiR w]at st;generalize ep[o]=x at D st;refine P _ _ _ ?_;refine ay λfz O eZ=>?_;refine ew λfE dR U=>?_;refine ay λgF W gN=>?_;refine .m E y ?_;refine .hp _ (by rw[bn];exact D) ?_;refine W _ _ _ ?_;refine .m b rfl ?_;refine .row 2 40 1 b n n j _ _ rfl (by rw[bn]) (by rw[e4];exact X) ?_;refine .r ?_;refine .hp c (o*3+2) 66 _ _ (by rw[bn,add_lit,add_lit];simp) (J.b8 _ _ _) (io _ _ _ (by rw[DU];omega)) ?_;rw[J.tS,st];refine U _ _ _ _ nofun ?_;refine O _ _ _ ?_;refine .bl ?_;exact⟨o+1,rfl,rfl,⟨rfl,I⟩,by show a- (o+1)<a-o;omega⟩;refine T _ _ _ _ nofun ?_;have G:o=ep.length:=I;rw[G,aiP];exact N _ rfl
def rU(a:hh):List cm:=(b6 a.tag a.a8).2.1.map λr=>⟨0,0,r⟩
def r3(a:hh):List cm:=(b6 a.tag a.a8).2.2.map λr=>⟨0,0,r⟩
theorem IJ m:(madeCells (#[bC .u8 0,R 0,R 0]:Array aA) (m*3)).toList=h7 (bp m ⟨0,0,0⟩):=by
 apply List.ext_getElem?;intro o;unfold madeCells;rw[Array.getElem?_toList,Array.getElem?_map,Array.getElem?_range];by_cases a:o<m*3;rw[aS a];have b:=ah9 (bp m ⟨0,0,0⟩) (o/3) (by simp;omega) (o%3) (Nat.mod_lt _ aH);rw[show o/3*3+o%3=o by omega]at b;rw[b,List.getElem_replicate];have:o%3=0\/o%3=1\/o%3=2:=I;rcases this with e|e|e<;>simp[e,cm.cells];rw[aC a,l2 (by rw[DU];simp;omega)];rfl
theorem aEn Q(e:cg) g0 g1 g2 g3 g4 a0 q a2 X Y c n k c1 c2 s x j i a gc o m f d G w y(hk:k<n)(l':o.length=n)(vT:m.length=n)(B:o[k]?=some (ab (some a) f.length f.length))(C:m[k]?=some (ab (some gc) d.length d.length))(t1:bg c 1 G f.length (f.map λz=>[R z]))(t2:bg c 1 w d.length (d.map λz=>[R z]))(s1:f.length<=16)(s2:d.length<=16)(he:[1,3,4,5,7,8,31,32,33].map e=[.p 0 0,.v (ab (some j) n n),.v (ab (some i) n n),.v (R k),.v (ab G f.length c1),.v (ab w d.length c2),.v (ab y s x),.v (R s),.v (R k)])
 (lv:∀K,(∀h,c.le h->h a.block=some (lM (ly f 0))->h gc.block=some (lM (ly d 0))->c a.block=none->c gc.block=none->a.block≠gc.block->a=⟨a.block,0,none⟩->gc=⟨gc.block,0,none⟩->K [.own [.v g0,.v g1,.v g2,.v g3,.v g4] 26,.row 40 1 (some j) n n o,.row 40 1 (some i) n n m,.own [.v a0,.v q,.v a2] 96,.gone,.gone] h)->
  hL K [.own [.v g0,.v g1,.v g2,.v g3,.v g4] 26,.row 40 1 (some j) n n o,.row 40 1 (some i) n n m,.own [.v a0,.v q,.v a2] 96,X,Y] c)
 (P:∀e h,c.le h->h a.block=some (lM (f.map λr=>⟨0,0,r⟩))->h gc.block=some (lM (d.map λr=>⟨0,0,r⟩))->c a.block=none->c gc.block=none->a.block≠gc.block->a=⟨a.block,0,none⟩->gc=⟨gc.block,0,none⟩->[1,3,4,31,32,33].map e=[.p 0 0,.v (ab (some j) n n),.v (ab (some i) n n),.v (ab y s x),.v (R s),.v (R k)]->Q .normal e [.own [.v g0,.v g1,.v g2,.v g3,.v g4] 26,.row 40 1 (some j) n n o,.row 40 1 (some i) n n m,.own [.v a0,.v q,.v a2] 96,.gone,.gone] h):
 dq aD 194 (.seq (.seq (.ck afz) (.block 2 (.loop VA))) (.seq (.ck afy) (.block 4 (.loop VB)))) Q e [.own [.v g0,.v g1,.v g2,.v g3,.v g4] 26,.row 40 1 (some j) n n o,.row 40 1 (some i) n n m,.own [.v a0,.v q,.v a2] 96,X,Y] c:=by
 rw[<-fi [1,3,4,5,7,8,31,32,33] e,he]
 refine ay λfD U eT=>ay λfy T d9=>T _ _ _ (ew λfz S eZ=>.jG (lv _ λh F W hO u H E c6 L=>?_))
 have cb:∀{A:Option aE}{l:List Int}{b:Nat},bg c 1 A l.length (l.map λz=>[R z])->c b=none->∀g,A=some g->0<l.length->g.block≠b:=λt N g O am e=>by
  subst O;exact t.mem I (by rw[e];exact N)
 refine aAm _ _ g0 g1 g2 g3 g4 a0 q a2 h n k a.block f.length x c1 c2 s j i o m f G y w d.length hk l' (B.trans (by rw[<-c6])) W (t1.mono F) (cb t1 u) I rfl λM gg=>S _ _ _ (U _ _ _ ?_)
 rw[<-fi [1,3,4,5,8,31,32,33] M,gg]
 refine ay λfE V dH=>V _ _ _ (ew λgF Z gN=>?_)
 have D:(h.put a.block (lM (f.map λr=>⟨0,0,r⟩))) gc.block=some (lM (ly d 0)):=by rw[J.cD _ _ E.symm];exact hO
 refine .jG (.ag (aAn _ _ g0 g1 g2 g3 g4 a0 q a2 _ n k gc.block d.length x c2 s j i o m d w y hk vT (C.trans (by rw[<-L])) D ((t2.mono F).D0 (cb t2 u)) (cb t2 H) I rfl λdi q2=>Z _ _ _ (P _ _ (B2 (B2 F u) H) ?_ (J.b8 _ _ _) u H E c6 L q2)))
 rw[J.cD _ _ E];exact J.b8 _ _ _
theorem Jg{m:Nat}{a:aE}(r:bw h 66 3 (some a) m c (h7 l))(e:c=m):a=⟨a.block,0,none⟩/\h a.block=some (lM l):=by
 obtain⟨b,au,rfl,d,f,_⟩:=r.split;subst e;rw[xQ,Hd]at f;rw[R3.1 f,sf]at d;exact⟨rfl,d⟩
theorem Jc ep:ly ep 0=bp ep.length ⟨0,0,0⟩:=by simp[ly]
theorem kC.Z3{ro:List mj}(x:kC am h a6 ro)(ne:∀q∈a6++ro,q.1≠b)(c:am b=none)(d:h b=some (lM l)):kC am h (a6++[(b,l)]) ro:=by
 have mem:∀q,q∈(a6++[(b,l)])++ro->q=(b,l)\/q∈a6++ro:=λq a=>by
  simp only[eI,hZ]at a⊢;rcases a with(h|h)|h<;>simp[h]
 refine⟨x.le,λq a=>?_,?_,λq a=>?_⟩;rcases mem q a with rfl|a;exact d;exact x.at_ q a;have p:((b,l)::(a6++ro)).Perm ((a6++[(b,l)])++ro):=by
  rw[mg];exact(List.perm_middle).symm
 refine(amo (p.map _)).1 ?_;rw[er,List.nodup_cons];exact⟨λhm=>by obtain⟨q,a,e⟩:=cO.1 hm;exact ne q a e,x.dE⟩;rcases mem q a with rfl|a;exact c;exact x.new q a
theorem kC.aoR{aa:J}{ro:List mj}(x:kC am h a6 ro)(le:h.le aa){m:List cm}(d:h b=none)(av:h c=none)(f:b≠c)(i:aa b=some (lM l))(g:aa c=some (lM m)):kC am aa (a6++[(b,l)]) (ro++[(c,m)]):=by
 have ne:∀{b},h b=none->∀q∈a6++ro,q.1≠b:=λd q a e=>by have:=x.at_ q a;rw[e,d]at this;cases this
 have y:=((x.mono le).Z3 (ne d) (J.none_le x.le d) i).swap;refine(y.Z3 (λq a=>?_) (J.none_le x.le av) g).swap;have:q∈a6++ro\/q=(b,l):=by
  simp only[eI,hZ]at a⊢;rcases a with h|h|h<;>simp[h]
 rcases this with h|rfl;exact ne av q h;exact f
theorem aEB Q(e:cg)(g:dd) am h n j i(ok:g.ok am)(aF:g.aY.length=n)(tE:n<=1000)(le:am.le h) g0 g2 g3 g4(he:[1,3,4,31,32,33].map e=[.p 0 0,.v (ab (some j) n n),.v (ab (some i) n n),.v (ab g.h2 n g.ac),.v (R n),.v (R (0:Nat))])(cF:∀e aa a6 ro,[1,3,4].map e=[.p 0 0,.v (ab (some j) n n),.v (ab (some i) n n)]->kC am aa a6 ro->a6.map dV=g.aY.map rU->ro.map dV=g.aY.map r3->Q (.exit 0) e [.own [.v g0,.v (ab g.h2 n g.ac),.v g2,.v g3,.v g4] 26,.row 40 1 (some j) n n (e8 n a6),.row 40 1 (some i) n n (e8 n ro)] aa):ww (λQ e L h=>dq aD 194 axG Q e L h) Q e [.own [.v g0,.v (ab g.h2 n g.ac),.v g2,.v g3,.v g4] 26,.row 40 1 (some j) n n (e8 n []),.row 40 1 (some i) n n (e8 n [])] h:=by
 have eH:kC am h [] []:=(kC.zero am).mono le;refine .mk (Nat×List mj×List mj) [1,3,4,31,32,33] (λ(k,_,_)=>[.p 0 0,.v (ab (some j) n n),.v (ab (some i) n n),.v (ab g.h2 n g.ac),.v (R n),.v (R k)]) (λ(_,a6,ro)=>[.own [.v g0,.v (ab g.h2 n g.ac),.v g2,.v g3,.v g4] 26,.row 40 1 (some j) n n (e8 n a6),.row 40 1 (some i) n n (e8 n ro)]) (λ(k,a6,ro) aa=>kC am aa a6 ro/\k<=n/\a6.map dV=(g.aY.take k).map rU/\ro.map dV=(g.aY.take k).map r3) (λ(k,_,_)=>n-k) (0,[],[]) (λ_=>rfl) ⟨eH,cU _,rfl,rfl⟩ he rfl ?_;refineλ⟨k,a6,ro⟩ e aa⟨x,hk,F,G⟩=>ay λfD cQ eT=>cQ _ _ _ (ay λfy cM d9=>aW (λq=>?_) (λq=>?_));have P:k<g.aY.length:=I;obtain⟨e6,aK⟩:=ok.aY.b4 I;have ar:(g.aY.map hh.cells)[k]?=some (hh.cells g.aY[k]):=by rw[de,bK P];rfl
 have n9:=(ok.aY.mono x.le).row aK ar;have U:=ok.act _ (b3 P);have T:g.aY.take (k+1)=g.aY.take k++[g.aY[k]]:=lz P;have l':a6.length=k:=by have:=eu fv F;simp at this;omega
 have vT:ro.length=k:=by have:=eu fv G;simp at this;omega
 generalize g.aY[k]=a at n9 U T;refine cM _ _ _ (ay λfz cL eZ=>ew λfE dR dH=>ay λgF du gN=>.m e6 aK (.hp a.cells rfl (by rw[bn];exact n9) (du _ _ _ (ay λgL ed gG=>.ag (.mk _ (IW _ _ _ _ a.a8 _ (U.dK.mono x.le) U.n8) ?_)))));rintro _ y ⟨_,_,rfl,d7,⟨jA,c1,rfl,e0,f1⟩,⟨dT,c2,rfl,Z,f2⟩⟩;have jj:=x.mono d7;have O7:=Cl a.tag a.a8;obtain⟨d,V⟩:∃t,t=(b6 a.tag a.a8).2.1:=⟨_,rfl⟩;obtain⟨b,W⟩:∃t,t=(b6 a.tag a.a8).2.2:=⟨_,rfl⟩;have N:rU a=d.map λr=>⟨0,0,r⟩:=by rw[rU,V]
 have O:r3 a=b.map λr=>⟨0,0,r⟩:=by rw[r3,W]
 obtain⟨uE,mu⟩:=O7;rw[<-V]at e0 uE;rw[<-W]at Z mu;rw[<-V,<-W];generalize(b6 a.tag a.a8).1=pI;have H:(e8 n a6).length=n:=aid I;have M:(e8 n ro).length=n:=aid I;refine ed _ _ _ ?_;have fin:∀(e:cg)(X Y:LE)(f gc:aE),[1,3,4,5,7,8,31,32,33].map e=[.p 0 0,.v (ab (some j) n n),.v (ab (some i) n n),.v (R k),.v (ab jA d.length c1),.v (ab dT b.length c2),.v (ab g.h2 n g.ac),.v (R n),.v (R k)]->
  (∀K:List LE->J->Prop,(∀h,y.le h->h f.block=some (lM (ly d 0))->h gc.block=some (lM (ly b 0))->y f.block=none->y gc.block=none->f.block≠gc.block->f=⟨f.block,0,none⟩->gc=⟨gc.block,0,none⟩->K [.own [.v g0,.v (ab g.h2 n g.ac),.v g2,.v g3,.v g4] 26,.row 40 1 (some j) n n ((e8 n a6).set k (ab (some f) d.length d.length)),.row 40 1 (some i) n n ((e8 n ro).set k (ab (some gc) b.length b.length)),.own [.v (.string a.ea),.v (bC .u8 a.tag),.v (ab a.A a.n a.c)] 96,.gone,.gone] h)->
   hL K [.own [.v g0,.v (ab g.h2 n g.ac),.v g2,.v g3,.v g4] 26,.row 40 1 (some j) n n ((e8 n a6).set k (ab (some f) d.length d.length)),.row 40 1 (some i) n n ((e8 n ro).set k (ab (some gc) b.length b.length)),.own [.v (.string a.ea),.v (bC .u8 a.tag),.v (ab a.A a.n a.c)] 96,X,Y] y)->
  dq aD 194 (.seq (.seq (.ck afz) (.block 2 (.loop VA))) (.seq (.ck afy) (.block 4 (.loop VB)))) fE e [.own [.v g0,.v (ab g.h2 n g.ac),.v g2,.v g3,.v g4] 26,.row 40 1 (some j) n n ((e8 n a6).set k (ab (some f) d.length d.length)),.row 40 1 (some i) n n ((e8 n ro).set k (ab (some gc) b.length b.length)),.own [.v (.string a.ea),.v (bC .u8 a.tag),.v (ab a.A a.n a.c)] 96,X,Y] y:=by
  refineλe X Y f gc he lv=>aEn fE e g0 _ g2 g3 g4 _ _ _ X Y y n k c1 c2 n g.ac j i f gc _ _ d b jA dT g.h2 I (by rw[fI,H]) (by rw[fI,M]) (by rw[JP I]) (by rw[JP I]) e0.j7 Z.j7 uE mu he lv ?_
  refineλe h cP dj hO IL qx b' c6 b0 gg=>dH _ _ _ _ nofun (cL _ _ _ ?_)
  rw[<-fi [1,3,4,31,32,33] e,gg]
  refine .bl (⟨(k+1,a6++[(f.block,d.map λr=>⟨0,0,r⟩)],ro++[(gc.block,b.map λr=>⟨0,0,r⟩)]),rfl,?_,⟨jj.aoR cP IL qx b' dj hO,I,?_,?_⟩,by show n- (k+1)<n-k;omega⟩)
  have s1:=aie (n:=n) (r:=a6) I (f.block,d.map λr=>(⟨0,0,r⟩:cm))
  have s2:=aie (n:=n) (r:=ro) I (gc.block,b.map λr=>(⟨0,0,r⟩:cm))
  rw[tZ,<-c6,l',fj]at s1
  rw[tZ,<-b0,vT,fj]at s2
  show[_,LE.row 40 1 (some j) n n _,LE.row 40 1 (some i) n n _]=[_,LE.row 40 1 (some j) n n _,LE.row 40 1 (some i) n n _]
  rw[s1,s2]
  rw[T,fw,fw,F,JS,JS,N]
  rw[T,fw,fw,G,JS,JS,O]
 refine ay λjl S hU=>⟨?_,?_⟩;refine .mk d.length rfl rfl I I λf=>.m j rfl (⟨?_,?_⟩);refine .mk b.length rfl rfl I I λgc=>.row 1 40 1 j n n (e8 n a6) ((e8 n a6).set k (ab (some f) d.length d.length)) k rfl (by rw[bn,e4]) (io _ _ _ I) (.m i rfl (.row 2 40 1 i n n (e8 n ro) ((e8 n ro).set k (ab (some gc) b.length b.length)) k rfl (by rw[bn,e4]) (io _ _ _ I) (S _ _ _ (fin _ _ _ f gc rfl λK E=>.b5 4 66 3 (some f) d.length d.length _ rfl λaT u l f4=>.b5 5 66 3 (some gc) b.length b.length _ rfl λD w o f5=>.ag ?_))));have l:bw aT 66 3 (some f) d.length d.length (h7 (ly d 0)):=by rw[Jc,<-IJ];exact l
 have o:bw D 66 3 (some gc) b.length b.length (h7 (ly b 0)):=by rw[Jc,<-IJ];exact o
 obtain⟨z,s⟩:=Jg l rfl;obtain⟨B,C⟩:=Jg o rfl;have ne:f.block≠gc.block:=λe=>by have:=f5 gc rfl;rw[<-e,s]at this;cases this
 exact E _ (J.le_trans u w) (w _ _ s) C (f4 f rfl) (J.none_le u (f5 gc rfl)) ne z B;refine .row 1 40 1 j n n (e8 n a6) ((e8 n a6).set k (ab (some f) d.length d.length)) k rfl (by rw[bn,e4]) (io _ _ _ I) (.mk b.length rfl rfl I I λgc=>.m i rfl (.row 2 40 1 i n n (e8 n ro) ((e8 n ro).set k (ab (some gc) b.length b.length)) k rfl (by rw[bn,e4]) (io _ _ _ I) (S _ _ _ (fin _ _ _ f gc rfl λK E=>.b5 4 66 3 (some f) d.length d.length _ rfl λaT u l f4=>.b5 5 66 3 (some gc) b.length b.length _ rfl λD w o f5=>.ag ?_))));have l:bw aT 66 3 (some f) d.length d.length (h7 (ly d 0)):=by rw[Jc,<-IJ];exact l
 have o:bw D 66 3 (some gc) b.length b.length (h7 (ly b 0)):=by rw[Jc,<-IJ];exact o
 obtain⟨z,s⟩:=Jg l rfl;obtain⟨B,C⟩:=Jg o rfl;have ne:f.block≠gc.block:=λe=>by have:=f5 gc rfl;rw[<-e,s]at this;cases this
 exact E _ (J.le_trans u w) (w _ _ s) C (f4 f rfl) (J.none_le u (f5 gc rfl)) ne z B;refine .mk b.length rfl rfl I I λgc=>.mk d.length rfl rfl I I λf=>.m j rfl (.row 1 40 1 j n n (e8 n a6) ((e8 n a6).set k (ab (some f) d.length d.length)) k rfl (by rw[bn,e4]) (io _ _ _ I) (.m i rfl (.row 2 40 1 i n n (e8 n ro) ((e8 n ro).set k (ab (some gc) b.length b.length)) k rfl (by rw[bn,e4]) (io _ _ _ I) (S _ _ _ (fin _ _ _ f gc rfl λK E=>.b5 5 66 3 (some f) d.length d.length _ rfl λaT u l f4=>.b5 4 66 3 (some gc) b.length b.length _ rfl λD w o f5=>.ag ?_)))));have l:bw aT 66 3 (some f) d.length d.length (h7 (ly d 0)):=by rw[Jc,<-IJ];exact l
 have o:bw D 66 3 (some gc) b.length b.length (h7 (ly b 0)):=by rw[Jc,<-IJ];exact o
 obtain⟨z,s⟩:=Jg l rfl;obtain⟨B,C⟩:=Jg o rfl;have ne:f.block≠gc.block:=λe=>by have:=f5 gc rfl;rw[<-e,s]at this;cases this
 exact E _ (J.le_trans u w) (w _ _ s) C (f4 f rfl) (J.none_le u (f5 gc rfl)) ne z B;refine d9 _ _ _ _ nofun ?_;have ql:k=g.aY.length:=I;rw[ql,rv]at F G;exact cF _ _ a6 ro rfl x F G
def mark(rs:List (List cm))(a p k:Nat)(i:Int):List (List cm):=rs.set a ((rs.getD a []).set p ⟨k,i,((rs.getD a []).getD p ⟨0,0,0⟩).b⟩)
theorem DM rs a p k i:(mark rs a p k i).map fv=rs.map fv:=by
 rw[mark,kB,fI];by_cases h:a<rs.length;apply vj bc;intro o h1 ae;rw[s6];split;rename_i e;subst e;simp[cc,bK h];rfl;rw[List.set_eq_of_length_le (by simpa using h)]
def qW:List GE->Nat->List (List cm)×List (List cm)->List (List cm)×List (List cm)
 |[],_,q=>q
 |x::l,i,q=>qW l (i+1) (mark q.1 x.dst.toNat x.hF.toNat 3 i,mark q.2 x.src.toNat x.sp.toNat 6 i)
def qB(k:Nat):List kO->Nat->List (List cm)->List (List cm)
 |[],_,q=>q
 |x::l,i,q=>qB k l (i+1) (mark q x.act.toNat x.port.toNat k i)
structure Hi(n:Nat)(r:List mj)(au:List (List cm))(a p:Int):Prop where
 aZ:0<=a/\a<n
 hp:0<=p/\p<((au.map fv).getD a.toNat 0:Nat)
theorem Hi.get{a p:Int}(x:Hi n r au a p)(b:r.map dV=au)(al:r.length=n):∃h,p.toNat<r[a.toNat].2.length/\au.getD a.toNat []=r[a.toNat].2:=by
 have h:a.toNat<r.length:=by have:=x.aZ;omega
 subst b;have:=x.hp;refine⟨h,?_,?_⟩;simp only[cc,de,bK h,Option.map_some,pB]at this;omega;simp[cc,bK h]
theorem PV{p k:Nat}{i:Int}(d:r.map dV=au) c(hp:p<r[a].2.length):(r.set a (r[a].1,r[a].2.set p ⟨k,i,r[a].2[p].b⟩)).map dV=mark au a p k i:=by
 subst d;rw[mark,kB];simp[cc,bK c,bK hp]
theorem aqI Q(e:cg)(g:dd) am h n m f d(ok:g.ok am)(hm:g.aP.length=m)(qn:m<=96) g0 g1 g3 g4 a6 ro o j(x:kC am h a6 ro)(s:a6.map dV=o)(u:ro.map dV=j)(t:a6.length=n)(w:ro.length=n)(G:∀x∈g.aP,(0<=x.src/\x.src<n/\0<=x.sp/\x.sp<((j.map fv).getD x.src.toNat 0:Nat))/\(0<=x.dst/\x.dst<n/\0<=x.hF/\x.hF<((o.map fv).getD x.dst.toNat 0:Nat)))(he:[1,3,4,14,93,94,95].map e=[.p 0 0,.v (ab (some f) n n),.v (ab (some d) n n),.v (.func (.func 130) #[] #[]),.v (ab g.c8 m g.b0),.v (R m),.v (R (0:Nat))])
 (S:∀e aa a c,[1,3,4,14].map e=[.p 0 0,.v (ab (some f) n n),.v (ab (some d) n n),.v (.func (.func 130) #[] #[])]->kC am aa a c->a.map dV=(qW g.aP 0 (o,j)).1->c.map dV=(qW g.aP 0 (o,j)).2->e8 n a=e8 n a6->e8 n c=e8 n ro->a.length=n->c.length=n->
  Q (.exit 6) e [.own [.v g0,.v g1,.v (ab g.c8 m g.b0),.v g3,.v g4] 26,.row 40 1 (some f) n n (e8 n a6),.row 40 1 (some d) n n (e8 n ro)] aa):
 ww (λQ e L h=>dq aD 194 axH Q e L h) Q e [.own [.v g0,.v g1,.v (ab g.c8 m g.b0),.v g3,.v g4] 26,.row 40 1 (some f) n n (e8 n a6),.row 40 1 (some d) n n (e8 n ro)] h:=by
 obtain⟨F,bs⟩:∃F,F=qW g.aP 0 (o,j):=⟨_,rfl⟩
 rw[<-bs]at S
 have J:∀x∈g.aP,(0<=x.src/\x.src<n/\0<=x.sp/\x.sp<((j.map fv).getD x.src.toNat 0:Nat))/\(0<=x.dst/\x.dst<n/\0<=x.hF/\x.hF<((o.map fv).getD x.dst.toNat 0:Nat)):=G
 obtain⟨JN,N⟩:∃l,l=o.map fv:=⟨_,rfl⟩
 obtain⟨H,E⟩:∃l,l=j.map fv:=⟨_,rfl⟩
 rw[<-N,<-E]at G
 clear J
 refine .mk (Nat×List mj×List mj) [1,3,4,14,93,94,95] (λ(k,_,_)=>[.p 0 0,.v (ab (some f) n n),.v (ab (some d) n n),.v (.func (.func 130) #[] #[]),.v (ab g.c8 m g.b0),.v (R m),.v (R k)]) (λ_=>[.own [.v g0,.v g1,.v (ab g.c8 m g.b0),.v g3,.v g4] 26,.row 40 1 (some f) n n (e8 n a6),.row 40 1 (some d) n n (e8 n ro)]) (λ(k,a,c) aa=>kC am aa a c/\k<=m/\qW (g.aP.drop k) k (a.map dV,c.map dV)=F/\e8 n a=e8 n a6/\e8 n c=e8 n ro/\a.length=n/\c.length=n/\(a.map dV).map fv=JN/\(c.map dV).map fv=H) (λ(k,_,_)=>m-k) (0,a6,ro) (λ_=>rfl) ⟨x,cU _,by rw[s,u,bs];rfl,rfl,rfl,t,w,by rw[s,N],by rw[u,E]⟩ he rfl ?_
 clear x s u t w N E he bs
 refineλ⟨k,a,c⟩ e aa⟨x,hk,bs,M,D,t,w,s,u⟩=>ay λfD cQ eT=>cQ _ _ _ (ay λfy cM d9=>aW (λq=>?_) (λq=>?_))
 .have K:k<g.aP.length:=I;obtain⟨Fh,T⟩:=ok.aP.b4 I;have ar:(g.aP.map GE.cells)[k]?=some (GE.cells g.aP[k]):=by rw[de,bK K];rfl
  have zq:=(ok.aP.mono x.le).row T ar;have O:g.aP.drop k=g.aP[k]::g.aP.drop (k+1):=l1 K;obtain⟨⟨s1,s2,X,ov⟩,t1,t2,t3,t4⟩:=G _ (b3 K);generalize g.aP[k]=y at zq O s1 s2 X ov t1 t2 t3 t4;rw[O,qW]at bs;obtain⟨A,a2,a3⟩:=Hi.get (r:=c) (au:=c.map dV) ⟨⟨s1,s2⟩,X,by rw[u];exact ov⟩ rfl w;obtain⟨z,P,g7⟩:=Hi.get (r:=a) (au:=a.map dV) ⟨⟨t1,t2⟩,t3,by rw[s];exact t4⟩ rfl t;refine cM _ _ _ (ay λfz cL eZ=>ew λfE dR dH=>ay λgF du gN=>.m Fh T (.hp y.cells rfl (by rw[bn];exact zq) (du _ _ _ (ay λgL ed gG=>.m d rfl (.row 2 40 1 d n n _ _ (tZ c[y.src.toNat]) rfl (by rw[e4]) (by rw[<-D];exact Mg A) (.r ?_))))));conv=>whnf
  rw[add_lit,dZ];refine .ag (.mk _ (Qj _ _ 6 (k:Int) _ _ (x.swap.KR A) a2) ?_);rintro _ _ rfl;have B:=(x.swap.Ji A (c[y.src.toNat].2.set y.sp.toNat ⟨6,(k:Int),c[y.src.toNat].2[y.sp.toNat].b⟩)).swap;have m2:=PV (k:=6) (i:=(k:Int)) (au:=c.map dV) rfl A a2;have V:=Qn (n:=n) A (U:=c[y.src.toNat].2.set y.sp.toNat ⟨6,(k:Int),c[y.src.toNat].2[y.sp.toNat].b⟩) bc;rw[lM]at B;generalize W:c.set y.src.toNat (c[y.src.toNat].1,c[y.src.toNat].2.set y.sp.toNat ⟨6,(k:Int),c[y.src.toNat].2[y.sp.toNat].b⟩)=tU at B m2 V;have VQ:tU.length=n:=by rw[<-W,fI];exact w
  clear W;generalize aa.put _ _=ae at B;refine ed _ _ _ ?_;refine .m f rfl ?_;refine .row 1 40 1 f n n _ _ (tZ a[y.dst.toNat]) rfl (by rw[e4]) (by rw[<-M];exact Mg z) ?_;refine .r ?_;conv=>whnf
  rw[add_lit,dZ];refine .ag (.mk _ (Qj _ _ 3 (k:Int) _ _ (B.KR z) P) ?_);rintro _ _ rfl;have C:=B.Ji z (a[y.dst.toNat].2.set y.hF.toNat ⟨3,(k:Int),a[y.dst.toNat].2[y.hF.toNat].b⟩);have m3:=PV (k:=3) (i:=(k:Int)) (au:=a.map dV) rfl z P;have Y:=Qn (n:=n) z (U:=a[y.dst.toNat].2.set y.hF.toNat ⟨3,(k:Int),a[y.dst.toNat].2[y.hF.toNat].b⟩) bc;rw[lM]at C;generalize Z:a.set y.dst.toNat (a[y.dst.toNat].1,a[y.dst.toNat].2.set y.hF.toNat ⟨3,(k:Int),a[y.dst.toNat].2[y.hF.toNat].b⟩)=u6 at C m3 Y;have F8:u6.length=n:=by rw[<-Z,fI];exact t
  clear Z;generalize ae.put _ _=ax at C;refine dH _ _ _ _ nofun (cL _ _ _ ?_);refine .bl ?_;refine⟨(k+1,u6,tU),rfl,rfl,⟨C,I,by rw[m2,m3];exact bs,Y.trans M,V.trans D,F8,VQ,by rw[m3,DM];exact s,by rw[m2,DM];exact u⟩,by show m- (k+1)<m-k;omega⟩
 refine d9 _ _ _ _ nofun ?_
 have ql:k=g.aP.length:=I
 rw[ql,RX,qW]at bs
 exact S _ _ a c rfl x (by rw[<-bs]) (by rw[<-bs]) M D t w
theorem aDt Q(e:cg)(g:dd) am h n m c d(ok:g.ok am)(hm:g.ins.length=m)(qn:m<=96) g0 g1 g2 g4 a6 ro s(x:kC am h a6 ro)(f:a6.map dV=s)(j:a6.length=n)(B:∀x∈g.ins,0<=x.act/\x.act<n/\0<=x.port/\x.port<((s.map fv).getD x.act.toNat 0:Nat))(he:[1,3,4,14,124,125,126].map e=[.p 0 0,.v (ab (some c) n n),.v (ab (some d) n n),.v (.func (.func 130) #[] #[]),.v (ab g.eg m g.cf),.v (R m),.v (R (0:Nat))])
 (D:∀e aa a,[1,3,4,14].map e=[.p 0 0,.v (ab (some c) n n),.v (ab (some d) n n),.v (.func (.func 130) #[] #[])]->kC am aa a ro->a.map dV=qB 4 g.ins 0 s->e8 n a=e8 n a6->a.length=n->
  Q (.exit 8) e [.own [.v g0,.v g1,.v g2,.v (ab g.eg m g.cf),.v g4] 26,.row 40 1 (some c) n n (e8 n a6),.row 40 1 (some d) n n (e8 n ro)] aa):
 ww (λQ e L h=>dq aD 194 axI Q e L h) Q e [.own [.v g0,.v g1,.v g2,.v (ab g.eg m g.cf),.v g4] 26,.row 40 1 (some c) n n (e8 n a6),.row 40 1 (some d) n n (e8 n ro)] h:=by
 obtain⟨F,bs⟩:∃F,F=qB 4 g.ins 0 s:=⟨_,rfl⟩
 rw[<-bs]at D
 obtain⟨O,z⟩:∃l,l=s.map fv:=⟨_,rfl⟩
 rw[<-z]at B
 refine .mk (Nat×List mj) [1,3,4,14,124,125,126] (λ(k,_)=>[.p 0 0,.v (ab (some c) n n),.v (ab (some d) n n),.v (.func (.func 130) #[] #[]),.v (ab g.eg m g.cf),.v (R m),.v (R k)]) (λ_=>[.own [.v g0,.v g1,.v g2,.v (ab g.eg m g.cf),.v g4] 26,.row 40 1 (some c) n n (e8 n a6),.row 40 1 (some d) n n (e8 n ro)]) (λ(k,a) aa=>kC am aa a ro/\k<=m/\qB 4 (g.ins.drop k) k (a.map dV)=F/\e8 n a=e8 n a6/\a.length=n/\(a.map dV).map fv=O) (λ(k,_)=>m-k) (0,a6) (λ_=>rfl) ⟨x,cU _,by rw[f,bs];rfl,rfl,j,by rw[f,z]⟩ he rfl ?_
 clear x f j z he bs
 refineλ⟨k,a⟩ e aa⟨x,hk,bs,w,j,f⟩=>ay λfD V eT=>V _ _ _ (ay λfy T W=>aW (λq=>?_) (λq=>?_))
 have u:k<g.ins.length:=I
 obtain⟨N,E⟩:=ok.ins.b4 I
 have P:(g.ins.map kO.cells)[k]?=some (kO.cells g.ins[k]):=by rw[de,bK u];rfl
 have K:=(ok.ins.mono x.le).row E P
 have A:g.ins.drop k=g.ins[k]::g.ins.drop (k+1):=l1 u
 obtain⟨t1,t2,t3,t4⟩:=B _ (b3 u)
 generalize g.ins[k]=y at K A t1 t2 t3 t4
 rw[A,qB]at bs
 obtain⟨o,C,g7⟩:=Hi.get (r:=a) (au:=a.map dV) ⟨⟨t1,t2⟩,t3,by rw[f];exact t4⟩ rfl j
 refine T _ _ _ (ay λfz S eZ=>ew λfE dR X=>ay λgF Y gN=>.m N E (.hp y.cells rfl (by rw[bn];exact K) (Y _ _ _ (.m c rfl (.row 1 40 1 c n n _ _ (tZ a[y.act.toNat]) rfl (by rw[e4]) (by rw[<-w];exact Mg o) (.r ?_))))))
 conv=>whnf
 rw[add_lit,dZ]
 refine .ag (.mk _ (Qj _ _ 4 (k:Int) _ _ (x.KR o) C) ?_)
 rintro _ _ rfl
 have t:=x.Ji o (a[y.act.toNat].2.set y.port.toNat ⟨4,(k:Int),a[y.act.toNat].2[y.port.toNat].b⟩)
 have m3:=PV (k:=4) (i:=(k:Int)) (au:=a.map dV) rfl o C
 have G:=Qn (n:=n) o (U:=a[y.act.toNat].2.set y.port.toNat ⟨4,(k:Int),a[y.act.toNat].2[y.port.toNat].b⟩) bc
 rw[lM]at t
 generalize H:a.set y.act.toNat (a[y.act.toNat].1,a[y.act.toNat].2.set y.port.toNat ⟨4,(k:Int),a[y.act.toNat].2[y.port.toNat].b⟩)=J at t m3 G
 have M:J.length=n:=by rw[<-H,fI];exact j
 clear H
 generalize aa.put _ _=ax at t
 refine X _ _ _ _ nofun (S _ _ _ ?_)
 refine .bl ?_
 refine⟨(k+1,J),rfl,rfl,⟨t,I,by rw[m3];exact bs,G.trans w,M,by rw[m3,DM];exact f⟩,by show m- (k+1)<m-k;omega⟩
 refine W _ _ _ _ nofun ?_
 have Z:k=g.ins.length:=I
 rw[Z,RX,qB]at bs
 exact D _ _ a rfl x (by rw[<-bs]) w j
theorem aDu Q(e:cg)(g:dd) am h n m d c(ok:g.ok am)(hm:g.outs.length=m)(qn:m<=96) g0 g1 g2 g3 a6 ro s(x:kC am h a6 ro)(f:a6.map dV=s)(j:a6.length=n)(B:∀x∈g.outs,0<=x.act/\x.act<n/\0<=x.port/\x.port<((s.map fv).getD x.act.toNat 0:Nat))(he:[1,3,4,14,144,145,146].map e=[.p 0 0,.v (ab (some d) n n),.v (ab (some c) n n),.v (.func (.func 130) #[] #[]),.v (ab g.cn m g.bT),.v (R m),.v (R (0:Nat))])
 (D:∀e aa a,[1,3,4,14].map e=[.p 0 0,.v (ab (some d) n n),.v (ab (some c) n n),.v (.func (.func 130) #[] #[])]->kC am aa a ro->a.map dV=qB 7 g.outs 0 s->e8 n a=e8 n a6->a.length=n->
  Q (.exit 10) e [.own [.v g0,.v g1,.v g2,.v g3,.v (ab g.cn m g.bT)] 26,.row 40 1 (some d) n n (e8 n ro),.row 40 1 (some c) n n (e8 n a6)] aa):
 ww (λQ e L h=>dq aD 194 axJ Q e L h) Q e [.own [.v g0,.v g1,.v g2,.v g3,.v (ab g.cn m g.bT)] 26,.row 40 1 (some d) n n (e8 n ro),.row 40 1 (some c) n n (e8 n a6)] h:=by
 obtain⟨F,bs⟩:∃F,F=qB 7 g.outs 0 s:=⟨_,rfl⟩
 rw[<-bs]at D
 obtain⟨O,z⟩:∃l,l=s.map fv:=⟨_,rfl⟩
 rw[<-z]at B
 refine .mk (Nat×List mj) [1,3,4,14,144,145,146] (λ(k,_)=>[.p 0 0,.v (ab (some d) n n),.v (ab (some c) n n),.v (.func (.func 130) #[] #[]),.v (ab g.cn m g.bT),.v (R m),.v (R k)]) (λ_=>[.own [.v g0,.v g1,.v g2,.v g3,.v (ab g.cn m g.bT)] 26,.row 40 1 (some d) n n (e8 n ro),.row 40 1 (some c) n n (e8 n a6)]) (λ(k,a) aa=>kC am aa a ro/\k<=m/\qB 7 (g.outs.drop k) k (a.map dV)=F/\e8 n a=e8 n a6/\a.length=n/\(a.map dV).map fv=O) (λ(k,_)=>m-k) (0,a6) (λ_=>rfl) ⟨x,cU _,by rw[f,bs];rfl,rfl,j,by rw[f,z]⟩ he rfl ?_
 clear x f j z he bs
 refineλ⟨k,a⟩ e aa⟨x,hk,bs,w,j,f⟩=>ay λfD V eT=>V _ _ _ (ay λfy T W=>aW (λq=>?_) (λq=>?_))
 have u:k<g.outs.length:=I
 obtain⟨N,E⟩:=ok.outs.b4 I
 have P:(g.outs.map kO.cells)[k]?=some (kO.cells g.outs[k]):=by rw[de,bK u];rfl
 have K:=(ok.outs.mono x.le).row E P
 have A:g.outs.drop k=g.outs[k]::g.outs.drop (k+1):=l1 u
 obtain⟨t1,t2,t3,t4⟩:=B _ (b3 u)
 generalize g.outs[k]=y at K A t1 t2 t3 t4
 rw[A,qB]at bs
 obtain⟨o,C,g7⟩:=Hi.get (r:=a) (au:=a.map dV) ⟨⟨t1,t2⟩,t3,by rw[f];exact t4⟩ rfl j
 refine T _ _ _ (ay λfz S eZ=>ew λfE dR X=>ay λgF Y gN=>.m N E (.hp y.cells rfl (by rw[bn];exact K) (Y _ _ _ (.m c rfl (.row 2 40 1 c n n _ _ (tZ a[y.act.toNat]) rfl (by rw[e4]) (by rw[<-w];exact Mg o) (.r ?_))))))
 conv=>whnf
 rw[add_lit,dZ]
 refine .ag (.mk _ (Qj _ _ 7 (k:Int) _ _ (x.KR o) C) ?_)
 rintro _ _ rfl
 have t:=x.Ji o (a[y.act.toNat].2.set y.port.toNat ⟨7,(k:Int),a[y.act.toNat].2[y.port.toNat].b⟩)
 have m3:=PV (k:=7) (i:=(k:Int)) (au:=a.map dV) rfl o C
 have G:=Qn (n:=n) o (U:=a[y.act.toNat].2.set y.port.toNat ⟨7,(k:Int),a[y.act.toNat].2[y.port.toNat].b⟩) bc
 rw[lM]at t
 generalize H:a.set y.act.toNat (a[y.act.toNat].1,a[y.act.toNat].2.set y.port.toNat ⟨7,(k:Int),a[y.act.toNat].2[y.port.toNat].b⟩)=J at t m3 G
 have M:J.length=n:=by rw[<-H,fI];exact j
 clear H
 generalize aa.put _ _=ax at t
 refine X _ _ _ _ nofun (S _ _ _ ?_)
 refine .bl ?_
 refine⟨(k+1,J),rfl,rfl,⟨t,I,by rw[m3];exact bs,G.trans w,M,by rw[m3,DM];exact f⟩,by show m- (k+1)<m-k;omega⟩
 refine W _ _ _ _ nofun ?_
 have Z:k=g.outs.length:=I
 rw[Z,RX,qB]at bs
 exact D _ _ a rfl x (by rw[<-bs]) w j
abbrev vg:=Option aE×Nat×List cm
variable {D:List vg}
def x'(d:vg):aA:=ab d.1 d.2.2.length d.2.1
def Ez(h:J)(D:List vg):Prop:=∀d∈D,bw h 66 3 d.1 d.2.2.length d.2.1 (h7 d.2.2)
theorem Ez.mono{h aa:J}{D:List vg}(x:Ez h D)(le:h.le aa):Ez aa D:=λd a=>(x d a).mono le
theorem aCN(a:h b=some (lM l))(hm:l.length<=1000):bw h 66 3 (some ⟨b,0,none⟩) l.length l.length (h7 l):=⟨DU l,ba ⟨b,(h7 l).toArray,rfl,a,dM _,by simp[eQ];omega,by simp[DU],by rw[<-DU,rv]⟩⟩
theorem aCO(a:h b=some (lM l)):bg h 3 (some ⟨b,0,none⟩) l.length (l.map cm.cells):=bg.lit a rfl (λr c=>by obtain⟨x,_,rfl⟩:=cO.1 c;rfl) bc
def Kt(a6 ro:List mj)(k:Nat):List cm:=(a6.getD k (0,[])).2++[⟨5,k,0⟩]++(ro.getD k (0,[])).2
def td(D:List vg)(a6:List mj):List aA:=D.map x'++(a6.drop D.length).map tZ
theorem aoE h:(td D a6)[D.length]?=some (tZ a6[D.length]):=by
 rw[td,G6 bc,fj,xQ,de,List.getElem?_drop,A6,bK h];rfl
theorem aoF(h:D.length<=a6.length):(td D a6).length=a6.length:=by simp[td];omega
theorem aoG(h:D.length<a6.length) d:(td D a6).set D.length (x' d)=td (D++[d]) a6:=by
 unfold td;rw[vm _ _ bc,fj,xQ,l1 h,fw,mg,fb];rfl
theorem apE Q(e:cg) am h n a f(aF:n<=1000) g0 g1 g2 g3 g4 a6 ro(x:kC am h a6 ro)(l':a6.length=n)(vT:ro.length=n)(y:∀q∈a6++ro,q.2.length<=100)(he:[3,4,165,166].map e=[.v (ab (some a) n n),.v (ab (some f) n n),.v (R n),.v (R (0:Nat))])
 (O:∀e aa D,[3].map e=[.v (ab (some a) n n)]->am.le aa->Ez aa D->D.length=n->D.map (λd=>d.2.2)=(fJ n).map (Kt a6 ro)->
  Q (.exit 12) e [.own [.v g0,.v g1,.v g2,.v g3,.v g4] 26,.row 40 1 (some a) n n (D.map x'),.row 40 1 (some f) n n (e8 n ro)] aa):
 ww (λQ e L h=>dq aD 194 axK Q e L h) Q e [.own [.v g0,.v g1,.v g2,.v g3,.v g4] 26,.row 40 1 (some a) n n (e8 n a6),.row 40 1 (some f) n n (e8 n ro)] h:=by
 have G:e8 n a6=td [] a6:=by simp[e8,td,l']
 rw[G]
 refine .mb [0,1,2] (Nat×List vg) [3,4,165,166] (λ(k,_)=>[.v (ab (some a) n n),.v (ab (some f) n n),.v (R n),.v (R k)]) (λ(_,D)=>[.own [.v g0,.v g1,.v g2,.v g3,.v g4] 26,.row 40 1 (some a) n n (td D a6),.row 40 1 (some f) n n (e8 n ro)]) (λ(k,D) aa=>kC am aa a6 ro/\k<=n/\Ez aa D/\D.length=k/\D.map (λd=>d.2.2)=(fJ k).map (Kt a6 ro)) (λ(k,_)=>n-k) (0,[]) (λ_=>rfl) ⟨x,cU _,(by intro d c;cases c),rfl,rfl⟩ (by rw[he];rfl) rfl rfl ?_
 clear x he G
 refineλ⟨k,D⟩ e aa⟨x,hk,B,E,A⟩=>.ag (ay λfD T eT=>T _ _ _ (ay λfy S V=>aW (λq=>?_) (λq=>?_)))
 subst E
 have o:D.length<a6.length:=I
 have t:D.length<ro.length:=I
 have u:a6[D.length]∈a6++ro:=wz _ (b3 o)
 have j:ro[D.length]∈a6++ro:=xN _ (b3 t)
 have J:=aCN (x.at_ _ u) (by have:=y _ u;omega)
 have C:=aCO (x.at_ _ j)
 have K:=y _ u
 have M:=y _ j
 have rC:Kt a6 ro D.length=a6[D.length].2++[⟨5,(D.length:Int),0⟩]++ro[D.length].2:=by
  rw[Kt,cc,cc,bK o,bK t];rfl
 have i:=aoE o
 have g:(e8 n ro)[D.length]?=some (tZ ro[D.length]):=Mg t
 have N:=aoF (D:=D) (a6:=a6) I
 have w:=aoG o
 generalize a6[D.length]=p at J K rC i
 generalize ro[D.length]=r at C M rC g
 refine S _ _ _ (ay λfz P eZ=>ew λfE dR W=>ay λgF X gN=>X _ _ _ (ay λgL Y gG=>.m a rfl (.row 1 40 1 a n n _ _ (tZ p) rfl (by rw[e4]) (by rw[bn];exact i) (.ag (NJ J (aI:=h7 [⟨5,(D.length:Int),0⟩]) rfl (Gn _) aH rfl (by simp[eQ];omega) I (λb U aK kk=>by obtain⟨_,_,_,_,_,q,_⟩:=bw.split kk;omega) (λbo bj aK av=>.m a rfl (.row 1 40 1 a n n (td D a6) ((td D a6).set D.length (ab bo (p.2.length+1) bj)) D.length rfl (by rw[bn,e4]) (io _ _ _ I) (Y _ _ _ (.m a rfl (.row 1 40 1 a n n _ _ (ab bo (p.2.length+1) bj) rfl (by rw[e4]) (by rw[bn,JP I]) ?_))))))))))
 refine .m f rfl (.row 2 40 1 f n n _ _ (tZ r) rfl (by rw[e4]) (by rw[bn];exact g) (.c0 4 _ (h7 r.2) rfl (C.src _) (Gn _) (by simp[eQ];omega) I λs c2 tu=>.m a rfl (.row 1 40 1 a n n _ ((td D a6).set D.length (ab s (p.2.length+1+r.2.length) c2)) D.length rfl (by rw[bn,e4]) (by rw[io _ _ _ (by rw[fI];omega),List.set_set]) (W _ _ _ _ nofun (P _ _ _ (.bl (.b5 4 66 3 s (p.2.length+1+r.2.length) c2 _ rfl λaT F Z f4=>.ag ?_)))))))
 have H:(p.2++[(⟨5,(D.length:Int),0⟩:cm)]++r.2).length=p.2.length+1+r.2.length:=by simp;omega
 have l:=w (s,c2,p.2++[⟨5,(D.length:Int),0⟩]++r.2)
 rw[x',H]at l
 refine⟨(D.length+1,D++[(s,c2,p.2++[⟨5,(D.length:Int),0⟩]++r.2)]),rfl,?_,⟨x.mono F,I,λd c=>?_,bc,?_⟩,by show n- (D.length+1)<n-D.length;omega⟩
 show[_,LE.row 40 1 (some a) n n _,_]=[_,LE.row 40 1 (some a) n n _,_]
 rw[l]
 rcases eI.1 c with c|c
 exact(B d c).mono F
 rw[hZ]at c
 subst c
 rw[H,I3,I3]
 exact Z
 rw[fw,A,List.range_succ,fw,JS,JS,rC]
 refine V _ _ _ _ nofun ?_
 have ql:k=n:=I
 subst ql
 have:td D a6=D.map x':=by rw[td,List.drop_eq_nil_of_le I];simp
 have z:=λe he=>O e aa D he x.le B E A
 rw[<-this]at z
 exact z _ rfl
theorem Mo k:∀l i au,(qB k l i au).map fv=au.map fv
 |[],_,_=>rfl
 |x::l,i,au=>by rw[qB,Mo k l,DM]
theorem Tg:∀l i q,(qW l i q).1.map fv=q.1.map fv/\(qW l i q).2.map fv=q.2.map fv
 |[],_,_=>⟨rfl,rfl⟩
 |x::l,i,q=>by
  obtain⟨h1,ae⟩:=Tg l (i+1) (mark q.1 x.dst.toNat x.hF.toNat 3 i,mark q.2 x.src.toNat x.sp.toNat 6 i);rw[qW];exact⟨h1.trans (DM _ _ _ _ _),ae.trans (DM _ _ _ _ _)⟩
def Fa(g:dd):List (List cm):=qB 4 g.ins 0 (qW g.aP 0 (g.aY.map rU,g.aY.map r3)).1
def Fb(g:dd):List (List cm):=qB 7 g.outs 0 (qW g.aP 0 (g.aY.map rU,g.aY.map r3)).2
def gU(g:dd):List (List cm):=(fJ g.aY.length).map λ(o:Nat)=>(Fa g).getD o []++[⟨5,(o:Int),0⟩]++(Fb g).getD o []
theorem agy{a:Int}(c:0<=a/\a<n)(b:g.aY.length=n):((g.aY.map rU).map fv).getD a.toNat 0=(eo g a).length:=by
 have h:a.toNat<g.aY.length:=I;simp[eo,cc,bK h,rU]
theorem agz{a:Int}(c:0<=a/\a<n)(b:g.aY.length=n):((g.aY.map r3).map fv).getD a.toNat 0=(jp g a).length:=by
 have h:a.toNat<g.aY.length:=I;simp[jp,cc,bK h,r3]
theorem ac8(rs:List mj) i:(rs.getD i (0,[])).2=(rs.map dV).getD i []:=by
 simp only[cc,de];cases rs[i]? <;>rfl
theorem ajV{l:List hh}{f:hh->List cm}(e:r.map dV=au)(al:au.map fv=(l.map f).map fv)(d:∀a,(f a).length<=16):∀q∈r,q.2.length<=100:=λq b=>by
 have h1:q.2.length∈au.map fv:=by rw[<-e];exact cO.2 ⟨_,cO.2 ⟨q,b,rfl⟩,rfl⟩
 rw[al]at h1;obtain⟨x,c,ex⟩:=cO.1 h1;obtain⟨a,_,rfl⟩:=cO.1 c;have:=d a;omega
theorem arE g h(ok:g.ok h)(i:Y7 g) n(c:g.aY.length=n):Fn aD 72 #[.agg g.cells.toArray] h λv aa=>h.le aa/\∃b D,v=ab (some b) n n/\bg aa 1 (some b) n (D.map λd=>[x' d])/\Ez aa D/\D.map (λd=>d.2.2)=gU g:=by
 refine bU zY rfl ?_;have a32:=i.a32;have o6:=i.o6;have i16:=i.i16;have r2:=i.r2;obtain⟨m,hm⟩:∃m,g.aP.length=m:=⟨_,rfl⟩;obtain⟨j,S⟩:∃m,g.ins.length=m:=⟨_,rfl⟩;obtain⟨k,T⟩:∃m,g.outs.length=m:=⟨_,rfl⟩;have gc:g.cells=[.string g.ea,ab g.h2 n g.ac,ab g.c8 m g.b0,ab g.eg j g.cf,ab g.cn k g.bT]:=by rw[dd.cells,c,hm,S,T]
 rw[gc];clear gc;refine ay λfD cQ eT=>cQ _ _ _ (ay λfy cM d9=>pw.one n (ab none 0 0) rfl rfl rfl rfl I I λb=>cM _ _ _ (ay λfz cL eZ=>pw.one n (ab none 0 0) rfl rfl rfl rfl I I λu=>cL _ _ _ (ay λfE dR dH=>ay λgF du gN=>du _ _ _ (ew λgL ed gG=>?_))));have z0:=aCQ n;simp only[<-z0];refine aEB gL _ g h h n b u ok c I (J.le_refl _) (.string g.ea) (ab g.c8 m g.b0) (ab g.eg j g.cf) (ab g.cn k g.bT) rfl (λe h1 a6 ro he x O P=>?_);have l':a6.length=n:=by have:=eu fv O;simp at this;omega
 have vT:ro.length=n:=by have:=eu fv P;simp at this;omega
 refine ed _ _ _ (dR _ _ _ ?_);rw[<-fi [1,3,4] e,he];refine ay λjl eY hU=>eY _ _ _ (ay λkd fO j3=>ay λjU hc iD=>hc _ _ _ (ew λkQ gM kH=>aqI kQ _ g h h1 n m b u ok hm I (.string g.ea) (ab g.h2 n g.ac) (ab g.eg j g.cf) (ab g.cn k g.bT) a6 ro _ _ x O P l' vT (λy s=>?_) rfl ?_));obtain⟨⟨s1,s2,ic,ov⟩,⟨t1,t2,t3,t4⟩,_⟩:=i.nD y s;refine⟨⟨s1,I,ic,?_⟩,t1,I,t3,?_⟩;rw[agz (n:=n) ⟨s1,I⟩ c];exact ov;rw[agy (n:=n) ⟨t1,I⟩ c];exact t4;clear e he;intro e ae u6 R he fu E C vX Y V VQ;rw[<-vX,<-Y];obtain⟨L,M⟩:=Tg g.aP 0 (g.aY.map rU,g.aY.map r3);refine gM _ _ _ (fO _ _ _ ?_);rw[<-fi [1,3,4,14] e,he];refine ay λqS kh qs=>ay λoE ki nn=>ki _ _ _ (ew λsk lJ uI=>aDt sk _ g h ae n j b u ok S I (.string g.ea) (ab g.h2 n g.ac) (ab g.c8 m g.b0) (ab g.cn k g.bT) u6 R _ fu E V (λy s=>?_) rfl ?_);obtain⟨t1,t2,t3,t4⟩:=i.Ir y s;refine⟨t1,I,t3,?_⟩;rw[L,agy (n:=n) ⟨t1,I⟩ c];exact t4;clear e he;intro e ax K he jj H A w;rw[<-A];refine lJ _ _ _ (kh _ _ _ ?_);rw[<-fi [1,3,4,14] e,he];refine ay λxT qr z1=>ay λA' tI DJ=>tI _ _ _ (ew λU zZ Iw=>aDu U _ g h ax n k b u ok T I (.string g.ea) (ab g.h2 n g.ac) (ab g.c8 m g.b0) (ab g.eg j g.cf) R K _ jj.swap C VQ (λy s=>?_) rfl ?_);obtain⟨t1,t2,t3,t4⟩:=i.I6 y s;refine⟨t1,I,t3,?_⟩;rw[M,agz (n:=n) ⟨t1,I⟩ c];exact t4;clear e he;intro e aT lQ he rm t B z;rw[<-B];refine zZ _ _ _ (qr _ _ _ ?_);rw[<-fi [1,3,4,14] e,he];refine ay λEO xi Ix=>ay λZB W afX=>W _ _ _ (ew λZ X afY=>apE Z _ h aT n b u I (.string g.ea) (ab g.h2 n g.ac) (ab g.c8 m g.b0) (ab g.eg j g.cf) (ab g.cn k g.bT) K lQ rm.swap w z (λq p=>?_) rfl ?_);rcases eI.1 p with p|p;exact ajV H (l:=g.aY) (f:=rU) ((Mo _ _ _ _).trans L) (λa=>by rw[rU,fj];exact(Cl _ _).1) q p;exact ajV t (l:=g.aY) (f:=r3) ((Mo _ _ _ _).trans M) (λa=>by rw[r3,fj];exact(Cl _ _).2) q p;clear e he;refineλe cr D he gh G Pz F=>X _ _ _ (xi _ _ _ ?_);rw[<-fi [3] e,he];refine .b5 1 40 1 (some b) n n _ rfl λeX N Q f6=>.ag ⟨J.le_trans gh N,b,D,rfl,?_,G.mono N,?_⟩;refine bw.dK (bF:=40) (cap:=n) (rows:=D.map λd=>[x' d]) ?_ (λr aq=>by obtain⟨d,_,rfl⟩:=cO.1 aq;rfl) aH;have aQ:(D.map λd=>[x' d]).flatten=D.map x':=by
  clear Q G Pz F;induction D with
  |nil=>rfl
  |cons d D bI=>rw[er,qN,bI];rfl
 rw[aQ];exact Q;rw[F,gU,c,Fa,Fb,<-H,<-t];refine List.map_congr_left λo _=>?_;rw[Kt,ac8,ac8]
def kw(t:Int)(op len:Nat)(inner:List cm):List cm:=if 1<t then⟨1,op,t⟩::(inner++[⟨2,op,(len:Int)+1⟩])else inner
def fL(t:Int):Nat:=if 1<t then 1 else 0
def gf(au:List (List cm)):e3->Nat->Nat->List cm
 |.nil,_,_=>[]
 |.cons t n b r,len,op=>kw t op len (bif b.leaf then au.getD n.toNat []else gf au b (len+fL t) (op+fL t))++
  gf au r (len+(kw t op len (bif b.leaf then au.getD n.toNat []else gf au b (len+fL t) (op+fL t))).length) op
def jh:e3->Nat->Nat->Nat
 |.nil,_,dn=>dn
 |.cons t _ b r,op,dn=>jh r op (jh b (op+fL t) (if 1<t then max dn (op+1)else dn))
def EK(n:Nat):e3->Prop
 |.nil=>True
 |.cons _ k b r=>(b.leaf=true->0<=k/\k<n)/\EK n b/\EK n r
structure Hu(am h:J)(a1:Nat)(A:Option aE)(c op dn:Nat)(F:aA)(l:List cm):Prop where
 le:am.le h
 c':am a1=none
 box:h a1=some (bb #[ab A l.length c,R op,R dn,F] 215 (0,0))
section
variable {am h aa:J}{a1:Nat}{A:Option aE}{c op dn:Nat}{F:aA}{l:List cm}
theorem oG.open(w:oG am h a1 A c op dn F l):Hu am (en h A) a1 A c op dn F l:=by
 rcases A with _|g;exact⟨w.le,w.c',w.box⟩;have:=w.ku g rfl;refine⟨λo U a=>?_,w.c',?_⟩;rw[en,J.nA _ (λe=>aL)];exact w.le o U a;rw[en,J.nA _ (eh this.1)];exact w.box
theorem Hu.close(w:Hu am h a1 A c op dn F l)(le:h.le aa)(r:bw aa 66 3 A l.length c (h7 l))(f:∀g,A=some g->h g.block=none):oG am aa a1 A c op dn F l:=⟨J.le_trans w.le le,w.c',le _ _ w.box,r,λg a=>⟨λe=>(by simp_all[e,w.box]),J.none_le w.le (f g a)⟩⟩
theorem Hu.app(w:Hu am h a1 A c op dn F l) bo bj m:Hu am (h.put a1 (bb [ab bo (l++m).length bj,R op,R dn,F].toArray 215 (0,0))) a1 bo bj op dn F (l++m):=⟨lK w.c' w.le,w.c',J.b8 _ _ _⟩
end
structure Nd(am:J)(bu:aE)(n:Nat)(D:List vg):Prop where
 dK:bg am 1 (some bu) n (D.map λd=>[x' d])
 rows:Ez am D
 len:∀d∈D,d.2.2.length<=200
theorem Tj{t n:Int}{b r:e3}{len:Nat}:(gf au (.cons t n b r) len op).length=(kw t op len (bif b.leaf then au.getD n.toNat []else gf au b (len+fL t) (op+fL t))).length+(gf au r (len+(kw t op len (bif b.leaf then au.getD n.toNat []else gf au b (len+fL t) (op+fL t))).length) op).length:=by
 simp[gf]
theorem ah3 t op len q:(kw t op len q).length=q.length+2*fL t:=by
 unfold kw fL;grind
theorem Nd.get{c:aE}(a:Nd am c n D){k:Int}(hk:0<=k/\k<n):∃d,am.cell? (c.add (k.toNat*1))=some (x' d)/\bg am 3 d.1 d.2.2.length (d.2.2.map cm.cells)/\d.2.2.length<=200/\(D.map λd=>d.2.2).getD k.toNat []=d.2.2:=by
 have al:D.length=n:=by simpa using a.dK.len
 have b:k.toNat<D.length:=I;refine⟨D[k.toNat],a.dK.one rfl (by rw[de,bK b];rfl) rfl,?_,a.len _ (b3 b),?_⟩;exact bw.dK (a.rows _ (b3 b)) (λr e=>by obtain⟨x,_,rfl⟩:=cO.1 e;rfl) aH
 grind
theorem Xu(am:J)(p:aE)(n:Nat)(D:List vg)(nb:Nd am p n D)(a1:Nat)(aF:n<=1000):
 ∀(N:Nat)(f:cd),f.br<N->f.br<=200000->EK n f.bR->∀(A:Option aE)(m cap:Nat)(h:J)(RB:Option aE)(c op dn:Nat)(l:List cm),kR am A m f->oG am h a1 RB c op dn (ab (some p) n n) l->
  l.length+(gf (D.map λd=>d.2.2) f.bR l.length op).length<=1000000->op+f.br<=100000->
  Fn aD 73 #[iR a1,ab A m cap] h λ_ aa=>∃bo bj,oG am aa a1 bo bj op (jh f.bR op dn) (ab (some p) n n) (l++gf (D.map λd=>d.2.2) f.bR l.length op)
 |0,f,dX,_=>absurd dX (CK _)
 |N+1,f,dX,oM=>by
  intro oN A m cap h RB c op dn l an w aj aU;obtain⟨au,dt⟩:∃au,au=D.map λd=>d.2.2:=⟨_,rfl⟩;rw[<-dt]at aj⊢;have hm:m<=200000:=by have:=an.1;have:=f.Ac;omega
  refine bU afR rfl (ay λfD cQ eT=>cQ _ _ _ (ew λfy cM d9=>?_));refine .mb [] (Nat×cd×Option aE×Nat×Nat×List cm) [0,7,8,9] (λ(i,_)=>[.v (iR a1),.v (ab A m cap),.v (R m),.v (R i)]) (λ_=>[]) (λ(i,r,H,bj,u,cC) aa=>oG am aa a1 H bj op u (ab (some p) n n) cC/\s' am A m i r/\r.br<=f.br/\EK n r.bR/\cC++gf au r.bR cC.length op=l++gf au f.bR l.length op/\jh r.bR op u=jh f.bR op dn) (λ(i,_)=>m-i) (0,f,RB,c,dn,l) (λ_=>rfl) ⟨w,an.cK,dM _,oN,rfl,rfl⟩ rfl rfl rfl ?_;rintro⟨i,r,H,bj,u,cC⟩ e aa ⟨w,aw,j0,oN,he,pc⟩;cases r with
  |nil=>
   refine .ag (ay λfz F eZ=>F _ _ _ (ay λfE O dH=>aW (λae=>by have:=aw.fin;omega) (λae=>dH _ _ _ _ nofun (cM _ _ _ ?_))));rw[cd.bR,gf,sf]at he;rw[cd.bR,jh]at pc;refine .ag ⟨H,bj,?_⟩
   grind
  |cons t k B E U y r=>
   obtain⟨g,aK,ai,av,pJ,aq⟩:=aw.open;simp only[cd.br]at j0;have q1:=pJ.1;have uA:=y.LX;obtain⟨IM,P5,aBN⟩:=oN;have ev:=eu fv he;rw[fb,fb,cd.bR,Tj,ah3]at ev;rw[cd.bR,gf,<-mg]at he;obtain⟨s,M⟩:∃q,q=(bif y.bR.leaf then au.getD k.toNat []else gf au y.bR (cC.length+fL t) (op+fL t)):=⟨_,rfl⟩;rw[<-M]at ev he;obtain⟨G,C⟩:∃q,q=jh y.bR (op+fL t) (if 1<t then max u (op+1)else u):=⟨_,rfl⟩;rw[cd.bR,jh,<-C]at pc;have yn:∀h1,am.le h1->∀o v,(k9 t k B E U)[o]?=some v->h1.cell? ((g.add (i*3)).add o)=some v:=λh1 le o v ao=>J.l5 le (av o v ao);have PP:∀(e:cg)(L:List LE)(ae:J),[0,7,8,9].map e=[.v (iR a1),.v (ab A m cap),.v (R m),.v (R i)]->(∀K:List LE->J->Prop,(∀z b a c2,oG am b a1 a c2 op G (ab (some p) n n) (cC++kw t op cC.length s)->K z b)->hL K L ae)->
    dq aD 57 (.ck axL) (λex bH bB adi=>match ex with
     |.normal=>hL (λbB aa=>∃dQ:Nat×cd×Option aE×Nat×Nat×List cm,[0,7,8,9].map bH=(match dQ with|(i,_)=>[.v (iR a1),.v (ab A m cap),.v (R m),.v (R i)])/\bB.take 0=[]/\(match dQ with|(i,r,H,bj,u,cC)=>oG am aa a1 H bj op u (ab (some p) n n) cC/\s' am A m i r/\r.br<=f.br/\EK n r.bR/\cC++gf au r.bR cC.length op=l++gf au f.bR l.length op/\jh r.bR op u=jh f.bR op dn)/\(match dQ with|(i,_)=>m-i)<m-i) bB adi
     |ex=>fy ex bH bB adi) e L ae:=by
    intro e L ae gg lv
    rw[<-fi [0,7,8,9] e,gg]
    exact .bl (lv _ λz b a c2 x=>⟨(i+1,r,a,c2,G,cC++kw t op cC.length s),rfl,rfl,⟨x,aq,I,aBN,aL,pc⟩,aL⟩)
   have sep:E=0/\t<=1\/(E=0/\1<t)\/(0<E/\t<=1)\/(0<E/\1<t):=I;rcases sep with⟨rfl,Ls⟩|⟨rfl,Ls⟩|⟨sG,Ls⟩|⟨sG,Ls⟩;have K4:y= .nil:=cd.S5 q1.symm;subst K4;obtain⟨d,d1,d2,d3,d4⟩:=nb.get (IM rfl);have aQ:s=d.2.2:=aL;have aR:G=u:=by rw[C,aC I];rfl
   have di:kw t op cC.length s=d.2.2:=by rw[kw,aC I,aQ]
   refine .abs 66 3 H cC.length bj _ w.row (.ag ?_);have j:=w.open;generalize en aa H=h1 at j⊢;refine ay λfz F eZ=>F _ _ _ (ay λfE O dH=>aW (λae=>?_) (λae=>I));refine O _ _ _ (ay λgF S gN=>ew λY ed X=>?_);have fin:∀(e:cg)(L:List LE)(ae:J),[0,7,8,9].map e=[.v (iR a1),.v (ab A m cap),.v (R m),.v (R i)]->(∀K:List LE->J->Prop,(∀z b a c2,oG am b a1 a c2 op G (ab (some p) n n) (cC++kw t op cC.length s)->K z b)->hL K L ae)->Y .normal e L ae:=λe L ae Q P=>X _ _ _ _ nofun (S _ _ _ (PP e L ae Q P));refine ay λjl T hU=>.m g aK (.hp (k9 t k B 0 U) rfl (by rw[bn];exact yn _ j.le) (T _ _ _ (ay λkd W j3=>W _ _ _ (ay λjU hc iD=>aW (λq=>I) (λ_=>hc _ _ _ (ay λkQ Z kH=>.hp _ (b1 j.box rfl) (.hp _ (b1 j.box rfl) (.mk p rfl (IM rfl).1 (IM rfl).2 (.hp _ (J.l5 j.le d1) (.c0 0 _ (h7 d.2.2) rfl ((d2.mono j.le).src _) (Gn _) (by grind [eQ]) I λa c2 tu=>.hp a1 0 215 _ [ab a (cC.length+d.2.2.length) c2,R op,R u,ab (some p) n n] rfl j.box rfl ?_))))))))));have x:=j.app a c2 d.2.2;rw[fb]at x;generalize h1.put a1 _=ae at x;refine Z _ _ _ (aW (λq=>I) (λ_=>fin _ _ _ rfl λK V=>.b5 0 66 3 a (cC.length+d.2.2.length) c2 _ rfl λb d7 eb f3=>.ag (V _ _ a c2 ?_)));rw[aR,di];rw[<-fb]at eb;exact x.close d7 (by rw[I3];exact eb) f3;have K4:y= .nil:=cd.S5 q1.symm;subst K4;obtain⟨d,d1,d2,d3,d4⟩:=nb.get (IM rfl);have aQ:s=d.2.2:=aL;have aR:G=max u (op+1):=by rw[C,aS I];rfl
   have di:kw t op cC.length s=⟨1,op,t⟩::(d.2.2++[⟨2,op,(cC.length:Int)+1⟩]):=by rw[kw,aS I,aQ]
   have d5:fL t=1:=aS I;rw[aQ,d5]at ev;refine .ag (ay λfz F eZ=>F _ _ _ (ay λfE O dH=>aW (λae=>?_) (λae=>I)));refine O _ _ _ (ay λgF S gN=>ew λY ed X=>?_);have fin:∀(e:cg)(L:List LE)(ae:J),[0,7,8,9].map e=[.v (iR a1),.v (ab A m cap),.v (R m),.v (R i)]->(∀K:List LE->J->Prop,(∀z b a c2,oG am b a1 a c2 op G (ab (some p) n n) (cC++kw t op cC.length s)->K z b)->hL K L ae)->Y .normal e L ae:=λe L ae Q P=>X _ _ _ _ nofun (S _ _ _ (PP e L ae Q P));refine ay λjl T hU=>.m g aK (.hp (k9 t k B 0 U) rfl (by rw[bn];exact yn _ w.le) (T _ _ _ (ay λkd W j3=>W _ _ _ (ay λjU hc iD=>aW (λ_=>?_) (λq=>I)))));refine .ag (.mb _ (adW w I I t) ?_);rintro _ ae ⟨rfl,a,c2,x⟩;refine .abs 66 3 a _ c2 _ x.row (.ag ?_);have j:=x.open;have hf:(cC++[(⟨1,op,t⟩:cm)]).length=cC.length+1:=bc;generalize en ae a=h1 at j⊢;generalize zG:cC++[(⟨1,op,t⟩:cm)]=cN at j hf⊢;refine hc _ _ _ ?_;refine ay λkQ Z kH=>?_;refine .hp _ (b1 j.box rfl) ?_;refine .hp _ (b1 j.box rfl) ?_;refine .mk p rfl (IM rfl).1 (IM rfl).2 ?_;refine .hp _ (J.l5 j.le d1) ?_;refine .c0 1 _ (h7 d.2.2) rfl ((d2.mono j.le).src _) (Gn _) (by grind [eQ]) I λmG fc KT=>?_;refine .hp a1 0 215 _ [ab mG (cN.length+d.2.2.length) fc,R ((op+1:Nat):Int),R ((max u (op+1):Nat):Int),ab (some p) n n] rfl j.box rfl ?_;have k2:=j.app mG fc d.2.2;rw[fb]at k2;generalize h1.put a1 _=b at k2;refine Z _ _ _ ?_;refine aW (λ_=>?_) (λq=>I);refine .b5 1 66 3 mG (cN.length+d.2.2.length) fc _ rfl λaT c3 fC f4=>.ag (.mk _ (aaq (k2.close c3 (by rw[I3,fb];exact fC) f4) aL I ((cC.length+1:Nat):Int)) ?_);rintro _ cr ⟨Cr,zp,oZ⟩;refine fin _ _ _ rfl λK V=>.ag (V _ _ Cr zp ?_)
   grind
   have bf:y.bR.leaf=false:=aL;rw[bf,vw]at M;have d5:fL t=0:=aC I;rw[d5]at ev M C;simp only[A6]at M C;rw[aC I]at C;have di:kw t op cC.length s=s:=by grind [kw]
   refine .ag (ay λfz F eZ=>F _ _ _ (ay λfE O dH=>aW (λae=>?_) (λae=>I)));refine O _ _ _ (ay λgF S gN=>ew λY ed X=>?_);have fin:∀(e:cg)(L:List LE)(ae:J),[0,7,8,9].map e=[.v (iR a1),.v (ab A m cap),.v (R m),.v (R i)]->(∀K:List LE->J->Prop,(∀z b a c2,oG am b a1 a c2 op G (ab (some p) n n) (cC++kw t op cC.length s)->K z b)->hL K L ae)->Y .normal e L ae:=λe L ae Q P=>X _ _ _ _ nofun (S _ _ _ (PP e L ae Q P));refine ay λjl T hU=>.m g aK (.hp (k9 t k B E U) rfl (by rw[bn];exact yn _ w.le) (T _ _ _ (ay λkd W j3=>W _ _ _ (ay λjU hc iD=>aW (λq=>I) (λ_=>hc _ _ _ (ay λkQ Z kH=>aW (λ_=>?_) (λq=>I)))))));refine .ag (.mk _ (Xu am p n D nb a1 aF N y I I P5 B E U aa H bj op u cC pJ w aL I) (λ_ ae⟨a,c2,x⟩=>?_));rw[<-dt,<-M,<-C]at x;refine Z _ _ _ (aW (λq=>I) (λ_=>fin _ _ _ rfl λK V=>.ag (V _ _ a c2 ?_)))
   grind
   have bf:y.bR.leaf=false:=aL;rw[bf,vw]at M;have d5:fL t=1:=aS I;rw[d5]at ev M C;rw[aS I]at C;have di:kw t op cC.length s=⟨1,op,t⟩::(s++[⟨2,op,(cC.length:Int)+1⟩]):=by grind [kw]
   refine .ag (ay λfz F eZ=>F _ _ _ (ay λfE O dH=>aW (λae=>?_) (λae=>I)));refine O _ _ _ (ay λgF S gN=>ew λY ed X=>?_);have fin:∀(e:cg)(L:List LE)(ae:J),[0,7,8,9].map e=[.v (iR a1),.v (ab A m cap),.v (R m),.v (R i)]->(∀K:List LE->J->Prop,(∀z b a c2,oG am b a1 a c2 op G (ab (some p) n n) (cC++kw t op cC.length s)->K z b)->hL K L ae)->Y .normal e L ae:=λe L ae Q P=>X _ _ _ _ nofun (S _ _ _ (PP e L ae Q P));refine ay λjl T hU=>.m g aK (.hp (k9 t k B E U) rfl (by rw[bn];exact yn _ w.le) (T _ _ _ (ay λkd W j3=>W _ _ _ (ay λjU hc iD=>aW (λ_=>?_) (λq=>I)))));refine .ag (.mk _ (adW w I I t) ?_);rintro _ ae ⟨rfl,a,c2,x⟩;have hf:(cC++[(⟨1,op,t⟩:cm)]).length=cC.length+1:=bc;generalize zG:cC++[(⟨1,op,t⟩:cm)]=cN at x hf⊢;refine hc _ _ _ ?_;refine ay λkQ Z kH=>?_;refine aW (λ_=>?_) (λq=>I);refine .ag (.mk _ (Xu am p n D nb a1 aF N y I I P5 B E U ae a c2 (op+1) (max u (op+1)) cN pJ x aL I) ?_);rintro _ b ⟨mG,fc,k2⟩;rw[<-dt,hf,<-M,<-C]at k2;refine Z _ _ _ ?_;refine aW (λ_=>?_) (λq=>I);refine .ag (.mk _ (aaq k2 aL I ((cC.length+1:Nat):Int)) ?_);rintro _ cr ⟨Cr,zp,oZ⟩;refine fin _ _ _ rfl λK V=>.ag (V _ _ Cr zp ?_)
   grind
structure n7 where
 tag:Int
 A:Option aE
 n:Nat
 c:Nat
 a8:List Int
def n7.cells(x:n7):List aA:=[bC .u8 x.tag,ab x.A x.n x.c]
def n7.ok(h:J)(x:n7):Prop:=bg h 1 x.A x.n (x.a8.map λz=>[R z])
structure ho where
 base:Int
 size:Int
 A:Option aE
 n:Nat
 c:Nat
 st:List Int
def ho.cells(x:ho):List aA:=[R x.base,R x.size,ab x.A x.n x.c]
def ho.ok(h:J)(x:ho):Prop:=bg h 1 x.A x.n (x.st.map λz=>[R z])
structure jC where
 mem:Int
 br:Int
 ins:Int
 outs:Int
 j':Option aE
 c7:Nat
 parts:List n7
 fg:Option aE
 lc:Nat
 lines:List ho
 cn:Option aE
 bT:Nat
 ops:List cm
def jC.cells(p:jC):List aA:=[R p.mem,R p.br,R p.ins,R p.outs,ab p.j' p.parts.length p.c7,ab p.fg p.lines.length p.lc,ab p.cn p.ops.length p.bT]
structure jC.ok(h:J)(p:jC):Prop where
 parts:bg h 2 p.j' p.parts.length (p.parts.map n7.cells)
 part:∀x∈p.parts,x.ok h
 lines:bg h 3 p.fg p.lines.length (p.lines.map ho.cells)
 line:∀x∈p.lines,x.ok h
 ops:bg h 3 p.cn p.ops.length (p.ops.map cm.cells)
theorem n7.ok.mono{h aa:J}{x:n7}(U:x.ok h)(le:h.le aa):x.ok aa:=bg.mono U le
theorem ho.ok.mono{h aa:J}{x:ho}(U:x.ok h)(le:h.le aa):x.ok aa:=bg.mono U le
theorem jC.ok.mono{h aa:J}{p:jC}(U:p.ok h)(le:h.le aa):p.ok aa:=⟨U.parts.mono le,λx a=>(U.part x a).mono le,U.lines.mono le,λx a=>(U.line x a).mono le,U.ops.mono le⟩
theorem EM.dK{aa:J}{l:List Int}{v:aA}(U:EM h n (l.map R) v aa):h.le aa/\∃A c,v=ab A n c/\bg aa 1 A n (l.map λz=>[R z]):=by
 obtain⟨h1,A,c,ae,a,_⟩:=U;exact⟨h1,A,c,ae,a.j7⟩
theorem aC9 Q(e:cg)(g:dd) am n(ok:g.ok am)(V:g.aY.length=n)(tE:n<=1000)(T:∀a∈g.aY,a.n<=1000) g0 g2 g3 g4 o D u s r t w C E G z i B F b(he:[3,4,6,11,70,71,72].map e=[.p 0 0,.p 1 0,.p 2 0,.p 4 0,.v (ab g.h2 n g.ac),.v (R n),.v (R (0:Nat))])(X:∀e aa A c(d:List n7),[3,4,6,11].map e=[.p 0 0,.p 1 0,.p 2 0,.p 4 0]->am.le aa->(∀x∈d,x.ok aa)->d.map (λx=>(x.tag,x.a8))=g.aY.map (λa=>(a.tag,a.a8))->Q (.exit 0) e [.own [.v g0,.v (ab g.h2 n g.ac),.v g2,.v g3,.v g4] 26,.own [.v o,.v D] 37,.own [.v u,.v s,.v r,.v t,.v w,.v C,.v E] 42,.b5 b,.own [.v G,.v z,.v i,.v B,.v (ab A n c),.v (ab none 0 0),.v F] 42,.row 138 2 A n c (d.map n7.cells).flatten] aa):jk (λQ e L h=>dq aD 112 axi Q e L h) Q e [.own [.v g0,.v (ab g.h2 n g.ac),.v g2,.v g3,.v g4] 26,.own [.v o,.v D] 37,.own [.v u,.v s,.v r,.v t,.v w,.v C,.v E] 42,.b5 b,.own [.v G,.v z,.v i,.v B,.v (ab none 0 0),.v (ab none 0 0),.v F] 42,.row 138 2 none 0 0 []] am:=by
 refine .mk (Nat×Option aE×Nat×List n7) [3,4,6,11,70,71,72] (λ(k,_)=>[.p 0 0,.p 1 0,.p 2 0,.p 4 0,.v (ab g.h2 n g.ac),.v (R n),.v (R k)]) (λ(k,A,c,d)=>[.own [.v g0,.v (ab g.h2 n g.ac),.v g2,.v g3,.v g4] 26,.own [.v o,.v D] 37,.own [.v u,.v s,.v r,.v t,.v w,.v C,.v E] 42,.b5 b,.own [.v G,.v z,.v i,.v B,.v (ab A k c),.v (ab none 0 0),.v F] 42,.row 138 2 A k c (d.map n7.cells).flatten]) (λ(k,A,c,d) aa=>am.le aa/\k<=n/\(∀x∈d,x.ok aa)/\d.map (λx=>(x.tag,x.a8))=(g.aY.take k).map (λa=>(a.tag,a.a8))) (λ(k,_)=>n-k) (0,none,0,[]) (λ_=>rfl) ⟨J.le_refl _,cU _,(by intro x f;cases f),rfl⟩ he rfl ?_;refineλ⟨k,A,c,d⟩ e aa⟨le,hk,H,l⟩=>ay λfD cQ eT=>cQ _ _ _ (ay λfy Z d9=>aW (λq=>?_) (λq=>?_));have j:k<g.aY.length:=I;obtain⟨e6,aK⟩:=ok.aY.b4 I;have W:(g.aY.map hh.cells)[k]?=some (hh.cells g.aY[k]):=by rw[de,bK j];rfl
 have P:=(ok.aY.mono le).row aK W;have S:=ok.act _ (b3 j);have M:g.aY.take (k+1)=g.aY.take k++[g.aY[k]]:=lz j;have U:d.length=k:=by have:=eu fv l;simp at this;omega
 have hA:=T _ (b3 j);generalize g.aY[k]=a at P S M hA;refine Z _ _ _ (ay λfz Y eZ=>ew λfE dR dH=>ay λgF du gN=>.m e6 aK (.hp a.cells rfl (by rw[bn];exact P) (du _ _ _ (.mk _ (aio a.A a.n a.c a.a8 aa (S.dK.mono le) I) (λv h q=>q.1) ?_))));rintro _ ae ⟨K,y,c2,rfl,i,f2⟩;refine .c0 5 _ [bC .u8 a.tag,ab y a.n c2] rfl rfl (by simp[Bd]) (by simp[eQ];omega) I λO N KT=>dH _ _ _ _ nofun (Y _ _ _ (.bl (⟨(k+1,O,N,d++[⟨a.tag,y,a.n,c2,a.a8⟩]),rfl,?_,⟨J.le_trans le K,I,λx f=>?_,?_⟩,by show n- (k+1)<n-k;omega⟩)));show _=[_,_,_,_,_,LE.row 138 2 O (k+1) N ((d++[(⟨a.tag,y,a.n,c2,a.a8⟩:n7)]).map n7.cells).flatten];rw[fw,wy];rfl;rcases eI.1 f with f|f;exact(H x f).mono K;rw[hZ]at f;subst f;exact i.j7;rw[M,fw,fw,l];rfl;refine d9 _ _ _ _ nofun ?_;have ql:k=n:=I;subst ql;rw[<-V,rv]at l;exact X _ _ A c d rfl le H l
theorem aAJ Q(e:cg)(g:dd) am n(ok:g.ok am)(X:g.aP.length=n)(tE:n<=1000)(DA:∀a∈g.aP,a.n<=1000)(f:List dv) t c7(T:bg am 2 t n (f.map Go.Sx.c7)) g0 g1 g3 g4 P F C B E G O S V K o M N U b w z y xs(he:[4,6,11,89,90,91].map e=[.p 1 0,.p 2 0,.p 4 0,.v (ab g.c8 n g.b0),.v (R n),.v (R (0:Nat))])(cF:∀e aa A c(d:List ho),[6,11].map e=[.p 2 0,.p 4 0]->am.le aa->(∀x∈d,x.ok aa)->d.map (λx=>(x.base,x.size,x.st))=sh (λa r=>(r.1,r.2,a.st)) g.aP f->Q (.exit 2) e [.own [.v g0,.v g1,.v (ab g.c8 n g.b0),.v g3,.v g4] 26,.own [.v (ab t n c7),.v P] 37,.own [.v F,.v C,.v B,.v E,.v G,.v O,.v S] 42,.b5 b,.own [.v V,.v K,.v o,.v M,.v N,.v (ab A n c),.v U] 42,.row 138 2 w z y xs,.row 144 3 A n c (d.map ho.cells).flatten] aa):jk (λQ e L h=>dq aD 112 axj Q e L h) Q e [.own [.v g0,.v g1,.v (ab g.c8 n g.b0),.v g3,.v g4] 26,.own [.v (ab t n c7),.v P] 37,.own [.v F,.v C,.v B,.v E,.v G,.v O,.v S] 42,.b5 b,.own [.v V,.v K,.v o,.v M,.v N,.v (ab none 0 0),.v U] 42,.row 138 2 w z y xs,.row 144 3 none 0 0 []] am:=by
 have sO:f.length=n:=by simpa using T.len
 refine .mk (Nat×Option aE×Nat×List ho) [4,6,11,89,90,91] (λ(k,_)=>[.p 1 0,.p 2 0,.p 4 0,.v (ab g.c8 n g.b0),.v (R n),.v (R k)]) (λ(k,A,c,d)=>[.own [.v g0,.v g1,.v (ab g.c8 n g.b0),.v g3,.v g4] 26,.own [.v (ab t n c7),.v P] 37,.own [.v F,.v C,.v B,.v E,.v G,.v O,.v S] 42,.b5 b,.own [.v V,.v K,.v o,.v M,.v N,.v (ab A k c),.v U] 42,.row 138 2 w z y xs,.row 144 3 A k c (d.map ho.cells).flatten]) (λ(k,A,c,d) aa=>am.le aa/\k<=n/\(∀x∈d,x.ok aa)/\d.map (λx=>(x.base,x.size,x.st))=sh (λ(a:GE)(r:dv)=>(r.1,r.2,a.st)) (g.aP.take k) (f.take k)) (λ(k,_)=>n-k) (0,none,0,[]) (λ_=>rfl) ⟨J.le_refl _,cU _,(by intro x i;cases i),rfl⟩ he rfl ?_;refineλ⟨k,A,c,d⟩ e aa⟨le,hk,W,u⟩=>ay λfD cQ eT=>cQ _ _ _ (ay λfy cM d9=>aW (λq=>?_) (λq=>?_));have s:k<g.aP.length:=I;have j:k<f.length:=I;obtain⟨e6,aK⟩:=ok.aP.b4 I;obtain⟨fr,Z⟩:=T.b4 I;have ar:(g.aP.map GE.cells)[k]?=some (GE.cells g.aP[k]):=by rw[de,bK s];rfl
 have D:(f.map Go.Sx.c7)[k]?=some (Go.Sx.c7 f[k]):=by rw[de,bK j];rfl
 have n9:=(ok.aP.mono le).row aK ar;have wY:=(T.mono le).row Z D;have xp:=ok.nD _ (b3 s);have fQ:g.aP.take (k+1)=g.aP.take k++[g.aP[k]]:=lz s;have l:f.take (k+1)=f.take k++[f[k]]:=lz j;have aA0:d.length=k:=by have:=eu fv u;simp at this;omega
 have hA:=DA _ (b3 s);generalize g.aP[k]=a at n9 xp fQ hA;generalize f[k]=r at wY l;refine cM _ _ _ (ay λfz cL eZ=>ew λfE dR dH=>ay λgF du gN=>.m e6 aK (.hp a.cells rfl (by rw[bn];exact n9) (du _ _ _ (.m fr Z (.hp (Go.Sx.c7 r) rfl (by rw[bn];exact wY) (.mk _ (aio a.A a.n a.c a.st aa (xp.dK.mono le) I) (λv h q=>q.1) ?_))))));rintro _ ae ⟨Y,H,c2,rfl,o,f2⟩;refine .c0 6 _ [R r.1,R r.2,ab H a.n c2] rfl rfl (by simp[Bd,R]) (by simp[eQ];omega) I λmG fc KT=>dH _ _ _ _ nofun (cL _ _ _ (.bl (⟨(k+1,mG,fc,d++[⟨r.1,r.2,H,a.n,c2,a.st⟩]),rfl,?_,⟨J.le_trans le Y,I,λx i=>?_,?_⟩,by show n- (k+1)<n-k;omega⟩)));show _=[_,_,_,_,_,_,LE.row 144 3 mG (k+1) fc ((d++[(⟨r.1,r.2,H,a.n,c2,a.st⟩:ho)]).map ho.cells).flatten];rw[fw,wy];rfl;rcases eI.1 i with i|i;exact(W x i).mono Y;rw[hZ]at i;subst i;exact o.j7;rw[fQ,l,fw,u,List.zipWith_append (by simp;omega)];rfl;refine d9 _ _ _ _ nofun ?_;have ql:k=n:=I;subst ql;rw[<-X,rv,X,<-sO,rv]at u;exact cF _ _ A c d rfl le W u
def Nq(g:dd)(b:List dv)(T:Int)(f:e3)(p:jC):Prop:=p.mem=T/\p.br=(jh f 0 0:Nat)/\p.ins=g.ins.length/\p.outs=g.outs.length/\p.parts.map (λx=>(x.tag,x.a8))=g.aY.map (λa=>(a.tag,a.a8))/\p.lines.map (λx=>(x.base,x.size,x.st))=sh (λ(a:GE)(r:dv)=>(r.1,r.2,a.st)) g.aP b/\p.ops=gf (gU g) f 0 0++[⟨0,0,0⟩]
theorem ac5{l:List hh}{f:hh->List cm}(al:au.map fv=(l.map f).map fv)(c:∀a,(f a).length<=16) o:(au.getD o []).length<=16:=by
 by_cases h:o<au.length;have h1:au[o].length∈au.map fv:=cO.2 ⟨_,b3 h,rfl⟩;rw[al]at h1;obtain⟨x,b,ex⟩:=cO.1 h1;obtain⟨a,_,rfl⟩:=cO.1 b;rw[cc,bK h,pB,<-ex];exact c a;rw[cc,l2 I];simp
theorem TD{r:List cm}(d:r∈gU g):r.length<=33:=by
 obtain⟨o,_,rfl⟩:=cO.1 d;obtain⟨b,c⟩:=Tg g.aP 0 (g.aY.map rU,g.aY.map r3);have h1:=ac5 (au:=Fa g) (l:=g.aY) (f:=rU) ((Mo _ _ _ _).trans b) (λa=>by rw[rU,fj];exact(Cl _ _).1) o;have ae:=ac5 (au:=Fb g) (l:=g.aY) (f:=r3) ((Mo _ _ _ _).trans c) (λa=>by rw[r3,fj];exact(Cl _ _).2) o;simp only[fb,iJ,R4];omega
theorem aA9 g h(ok:g.ok h)(g0:iV g=0) C k c7 T c(nW:bg h 2 C k (c.map Go.Sx.c7))(hk:c.length=k)(qm:g.aP.length=k)(t0:0<=T)(hs:T<=1024)(bf:∀i ai(ah:i<g.aP.length),0<=c[i].1/\c[i].1+c[i].2<=T/\(g.aP[i].n:Int)<=c[i].2) b t m cap(Y:kR h t m b)(zC:wZ b.bR=0)(lm:wg g.aY.length b.bR=false)(oN:EK g.aY.length b.bR)(aj:(gf (gU g) b.bR 0 0).length<=900000)(av:b.br<=90000)(Ll:∀a∈g.aY,a.n<=1000):Fn aD 26 #[.agg g.cells.toArray,Mt C k c7 T,ab t m cap] h λv aa=>h.le aa/\∃p,v=eA #[.agg p.cells.toArray,R 0]/\p.ok aa/\Nq g c T b.bR p:=by
 have s:=ts g0;have a32:=s.a32;have o6:=s.o6;have i16:=s.i16;have r2:=s.r2;have P:=aaW g h ok;rw[g0]at P;have f71:=λaa(le:h.le aa)=>ar1 g aa (ok.mono le) C k c7 T c (nW.mono le) hk qm I t0 hs bf;have f72:=λaa(le:h.le aa)=>arE g aa (ok.mono le) s _ rfl;obtain⟨n,W⟩:∃n,g.aY.length=n:=⟨_,rfl⟩;obtain⟨f,xa⟩:∃m,g.ins.length=m:=⟨_,rfl⟩;obtain⟨j,yn⟩:∃m,g.outs.length=m:=⟨_,rfl⟩;have gc:g.cells=[.string g.ea,ab g.h2 n g.ac,ab g.c8 k g.b0,ab g.eg f g.cf,ab g.cn j g.bT]:=by rw[dd.cells,W,qm,xa,yn]
 rw[gc]at P f71 f72⊢;rw[W]at f72 lm oN;refine bU VE rfl (ay λfD cQ eT=>cQ _ _ _ (ay λfy cM d9=>.ag (.mk _ P ?_)));rintro _ h1 ⟨ct,rfl⟩;refine cM _ _ _ (ay λfz cL eZ=>.ag (.mk _ (apO b I t m cap h1 (Y.mono ct)) ?_));rintro _ ae ⟨q,rfl⟩;rw[zC];have q:=J.le_trans ct q;refine cL _ _ _ (ay λfE dR dH=>.ag (.mk _ (aj' n _ b (A8 _) I t m cap ae (Y.mono q)) ?_));rintro _ o ⟨rfl,ex⟩;rw[lm,ex];clear ex;refine dR _ _ _ (ay λgF du gN=>.ag (.mk _ (f71 ae q) ?_));rintro _ aM ⟨rfl,HS⟩;rw[HS];clear HS;refine du _ _ _ ?_;refine ay λgL ed gG=>?_;refine .ag (.mk _ (f72 ae q) ?_);rintro _ H ⟨L,K,D,rfl,X,E7,O⟩;have L:=J.le_trans q L;have nb:Nd H K n D:=⟨X,E7,λd ar=>by have:=TD (O▸cO.2 ⟨d,ar,rfl⟩:d.2.2∈gU g);omega⟩;refine ed _ _ _ (ay λjl eY hU=>.mk λa1 q1=>?_);have bh:oG H (H.put a1 (bb #[ab none 0 0,R (0:Nat),R (0:Nat),ab (some K) n n] 215 (0,0))) a1 none 0 0 0 (ab (some K) n n) []:=⟨J.d' q1,q1,J.b8 _ _ _,⟨rfl,bQ ⟨rfl,rfl,rfl⟩⟩,nofun⟩;refine .ag (.mk _ (Xu H K n D nb a1 I _ b (A8 _) I oN t m cap _ none 0 0 0 [] (Y.mono L) bh (by rw[O];simp;omega) I) (λ_ aT⟨aly,x7,p5⟩=>?_));rw[O,JV,R4]at p5;obtain⟨E,dp⟩:∃E,E=gf (gU g) b.bR 0 0:=⟨_,rfl⟩;rw[<-dp]at p5 aj;refine eY _ _ _ (ay λkd fO j3=>.ag (.mk _ (Xd p5 I ⟨0,0,0⟩) (λ_ cr⟨F,N,oZ⟩=>?_)));have gh:=J.le_trans L oZ.le;refine fO _ _ _ (ay λjU hc iD=>?_);have Z:=oZ.box;have qu:(E++[(⟨0,0,0⟩:cm)]).length=E.length+1:=bc;rw[qu]at Z;refine .hp _ (b1 Z rfl) (.hp _ (b1 Z rfl) (hc _ _ _ (ay λkQ gM kH=>ay λqS kh qs=>kh _ _ _ (ew λoE ki nn=>.jG (.abs 138 2 none 0 0 [] ⟨rfl,bQ ⟨rfl,rfl,rfl⟩⟩ (.ag (aC9 oE _ g cr n (ok.mono gh) W I Ll (.string g.ea) (ab g.c8 k g.b0) (ab g.eg f g.cf) (ab g.cn j g.bT) (ab C k c7) (R T) (R 0) (R 0) (R 0) (R 0) (ab none 0 0) (ab none 0 0) (ab none 0 0) (R T) (R (jh b.bR 0 0:Nat)) (R f) (R j) (ab F (E.length+1) N) a1 rfl (λe eX l u y he im Am sV=>ki _ _ _ (gM _ _ _ ?_)))))))));rw[<-fi [3,4,6,11] e,he];have S:=J.le_trans gh im;refine ay λsk lJ uI=>ay λxT qr z1=>qr _ _ _ (ew λA' tI DJ=>.jG (.abs 144 3 none 0 0 [] ⟨rfl,bQ ⟨rfl,rfl,rfl⟩⟩ (.ag (aAJ A' _ g eX k (ok.mono S) qm I (λx o=>by have:=(s.nD x o).2.2;omega) c C c7 (nW.mono S) (.string g.ea) (ab g.h2 n g.ac) (ab g.eg f g.cf) (ab g.cn j g.bT) (R T) (R 0) (R 0) (R 0) (R 0) (ab none 0 0) (ab none 0 0) (ab none 0 0) (R T) (R (jh b.bR 0 0:Nat)) (R f) (R j) (ab l n u) (ab F (E.length+1) N) a1 l n u _ rfl ?_))));clear e he;refineλe o' G Q ls he oQ U A=>tI _ _ _ (lJ _ _ _ ?_);rw[<-fi [6,11] e,he];have gW:y.length=n:=by have:=eu fv sV;simp at this;omega
 have hf:ls.length=k:=by have:=eu fv A;simp at this;omega
 refine .b5 5 138 2 l n u _ rfl λtt M Jb f8=>.b5 6 144 3 G k Q _ rfl λz w V f9=>.ag ⟨J.le_trans S (J.le_trans oQ (J.le_trans M w)),⟨T,(jh b.bR 0 0:Nat),f,j,l,u,y,G,Q,ls,F,N,E++[⟨0,0,0⟩]⟩,?_,?_,?_⟩;show _=eA #[.agg #[R T,R (jh b.bR 0 0:Nat),R f,R j,ab l y.length u,ab G ls.length Q,ab F (E++[(⟨0,0,0⟩:cm)]).length N],R 0];rw[gW,hf,qu];rfl;refine⟨?_,λx o=>((Am x o).mono oQ).mono (J.le_trans M w),?_,λx o=>(U x o).mono (J.le_trans M w),?_⟩;show bg z 2 l y.length (y.map n7.cells);rw[gW];exact bw.dK (bw.mono Jb w) (λr B=>by obtain⟨x,_,rfl⟩:=cO.1 B;rfl) aH;show bg z 3 G ls.length (ls.map ho.cells);rw[hf];exact bw.dK V (λr B=>by obtain⟨x,_,rfl⟩:=cO.1 B;rfl) aH;exact bw.dK (oZ.row.mono (J.le_trans im (J.le_trans oQ (J.le_trans M w)))) (λr B=>by obtain⟨x,_,rfl⟩:=cO.1 B;rfl) aH;exact⟨rfl,rfl,by rw[xa],by rw[yn],sV,A,by rw[dp]⟩
theorem GO n m h:Fn aD 140 #[R n,R m] h λv aa=>v=dh (decide (0<=n)&&decide (n<=m))/\aa=h:=by
 refine bU ayq rfl ?_;refine aW (λq=>?_) (λq=>?_);exact .ag ⟨by rw[hr q,AP];rfl,rfl⟩;exact .ag ⟨by rw[jn q,Cv];rfl,rfl⟩
theorem SX n h:Fn aD 183 #[R n] h λv aa=>v=R (min n 131073)/\aa=h:=by
 refine bU ayJ rfl ?_;exact .ag ⟨rfl,rfl⟩
theorem aHA:Tryz.prog.underlying 66=some (.struct (Tryz.prog.fieldsOf 66)):=fl
theorem atZ:Tryz.prog.stoodInHeld 66=false:=fl
theorem asI:Tryz.prog.eqGuardType Tryz.prog.depth 66=false:=fl
theorem ar5:(Tryz.prog.fieldsOf 66).toList.map (λf=>(f.name,f.type,f.offset))=[("Kind",64,0),("A",3,1),("B",3,2)]:=fl
theorem ak0:Tryz.prog.underlying 64=some (.int .u8):=fl
theorem akZ:Tryz.prog.underlying 3=some (.int .i64):=fl
theorem aqr{w:World}:wu aD (.binOp .eql 66 (.tmp 18) (.tmp 19) 66) [.agg #[bC .u8 0,R 0,R 0],.agg #[bC .u8 0,R 0,R 0]] w (dh true) w:=by
 intro m q b a;simp[Op.operands]at a;obtain⟨h1,ae⟩:=a;have e:=run_equalIn_struct (P:=aD) w 9999 66 #[bC .u8 0,R 0,R 0] #[bC .u8 0,R 0,R 0] aHA atZ;have g:=run_eqGuard_agg (P:=aD) w .eql 66 (.tmp 18) (.tmp 19) #[bC .u8 0,R 0,R 0] #[bC .u8 0,R 0,R 0] asI;have i:(Op.equalIn 9999 3 (R 0) (R 0)).run aD w= .ok true w:=XC (P:=aD) w 9998 3 .i64 .i64 0 0 akZ;have f:=ar5;generalize(Tryz.prog.fieldsOf 66).toList=l at e f;rcases l with _|⟨f0,_|⟨f1,_|⟨f2,_|⟨f3,l⟩⟩⟩⟩;cases f;injection f with _ f;cases f;injection f with _ f;injection f with _ f;cases f;simp only[er,List.map_nil,A1,Hk,and_true]at f;obtain⟨⟨h,a2,a3⟩,⟨c,d,k⟩,c1,c2,j⟩:=f;simp[execOp,b,h1,ae,g,binOp,Op.equal,Op.maxDepth,e,Op.eqFields,h,a2,a3,c,d,k,c1,c2,j,Go.part,isAgg,hg ak0,hg akZ,XC _ _ _ _ _ _ _ ak0,i];injection f with _ f;injection f with _ f;injection f with _ f;cases f
def CQ(p:jC)(i:Nat)(x:cm):Prop:=(x=⟨0,0,0⟩/\i+1=p.ops.length)\/(x.k=1/\0<=x.a/\x.a<=p.br-1/\1<=x.b/\x.b<=2048)\/(x.k=2/\0<=x.a/\x.a<=p.br-1/\0<=x.b/\x.b<=(p.ops.length:Int)-1)\/(x.k=3/\0<=x.a/\x.a<=(p.lines.length:Int)-1/\1<=x.b/\x.b<=64)\/(x.k=6/\0<=x.a/\x.a<=(p.lines.length:Int)-1/\1<=x.b/\x.b<=64)\/(x.k=4/\0<=x.a/\x.a<=p.ins-1/\1<=x.b/\x.b<=64)\/(x.k=7/\0<=x.a/\x.a<=p.outs-1/\1<=x.b/\x.b<=64)\/(x.k=5/\0<=x.a/\x.a<=(p.parts.length:Int)-1/\x.b=0)
theorem aFD p h(ok:p.ok h) i n(al:p.ops.length<=131072) x(l:p.ops[i]=x)(av:0<=p.br/\p.br<=1000)(J:0<=p.ins/\p.ins<=1000)(j:0<=p.outs/\p.outs<=1000)(A:p.parts.length<=1000)(f:p.lines.length<=1000)(c:CQ p i x):Fn aD 182 #[.agg p.cells.toArray,R i] h λv aa=>v=dh true/\aa=h:=by
 refine bU ayI rfl ?_;obtain⟨k,a,b⟩:=x;obtain⟨g,d⟩:=ok.ops.b4 I;have o:(p.ops.map cm.cells)[i]?=some (cm.cells ⟨k,a,b⟩):=by rw[de,bK n,l];rfl
 have z:=ok.ops.row d o;have c7:p.cells=[R p.mem,R p.br,R p.ins,R p.outs,ab p.j' p.parts.length p.c7,ab p.fg p.lines.length p.lc,ab p.cn p.ops.length p.bT]:=rfl;rw[c7];unfold CQ at c;refine ay λE t C=>?_;refine t _ _ _ ?_;refine ay λG s B=>?_;refine .m g d ?_;refine .hp [bC .u8 (k:Nat),R a,R b] rfl (by rw[bn];exact z) ?_;refine s _ _ _ ?_;refine ay λH r D=>?_;refine r _ _ _ ?_;refine ay λF y u=>?_;simp only[cm.mk.injEq]at c;rcases c with⟨⟨rfl,rfl,rfl⟩,q⟩|⟨rfl,q⟩|⟨rfl,q⟩|⟨rfl,q⟩|⟨rfl,q⟩|⟨rfl,q⟩|⟨rfl,q⟩|⟨rfl,q⟩;refine .ag (.mk (dh true) (λw _=>aqr) ?_);refine .bl ?_;refine u _ _ _ _ nofun ?_;refine .ag ⟨?_,rfl⟩;rw[hr I];rfl;all_goals
  try refine .bl ?_
  try conv=>whnf
  refine y _ _ _ ?_
  refine .bl ?_
  refine .ag (.mk _ (GO _ _ _) ?_)
  rintro _ _ ⟨rfl,rfl⟩
  rw[hr I,hr I]
  refine aW (λ_=>?_) (λe=>absurd e I)
  refine .ag ⟨?_,rfl⟩
  rw[hr I];rfl
def zk(a times:Int):Int:=if a<=131072/times then 1+times*a else 131073
def vZ(ops:List cm)(i:Nat)(x:cm):List dv->Option (List dv)
 |[]=>none
 |top::c=>
  if x.k=1 then(if(top::c).dropLast.all (λf=>decide ((ops.getD f.1.toNat ⟨0,0,0⟩).a≠x.a))=true then some (((i:Int),0)::top::c)else none)
  else if x.k=2 then match c with
   |[]=>none
   |low::c=>if(ops.getD top.1.toNat ⟨0,0,0⟩).a=x.a/\x.b=top.1+1 then some ((low.1,min (low.2+zk (top.2+1) (ops.getD top.1.toNat ⟨0,0,0⟩).b) 131073)::c)else none
  else if x.k=0/\c≠[]then none
  else some ((top.1,min (top.2+1) 131073)::c)
def nZ(ops:List cm):List cm->Nat->List dv->Option (List dv)
 |[],_,bk=>some bk
 |x::l,i,bk=>(vZ ops i x bk).bind (nZ ops l (i+1))
structure s5(am h:J)(A:Option aE)(n c:Nat)(bk:List dv):Prop where
 le:am.le h
 row:bw h 374 2 A n c (bk.reverse.map c7).flatten
 new:∀g,A=some g->am g.block=none
 len:bk.length=n
 some_:A≠none
theorem W5(l:List dv):(l.map c7).flatten.length=l.length*2:=Mm l
theorem s5.top{top:dv}(x:s5 am h A n c (top::bk)):∃b au,A=some ⟨b,0,none⟩/\n=bk.length+1/\h b=some (bb ((bk.reverse.map c7).flatten++(c7 top++au)).toArray 374 (0,0))/\(bk.reverse.map c7).flatten.length=bk.length*2/\am b=none/\n<=c/\c<=eQ:=by
 have al:=x.len;obtain⟨le,row,new,len,aK⟩:=x;cases A with
 |none=>exact absurd rfl aK
 |some g=>
  obtain⟨b,au,rfl,h1,ae,a,aT,d⟩:=row.split;refine⟨b,au,rfl,by simpa using al.symm,?_,by rw[W5,Zn],new _ rfl,a,aT⟩;rw[R8,fw,wy,mg]at h1;simpa using h1
section
variable {am h:J}{A:Option aE}{n c b:Nat}{top low:dv}{bk:List dv}{au:List aA}
theorem s5.put(x:s5 am h (some ⟨b,0,none⟩) n c (top::bk))(j:h b=some (bb ((bk.reverse.map c7).flatten++(c7 top++au)).toArray 374 (0,0))) z:over ((bk.reverse.map c7).flatten++(c7 top++au)) (bk.length*2+1) [R z]=some ((bk.reverse.map c7).flatten++(c7 (top.1,z)++au))/\s5 am (h.put b (bb ((bk.reverse.map c7).flatten++(c7 (top.1,z)++au)).toArray 374 (0,0))) (some ⟨b,0,none⟩) n c ((top.1,z)::bk):=by
 have al:(bk.reverse.map c7).flatten.length=bk.length*2:=by rw[W5,Zn]
 have d:=x.len;refine⟨?_,B2 x.le (x.new _ rfl),?_,x.new,d,nofun⟩;rw[io _ _ _ (by rw[fb,fb,al];show _<_+(2+_);omega),vm _ _ I,al,CJ];rfl;obtain⟨l,⟨q,_⟩|⟨g,m,q,a,i,k,f,o⟩⟩:=x.row;cases q;injection q with q;injection q with q;subst q;rw[j]at a;injection a with a;injection a with a;subst a;have e:((((top.1,z)::bk).reverse.map c7).flatten)=(bk.reverse.map c7).flatten++c7 (top.1,z):=bc;have p:n=bk.length+1:=by simpa using d.symm
 refine⟨by rw[e,fb,al];show _+2=_;omega,ba ⟨b,_,rfl,J.b8 _ _ _,i,k,?_,?_⟩⟩;simp only[amR,fb]at f⊢;exact f;rw[e,<-mg];have:n*2=((bk.reverse.map c7).flatten++c7 (top.1,z)).length:=by rw[fb,al];show _=_+2;omega
 rw[this];exact A5
theorem s5.pop(x:s5 am h A n c (top::bk)):s5 am h A (n-1) c bk:=by
 have a:=x.len;have b:n=bk.length+1:=by simpa using a.symm
 refine⟨x.le,?_,x.new,I,x.some_⟩;have r:=x.row;rw[R8,fw,wy,show n=(n-1)+1 by omega]at r;exact bw.less r (by rw[W5,Zn];omega) x.some_
end
def sa(ops:List cm)(i:Nat):List dv->Prop
 |[]=>False
 |[f]=>f.1= -1/\0<=f.2/\f.2<=131073
 |f::g::r=>(0<=f.1/\f.1<i/\(ops.getD f.1.toNat ⟨0,0,0⟩).k=1)/\(0<=f.2/\f.2<=131073)/\sa ops i (g::r)
theorem sa.mono{ops:List cm}{i:Nat}:∀{bk:List dv},sa ops i bk->sa ops (i+1) bk
 |[],h=>h
 |[_],h=>h
 |_::_::_,⟨⟨h1,ae,a⟩,aT,b⟩=>⟨⟨h1,I,a⟩,aT,b.mono⟩
theorem sa.steps{i:Nat}{f:dv}(h:sa ops i (f::bk)):0<=f.2/\f.2<=131073:=by
 cases bk with
 |nil=>exact h.2
 |cons=>exact h.2.1
theorem sa.put{i:Nat}{f:dv}{z:Int}(h:sa ops i (f::bk))(am:0<=z)(h1:z<=131073):sa ops i ((f.1,z)::bk):=by
 cases bk with
 |nil=>exact⟨h.1,am,h1⟩
 |cons=>exact⟨h.1,⟨am,h1⟩,h.2.2⟩
theorem sa.push{i:Nat}(h:sa ops i bk)(hk:(ops.getD i ⟨0,0,0⟩).k=1):sa ops (i+1) ((i,0)::bk):=by
 cases bk with
 |nil=>exact h.elim
 |cons f bk=>exact⟨⟨bc,by simp only;omega,by simpa using hk⟩,⟨bc,bc⟩,h.mono⟩
theorem s5.dK(x:s5 am h A n c bk):bg h 2 A n (bk.reverse.map c7):=bw.Jo x.row
theorem atY Q(e:cg)(p:jC) h(ok:p.ok h)(i:Nat) A n c m l c1(x:cm)(bk:List dv)(j:bg h 2 l m (bk.map c7))(hm:m<=1000000)(J:∀f∈bk,0<=f.1/\f.1<p.ops.length/\(p.ops.getD f.1.toNat ⟨0,0,0⟩).a≠x.a)(he:[1,4,5,6,18,19,20,48,49,50].map e=[.p 0 0,.v (ab A n c),.v (R i),.p 1 0,.v (ab p.cn p.ops.length p.bT),.v (R p.ops.length),.v (R i),.v (ab l m c1),.v (R m),.v (R (0:Nat))])(u:∀e,[1,4,5,6,18,19,20].map e=[.p 0 0,.v (ab A n c),.v (R i),.p 1 0,.v (ab p.cn p.ops.length p.bT),.v (R p.ops.length),.v (R i)]->Q (.exit 3) e [.own (p.cells.map .v) 42,.own (x.cells.map .v) 66] h):jk (λQ e L h=>dq aD 180 awr Q e L h) Q e [.own (p.cells.map .v) 42,.own (x.cells.map .v) 66] h:=by
 have K:p.cells=[R p.mem,R p.br,R p.ins,R p.outs,ab p.j' p.parts.length p.c7,ab p.fg p.lines.length p.lc,ab p.cn p.ops.length p.bT]:=rfl;rw[K]at u⊢;obtain⟨k,a,b⟩:=x;refine .mk Nat [1,4,5,6,18,19,20,48,49,50] (λk=>[.p 0 0,.v (ab A n c),.v (R i),.p 1 0,.v (ab p.cn p.ops.length p.bT),.v (R p.ops.length),.v (R i),.v (ab l m c1),.v (R m),.v (R k)]) (λ_=>[.own [.v (R p.mem),.v (R p.br),.v (R p.ins),.v (R p.outs),.v (ab p.j' p.parts.length p.c7),.v (ab p.fg p.lines.length p.lc),.v (ab p.cn p.ops.length p.bT)] 42,.own [.v (bC .u8 k),.v (R a),.v (R b)] 66]) (λk aa=>aa=h/\k<=m) (λk=>m-k) 0 (λ_=>rfl) ⟨rfl,cU _⟩ he rfl ?_;refineλo e _⟨rfl,hk⟩=>ay λP C N=>C _ _ _ (ay λT B D=>aW (λq=>?_) (λq=>?_));have al:bk.length=m:=by simpa using j.len
 have t:o<bk.length:=I;obtain⟨g1,w⟩:=j.b4 I;have s:=j.row w (i:=o) (r:=c7 bk[o]) (by rw[de,bK t];rfl);obtain⟨f1,f2,f3⟩:=J _ (b3 t);generalize bk[o]=f at s f1 f2 f3;obtain⟨d,g⟩:=f;obtain⟨y,hO⟩:=ok.ops.b4 I;have f4:d.toNat<p.ops.length:=by simp only at f1 f2;omega
 have H:=ok.ops.row hO (i:=d.toNat) (r:=cm.cells p.ops[d.toNat]) (by rw[de,bK f4];rfl);rw[cc,bK f4,pB]at f3;exact B _ _ _ (ay λU z O=>ew λS M E=>ay λV F Y=>.m g1 w (.hp [R d,R g] rfl (by rw[bn];exact s) (F _ _ _ (ay λX G W=>.mk y hO f1 f2 (.hp _ (H 1 _ rfl) (G _ _ _ (aW (λq=>absurd q f3) (λ_=>E _ _ _ _ nofun (z _ _ _ (.bl (⟨o+1,rfl,rfl,⟨rfl,I⟩,by show m- (o+1)<m-o;omega⟩)))))))))));exact D _ _ _ _ nofun (u _ rfl)
end Go.Sx
namespace Go.Sx
set_option maxRecDepth 100000
set_option maxHeartbeats 0
set_option linter.all false
variable {ops:List cm}{bk:List dv}{x:cm}{top:dv}
def jf(au:List (List cm)):e3->Nat
 |.nil=>0
 |.cons t n b r=>(if 1<t then 1+t.toNat*((bif b.leaf then(au.getD n.toNat []).length else jf au b)+1)else(bif b.leaf then(au.getD n.toNat []).length else jf au b))+jf au r
theorem Rk ops:∀b a i bk,nZ ops (b++a) i bk=(nZ ops b i bk).bind (nZ ops a (i+b.length))
 |[],a,i,bk=>rfl
 |x::b,a,i,bk=>by
  rw[List.cons_append,nZ,nZ];cases vZ ops i x bk with
  |none=>rfl
  |some g=>rw[ue,ue,Rk ops b a,iJ,Nat.add_assoc,Nat.add_comm 1]
theorem ah8{i:Nat}(h:3<=x.k):vZ ops i x (top::bk)=some ((top.1,min (top.2+1) 131073)::bk):=by
 show(if x.k=1 then _ else _)=_;rw[aC I];show(if x.k=2 then _ else _)=_;rw[aC I];show(if x.k=0/\bk≠[]then _ else _)=_;rw[aC I]
theorem aCI{i:Nat}(h:x.k=1)(b:∀g∈(top.1::bk.map hE).dropLast,(ops.getD g.toNat ⟨0,0,0⟩).a≠x.a):vZ ops i x (top::bk)=some (((i:Int),0)::top::bk):=by
 show(if x.k=1 then _ else _)=_;rw[aS h,aS];refine se.2 λg c=>hr (b _ ?_);have:=List.mem_map_of_mem (f:=hE) c;rwa[List.map_dropLast]at this
theorem ah7{i:Nat}{low:dv}(h:x.k=2)(h1:(ops.getD top.1.toNat ⟨0,0,0⟩).a=x.a)(ae:x.b=top.1+1):vZ ops i x (top::low::bk)=some ((low.1,min (low.2+zk (top.2+1) (ops.getD top.1.toNat ⟨0,0,0⟩).b) 131073)::bk):=by
 show(if x.k=1 then _ else _)=_;rw[aC I];show(if x.k=2 then(if(ops.getD top.1.toNat ⟨0,0,0⟩).a=x.a/\x.b=top.1+1 then _ else _)else _)=_;rw[aS h,aS ⟨h1,ae⟩]
theorem aoY{r t:Int}(h1:1<t)(ae:t*r<=131072):zk r t=1+t*r:=by
 rw[zk,aS];exact(Ze I).2 (by rw[amj];exact ae)
theorem ak9 ops:∀l i(a s:Int) bk,(∀x∈l,3<=x.k)->s+l.length<=131072->nZ ops l i ((a,s)::bk)=some ((a,s+l.length)::bk)
 |[],i,a,s,bk,_,_=>by simp[nZ]
 |x::l,i,a,s,bk,hk,c=>by
  have d:=hk x (List.mem_cons_self ..);rw[iJ]at c;rw[nZ,ah8 d,ue,ak9 ops l (i+1) _ _ bk (λy b=>hk y (List.mem_cons_of_mem _ b)) (by simp only;omega),iJ];congr 3;simp only;omega
theorem Q4{au:List (List cm)}(c:∀r∈au,r.length<=33):∀f,o2 f->jf au f<=36*gn f/\(f.leaf=false->jf au f+3<=36*gn f)
 |.nil,_=>⟨dM _,nofun⟩
 |.cons t n b r,⟨h1,ae,g⟩=>by
  have h:=(Q4 c b ae).2;have pj:=(Q4 c r g).1;have a:(bif b.leaf then(au.getD n.toNat []).length else jf au b)+3<=36*(bif b.leaf then 1 else gn b):=by
   cases al:b.leaf with
   |false=>exact h al
   |true=>
    simp only[pG];by_cases d:n.toNat<au.length;rw[cc,bK d,pB];have:=c _ (b3 d);omega;rw[cc,l2 I];simp
  have key:jf au (.cons t n b r)+3<=36*gn (.cons t n b r):=by
   rw[jf,gn];generalize(bif b.leaf then(au.getD n.toNat []).length else jf au b)=u at a⊢;generalize(bif b.leaf then 1 else gn b)=v at a⊢;obtain⟨k,rfl⟩:∃k:Nat,t=k:=⟨t.toNat,I⟩;rw[bn];split;have q:k*(u+3)<=k*(36*v):=Sc _ a;rw[am9]at q;have e:k*(36*v)=36*(k*v):=by rw[Nat.mul_left_comm]
   rw[am9];omega;have:k=1:=I;subst this;omega
  exact⟨I,λ_=>key⟩
theorem aCF{t:Int}{u:Nat}(h:1<t):u+1<=1+t.toNat*(u+1):=by
 have:1*(u+1)<=t.toNat*(u+1):=vn _ I;omega
theorem Yt au(hk:∀r∈au,∀x∈r,3<=x.k) ops:∀f len op pre post(a s:Int) bk,o2 f->pre.length=len->ops=pre++(gf au f len op++post)->(∀g∈(a::bk.map hE).dropLast,(ops.getD g.toNat ⟨0,0,0⟩).a<op)->0<=s->s+jf au f<=131072->nZ ops (gf au f len op) len ((a,s)::bk)=some ((a,s+jf au f)::bk)
 |.nil,len,op,pre,post,a,s,bk,_,_,_,_,_,_=>by simp[gf,nZ,jf]
 |.cons t n b r,len,op,pre,post,a,s,bk,⟨h1,ae,z⟩,al,c,av,y,h=>by
  rw[gf]at c;rw[gf,Rk];rw[jf]at h;have inner:∀(len op:Nat)(pre post:List cm)(a s:Int)(bk:List dv),pre.length=len->ops=pre++((bif b.leaf then au.getD n.toNat []else gf au b len op)++post)->(∀g∈(a::bk.map hE).dropLast,(ops.getD g.toNat ⟨0,0,0⟩).a<op)->0<=s->s+(bif b.leaf then(au.getD n.toNat []).length else jf au b:Nat)<=131072->nZ ops (bif b.leaf then au.getD n.toNat []else gf au b len op) len ((a,s)::bk)=some ((a,s+(bif b.leaf then(au.getD n.toNat []).length else jf au b:Nat))::bk):=by
   intro len op pre post a s bk w m B C j;cases q:b.leaf with
   |true=>
    rw[q]at j;simp only[pG]at j⊢;refine ak9 ops _ _ _ _ _ (λx l=>?_) j;by_cases p:n.toNat<au.length;rw[cc,bK p,pB]at l;exact hk _ (b3 p) x l;rw[cc,l2 I]at l;cases l
   |false=>
    rw[q]at m j;simp only[vw]at m j⊢;exact Yt au hk ops b len op pre post a s bk ae w m B C j
  have v:nZ ops (kw t op len (bif b.leaf then au.getD n.toNat []else gf au b (len+fL t) (op+fL t))) len ((a,s)::bk)=some ((a,s+((if 1<t then 1+t.toNat*((bif b.leaf then(au.getD n.toNat []).length else jf au b)+1)else(bif b.leaf then(au.getD n.toNat []).length else jf au b):Nat):Int))::bk):=by
   by_cases d:1<t;rw[aS d]at h⊢;rw[kw,aS d]at c⊢;have d1:fL t=1:=aS d;rw[d1]at c⊢;have hm:=aCF (u:=(bif b.leaf then(au.getD n.toNat []).length else jf au b)) d;have o:ops.getD len ⟨0,0,0⟩=⟨1,op,t⟩:=by rw[c,<-al];simp[cc]
   rw[nZ,aCI rfl (λg i=>by have:=av g i;show _≠(op:Int);omega),ue,Rk];rw[inner (len+1) (op+1) (pre++[⟨1,op,t⟩]) (⟨2,op,(len:Int)+1⟩::(gf au r (len+((⟨1,op,t⟩:cm)::((bif b.leaf then au.getD n.toNat []else gf au b (len+1) (op+1))++[⟨2,op,(len:Int)+1⟩])).length) op++post)) len 0 ((a,s)::bk) (by simp[al]) (by rw[c];simp) ?_ I I];have e:(t.toNat:Int)=t:=Int.toNat_of_nonneg I;rw[ue,nZ,ah7 rfl (by show _=(op:Int);rw[bn,o]) rfl,ue,nZ];simp only[bn,o];have A:∀u:Nat,((1+t.toNat*(u+1):Nat):Int)=1+t*((u:Int)+1):=λu=>by rw[Ni,Int.natCast_mul,e];rfl
   rw[Ni]at h;rw[A]at h⊢;generalize((bif b.leaf then(au.getD n.toNat []).length else jf au b:Nat):Int)=u at h⊢;rw[Int.zero_add,aoY d I];congr 3;omega;intro g i;rw[er,amq bc]at i;rcases ez.1 i with rfl|i;simp only[bn,o];omega;have:=av g i;omega;rw[aC d]at h⊢;rw[kw,aC d]at c⊢;have d1:fL t=0:=aC d;rw[d1]at c⊢;rw[mg]at c;exact inner len op pre _ a s bk al c av y I
  rw[v,ue];have:=Yt au hk ops r (len+(kw t op len (bif b.leaf then au.getD n.toNat []else gf au b (len+fL t) (op+fL t))).length) op (pre++kw t op len (bif b.leaf then au.getD n.toNat []else gf au b (len+fL t) (op+fL t))) post a (s+((if 1<t then 1+t.toNat*((bif b.leaf then(au.getD n.toNat []).length else jf au b)+1)else(bif b.leaf then(au.getD n.toNat []).length else jf au b):Nat):Int)) bk z (by rw[fb,al]) (by rw[c];simp) av I I;rw[this,jf,Ni,Int.add_assoc]
end Go.Sx
namespace Go.Sx
open Go.Proofs
set_option maxRecDepth 100000
set_option maxHeartbeats 0
set_option linter.all false
theorem qJ{P:fk}{n:Nat}{c:eC}{x y:IR}{Q:mi}{e:cg}{L:List LE}{h:J}{b:Bool}(av:c.get e= .v (dh b))(t:b=true->dq P n x Q (Av e c true) L h)(f:b=false->dq P n y Q (Av e c false) L h):dq P n (.cond c x y) Q e L h:=by
 show(match c.get e with|.v (dh b)=>gw b (dq P n x Q (Av e c true) L h) (dq P n y Q (Av e c false) L h)|_=>False);rw[av];exact vr t f
theorem SY{h:J}{b ty:Nat}{F M au:List aA}(c:h b=some (bb (F++(M++au)).toArray ty (0,0))){k o:Nat}{v:aA}(hk:k=F.length+o)(a:M[o]?=some v):h.cell? ⟨b,k,none⟩=some v:=by
 obtain⟨h1,ae⟩:=qO.1 a;have e:(F++(M++au))[k]?=some v:=by
  grind
 unfold J.cell?
 grind
def tR(p:jC):List aN:=[.v (R p.mem),.v (R p.br),.v (R p.ins),.v (R p.outs),.v (ab p.j' p.parts.length p.c7),.v (ab p.fg p.lines.length p.lc),.v (ab p.cn p.ops.length p.bT)]
theorem aoZ{r t:Int}(a:0<=r)(b:0<=t):0<=zk r t/\zk r t<=131073:=by
 unfold zk;split;rename_i h;have am:0<=t*r:=amk b a;by_cases h1:0<t;have:=(Ze h1).1 h
 grind
 grind
 omega
theorem sa.adX{ops:List cm}{i:Nat}:∀{bk:List dv},sa ops i bk->∀f∈bk.dropLast,0<=f.1/\f.1<i/\(ops.getD f.1.toNat ⟨0,0,0⟩).k=1
 |[],h,_,_=>h.elim
 |[_],_,_,c=>by grind
 |a::b::r,⟨h1,_,d⟩,f,c=>by
  rw[amq bc]at c;rcases ez.1 c with rfl|c;omega;exact d.adX f c
theorem aHJ Q e p am h1(ok:p.ok am)(al:p.ops.length<=131072)(av:0<=p.br/\p.br<=1000)(qk:0<=p.ins/\p.ins<=1000)(aew:0<=p.outs/\p.outs<=1000)(Ll:p.parts.length<=1000)(ael:p.lines.length<=1000)(an:∀i ai,CQ p i p.ops[i]) T b e5(eH:s5 am h1 (some ⟨b,0,none⟩) 1 e5 [(-1,0)])(N:nZ p.ops p.ops 0 [(-1,0)]=some [(-1,T)])(he:[1,4,18,19,20].map (λs=>Mv [.own (tR p) 42,.b5 b] (e s))=[.p 0 0,.v (ab (some ⟨b,0,none⟩) 1 e5),.v (ab p.cn p.ops.length p.bT),.v (R p.ops.length),.v (R (0:Nat))])(cF:∀e aa A c,[1,4].map e=[.p 0 0,.v (ab A 1 c)]->s5 am aa A 1 c [(-1,T)]->Q (.exit 0) e [.own (tR p) 42] aa):jk (λQ e L h=>dq aD 180 awq Q e L h) Q e [.own (tR p) 42,.b5 b] h1:=by
 unfold tR at he cF⊢;refine .ag7 [0] (Nat×List dv×Option aE×Nat) [1,4,18,19,20] (λ(i,bk,A,c)=>[.p 0 0,.v (ab A bk.length c),.v (ab p.cn p.ops.length p.bT),.v (R p.ops.length),.v (R i)]) (λ_=>[.own [.v (R p.mem),.v (R p.br),.v (R p.ins),.v (R p.outs),.v (ab p.j' p.parts.length p.c7),.v (ab p.fg p.lines.length p.lc),.v (ab p.cn p.ops.length p.bT)] 42]) (λ(i,bk,A,c) aa=>s5 am aa A bk.length c bk/\sa p.ops i bk/\nZ p.ops (p.ops.drop i) i bk=some [(-1,T)]/\i<=p.ops.length/\bk.length<=i+1) (λ(i,_)=>p.ops.length-i) (0,[(-1,0)],some ⟨b,0,none⟩,e5) (λ_=>rfl) ⟨eH,⟨rfl,aH,aH⟩,N,cU _,dM _⟩ he rfl rfl ?_;clear eH N he h1;refineλ⟨i,bk,A,c⟩ e h⟨x,y,hw,ai,sD⟩=>.ag (ay λfD cQ eT=>cQ _ _ _ (ay λfy cM d9=>aW (λq=>?_) (λq=>?_)))
 .have F:i<p.ops.length:=I;rw[l1 F,nZ]at hw;have BS:=an i F;obtain⟨bX,hO⟩:=ok.ops.b4 I;have m8:=(ok.ops.mono x.le).row hO (i:=i) (r:=cm.cells p.ops[i]) aL;obtain⟨op,X⟩:∃op,p.ops[i]=op:=⟨_,rfl⟩;have snd:=aFD p h (ok.mono x.le) i F al op X av qk aew Ll ael aL;rw[X]at hw BS m8;cases bk with
  |nil=>exact y.elim
  |cons top bk=>
   obtain⟨b,au,rfl,aF,O,bs,lF,Lg,BB⟩:=x.top;have aJj:c<=9223372036854775807:=by unfold eQ at BB;omega
   refine cM _ _ _ (ay λfz cL eZ=>ew λfE dR dH=>ay λgF du gN=>.m bX hO (.hp op.cells rfl (by rw[bn];exact m8) (du _ _ _ (ay λgL ed gG=>ay λjl eY hU=>.ag (.mk _ snd ?_)))));rintro _ af ⟨rfl,ex⟩;rw[ex];refine eY _ _ _ ?_;refine ed _ _ _ ?_;have Ul:∀o,((⟨b,0,none⟩:aE).add (CD (((top::bk).length:Int)-1)*2)).add o=⟨b,bk.length*2+o,none⟩:=λo=>by
    rw[add_lit,add_lit,iJ,dZ,show((bk.length+1:Nat):Int)-1=(bk.length:Int) by omega,bn]
   have G:∀o v,(c7 top)[o]?=some v->h.cell? (((⟨b,0,none⟩:aE).add (CD (((top::bk).length:Int)-1)*2)).add o)=some v:=λo v ao=>by
    rw[Ul];exact SY O (by rw[bs]) ao
   have lm:=y.steps;have fin:∀(e:cg)(L:List LE)(ae:J)(w:List dv)(bo:Option aE)(bj:Nat),[1,4,18,19,20].map e=[.p 0 0,.v (ab bo w.length bj),.v (ab p.cn p.ops.length p.bT),.v (R p.ops.length),.v (R i)]->w.length<=i+2->sa p.ops (i+1) w->nZ p.ops (p.ops.drop (i+1)) (i+1) w=some [(-1,T)]->(∀K:List LE->J->Prop,(∀px Y,px.take 1=[.own [.v (R p.mem),.v (R p.br),.v (R p.ins),.v (R p.outs),.v (ab p.j' p.parts.length p.c7),.v (ab p.fg p.lines.length p.lc),.v (ab p.cn p.ops.length p.bT)] 42]->s5 am Y bo w.length bj w->K px Y)->hL K L ae)->fE .normal e L ae:=by
    refineλe L ae w bo bj P ni ar7 qo lv=>dH _ _ _ _ nofun (cL _ _ _ ?_);rw[<-fi [1,4,18,19,20] e,P];exact .bl (lv _ λpx Y hG asc=>⟨(i+1,w,bo,bj),rfl,hG,⟨asc,ar7,qo,F,ni⟩,by show p.ops.length- (i+1)<p.ops.length-i;omega⟩)
   obtain⟨k,d,l⟩:=op;refine ay λkd fO j3=>.bl (.mk ⟨b,0,none⟩ rfl I I (fO _ _ _ (ay λjU hc iD=>hc _ _ _ (ew λkQ gM S=>?_))));unfold CQ at BS;simp only[cm.mk.injEq]at BS;have au9:(k=0/\i+1=p.ops.length)\/(k=1)\/(k=2)\/(k=3\/k=4\/k=5\/k=6\/k=7):=I;rcases au9 with⟨rfl,aG⟩|rfl|rfl|hk;have C:bk=[]:=by
    cases bk with
    |nil=>rfl
    |cons=>simp[vZ]at hw
   subst C;have C:vZ p.ops i ⟨0,d,l⟩ [top]=some [(top.1,min (top.2+1) 131073)]:=rfl;rw[C,ue]at hw;obtain⟨V,U⟩:=x.put O (min (top.2+1) 131073);refine .hp (R top.2) (G 1 _ rfl) (.bl (.ag (.mk _ (SX _ _) ?_)));rintro _ af ⟨rfl,ex⟩;rw[ex];refine .hp b ([].length*2+1) 374 _ _ (Ul 1) O V ?_;refine S _ _ _ _ nofun ?_;exact fin _ _ _ [(top.1,min (top.2+1) 131073)] _ _ rfl bc (y.mono.put I I) hw λK n=>.ag (n _ _ rfl U);have E:((top::bk).dropLast.all (λf=>decide ((p.ops.getD f.1.toNat ⟨0,0,0⟩).a≠d)))=true:=by
    by_cases q:((top::bk).dropLast.all (λf=>decide ((p.ops.getD f.1.toNat ⟨0,0,0⟩).a≠d)))=true;omega;have:vZ p.ops i ⟨1,d,l⟩ (top::bk)=none:=by
     show(if((top::bk).dropLast.all (λf=>decide ((p.ops.getD f.1.toNat ⟨0,0,0⟩).a≠d)))=true then _ else none)=none;rw[aC q]
    rw[this]at hw;cases hw
   have C:vZ p.ops i ⟨1,d,l⟩ (top::bk)=some (((i:Int),0)::top::bk):=by
    show(if((top::bk).dropLast.all (λf=>decide ((p.ops.getD f.1.toNat ⟨0,0,0⟩).a≠d)))=true then _ else none)=_;rw[aS E]
   rw[C,ue]at hw;refine ay λqS kh qs=>kh _ _ _ (qJ rfl (λ_=>?_) nofun);refine ay λoE ki nn=>ay λsk lJ uI=>.mk 1 (top::bk).length rfl rfl bc Lg λo1 mo _=>lJ _ _ _ (ew λxT qr z1=>?_);have Ye:=x.dK.drop (B:=o1) (k:=1) (λq=>mo I) bc;have dl:(top::bk).length-1=bk.length:=bc;rw[dl]at Ye⊢;rw[<-List.map_drop]at Ye;refine .jG (.ag (atY xT _ p h (ok.mono x.le) i _ _ c bk.length o1 _ ⟨1,d,l⟩ ((top::bk).reverse.drop 1) Ye I (λf bf=>?_) rfl λaR P=>?_));rw[List.drop_one,List.tail_reverse,List.mem_reverse]at bf;obtain⟨f1,f2,f3⟩:=y.adX f bf;exact⟨f1,I,uX (se.1 E f bf)⟩;refine qr _ _ _ (ki _ _ _ ?_);rw[<-fi [1,4,5,6,18,19,20] aR,P];refine .ag (NJ (aI:=[R i,R 0]) x.row rfl (by intro u hu;rcases ez.1 hu with rfl|hu;rfl;rw[hZ]at hu;subst hu;rfl) aH rfl (by unfold eQ;omega) I (λcB eR aK kk=>?_) (λdT c2 D Ur=>?_));refine S _ _ _ _ nofun (fin _ _ _ (((i:Int),0)::top::bk) _ _ rfl (by simp only[iJ]at sD⊢;omega) (y.push (by rw[cc,bK F,X];rfl)) hw λK n=>.ag (n _ _ rfl ⟨lK ?_ x.le,?_,x.new,rfl,nofun⟩));exact x.new _ aK;rw[R8,fw,wy];exact kk;refine S _ _ _ _ nofun (fin _ _ _ (((i:Int),0)::top::bk) _ _ rfl (by simp only[iJ]at sD⊢;omega) (y.push (by rw[cc,bK F,X];rfl)) hw λK n=>.b5 3 374 2 dT _ c2 _ rfl λY d7 eb f3=>.ag (n _ _ rfl ⟨J.le_trans x.le d7,?_,λg ak=>J.none_le x.le (f3 g ak),rfl,D⟩));rw[R8,fw,wy];exact eb;obtain⟨low,bk,rfl⟩:∃a b,bk=a::b:=by
    cases bk with
    |nil=>simp[vZ]at hw
    |cons a b=>simp
   have E:(p.ops.getD top.1.toNat ⟨0,0,0⟩).a=d/\l=top.1+1:=by
    by_cases q:(p.ops.getD top.1.toNat ⟨0,0,0⟩).a=d/\l=top.1+1;omega;have:vZ p.ops i ⟨2,d,l⟩ (top::low::bk)=none:=by
     show(if(p.ops.getD top.1.toNat ⟨0,0,0⟩).a=d/\l=top.1+1 then _ else none)=none;rw[aC q]
    rw[this]at hw;cases hw
   rw[ah7 rfl E.1 E.2,ue]at hw;obtain⟨Z,rfl⟩:=E;obtain⟨⟨Lr,Ls,W⟩,_,H⟩:=y;have zQ:top.1.toNat<p.ops.length:=I;have SR:=(ok.ops.mono x.le).row hO (i:=top.1.toNat) (r:=cm.cells p.ops[top.1.toNat]) (by rw[de,bK zQ];rfl);have U6:=an _ zQ;rw[cc,bK zQ,pB]at Z W hw;obtain⟨⟨afW,VI,j⟩,ah⟩:∃q,p.ops[top.1.toNat]=q:=⟨_,rfl⟩;rw[ah]at SR U6 Z W hw;simp only at Z W hw;subst Z W;have aJx:1<=j/\j<=2048:=by
    unfold CQ at U6;simp only[cm.mk.injEq]at U6;omega
   have gD:∀(e:cg)(z:Int),0<=z->z<=131073->z=zk (top.2+1) j->[1,4,6,11,18,19,20].map e=[.p 0 0,.v (ab (some ⟨b,0,none⟩) (top::low::bk).length c),.p 1 0,.v (R z),.v (ab p.cn p.ops.length p.bT),.v (R p.ops.length),.v (R i)]->dq aD 180 (.seq (.ck aws) (.seq (.ck awt) (.ck awu))) kQ e [.own [.v (R p.mem),.v (R p.br),.v (R p.ins),.v (R p.outs),.v (ab p.j' p.parts.length p.c7),.v (ab p.fg p.lines.length p.lc),.v (ab p.cn p.ops.length p.bT)] 42,.own [.v (bC .u8 (2:Nat)),.v (R VI),.v (R (top.1+1))] 66] h:=by
    intro e z z0 jS a7 P;have fu:=x.pop;have dl:(top::low::bk).length-1=(low::bk).length:=bc;rw[dl]at fu;obtain⟨cB,wH,D,tE,eM,as2,_,aJK,_⟩:=fu.top;injection D with D;injection D with D;subst D;have aJU:=H.steps;have M:∀o,((⟨b,0,none⟩:aE).add (CD (((low::bk).length:Int)-1)*2)).add o=⟨b,bk.length*2+o,none⟩:=λo=>by
     rw[add_lit,add_lit,iJ,dZ,show((bk.length+1:Nat):Int)-1=(bk.length:Int) by omega,bn]
    rw[<-fi [1,4,6,11,18,19,20] e,P];refine ay λaID az7 aJ5=>.bl (.mk 0 (low::bk).length rfl I (cU _) I λo1 mo _=>?_);have vz:o1=some ⟨b,0,none⟩:=(mo I).trans rfl;subst vz;refine az7 _ _ _ (ay λaIE az8 aJ6=>.bl (.mk ⟨b,0,none⟩ rfl I I (az8 _ _ _ (.hp (R low.2) (by rw[anc,M];exact SY eM (by rw[as2]) rfl) (.bl (.ag (.mk _ (SX _ _) ?_)))))));rintro _ af ⟨rfl,ex⟩;rw[ex];obtain⟨V,U⟩:=fu.put eM (min (low.2+z) 131073);refine .hp b (bk.length*2+1) 374 _ _ (by rw[anc];exact M 1) eM V ?_;refine S _ _ _ _ nofun ?_;rw[<-a7]at hw;exact fin _ _ _ ((low.1,min (low.2+z) 131073)::bk) _ _ rfl (by simp only[iJ]at sD⊢;omega) (H.mono.put I I) hw λK n=>.ag (n _ _ rfl U)
   refine ay λqS kh qs=>kh _ _ _ (qJ rfl nofun (λ_=>ay λoE ki nn=>ki _ _ _ (qJ rfl (λ_=>?_) nofun)));refine ay λsk lJ uI=>ay λxT qr z1=>.hp (R top.1) (G 0 _ rfl) (.mk bX hO Lr I (.hp _ (SR 1 _ rfl) ?_));conv=>whnf
   rw[show decide (({k:=1,a:=VI,b:=j}:cm).a≠({k:=2,a:=VI,b:=top.1+1}:cm).a)=false from bc];refine .hp (R top.1) (G 0 _ rfl) (.bl (qr _ _ _ (aW (λq=>absurd rfl q) (λ_=>lJ _ _ _ (ay λA' tI DJ=>.hp (R top.2) (G 1 _ rfl) (.bl (tI _ _ _ (ay λEN zZ Iw=>zZ _ _ _ (ay λEO xi Ix=>ay λZB LK afX=>.hp (R top.1) (G 0 _ rfl) (.mk bX hO Lr I (.hp _ (SR 2 _ rfl) (LK _ _ _ (ay λNw LL afY=>?_)))))))))))));conv=>whnf
   have aJS:0<=131072/j/\131072/j<=131072:=⟨Int.ediv_nonneg aH I,Int.ediv_le_self _ aH⟩;have aJf:=aoZ (r:=top.2+1) (t:=j) I I;have hmul:top.2+1<=131072/j->0<=j*(top.2+1)/\j*(top.2+1)<=131072:=λq=>by
    have:=(Ze I).1 q;rw[amj]at this;exact⟨amk I I,this⟩
   rw[Int.tdiv_eq_ediv_of_nonneg aH];refine .mk (by simp only;omega) (.ok (by simp only;omega) (by simp only;omega) (LL _ _ _ (aW (λq=>?_) (λq=>?_))));obtain⟨aO,aG⟩:=hmul q;refine .ok (by simp only;omega) (by simp only;omega) (.ok (by simp only;omega) (by simp only;omega) (xi _ _ _ (gD _ (1+j*(top.2+1)) I I (by rw[zk,aS q]) rfl)));refine xi _ _ _ (gD _ 131073 I I (by rw[zk,aC q]) rfl);have C:vZ p.ops i ⟨k,d,l⟩ (top::bk)=some ((top.1,min (top.2+1) 131073)::bk):=ah8 (by simp only;omega);rw[C,ue]at hw;obtain⟨V,U⟩:=x.put O (min (top.2+1) 131073);rcases hk with rfl|rfl|rfl|rfl|rfl;all_goals
    refine .hp (R top.2) (G 1 _ rfl) (.bl (.ag (.mk _ (SX _ _) ?_)))
    rintro _ af ⟨rfl,ex⟩
    rw[ex]
    refine .hp b (bk.length*2+1) 374 _ _ (Ul 1) O V ?_
    refine S _ _ _ _ nofun ?_
    exact fin _ _ _ ((top.1,min (top.2+1) 131073)::bk) _ _ rfl (Nat.le_succ_of_le sD) (y.mono.put I I) hw λK n=>.ag (n _ _ rfl U)
 refine d9 _ _ _ _ nofun ?_;obtain rfl:i=p.ops.length:=by omega
 rw[RX,nZ]at hw;injection hw with hw;subst hw;exact cF _ _ _ _ rfl x
end Go.Sx
namespace Go.Sx
set_option maxRecDepth 100000
set_option maxHeartbeats 0
set_option linter.all false
theorem S8:∀f op dn d k,(jo f d k).1=0->d<=16->op<=d->jh f op dn<=max dn 17
 |.nil,_,_,_,_,_,_,_=>am5 _ _
 |.cons t n b r,op,dn,d,k,h,e,c=>by
  simp only[jo]at h;split at h;rename_i h1;rw[jh];have i:=S8 r op (jh b (op+fL t) (if 1<t then max dn (op+1)else dn)) d _ h e c;have av:(if 1<t then max dn (op+1)else dn)<=max dn 17:=by split<;>omega
  have g:jh b (op+fL t) (if 1<t then max dn (op+1)else dn)<=max (if 1<t then max dn (op+1)else dn) 17:=by
   cases al:b.leaf with
   |true=>
    have:b= .nil:=by cases b with|nil=>rfl|cons=>cases al
    rw[this,jh];exact am5 _ _
   |false=>
    have a:fL t<=1:=by unfold fL;split<;>omega
    rw[al]at h1;unfold kK at h1;split at h1;cases h1;split at h1;cases h1;rename_i ae;split at h1;cases h1;split at h1;rename_i q;cases q;split at h1;cases h1;exact S8 b _ _ (d+1) _ h1 (by have:¬16<=d:=λq=>ae ⟨rfl,q⟩;omega) I
  omega;rename_i h1;exact absurd h h1
theorem HH:∀f op dn,dn<=jh f op dn
 |.nil,_,_=>dM _
 |.cons t n b r,op,dn=>by
  rw[jh];have h1:=HH r op (jh b (op+fL t) (if 1<t then max dn (op+1)else dn));have ae:=HH b (op+fL t) (if 1<t then max dn (op+1)else dn);have:dn<=(if 1<t then max dn (op+1)else dn):=by split<;>omega
  omega
theorem aGM{t n:Int}{b r:e3}(hp:o2 (.cons t n b r)):t.toNat<=gn (.cons t n b r)/\gn r<=gn (.cons t n b r)/\(b.leaf=false->gn b<=gn (.cons t n b r)):=by
 obtain⟨h1,ae,e⟩:=hp;rw[gn];have c:1<=(bif b.leaf then 1 else gn b):=by
  cases al:b.leaf with
  |true=>exact dM _
  |false=>exact Yj b ae al
 have d:t.toNat*1<=t.toNat*(bif b.leaf then 1 else gn b):=Sc _ c;have a:1*(bif b.leaf then 1 else gn b)<=t.toNat*(bif b.leaf then 1 else gn b):=vn _ I;refine⟨I,I,λal=>?_⟩;rw[al]at a⊢;simp only[vw]at a⊢;omega
theorem Tk au:∀f len op dn,o2 f->∀x∈gf au f len op,(∃r∈au,x∈r)\/(x.k=1/\0<=x.a/\x.a+1<=jh f op dn/\1<=x.b/\x.b<=gn f)\/(x.k=2/\0<=x.a/\x.a+1<=jh f op dn/\0<=x.b/\x.b<(len+(gf au f len op).length:Nat))
 |.nil,_,_,_,_,x,c=>by simp[gf]at c
 |.cons t n b r,len,op,dn,hp,x,c=>by
  obtain⟨v,w,u⟩:=aGM hp;obtain⟨h1,ae,p⟩:=hp;rw[gf]at c⊢;rw[fb];rw[jh];have g0:jh b (op+fL t) (if 1<t then max dn (op+1)else dn)<=jh r op (jh b (op+fL t) (if 1<t then max dn (op+1)else dn)):=HH _ _ _;have g1:(if 1<t then max dn (op+1)else dn)<=jh b (op+fL t) (if 1<t then max dn (op+1)else dn):=HH _ _ _;rcases eI.1 c with c|c;have j:∀y∈(bif b.leaf then au.getD n.toNat []else gf au b (len+fL t) (op+fL t)),(∃r∈au,y∈r)\/(y.k=1/\0<=y.a/\y.a+1<=(jh b (op+fL t) (if 1<t then max dn (op+1)else dn):Nat)/\1<=y.b/\y.b<=(gn (.cons t n b r):Nat))\/(y.k=2/\0<=y.a/\y.a+1<=(jh b (op+fL t) (if 1<t then max dn (op+1)else dn):Nat)/\0<=y.b/\y.b<(len+fL t+(bif b.leaf then au.getD n.toNat []else gf au b (len+fL t) (op+fL t)).length:Nat)):=by
   intro y l;cases al:b.leaf with
   |true=>
    rw[al,pG]at l;refine bQ ?_;by_cases o:n.toNat<au.length;rw[cc,bK o,pB]at l;exact⟨_,b3 o,l⟩;rw[cc,l2 I]at l;cases l
   |false=>
    rw[al,vw]at l;have:=u al;rcases Tk au b (len+fL t) (op+fL t) (if 1<t then max dn (op+1)else dn) ae y l with q|⟨e,d,h,g,i⟩|⟨e,d,h,g,i⟩;exact bQ q;exact ba (bQ ⟨e,d,h,g,I⟩);exact ba (ba ⟨e,d,h,g,i⟩)
  rw[kw]at c⊢;by_cases m:1<t;have d1:fL t=1:=aS m;rw[aS m]at c⊢;rw[d1]at c j g0 g1⊢;rw[aS m]at g0 g1 j⊢;generalize(bif b.leaf then au.getD n.toNat []else gf au b (len+1) (op+1))=s at c j⊢;simp only[iJ,fb,R4];rcases ez.1 c with rfl|c;exact ba (bQ ⟨rfl,by simp only;omega,by simp only;omega,by simp only;omega,by simp only;omega⟩);rcases eI.1 c with c|c;rcases j x c with q|⟨e,d,h,g,i⟩|⟨e,d,h,g,i⟩;exact bQ q;exact ba (bQ ⟨e,d,I,g,i⟩);exact ba (ba ⟨e,d,I,g,I⟩);rw[hZ]at c;subst c;exact ba (ba ⟨rfl,by simp only;omega,by simp only;omega,by simp only;omega,by simp only;omega⟩);have d1:fL t=0:=aC m;rw[aC m]at c⊢;rw[d1]at c j g0 g1⊢;rw[aC m]at g0 g1 j⊢;generalize(bif b.leaf then au.getD n.toNat []else gf au b (len+0) (op+0))=s at c j⊢;rcases j x c with q|⟨e,d,h,g,i⟩|⟨e,d,h,g,i⟩;exact bQ q;exact ba (bQ ⟨e,d,I,g,i⟩);exact ba (ba ⟨e,d,I,g,I⟩);rcases Tk au r _ _ (jh b (op+fL t) (if 1<t then max dn (op+1)else dn)) p x c with q|⟨e,d,h,g,i⟩|⟨e,d,h,g,i⟩;exact bQ q;exact ba (bQ ⟨e,d,h,g,I⟩);exact ba (ba ⟨e,d,h,g,I⟩)
end Go.Sx
