/- A part of the proof that the statement holds. Conditions: none. -/
import Derived.Laws.StructEq
import Derived.Test.YtlbdbpaelcnfgaaGreatDoorAR
open Bool renaming false_and->Bk,false_or->ajZ,true_and->zB
open Classical renaming not_not->jL
open Go renaming Addr->aI,Program->eN,Value->ax,maxLen->eD,run_equalIn_int->V4,run_underlying->gM
open Go.Obj renaming cells->bb
open Go.Proofs.Tryz renaming prog->aB
open Go.Value renaming bool->c5,int->bA,oneCell'->zX,slice->ab,tuple->ey
open Int renaming le_ediv_iff_mul_le->XL,mul_comm->akD,mul_nonneg->akE,natCast_add->LP,toNat->x6,toNat_natCast->bz
open List renaming all_eq_true->rl,append_assoc->kC,append_nil->s7,dropLast_cons_of_ne_nil->akM,drop_eq_getElem_cons->mE,drop_length->Ql,ext_getElem->um,flatten_append->vr,flatten_cons->oR,getD_eq_getElem?_getD->cx,getElem?_append_left->FN,getElem?_append_right->FO,getElem?_eq_getElem->bZ,getElem?_eq_none->l6,getElem?_eq_some_iff->pZ,getElem?_map->dH,getElem?_set_self->Ig,getElem_mem->cG,getElem_of_mem->oe,getElem_set->wQ,length->fi,length_append->fc,length_cons->iv,length_drop->mF,length_eq_zero_iff->ak1,length_map->gz,length_nil->Qp,length_reverse->XX,length_set->h2,map_append->fF,map_cons->ec,map_set->lM,map_singleton->Ij,mem_append->ej,mem_append_left->Bv,mem_append_right->LU,mem_cons->ek,mem_map->cU,mem_singleton->hV,nil_append->Im,range->fL,replicate->bh,reverse_cons->Qs,set_append_right->uq,size_toArray->alg,sum_append->alh,take_append_drop->FU,take_left->BA,take_length->r5,zipWith->rn
open List.Perm renaming nodup_iff->akJ
open List.cons renaming injEq->zN
open Nat renaming add_mul->BD,add_sub_cancel_left->Dq,add_zero->zQ,beq->hW,le_max_left->als,le_refl->dz,lt_succ_self->zR,mul_add->alx,mul_le_mul_left->alz,mul_le_mul_right->ur,mul_one->eV,not_lt_zero->BE,sub_self->wU,sub_zero->alC,zero_add->dM,zero_le->cW,zero_mul->FV
open Ne renaming symm->d'
open Option renaming bind_some->ta,getD_some->ps
open Or renaming inl->bW,inr->bl
open Prod renaming fst->gQ,snd->er
open Prod.mk renaming injEq->wZ
namespace Go.Sx
open Go.Proofs
set_option maxRecDepth 100000
set_option maxHeartbeats 0
set_option linter.all false
variable {al h:J}{dX:List Int}{L:List LE}{ba:List c9}{a aX b c cZ n op:Nat}{A:Option aI}{F:ax}{g:c8}
theorem abb(l:List Nat):(l.map λz:Nat=>[R z]).flatten=l.map λz:Nat=>R z:=by
 induction l with
 |nil=>rfl
 |cons a l b=>rw[ec,oR,b];rfl
theorem Wu{b:J}{gt bq o:Nat}{t f:List Int}(a:gt≠bq)(h:st b gt bq t f o=none):o≠gt/\o≠bq:=by
 constructor;intro e;subst e;rw[Fo a]at h;cases h;intro e;subst e;rw[HR]at h;cases h
theorem aqQ(l:List Nat):∀v,l.getD v 0<=l.sum:=by
 induction l with
 |nil=>intro v;simp
 |cons a l b=>
  intro v;cases v with
  |zero=>simp
  |succ v=>have:=b v;simp only[List.getD_cons_succ,List.sum_cons];omega
theorem az{P:eN}{x y:IR}{Q:k7}{e:cy}(k:∀a,(∀e L h,di P n y Q e L h->a .normal e L h)->(∀ex e L h,ex≠.normal->Q ex e L h->a ex e L h)->di P n x a e L h):di P n (.seq x y) Q e L h:=k (λex e L h=>match ex with|.normal=>di P n y Q e L h|ex=>Q ex e L h) (λ_ _ _ q=>q) (λex _ _ _ b q=>by cases ex<;>first|exact absurd rfl b|exact q)
theorem fb{P:eN}{id:Nat}{x:IR}{Q:k7}{e:cy}(k:∀a,(∀e L h,Q .normal e L h->a (.exit id) e L h)->(∀ex e L h,ex≠.exit id->Q ex e L h->a ex e L h)->di P n x a e L h):di P n (.block id x) Q e L h:=by
 refine k (λex e L h=>match ex with|.exit o=>bif hW o id then Q .normal e L h else Q (.exit o) e L h|ex=>Q ex e L h) (λe L h q=>?_) (λex e L h b q=>?_);show(bif hW id id then Q .normal e L h else Q (.exit id) e L h);rw[Nat.beq_refl];exact q;cases ex with
 |exit o=>
  show(bif hW o id then Q .normal e L h else Q (.exit o) e L h);rw[show hW o id=false from Bool.eq_false_iff.2 λq=>b (by rw[Nat.eq_of_beq_eq_true q])];exact q
 |_=>exact q
theorem aCF Q(e:cy)(m n N fT b gt bq a i c1:Nat) A sp ad dw j bn C w(ao:e' m ad=0)(vX:m<=32)(xu:ad.length<=96)(j3:sb bn b gt bq m ad)(nU:bn fT=none)(hG:bn a=none)(Ko:bn.le C)(P:C gt=none)(S:C bq=none)(cY:w0 C fT b a i m c1 sp dw j (ab none 0 0))(JY:dw.sum<=2048)(M2:w=t' m ad j (dw.sum+1) (bh m 0) dw [])(Ox:a≠fT)(UR:a≠i)(he:[6,16,17].map e=[.p 1 0,.p 4 0,.v (R (BX (px m ad (dx ad (bh m 0)) dw j m)))])(cM:∀e c f B ed,bn.le c->c gt=none->c bq=none->f.length=m->w0 c fT b a i m c1 sp w.1 j (ab B w.2.length ed)->w.2.length<=2048->e 6= .p 1 0->e 16= .p 4 0->Q (.exit 4) e [.own [.v (R m),.v (ab A n N)] 33,.own [.v (ab none 0 0),.v (ab none 0 0)] 85,.gone,.gone,.b4 fT,.row 3 1 B w.2.length ed (w.2.map λz:Nat=>R z)] (st c gt bq (dx ad f) f)):kB (λQ e L h=>di aB 124 adV Q e L h) Q e [.own [.v (R m),.v (ab A n N)] 33,.own [.v (ab none 0 0),.v (ab none 0 0)] 85,.gone,.gone,.b4 fT,.row 3 1 none 0 0 []] (st C gt bq (dx ad (bh m 0)) (bh m 0)):=by
 have g0:Good m ad (bh m 0) 0:=D1 ao;refine .mk (Int×List Int×List Nat×List Nat×Option aI×Nat×J×Nat) [6,16,17] (λ(z,_)=>[.p 1 0,.p 4 0,.v (R z)]) (λ(_,_,_,l,B,ed,_,_)=>[.own [.v (R m),.v (ab A n N)] 33,.own [.v (ab none 0 0),.v (ab none 0 0)] 85,.gone,.gone,.b4 fT,.row 3 1 B l.length ed (l.map λz:Nat=>R (z:Int))]) (λ(z,f,left,l,B,ed,c,d) aa=>z=BX (px m ad (dx ad f) left j m)/\aa=st c gt bq (dx ad f) f/\bn.le c/\c gt=none/\c bq=none/\Good m ad f l.length/\w0 c fT b a i m c1 sp left j (ab B l.length ed)/\left.sum+l.length=dw.sum/\t' m ad j d f left l=w/\left.sum<d) (λ(_,_,_,_,_,_,_,d)=>d) (_,bh m 0,dw,[],none,0,C,dw.sum+1) (λ_=>rfl) ⟨rfl,rfl,Ko,P,S,g0,cY,bd,M2.symm,I⟩ he rfl ?_;rintro⟨z,f,left,l,B,ed,c,d⟩ cV cE ⟨o,rfl,X,P,S,Z,T,wc,Y,aHw⟩;have hI:l.length<=2048:=I;show di aB 124 adV _ (lH cV [6,16,17] [.p 1 0,.p 4 0,.v (R z)]) [.own [.v (R m),.v (ab A n N)] 33,.own [.v (ab none 0 0),.v (ab none 0 0)] 85,.gone,.gone,.b4 fT,.row 3 1 B l.length ed (l.map λz:Nat=>R (z:Int))] (st c gt bq (dx ad f) f);refine az λgA db ev=>aY (λl1=>?_) (λl1=>?_);cases y:px m ad (dx ad f) left j m with
 |none=>rw[y]at o;simp[BX]at o;omega
 |some v=>
  have W:z=(v:Int):=by rw[o,y];rfl
  clear o;have o:=y;obtain⟨Cw,as7⟩:=Q2 o;have Tz:=Q1 o;have F:may m ad f v=true:=as7;obtain⟨d,rfl⟩:∃g,d=g+1:=⟨d-1,I⟩;have G:t' m ad j d (bump f v) (left.set v (left.getD v 0-1)) (l++[v])=w:=by rw[<-Y,t',o]
  have cJ:=aqQ left v;have atE:=aD3 left v (by rw[T.gL];exact Tz) Cw;have aqO:=Z.bump ao F;have aqL:nR m ad [z] f=(1,bump f v):=by rw[W,Gw F,bz]
  have ay7:c.le (st c gt bq (dx ad f) f):=J.jZ P S;refine db _ _ _ (az λgj c6 fD=>fb λgk dZ ez=>az λhs dG hE=>.hp _ (bV (ay7 _ _ T.box) rfl) (.mk λbx ar1=>?_));have BT:At c c b gt bq m ad f l.length:=⟨J.le_refl _,j3.mono X P S,Z⟩;refine .ah (.mk _ (Gv ao BT I z ar1) ?_);rintro _ e6 ⟨rfl,D,rfl,E⟩;rw[aqL]at E⊢;simp only at E⊢;have k:=T.mono E.le;obtain⟨_,_,_,_,_,_,_,_,u⟩:=E.j3.ex;have UB:=J.jZ (cR:=dx ad (bump f v)) (cI:=bump f v) u.ov u.ou;have lS:=CJ (U5 (UB _ _ k.lB) k.gL) rfl Tz;refine dG _ _ _ (az λgZ ea g6=>.hp _ (bV (UB _ _ k.box) rfl) ?_);have U:=k.box;have Y9:fT≠gt:=λe=>by rw[e,u.ov]at U;cases U
  have Y':fT≠bq:=λe=>by rw[e,u.ou]at U;cases U
  have V:=k.lB;have K:a≠gt:=λe=>by rw[e,u.ov]at V;cases V
  have M:a≠bq:=λe=>by rw[e,u.ou]at V;cases V
  generalize left.getD v 0=x at lS Cw atE G cJ;refine .r (.hp (R x) (by rw[W,bz];exact lS) (.bg (.r ?_)));have aAn:over ((left.map λz:Nat=>R (z:Int))++sp) v [R ((x:Int)-1)]=some (((left.set v (x-1)).map λz:Nat=>R (z:Int))++sp):=by
   rw[ih _ _ _ (by simp[k.gL];omega),List.set_append_left _ _ (by simp[k.gL];exact Tz),lM,show(x:Int)-1=((x-1:Nat):Int) by omega]
  refine .hp a v 3 _ _ (by show(Addr.mk a 0 none).add (z.toNat*1)=_;rw[W,bz,add_lit,dM,eV]) (UB _ _ k.lB) aAn ?_;rw[air K M];have H:bn.le (D.put a (bb (((left.set v (x-1)).map λz:Nat=>R (z:Int))++sp).toArray 3 (0,0))):=ll hG (J.le_trans X E.le);have q:w0 (D.put a (bb (((left.set v (x-1)).map λz:Nat=>R (z:Int))++sp).toArray 3 (0,0))) fT b a i m c1 sp (left.set v (x-1)) j (ab B l.length ed):=⟨by rw[J.cB _ _ (d' Ox)];exact k.box,J.b1 _ _ _,by rw[J.cB _ _ (d' UR)];exact k.A5,by simp[k.gL],k.xO⟩;have jj:(D.put a (bb (((left.set v (x-1)).map λz:Nat=>R (z:Int))++sp).toArray 3 (0,0))) gt=none:=by rw[J.cB _ _ (d' K)];exact u.ov
  have z2:(D.put a (bb (((left.set v (x-1)).map λz:Nat=>R (z:Int))++sp).toArray 3 (0,0))) bq=none:=by rw[J.cB _ _ (d' M)];exact u.ou
  generalize D.put a (bb (((left.set v (x-1)).map λz:Nat=>R (z:Int))++sp).toArray 3 (0,0))=O at H q jj z2;have Kx:=J.jZ (cR:=dx ad (bump f v)) (cI:=bump f v) jj z2;refine ea _ _ _ (.hp _ (bV (Kx _ _ q.box) rfl) (.ah (.c3 5 _ [R z] rfl rfl (by simp[zX,R]) (by simp[eD];omega) I λt s aG'=>.hp fT 3 182 _ [h9 b,ab (some ⟨a,0,none⟩) m c1,ab (some ⟨i,0,none⟩) m m,ab t (l.length+1) s] rfl (Kx _ _ q.box) rfl ?_)));rw[air Y9 Y'];have Um:bn.le (O.put fT (bb [h9 b,ab (some ⟨a,0,none⟩) m c1,ab (some ⟨i,0,none⟩) m m,ab t (l.length+1) s].toArray 182 (0,0))):=ll nU H;have azE:i≠fT:=λe=>by have:=q.A5;rw[e,q.box]at this;injection this with this;injection this with _ this;exact absurd this aM
  have VM:w0 (O.put fT (bb [h9 b,ab (some ⟨a,0,none⟩) m c1,ab (some ⟨i,0,none⟩) m m,ab t (l.length+1) s].toArray 182 (0,0))) fT b a i m c1 sp (left.set v (x-1)) j (ab t (l.length+1) s):=⟨J.b1 _ _ _,by rw[J.cB _ _ Ox];exact q.lB,by rw[J.cB _ _ azE];exact q.A5,q.gL,q.xO⟩;have fq:(O.put fT (bb [h9 b,ab (some ⟨a,0,none⟩) m c1,ab (some ⟨i,0,none⟩) m m,ab t (l.length+1) s].toArray 182 (0,0))) gt=none:=by rw[J.cB _ _ (d' Y9)];exact jj
  have gD:(O.put fT (bb [h9 b,ab (some ⟨a,0,none⟩) m c1,ab (some ⟨i,0,none⟩) m m,ab t (l.length+1) s].toArray 182 (0,0))) bq=none:=by rw[J.cB _ _ (d' Y')];exact z2
  generalize O.put fT (bb [h9 b,ab (some ⟨a,0,none⟩) m c1,ab (some ⟨i,0,none⟩) m m,ab t (l.length+1) s].toArray 182 (0,0))=art at Um VM fq gD;refine ez _ _ _ _ nofun (c6 _ _ _ (.ah (.mk _ (Y3 (j3.mono Um fq gD) VM (dx ad (bump f v)) (bump f v) (qq _ _) xu I) ?_)));rintro _ _ ⟨rfl,rfl⟩;refine⟨(_,bump f v,left.set v (x-1),l++[v],t,s,art,d),rfl,?_,⟨rfl,rfl,Um,fq,gD,by rw[fc];exact aqO,by rw[fc];exact VM,by rw[fc];simp only[iv,Qp];omega,G,by show(left.set v (x-1)).sum<d;omega⟩,by show d<d+1;omega⟩;show _=[LE.own [.v (R m),.v (ab A n N)] 33,LE.own [.v (ab none 0 0),.v (ab none 0 0)] 85,LE.gone,LE.gone,LE.b4 fT,LE.row 3 1 t (l++[v]).length s ((l++[v]).map λz:Nat=>R (z:Int))];rw[fF,fc,W];rfl
 obtain⟨d,rfl⟩:∃g,d=g+1:=⟨d-1,I⟩;cases y:px m ad (dx ad f) left j m with
 |some v=>rw[y]at o;simp[BX]at o;omega
 |none=>
  rw[t',y]at Y;subst Y;exact ev _ _ _ _ nofun (cM _ c f B ed X P S Z.len T hI rfl rfl)
theorem aCE(N n D m c k c2:Nat) A ar P ad dw aE h(av:bf h 5 A n (ad.map bT.cells))(aA:n*40<=140737488355328)(Z:bf h 1 ar m (dw.map λz:Nat=>[R z]))(aq:∀q∈dw,q<=1000000)(hm:m<=1000)(oM:bf h 1 P k (aE.map λz=>[R z]))(hk:k<=70368744177664):Fn aB 23 #[mW N A n D,ab ar m c,ab P k c2] h λv aa=>Yg h N ad dw aE v aa:=by
 have ak:ad.length=n:=by simpa using av.len
 have Ax:dw.length=m:=by simpa using Z.len
 have aHM:aE.length=k:=by simpa using oM.len
 have y:∀(aa:J)(e:Int),h.le aa->q' N ad dw aE=none->e≠0->Yg h N ad dw aE (ey #[.agg #[ab none 0 0,ab none 0 0],R e]) aa:=λaa e le lh he=>⟨le,by rw[lh];exact⟨none,0,0,none,0,0,e,rfl,λq=>he q.1⟩⟩;refine b6 ael rfl (.ah (.mk _ (ate N n D m c A ar ad dw h av I Z aq hm) ?_));rintro _ _ ⟨rfl,rfl⟩;by_cases w:e' N ad≠0;rw[aP w];refine aY (λq=>?_) (λq=>absurd w q);exact .ah (y _ _ (J.le_refl _) (by rw[q',aD (λq=>w q.1)]) w);rw[aD w];have V:=jL.1 w;obtain⟨Jv,vX,xu,eK⟩:=lT V;by_cases t:m≠N;rw[aP t];exact .ah (y _ _ (J.le_refl _) (by rw[q',aD (λq=>t I)]) aM);rw[aD t];have t:=jL.1 t;subst t;cases hH:AD ad dw;exact .ah (y _ _ (J.le_refl _) (by rw[q',aD (λq=>by rw[hH]at q;cases q.2.2.1)]) aM);have Tq:∀q∈dw,q<=4096:=λq aw=>by
  simp only[AD,Bool.and_eq_true,rl,Fb,uB]at hH;exact(hH.1 q aw).2
 have JY:∀i,(dw.take i).sum<=i*4096:=λi=>by
  induction i with
  |zero=>simp
  |succ i bG=>
   rw[List.take_add_one,alh];have:(dw[i]?.toList).sum<=4096:=by
    cases he:dw[i]?with
    |none=>simp
    |some x=>simp;exact Tq x (List.mem_of_getElem? he)
   omega
 refine .mk Nat [1,2,3,6,10,32,33,34] (λi=>[.v (ab ar m c),.v (ab P k c2),.p 0 0,.p 1 0,.v (R ((dw.take i).sum:Nat)),.v (ab ar m c),.v (R m),.v (R i)]) (λ_=>[.own [.v (R m),.v (ab A n D)] 33,.own [.v (ab none 0 0),.v (ab none 0 0)] 85]) (λi aa=>aa=_/\i<=m) (λi=>m-i) 0 (λ_=>rfl) ⟨rfl,cW _⟩ rfl rfl ?_;rintro i e h1 ⟨rfl,ai⟩;refine aY (λq=>?_) (λq=>?_);have a:i<dw.length:=I;obtain⟨g,T⟩:=Z.cg I;have vN:=CJ Z T (i:=i) I;have j:dw.getD i 0=dw[i]:=by rw[cx,bZ a];rfl
 rw[j]at vN;have E:(dw.take (i+1)).sum=(dw.take i).sum+dw[i]:=by rw[kJ a,alh];simp
 have aj:=Tq _ (cG a);have dr:=JY i;generalize dw[i]=x at vN E aj;generalize(dw.take i).sum=s at E dr;refine .m g T ?_;refine .hp _ (by rw[bz];exact vN) ?_;refine .bg ?_;refine .bg ?_;refine⟨i+1,?_,rfl,⟨rfl,I⟩,by show m- (i+1)<m-i;omega⟩;rw[E];show[_,_,_,_,aK.v (R ((s:Int)+x)),_,_,_]=_;rw[show(s:Int)+x=((s+x:Nat):Int) by simp];rfl;have Au:i=dw.length:=I;rw[Au,r5];have dr:=JY dw.length;rw[r5]at dr;refine aY (λaH=>?_) (λaH=>?_);exact .ah (y _ _ (J.le_refl _) (by rw[q',aD (λq=>by have:=q.2.2.2.1;omega)]) aM);refine .mk Nat [1,2,3,6,45,46,47] (λi=>[.v (ab ar m c),.v (ab P k c2),.p 0 0,.p 1 0,.v (ab P k c2),.v (R k),.v (R i)]) (λ_=>[.own [.v (R m),.v (ab A n D)] 33,.own [.v (ab none 0 0),.v (ab none 0 0)] 85]) (λi aa=>aa=_/\i<=k/\∀z∈aE.take i,0<=z/\z<(m:Int)) (λi=>k-i) 0 (λ_=>rfl) ⟨rfl,cW _,bd⟩ rfl rfl ?_;rintro i e h1 ⟨rfl,ai,a1⟩;refine aY (λbp=>?_) (λbp=>?_);have a:i<aE.length:=I;obtain⟨g,T⟩:=oM.cg I;have Ge:=EI oM T (i:=i) I;have j:aE.getD i 0=aE[i]:=by rw[cx,bZ a];rfl
 rw[j]at Ge;have E:aE.take (i+1)=aE.take i++[aE[i]]:=kJ a;have o3:=cG a;generalize aE[i]=x at Ge E o3;refine .m g T ?_;refine .hp _ (by rw[bz];exact Ge) ?_;refine aY (λch=>?_) (λch=>?_);exact .ah (y _ _ (J.le_refl _) (by rw[q',aD (λq=>by have:=q.2.2.2.2 x o3;omega)]) aM);refine aY (λe0=>?_) (λe0=>?_);exact .ah (y _ _ (J.le_refl _) (by rw[q',aD (λq=>by have:=q.2.2.2.2 x o3;omega)]) aM);refine .bg (⟨i+1,rfl,rfl,⟨rfl,I,λz l=>?_⟩,by show k- (i+1)<k-i;omega⟩);rw[E]at l;rcases ej.1 l with l|l;exact a1 z l;simp at l;subst l;omega;have Au:i=aE.length:=I;rw[Au,r5]at a1;refine .ah (.mk _ (OA m n D ad A h1 av aA V) ?_);rintro _ ae ⟨bn,b,gt,bq,rfl,G,j3,rfl⟩;obtain⟨fl,hy,hz,Rc,ci,co,bX,O,a'⟩:=j3.ex;have qf:bn.le (st bn gt bq (dx ad (bh m 0)) (bh m 0)):=J.jZ a'.ov a'.ou;have dg:=J.le_trans G qf;refine .mk λbI du=>.c3 3 _ _ rfl ((Z.mono dg).src _) (by rw[abb];intro u hu;obtain⟨z,_,rfl⟩:=cU.1 hu;rfl) (by simp[eD];omega) I λiS c1 aG9=>.mk _ (aBP m k c2 P aE _ (oM.mono dg) hk I a1 I) (λv ae q=>q.1) ?_;rintro _ au ⟨W,Y,rfl,L,ajN⟩;refine .mk λfT Eb=>?_;have F:=a'.ne;obtain⟨azB,azC⟩:=Wu F ajN;obtain⟨M,Q⟩:=Wu F (J.none_le W Eb);have X:=J.dI (U:=bb #[h9 b,ab iS (0+m) c1,ab (some ⟨Y,0,none⟩) m m,ab none 0 0] 182 (0,0)) Eb;refine .b4 3 3 1 iS (0+m) c1 _ rfl λaU dh S K=>?_;obtain⟨eH,S|⟨d,C,rfl,mg,_,_,fN,ox⟩⟩:=S;omega;have H:=K _ rfl;have PV:=J.none_le (J.le_trans W X) H;obtain⟨UP,UQ⟩:=Wu F PV;have Ox:d≠fT:=λe=>by rw[e,J.b1]at H;cases H
 have UR:d≠Y:=λe=>by have:=(X _ _ L).symm.trans ((ee _ e.symm).trans H);cases this
 obtain⟨cC,j,Ko,re,s3⟩:=Li F a'.ov a'.ou (J.le_trans W (J.le_trans X dh));rw[j];have ra:∀o U,o≠gt->o≠bq->aU o=some U->cC o=some U:=λo U uW tD ag=>by rw[j,Fp uW tD]at ag;exact ag
 have xf:C=((dw.map λz:Nat=>R (z:Int))++C.toList.drop m).toArray:=by
  have h1:C.toList.take m=dw.map λz:Nat=>R (z:Int):=by
   have ae:=ox;rw[abb,dM,eV]at ae;exact ae
  rw[<-h1,FU,Array.toArray_toList]
 have cY:w0 cC fT b d Y m c1 (C.toList.drop m) dw (wx m aE) (ab none 0 0):=⟨by rw[ra fT _ M Q (dh _ _ (J.b1 _ _ _)),dM],by rw[ra d _ UP UQ mg];exact ee (λc=>some (bb c 3 (0,0))) xf,ra Y _ azB azC (dh _ _ (X _ _ L)),Ax,by rw[wx,VN]⟩;have ayA:=j3.mono Ko re s3;have g0:Good m ad (bh m 0) 0:=D1 V;have abN:h1 fT=none:=J.none_le (J.le_trans G (J.le_trans qf W)) Eb;have aHd:h1 d=none:=J.none_le G (by have:=PV;rwa[Fp UP UQ]at this);have nU:bn fT=none:=by have:=J.none_le W Eb;rwa[Fp M Q]at this
 have hG:bn d=none:=by rwa[Fp UP UQ]at PV
 generalize C.toList.drop m=sp at cY;clear ra j mg ox xf fN C H PV X K;refine .ah (.mk _ (Y3 ayA cY (dx ad (bh m 0)) (bh m 0) (qq _ _) xu I) ?_);rintro _ _ ⟨rfl,rfl⟩;obtain⟨uk,M2⟩:∃r,r=t' m ad (wx m aE) (dw.sum+1) (bh m 0) dw []:=⟨_,rfl⟩;have lh:q' m ad dw aE=if∀x∈uk.1,x=0 then some uk.2 else none:=by
  rw[q',aP ⟨V,Ax,hH,I,a1⟩,M2]
 have Kp:=J.le_trans G Ko;refine .kY (.abs 3 1 none 0 0 [] ⟨rfl,bW ⟨rfl,rfl,rfl⟩⟩ (.ah ?_));refine aCF _ _ m n D fT b gt bq d Y c1 A sp ad dw (wx m aE) bn cC uk V I xu j3 nU hG Ko re s3 cY I M2 Ox UR rfl ?_;rintro e pA f B ed G' re s3 a7 A3 as4 asm asl;rw[show e=lH e [6,16] [.p 1 0,.p 4 0] by rw[<-asm,<-asl];exact(fK [6,16] e).symm];refine .b4 5 3 1 B uk.2.length ed _ rfl λcE gn my f5=>?_;obtain⟨hH,MG,N8,jj,z2⟩:=Li F re s3 gn;rw[MG]at gn my⊢;refine .ah (.mk _ (anN (j3.mono (J.le_trans G' N8) jj z2) (A3.mono N8) (dx ad f) f (qq _ _) xu I a7) ?_);rintro _ e6 ⟨iz,dL,bN,eW,rfl,iO⟩;have Kx:h1.le e6:=J.le_trans G (J.le_trans G' (J.le_trans N8 (J.le_trans (J.jZ jj z2) iz)));refine aY (λO1=>?_) (λO1=>?_);refine .ah ⟨Kx,?_⟩;rw[lh,aD (λq=>by have:=iO.2 q;omega)];exact⟨_,_,_,dL,bN,eW,0,rfl,λq=>by have:=q.2;omega⟩;have hn:=iz _ _ (J.jZ jj z2 _ _ (A3.mono N8).box);refine .hp _ (bV hn rfl) (.ah ⟨Kx,?_⟩);rw[lh,aP (iO.1 I)];exact⟨as4,B,ed,rfl,(my.mono iz).af9⟩
def vd(K:Int):eJ->Bool
 |.nil=>false
 |.cons _ n b r=>b.leaf&&decide (K<=n)||vd K b||vd K r
theorem aiv K:∀N l,l.bj<N->l.bj<=200000->∀A m cap h,j5 h A m l->Fn aB 70 #[ab A m cap,R K] h λv aa=>v=c5 (vd K l.bM)/\aa=h
 |0,l,n,_=>absurd n (BE _)
 |N+1,l,n,y=>by
  intro A m cap bn j;have hm:m<=200000:=by have:=j.1;have:=l.y5;omega
  refine b6 axZ rfl ?_;refine .mk (Nat×ca) [1,7,8,9] (λ(i,_)=>[.v (R K),.v (ab A m cap),.v (R m),.v (R i)]) (λ_=>[]) (λ(i,r) aa=>aa=bn/\sa bn A m i r/\r.bj<=l.bj/\vd K l.bM=vd K r.bM) (λ(i,_)=>m-i) (0,l) (λ_=>rfl) ⟨rfl,j.cF,dz _,rfl⟩ rfl rfl ?_;refineλ⟨i,r⟩ e aa⟨rfl,d,u,he⟩=>aY (λae=>?_) (λae=>?_);cases r with
  |nil=>have:=d.fin;omega
  |cons t w B f c a r=>
   obtain⟨g,aT,s,ay,o,k⟩:=d.open;simp only[ca.bj]at u;have z:=o.1;have x:=a.Kq;refine .m g aT (.hp (kn t w B f c) rfl (by rw[bz];exact ay) ?_);have F:=aiv K N a I I B f c aa o;have go:(ca.bM (.cons t w B f c a r))= .cons t w a.bM r.bM:=rfl;rw[go,vd,x]at he;refine aY (λq=>?_) (λq=>?_);rw[gG (show a.len=0 by omega),zB]at he;refine aY (λp=>?_) (λp=>?_);refine .ah ⟨?_,rfl⟩;rw[he,gG I];rfl;rw[io (show¬K<=w by omega),ajZ]at he;refine .ah (.mk _ F ?_);rintro _ _ ⟨rfl,rfl⟩;cases b:vd K a.bM;refine .bg ?_;exact⟨(i+1,r),rfl,rfl,⟨rfl,k,I,by rw[he,b];rfl⟩,by show m- (i+1)<m-i;omega⟩;exact .ah ⟨by rw[he,b];rfl,rfl⟩;rw[io (show¬a.len=0 by omega),Bk,ajZ]at he;refine .ah (.mk _ F ?_);rintro _ _ ⟨rfl,rfl⟩;cases b:vd K a.bM;refine .bg ?_;exact⟨(i+1,r),rfl,rfl,⟨rfl,k,I,by rw[he,b];rfl⟩,by show m- (i+1)<m-i;omega⟩;exact .ah ⟨by rw[he,b];rfl,rfl⟩
  cases r with
  |nil=>
   refine .ah ?_;rw[he];exact⟨rfl,rfl⟩
  |cons=>obtain⟨g,aT,s,_⟩:=d.open;omega
theorem aqj(g:c8) h(ok:g.ok h) A k c T(a:List c9)(j:bf h 2 A k (a.map cN))(hk:a.length=k)(l:g.be.length=k)(he:k<=96)(al:0<=T)(hI:T<=1024)(r:∀i s(L:i<g.be.length),0<=a[i].1/\a[i].1+a[i].2<=T/\(g.be[i].n:Int)<=a[i].2):Fn aB 71 #[.agg g.cells.toArray,K0 A k c T] h λv aa=>v=c5 true/\aa=h:=by
 refine b6 ax0 rfl ?_;have b:=ok.be;rw[l]at b;have gc:g.cells=[.string g.dK,ab g.hA g.a8.length g.ac,ab g.gF k g.cD,ab g.dR g.ins.length g.cb,ab g.cj g.outs.length g.bO]:=by rw[c8.cells,l]
 rw[gc];clear gc;refine az λV B Z=>?_;refine B _ _ _ ?_;refine az λU z O=>?_;refine aY (λq=>absurd q I) (λ_=>?_);refine aY (λq=>absurd q I) (λ_=>?_);refine aY (λq=>absurd q I) (λ_=>?_);refine z _ _ _ ?_;refine az λX t Q=>?_;refine .mk Nat [2,3,25,26,27] (λi=>[.p 0 0,.p 1 0,.v (ab A k c),.v (R k),.v (R i)]) (λ_=>[.own [.v (.string g.dK),.v (ab g.hA g.a8.length g.ac),.v (ab g.gF k g.cD),.v (ab g.dR g.ins.length g.cb),.v (ab g.cj g.outs.length g.bO)] 26,.own [.v (ab A k c),.v (R T)] 37]) (λi aa=>aa=h/\i<=k) (λi=>k-i) 0 (λ_=>rfl) ⟨rfl,cW _⟩ rfl rfl ?_;rintro i e aa ⟨rfl,s⟩;refine az λY w P=>?_;refine w _ _ _ ?_;refine az λhs u F=>?_;refine aY (λq=>?_) (λq=>?_);have M:i<k:=I;obtain⟨f1,f2,f3⟩:=r i I I;have h1:(a.map cN)[i]?=some (cN a[i]):=by rw[dH,bZ];rfl
 have ae:(g.be.map GE.cells)[i]?=some (GE.cells g.be[i]):=by rw[dH,bZ];rfl
 generalize a[i]=x at f1 f2 f3 h1;generalize g.be[i]=y at f3 ae;obtain⟨C,d⟩:=j.cg I;obtain⟨o,f⟩:=b.cg I;have J:=j.row d h1;have K:=b.row f ae;refine u _ _ _ ?_;refine az λW D S=>?_;refine fb λiK N H=>?_;refine az λjl E jc=>?_;refine .m C d ?_;refine .hp (cN x) rfl (by rw[bz];exact J) ?_;refine E _ _ _ ?_;refine az λjV G h6=>?_;refine aY (λq=>absurd q I) (λ_=>?_);refine aY (λq=>absurd q I) (λ_=>?_);refine .m o f ?_;refine .hp (ab y.A y.n y.c) (by rw[bz];exact K 4 _ rfl) ?_;refine aY (λq=>absurd q I) (λ_=>?_);refine .bg ?_;refine G _ _ _ ?_;refine aY (λq=>absurd q I) (λ_=>?_);refine H _ _ _ _ nofun ?_;refine D _ _ _ ?_;refine .bg ?_;refine⟨i+1,rfl,rfl,⟨rfl,I⟩,by show k- (i+1)<k-i;omega⟩;refine F _ _ _ _ nofun ?_;refine t _ _ _ ?_;exact .ah ⟨rfl,rfl⟩
structure cr where
 k:Nat
 a:Int
 b:Int
 deriving DecidableEq
variable {ar:List (List cr)}{l ops:List cr}
def cr.cells(x:cr):List ax:=[bA .u8 x.k,R x.a,R x.b]
def hx(l:List cr):List ax:=(l.map cr.cells).flatten
theorem CN:∀l,(hx l).length=l.length*3
 |[]=>rfl
 |x::l=>by
  have:=CN l;simp only[hx,ec,oR,fc,iv]at this⊢;rw[this];simp[cr.cells];omega
theorem Hy l m:hx (l++m)=hx l++hx m:=by simp[hx]
theorem E6:∀l,∀u∈hx l,u.oneCell'=true:=λl u hu=>by
 obtain⟨r,a,hu⟩:=List.mem_flatten.1 hu;obtain⟨x,_,rfl⟩:=cU.1 a;simp only[cr.cells,ek,List.not_mem_nil,or_false]at hu;rcases hu with rfl|rfl|rfl<;>rfl
theorem bJ.split{bK size:Nat}{g:aI}{xs:List ax}(r:bJ h bK size (some g) n c xs):∃b ar,g=⟨b,0,none⟩/\h b=some (bb (xs++ar).toArray bK (0,0))/\ar.length=(c-n)*size/\n<=c/\c<=eD/\xs.length=n*size:=by
 obtain⟨d,⟨q,_⟩|⟨b,f,q,e,a,i,j,k⟩⟩:=r;cases q;injection q with q;refine⟨b,f.toList.drop (n*size),q,?_,?_,a,i,d⟩;rw[<-k,FU];exact e;rw[mF,Array.length_toList,j,Nat.sub_mul]
theorem QV{bK size bytes:Nat}{cap m:Nat}{S:List ax->Prop}{K:aK->List LE->J->Prop}{xs aG:List ax}(r:bJ h bK size A n cap xs)(l:S aG)(h1:∀u∈aG,u.oneCell'=true)(al:0<m)(d:aG.length=m*size)(hm:n+m<=eD)(k:(n+m)*bytes<=140737488355328)(w:∀b U,A=some ⟨b,0,none⟩->bJ (h.put b U) bK size A (n+m) cap (xs++aG)->K (.v (ab A (n+m) cap)) L (h.put b U))(p:∀a i,a≠none->n+m<=i->K (.v (ab a (n+m) i)) (L++[.row bK size a (n+m) i (xs++aG)]) h):De bK size bytes A n cap m S L h K:=by
 rcases A with _|g;obtain⟨C,⟨_,j,f⟩|⟨g,F,q,_⟩⟩:=r;subst j f;obtain rfl:xs=[]:=ak1.1 I;refine .fresh aG rfl rfl rfl l h1 I (by rwa[dM]at k) λa s aT=>?_;have:=p a s (λe=>by have:=aT.1.1 e;omega) I;rwa[dM,Im]at this;cases q;obtain⟨b,ar,rfl,x,B,j,f,c⟩:=r.split;refine .mem b 0 (xs++ar) (xs++(aG++ar.drop (m*size))) aG xs rfl x l h1 al c (λo u t=>?_) (λay=>?_) hm k (λay=>?_) (λay G s y=>p _ _ nofun y);rw[dM];obtain⟨z,rfl⟩:=pZ.1 t;rw[FN z,bZ];have hk:m*size<=(cap-n)*size:=ur _ I;have:=Vl (ar.take (m*size)) aG (ar.drop (m*size)) (by rw[d,List.length_take];omega) xs;rw[FU]at this;rw[dM,<-c];exact this;refine w b _ rfl ⟨?_,bl ⟨b,_,rfl,J.b1 _ _ _,ay,f,?_,?_⟩⟩;rw[fc,d,c,BD];have E:m*size+(cap-n-m)*size=(cap-n)*size:=by rw[<-BD];congr 1;omega
 have D:n*size+(cap-n)*size=cap*size:=by rw[<-BD];congr 1;omega
 simp only[alg,fc,mF,c,d,B];omega;have:(n+m)*size=(xs++aG).length:=by rw[fc,d,c,BD]
 rw[this,<-kC];exact BA
structure nM(al h:J)(aX:Nat)(A:Option aI)(c op cZ:Nat)(F:ax)(l:List cr):Prop where
 le:al.le h
 c7:al aX=none
 box:h aX=some (bb #[ab A l.length c,R op,R cZ,F] 215 (0,0))
 row:bJ h 66 3 A l.length c (hx l)
 kT:∀g,A=some g->g.block≠aX/\al g.block=none
theorem VI(w:nM al h aX A c op cZ F l)(ak:l.length<=1000000)(x:cr):Fn aB 74 #[h9 aX,bA .u8 x.k,R x.a,R x.b] h λ_ aa=>∃d f,nM al aa aX d f op cZ F (l++[x]):=by
 refine b6 ax1 rfl ?_;have i:(l++[x]).length=l.length+1:=bd;refine .hp _ (bV w.box rfl) ?_;refine .ah (QV w.row (aG:=hx [x]) rfl (E6 [x]) aM rfl (by simp[eD];omega) I (λb U aT s=>?_) (λd f aT ay=>?_));have m:=w.kT _ aT;refine .hp aX 0 215 [ab A l.length c,R op,R cZ,F] [ab A (l.length+1) c,R op,R cZ,F] rfl (by rw[J.cB _ _ (d' m.1)];exact w.box) rfl ?_;refine .ah ⟨A,c,ll w.c7 (ll m.2 w.le),w.c7,by rw[i];exact J.b1 _ _ _,?_,w.kT⟩;rw[i,Hy];exact bJ.jS s λg j=>(w.kT g j).1;refine .hp aX 0 215 [ab A l.length c,R op,R cZ,F] [ab d (l.length+1) f,R op,R cZ,F] rfl w.box rfl ?_;refine .b4 1 66 3 d (l.length+1) f _ rfl λh1 o r p=>.ah ⟨d,f,J.le_trans (ll w.c7 w.le) o,w.c7,?_,?_,λg j=>?_⟩;rw[i];exact o _ _ (J.b1 _ _ _);rw[i,Hy];exact r;have q:=p g j;have n:g.block≠aX:=λe=>by rw[e,J.b1]at q;cases q
 rw[J.cB _ _ n]at q;exact⟨n,J.none_le w.le q⟩
theorem nM.set(w:nM al h aX A c op cZ F l)(a b:Nat):nM al (h.put aX (bb [ab A l.length c,R a,R b,F].toArray 215 (0,0))) aX A c a b F l:=⟨ll w.c7 w.le,w.c7,J.b1 _ _ _,bJ.jS w.row λg d=>(w.kT g d).1,w.kT⟩
theorem aco(w:nM al h aX A c op cZ F l)(ak:l.length<=1000000)(u:op<=100000) t:Fn aB 131 #[h9 aX,R t] h λv aa=>v=R ((l.length+1:Nat):Int)/\∃n o,nM al aa aX n o (op+1) (max cZ (op+1)) F (l++[⟨1,op,t⟩]):=by
 refine b6 awx rfl (az λD s H=>s _ _ _ (az λC r y=>.hp _ (bV w.box rfl) (.ah (.mk _ (VI w ak ⟨1,op,t⟩) (λ_ h1⟨b,c1,i⟩=>?_)))));have a:(l++[(⟨1,op,t⟩:cr)]).length=l.length+1:=bd;have j:=i.box;rw[a]at j;refine r _ _ _ (az λE p B=>.hp _ (bV i.box rfl) (.bg (.hp aX 1 215 [ab b (l.length+1) c1,R op,R cZ,F] [ab b (l.length+1) c1,R ((op:Int)+1),R cZ,F] rfl j rfl ?_)));have e:=i.set (op+1) cZ;have g:R (((op+1:Nat):Int))=R ((op:Int)+1):=bd;rw[g,a]at e;generalize h1.put aX _=ae at e;refine p _ _ _ (az λG q z=>?_);have d:=e.box;rw[a,g]at d;refine .hp _ (bV d rfl) (.hp _ (bV d rfl) (.hp aX 2 215 [ab b (l.length+1) c1,R ((op:Int)+1),R cZ,F] [ab b (l.length+1) c1,R ((op:Int)+1),R (max (cZ:Int) ((op:Int)+1)),F] rfl d rfl ?_));have f:=e.set (op+1) (max cZ (op+1));have m:R (((max cZ (op+1):Nat):Int))=R (max (cZ:Int) ((op:Int)+1)):=ee R I;rw[g,m,a]at f;generalize ae.put aX _=x at f;refine q _ _ _ ?_;have k:=f.box;rw[a]at k;refine .hp _ (bV k rfl) (.ah ⟨rfl,b,c1,f⟩)
theorem Y0(w:nM al h aX A c (op+1) cZ F l)(ak:l.length<=1000000)(i:op<=100000)(t:Int):Fn aB 132 #[h9 aX,R t] h λ_ aa=>∃b d,nM al aa aX b d op cZ F (l++[⟨2,op,t⟩]):=by
 refine b6 awy rfl (az λj e k=>.hp _ (bV w.box rfl) (.bg (.hp aX 1 215 _ [ab A l.length c,R ((op+1:Nat)-1:Int),R cZ,F] rfl w.box rfl ?_)));have a:=w.set op cZ;rw[show R (op:Int)=R ((op+1:Nat)-1:Int)from ee R I]at a;generalize h.put aX _=ae at a;exact e _ _ _ (.hp _ (bV a.box rfl) (.ah (.mk _ (VI a ak ⟨2,op,t⟩) (λ_ h1⟨g,c1,f⟩=>.ah ⟨g,c1,f⟩))))
theorem yz(l:List Int):(l.map λz=>[R z]).flatten=l.map R:=by
 induction l with
 |nil=>rfl
 |cons a l b=>rw[ec,oR,b];rfl
def Dt(h:J)(n:Nat)(xs:List ax)(v:ax)(aa:J):Prop:=h.le aa/\∃A c,v=ab A n c/\bJ aa 3 1 A n c xs/\∀g,A=some g->h g.block=none
theorem agO A n c(l:List Int) h(t:bf h 1 A n (l.map λz=>[R z]))(i:n<=1000000000):Fn aB 75 #[ab A n c] h (Dt h n (l.map R)):=by
 have e:=yz l;refine b6 ax2 rfl (.ah (.fresh (l.map R) rfl rfl rfl (by rw[<-e];exact t.src _) (λu hu=>by obtain⟨x,_,rfl⟩:=cU.1 hu;rfl) (by simp[eD];omega) I λa b aT=>.b4 0 3 1 a n b _ rfl λh1 g f d=>.ah ⟨g,a,b,rfl,f,d⟩))
theorem aA8 A n c(l:List Int) h(t:bf h 1 A n (l.map λz=>[R z]))(i:n<=1000000000):Fn aB 37 #[ab A n c] h (Dt h n (l.map R)):=by
 have e:=yz l;refine b6 axB rfl (.ah (.fresh (l.map R) rfl rfl rfl (by rw[<-e];exact t.src _) (λu hu=>by obtain⟨x,_,rfl⟩:=cU.1 hu;rfl) (by simp[eD];omega) I λa b aT=>.b4 0 3 1 a n b _ rfl λh1 g f d=>.ah ⟨g,a,b,rfl,f,d⟩))
theorem Ri A n c(l:List Int) h(t:bf h 1 A n (l.map λz=>[R z]))(j:n<=1000000000):Fn aB 136 #[ab A n c] h (Dt h n (l.map R)):=by
 have e:=yz l;refine b6 awz rfl (.mk λb k=>.ah (.c3 1 [] (l.map R) rfl (by rw[<-e];exact t.src _) (λu hu=>by obtain⟨x,_,rfl⟩:=cU.1 hu;rfl) (by simp[eD];omega) I λd f aT=>.b4 1 3 1 d (0+n) f _ rfl λh1 i a g=>.ah ?_));rw[dM]at a⊢;exact⟨i,d,f,rfl,a,g⟩
theorem agy:∀l p hp o,o<3->(hx l)[p*3+o]?=l[p].cells[o]?
 |x::l,0,_,o,a=>by
  show(x.cells++hx l)[0*3+o]?=_;rw[FV,dM,FN (by show o<3;exact a)];rfl
 |x::l,p+1,hp,o,a=>by
  show(x.cells++hx l)[(p+1)*3+o]?=_;rw[show(p+1)*3+o=x.cells.length+(p*3+o) by show _=3+_;omega,FO I,Dq];exact agy l p (by simpa using hp) o a
theorem agz:∀l p hp(k:Nat) a,((hx l).set (p*3) (bA .u8 k)).set (p*3+1) (R a)=hx (l.set p ⟨k,a,l[p].b⟩)
 |x::l,0,_,k,a=>rfl
 |x::l,p+1,hp,k,a=>by
  show((x.cells++hx l).set ((p+1)*3) _).set ((p+1)*3+1) _=x.cells++hx (l.set p _);have d:p<l.length:=by simpa using hp
  have c:=agz l p d k a;rw[uq _ _ (by show 3<=_;omega),uq _ _ (by show 3<=_;omega)];show _=x.cells++hx (l.set p ⟨k,a,l[p].b⟩);rw[<-c];show x.cells++((hx l).set ((p+1)*3-3) _).set ((p+1)*3+1-3) _=_;rw[show(p+1)*3-3=p*3 by omega,show(p+1)*3+1-3=p*3+1 by omega]
theorem OM(b p k:Nat)(a:Int)(l:List cr)(h:J)(c:h b=some (bb (hx l).toArray 66 (0,0)))(hp:p<l.length):Fn aB 130 #[Value.pointer (some ⟨b,p*3,none⟩),bA .u8 k,R a] h λ_ aa=>aa=h.put b (bb (hx (l.set p ⟨k,a,l[p].b⟩)).toArray 66 (0,0)):=by
 refine b6 aww rfl ?_;have ak:=CN l;refine .hp b (p*3) 66 (hx l) ((hx l).set (p*3) (bA .u8 k)) (by rw[add_lit];rfl) c (ih _ _ _ I) (.hp b (p*3+1) 66 _ _ (by rw[add_lit]) (J.b1 _ _ _) (ih _ _ _ (by rw[h2];omega)) ?_);rw[J.sS,agz l p hp];exact .ah rfl
abbrev lq:=Nat×List cr
variable {aZ r:List lq}
def kU(l:List cr):Obj:=bb (hx l).toArray 66 (0,0)
def sX(q:lq):ax:=ab (some ⟨q.1,0,none⟩) q.2.length q.2.length
def eL(n:Nat)(r:List lq):List ax:=r.map sX++bh (n-r.length) (ab none 0 0)
structure jW(al h:J)(aZ ro:List lq):Prop where
 le:al.le h
 at_:∀q∈aZ++ro,h q.1=some (kU q.2)
 dS:((aZ++ro).map gQ).Nodup
 new:∀q∈aZ++ro,al q.1=none
section
variable {al h aa:J}{aZ ro:List lq}
theorem jW.swap(x:jW al h aZ ro):jW al h ro aZ:=⟨x.le,λq a=>x.at_ q (by simp only[ej]at a⊢;exact a.symm),(akJ ((List.perm_append_comm).map _)).1 x.dS,λq a=>x.new q (by simp only[ej]at a⊢;exact a.symm)⟩
theorem jW.mono(x:jW al h aZ ro)(le:h.le aa):jW al aa aZ ro:=⟨J.le_trans x.le le,λq a=>le _ _ (x.at_ q a),x.dS,x.new⟩
theorem jW.zero h:jW h h [] []:=⟨J.le_refl _,bd,bd,bd⟩
theorem jW.Jl(x:jW al h aZ ro) b:h aZ[a].1=some (kU aZ[a].2):=x.at_ _ (Bv _ (cG b))
theorem aDh{l:List lq} b U:(l.set a (l[a].1,U)).map gQ=l.map gQ:=by
 rw[lM];apply um bd;intro i h1 ae;rw[wQ];split;rename_i e;subst e;simp;rfl
theorem jW.HN(x:jW al h aZ ro) d U:jW al (h.put aZ[a].1 (kU U)) (aZ.set a (aZ[a].1,U)) ro:=by
 have hm:aZ[a]∈aZ++ro:=Bv _ (cG d);have g:=x.dS;rw[fF]at g;obtain⟨j,l,k⟩:=List.nodup_append.1 g;have inj:∀{i:Nat}(c:i<aZ.length),aZ[i].1=aZ[a].1->i=a:=λc e=>U3 j (by simpa using c) (by simpa using d) (by simpa using e);refine⟨AR x.le (x.new _ hm),λq b=>?_,?_,λq b=>?_⟩;rcases ej.1 b with b|b;obtain⟨i,c,rfl⟩:=oe b;have f:i<aZ.length:=by simpa using c
 rw[wQ];split;exact J.b1 _ _ _;rename_i e;rw[J.jS (λq=>e (inj f q).symm)];exact x.Jl f;rw[J.jS (λe=>k _ (cU.2 ⟨_,cG d,rfl⟩) _ (cU.2 ⟨q,b,rfl⟩) e.symm)];exact x.at_ q (LU _ b);rw[fF,aDh d,<-fF];exact x.dS;rcases ej.1 b with b|b;obtain⟨i,c,rfl⟩:=oe b;have f:i<aZ.length:=by simpa using c
 rw[wQ];split;exact x.new aZ[a] hm;exact x.new _ (Bv _ (cG f));exact x.new q (LU _ b)
end
theorem agD(h:r.length<=n):(eL n r).length=n:=by simp[eL];omega
theorem KL{i:Nat} a:(eL n r)[i]?=some (sX r[i]):=by
 rw[eL,FN (by simpa using a),dH,bZ a];rfl
theorem agE(h:r.length<n) q:(eL n r).set r.length (sX q)=eL n (r++[q]):=by
 unfold eL;rw[uq _ _ bd,gz,wU,fF,kC,fc];congr 1;obtain⟨d,a⟩:∃d,n-r.length=d+1:=⟨n-r.length-1,I⟩;rw[a,show n- (r.length+[q].length)=d by simp;omega];rfl
theorem aAS n:eL n []=bh n (ab none 0 0):=by simp[eL]
theorem OP b{U:List cr}(ak:U.length=r[a].2.length):eL n (r.set a (r[a].1,U))=eL n r:=by
 unfold eL;rw[h2];congr 1;apply um bd;intro i h1 ae;simp only[List.getElem_map,wQ];split;rename_i e;subst e;simp[sX,ak];rfl
def kI(dX:List Int)(k:Nat):List cr:=((dX.take k).map λr=>⟨0,0,r⟩)++bh (dX.length-k) ⟨0,0,0⟩
theorem VO{k:Nat}(h:k<=dX.length):(kI dX k).length=dX.length:=by simp[kI];omega
theorem ahf{k:Nat} h:(kI dX k).set k ⟨0,0,dX[k]⟩=kI dX (k+1):=by
 unfold kI;rw[uq _ _ (by simp;omega),kJ h,fF,kC];congr 1;obtain⟨d,a⟩:∃d,dX.length-k=d+1:=⟨dX.length-k-1,I⟩;rw[a,show dX.length- (k+1)=d by omega,show k- (List.map (λr=>(⟨0,0,r⟩:cr)) (List.take k dX)).length=0 by simp;omega];rfl
theorem ahd dX:kI dX dX.length=dX.map λr=>⟨0,0,r⟩:=by simp[kI]
theorem ahe{k:Nat}(h:k<dX.length):∃hk,(kI dX k)[k]=⟨0,0,0⟩:=by
 refine⟨by rw[VO I];exact h,?_⟩;simp only[kI];rw[List.getElem_append_right (by simp;omega)];simp
theorem Vh:∀l p hp z,(hx l).set (p*3+2) (R z)=hx (l.set p ⟨l[p].k,l[p].a,z⟩)
 |x::l,0,_,z=>rfl
 |x::l,p+1,hp,z=>by
  have c:p<l.length:=by simpa using hp
  have b:=Vh l p c z;show(x.cells++hx l).set ((p+1)*3+2) _=x.cells++hx (l.set p ⟨l[p].k,l[p].a,z⟩);rw[uq _ _ (by show 3<=_;omega),<-b];show x.cells++(hx l).set ((p+1)*3+2-3) _=_;rw[show(p+1)*3+2-3=p*3+2 by omega]
theorem ayr Q(e:cy) g0 g1 g2 g3 g4 a0 y a2 h n k c a C l c2 f b d j D dX t E u w(hk:k<n)(ow:j.length=n)(X:j[k]?=some (ab (some ⟨c,0,none⟩) dX.length dX.length))(N:h c=some (kU (kI dX 0)))(s:bf h 1 t a (dX.map λz=>[R z]))(O:∀g,t=some g->0<a->g.block≠c)(aA:a<=1000)(he:[1,3,4,5,8,31,32,33,59,60,61].map e=[.p 0 0,.v (ab (some b) n n),.v (ab (some d) n n),.v (R k),.v (ab u w c2),.v (ab E f C),.v (R f),.v (R k),.v (ab t a l),.v (R a),.v (R (0:Nat))])(S:∀e,[1,3,4,5,8,31,32,33].map e=[.p 0 0,.v (ab (some b) n n),.v (ab (some d) n n),.v (R k),.v (ab u w c2),.v (ab E f C),.v (R f),.v (R k)]->Q (.exit 2) e [.own [.v g0,.v g1,.v g2,.v g3,.v g4] 26,.row 40 1 (some b) n n j,.row 40 1 (some d) n n D,.own [.v a0,.v y,.v a2] 96,.gone,.gone] (h.put c (kU (dX.map λr=>⟨0,0,r⟩)))):kB (λQ e L h=>di aB 194 TV Q e L h) Q e [.own [.v g0,.v g1,.v g2,.v g3,.v g4] 26,.row 40 1 (some b) n n j,.row 40 1 (some d) n n D,.own [.v a0,.v y,.v a2] 96,.gone,.gone] h:=by
 have ak:dX.length=a:=by simpa using s.len
 refine .mk Nat [1,3,4,5,8,31,32,33,59,60,61] (λo=>[.p 0 0,.v (ab (some b) n n),.v (ab (some d) n n),.v (R k),.v (ab u w c2),.v (ab E f C),.v (R f),.v (R k),.v (ab t a l),.v (R a),.v (R o)]) (λ_=>[.own [.v g0,.v g1,.v g2,.v g3,.v g4] 26,.row 40 1 (some b) n n j,.row 40 1 (some d) n n D,.own [.v a0,.v y,.v a2] 96,.gone,.gone]) (λo aa=>aa=h.put c (kU (kI dX o))/\o<=a) (λo=>a-o) 0 (λ_=>rfl) ⟨(J.sT N).symm,cW _⟩ he rfl ?_;rintro o e aa ⟨rfl,ag⟩;refine az λgE W gm=>W _ _ _ (az λgA V Y=>aY (λq=>?_) (λq=>?_));have A:o<dX.length:=I;obtain⟨G,B⟩:=s.cg I;have l:=EI s B (i:=o) I;have H:dX.getD o 0=dX[o]:=by rw[cx,bZ A];rfl
 rw[H]at l;obtain⟨M,T⟩:=ahe A;have Ta:=VO (dX:=dX) (k:=o) I;have F:(h.put c (kU (kI dX o))).cell? (G.add (o*1))=some (R dX[o]):=(EI (s.HE O) B (i:=o) I).trans (by rw[H]);have st:=Vh (kI dX o) o M dX[o];rw[T,ahf A]at st;generalize dX[o]=x at F st;refine V _ _ _ ?_;refine az λgj P fD=>?_;refine fb λgk dZ Z=>?_;refine az λhs U hE=>?_;refine .m G B ?_;refine .hp _ (by rw[bz];exact F) ?_;refine U _ _ _ ?_;refine .m b rfl ?_;refine .row 1 40 1 b n n j _ _ rfl (by rw[bz]) (by rw[eV];exact X) ?_;refine .r ?_;refine .hp c (o*3+2) 66 _ _ (by rw[bz,add_lit,add_lit];simp) (J.b1 _ _ _) (ih _ _ _ (by rw[CN];omega)) ?_;rw[J.sS,st];refine Z _ _ _ _ nofun ?_;refine P _ _ _ ?_;refine .bg ?_;exact⟨o+1,rfl,rfl,⟨rfl,I⟩,by show a- (o+1)<a-o;omega⟩;refine Y _ _ _ _ nofun ?_;have K:o=dX.length:=I;rw[K,ahd];exact S _ rfl
theorem ays Q(e:cy) g0 g1 g2 g3 g4 a0 u a2 h n k c a A l f d b B j dX t C(hk:k<n)(ow:j.length=n)(V:j[k]?=some (ab (some ⟨c,0,none⟩) dX.length dX.length))(K:h c=some (kU (kI dX 0)))(s:bf h 1 t a (dX.map λz=>[R z]))(M:∀g,t=some g->0<a->g.block≠c)(Z:a<=1000)(he:[1,3,4,5,31,32,33,75,76,77].map e=[.p 0 0,.v (ab (some d) n n),.v (ab (some b) n n),.v (R k),.v (ab C f A),.v (R f),.v (R k),.v (ab t a l),.v (R a),.v (R (0:Nat))])(O:∀e,[1,3,4,31,32,33].map e=[.p 0 0,.v (ab (some d) n n),.v (ab (some b) n n),.v (ab C f A),.v (R f),.v (R k)]->Q (.exit 4) e [.own [.v g0,.v g1,.v g2,.v g3,.v g4] 26,.row 40 1 (some d) n n B,.row 40 1 (some b) n n j,.own [.v a0,.v u,.v a2] 96,.gone,.gone] (h.put c (kU (dX.map λr=>⟨0,0,r⟩)))):kB (λQ e L h=>di aB 194 TW Q e L h) Q e [.own [.v g0,.v g1,.v g2,.v g3,.v g4] 26,.row 40 1 (some d) n n B,.row 40 1 (some b) n n j,.own [.v a0,.v u,.v a2] 96,.gone,.gone] h:=by
 have ak:dX.length=a:=by simpa using s.len
 refine .mk Nat [1,3,4,5,31,32,33,75,76,77] (λo=>[.p 0 0,.v (ab (some d) n n),.v (ab (some b) n n),.v (R k),.v (ab C f A),.v (R f),.v (R k),.v (ab t a l),.v (R a),.v (R o)]) (λ_=>[.own [.v g0,.v g1,.v g2,.v g3,.v g4] 26,.row 40 1 (some d) n n B,.row 40 1 (some b) n n j,.own [.v a0,.v u,.v a2] 96,.gone,.gone]) (λo aa=>aa=h.put c (kU (kI dX o))/\o<=a) (λo=>a-o) 0 (λ_=>rfl) ⟨(J.sT K).symm,cW _⟩ he rfl ?_;rintro o e aa ⟨rfl,ag⟩;refine az λgE U gm=>U _ _ _ (az λgA T W=>aY (λq=>?_) (λq=>?_));have w:o<dX.length:=I;obtain⟨E,y⟩:=s.cg I;have l:=EI s y (i:=o) I;have F:dX.getD o 0=dX[o]:=by rw[cx,bZ w];rfl
 rw[F]at l;obtain⟨H,P⟩:=ahe w;have Y:=VO (dX:=dX) (k:=o) I;have D:(h.put c (kU (kI dX o))).cell? (E.add (o*1))=some (R dX[o]):=(EI (s.HE M) y (i:=o) I).trans (by rw[F]);have st:=Vh (kI dX o) o H dX[o];rw[P,ahf w]at st;generalize dX[o]=x at D st;refine T _ _ _ ?_;refine az λgj N fD=>?_;refine fb λgk dZ X=>?_;refine az λhs S hE=>?_;refine .m E y ?_;refine .hp _ (by rw[bz];exact D) ?_;refine S _ _ _ ?_;refine .m b rfl ?_;refine .row 2 40 1 b n n j _ _ rfl (by rw[bz]) (by rw[eV];exact V) ?_;refine .r ?_;refine .hp c (o*3+2) 66 _ _ (by rw[bz,add_lit,add_lit];simp) (J.b1 _ _ _) (ih _ _ _ (by rw[CN];omega)) ?_;rw[J.sS,st];refine X _ _ _ _ nofun ?_;refine N _ _ _ ?_;refine .bg ?_;exact⟨o+1,rfl,rfl,⟨rfl,I⟩,by show a- (o+1)<a-o;omega⟩;refine W _ _ _ _ nofun ?_;have G:o=dX.length:=I;rw[G,ahd];exact O _ rfl
def qU(a:iC):List cr:=(b3 a.tag a.a6).2.1.map λr=>⟨0,0,r⟩
def q3(a:iC):List cr:=(b3 a.tag a.a6).2.2.map λr=>⟨0,0,r⟩
theorem Hf m:(madeCells (#[bA .u8 0,R 0,R 0]:Array ax) (m*3)).toList=hx (bh m ⟨0,0,0⟩):=by
 apply List.ext_getElem?;intro o;unfold madeCells;rw[Array.getElem?_toList,Array.getElem?_map,Array.getElem?_range];by_cases a:o<m*3;rw[aP a];have b:=agy (bh m ⟨0,0,0⟩) (o/3) (by simp;omega) (o%3) (Nat.mod_lt _ aM);rw[show o/3*3+o%3=o by omega]at b;rw[b,List.getElem_replicate];have:o%3=0\/o%3=1\/o%3=2:=I;rcases this with e|e|e<;>simp[e,cr.cells];rw[aD a,l6 (by rw[CN];simp;omega)];rfl
theorem aCm Q(e:cy) g0 g1 g2 g3 g4 a0 q a2 X Y c n k c1 c2 s x i j a gc m o f d G w y(hk:k<n)(lk:m.length=n)(uX:o.length=n)(C:m[k]?=some (ab (some a) f.length f.length))(B:o[k]?=some (ab (some gc) d.length d.length))(t1:bf c 1 G f.length (f.map λz=>[R z]))(t2:bf c 1 w d.length (d.map λz=>[R z]))(s1:f.length<=16)(s2:d.length<=16)(he:[1,3,4,5,7,8,31,32,33].map e=[.p 0 0,.v (ab (some i) n n),.v (ab (some j) n n),.v (R k),.v (ab G f.length c1),.v (ab w d.length c2),.v (ab y s x),.v (R s),.v (R k)])
 (rJ:∀K,(∀h,c.le h->h a.block=some (kU (kI f 0))->h gc.block=some (kU (kI d 0))->c a.block=none->c gc.block=none->a.block≠gc.block->a=⟨a.block,0,none⟩->gc=⟨gc.block,0,none⟩->K [.own [.v g0,.v g1,.v g2,.v g3,.v g4] 26,.row 40 1 (some i) n n m,.row 40 1 (some j) n n o,.own [.v a0,.v q,.v a2] 96,.gone,.gone] h)->
  hc K [.own [.v g0,.v g1,.v g2,.v g3,.v g4] 26,.row 40 1 (some i) n n m,.row 40 1 (some j) n n o,.own [.v a0,.v q,.v a2] 96,X,Y] c)
 (S:∀e h,c.le h->h a.block=some (kU (f.map λr=>⟨0,0,r⟩))->h gc.block=some (kU (d.map λr=>⟨0,0,r⟩))->c a.block=none->c gc.block=none->a.block≠gc.block->a=⟨a.block,0,none⟩->gc=⟨gc.block,0,none⟩->[1,3,4,31,32,33].map e=[.p 0 0,.v (ab (some i) n n),.v (ab (some j) n n),.v (ab y s x),.v (R s),.v (R k)]->Q .normal e [.own [.v g0,.v g1,.v g2,.v g3,.v g4] 26,.row 40 1 (some i) n n m,.row 40 1 (some j) n n o,.own [.v a0,.v q,.v a2] 96,.gone,.gone] h):
 di aB 194 (.seq (.seq (.cd ad7) (.block 2 (.loop TV))) (.seq (.cd ad6) (.block 4 (.loop TW)))) Q e [.own [.v g0,.v g1,.v g2,.v g3,.v g4] 26,.row 40 1 (some i) n n m,.row 40 1 (some j) n n o,.own [.v a0,.v q,.v a2] 96,X,Y] c:=by
 rw[<-fK [1,3,4,5,7,8,31,32,33] e,he]
 refine az λgE W gm=>az λgA V ev=>V _ _ _ (fb λgj P fD=>.kY (rJ _ λh F Z hO u H E cO L=>?_))
 have b7:∀{A:Option aI}{l:List Int}{b:Nat},bf c 1 A l.length (l.map λz=>[R z])->c b=none->∀g,A=some g->0<l.length->g.block≠b:=λt N g O al e=>by
  subst O;exact t.mem I (by rw[e];exact N)
 refine ayr _ _ g0 g1 g2 g3 g4 a0 q a2 h n k a.block f.length x c1 c2 s i j m o f G y w d.length hk lk (C.trans (by rw[<-cO])) Z (t1.mono F) (b7 t1 u) I rfl λM gR=>P _ _ _ (W _ _ _ ?_)
 rw[<-fK [1,3,4,5,8,31,32,33] M,gR]
 refine az λgk U ez=>U _ _ _ (fb λhs T hE=>?_)
 have D:(h.put a.block (kU (f.map λr=>⟨0,0,r⟩))) gc.block=some (kU (kI d 0)):=by rw[J.cB _ _ E.symm];exact hO
 refine .kY (.ah (ays _ _ g0 g1 g2 g3 g4 a0 q a2 _ n k gc.block d.length x c2 s i j m o d w y hk uX (B.trans (by rw[<-L])) D ((t2.mono F).HE (b7 t2 u)) (b7 t2 H) I rfl λcV rE=>T _ _ _ (S _ _ (AR (AR F u) H) ?_ (J.b1 _ _ _) u H E cO L rE)))
 rw[J.cB _ _ E];exact J.b1 _ _ _
theorem HK{m:Nat}{a:aI}(r:bJ h 66 3 (some a) m c (hx l))(e:c=m):a=⟨a.block,0,none⟩/\h a.block=some (kU l):=by
 obtain⟨b,ar,rfl,d,f,_⟩:=r.split;subst e;rw[wU,FV]at f;rw[ak1.1 f,s7]at d;exact⟨rfl,d⟩
theorem HH dX:kI dX 0=bh dX.length ⟨0,0,0⟩:=by simp[kI]
theorem jW.YD{ro:List lq}(x:jW al h aZ ro)(ne:∀q∈aZ++ro,q.1≠b)(c:al b=none)(d:h b=some (kU l)):jW al h (aZ++[(b,l)]) ro:=by
 have mem:∀q,q∈(aZ++[(b,l)])++ro->q=(b,l)\/q∈aZ++ro:=λq a=>by
  simp only[ej,hV]at a⊢;rcases a with(h|h)|h<;>simp[h]
 refine⟨x.le,λq a=>?_,?_,λq a=>?_⟩;rcases mem q a with rfl|a;exact d;exact x.at_ q a;have p:((b,l)::(aZ++ro)).Perm ((aZ++[(b,l)])++ro):=by
  rw[kC];exact(List.perm_middle).symm
 refine(akJ (p.map _)).1 ?_;rw[ec,List.nodup_cons];exact⟨λhm=>by obtain⟨q,a,e⟩:=cU.1 hm;exact ne q a e,x.dS⟩;rcases mem q a with rfl|a;exact c;exact x.new q a
theorem jW.ane{aa:J}{ro:List lq}(x:jW al h aZ ro)(le:h.le aa){m:List cr}(a:h b=none)(ay:h c=none)(f:b≠c)(i:aa b=some (kU l))(g:aa c=some (kU m)):jW al aa (aZ++[(b,l)]) (ro++[(c,m)]):=by
 have ne:∀{b},h b=none->∀q∈aZ++ro,q.1≠b:=λa q d e=>by have:=x.at_ q d;rw[e,a]at this;cases this
 have y:=((x.mono le).YD (ne a) (J.none_le x.le a) i).swap;refine(y.YD (λq d=>?_) (J.none_le x.le ay) g).swap;have:q∈aZ++ro\/q=(b,l):=by
  simp only[ej,hV]at d⊢;rcases d with h|h|h<;>simp[h]
 rcases this with h|rfl;exact ne ay q h;exact f
theorem aCB Q(e:cy)(g:c8) al h n j i(ok:g.ok al)(aA:g.a8.length=n)(sC:n<=1000)(le:al.le h) g0 g2 g3 g4(he:[1,3,4,31,32,33].map e=[.p 0 0,.v (ab (some j) n n),.v (ab (some i) n n),.v (ab g.hA n g.ac),.v (R n),.v (R (0:Nat))])(cM:∀e aa aZ ro,[1,3,4].map e=[.p 0 0,.v (ab (some j) n n),.v (ab (some i) n n)]->jW al aa aZ ro->aZ.map er=g.a8.map qU->ro.map er=g.a8.map q3->Q (.exit 0) e [.own [.v g0,.v (ab g.hA n g.ac),.v g2,.v g3,.v g4] 26,.row 40 1 (some j) n n (eL n aZ),.row 40 1 (some i) n n (eL n ro)] aa):vo (λQ e L h=>di aB 194 avU Q e L h) Q e [.own [.v g0,.v (ab g.hA n g.ac),.v g2,.v g3,.v g4] 26,.row 40 1 (some j) n n (eL n []),.row 40 1 (some i) n n (eL n [])] h:=by
 have ei:jW al h [] []:=(jW.zero al).mono le;refine .mk (Nat×List lq×List lq) [1,3,4,31,32,33] (λ(k,_,_)=>[.p 0 0,.v (ab (some j) n n),.v (ab (some i) n n),.v (ab g.hA n g.ac),.v (R n),.v (R k)]) (λ(_,aZ,ro)=>[.own [.v g0,.v (ab g.hA n g.ac),.v g2,.v g3,.v g4] 26,.row 40 1 (some j) n n (eL n aZ),.row 40 1 (some i) n n (eL n ro)]) (λ(k,aZ,ro) aa=>jW al aa aZ ro/\k<=n/\aZ.map er=(g.a8.take k).map qU/\ro.map er=(g.a8.take k).map q3) (λ(k,_,_)=>n-k) (0,[],[]) (λ_=>rfl) ⟨ei,cW _,rfl,rfl⟩ he rfl ?_;refineλ⟨k,aZ,ro⟩ e aa⟨x,hk,G,H⟩=>az λgE de gm=>de _ _ _ (az λgA db ev=>aY (λq=>?_) (λq=>?_));have S:k<g.a8.length:=I;obtain⟨eX,aT⟩:=ok.a8.cg I;have aC:(g.a8.map iC.cells)[k]?=some (iC.cells g.a8[k]):=by rw[dH,bZ S];rfl
 have nk:=(ok.a8.mono x.le).row aT aC;have V:=ok.act _ (cG S);have U:g.a8.take (k+1)=g.a8.take k++[g.a8[k]]:=kJ S;have lk:aZ.length=k:=by have:=ee fi G;simp at this;omega
 have uX:ro.length=k:=by have:=ee fi H;simp at this;omega
 generalize g.a8[k]=a at nk V U;refine db _ _ _ (az λgj c6 fD=>fb λgk dZ ez=>az λhs dG hE=>.m eX aT (.hp a.cells rfl (by rw[bz];exact nk) (dG _ _ _ (az λgZ ea g6=>.ah (.mk _ (Hq _ _ _ _ a.a6 _ (V.dV.mono x.le) V.n8) ?_)))));rintro _ y ⟨_,_,rfl,ds,⟨iS,c1,rfl,eM,f1⟩,⟨dL,c2,rfl,dW,f2⟩⟩;have iB:=x.mono ds;have NC:=A8 a.tag a.a6;obtain⟨d,W⟩:∃t,t=(b3 a.tag a.a6).2.1:=⟨_,rfl⟩;obtain⟨b,Z⟩:∃t,t=(b3 a.tag a.a6).2.2:=⟨_,rfl⟩;have N:qU a=d.map λr=>⟨0,0,r⟩:=by rw[qU,W]
 have M:q3 a=b.map λr=>⟨0,0,r⟩:=by rw[q3,Z]
 obtain⟨tA,ml⟩:=NC;rw[<-W]at eM tA;rw[<-Z]at dW ml;rw[<-W,<-Z];generalize(b3 a.tag a.a6).1=xi;have O:(eL n aZ).length=n:=agD I;have P:(eL n ro).length=n:=agD I;refine ea _ _ _ ?_;have fin:∀(e:cy)(X Y:LE)(f gc:aI),[1,3,4,5,7,8,31,32,33].map e=[.p 0 0,.v (ab (some j) n n),.v (ab (some i) n n),.v (R k),.v (ab iS d.length c1),.v (ab dL b.length c2),.v (ab g.hA n g.ac),.v (R n),.v (R k)]->
  (∀K:List LE->J->Prop,(∀h,y.le h->h f.block=some (kU (kI d 0))->h gc.block=some (kU (kI b 0))->y f.block=none->y gc.block=none->f.block≠gc.block->f=⟨f.block,0,none⟩->gc=⟨gc.block,0,none⟩->K [.own [.v g0,.v (ab g.hA n g.ac),.v g2,.v g3,.v g4] 26,.row 40 1 (some j) n n ((eL n aZ).set k (ab (some f) d.length d.length)),.row 40 1 (some i) n n ((eL n ro).set k (ab (some gc) b.length b.length)),.own [.v (.string a.dK),.v (bA .u8 a.tag),.v (ab a.A a.n a.c)] 96,.gone,.gone] h)->
   hc K [.own [.v g0,.v (ab g.hA n g.ac),.v g2,.v g3,.v g4] 26,.row 40 1 (some j) n n ((eL n aZ).set k (ab (some f) d.length d.length)),.row 40 1 (some i) n n ((eL n ro).set k (ab (some gc) b.length b.length)),.own [.v (.string a.dK),.v (bA .u8 a.tag),.v (ab a.A a.n a.c)] 96,X,Y] y)->
  di aB 194 (.seq (.seq (.cd ad7) (.block 2 (.loop TV))) (.seq (.cd ad6) (.block 4 (.loop TW)))) gk e [.own [.v g0,.v (ab g.hA n g.ac),.v g2,.v g3,.v g4] 26,.row 40 1 (some j) n n ((eL n aZ).set k (ab (some f) d.length d.length)),.row 40 1 (some i) n n ((eL n ro).set k (ab (some gc) b.length b.length)),.own [.v (.string a.dK),.v (bA .u8 a.tag),.v (ab a.A a.n a.c)] 96,X,Y] y:=by
  refineλe X Y f gc he rJ=>aCm gk e g0 _ g2 g3 g4 _ _ _ X Y y n k c1 c2 n g.ac j i f gc _ _ d b iS dL g.hA I (by rw[h2,O]) (by rw[h2,P]) (by rw[Ig I]) (by rw[Ig I]) eM.kd dW.kd tA ml he rJ ?_
  refineλe h cJ en hO Hh pO b' cO cD gR=>ez _ _ _ _ nofun (c6 _ _ _ ?_)
  rw[<-fK [1,3,4,31,32,33] e,gR]
  refine .bg (⟨(k+1,aZ++[(f.block,d.map λr=>⟨0,0,r⟩)],ro++[(gc.block,b.map λr=>⟨0,0,r⟩)]),rfl,?_,⟨iB.ane cJ Hh pO b' en hO,I,?_,?_⟩,by show n- (k+1)<n-k;omega⟩)
  have s1:=agE (n:=n) (r:=aZ) I (f.block,d.map λr=>(⟨0,0,r⟩:cr))
  have s2:=agE (n:=n) (r:=ro) I (gc.block,b.map λr=>(⟨0,0,r⟩:cr))
  rw[sX,<-cO,lk,gz]at s1
  rw[sX,<-cD,uX,gz]at s2
  show[_,LE.row 40 1 (some j) n n _,LE.row 40 1 (some i) n n _]=[_,LE.row 40 1 (some j) n n _,LE.row 40 1 (some i) n n _]
  rw[s1,s2]
  rw[U,fF,fF,G,Ij,Ij,N]
  rw[U,fF,fF,H,Ij,Ij,M]
 refine az λiK T hg=>⟨?_,?_⟩;refine .mk d.length rfl rfl I I λf=>.m j rfl (⟨?_,?_⟩);refine .mk b.length rfl rfl I I λgc=>.row 1 40 1 j n n (eL n aZ) ((eL n aZ).set k (ab (some f) d.length d.length)) k rfl (by rw[bz,eV]) (ih _ _ _ I) (.m i rfl (.row 2 40 1 i n n (eL n ro) ((eL n ro).set k (ab (some gc) b.length b.length)) k rfl (by rw[bz,eV]) (ih _ _ _ I) (T _ _ _ (fin _ _ _ f gc rfl λK F=>.b4 4 66 3 (some f) d.length d.length _ rfl λB u l f4=>.b4 5 66 3 (some gc) b.length b.length _ rfl λD w o f5=>.ah ?_))));have l:bJ B 66 3 (some f) d.length d.length (hx (kI d 0)):=by rw[HH,<-Hf];exact l
 have o:bJ D 66 3 (some gc) b.length b.length (hx (kI b 0)):=by rw[HH,<-Hf];exact o
 obtain⟨z,s⟩:=HK l rfl;obtain⟨C,E⟩:=HK o rfl;have ne:f.block≠gc.block:=λe=>by have:=f5 gc rfl;rw[<-e,s]at this;cases this
 exact F _ (J.le_trans u w) (w _ _ s) E (f4 f rfl) (J.none_le u (f5 gc rfl)) ne z C;refine .row 1 40 1 j n n (eL n aZ) ((eL n aZ).set k (ab (some f) d.length d.length)) k rfl (by rw[bz,eV]) (ih _ _ _ I) (.mk b.length rfl rfl I I λgc=>.m i rfl (.row 2 40 1 i n n (eL n ro) ((eL n ro).set k (ab (some gc) b.length b.length)) k rfl (by rw[bz,eV]) (ih _ _ _ I) (T _ _ _ (fin _ _ _ f gc rfl λK F=>.b4 4 66 3 (some f) d.length d.length _ rfl λB u l f4=>.b4 5 66 3 (some gc) b.length b.length _ rfl λD w o f5=>.ah ?_))));have l:bJ B 66 3 (some f) d.length d.length (hx (kI d 0)):=by rw[HH,<-Hf];exact l
 have o:bJ D 66 3 (some gc) b.length b.length (hx (kI b 0)):=by rw[HH,<-Hf];exact o
 obtain⟨z,s⟩:=HK l rfl;obtain⟨C,E⟩:=HK o rfl;have ne:f.block≠gc.block:=λe=>by have:=f5 gc rfl;rw[<-e,s]at this;cases this
 exact F _ (J.le_trans u w) (w _ _ s) E (f4 f rfl) (J.none_le u (f5 gc rfl)) ne z C;refine .mk b.length rfl rfl I I λgc=>.mk d.length rfl rfl I I λf=>.m j rfl (.row 1 40 1 j n n (eL n aZ) ((eL n aZ).set k (ab (some f) d.length d.length)) k rfl (by rw[bz,eV]) (ih _ _ _ I) (.m i rfl (.row 2 40 1 i n n (eL n ro) ((eL n ro).set k (ab (some gc) b.length b.length)) k rfl (by rw[bz,eV]) (ih _ _ _ I) (T _ _ _ (fin _ _ _ f gc rfl λK F=>.b4 5 66 3 (some f) d.length d.length _ rfl λB u l f4=>.b4 4 66 3 (some gc) b.length b.length _ rfl λD w o f5=>.ah ?_)))));have l:bJ B 66 3 (some f) d.length d.length (hx (kI d 0)):=by rw[HH,<-Hf];exact l
 have o:bJ D 66 3 (some gc) b.length b.length (hx (kI b 0)):=by rw[HH,<-Hf];exact o
 obtain⟨z,s⟩:=HK l rfl;obtain⟨C,E⟩:=HK o rfl;have ne:f.block≠gc.block:=λe=>by have:=f5 gc rfl;rw[<-e,s]at this;cases this
 exact F _ (J.le_trans u w) (w _ _ s) E (f4 f rfl) (J.none_le u (f5 gc rfl)) ne z C;refine ev _ _ _ _ nofun ?_;have pF:k=g.a8.length:=I;rw[pF,r5]at G H;exact cM _ _ aZ ro rfl x G H
def mark(rs:List (List cr))(a p k:Nat)(i:Int):List (List cr):=rs.set a ((rs.getD a []).set p ⟨k,i,((rs.getD a []).getD p ⟨0,0,0⟩).b⟩)
theorem CG rs a p k i:(mark rs a p k i).map fi=rs.map fi:=by
 rw[mark,lM,h2];by_cases h:a<rs.length;apply um bd;intro o h1 ae;rw[wQ];split;rename_i e;subst e;simp[cx,bZ h];rfl;rw[List.set_eq_of_length_le (by simpa using h)]
def p6:List GE->Nat->List (List cr)×List (List cr)->List (List cr)×List (List cr)
 |[],_,q=>q
 |x::l,i,q=>p6 l (i+1) (mark q.1 x.dst.toNat x.iM.toNat 3 i,mark q.2 x.src.toNat x.sp.toNat 6 i)
def pQ(k:Nat):List l5->Nat->List (List cr)->List (List cr)
 |[],_,q=>q
 |x::l,i,q=>pQ k l (i+1) (mark q x.act.toNat x.port.toNat k i)
structure F0(n:Nat)(r:List lq)(ar:List (List cr))(a p:Int):Prop where
 aV:0<=a/\a<n
 hp:0<=p/\p<((ar.map fi).getD a.toNat 0:Nat)
theorem F0.get{a p:Int}(x:F0 n r ar a p)(b:r.map er=ar)(ak:r.length=n):∃h,p.toNat<r[a.toNat].2.length/\ar.getD a.toNat []=r[a.toNat].2:=by
 have h:a.toNat<r.length:=by have:=x.aV;omega
 subst b;have:=x.hp;refine⟨h,?_,?_⟩;simp only[cx,dH,bZ h,Option.map_some,ps]at this;omega;simp[cx,bZ h]
theorem Ol{p k:Nat}{i:Int}(d:r.map er=ar) c(hp:p<r[a].2.length):(r.set a (r[a].1,r[a].2.set p ⟨k,i,r[a].2[p].b⟩)).map er=mark ar a p k i:=by
 subst d;rw[mark,lM];simp[cx,bZ c,bZ hp]
theorem ao2 Q(e:cy)(g:c8) al h n m d f(ok:g.ok al)(hm:g.be.length=m)(o2:m<=96) g0 g1 g3 g4 aZ ro o j(x:jW al h aZ ro)(s:aZ.map er=o)(u:ro.map er=j)(t:aZ.length=n)(w:ro.length=n)(G:∀x∈g.be,(0<=x.src/\x.src<n/\0<=x.sp/\x.sp<((j.map fi).getD x.src.toNat 0:Nat))/\(0<=x.dst/\x.dst<n/\0<=x.iM/\x.iM<((o.map fi).getD x.dst.toNat 0:Nat)))(he:[1,3,4,14,93,94,95].map e=[.p 0 0,.v (ab (some d) n n),.v (ab (some f) n n),.v (.func (.func 130) #[] #[]),.v (ab g.gF m g.cD),.v (R m),.v (R (0:Nat))])
 (S:∀e aa a c,[1,3,4,14].map e=[.p 0 0,.v (ab (some d) n n),.v (ab (some f) n n),.v (.func (.func 130) #[] #[])]->jW al aa a c->a.map er=(p6 g.be 0 (o,j)).1->c.map er=(p6 g.be 0 (o,j)).2->eL n a=eL n aZ->eL n c=eL n ro->a.length=n->c.length=n->
  Q (.exit 6) e [.own [.v g0,.v g1,.v (ab g.gF m g.cD),.v g3,.v g4] 26,.row 40 1 (some d) n n (eL n aZ),.row 40 1 (some f) n n (eL n ro)] aa):
 vo (λQ e L h=>di aB 194 avV Q e L h) Q e [.own [.v g0,.v g1,.v (ab g.gF m g.cD),.v g3,.v g4] 26,.row 40 1 (some d) n n (eL n aZ),.row 40 1 (some f) n n (eL n ro)] h:=by
 obtain⟨F,bn⟩:∃F,F=p6 g.be 0 (o,j):=⟨_,rfl⟩
 rw[<-bn]at S
 have J:∀x∈g.be,(0<=x.src/\x.src<n/\0<=x.sp/\x.sp<((j.map fi).getD x.src.toNat 0:Nat))/\(0<=x.dst/\x.dst<n/\0<=x.iM/\x.iM<((o.map fi).getD x.dst.toNat 0:Nat)):=G
 obtain⟨If,N⟩:∃l,l=o.map fi:=⟨_,rfl⟩
 obtain⟨H,E⟩:∃l,l=j.map fi:=⟨_,rfl⟩
 rw[<-N,<-E]at G
 clear J
 refine .mk (Nat×List lq×List lq) [1,3,4,14,93,94,95] (λ(k,_,_)=>[.p 0 0,.v (ab (some d) n n),.v (ab (some f) n n),.v (.func (.func 130) #[] #[]),.v (ab g.gF m g.cD),.v (R m),.v (R k)]) (λ_=>[.own [.v g0,.v g1,.v (ab g.gF m g.cD),.v g3,.v g4] 26,.row 40 1 (some d) n n (eL n aZ),.row 40 1 (some f) n n (eL n ro)]) (λ(k,a,c) aa=>jW al aa a c/\k<=m/\p6 (g.be.drop k) k (a.map er,c.map er)=F/\eL n a=eL n aZ/\eL n c=eL n ro/\a.length=n/\c.length=n/\(a.map er).map fi=If/\(c.map er).map fi=H) (λ(k,_,_)=>m-k) (0,aZ,ro) (λ_=>rfl) ⟨x,cW _,by rw[s,u,bn];rfl,rfl,rfl,t,w,by rw[s,N],by rw[u,E]⟩ he rfl ?_
 clear x s u t w N E he bn
 refineλ⟨k,a,c⟩ e aa⟨x,hk,bn,M,D,t,w,s,u⟩=>az λgE de gm=>de _ _ _ (az λgA db ev=>aY (λq=>?_) (λq=>?_))
 .have K:k<g.be.length:=I;obtain⟨DX,P⟩:=ok.be.cg I;have aC:(g.be.map GE.cells)[k]?=some (GE.cells g.be[k]):=by rw[dH,bZ K];rfl
  have ys:=(ok.be.mono x.le).row P aC;have O:g.be.drop k=g.be[k]::g.be.drop (k+1):=mE K;obtain⟨⟨s1,s2,X,nD⟩,t1,t2,t3,t4⟩:=G _ (cG K);generalize g.be[k]=y at ys O s1 s2 X nD t1 t2 t3 t4;rw[O,p6]at bn;obtain⟨A,a2,a3⟩:=F0.get (r:=c) (ar:=c.map er) ⟨⟨s1,s2⟩,X,by rw[u];exact nD⟩ rfl w;obtain⟨z,T,hd⟩:=F0.get (r:=a) (ar:=a.map er) ⟨⟨t1,t2⟩,t3,by rw[s];exact t4⟩ rfl t;refine db _ _ _ (az λgj c6 fD=>fb λgk dZ ez=>az λhs dG hE=>.m DX P (.hp y.cells rfl (by rw[bz];exact ys) (dG _ _ _ (az λgZ ea g6=>.m f rfl (.row 2 40 1 f n n _ _ (sX c[y.src.toNat]) rfl (by rw[eV]) (by rw[<-D];exact KL A) (.r ?_))))));conv=>whnf
  rw[add_lit,dM];refine .ah (.mk _ (OM _ _ 6 (k:Int) _ _ (x.swap.Jl A) a2) ?_);rintro _ _ rfl;have B:=(x.swap.HN A (c[y.src.toNat].2.set y.sp.toNat ⟨6,(k:Int),c[y.src.toNat].2[y.sp.toNat].b⟩)).swap;have m2:=Ol (k:=6) (i:=(k:Int)) (ar:=c.map er) rfl A a2;have V:=OP (n:=n) A (U:=c[y.src.toNat].2.set y.sp.toNat ⟨6,(k:Int),c[y.src.toNat].2[y.sp.toNat].b⟩) bd;rw[kU]at B;generalize W:c.set y.src.toNat (c[y.src.toNat].1,c[y.src.toNat].2.set y.sp.toNat ⟨6,(k:Int),c[y.src.toNat].2[y.sp.toNat].b⟩)=sU at B m2 V;have Uc:sU.length=n:=by rw[<-W,h2];exact w
  clear W;generalize aa.put _ _=ae at B;refine ea _ _ _ ?_;refine .m d rfl ?_;refine .row 1 40 1 d n n _ _ (sX a[y.dst.toNat]) rfl (by rw[eV]) (by rw[<-M];exact KL z) ?_;refine .r ?_;conv=>whnf
  rw[add_lit,dM];refine .ah (.mk _ (OM _ _ 3 (k:Int) _ _ (B.Jl z) T) ?_);rintro _ _ rfl;have C:=B.HN z (a[y.dst.toNat].2.set y.iM.toNat ⟨3,(k:Int),a[y.dst.toNat].2[y.iM.toNat].b⟩);have m3:=Ol (k:=3) (i:=(k:Int)) (ar:=a.map er) rfl z T;have Y:=OP (n:=n) z (U:=a[y.dst.toNat].2.set y.iM.toNat ⟨3,(k:Int),a[y.dst.toNat].2[y.iM.toNat].b⟩) bd;rw[kU]at C;generalize Z:a.set y.dst.toNat (a[y.dst.toNat].1,a[y.dst.toNat].2.set y.iM.toNat ⟨3,(k:Int),a[y.dst.toNat].2[y.iM.toNat].b⟩)=t6 at C m3 Y;have EO:t6.length=n:=by rw[<-Z,h2];exact t
  clear Z;generalize ae.put _ _=au at C;refine ez _ _ _ _ nofun (c6 _ _ _ ?_);refine .bg ?_;refine⟨(k+1,t6,sU),rfl,rfl,⟨C,I,by rw[m2,m3];exact bn,Y.trans M,V.trans D,EO,Uc,by rw[m3,CG];exact s,by rw[m2,CG];exact u⟩,by show m- (k+1)<m-k;omega⟩
 refine ev _ _ _ _ nofun ?_
 have pF:k=g.be.length:=I
 rw[pF,Ql,p6]at bn
 exact S _ _ a c rfl x (by rw[<-bn]) (by rw[<-bn]) M D t w
theorem aBw Q(e:cy)(g:c8) al h n m c d(ok:g.ok al)(hm:g.ins.length=m)(o2:m<=96) g0 g1 g2 g4 aZ ro s(x:jW al h aZ ro)(f:aZ.map er=s)(j:aZ.length=n)(B:∀x∈g.ins,0<=x.act/\x.act<n/\0<=x.port/\x.port<((s.map fi).getD x.act.toNat 0:Nat))(he:[1,3,4,14,124,125,126].map e=[.p 0 0,.v (ab (some c) n n),.v (ab (some d) n n),.v (.func (.func 130) #[] #[]),.v (ab g.dR m g.cb),.v (R m),.v (R (0:Nat))])
 (D:∀e aa a,[1,3,4,14].map e=[.p 0 0,.v (ab (some c) n n),.v (ab (some d) n n),.v (.func (.func 130) #[] #[])]->jW al aa a ro->a.map er=pQ 4 g.ins 0 s->eL n a=eL n aZ->a.length=n->
  Q (.exit 8) e [.own [.v g0,.v g1,.v g2,.v (ab g.dR m g.cb),.v g4] 26,.row 40 1 (some c) n n (eL n aZ),.row 40 1 (some d) n n (eL n ro)] aa):
 vo (λQ e L h=>di aB 194 avW Q e L h) Q e [.own [.v g0,.v g1,.v g2,.v (ab g.dR m g.cb),.v g4] 26,.row 40 1 (some c) n n (eL n aZ),.row 40 1 (some d) n n (eL n ro)] h:=by
 obtain⟨F,bn⟩:∃F,F=pQ 4 g.ins 0 s:=⟨_,rfl⟩
 rw[<-bn]at D
 obtain⟨O,z⟩:∃l,l=s.map fi:=⟨_,rfl⟩
 rw[<-z]at B
 refine .mk (Nat×List lq) [1,3,4,14,124,125,126] (λ(k,_)=>[.p 0 0,.v (ab (some c) n n),.v (ab (some d) n n),.v (.func (.func 130) #[] #[]),.v (ab g.dR m g.cb),.v (R m),.v (R k)]) (λ_=>[.own [.v g0,.v g1,.v g2,.v (ab g.dR m g.cb),.v g4] 26,.row 40 1 (some c) n n (eL n aZ),.row 40 1 (some d) n n (eL n ro)]) (λ(k,a) aa=>jW al aa a ro/\k<=m/\pQ 4 (g.ins.drop k) k (a.map er)=F/\eL n a=eL n aZ/\a.length=n/\(a.map er).map fi=O) (λ(k,_)=>m-k) (0,aZ) (λ_=>rfl) ⟨x,cW _,by rw[f,bn];rfl,rfl,j,by rw[f,z]⟩ he rfl ?_
 clear x f j z he bn
 refineλ⟨k,a⟩ e aa⟨x,hk,bn,w,j,f⟩=>az λgE W gm=>W _ _ _ (az λgA V X=>aY (λq=>?_) (λq=>?_))
 have u:k<g.ins.length:=I
 obtain⟨M,C⟩:=ok.ins.cg I
 have P:(g.ins.map l5.cells)[k]?=some (l5.cells g.ins[k]):=by rw[dH,bZ u];rfl
 have K:=(ok.ins.mono x.le).row C P
 have A:g.ins.drop k=g.ins[k]::g.ins.drop (k+1):=mE u
 obtain⟨t1,t2,t3,t4⟩:=B _ (cG u)
 generalize g.ins[k]=y at K A t1 t2 t3 t4
 rw[A,pQ]at bn
 obtain⟨o,E,hd⟩:=F0.get (r:=a) (ar:=a.map er) ⟨⟨t1,t2⟩,t3,by rw[f];exact t4⟩ rfl j
 refine V _ _ _ (az λgj S fD=>fb λgk dZ Y=>az λhs T hE=>.m M C (.hp y.cells rfl (by rw[bz];exact K) (T _ _ _ (.m c rfl (.row 1 40 1 c n n _ _ (sX a[y.act.toNat]) rfl (by rw[eV]) (by rw[<-w];exact KL o) (.r ?_))))))
 conv=>whnf
 rw[add_lit,dM]
 refine .ah (.mk _ (OM _ _ 4 (k:Int) _ _ (x.Jl o) E) ?_)
 rintro _ _ rfl
 have t:=x.HN o (a[y.act.toNat].2.set y.port.toNat ⟨4,(k:Int),a[y.act.toNat].2[y.port.toNat].b⟩)
 have m3:=Ol (k:=4) (i:=(k:Int)) (ar:=a.map er) rfl o E
 have G:=OP (n:=n) o (U:=a[y.act.toNat].2.set y.port.toNat ⟨4,(k:Int),a[y.act.toNat].2[y.port.toNat].b⟩) bd
 rw[kU]at t
 generalize H:a.set y.act.toNat (a[y.act.toNat].1,a[y.act.toNat].2.set y.port.toNat ⟨4,(k:Int),a[y.act.toNat].2[y.port.toNat].b⟩)=J at t m3 G
 have N:J.length=n:=by rw[<-H,h2];exact j
 clear H
 generalize aa.put _ _=au at t
 refine Y _ _ _ _ nofun (S _ _ _ ?_)
 refine .bg ?_
 refine⟨(k+1,J),rfl,rfl,⟨t,I,by rw[m3];exact bn,G.trans w,N,by rw[m3,CG];exact f⟩,by show m- (k+1)<m-k;omega⟩
 refine X _ _ _ _ nofun ?_
 have Z:k=g.ins.length:=I
 rw[Z,Ql,pQ]at bn
 exact D _ _ a rfl x (by rw[<-bn]) w j
theorem aBx Q(e:cy)(g:c8) al h n m d c(ok:g.ok al)(hm:g.outs.length=m)(o2:m<=96) g0 g1 g2 g3 aZ ro s(x:jW al h aZ ro)(f:aZ.map er=s)(j:aZ.length=n)(B:∀x∈g.outs,0<=x.act/\x.act<n/\0<=x.port/\x.port<((s.map fi).getD x.act.toNat 0:Nat))(he:[1,3,4,14,144,145,146].map e=[.p 0 0,.v (ab (some d) n n),.v (ab (some c) n n),.v (.func (.func 130) #[] #[]),.v (ab g.cj m g.bO),.v (R m),.v (R (0:Nat))])
 (D:∀e aa a,[1,3,4,14].map e=[.p 0 0,.v (ab (some d) n n),.v (ab (some c) n n),.v (.func (.func 130) #[] #[])]->jW al aa a ro->a.map er=pQ 7 g.outs 0 s->eL n a=eL n aZ->a.length=n->
  Q (.exit 10) e [.own [.v g0,.v g1,.v g2,.v g3,.v (ab g.cj m g.bO)] 26,.row 40 1 (some d) n n (eL n ro),.row 40 1 (some c) n n (eL n aZ)] aa):
 vo (λQ e L h=>di aB 194 avX Q e L h) Q e [.own [.v g0,.v g1,.v g2,.v g3,.v (ab g.cj m g.bO)] 26,.row 40 1 (some d) n n (eL n ro),.row 40 1 (some c) n n (eL n aZ)] h:=by
 obtain⟨F,bn⟩:∃F,F=pQ 7 g.outs 0 s:=⟨_,rfl⟩
 rw[<-bn]at D
 obtain⟨O,z⟩:∃l,l=s.map fi:=⟨_,rfl⟩
 rw[<-z]at B
 refine .mk (Nat×List lq) [1,3,4,14,144,145,146] (λ(k,_)=>[.p 0 0,.v (ab (some d) n n),.v (ab (some c) n n),.v (.func (.func 130) #[] #[]),.v (ab g.cj m g.bO),.v (R m),.v (R k)]) (λ_=>[.own [.v g0,.v g1,.v g2,.v g3,.v (ab g.cj m g.bO)] 26,.row 40 1 (some d) n n (eL n ro),.row 40 1 (some c) n n (eL n aZ)]) (λ(k,a) aa=>jW al aa a ro/\k<=m/\pQ 7 (g.outs.drop k) k (a.map er)=F/\eL n a=eL n aZ/\a.length=n/\(a.map er).map fi=O) (λ(k,_)=>m-k) (0,aZ) (λ_=>rfl) ⟨x,cW _,by rw[f,bn];rfl,rfl,j,by rw[f,z]⟩ he rfl ?_
 clear x f j z he bn
 refineλ⟨k,a⟩ e aa⟨x,hk,bn,w,j,f⟩=>az λgE W gm=>W _ _ _ (az λgA V X=>aY (λq=>?_) (λq=>?_))
 have u:k<g.outs.length:=I
 obtain⟨M,C⟩:=ok.outs.cg I
 have P:(g.outs.map l5.cells)[k]?=some (l5.cells g.outs[k]):=by rw[dH,bZ u];rfl
 have K:=(ok.outs.mono x.le).row C P
 have A:g.outs.drop k=g.outs[k]::g.outs.drop (k+1):=mE u
 obtain⟨t1,t2,t3,t4⟩:=B _ (cG u)
 generalize g.outs[k]=y at K A t1 t2 t3 t4
 rw[A,pQ]at bn
 obtain⟨o,E,hd⟩:=F0.get (r:=a) (ar:=a.map er) ⟨⟨t1,t2⟩,t3,by rw[f];exact t4⟩ rfl j
 refine V _ _ _ (az λgj S fD=>fb λgk dZ Y=>az λhs T hE=>.m M C (.hp y.cells rfl (by rw[bz];exact K) (T _ _ _ (.m c rfl (.row 2 40 1 c n n _ _ (sX a[y.act.toNat]) rfl (by rw[eV]) (by rw[<-w];exact KL o) (.r ?_))))))
 conv=>whnf
 rw[add_lit,dM]
 refine .ah (.mk _ (OM _ _ 7 (k:Int) _ _ (x.Jl o) E) ?_)
 rintro _ _ rfl
 have t:=x.HN o (a[y.act.toNat].2.set y.port.toNat ⟨7,(k:Int),a[y.act.toNat].2[y.port.toNat].b⟩)
 have m3:=Ol (k:=7) (i:=(k:Int)) (ar:=a.map er) rfl o E
 have G:=OP (n:=n) o (U:=a[y.act.toNat].2.set y.port.toNat ⟨7,(k:Int),a[y.act.toNat].2[y.port.toNat].b⟩) bd
 rw[kU]at t
 generalize H:a.set y.act.toNat (a[y.act.toNat].1,a[y.act.toNat].2.set y.port.toNat ⟨7,(k:Int),a[y.act.toNat].2[y.port.toNat].b⟩)=J at t m3 G
 have N:J.length=n:=by rw[<-H,h2];exact j
 clear H
 generalize aa.put _ _=au at t
 refine Y _ _ _ _ nofun (S _ _ _ ?_)
 refine .bg ?_
 refine⟨(k+1,J),rfl,rfl,⟨t,I,by rw[m3];exact bn,G.trans w,N,by rw[m3,CG];exact f⟩,by show m- (k+1)<m-k;omega⟩
 refine X _ _ _ _ nofun ?_
 have Z:k=g.outs.length:=I
 rw[Z,Ql,pQ]at bn
 exact D _ _ a rfl x (by rw[<-bn]) w j
abbrev ui:=Option aI×Nat×List cr
variable {D:List ui}
def xd(d:ui):ax:=ab d.1 d.2.2.length d.2.1
def Df(h:J)(D:List ui):Prop:=∀d∈D,bJ h 66 3 d.1 d.2.2.length d.2.1 (hx d.2.2)
theorem Df.mono{h aa:J}{D:List ui}(x:Df h D)(le:h.le aa):Df aa D:=λd a=>(x d a).mono le
theorem aAP(a:h b=some (kU l))(hm:l.length<=1000):bJ h 66 3 (some ⟨b,0,none⟩) l.length l.length (hx l):=⟨CN l,bl ⟨b,(hx l).toArray,rfl,a,dz _,by simp[eD];omega,by simp[CN],by rw[<-CN,r5]⟩⟩
theorem aAQ(a:h b=some (kU l)):bf h 3 (some ⟨b,0,none⟩) l.length (l.map cr.cells):=bf.lit a rfl (λr c=>by obtain⟨x,_,rfl⟩:=cU.1 c;rfl) bd
def IW(aZ ro:List lq)(k:Nat):List cr:=(aZ.getD k (0,[])).2++[⟨5,k,0⟩]++(ro.getD k (0,[])).2
def sc(D:List ui)(aZ:List lq):List ax:=D.map xd++(aZ.drop D.length).map sX
theorem am1 h:(sc D aZ)[D.length]?=some (sX aZ[D.length]):=by
 rw[sc,FO bd,gz,wU,dH,List.getElem?_drop,zQ,bZ h];rfl
theorem am2(h:D.length<=aZ.length):(sc D aZ).length=aZ.length:=by simp[sc];omega
theorem am3(h:D.length<aZ.length) d:(sc D aZ).set D.length (xd d)=sc (D++[d]) aZ:=by
 unfold sc;rw[uq _ _ bd,gz,wU,mE h,fF,kC,fc];rfl
theorem anY Q(e:cy) al h n a f(aA:n<=1000) g0 g1 g2 g3 g4 aZ ro(x:jW al h aZ ro)(lk:aZ.length=n)(uX:ro.length=n)(y:∀q∈aZ++ro,q.2.length<=100)(he:[3,4,165,166].map e=[.v (ab (some a) n n),.v (ab (some f) n n),.v (R n),.v (R (0:Nat))])
 (T:∀e aa D,[3].map e=[.v (ab (some a) n n)]->al.le aa->Df aa D->D.length=n->D.map (λd=>d.2.2)=(fL n).map (IW aZ ro)->
  Q (.exit 12) e [.own [.v g0,.v g1,.v g2,.v g3,.v g4] 26,.row 40 1 (some a) n n (D.map xd),.row 40 1 (some f) n n (eL n ro)] aa):
 vo (λQ e L h=>di aB 194 avY Q e L h) Q e [.own [.v g0,.v g1,.v g2,.v g3,.v g4] 26,.row 40 1 (some a) n n (eL n aZ),.row 40 1 (some f) n n (eL n ro)] h:=by
 have H:eL n aZ=sc [] aZ:=by simp[eL,sc,lk]
 rw[H]
 refine .mq [0,1,2] (Nat×List ui) [3,4,165,166] (λ(k,_)=>[.v (ab (some a) n n),.v (ab (some f) n n),.v (R n),.v (R k)]) (λ(_,D)=>[.own [.v g0,.v g1,.v g2,.v g3,.v g4] 26,.row 40 1 (some a) n n (sc D aZ),.row 40 1 (some f) n n (eL n ro)]) (λ(k,D) aa=>jW al aa aZ ro/\k<=n/\Df aa D/\D.length=k/\D.map (λd=>d.2.2)=(fL k).map (IW aZ ro)) (λ(k,_)=>n-k) (0,[]) (λ_=>rfl) ⟨x,cW _,(by intro d c;cases c),rfl,rfl⟩ (by rw[he];rfl) rfl rfl ?_
 clear x he H
 refineλ⟨k,D⟩ e aa⟨x,hk,B,E,A⟩=>.ah (az λgE X gm=>X _ _ _ (az λgA W Z=>aY (λq=>?_) (λq=>?_)))
 subst E
 have o:D.length<aZ.length:=I
 have t:D.length<ro.length:=I
 have u:aZ[D.length]∈aZ++ro:=Bv _ (cG o)
 have j:ro[D.length]∈aZ++ro:=LU _ (cG t)
 have M:=aAP (x.at_ _ u) (by have:=y _ u;omega)
 have C:=aAQ (x.at_ _ j)
 have N:=y _ u
 have O:=y _ j
 have qG:IW aZ ro D.length=aZ[D.length].2++[⟨5,(D.length:Int),0⟩]++ro[D.length].2:=by
  rw[IW,cx,cx,bZ o,bZ t];rfl
 have i:=am1 o
 have g:(eL n ro)[D.length]?=some (sX ro[D.length]):=KL t
 have P:=am2 (D:=D) (aZ:=aZ) I
 have w:=am3 o
 generalize aZ[D.length]=p at M N qG i
 generalize ro[D.length]=r at C O qG g
 refine W _ _ _ (az λgj S fD=>fb λgk dZ ez=>az λhs V hE=>V _ _ _ (az λgZ Y g6=>.m a rfl (.row 1 40 1 a n n _ _ (sX p) rfl (by rw[eV]) (by rw[bz];exact i) (.ah (QV M (aG:=hx [⟨5,(D.length:Int),0⟩]) rfl (E6 _) aM rfl (by simp[eD];omega) I (λb U aT nC=>by obtain⟨_,_,_,_,_,q,_⟩:=bJ.split nC;omega) (λF G aT ay=>.m a rfl (.row 1 40 1 a n n (sc D aZ) ((sc D aZ).set D.length (ab F (p.2.length+1) G)) D.length rfl (by rw[bz,eV]) (ih _ _ _ I) (Y _ _ _ (.m a rfl (.row 1 40 1 a n n _ _ (ab F (p.2.length+1) G) rfl (by rw[eV]) (by rw[bz,Ig I]) ?_))))))))))
 refine .m f rfl (.row 2 40 1 f n n _ _ (sX r) rfl (by rw[eV]) (by rw[bz];exact g) (.c3 4 _ (hx r.2) rfl (C.src _) (E6 _) (by simp[eD];omega) I λs c2 sr=>.m a rfl (.row 1 40 1 a n n _ ((sc D aZ).set D.length (ab s (p.2.length+1+r.2.length) c2)) D.length rfl (by rw[bz,eV]) (by rw[ih _ _ _ (by rw[h2];omega),List.set_set]) (ez _ _ _ _ nofun (S _ _ _ (.bg (.b4 4 66 3 s (p.2.length+1+r.2.length) c2 _ rfl λaU J ga f4=>.ah ?_)))))))
 have K:(p.2++[(⟨5,(D.length:Int),0⟩:cr)]++r.2).length=p.2.length+1+r.2.length:=by simp;omega
 have l:=w (s,c2,p.2++[⟨5,(D.length:Int),0⟩]++r.2)
 rw[xd,K]at l
 refine⟨(D.length+1,D++[(s,c2,p.2++[⟨5,(D.length:Int),0⟩]++r.2)]),rfl,?_,⟨x.mono J,I,λd c=>?_,bd,?_⟩,by show n- (D.length+1)<n-D.length;omega⟩
 show[_,LE.row 40 1 (some a) n n _,_]=[_,LE.row 40 1 (some a) n n _,_]
 rw[l]
 rcases ej.1 c with c|c
 exact(B d c).mono J
 rw[hV]at c
 subst c
 rw[K,Hy,Hy]
 exact ga
 rw[fF,A,List.range_succ,fF,Ij,Ij,qG]
 refine Z _ _ _ _ nofun ?_
 have pF:k=n:=I
 subst pF
 have:sc D aZ=D.map xd:=by rw[sc,List.drop_eq_nil_of_le I];simp
 have z:=λe he=>T e aa D he x.le B E A
 rw[<-this]at z
 exact z _ rfl
theorem KU k:∀l i ar,(pQ k l i ar).map fi=ar.map fi
 |[],_,_=>rfl
 |x::l,i,ar=>by rw[pQ,KU k l,CG]
theorem RA:∀l i q,(p6 l i q).1.map fi=q.1.map fi/\(p6 l i q).2.map fi=q.2.map fi
 |[],_,_=>⟨rfl,rfl⟩
 |x::l,i,q=>by
  obtain⟨h1,ae⟩:=RA l (i+1) (mark q.1 x.dst.toNat x.iM.toNat 3 i,mark q.2 x.src.toNat x.sp.toNat 6 i);rw[p6];exact⟨h1.trans (CG _ _ _ _ _),ae.trans (CG _ _ _ _ _)⟩
def Cd(g:c8):List (List cr):=pQ 4 g.ins 0 (p6 g.be 0 (g.a8.map qU,g.a8.map q3)).1
def Ce(g:c8):List (List cr):=pQ 7 g.outs 0 (p6 g.be 0 (g.a8.map qU,g.a8.map q3)).2
def gd(g:c8):List (List cr):=(fL g.a8.length).map λ(o:Nat)=>(Cd g).getD o []++[⟨5,(o:Int),0⟩]++(Ce g).getD o []
theorem ae6{a:Int}(c:0<=a/\a<n)(b:g.a8.length=n):((g.a8.map qU).map fi).getD a.toNat 0=(ki g a).length:=by
 have h:a.toNat<g.a8.length:=I;simp[ki,cx,bZ h,qU]
theorem ae7{a:Int}(c:0<=a/\a<n)(b:g.a8.length=n):((g.a8.map q3).map fi).getD a.toNat 0=(lW g a).length:=by
 have h:a.toNat<g.a8.length:=I;simp[lW,cx,bZ h,q3]
theorem abA(rs:List lq) i:(rs.getD i (0,[])).2=(rs.map er).getD i []:=by
 simp only[cx,dH];cases rs[i]? <;>rfl
theorem aig{l:List iC}{f:iC->List cr}(e:r.map er=ar)(ak:ar.map fi=(l.map f).map fi)(b:∀a,(f a).length<=16):∀q∈r,q.2.length<=100:=λq d=>by
 have h1:q.2.length∈ar.map fi:=by rw[<-e];exact cU.2 ⟨_,cU.2 ⟨q,d,rfl⟩,rfl⟩
 rw[ak]at h1;obtain⟨x,c,ex⟩:=cU.1 h1;obtain⟨a,_,rfl⟩:=cU.1 c;have:=b a;omega
theorem apX g h(ok:g.ok h)(i:XD g) n(c:g.a8.length=n):Fn aB 72 #[.agg g.cells.toArray] h λv aa=>h.le aa/\∃b D,v=ab (some b) n n/\bf aa 1 (some b) n (D.map λd=>[xd d])/\Df aa D/\D.map (λd=>d.2.2)=gd g:=by
 refine b6 y1 rfl ?_;have a32:=i.a32;have xe:=i.xe;have i16:=i.i16;have E1:=i.E1;obtain⟨m,hm⟩:∃m,g.be.length=m:=⟨_,rfl⟩;obtain⟨j,S⟩:∃m,g.ins.length=m:=⟨_,rfl⟩;obtain⟨k,T⟩:∃m,g.outs.length=m:=⟨_,rfl⟩;have gc:g.cells=[.string g.dK,ab g.hA n g.ac,ab g.gF m g.cD,ab g.dR j g.cb,ab g.cj k g.bO]:=by rw[c8.cells,c,hm,S,T]
 rw[gc];clear gc;refine az λgE de gm=>de _ _ _ (az λgA db ev=>oP.one n (ab none 0 0) rfl rfl rfl rfl I I λb=>db _ _ _ (az λgj c6 fD=>oP.one n (ab none 0 0) rfl rfl rfl rfl I I λu=>c6 _ _ _ (az λgk dZ ez=>az λhs dG hE=>dG _ _ _ (fb λgZ ea g6=>?_))));have z0:=aAS n;simp only[<-z0];refine aCB gZ _ g h h n b u ok c I (J.le_refl _) (.string g.dK) (ab g.gF m g.cD) (ab g.dR j g.cb) (ab g.cj k g.bO) rfl (λe h1 aZ ro he x O P=>?_);have lk:aZ.length=n:=by have:=ee fi O;simp at this;omega
 have uX:ro.length=n:=by have:=ee fi P;simp at this;omega
 refine ea _ _ _ (dZ _ _ _ ?_);rw[<-fK [1,3,4] e,he];refine az λiK eT hg=>eT _ _ _ (az λjl fa jc=>az λjV hf h6=>hf _ _ _ (fb λkD gK kl=>ao2 kD _ g h h1 n m b u ok hm I (.string g.dK) (ab g.hA n g.ac) (ab g.dR j g.cb) (ab g.cj k g.bO) aZ ro _ _ x O P lk uX (λy p=>?_) rfl ?_));obtain⟨⟨s1,s2,iu,nD⟩,⟨t1,t2,t3,t4⟩,_⟩:=i.qI y p;refine⟨⟨s1,I,iu,?_⟩,t1,I,t3,?_⟩;rw[ae7 (n:=n) ⟨s1,I⟩ c];exact nD;rw[ae6 (n:=n) ⟨t1,I⟩ c];exact t4;clear e he;intro e ae t6 R he e9 A B u1 X V Uc;rw[<-u1,<-X];obtain⟨L,M⟩:=RA g.be 0 (g.a8.map qU,g.a8.map q3);refine gK _ _ _ (fa _ _ _ ?_);rw[<-fK [1,3,4,14] e,he];refine az λr8 kS rO=>az λpt kx oD=>kx _ _ _ (fb λtb mn wi=>aBw tb _ g h ae n j b u ok S I (.string g.dK) (ab g.hA n g.ac) (ab g.gF m g.cD) (ab g.cj k g.bO) t6 R _ e9 A V (λy p=>?_) rfl ?_);obtain⟨t1,t2,t3,t4⟩:=i.NN y p;refine⟨t1,I,t3,?_⟩;rw[L,ae6 (n:=n) ⟨t1,I⟩ c];exact t4;clear e he;intro e au K he iB H w C;rw[<-w];refine mn _ _ _ (kS _ _ _ ?_);rw[<-fK [1,3,4,14] e,he];refine az λBG sG CC=>az λDu xH Ke=>xH _ _ _ (fb λL9 W NX=>aBx L9 _ g h au n k b u ok T I (.string g.dK) (ab g.hA n g.ac) (ab g.gF m g.cD) (ab g.dR j g.cb) R K _ iB.swap B Uc (λy p=>?_) rfl ?_);obtain⟨t1,t2,t3,t4⟩:=i.OS y p;refine⟨t1,I,t3,?_⟩;rw[M,ae7 (n:=n) ⟨t1,I⟩ c];exact t4;clear e he;intro e aU kW he qt s z E;rw[<-z];refine W _ _ _ (sG _ _ _ ?_);rw[<-fK [1,3,4,14] e,he];refine az λQB U T5=>az λX9 Y aeu=>Y _ _ _ (fb λQC Z aev=>anY QC _ h aU n b u I (.string g.dK) (ab g.hA n g.ac) (ab g.gF m g.cD) (ab g.dR j g.cb) (ab g.cj k g.bO) K kW qt.swap C E (λq t=>?_) rfl ?_);rcases ej.1 t with t|t;exact aig H (l:=g.a8) (f:=qU) ((KU _ _ _ _).trans L) (λa=>by rw[qU,gz];exact(A8 _ _).1) q t;exact aig s (l:=g.a8) (f:=q3) ((KU _ _ _ _).trans M) (λa=>by rw[q3,gz];exact(A8 _ _).2) q t;clear e he;refineλe cE D he gn G N2 F=>Z _ _ _ (U _ _ _ ?_);rw[<-fK [3] e,he];refine .b4 1 40 1 (some b) n n _ rfl λe6 N Q f6=>.ah ⟨J.le_trans gn N,b,D,rfl,?_,G.mono N,?_⟩;refine bJ.dV (bK:=40) (cap:=n) (rows:=D.map λd=>[xd d]) ?_ (λr aq=>by obtain⟨d,_,rfl⟩:=cU.1 aq;rfl) aM;have aR:(D.map λd=>[xd d]).flatten=D.map xd:=by
  clear Q G N2 F;induction D with
  |nil=>rfl
  |cons d D bG=>rw[ec,oR,bG];rfl
 rw[aR];exact Q;rw[F,gd,c,Cd,Ce,<-H,<-s];refine List.map_congr_left λo _=>?_;rw[IW,abA,abA]
def jR(t:Int)(op len:Nat)(inner:List cr):List cr:=if 1<t then⟨1,op,t⟩::(inner++[⟨2,op,(len:Int)+1⟩])else inner
def fk(t:Int):Nat:=if 1<t then 1 else 0
def fC(ar:List (List cr)):eJ->Nat->Nat->List cr
 |.nil,_,_=>[]
 |.cons t n b r,len,op=>jR t op len (bif b.leaf then ar.getD n.toNat []else fC ar b (len+fk t) (op+fk t))++
  fC ar r (len+(jR t op len (bif b.leaf then ar.getD n.toNat []else fC ar b (len+fk t) (op+fk t))).length) op
def iy:eJ->Nat->Nat->Nat
 |.nil,_,cZ=>cZ
 |.cons t _ b r,op,cZ=>iy r op (iy b (op+fk t) (if 1<t then max cZ (op+1)else cZ))
def Dr(n:Nat):eJ->Prop
 |.nil=>True
 |.cons _ k b r=>(b.leaf=true->0<=k/\k<n)/\Dr n b/\Dr n r
structure Ga(al h:J)(aX:Nat)(A:Option aI)(c op cZ:Nat)(F:ax)(l:List cr):Prop where
 le:al.le h
 c7:al aX=none
 box:h aX=some (bb #[ab A l.length c,R op,R cZ,F] 215 (0,0))
section
variable {al h aa:J}{aX:Nat}{A:Option aI}{c op cZ:Nat}{F:ax}{l:List cr}
theorem nM.open(w:nM al h aX A c op cZ F l):Ga al (eP h A) aX A c op cZ F l:=by
 rcases A with _|g;exact⟨w.le,w.c7,w.box⟩;have:=w.kT g rfl;refine⟨λo U a=>?_,w.c7,?_⟩;rw[eP,J.mJ _ (λe=>aJ)];exact w.le o U a;rw[eP,J.mJ _ (d' this.1)];exact w.box
theorem Ga.close(w:Ga al h aX A c op cZ F l)(le:h.le aa)(r:bJ aa 66 3 A l.length c (hx l))(f:∀g,A=some g->h g.block=none):nM al aa aX A c op cZ F l:=⟨J.le_trans w.le le,w.c7,le _ _ w.box,r,λg a=>⟨λe=>(by simp_all[e,w.box]),J.none_le w.le (f g a)⟩⟩
theorem Ga.app(w:Ga al h aX A c op cZ F l) a b m:Ga al (h.put aX (bb [ab a (l++m).length b,R op,R cZ,F].toArray 215 (0,0))) aX a b op cZ F (l++m):=⟨ll w.c7 w.le,w.c7,J.b1 _ _ _⟩
end
structure LM(al:J)(bB:aI)(n:Nat)(D:List ui):Prop where
 dV:bf al 1 (some bB) n (D.map λd=>[xd d])
 rows:Df al D
 len:∀d∈D,d.2.2.length<=200
theorem RE{t n:Int}{b r:eJ}{len:Nat}:(fC ar (.cons t n b r) len op).length=(jR t op len (bif b.leaf then ar.getD n.toNat []else fC ar b (len+fk t) (op+fk t))).length+(fC ar r (len+(jR t op len (bif b.leaf then ar.getD n.toNat []else fC ar b (len+fk t) (op+fk t))).length) op).length:=by
 simp[fC]
theorem ags t op len q:(jR t op len q).length=q.length+2*fk t:=by
 unfold jR fk;grind
theorem LM.get{c:aI}(a:LM al c n D){k:Int}(hk:0<=k/\k<n):∃d,al.cell? (c.add (k.toNat*1))=some (xd d)/\bf al 3 d.1 d.2.2.length (d.2.2.map cr.cells)/\d.2.2.length<=200/\(D.map λd=>d.2.2).getD k.toNat []=d.2.2:=by
 have ak:D.length=n:=by simpa using a.dV.len
 have b:k.toNat<D.length:=I;refine⟨D[k.toNat],a.dV.one rfl (by rw[dH,bZ b];rfl) rfl,?_,a.len _ (cG b),?_⟩;exact bJ.dV (a.rows _ (cG b)) (λr e=>by obtain⟨x,_,rfl⟩:=cU.1 e;rfl) aM
 grind
theorem VW(al:J)(p:aI)(n:Nat)(D:List ui)(oq:LM al p n D)(aX:Nat)(aA:n<=1000):
 ∀(N:Nat)(f:ca),f.bj<N->f.bj<=200000->Dr n f.bM->∀(A:Option aI)(m cap:Nat)(h:J)(P2:Option aI)(c op cZ:Nat)(l:List cr),j5 al A m f->nM al h aX P2 c op cZ (ab (some p) n n) l->
  l.length+(fC (D.map λd=>d.2.2) f.bM l.length op).length<=1000000->op+f.bj<=100000->
  Fn aB 73 #[h9 aX,ab A m cap] h λ_ aa=>∃bC E,nM al aa aX bC E op (iy f.bM op cZ) (ab (some p) n n) (l++fC (D.map λd=>d.2.2) f.bM l.length op)
 |0,f,dE,_=>absurd dE (BE _)
 |N+1,f,dE,nX=>by
  intro nZ A m cap h P2 c op cZ l ao w aj aS;obtain⟨ar,c'⟩:∃ar,ar=D.map λd=>d.2.2:=⟨_,rfl⟩;rw[<-c']at aj⊢;have hm:m<=200000:=by have:=ao.1;have:=f.y5;omega
  refine b6 aen rfl (az λgE de gm=>de _ _ _ (fb λgA db ev=>?_));refine .mq [] (Nat×ca×Option aI×Nat×Nat×List cr) [0,7,8,9] (λ(i,_)=>[.v (h9 aX),.v (ab A m cap),.v (R m),.v (R i)]) (λ_=>[]) (λ(i,r,M,E,u,cw) aa=>nM al aa aX M E op u (ab (some p) n n) cw/\sa al A m i r/\r.bj<=f.bj/\Dr n r.bM/\cw++fC ar r.bM cw.length op=l++fC ar f.bM l.length op/\iy r.bM op u=iy f.bM op cZ) (λ(i,_)=>m-i) (0,f,P2,c,cZ,l) (λ_=>rfl) ⟨w,ao.cF,dz _,nZ,rfl,rfl⟩ rfl rfl rfl ?_;rintro⟨i,r,M,E,u,cw⟩ e aa ⟨w,av,lj,nZ,he,ox⟩;cases r with
  |nil=>
   refine .ah (az λgj G fD=>G _ _ _ (az λgk P ez=>aY (λae=>by have:=av.fin;omega) (λae=>ez _ _ _ _ nofun (db _ _ _ ?_))));rw[ca.bM,fC,s7]at he;rw[ca.bM,iy]at ox;refine .ah ⟨M,E,?_⟩
   grind
  |cons t k B F T y r=>
   obtain⟨g,aT,ai,ay,o1,aq⟩:=av.open;simp only[ca.bj]at lj;have p':=o1.1;have tw:=y.Kq;obtain⟨Hi,afV,azQ⟩:=nZ;have eH:=ee fi he;rw[fc,fc,ca.bM,RE,ags]at eH;rw[ca.bM,fC,<-kC]at he;obtain⟨s,O⟩:∃q,q=(bif y.bM.leaf then ar.getD k.toNat []else fC ar y.bM (cw.length+fk t) (op+fk t)):=⟨_,rfl⟩;rw[<-O]at eH he;obtain⟨H,C⟩:∃q,q=iy y.bM (op+fk t) (if 1<t then max u (op+1)else u):=⟨_,rfl⟩;rw[ca.bM,iy,<-C]at ox;have xt:∀h1,al.le h1->∀o v,(kn t k B F T)[o]?=some v->h1.cell? ((g.add (i*3)).add o)=some v:=λh1 le o v an=>J.la le (ay o v an);have Og:∀(e:cy)(L:List LE)(ae:J),[0,7,8,9].map e=[.v (h9 aX),.v (ab A m cap),.v (R m),.v (R i)]->(∀K:List LE->J->Prop,(∀z b a c2,nM al b aX a c2 op H (ab (some p) n n) (cw++jR t op cw.length s)->K z b)->hc K L ae)->
    di aB 57 (.cd avZ) (λex bD bu abI=>match ex with
     |.normal=>hc (λbu aa=>∃dF:Nat×ca×Option aI×Nat×Nat×List cr,[0,7,8,9].map bD=(match dF with|(i,_)=>[.v (h9 aX),.v (ab A m cap),.v (R m),.v (R i)])/\bu.take 0=[]/\(match dF with|(i,r,M,E,u,cw)=>nM al aa aX M E op u (ab (some p) n n) cw/\sa al A m i r/\r.bj<=f.bj/\Dr n r.bM/\cw++fC ar r.bM cw.length op=l++fC ar f.bM l.length op/\iy r.bM op u=iy f.bM op cZ)/\(match dF with|(i,_)=>m-i)<m-i) bu abI
     |ex=>gA ex bD bu abI) e L ae:=by
    intro e L ae gR rJ
    rw[<-fK [0,7,8,9] e,gR]
    exact .bg (rJ _ λz b a c2 x=>⟨(i+1,r,a,c2,H,cw++jR t op cw.length s),rfl,rfl,⟨x,aq,I,azQ,aJ,ox⟩,aJ⟩)
   have sep:F=0/\t<=1\/(F=0/\1<t)\/(0<F/\t<=1)\/(0<F/\1<t):=I;rcases sep with⟨rfl,J0⟩|⟨rfl,J0⟩|⟨qS,J0⟩|⟨qS,J0⟩;have JB:y= .nil:=ca.Rn p'.symm;subst JB;obtain⟨d,d1,d2,d3,d4⟩:=oq.get (Hi rfl);have aR:s=d.2.2:=aJ;have aQ:H=u:=by rw[C,aD I];rfl
   have cV:jR t op cw.length s=d.2.2:=by rw[jR,aD I,aR]
   refine .abs 66 3 M cw.length E _ w.row (.ah ?_);have j:=w.open;generalize eP aa M=h1 at j⊢;refine az λgj G fD=>G _ _ _ (az λgk P ez=>aY (λae=>?_) (λae=>I));refine P _ _ _ (az λhs U hE=>fb λgZ ea Y=>?_);have fin:∀(e:cy)(L:List LE)(ae:J),[0,7,8,9].map e=[.v (h9 aX),.v (ab A m cap),.v (R m),.v (R i)]->(∀K:List LE->J->Prop,(∀z b a c2,nM al b aX a c2 op H (ab (some p) n n) (cw++jR t op cw.length s)->K z b)->hc K L ae)->gZ .normal e L ae:=λe L ae S Q=>Y _ _ _ _ nofun (U _ _ _ (Og e L ae S Q));refine az λiK V hg=>.m g aT (.hp (kn t k B 0 T) rfl (by rw[bz];exact xt _ j.le) (V _ _ _ (az λjl W jc=>W _ _ _ (az λjV hf h6=>aY (λq=>I) (λ_=>hf _ _ _ (az λkD Z kl=>.hp _ (bV j.box rfl) (.hp _ (bV j.box rfl) (.mk p rfl (Hi rfl).1 (Hi rfl).2 (.hp _ (J.la j.le d1) (.c3 0 _ (hx d.2.2) rfl ((d2.mono j.le).src _) (E6 _) (by grind [eD]) I λa c2 sr=>.hp aX 0 215 _ [ab a (cw.length+d.2.2.length) c2,R op,R u,ab (some p) n n] rfl j.box rfl ?_))))))))));have x:=j.app a c2 d.2.2;rw[fc]at x;generalize h1.put aX _=ae at x;refine Z _ _ _ (aY (λq=>I) (λ_=>fin _ _ _ rfl λK X=>.b4 0 66 3 a (cw.length+d.2.2.length) c2 _ rfl λb ds dU f3=>.ah (X _ _ a c2 ?_)));rw[aQ,cV];rw[<-fc]at dU;exact x.close ds (by rw[Hy];exact dU) f3;have JB:y= .nil:=ca.Rn p'.symm;subst JB;obtain⟨d,d1,d2,d3,d4⟩:=oq.get (Hi rfl);have aR:s=d.2.2:=aJ;have aQ:H=max u (op+1):=by rw[C,aP I];rfl
   have cV:jR t op cw.length s=⟨1,op,t⟩::(d.2.2++[⟨2,op,(cw.length:Int)+1⟩]):=by rw[jR,aP I,aR]
   have d5:fk t=1:=aP I;rw[aR,d5]at eH;refine .ah (az λgj G fD=>G _ _ _ (az λgk P ez=>aY (λae=>?_) (λae=>I)));refine P _ _ _ (az λhs U hE=>fb λgZ ea Y=>?_);have fin:∀(e:cy)(L:List LE)(ae:J),[0,7,8,9].map e=[.v (h9 aX),.v (ab A m cap),.v (R m),.v (R i)]->(∀K:List LE->J->Prop,(∀z b a c2,nM al b aX a c2 op H (ab (some p) n n) (cw++jR t op cw.length s)->K z b)->hc K L ae)->gZ .normal e L ae:=λe L ae S Q=>Y _ _ _ _ nofun (U _ _ _ (Og e L ae S Q));refine az λiK V hg=>.m g aT (.hp (kn t k B 0 T) rfl (by rw[bz];exact xt _ w.le) (V _ _ _ (az λjl W jc=>W _ _ _ (az λjV hf h6=>aY (λ_=>?_) (λq=>I)))));refine .ah (.mq _ (aco w I I t) ?_);rintro _ ae ⟨rfl,a,c2,x⟩;refine .abs 66 3 a _ c2 _ x.row (.ah ?_);have j:=x.open;have gL:(cw++[(⟨1,op,t⟩:cr)]).length=cw.length+1:=bd;generalize eP ae a=h1 at j⊢;generalize yL:cw++[(⟨1,op,t⟩:cr)]=df at j gL⊢;refine hf _ _ _ ?_;refine az λkD Z kl=>?_;refine .hp _ (bV j.box rfl) ?_;refine .hp _ (bV j.box rfl) ?_;refine .mk p rfl (Hi rfl).1 (Hi rfl).2 ?_;refine .hp _ (J.la j.le d1) ?_;refine .c3 1 _ (hx d.2.2) rfl ((d2.mono j.le).src _) (E6 _) (by grind [eD]) I λlJ eW Jq=>?_;refine .hp aX 0 215 _ [ab lJ (df.length+d.2.2.length) eW,R ((op+1:Nat):Int),R ((max u (op+1):Nat):Int),ab (some p) n n] rfl j.box rfl ?_;have jA:=j.app lJ eW d.2.2;rw[fc]at jA;generalize h1.put aX _=b at jA;refine Z _ _ _ ?_;refine aY (λ_=>?_) (λq=>I);refine .b4 1 66 3 lJ (df.length+d.2.2.length) eW _ rfl λaU dh ga f4=>.ah (.mk _ (Y0 (jA.close dh (by rw[Hy,fc];exact ga) f4) aJ I ((cw.length+1:Nat):Int)) ?_);rintro _ cE ⟨Bg,yr,oc⟩;refine fin _ _ _ rfl λK X=>.ah (X _ _ Bg yr ?_)
   grind
   have a7:y.bM.leaf=false:=aJ;rw[a7,uA]at O;have d5:fk t=0:=aD I;rw[d5]at eH O C;simp only[zQ]at O C;rw[aD I]at C;have cV:jR t op cw.length s=s:=by grind [jR]
   refine .ah (az λgj G fD=>G _ _ _ (az λgk P ez=>aY (λae=>?_) (λae=>I)));refine P _ _ _ (az λhs U hE=>fb λgZ ea Y=>?_);have fin:∀(e:cy)(L:List LE)(ae:J),[0,7,8,9].map e=[.v (h9 aX),.v (ab A m cap),.v (R m),.v (R i)]->(∀K:List LE->J->Prop,(∀z b a c2,nM al b aX a c2 op H (ab (some p) n n) (cw++jR t op cw.length s)->K z b)->hc K L ae)->gZ .normal e L ae:=λe L ae S Q=>Y _ _ _ _ nofun (U _ _ _ (Og e L ae S Q));refine az λiK V hg=>.m g aT (.hp (kn t k B F T) rfl (by rw[bz];exact xt _ w.le) (V _ _ _ (az λjl W jc=>W _ _ _ (az λjV hf h6=>aY (λq=>I) (λ_=>hf _ _ _ (az λkD Z kl=>aY (λ_=>?_) (λq=>I)))))));refine .ah (.mk _ (VW al p n D oq aX aA N y I I afV B F T aa M E op u cw o1 w aJ I) (λ_ ae⟨a,c2,x⟩=>?_));rw[<-c',<-O,<-C]at x;refine Z _ _ _ (aY (λq=>I) (λ_=>fin _ _ _ rfl λK X=>.ah (X _ _ a c2 ?_)))
   grind
   have a7:y.bM.leaf=false:=aJ;rw[a7,uA]at O;have d5:fk t=1:=aP I;rw[d5]at eH O C;rw[aP I]at C;have cV:jR t op cw.length s=⟨1,op,t⟩::(s++[⟨2,op,(cw.length:Int)+1⟩]):=by grind [jR]
   refine .ah (az λgj G fD=>G _ _ _ (az λgk P ez=>aY (λae=>?_) (λae=>I)));refine P _ _ _ (az λhs U hE=>fb λgZ ea Y=>?_);have fin:∀(e:cy)(L:List LE)(ae:J),[0,7,8,9].map e=[.v (h9 aX),.v (ab A m cap),.v (R m),.v (R i)]->(∀K:List LE->J->Prop,(∀z b a c2,nM al b aX a c2 op H (ab (some p) n n) (cw++jR t op cw.length s)->K z b)->hc K L ae)->gZ .normal e L ae:=λe L ae S Q=>Y _ _ _ _ nofun (U _ _ _ (Og e L ae S Q));refine az λiK V hg=>.m g aT (.hp (kn t k B F T) rfl (by rw[bz];exact xt _ w.le) (V _ _ _ (az λjl W jc=>W _ _ _ (az λjV hf h6=>aY (λ_=>?_) (λq=>I)))));refine .ah (.mk _ (aco w I I t) ?_);rintro _ ae ⟨rfl,a,c2,x⟩;have gL:(cw++[(⟨1,op,t⟩:cr)]).length=cw.length+1:=bd;generalize yL:cw++[(⟨1,op,t⟩:cr)]=df at x gL⊢;refine hf _ _ _ ?_;refine az λkD Z kl=>?_;refine aY (λ_=>?_) (λq=>I);refine .ah (.mk _ (VW al p n D oq aX aA N y I I afV B F T ae a c2 (op+1) (max u (op+1)) df o1 x aJ I) ?_);rintro _ b ⟨lJ,eW,jA⟩;rw[<-c',gL,<-O,<-C]at jA;refine Z _ _ _ ?_;refine aY (λ_=>?_) (λq=>I);refine .ah (.mk _ (Y0 jA aJ I ((cw.length+1:Nat):Int)) ?_);rintro _ cE ⟨Bg,yr,oc⟩;refine fin _ _ _ rfl λK X=>.ah (X _ _ Bg yr ?_)
   grind
structure nj where
 tag:Int
 A:Option aI
 n:Nat
 c:Nat
 a6:List Int
def nj.cells(x:nj):List ax:=[bA .u8 x.tag,ab x.A x.n x.c]
def nj.ok(h:J)(x:nj):Prop:=bf h 1 x.A x.n (x.a6.map λz=>[R z])
structure iU where
 base:Int
 size:Int
 A:Option aI
 n:Nat
 c:Nat
 st:List Int
def iU.cells(x:iU):List ax:=[R x.base,R x.size,ab x.A x.n x.c]
def iU.ok(h:J)(x:iU):Prop:=bf h 1 x.A x.n (x.st.map λz=>[R z])
structure iw where
 mem:Int
 bj:Int
 ins:Int
 outs:Int
 jf:Option aI
 cN:Nat
 parts:List nj
 eU:Option aI
 lc:Nat
 lines:List iU
 cj:Option aI
 bO:Nat
 ops:List cr
def iw.cells(p:iw):List ax:=[R p.mem,R p.bj,R p.ins,R p.outs,ab p.jf p.parts.length p.cN,ab p.eU p.lines.length p.lc,ab p.cj p.ops.length p.bO]
structure iw.ok(h:J)(p:iw):Prop where
 parts:bf h 2 p.jf p.parts.length (p.parts.map nj.cells)
 part:∀x∈p.parts,x.ok h
 lines:bf h 3 p.eU p.lines.length (p.lines.map iU.cells)
 line:∀x∈p.lines,x.ok h
 ops:bf h 3 p.cj p.ops.length (p.ops.map cr.cells)
theorem nj.ok.mono{h aa:J}{x:nj}(U:x.ok h)(le:h.le aa):x.ok aa:=bf.mono U le
theorem iU.ok.mono{h aa:J}{x:iU}(U:x.ok h)(le:h.le aa):x.ok aa:=bf.mono U le
theorem iw.ok.mono{h aa:J}{p:iw}(U:p.ok h)(le:h.le aa):p.ok aa:=⟨U.parts.mono le,λx a=>(U.part x a).mono le,U.lines.mono le,λx a=>(U.line x a).mono le,U.ops.mono le⟩
theorem Dt.dV{aa:J}{l:List Int}{v:ax}(U:Dt h n (l.map R) v aa):h.le aa/\∃A c,v=ab A n c/\bf aa 1 A n (l.map λz=>[R z]):=by
 obtain⟨h1,A,c,ae,a,_⟩:=U;exact⟨h1,A,c,ae,a.kd⟩
theorem aBc Q(e:cy)(g:c8) al n(ok:g.ok al)(U:g.a8.length=n)(sC:n<=1000)(T:∀a∈g.a8,a.n<=1000) g0 g2 g3 g4 o C D s r t u z E F B i y G b(he:[3,4,6,11,70,71,72].map e=[.p 0 0,.p 1 0,.p 2 0,.p 4 0,.v (ab g.hA n g.ac),.v (R n),.v (R (0:Nat))])(Y:∀e aa A c(d:List nj),[3,4,6,11].map e=[.p 0 0,.p 1 0,.p 2 0,.p 4 0]->al.le aa->(∀x∈d,x.ok aa)->d.map (λx=>(x.tag,x.a6))=g.a8.map (λa=>(a.tag,a.a6))->Q (.exit 0) e [.own [.v g0,.v (ab g.hA n g.ac),.v g2,.v g3,.v g4] 26,.own [.v o,.v C] 37,.own [.v D,.v s,.v r,.v t,.v u,.v z,.v E] 42,.b4 b,.own [.v F,.v B,.v i,.v y,.v (ab A n c),.v (ab none 0 0),.v G] 42,.row 138 2 A n c (d.map nj.cells).flatten] aa):kB (λQ e L h=>di aB 112 avA Q e L h) Q e [.own [.v g0,.v (ab g.hA n g.ac),.v g2,.v g3,.v g4] 26,.own [.v o,.v C] 37,.own [.v D,.v s,.v r,.v t,.v u,.v z,.v E] 42,.b4 b,.own [.v F,.v B,.v i,.v y,.v (ab none 0 0),.v (ab none 0 0),.v G] 42,.row 138 2 none 0 0 []] al:=by
 refine .mk (Nat×Option aI×Nat×List nj) [3,4,6,11,70,71,72] (λ(k,_)=>[.p 0 0,.p 1 0,.p 2 0,.p 4 0,.v (ab g.hA n g.ac),.v (R n),.v (R k)]) (λ(k,A,c,d)=>[.own [.v g0,.v (ab g.hA n g.ac),.v g2,.v g3,.v g4] 26,.own [.v o,.v C] 37,.own [.v D,.v s,.v r,.v t,.v u,.v z,.v E] 42,.b4 b,.own [.v F,.v B,.v i,.v y,.v (ab A k c),.v (ab none 0 0),.v G] 42,.row 138 2 A k c (d.map nj.cells).flatten]) (λ(k,A,c,d) aa=>al.le aa/\k<=n/\(∀x∈d,x.ok aa)/\d.map (λx=>(x.tag,x.a6))=(g.a8.take k).map (λa=>(a.tag,a.a6))) (λ(k,_)=>n-k) (0,none,0,[]) (λ_=>rfl) ⟨J.le_refl _,cW _,(by intro x f;cases f),rfl⟩ he rfl ?_;refineλ⟨k,A,c,d⟩ e aa⟨le,hk,S,l⟩=>az λgE de gm=>de _ _ _ (az λgA db ev=>aY (λq=>?_) (λq=>?_));have j:k<g.a8.length:=I;obtain⟨eX,aT⟩:=ok.a8.cg I;have V:(g.a8.map iC.cells)[k]?=some (iC.cells g.a8[k]):=by rw[dH,bZ j];rfl
 have O:=(ok.a8.mono le).row aT V;have P:=ok.act _ (cG j);have M:g.a8.take (k+1)=g.a8.take k++[g.a8[k]]:=kJ j;have W:d.length=k:=by have:=ee fi l;simp at this;omega
 have gW:=T _ (cG j);generalize g.a8[k]=a at O P M gW;refine db _ _ _ (az λgj X fD=>fb λgk dZ ez=>az λhs Z hE=>.m eX aT (.hp a.cells rfl (by rw[bz];exact O) (Z _ _ _ (.mk _ (agO a.A a.n a.c a.a6 aa (P.dV.mono le) I) (λv h q=>q.1) ?_))));rintro _ ae ⟨H,w,c2,rfl,i,f2⟩;refine .c3 5 _ [bA .u8 a.tag,ab w a.n c2] rfl rfl (by simp[zX]) (by simp[eD];omega) I λN K Jq=>ez _ _ _ _ nofun (X _ _ _ (.bg (⟨(k+1,N,K,d++[⟨a.tag,w,a.n,c2,a.a6⟩]),rfl,?_,⟨J.le_trans le H,I,λx f=>?_,?_⟩,by show n- (k+1)<n-k;omega⟩)));show _=[_,_,_,_,_,LE.row 138 2 N (k+1) K ((d++[(⟨a.tag,w,a.n,c2,a.a6⟩:nj)]).map nj.cells).flatten];rw[fF,vr];rfl;rcases ej.1 f with f|f;exact(S x f).mono H;rw[hV]at f;subst f;exact i.kd;rw[M,fF,fF,l];rfl;refine ev _ _ _ _ nofun ?_;have pF:k=n:=I;subst pF;rw[<-U,r5]at l;exact Y _ _ A c d rfl le S l
theorem ayP Q(e:cy)(g:c8) al n(ok:g.ok al)(W:g.be.length=n)(sC:n<=1000)(Er:∀a∈g.be,a.n<=1000)(f:List c9) t cN(T:bf al 2 t n (f.map Go.Sx.cN)) g0 g1 g3 g4 N P C B E F K S U M o H O V b w z y xs(he:[4,6,11,89,90,91].map e=[.p 1 0,.p 2 0,.p 4 0,.v (ab g.gF n g.cD),.v (R n),.v (R (0:Nat))])(cM:∀e aa A c(d:List iU),[6,11].map e=[.p 2 0,.p 4 0]->al.le aa->(∀x∈d,x.ok aa)->d.map (λx=>(x.base,x.size,x.st))=rn (λa r=>(r.1,r.2,a.st)) g.be f->Q (.exit 2) e [.own [.v g0,.v g1,.v (ab g.gF n g.cD),.v g3,.v g4] 26,.own [.v (ab t n cN),.v N] 37,.own [.v P,.v C,.v B,.v E,.v F,.v K,.v S] 42,.b4 b,.own [.v U,.v M,.v o,.v H,.v O,.v (ab A n c),.v V] 42,.row 138 2 w z y xs,.row 144 3 A n c (d.map iU.cells).flatten] aa):kB (λQ e L h=>di aB 112 avB Q e L h) Q e [.own [.v g0,.v g1,.v (ab g.gF n g.cD),.v g3,.v g4] 26,.own [.v (ab t n cN),.v N] 37,.own [.v P,.v C,.v B,.v E,.v F,.v K,.v S] 42,.b4 b,.own [.v U,.v M,.v o,.v H,.v O,.v (ab none 0 0),.v V] 42,.row 138 2 w z y xs,.row 144 3 none 0 0 []] al:=by
 have tH:f.length=n:=by simpa using T.len
 refine .mk (Nat×Option aI×Nat×List iU) [4,6,11,89,90,91] (λ(k,_)=>[.p 1 0,.p 2 0,.p 4 0,.v (ab g.gF n g.cD),.v (R n),.v (R k)]) (λ(k,A,c,d)=>[.own [.v g0,.v g1,.v (ab g.gF n g.cD),.v g3,.v g4] 26,.own [.v (ab t n cN),.v N] 37,.own [.v P,.v C,.v B,.v E,.v F,.v K,.v S] 42,.b4 b,.own [.v U,.v M,.v o,.v H,.v O,.v (ab A k c),.v V] 42,.row 138 2 w z y xs,.row 144 3 A k c (d.map iU.cells).flatten]) (λ(k,A,c,d) aa=>al.le aa/\k<=n/\(∀x∈d,x.ok aa)/\d.map (λx=>(x.base,x.size,x.st))=rn (λ(a:GE)(r:c9)=>(r.1,r.2,a.st)) (g.be.take k) (f.take k)) (λ(k,_)=>n-k) (0,none,0,[]) (λ_=>rfl) ⟨J.le_refl _,cW _,(by intro x i;cases i),rfl⟩ he rfl ?_;refineλ⟨k,A,c,d⟩ e aa⟨le,hk,zd,u⟩=>az λgE de gm=>de _ _ _ (az λgA db ev=>aY (λq=>?_) (λq=>?_));have s:k<g.be.length:=I;have j:k<f.length:=I;obtain⟨eX,aT⟩:=ok.be.cg I;obtain⟨e5,Y⟩:=T.cg I;have aC:(g.be.map GE.cells)[k]?=some (GE.cells g.be[k]):=by rw[dH,bZ s];rfl
 have D:(f.map Go.Sx.cN)[k]?=some (Go.Sx.cN f[k]):=by rw[dH,bZ j];rfl
 have nk:=(ok.be.mono le).row aT aC;have vN:=(T.mono le).row Y D;have wt:=ok.qI _ (cG s);have fB:g.be.take (k+1)=g.be.take k++[g.be[k]]:=kJ s;have l:f.take (k+1)=f.take k++[f[k]]:=kJ j;have ay6:d.length=k:=by have:=ee fi u;simp at this;omega
 have gW:=Er _ (cG s);generalize g.be[k]=a at nk wt fB gW;generalize f[k]=r at vN l;refine db _ _ _ (az λgj c6 fD=>fb λgk dZ ez=>az λhs dG hE=>.m eX aT (.hp a.cells rfl (by rw[bz];exact nk) (dG _ _ _ (.m e5 Y (.hp (Go.Sx.cN r) rfl (by rw[bz];exact vN) (.mk _ (agO a.A a.n a.c a.st aa (wt.dV.mono le) I) (λv h q=>q.1) ?_))))));rintro _ ae ⟨X,G,c2,rfl,o,f2⟩;refine .c3 6 _ [R r.1,R r.2,ab G a.n c2] rfl rfl (by simp[zX,R]) (by simp[eD];omega) I λlJ Z Jq=>ez _ _ _ _ nofun (c6 _ _ _ (.bg (⟨(k+1,lJ,Z,d++[⟨r.1,r.2,G,a.n,c2,a.st⟩]),rfl,?_,⟨J.le_trans le X,I,λx i=>?_,?_⟩,by show n- (k+1)<n-k;omega⟩)));show _=[_,_,_,_,_,_,LE.row 144 3 lJ (k+1) Z ((d++[(⟨r.1,r.2,G,a.n,c2,a.st⟩:iU)]).map iU.cells).flatten];rw[fF,vr];rfl;rcases ej.1 i with i|i;exact(zd x i).mono X;rw[hV]at i;subst i;exact o.kd;rw[fB,l,fF,u,List.zipWith_append (by simp;omega)];rfl;refine ev _ _ _ _ nofun ?_;have pF:k=n:=I;subst pF;rw[<-W,r5,W,<-tH,r5]at u;exact cM _ _ A c d rfl le zd u
def L2(g:c8)(b:List c9)(T:Int)(f:eJ)(p:iw):Prop:=p.mem=T/\p.bj=(iy f 0 0:Nat)/\p.ins=g.ins.length/\p.outs=g.outs.length/\p.parts.map (λx=>(x.tag,x.a6))=g.a8.map (λa=>(a.tag,a.a6))/\p.lines.map (λx=>(x.base,x.size,x.st))=rn (λ(a:GE)(r:c9)=>(r.1,r.2,a.st)) g.be b/\p.ops=fC (gd g) f 0 0++[⟨0,0,0⟩]
theorem abx{l:List iC}{f:iC->List cr}(ak:ar.map fi=(l.map f).map fi)(b:∀a,(f a).length<=16) o:(ar.getD o []).length<=16:=by
 by_cases h:o<ar.length;have h1:ar[o].length∈ar.map fi:=cU.2 ⟨_,cG h,rfl⟩;rw[ak]at h1;obtain⟨x,c,ex⟩:=cU.1 h1;obtain⟨a,_,rfl⟩:=cU.1 c;rw[cx,bZ h,ps,<-ex];exact b a;rw[cx,l6 I];simp
theorem RY{r:List cr}(d:r∈gd g):r.length<=33:=by
 obtain⟨o,_,rfl⟩:=cU.1 d;obtain⟨b,c⟩:=RA g.be 0 (g.a8.map qU,g.a8.map q3);have h1:=abx (ar:=Cd g) (l:=g.a8) (f:=qU) ((KU _ _ _ _).trans b) (λa=>by rw[qU,gz];exact(A8 _ _).1) o;have ae:=abx (ar:=Ce g) (l:=g.a8) (f:=q3) ((KU _ _ _ _).trans c) (λa=>by rw[q3,gz];exact(A8 _ _).2) o;simp only[fc,iv,Qp];omega
theorem azc g h(ok:g.ok h)(g0:iG g=0) C k cN T c(m':bf h 2 C k (c.map Go.Sx.cN))(hk:c.length=k)(pG:g.be.length=k)(t0:0<=T)(hI:T<=1024)(a7:∀i ai(ag:i<g.be.length),0<=c[i].1/\c[i].1+c[i].2<=T/\(g.be[i].n:Int)<=c[i].2) b t m cap(X:j5 h t m b)(yG:vO b.bM=0)(kk:vd g.a8.length b.bM=false)(nZ:Dr g.a8.length b.bM)(aj:(fC (gd g) b.bM 0 0).length<=900000)(ay:b.bj<=90000)(JT:∀a∈g.a8,a.n<=1000):Fn aB 26 #[.agg g.cells.toArray,K0 C k cN T,ab t m cap] h λv aa=>h.le aa/\∃p,v=ey #[.agg p.cells.toArray,R 0]/\p.ok aa/\L2 g c T b.bM p:=by
 have s:=yB g0;have a32:=s.a32;have xe:=s.xe;have i16:=s.i16;have E1:=s.E1;have P:=Zv g h ok;rw[g0]at P;have f71:=λaa(le:h.le aa)=>aqj g aa (ok.mono le) C k cN T c (m'.mono le) hk pG I t0 hI a7;have f72:=λaa(le:h.le aa)=>apX g aa (ok.mono le) s _ rfl;obtain⟨n,U⟩:∃n,g.a8.length=n:=⟨_,rfl⟩;obtain⟨f,wa⟩:∃m,g.ins.length=m:=⟨_,rfl⟩;obtain⟨j,xt⟩:∃m,g.outs.length=m:=⟨_,rfl⟩;have gc:g.cells=[.string g.dK,ab g.hA n g.ac,ab g.gF k g.cD,ab g.dR f g.cb,ab g.cj j g.bO]:=by rw[c8.cells,U,pG,wa,xt]
 rw[gc]at P f71 f72⊢;rw[U]at f72 kk nZ;refine b6 TY rfl (az λgE de gm=>de _ _ _ (az λgA db ev=>.ah (.mk _ P ?_)));rintro _ h1 ⟨ct,rfl⟩;refine db _ _ _ (az λgj c6 fD=>.ah (.mk _ (an8 b I t m cap h1 (X.mono ct)) ?_));rintro _ ae ⟨q,rfl⟩;rw[yG];have q:=J.le_trans ct q;refine c6 _ _ _ (az λgk dZ ez=>.ah (.mk _ (aiv n _ b (zR _) I t m cap ae (X.mono q)) ?_));rintro _ o ⟨rfl,ex⟩;rw[kk,ex];clear ex;refine dZ _ _ _ (az λhs dG hE=>.ah (.mk _ (f71 ae q) ?_));rintro _ aN ⟨rfl,B'⟩;rw[B'];clear B';refine dG _ _ _ ?_;refine az λgZ ea g6=>?_;refine .ah (.mk _ (f72 ae q) ?_);rintro _ H ⟨L,K,D,rfl,W,DN,O⟩;have L:=J.le_trans q L;have oq:LM H K n D:=⟨W,DN,λd aC=>by have:=RY (O▸cU.2 ⟨d,aC,rfl⟩:d.2.2∈gd g);omega⟩;refine ea _ _ _ (az λiK eT hg=>.mk λaX p'=>?_);have a':nM H (H.put aX (bb #[ab none 0 0,R (0:Nat),R (0:Nat),ab (some K) n n] 215 (0,0))) aX none 0 0 0 (ab (some K) n n) []:=⟨J.dI p',p',J.b1 _ _ _,⟨rfl,bW ⟨rfl,rfl,rfl⟩⟩,nofun⟩;refine .ah (.mk _ (VW H K n D oq aX I _ b (zR _) I nZ t m cap _ none 0 0 0 [] (X.mono L) a' (by rw[O];simp;omega) I) (λ_ aU⟨ajS,xa,pq⟩=>?_));rw[O,Im,Qp]at pq;obtain⟨E,c0⟩:∃E,E=fC (gd g) b.bM 0 0:=⟨_,rfl⟩;rw[<-c0]at pq aj;refine eT _ _ _ (az λjl fa jc=>.ah (.mk _ (VI pq I ⟨0,0,0⟩) (λ_ cE⟨F,N,oc⟩=>?_)));have gn:=J.le_trans L oc.le;refine fa _ _ _ (az λjV hf h6=>?_);have Z:=oc.box;have pL:(E++[(⟨0,0,0⟩:cr)]).length=E.length+1:=bd;rw[pL]at Z;refine .hp _ (bV Z rfl) (.hp _ (bV Z rfl) (hf _ _ _ (az λkD gK kl=>az λr8 kS rO=>kS _ _ _ (fb λpt kx oD=>.kY (.abs 138 2 none 0 0 [] ⟨rfl,bW ⟨rfl,rfl,rfl⟩⟩ (.ah (aBc pt _ g cE n (ok.mono gn) U I JT (.string g.dK) (ab g.gF k g.cD) (ab g.dR f g.cb) (ab g.cj j g.bO) (ab C k cN) (R T) (R 0) (R 0) (R 0) (R 0) (ab none 0 0) (ab none 0 0) (ab none 0 0) (R T) (R (iy b.bM 0 0:Nat)) (R f) (R j) (ab F (E.length+1) N) aX rfl (λe e6 l u y he iz zd rW=>kx _ _ _ (gK _ _ _ ?_)))))))));rw[<-fK [3,4,6,11] e,he];have S:=J.le_trans gn iz;refine az λtb mn wi=>az λBG sG CC=>sG _ _ _ (fb λDu xH Ke=>.kY (.abs 144 3 none 0 0 [] ⟨rfl,bW ⟨rfl,rfl,rfl⟩⟩ (.ah (ayP Du _ g e6 k (ok.mono S) pG I (λx o=>by have:=(s.qI x o).2.2;omega) c C cN (m'.mono S) (.string g.dK) (ab g.hA n g.ac) (ab g.dR f g.cb) (ab g.cj j g.bO) (R T) (R 0) (R 0) (R 0) (R 0) (ab none 0 0) (ab none 0 0) (ab none 0 0) (R T) (R (iy b.bM 0 0:Nat)) (R f) (R j) (ab l n u) (ab F (E.length+1) N) aX l n u _ rfl ?_))));clear e he;refineλe nT G Q ls he n1 Y A=>xH _ _ _ (mn _ _ _ ?_);rw[<-fK [6,11] e,he];have hM:y.length=n:=by have:=ee fi rW;simp at this;omega
 have gL:ls.length=k:=by have:=ee fi A;simp at this;omega
 refine .b4 5 138 2 l n u _ rfl λsq M HG f8=>.b4 6 144 3 G k Q _ rfl λz w V f9=>.ah ⟨J.le_trans S (J.le_trans n1 (J.le_trans M w)),⟨T,(iy b.bM 0 0:Nat),f,j,l,u,y,G,Q,ls,F,N,E++[⟨0,0,0⟩]⟩,?_,?_,?_⟩;show _=ey #[.agg #[R T,R (iy b.bM 0 0:Nat),R f,R j,ab l y.length u,ab G ls.length Q,ab F (E++[(⟨0,0,0⟩:cr)]).length N],R 0];rw[hM,gL,pL];rfl;refine⟨?_,λx o=>((zd x o).mono n1).mono (J.le_trans M w),?_,λx o=>(Y x o).mono (J.le_trans M w),?_⟩;show bf z 2 l y.length (y.map nj.cells);rw[hM];exact bJ.dV (bJ.mono HG w) (λr B=>by obtain⟨x,_,rfl⟩:=cU.1 B;rfl) aM;show bf z 3 G ls.length (ls.map iU.cells);rw[gL];exact bJ.dV V (λr B=>by obtain⟨x,_,rfl⟩:=cU.1 B;rfl) aM;exact bJ.dV (oc.row.mono (J.le_trans iz (J.le_trans n1 (J.le_trans M w)))) (λr B=>by obtain⟨x,_,rfl⟩:=cU.1 B;rfl) aM;exact⟨rfl,rfl,by rw[wa],by rw[xt],rW,A,by rw[c0]⟩
theorem Fx n m h:Fn aB 140 #[R n,R m] h λv aa=>v=c5 (decide (0<=n)&&decide (n<=m))/\aa=h:=by
 refine b6 awC rfl ?_;refine aY (λq=>?_) (λq=>?_);exact .ah ⟨by rw[gG q,zB];rfl,rfl⟩;exact .ah ⟨by rw[io q,Bk];rfl,rfl⟩
theorem Rf n h:Fn aB 183 #[R n] h λv aa=>v=R (min n 131073)/\aa=h:=by
 refine b6 awT rfl ?_;exact .ah ⟨rfl,rfl⟩
theorem aFC:Tryz.prog.underlying 66=some (.struct (Tryz.prog.fieldsOf 66)):=e2
theorem asq:Tryz.prog.stoodInHeld 66=false:=e2
theorem aq5:Tryz.prog.eqGuardType Tryz.prog.depth 66=false:=e2
theorem aqp:(Tryz.prog.fieldsOf 66).toList.map (λf=>(f.name,f.type,f.offset))=[("Kind",64,0),("A",3,1),("B",3,2)]:=e2
theorem ajh:Tryz.prog.underlying 64=some (.int .u8):=e2
theorem ajg:Tryz.prog.underlying 3=some (.int .i64):=e2
theorem aoN{w:World}:vm aB (.binOp .eql 66 (.tmp 18) (.tmp 19) 66) [.agg #[bA .u8 0,R 0,R 0],.agg #[bA .u8 0,R 0,R 0]] w (c5 true) w:=by
 intro m q b a;simp[Op.operands]at a;obtain⟨h1,ae⟩:=a;have e:=run_equalIn_struct (P:=aB) w 9999 66 #[bA .u8 0,R 0,R 0] #[bA .u8 0,R 0,R 0] aFC asq;have g:=run_eqGuard_agg (P:=aB) w .eql 66 (.tmp 18) (.tmp 19) #[bA .u8 0,R 0,R 0] #[bA .u8 0,R 0,R 0] aq5;have h:(Op.equalIn 9999 3 (R 0) (R 0)).run aB w= .ok true w:=V4 (P:=aB) w 9998 3 .i64 .i64 0 0 ajg;have f:=aqp;generalize(Tryz.prog.fieldsOf 66).toList=l at e f;rcases l with _|⟨f0,_|⟨f1,_|⟨f2,_|⟨f3,l⟩⟩⟩⟩;cases f;injection f with _ f;cases f;injection f with _ f;injection f with _ f;cases f;simp only[ec,List.map_nil,zN,wZ,and_true]at f;obtain⟨⟨d,a2,a3⟩,⟨c,i,k⟩,c1,c2,j⟩:=f;simp[execOp,b,h1,ae,g,binOp,Op.equal,Op.maxDepth,e,Op.eqFields,d,a2,a3,c,i,k,c1,c2,j,Go.part,isAgg,gM ajh,gM ajg,V4 _ _ _ _ _ _ _ ajh,h];injection f with _ f;injection f with _ f;injection f with _ f;cases f
def BL(p:iw)(i:Nat)(x:cr):Prop:=(x=⟨0,0,0⟩/\i+1=p.ops.length)\/(x.k=1/\0<=x.a/\x.a<=p.bj-1/\1<=x.b/\x.b<=2048)\/(x.k=2/\0<=x.a/\x.a<=p.bj-1/\0<=x.b/\x.b<=(p.ops.length:Int)-1)\/(x.k=3/\0<=x.a/\x.a<=(p.lines.length:Int)-1/\1<=x.b/\x.b<=64)\/(x.k=6/\0<=x.a/\x.a<=(p.lines.length:Int)-1/\1<=x.b/\x.b<=64)\/(x.k=4/\0<=x.a/\x.a<=p.ins-1/\1<=x.b/\x.b<=64)\/(x.k=7/\0<=x.a/\x.a<=p.outs-1/\1<=x.b/\x.b<=64)\/(x.k=5/\0<=x.a/\x.a<=(p.parts.length:Int)-1/\x.b=0)
theorem aDB p h(ok:p.ok h) i o(ak:p.ops.length<=131072) x(n:p.ops[i]=x)(ay:0<=p.bj/\p.bj<=1000)(J:0<=p.ins/\p.ins<=1000)(j:0<=p.outs/\p.outs<=1000)(A:p.parts.length<=1000)(l:p.lines.length<=1000)(c:BL p i x):Fn aB 182 #[.agg p.cells.toArray,R i] h λv aa=>v=c5 true/\aa=h:=by
 refine b6 awS rfl ?_;obtain⟨k,a,b⟩:=x;obtain⟨g,d⟩:=ok.ops.cg I;have e:(p.ops.map cr.cells)[i]?=some (cr.cells ⟨k,a,b⟩):=by rw[dH,bZ o,n];rfl
 have z:=ok.ops.row d e;have cN:p.cells=[R p.mem,R p.bj,R p.ins,R p.outs,ab p.jf p.parts.length p.cN,ab p.eU p.lines.length p.lc,ab p.cj p.ops.length p.bO]:=rfl;rw[cN];unfold BL at c;refine az λE u H=>?_;refine u _ _ _ ?_;refine az λD t B=>?_;refine .m g d ?_;refine .hp [bA .u8 (k:Nat),R a,R b] rfl (by rw[bz];exact z) ?_;refine t _ _ _ ?_;refine az λF r C=>?_;refine r _ _ _ ?_;refine az λG s y=>?_;simp only[cr.mk.injEq]at c;rcases c with⟨⟨rfl,rfl,rfl⟩,q⟩|⟨rfl,q⟩|⟨rfl,q⟩|⟨rfl,q⟩|⟨rfl,q⟩|⟨rfl,q⟩|⟨rfl,q⟩|⟨rfl,q⟩;refine .ah (.mk (c5 true) (λw _=>aoN) ?_);refine .bg ?_;refine y _ _ _ _ nofun ?_;refine .ah ⟨?_,rfl⟩;rw[gG I];rfl;all_goals
  try refine .bg ?_
  try conv=>whnf
  refine s _ _ _ ?_
  refine .bg ?_
  refine .ah (.mk _ (Fx _ _ _) ?_)
  rintro _ _ ⟨rfl,rfl⟩
  rw[gG I,gG I]
  refine aY (λ_=>?_) (λf=>absurd f I)
  refine .ah ⟨?_,rfl⟩
  rw[gG I];rfl
def ym(a times:Int):Int:=if a<=131072/times then 1+times*a else 131073
def u3(ops:List cr)(i:Nat)(x:cr):List c9->Option (List c9)
 |[]=>none
 |top::c=>
  if x.k=1 then(if(top::c).dropLast.all (λf=>decide ((ops.getD f.1.toNat ⟨0,0,0⟩).a≠x.a))=true then some (((i:Int),0)::top::c)else none)
  else if x.k=2 then match c with
   |[]=>none
   |low::c=>if(ops.getD top.1.toNat ⟨0,0,0⟩).a=x.a/\x.b=top.1+1 then some ((low.1,min (low.2+ym (top.2+1) (ops.getD top.1.toNat ⟨0,0,0⟩).b) 131073)::c)else none
  else if x.k=0/\c≠[]then none
  else some ((top.1,min (top.2+1) 131073)::c)
def nc(ops:List cr):List cr->Nat->List c9->Option (List c9)
 |[],_,ba=>some ba
 |x::l,i,ba=>(u3 ops i x ba).bind (nc ops l (i+1))
structure r4(al h:J)(A:Option aI)(n c:Nat)(ba:List c9):Prop where
 le:al.le h
 row:bJ h 374 2 A n c (ba.reverse.map cN).flatten
 new:∀g,A=some g->al g.block=none
 len:ba.length=n
 some_:A≠none
theorem Vz(l:List c9):(l.map cN).flatten.length=l.length*2:=KS l
theorem r4.top{top:c9}(x:r4 al h A n c (top::ba)):∃b ar,A=some ⟨b,0,none⟩/\n=ba.length+1/\h b=some (bb ((ba.reverse.map cN).flatten++(cN top++ar)).toArray 374 (0,0))/\(ba.reverse.map cN).flatten.length=ba.length*2/\al b=none/\n<=c/\c<=eD:=by
 have ak:=x.len;obtain⟨le,row,new,len,aT⟩:=x;cases A with
 |none=>exact absurd rfl aT
 |some g=>
  obtain⟨b,ar,rfl,h1,ae,d,a,e⟩:=row.split;refine⟨b,ar,rfl,by simpa using ak.symm,?_,by rw[Vz,XX],new _ rfl,d,a⟩;rw[Qs,fF,vr,kC]at h1;simpa using h1
section
variable {al h:J}{A:Option aI}{n c b:Nat}{top low:c9}{ba:List c9}{ar:List ax}
theorem r4.put(x:r4 al h (some ⟨b,0,none⟩) n c (top::ba))(j:h b=some (bb ((ba.reverse.map cN).flatten++(cN top++ar)).toArray 374 (0,0))) z:over ((ba.reverse.map cN).flatten++(cN top++ar)) (ba.length*2+1) [R z]=some ((ba.reverse.map cN).flatten++(cN (top.1,z)++ar))/\r4 al (h.put b (bb ((ba.reverse.map cN).flatten++(cN (top.1,z)++ar)).toArray 374 (0,0))) (some ⟨b,0,none⟩) n c ((top.1,z)::ba):=by
 have ak:(ba.reverse.map cN).flatten.length=ba.length*2:=by rw[Vz,XX]
 have d:=x.len;refine⟨?_,AR x.le (x.new _ rfl),?_,x.new,d,nofun⟩;rw[ih _ _ _ (by rw[fc,fc,ak];show _<_+(2+_);omega),uq _ _ I,ak,Dq];rfl;obtain⟨l,⟨q,_⟩|⟨g,m,q,a,i,k,f,o⟩⟩:=x.row;cases q;injection q with q;injection q with q;subst q;rw[j]at a;injection a with a;injection a with a;subst a;have e:((((top.1,z)::ba).reverse.map cN).flatten)=(ba.reverse.map cN).flatten++cN (top.1,z):=bd;have p:n=ba.length+1:=by simpa using d.symm
 refine⟨by rw[e,fc,ak];show _+2=_;omega,bl ⟨b,_,rfl,J.b1 _ _ _,i,k,?_,?_⟩⟩;simp only[alg,fc]at f⊢;exact f;rw[e,<-kC];have:n*2=((ba.reverse.map cN).flatten++cN (top.1,z)).length:=by rw[fc,ak];show _=_+2;omega
 rw[this];exact BA
theorem r4.pop(x:r4 al h A n c (top::ba)):r4 al h A (n-1) c ba:=by
 have a:=x.len;have b:n=ba.length+1:=by simpa using a.symm
 refine⟨x.le,?_,x.new,I,x.some_⟩;have r:=x.row;rw[Qs,fF,vr,show n=(n-1)+1 by omega]at r;exact bJ.less r (by rw[Vz,XX];omega) x.some_
end
def rj(ops:List cr)(i:Nat):List c9->Prop
 |[]=>False
 |[f]=>f.1= -1/\0<=f.2/\f.2<=131073
 |f::g::r=>(0<=f.1/\f.1<i/\(ops.getD f.1.toNat ⟨0,0,0⟩).k=1)/\(0<=f.2/\f.2<=131073)/\rj ops i (g::r)
theorem rj.mono{ops:List cr}{i:Nat}:∀{ba:List c9},rj ops i ba->rj ops (i+1) ba
 |[],h=>h
 |[_],h=>h
 |_::_::_,⟨⟨h1,ae,b⟩,a,c⟩=>⟨⟨h1,I,b⟩,a,c.mono⟩
theorem rj.steps{i:Nat}{f:c9}(h:rj ops i (f::ba)):0<=f.2/\f.2<=131073:=by
 cases ba with
 |nil=>exact h.2
 |cons=>exact h.2.1
theorem rj.put{i:Nat}{f:c9}{z:Int}(h:rj ops i (f::ba))(al:0<=z)(h1:z<=131073):rj ops i ((f.1,z)::ba):=by
 cases ba with
 |nil=>exact⟨h.1,al,h1⟩
 |cons=>exact⟨h.1,⟨al,h1⟩,h.2.2⟩
theorem rj.push{i:Nat}(h:rj ops i ba)(hk:(ops.getD i ⟨0,0,0⟩).k=1):rj ops (i+1) ((i,0)::ba):=by
 cases ba with
 |nil=>exact h.elim
 |cons f ba=>exact⟨⟨bd,by simp only;omega,by simpa using hk⟩,⟨bd,bd⟩,h.mono⟩
theorem r4.dV(x:r4 al h A n c ba):bf h 2 A n (ba.reverse.map cN):=bJ.HS x.row
theorem asp Q(e:cy)(p:iw) h(ok:p.ok h)(i:Nat) A n c m j c1(x:cr)(ba:List c9)(l:bf h 2 j m (ba.map cN))(hm:m<=1000000)(J:∀f∈ba,0<=f.1/\f.1<p.ops.length/\(p.ops.getD f.1.toNat ⟨0,0,0⟩).a≠x.a)(he:[1,4,5,6,18,19,20,48,49,50].map e=[.p 0 0,.v (ab A n c),.v (R i),.p 1 0,.v (ab p.cj p.ops.length p.bO),.v (R p.ops.length),.v (R i),.v (ab j m c1),.v (R m),.v (R (0:Nat))])(u:∀e,[1,4,5,6,18,19,20].map e=[.p 0 0,.v (ab A n c),.v (R i),.p 1 0,.v (ab p.cj p.ops.length p.bO),.v (R p.ops.length),.v (R i)]->Q (.exit 3) e [.own (p.cells.map .v) 42,.own (x.cells.map .v) 66] h):kB (λQ e L h=>di aB 180 auJ Q e L h) Q e [.own (p.cells.map .v) 42,.own (x.cells.map .v) 66] h:=by
 have K:p.cells=[R p.mem,R p.bj,R p.ins,R p.outs,ab p.jf p.parts.length p.cN,ab p.eU p.lines.length p.lc,ab p.cj p.ops.length p.bO]:=rfl;rw[K]at u⊢;obtain⟨k,a,b⟩:=x;refine .mk Nat [1,4,5,6,18,19,20,48,49,50] (λk=>[.p 0 0,.v (ab A n c),.v (R i),.p 1 0,.v (ab p.cj p.ops.length p.bO),.v (R p.ops.length),.v (R i),.v (ab j m c1),.v (R m),.v (R k)]) (λ_=>[.own [.v (R p.mem),.v (R p.bj),.v (R p.ins),.v (R p.outs),.v (ab p.jf p.parts.length p.cN),.v (ab p.eU p.lines.length p.lc),.v (ab p.cj p.ops.length p.bO)] 42,.own [.v (bA .u8 k),.v (R a),.v (R b)] 66]) (λk aa=>aa=h/\k<=m) (λk=>m-k) 0 (λ_=>rfl) ⟨rfl,cW _⟩ he rfl ?_;refineλo e _⟨rfl,hk⟩=>az λS D W=>D _ _ _ (az λP C F=>aY (λq=>?_) (λq=>?_));have ak:ba.length=m:=by simpa using l.len
 have t:o<ba.length:=I;obtain⟨g1,w⟩:=l.cg I;have s:=l.row w (i:=o) (r:=cN ba[o]) (by rw[dH,bZ t];rfl);obtain⟨f1,f2,f3⟩:=J _ (cG t);generalize ba[o]=f at s f1 f2 f3;obtain⟨d,g⟩:=f;obtain⟨y,hO⟩:=ok.ops.cg I;have f4:d.toNat<p.ops.length:=by simp only at f1 f2;omega
 have H:=ok.ops.row hO (i:=d.toNat) (r:=cr.cells p.ops[d.toNat]) (by rw[dH,bZ f4];rfl);rw[cx,bZ f4,ps]at f3;exact C _ _ _ (az λU z N=>fb λV M G=>az λY B X=>.m g1 w (.hp [R d,R g] rfl (by rw[bz];exact s) (B _ _ _ (az λT E O=>.mk y hO f1 f2 (.hp _ (H 1 _ rfl) (E _ _ _ (aY (λq=>absurd q f3) (λ_=>G _ _ _ _ nofun (z _ _ _ (.bg (⟨o+1,rfl,rfl,⟨rfl,I⟩,by show m- (o+1)<m-o;omega⟩)))))))))));exact F _ _ _ _ nofun (u _ rfl)
end Go.Sx
namespace Go.Sx
set_option maxRecDepth 100000
set_option maxHeartbeats 0
set_option linter.all false
variable {ba:List c9}{ops:List cr}{top:c9}{x:cr}
def h'(ar:List (List cr)):eJ->Nat
 |.nil=>0
 |.cons t n b r=>(if 1<t then 1+t.toNat*((bif b.leaf then(ar.getD n.toNat []).length else h' ar b)+1)else(bif b.leaf then(ar.getD n.toNat []).length else h' ar b))+h' ar r
theorem PL ops:∀a b i ba,nc ops (a++b) i ba=(nc ops a i ba).bind (nc ops b (i+a.length))
 |[],b,i,ba=>rfl
 |x::a,b,i,ba=>by
  rw[List.cons_append,nc,nc];cases u3 ops i x ba with
  |none=>rfl
  |some g=>rw[ta,ta,PL ops a b,iv,Nat.add_assoc,Nat.add_comm 1]
theorem agx{i:Nat}(h:3<=x.k):u3 ops i x (top::ba)=some ((top.1,min (top.2+1) 131073)::ba):=by
 show(if x.k=1 then _ else _)=_;rw[aD I];show(if x.k=2 then _ else _)=_;rw[aD I];show(if x.k=0/\ba≠[]then _ else _)=_;rw[aD I]
theorem aAK{i:Nat}(h:x.k=1)(b:∀g∈(top.1::ba.map gQ).dropLast,(ops.getD g.toNat ⟨0,0,0⟩).a≠x.a):u3 ops i x (top::ba)=some (((i:Int),0)::top::ba):=by
 show(if x.k=1 then _ else _)=_;rw[aP h,aP];refine rl.2 λg c=>gG (b _ ?_);have:=List.mem_map_of_mem (f:=gQ) c;rwa[List.map_dropLast]at this
theorem agw{i:Nat}{low:c9}(h:x.k=2)(h1:(ops.getD top.1.toNat ⟨0,0,0⟩).a=x.a)(ae:x.b=top.1+1):u3 ops i x (top::low::ba)=some ((low.1,min (low.2+ym (top.2+1) (ops.getD top.1.toNat ⟨0,0,0⟩).b) 131073)::ba):=by
 show(if x.k=1 then _ else _)=_;rw[aD I];show(if x.k=2 then(if(ops.getD top.1.toNat ⟨0,0,0⟩).a=x.a/\x.b=top.1+1 then _ else _)else _)=_;rw[aP h,aP ⟨h1,ae⟩]
theorem anm{r t:Int}(h1:1<t)(ae:t*r<=131072):ym r t=1+t*r:=by
 rw[ym,aP];exact(XL I).2 (by rw[akD];exact ae)
theorem ajr ops:∀l i(a s:Int) ba,(∀x∈l,3<=x.k)->s+l.length<=131072->nc ops l i ((a,s)::ba)=some ((a,s+l.length)::ba)
 |[],i,a,s,ba,_,_=>by simp[nc]
 |x::l,i,a,s,ba,hk,c=>by
  have d:=hk x (List.mem_cons_self ..);rw[iv]at c;rw[nc,agx d,ta,ajr ops l (i+1) _ _ ba (λy b=>hk y (List.mem_cons_of_mem _ b)) (by simp only;omega),iv];congr 3;simp only;omega
theorem Pt{ar:List (List cr)}(c:∀r∈ar,r.length<=33):∀f,oh f->h' ar f<=36*fJ f/\(f.leaf=false->h' ar f+3<=36*fJ f)
 |.nil,_=>⟨dz _,nofun⟩
 |.cons t n b r,⟨h1,ae,g⟩=>by
  have h:=(Pt c b ae).2;have oC:=(Pt c r g).1;have a:(bif b.leaf then(ar.getD n.toNat []).length else h' ar b)+3<=36*(bif b.leaf then 1 else fJ b):=by
   cases ak:b.leaf with
   |false=>exact h ak
   |true=>
    simp only[oY];by_cases d:n.toNat<ar.length;rw[cx,bZ d,ps];have:=c _ (cG d);omega;rw[cx,l6 I];simp
  have key:h' ar (.cons t n b r)+3<=36*fJ (.cons t n b r):=by
   rw[h',fJ];generalize(bif b.leaf then(ar.getD n.toNat []).length else h' ar b)=u at a⊢;generalize(bif b.leaf then 1 else fJ b)=v at a⊢;obtain⟨k,rfl⟩:∃k:Nat,t=k:=⟨t.toNat,I⟩;rw[bz];split;have q:k*(u+3)<=k*(36*v):=alz _ a;rw[alx]at q;have e:k*(36*v)=36*(k*v):=by rw[Nat.mul_left_comm]
   rw[alx];omega;have:k=1:=I;subst this;omega
  exact⟨I,λ_=>key⟩
theorem aAI{t:Int}{u:Nat}(h:1<t):u+1<=1+t.toNat*(u+1):=by
 have:1*(u+1)<=t.toNat*(u+1):=ur _ I;omega
theorem WZ ar(hk:∀r∈ar,∀x∈r,3<=x.k) ops:∀f len op pre post(a s:Int) ba,oh f->pre.length=len->ops=pre++(fC ar f len op++post)->(∀g∈(a::ba.map gQ).dropLast,(ops.getD g.toNat ⟨0,0,0⟩).a<op)->0<=s->s+h' ar f<=131072->nc ops (fC ar f len op) len ((a,s)::ba)=some ((a,s+h' ar f)::ba)
 |.nil,len,op,pre,post,a,s,ba,_,_,_,_,_,_=>by simp[fC,nc,h']
 |.cons t n b r,len,op,pre,post,a,s,ba,⟨h1,ae,z⟩,ak,c,ay,y,h=>by
  rw[fC]at c;rw[fC,PL];rw[h']at h;have inner:∀(len op:Nat)(pre post:List cr)(a s:Int)(ba:List c9),pre.length=len->ops=pre++((bif b.leaf then ar.getD n.toNat []else fC ar b len op)++post)->(∀g∈(a::ba.map gQ).dropLast,(ops.getD g.toNat ⟨0,0,0⟩).a<op)->0<=s->s+(bif b.leaf then(ar.getD n.toNat []).length else h' ar b:Nat)<=131072->nc ops (bif b.leaf then ar.getD n.toNat []else fC ar b len op) len ((a,s)::ba)=some ((a,s+(bif b.leaf then(ar.getD n.toNat []).length else h' ar b:Nat))::ba):=by
   intro len op pre post a s ba w m A C j;cases q:b.leaf with
   |true=>
    rw[q]at j;simp only[oY]at j⊢;refine ajr ops _ _ _ _ _ (λx l=>?_) j;by_cases p:n.toNat<ar.length;rw[cx,bZ p,ps]at l;exact hk _ (cG p) x l;rw[cx,l6 I]at l;cases l
   |false=>
    rw[q]at m j;simp only[uA]at m j⊢;exact WZ ar hk ops b len op pre post a s ba ae w m A C j
  have v:nc ops (jR t op len (bif b.leaf then ar.getD n.toNat []else fC ar b (len+fk t) (op+fk t))) len ((a,s)::ba)=some ((a,s+((if 1<t then 1+t.toNat*((bif b.leaf then(ar.getD n.toNat []).length else h' ar b)+1)else(bif b.leaf then(ar.getD n.toNat []).length else h' ar b):Nat):Int))::ba):=by
   by_cases d:1<t;rw[aP d]at h⊢;rw[jR,aP d]at c⊢;have d1:fk t=1:=aP d;rw[d1]at c⊢;have hm:=aAI (u:=(bif b.leaf then(ar.getD n.toNat []).length else h' ar b)) d;have o:ops.getD len ⟨0,0,0⟩=⟨1,op,t⟩:=by rw[c,<-ak];simp[cx]
   rw[nc,aAK rfl (λg i=>by have:=ay g i;show _≠(op:Int);omega),ta,PL];rw[inner (len+1) (op+1) (pre++[⟨1,op,t⟩]) (⟨2,op,(len:Int)+1⟩::(fC ar r (len+((⟨1,op,t⟩:cr)::((bif b.leaf then ar.getD n.toNat []else fC ar b (len+1) (op+1))++[⟨2,op,(len:Int)+1⟩])).length) op++post)) len 0 ((a,s)::ba) (by simp[ak]) (by rw[c];simp) ?_ I I];have e:(t.toNat:Int)=t:=Int.toNat_of_nonneg I;rw[ta,nc,agw rfl (by show _=(op:Int);rw[bz,o]) rfl,ta,nc];simp only[bz,o];have B:∀u:Nat,((1+t.toNat*(u+1):Nat):Int)=1+t*((u:Int)+1):=λu=>by rw[LP,Int.natCast_mul,e];rfl
   rw[LP]at h;rw[B]at h⊢;generalize((bif b.leaf then(ar.getD n.toNat []).length else h' ar b:Nat):Int)=u at h⊢;rw[Int.zero_add,anm d I];congr 3;omega;intro g i;rw[ec,akM bd]at i;rcases ek.1 i with rfl|i;simp only[bz,o];omega;have:=ay g i;omega;rw[aD d]at h⊢;rw[jR,aD d]at c⊢;have d1:fk t=0:=aD d;rw[d1]at c⊢;rw[kC]at c;exact inner len op pre _ a s ba ak c ay y I
  rw[v,ta];have:=WZ ar hk ops r (len+(jR t op len (bif b.leaf then ar.getD n.toNat []else fC ar b (len+fk t) (op+fk t))).length) op (pre++jR t op len (bif b.leaf then ar.getD n.toNat []else fC ar b (len+fk t) (op+fk t))) post a (s+((if 1<t then 1+t.toNat*((bif b.leaf then(ar.getD n.toNat []).length else h' ar b)+1)else(bif b.leaf then(ar.getD n.toNat []).length else h' ar b):Nat):Int)) ba z (by rw[fc,ak]) (by rw[c];simp) ay I I;rw[this,h',LP,Int.add_assoc]
end Go.Sx
namespace Go.Sx
open Go.Proofs
set_option maxRecDepth 100000
set_option maxHeartbeats 0
set_option linter.all false
theorem nd{P:eN}{n:Nat}{c:eb}{x y:IR}{Q:k7}{e:cy}{L:List LE}{h:J}{b:Bool}(ay:c.get e= .v (c5 b))(t:b=true->di P n x Q (zl e c true) L h)(f:b=false->di P n y Q (zl e c false) L h):di P n (.cond c x y) Q e L h:=by
 show(match c.get e with|.v (c5 b)=>fT b (di P n x Q (zl e c true) L h) (di P n y Q (zl e c false) L h)|_=>False);rw[ay];exact uw t f
theorem Rg{h:J}{b ty:Nat}{F M ar:List ax}(c:h b=some (bb (F++(M++ar)).toArray ty (0,0))){k o:Nat}{v:ax}(hk:k=F.length+o)(a:M[o]?=some v):h.cell? ⟨b,k,none⟩=some v:=by
 obtain⟨h1,ae⟩:=pZ.1 a;have e:(F++(M++ar))[k]?=some v:=by
  grind
 unfold J.cell?
 grind
def sQ(p:iw):List aK:=[.v (R p.mem),.v (R p.bj),.v (R p.ins),.v (R p.outs),.v (ab p.jf p.parts.length p.cN),.v (ab p.eU p.lines.length p.lc),.v (ab p.cj p.ops.length p.bO)]
theorem ann{r t:Int}(a:0<=r)(b:0<=t):0<=ym r t/\ym r t<=131073:=by
 unfold ym;split;rename_i h;have al:0<=t*r:=akE b a;by_cases h1:0<t;have:=(XL h1).1 h
 grind
 grind
 omega
theorem rj.acp{ops:List cr}{i:Nat}:∀{ba:List c9},rj ops i ba->∀f∈ba.dropLast,0<=f.1/\f.1<i/\(ops.getD f.1.toNat ⟨0,0,0⟩).k=1
 |[],h,_,_=>h.elim
 |[_],_,_,c=>by grind
 |a::b::r,⟨h1,_,d⟩,f,c=>by
  rw[akM bd]at c;rcases ek.1 c with rfl|c;omega;exact d.acp f c
theorem aFN Q e p al h1(ok:p.ok al)(ak:p.ops.length<=131072)(ay:0<=p.bj/\p.bj<=1000)(pE:0<=p.ins/\p.ins<=1000)(ac2:0<=p.outs/\p.outs<=1000)(JT:p.parts.length<=1000)(acQ:p.lines.length<=1000)(ao:∀i ai,BL p i p.ops[i]) T b gl(ei:r4 al h1 (some ⟨b,0,none⟩) 1 gl [(-1,0)])(N:nc p.ops p.ops 0 [(-1,0)]=some [(-1,T)])(he:[1,4,18,19,20].map (λs=>K2 [.own (sQ p) 42,.b4 b] (e s))=[.p 0 0,.v (ab (some ⟨b,0,none⟩) 1 gl),.v (ab p.cj p.ops.length p.bO),.v (R p.ops.length),.v (R (0:Nat))])(cM:∀e aa A c,[1,4].map e=[.p 0 0,.v (ab A 1 c)]->r4 al aa A 1 c [(-1,T)]->Q (.exit 0) e [.own (sQ p) 42] aa):kB (λQ e L h=>di aB 180 auI Q e L h) Q e [.own (sQ p) 42,.b4 b] h1:=by
 unfold sQ at he cM⊢;refine .afz [0] (Nat×List c9×Option aI×Nat) [1,4,18,19,20] (λ(i,ba,A,c)=>[.p 0 0,.v (ab A ba.length c),.v (ab p.cj p.ops.length p.bO),.v (R p.ops.length),.v (R i)]) (λ_=>[.own [.v (R p.mem),.v (R p.bj),.v (R p.ins),.v (R p.outs),.v (ab p.jf p.parts.length p.cN),.v (ab p.eU p.lines.length p.lc),.v (ab p.cj p.ops.length p.bO)] 42]) (λ(i,ba,A,c) aa=>r4 al aa A ba.length c ba/\rj p.ops i ba/\nc p.ops (p.ops.drop i) i ba=some [(-1,T)]/\i<=p.ops.length/\ba.length<=i+1) (λ(i,_)=>p.ops.length-i) (0,[(-1,0)],some ⟨b,0,none⟩,gl) (λ_=>rfl) ⟨ei,⟨rfl,aM,aM⟩,N,cW _,dz _⟩ he rfl rfl ?_;clear ei N he h1;refineλ⟨i,ba,A,c⟩ e h⟨x,y,hw,ai,tt⟩=>.ah (az λgE de gm=>de _ _ _ (az λgA db ev=>aY (λq=>?_) (λq=>?_)))
 .have F:i<p.ops.length:=I;rw[mE F,nc]at hw;have AH:=ao i F;obtain⟨bR,hO⟩:=ok.ops.cg I;have ma:=(ok.ops.mono x.le).row hO (i:=i) (r:=cr.cells p.ops[i]) aJ;obtain⟨op,X⟩:∃op,p.ops[i]=op:=⟨_,rfl⟩;have snd:=aDB p h (ok.mono x.le) i F ak op X ay pE ac2 JT acQ aJ;rw[X]at hw AH ma;cases ba with
  |nil=>exact y.elim
  |cons top ba=>
   obtain⟨b,ar,rfl,aA,O,bn,kP,JP,Ao⟩:=x.top;have aHp:c<=9223372036854775807:=by unfold eD at Ao;omega
   refine db _ _ _ (az λgj c6 fD=>fb λgk dZ ez=>az λhs dG hE=>.m bR hO (.hp op.cells rfl (by rw[bz];exact ma) (dG _ _ _ (az λgZ ea g6=>az λiK eT hg=>.ah (.mk _ snd ?_)))));rintro _ af ⟨rfl,ex⟩;rw[ex];refine eT _ _ _ ?_;refine ea _ _ _ ?_;have SI:∀o,((⟨b,0,none⟩:aI).add (x6 (((top::ba).length:Int)-1)*2)).add o=⟨b,ba.length*2+o,none⟩:=λo=>by
    rw[add_lit,add_lit,iv,dM,show((ba.length+1:Nat):Int)-1=(ba.length:Int) by omega,bz]
   have G:∀o v,(cN top)[o]?=some v->h.cell? (((⟨b,0,none⟩:aI).add (x6 (((top::ba).length:Int)-1)*2)).add o)=some v:=λo v an=>by
    rw[SI];exact Rg O (by rw[bn]) an
   have kk:=y.steps;have fin:∀(e:cy)(L:List LE)(ae:J)(w:List c9)(Z:Option aI)(br:Nat),[1,4,18,19,20].map e=[.p 0 0,.v (ab Z w.length br),.v (ab p.cj p.ops.length p.bO),.v (R p.ops.length),.v (R i)]->w.length<=i+2->rj p.ops (i+1) w->nc p.ops (p.ops.drop (i+1)) (i+1) w=some [(-1,T)]->(∀K:List LE->J->Prop,(∀oQ Y,oQ.take 1=[.own [.v (R p.mem),.v (R p.bj),.v (R p.ins),.v (R p.outs),.v (ab p.jf p.parts.length p.cN),.v (ab p.eU p.lines.length p.lc),.v (ab p.cj p.ops.length p.bO)] 42]->r4 al Y Z w.length br w->K oQ Y)->hc K L ae)->gk .normal e L ae:=by
    refineλe L ae w Z br P mi aqr pI rJ=>ez _ _ _ _ nofun (c6 _ _ _ ?_);rw[<-fK [1,4,18,19,20] e,P];exact .bg (rJ _ λoQ Y hv aqy=>⟨(i+1,w,Z,br),rfl,hv,⟨aqy,aqr,pI,F,mi⟩,by show p.ops.length- (i+1)<p.ops.length-i;omega⟩)
   obtain⟨k,d,n⟩:=op;refine az λjl fa jc=>.bg (.mk ⟨b,0,none⟩ rfl I I (fa _ _ _ (az λjV hf h6=>hf _ _ _ (fb λkD gK S=>?_))));unfold BL at AH;simp only[cr.mk.injEq]at AH;have atC:(k=0/\i+1=p.ops.length)\/(k=1)\/(k=2)\/(k=3\/k=4\/k=5\/k=6\/k=7):=I;rcases atC with⟨rfl,aH⟩|rfl|rfl|hk;have C:ba=[]:=by
    cases ba with
    |nil=>rfl
    |cons=>simp[u3]at hw
   subst C;have C:u3 p.ops i ⟨0,d,n⟩ [top]=some [(top.1,min (top.2+1) 131073)]:=rfl;rw[C,ta]at hw;obtain⟨V,U⟩:=x.put O (min (top.2+1) 131073);refine .hp (R top.2) (G 1 _ rfl) (.bg (.ah (.mk _ (Rf _ _) ?_)));rintro _ af ⟨rfl,ex⟩;rw[ex];refine .hp b ([].length*2+1) 374 _ _ (SI 1) O V ?_;refine S _ _ _ _ nofun ?_;exact fin _ _ _ [(top.1,min (top.2+1) 131073)] _ _ rfl bd (y.mono.put I I) hw λK l=>.ah (l _ _ rfl U);have E:((top::ba).dropLast.all (λf=>decide ((p.ops.getD f.1.toNat ⟨0,0,0⟩).a≠d)))=true:=by
    by_cases q:((top::ba).dropLast.all (λf=>decide ((p.ops.getD f.1.toNat ⟨0,0,0⟩).a≠d)))=true;omega;have:u3 p.ops i ⟨1,d,n⟩ (top::ba)=none:=by
     show(if((top::ba).dropLast.all (λf=>decide ((p.ops.getD f.1.toNat ⟨0,0,0⟩).a≠d)))=true then _ else none)=none;rw[aD q]
    rw[this]at hw;cases hw
   have C:u3 p.ops i ⟨1,d,n⟩ (top::ba)=some (((i:Int),0)::top::ba):=by
    show(if((top::ba).dropLast.all (λf=>decide ((p.ops.getD f.1.toNat ⟨0,0,0⟩).a≠d)))=true then _ else none)=_;rw[aP E]
   rw[C,ta]at hw;refine az λr8 kS rO=>kS _ _ _ (nd rfl (λ_=>?_) nofun);refine az λpt kx oD=>az λtb mn wi=>.mk 1 (top::ba).length rfl rfl bd JP λrf nU _=>mn _ _ _ (fb λBG sG CC=>?_);have WM:=x.dV.drop (B:=rf) (k:=1) (λq=>nU I) bd;have dl:(top::ba).length-1=ba.length:=bd;rw[dl]at WM⊢;rw[<-List.map_drop]at WM;refine .kY (.ah (asp BG _ p h (ok.mono x.le) i _ _ c ba.length rf _ ⟨1,d,n⟩ ((top::ba).reverse.drop 1) WM I (λf a7=>?_) rfl λaQ P=>?_));rw[List.drop_one,List.tail_reverse,List.mem_reverse]at a7;obtain⟨f1,f2,f3⟩:=y.acp f a7;exact⟨f1,I,q2 (rl.1 E f a7)⟩;refine sG _ _ _ (kx _ _ _ ?_);rw[<-fK [1,4,5,6,18,19,20] aQ,P];refine .ah (QV (aG:=[R i,R 0]) x.row rfl (by intro u hu;rcases ek.1 hu with rfl|hu;rfl;rw[hV]at hu;subst hu;rfl) aM rfl (by unfold eD;omega) I (λcu ew aT nC=>?_) (λdL c2 D SO=>?_));refine S _ _ _ _ nofun (fin _ _ _ (((i:Int),0)::top::ba) _ _ rfl (by simp only[iv]at tt⊢;omega) (y.push (by rw[cx,bZ F,X];rfl)) hw λK l=>.ah (l _ _ rfl ⟨ll ?_ x.le,?_,x.new,rfl,nofun⟩));exact x.new _ aT;rw[Qs,fF,vr];exact nC;refine S _ _ _ _ nofun (fin _ _ _ (((i:Int),0)::top::ba) _ _ rfl (by simp only[iv]at tt⊢;omega) (y.push (by rw[cx,bZ F,X];rfl)) hw λK l=>.b4 3 374 2 dL _ c2 _ rfl λY ds dU f3=>.ah (l _ _ rfl ⟨J.le_trans x.le ds,?_,λg am=>J.none_le x.le (f3 g am),rfl,D⟩));rw[Qs,fF,vr];exact dU;obtain⟨low,ba,rfl⟩:∃a b,ba=a::b:=by
    cases ba with
    |nil=>simp[u3]at hw
    |cons a b=>simp
   have E:(p.ops.getD top.1.toNat ⟨0,0,0⟩).a=d/\n=top.1+1:=by
    by_cases q:(p.ops.getD top.1.toNat ⟨0,0,0⟩).a=d/\n=top.1+1;omega;have:u3 p.ops i ⟨2,d,n⟩ (top::low::ba)=none:=by
     show(if(p.ops.getD top.1.toNat ⟨0,0,0⟩).a=d/\n=top.1+1 then _ else none)=none;rw[aD q]
    rw[this]at hw;cases hw
   rw[agw rfl E.1 E.2,ta]at hw;obtain⟨kG,rfl⟩:=E;obtain⟨⟨JZ,J0,W⟩,_,M⟩:=y;have yX:top.1.toNat<p.ops.length:=I;have Ra:=(ok.ops.mono x.le).row hO (i:=top.1.toNat) (r:=cr.cells p.ops[top.1.toNat]) (by rw[dH,bZ yX];rfl);have Tt:=ao _ yX;rw[cx,bZ yX,ps]at kG W hw;obtain⟨⟨aes,T2,j⟩,ag⟩:∃q,p.ops[top.1.toNat]=q:=⟨_,rfl⟩;rw[ag]at Ra Tt kG W hw;simp only at kG W hw;subst kG W;have aHD:1<=j/\j<=2048:=by
    unfold BL at Tt;simp only[cr.mk.injEq]at Tt;omega
   have gb:∀(e:cy)(z:Int),0<=z->z<=131073->z=ym (top.2+1) j->[1,4,6,11,18,19,20].map e=[.p 0 0,.v (ab (some ⟨b,0,none⟩) (top::low::ba).length c),.p 1 0,.v (R z),.v (ab p.cj p.ops.length p.bO),.v (R p.ops.length),.v (R i)]->di aB 180 (.seq (.cd auK) (.seq (.cd auL) (.cd auM))) kD e [.own [.v (R p.mem),.v (R p.bj),.v (R p.ins),.v (R p.outs),.v (ab p.jf p.parts.length p.cN),.v (ab p.eU p.lines.length p.lc),.v (ab p.cj p.ops.length p.bO)] 42,.own [.v (bA .u8 (2:Nat)),.v (R T2),.v (R (top.1+1))] 66] h:=by
    intro e z z0 jj a1 P;have e9:=x.pop;have dl:(top::low::ba).length-1=(low::ba).length:=bd;rw[dl]at e9;obtain⟨cu,vw,D,sC,eu,arr,_,aHQ,_⟩:=e9.top;injection D with D;injection D with D;subst D;have aH0:=M.steps;have H:∀o,((⟨b,0,none⟩:aI).add (x6 (((low::ba).length:Int)-1)*2)).add o=⟨b,ba.length*2+o,none⟩:=λo=>by
     rw[add_lit,add_lit,iv,dM,show((ba.length+1:Nat):Int)-1=(ba.length:Int) by omega,bz]
    rw[<-fK [1,4,6,11,18,19,20] e,P];refine az λX' T4 ayf=>.bg (.mk 0 (low::ba).length rfl I (cW _) I λrf nU _=>?_);have uD:rf=some ⟨b,0,none⟩:=(nU I).trans rfl;subst uD;refine T4 _ _ _ (az λaGI aye aIc=>.bg (.mk ⟨b,0,none⟩ rfl I I (aye _ _ _ (.hp (R low.2) (by rw[alC,H];exact Rg eu (by rw[arr]) rfl) (.bg (.ah (.mk _ (Rf _ _) ?_)))))));rintro _ af ⟨rfl,ex⟩;rw[ex];obtain⟨V,U⟩:=e9.put eu (min (low.2+z) 131073);refine .hp b (ba.length*2+1) 374 _ _ (by rw[alC];exact H 1) eu V ?_;refine S _ _ _ _ nofun ?_;rw[<-a1]at hw;exact fin _ _ _ ((low.1,min (low.2+z) 131073)::ba) _ _ rfl (by simp only[iv]at tt⊢;omega) (M.mono.put I I) hw λK l=>.ah (l _ _ rfl U)
   refine az λr8 kS rO=>kS _ _ _ (nd rfl nofun (λ_=>az λpt kx oD=>kx _ _ _ (nd rfl (λ_=>?_) nofun)));refine az λtb mn wi=>az λBG sG CC=>.hp (R top.1) (G 0 _ rfl) (.mk bR hO JZ I (.hp _ (Ra 1 _ rfl) ?_));conv=>whnf
   rw[show decide (({k:=1,a:=T2,b:=j}:cr).a≠({k:=2,a:=T2,b:=top.1+1}:cr).a)=false from bd];refine .hp (R top.1) (G 0 _ rfl) (.bg (sG _ _ _ (aY (λq=>absurd rfl q) (λ_=>mn _ _ _ (az λDu xH Ke=>.hp (R top.2) (G 1 _ rfl) (.bg (xH _ _ _ (az λL9 G7 NX=>G7 _ _ _ (az λQB CB T5=>az λX9 Kc aeu=>.hp (R top.1) (G 0 _ rfl) (.mk bR hO JZ I (.hp _ (Ra 2 _ rfl) (Kc _ _ _ (az λQC Kd aev=>?_)))))))))))));conv=>whnf
   have aHY:0<=131072/j/\131072/j<=131072:=⟨Int.ediv_nonneg aM I,Int.ediv_le_self _ aM⟩;have aHl:=ann (r:=top.2+1) (t:=j) I I;have hmul:top.2+1<=131072/j->0<=j*(top.2+1)/\j*(top.2+1)<=131072:=λq=>by
    have:=(XL I).1 q;rw[akD]at this;exact⟨akE I I,this⟩
   rw[Int.tdiv_eq_ediv_of_nonneg aM];refine .mk (by simp only;omega) (.ok (by simp only;omega) (by simp only;omega) (Kd _ _ _ (aY (λq=>?_) (λq=>?_))));obtain⟨aL,aH⟩:=hmul q;refine .ok (by simp only;omega) (by simp only;omega) (.ok (by simp only;omega) (by simp only;omega) (CB _ _ _ (gb _ (1+j*(top.2+1)) I I (by rw[ym,aP q]) rfl)));refine CB _ _ _ (gb _ 131073 I I (by rw[ym,aD q]) rfl);have C:u3 p.ops i ⟨k,d,n⟩ (top::ba)=some ((top.1,min (top.2+1) 131073)::ba):=agx (by simp only;omega);rw[C,ta]at hw;obtain⟨V,U⟩:=x.put O (min (top.2+1) 131073);rcases hk with rfl|rfl|rfl|rfl|rfl;all_goals
    refine .hp (R top.2) (G 1 _ rfl) (.bg (.ah (.mk _ (Rf _ _) ?_)))
    rintro _ af ⟨rfl,ex⟩
    rw[ex]
    refine .hp b (ba.length*2+1) 374 _ _ (SI 1) O V ?_
    refine S _ _ _ _ nofun ?_
    exact fin _ _ _ ((top.1,min (top.2+1) 131073)::ba) _ _ rfl (Nat.le_succ_of_le tt) (y.mono.put I I) hw λK l=>.ah (l _ _ rfl U)
 refine ev _ _ _ _ nofun ?_;obtain rfl:i=p.ops.length:=by omega
 rw[Ql,nc]at hw;injection hw with hw;subst hw;exact cM _ _ _ _ rfl x
end Go.Sx
namespace Go.Sx
set_option maxRecDepth 100000
set_option maxHeartbeats 0
set_option linter.all false
theorem Rq:∀f op cZ d k,(iF f d k).1=0->d<=16->op<=d->iy f op cZ<=max cZ 17
 |.nil,_,_,_,_,_,_,_=>als _ _
 |.cons t n b r,op,cZ,d,k,h,a,e=>by
  simp only[iF]at h;split at h;rename_i h1;rw[iy];have i:=Rq r op (iy b (op+fk t) (if 1<t then max cZ (op+1)else cZ)) d _ h a e;have ay:(if 1<t then max cZ (op+1)else cZ)<=max cZ 17:=by split<;>omega
  have g:iy b (op+fk t) (if 1<t then max cZ (op+1)else cZ)<=max (if 1<t then max cZ (op+1)else cZ) 17:=by
   cases ak:b.leaf with
   |true=>
    have:b= .nil:=by cases b with|nil=>rfl|cons=>cases ak
    rw[this,iy];exact als _ _
   |false=>
    have c:fk t<=1:=by unfold fk;split<;>omega
    rw[ak]at h1;unfold j1 at h1;split at h1;cases h1;split at h1;cases h1;rename_i ae;split at h1;cases h1;split at h1;rename_i q;cases q;split at h1;cases h1;exact Rq b _ _ (d+1) _ h1 (by have:¬16<=d:=λq=>ae ⟨rfl,q⟩;omega) I
  omega;rename_i h1;exact absurd h h1
theorem Gl:∀f op cZ,cZ<=iy f op cZ
 |.nil,_,_=>dz _
 |.cons t n b r,op,cZ=>by
  rw[iy];have h1:=Gl r op (iy b (op+fk t) (if 1<t then max cZ (op+1)else cZ));have ae:=Gl b (op+fk t) (if 1<t then max cZ (op+1)else cZ);have:cZ<=(if 1<t then max cZ (op+1)else cZ):=by split<;>omega
  omega
theorem aEQ{t n:Int}{b r:eJ}(hp:oh (.cons t n b r)):t.toNat<=fJ (.cons t n b r)/\fJ r<=fJ (.cons t n b r)/\(b.leaf=false->fJ b<=fJ (.cons t n b r)):=by
 obtain⟨h1,ae,e⟩:=hp;rw[fJ];have c:1<=(bif b.leaf then 1 else fJ b):=by
  cases ak:b.leaf with
  |true=>exact dz _
  |false=>exact WR b ae ak
 have d:t.toNat*1<=t.toNat*(bif b.leaf then 1 else fJ b):=alz _ c;have a:1*(bif b.leaf then 1 else fJ b)<=t.toNat*(bif b.leaf then 1 else fJ b):=ur _ I;refine⟨I,I,λak=>?_⟩;rw[ak]at a⊢;simp only[uA]at a⊢;omega
theorem RF ar:∀f len op cZ,oh f->∀x∈fC ar f len op,(∃r∈ar,x∈r)\/(x.k=1/\0<=x.a/\x.a+1<=iy f op cZ/\1<=x.b/\x.b<=fJ f)\/(x.k=2/\0<=x.a/\x.a+1<=iy f op cZ/\0<=x.b/\x.b<(len+(fC ar f len op).length:Nat))
 |.nil,_,_,_,_,x,c=>by simp[fC]at c
 |.cons t n b r,len,op,cZ,hp,x,c=>by
  obtain⟨v,w,u⟩:=aEQ hp;obtain⟨h1,ae,p⟩:=hp;rw[fC]at c⊢;rw[fc];rw[iy];have g0:iy b (op+fk t) (if 1<t then max cZ (op+1)else cZ)<=iy r op (iy b (op+fk t) (if 1<t then max cZ (op+1)else cZ)):=Gl _ _ _;have g1:(if 1<t then max cZ (op+1)else cZ)<=iy b (op+fk t) (if 1<t then max cZ (op+1)else cZ):=Gl _ _ _;rcases ej.1 c with c|c;have j:∀y∈(bif b.leaf then ar.getD n.toNat []else fC ar b (len+fk t) (op+fk t)),(∃r∈ar,y∈r)\/(y.k=1/\0<=y.a/\y.a+1<=(iy b (op+fk t) (if 1<t then max cZ (op+1)else cZ):Nat)/\1<=y.b/\y.b<=(fJ (.cons t n b r):Nat))\/(y.k=2/\0<=y.a/\y.a+1<=(iy b (op+fk t) (if 1<t then max cZ (op+1)else cZ):Nat)/\0<=y.b/\y.b<(len+fk t+(bif b.leaf then ar.getD n.toNat []else fC ar b (len+fk t) (op+fk t)).length:Nat)):=by
   intro y l;cases ak:b.leaf with
   |true=>
    rw[ak,oY]at l;refine bW ?_;by_cases o:n.toNat<ar.length;rw[cx,bZ o,ps]at l;exact⟨_,cG o,l⟩;rw[cx,l6 I]at l;cases l
   |false=>
    rw[ak,uA]at l;have:=u ak;rcases RF ar b (len+fk t) (op+fk t) (if 1<t then max cZ (op+1)else cZ) ae y l with q|⟨e,d,h,g,i⟩|⟨e,d,h,g,i⟩;exact bW q;exact bl (bW ⟨e,d,h,g,I⟩);exact bl (bl ⟨e,d,h,g,i⟩)
  rw[jR]at c⊢;by_cases m:1<t;have d1:fk t=1:=aP m;rw[aP m]at c⊢;rw[d1]at c j g0 g1⊢;rw[aP m]at g0 g1 j⊢;generalize(bif b.leaf then ar.getD n.toNat []else fC ar b (len+1) (op+1))=s at c j⊢;simp only[iv,fc,Qp];rcases ek.1 c with rfl|c;exact bl (bW ⟨rfl,by simp only;omega,by simp only;omega,by simp only;omega,by simp only;omega⟩);rcases ej.1 c with c|c;rcases j x c with q|⟨e,d,h,g,i⟩|⟨e,d,h,g,i⟩;exact bW q;exact bl (bW ⟨e,d,I,g,i⟩);exact bl (bl ⟨e,d,I,g,I⟩);rw[hV]at c;subst c;exact bl (bl ⟨rfl,by simp only;omega,by simp only;omega,by simp only;omega,by simp only;omega⟩);have d1:fk t=0:=aD m;rw[aD m]at c⊢;rw[d1]at c j g0 g1⊢;rw[aD m]at g0 g1 j⊢;generalize(bif b.leaf then ar.getD n.toNat []else fC ar b (len+0) (op+0))=s at c j⊢;rcases j x c with q|⟨e,d,h,g,i⟩|⟨e,d,h,g,i⟩;exact bW q;exact bl (bW ⟨e,d,I,g,i⟩);exact bl (bl ⟨e,d,I,g,I⟩);rcases RF ar r _ _ (iy b (op+fk t) (if 1<t then max cZ (op+1)else cZ)) p x c with q|⟨e,d,h,g,i⟩|⟨e,d,h,g,i⟩;exact bW q;exact bl (bW ⟨e,d,h,g,I⟩);exact bl (bl ⟨e,d,h,g,I⟩)
end Go.Sx
