/- A part of the proof that the statement holds. Conditions: none. -/
import Derived.Test.YtlbdbpaelcnfgaaGreatDoorAC
import Derived.Test.YtlbdbpaelcnfgaaGreatDoorAO
open Bool renaming eq_false_iff->GY
open Decidable renaming byContradiction->xH,not_not->alR,of_not_not->aIv
open Go renaming Addr->aE,Value->aA,madeCells->tK,maxLen->eQ
open Go.Addr renaming add->M8,mk->oA
open Go.Obj renaming cells->bb
open Go.Proofs renaming ltOf->Y'
open Go.Proofs.Tryz renaming prog->aD
open Go.Value renaming bool->dh,pointer->gR,slice->ab,tuple->eA
open Int renaming eq_ofNat_of_zero_le->JM,le_refl->y4,toNat_natCast->bn
open List renaming Perm->A0,append_assoc->mg,append_nil->sf,cons_append->A2,drop_drop->RW,eq_nil_of_length_eq_zero->y7,filterMap_cons->amt,filterMap_nil->amu,flatten_append->wy,foldl_cons->vk,getD_eq_getElem?_getD->cc,getElem?_append->EF,getElem?_eq_getElem->bK,getElem?_eq_some_iff->qO,getElem_mem->b3,length_append->fb,length_cons->iJ,length_drop->mU,length_filterMap_le->amF,length_range->R5,length_take->mV,map_append->fw,map_cons->er,map_drop->Nk,map_map->ig,map_take->G8,mem_append->eI,mem_cons->ez,mem_cons_of_mem->gd,mem_cons_self->hq,mem_filterMap->JT,mem_map->cO,mem_map_of_mem->G9,mem_of_mem_drop->amM,mem_of_mem_take->Nl,mem_range->vl,mem_singleton->hZ,not_mem_nil->y9,range->fJ,range_succ->CG,replicate->bp,replicate_succ->A4,take_append_drop->Ha,take_of_length_le->mJ,zipWith->sh
open List.Nodup renaming length_le_of_subset->aIz
open List.cons renaming injEq->A1
open Nat renaming le_refl->dM,le_succ->am6,le_trans->lf,lt_succ_self->A8,mul_le_mul->mh,mul_le_mul_right->vn,mul_one->e4,not_lt_zero->CK,succ_pos->ane,zero_add->dZ,zero_le->cU
open Ne renaming symm->eh
open Or renaming inl->bQ,inr->ba
namespace Go.Sx
open Go.Proofs Go.Sort
set_option maxRecDepth 100000
set_option maxHeartbeats 0
set_option linter.all false
variable {N s z:Int}{rows:List (List Int)}{ek:List Bool}{az dB:List Int}{os:List Nat}{ad:List b2}{a8 aV bm l:List dv}{b c cap d m n o q:Nat}{A F X:Option aE}
theorem J.none_le{h aa:J}(x:h.le aa)(e:aa o=none):h o=none:=by
 cases q:h o with
 |none=>rfl
 |some U=>rw[x _ _ q]at e;cases e
variable {H am h:J}
theorem aBf{p:Nat}:xm rows p q=true↔∃k,k<rows.length/\pq (rows.getD k []) p=true/\pq (rows.getD k []) q=true:=by
 unfold xm;rw[List.any_eq_true];constructor;rintro⟨r,a,h⟩;obtain⟨k,hk,e⟩:=List.getElem_of_mem a;refine⟨k,hk,?_⟩
 grind
 grind
theorem apR{a:J}{B:Option aE}{ey:Nat}{cq:Nat->Option aE×Nat}(r:a b=none)(o:JY a B rows cq)(C:∀i,i<rows.length->(rows.getD i []).length=m)(hm:m<=1000000)(G:rows.length<=1000000)(N:Int)(A:Option aE)(n cap:Nat)(x:mK (a.put b (kZ 7 [] 0)) b (λ_ _=>False) [] 0)(Q:mi)(e:cg)(he:[6,8].map e=[.v (ab B rows.length ey),.v (.map (some b))])(z:∀d cC jK,mK (a.put b (kZ 7 cC jK)) b (λp q=>p<q/\q<m/\xm rows p q=true) cC jK->[8].map d=[.v (.map (some b))]->Q .normal d (AZ N A n cap) (a.put b (kZ 7 cC jK))):dq aD 72 (.seq (.ck Vv) (.block 0 (.loop Vt))) Q e (AZ N A n cap) (a.put b (kZ 7 [] 0)):=by
 have c:=fi [6,8] e;rw[he]at c;rw[<-c];refine .mk (Nat×List ja×Nat) [8,25,26,27] (λ(k,_,_)=>[.v (.map (some b)),.v (ab B rows.length ey),.v (R rows.length),.v (R k)]) (λ_=>AZ N A n cap) (λ(k,l,f) aa=>aa=a.put b (kZ 7 l f)/\k<=rows.length/\mK aa b (λp q=>p<q/\q<m/\∃j,j<k/\pq (rows.getD j []) p=true/\pq (rows.getD j []) q=true) l f) (λ(k,_,_)=>rows.length-k) (0,[],0) (λ(_,_,_)=>rfl) ⟨rfl,cU _,x.eqv λp q=>⟨False.elim,λ⟨_,_,j,h,_⟩=>absurd h (CK _)⟩⟩ rfl rfl ?_;rintro⟨k,l,f⟩ e aa ⟨rfl,H,x⟩;show dq aD 72 (.seq (.ck afd) (.seq (.cond (.t 28) .skip (.exit 0)) (.seq (.block 1 (.seq (.ck afe) (.seq (.ck Pm) (.block 2 (.loop Pj))))) (.ck afc)))) _ _ _ _;generalize D:IR.seq (.ck Pm) (.block 2 (.loop Pj))=F;refine aW (λu=>?_) (λu=>?_);have hk:k<rows.length:=I;obtain⟨g,s⟩:=o.outer.b4 I;have w:=o.inner k hk;rw[C k hk]at w;refine .m g s (.hp (ab (cq k).1 m (cq k).2) (by rw[bn];exact(o.outer.mono (J.d' r)).one s (aBb hk) aL) ?_);conv=>whnf
 subst D;refine apT r w hm N A n cap x _ _ _ _ _ rfl λd cC jK y E=>?_;have c:=fi [8,25,26,27] d;rw[E]at c;rw[<-c];refine .bl (⟨(k+1,cC,jK),rfl,rfl,⟨rfl,I,y.eqv λp q=>?_⟩,aL⟩)
 grind
 have:k=rows.length:=I;subst this;exact z _ l f (x.eqv λp q=>by rw[aBf]) rfl
structure RK(cy:J)(b r:Nat)(S:Nat->Nat->Prop)(l:List ja)(cx:Nat)(aa:J)(seen:Array Nat)(outs:List dv)(E:Option aE)(b0:Nat):Prop where
 le:cy.le aa
 mp:mK aa b S l cx
 it:aa r=some (.mapIter (some b) cx seen cx)
 go:AV l seen outs
 row:bw aa 278 2 E outs.length b0 (outs.map c7).flatten
 tn:∀g,E=some g->cy g.block=none/\g.block≠b/\g.block≠r
theorem mK.of{aa:J}{S:Nat->Nat->Prop}{l:List ja}{a:Nat}(m:mK h b S l a)(e:aa b=h b):mK aa b S l a:=⟨e.trans m.at_,m.sub,m.all,m.dE,m.x4,m.gp⟩
theorem apV{h:J}{r:Nat}{S:Nat->Nat->Prop}{l:List ja}{d:Nat}(B:r≠b)(DB:h r=none)(t:∀outs:List dv,outs.Nodup->(∀p∈outs,∃i o:Nat,p=((i:Int),(o:Int))/\S i o)->outs.length<=1000000)(g0:RK h b r S l d H #[] [] none 0) Q(e:cg) L(he:[13,60].map e=[.v (ab none 0 0),.v (gR (some ⟨r,0,none⟩))])(V:∀F aa(outs:List dv) E c,h.le aa->outs.Nodup->(∀p,p∈outs↔∃i o:Nat,p=((i:Int),(o:Int))/\S i o)->(∀g,E=some g->h g.block=none)->[13].map F=[.v (ab E outs.length c)]->Q .normal F [.row 278 2 E outs.length c (outs.map c7).flatten] aa):dq aD 72 (.block 6 (.loop Vu)) Q e L H:=by
 have M:=fi [13,60] e;rw[he]at M;rw[<-M];refine .mb [] (Array Nat×List dv×Option aE×Nat) [13,60] (λ(_,outs,E,c)=>[.v (ab E outs.length c),.v (gR (some ⟨r,0,none⟩))]) (λ_=>[]) (λ(seen,outs,E,c) aa=>RK h b r S l d aa seen outs E c) (λ(seen,_,_,_)=>(mw l seen).length) (#[],[],none,0) (λ(_,_,_,_)=>rfl) g0 rfl rfl rfl ?_;rintro⟨seen,outs,E,c⟩ e aa g;have w:h.le (en aa E):=Bp g.le λq a=>(g.tn q a).1;have N:∀o,(∀q,E=some q->o≠q.block)->en aa E o=aa o:=λo T=>by
  cases E with
  |none=>rfl
  |some q=>exact J.nA _ (T q rfl)
 have c6:en aa E b=aa b:=N b λq a=>eh (g.tn q a).2.1;have Z:en aa E r=aa r:=N r λq a=>eh (g.tn q a).2.2;have kJ:=g.mp.of c6;refine .abs 278 2 E outs.length c _ g.row (.ag (.mk b d d d seen (l.map (k5 7)).toArray (Z.trans g.it) kJ.at_ (λx n=>?_) (dM _) (λam=>?_) (λiU C=>?_)));obtain⟨y,s,rfl⟩:=cO.1 (by omega:x∈l.map (k5 7));exact g.mp.x4 _ (G9 (f:=(·.born)) s);have P:mw l seen=[]:=by
  have h1:=agv l seen
  grind
 exact V _ _ outs E c w g.go.dE (g.go.done g.mp P) (λq a=>(g.tn q a).1) rfl;rw[agv]at C;obtain⟨x,n,rfl⟩:=cO.1 C;obtain⟨yx,j2⟩:=List.mem_filter.1 n;obtain⟨i,o,hk,dy⟩:=g.mp.sub _ (G9 (f:=(·.k)) yx);have j:(k5 7 x).key= .agg #[R i,R o]:=by show k8 7 x.k=_;rw[hk];rfl
 have pK:(k5 7 x).born=x.born:=rfl;have O:∀p∈outs,∃i o:Nat,p=((i:Int),(o:Int))/\S i o:=λp hp=>by
  obtain⟨y,s,D,_⟩:=g.go.sub p hp;obtain⟨tH,pQ,aR,an⟩:=g.mp.sub _ (G9 (f:=(·.k)) s)
  grind
 have cP:=t outs g.go.dE O;rw[j,pK];refine .mk b d d seen (l.map (k5 7)).toArray (k5 7 x) (J.b8 _ _ _) ((J.cD _ _ (eh B)).trans kJ.at_) aL ?_ ?_;have D:(l.map (k5 7)).toArray.toList.map (·.born)=l.map (·.born):=by simp[k5]
 rw[D];exact g.mp.gp;rw[j];refine .ag (.c0 0 _ [R i,R o] rfl rfl (by intro u hu;simp at hu;rcases hu with rfl|rfl<;>rfl) (by grind [eQ]) I λm A KW=>.b5 0 278 2 m (outs.length+1) A _ rfl λaT z Y f4=>.ag ⟨(seen.push x.born,outs++[((i:Int),(o:Int))],m,A),?_,rfl,?_,aAH n⟩);show _=[aN.v (ab m (outs++[((i:Int),(o:Int))]).length A),aN.v (gR (some ⟨r,0,none⟩))];rw[fb];rfl;have G:∀q,m=some q->q.block≠r:=λq a e=>by
  have:=f4 q a;rw[e,J.b8]at this
  grind
 have K:∀q,m=some q->en aa E q.block=none:=λq a=>by
  have:=f4 q a;rwa[J.cD _ _ (G q a)]at this
 have W:h.le ((en aa E).put r (.mapIter (some b) d (seen.push x.born) d)):=λpQ U X=>by
  rw[J.cD _ _ (λq=>aL)];exact w _ _ X
 refine⟨J.le_trans W z,kJ.of ?_,z _ _ (J.b8 _ _ _),g.go.step g.mp.dE g.mp.gp n hk,?_,λq a=>⟨J.none_le w (K q a),λe=>?_,G q a⟩⟩;rw[kJ.at_];exact z _ _ ((J.cD _ _ (eh B)).trans kJ.at_);rw[fb,fw,wy];exact Y;have:=K q a;rw[e,kJ.at_]at this
 grind
theorem Sw m(outs:List dv)(c:outs.Nodup)(h:∀p∈outs,∃i o:Nat,p=((i:Int),(o:Int))/\i<m/\o<m):outs.length<=m*m:=by
 have h1:=aIz (l₂:=(fJ m).flatMap λi:Nat=>(fJ m).map λo:Nat=>((i:Int),(o:Int))) c λp hp=>by
  obtain⟨i,o,rfl,a,b⟩:=h p hp;exact List.mem_flatMap.2 ⟨i,vl.2 a,cO.2 ⟨o,vl.2 b,rfl⟩⟩
 refine lf h1 (Nat.le_of_eq ?_);have:∀k:Nat,((fJ k).map λ_=>m).sum=k*m:=λk=>by
  induction k with
  |zero=>simp
  |succ k d=>rw[CG,fw,List.sum_append,d];grind
 simp_all
def alL(h:J)(N:Int)(ad:List b2)(az:List Int)(v:aA)(aa:J):Prop:=
 h.le aa/\((eJ N ad az).1≠0->v=eA #[ab none 0 0,R (eJ N ad az).1])/\
  ((eJ N ad az).1=0->∃E c,v=eA #[ab E (lo (eJ N ad az).2 ad.length).length c,R 0]/\bw aa 278 2 E (lo (eJ N ad az).2 ad.length).length c ((lo (eJ N ad az).2 ad.length).map c7).flatten/\∀g,E=some g->h g.block=none)
theorem apS N n cap ad A D r G az h(aw:bg h 5 A n (ad.map b2.cells))(j:n*40<=140737488355328)(V:bg h 1 D r (az.map λz=>[R z])):Fn aD 119 #[nQ N A n cap,ab D r G] h λv aa=>alL h N ad az v aa:=by
 refine bU aya rfl (.ag (.mk _ (ao1 N n cap ad A D r G az h aw j V) (λv h1⟨t,g,ak⟩=>?_)));by_cases he:(eJ N ad az).1=0;obtain⟨v,X,rfl,⟨B,c,cq,rfl,a⟩,fe,W⟩:=ak he;have y:=(a.lists).mono fe;have F:=a.lens;have M:fF N ad=0:=by
  refine xH λC=>?_;rw[zl C]at he;omega
 have hm:=(mM M).2.2.1;have iC:=ao3 N ad az;obtain⟨rows,K⟩:∃rows,(eJ N ad az).2=rows:=⟨_,rfl⟩;rw[K]at y F iC⊢;generalize lu:IR.seq (IR.ck Vv) (IR.block 0 (IR.loop Vt))=c1;generalize T:IR.block 6 (IR.loop Vu)=x7;refine .mk λb g=>?_;conv=>whnf
 subst lu;refine apR g y F I I N A n cap (mK.start (J.b8 _ _ _)) _ _ rfl λY l d x pL=>?_;have f:=fi [8] Y;rw[pL]at f;rw[<-f];refine .mk (l.map (k5 7)).toArray d x.at_ λr m=>?_;conv=>whnf
 subst T;have i:r≠b:=λe=>by rw[e,J.b8]at m;cases m
 have L:h1 r=none:=by rwa[J.cD _ _ i]at m
 have g0:RK h1 b r (λp q=>p<q/\q<ad.length/\xm rows p q=true) l d ((h1.put b (kZ 7 l d)).put r (.mapIter (some b) d #[] d)) #[] [] none 0:=by
  refine⟨λo U k=>?_,x.of ?_,J.b8 _ _ _,AV.start l,⟨rfl,bQ ⟨rfl,rfl,rfl⟩⟩,λ_ e=>by cases e⟩;rw[J.cD _ _ (λe=>aL)];exact J.d' g _ _ k;exact J.cD _ _ (eh i)
 refine apV i L (λouts j C=>lf (Sw ad.length outs j λp hp=>?_) (lf (mh hm hm) aH)) g0 _ _ _ rfl λZ ae outs E s S H w7 tn gg=>?_
 grind
 have oi:outs.length<=9216:=lf (Sw ad.length outs H λp hp=>by
  grind) (mh hm hm)
 have f:=fi [13] Z;rw[gg]at f;rw[<-f];refine .b5 0 278 2 E outs.length s _ rfl λax hG Q f3=>.ag (.mk _ (aFw E outs.length s outs ax Q I) ?_);rintro _ aT ⟨aV,rfl,u,lQ,same⟩;have P:aV=lo rows ad.length:=aFC u H λp=>(w7 p).trans I8.symm;have nM:aV.length=outs.length:=u.perm.length_eq;refine .ag ⟨λo U k=>?_,λq=>absurd he q,λ_=>⟨E,s,?_,?_,λq w=>?_⟩⟩;have O:=t _ _ k;rw[same o λq w e=>?_];exact hG _ _ (S _ _ O)
 grind
 rw[K,<-P,nM];rfl
 grind
 exact J.none_le t (tn q w);obtain rfl:=g he;refine aW (λ_=>?_) (λq=>absurd he q);exact .ag ⟨t,λ_=>rfl,λq=>absurd q he⟩
def we(x y:dv):Bool:=decide (max x.1 y.1<min (x.1+x.2) (y.1+y.2))
def NB(x:dv):Prop:= -1000000000000<=x.1/\x.1<=1000000000000/\ -1000000000000<=x.2/\x.2<=1000000000000
theorem aFn x y h(b:NB x)(a:NB y):Fn aD 64 #[.agg #[R x.1,R x.2],.agg #[R y.1,R y.2]] h λv aa=>v=dh (we x y)/\aa=h:=by
 obtain⟨e,a2,a3,a4⟩:=b;obtain⟨c,d,f,g⟩:=a;exact bU azK rfl (.bl (.bl (.ag ⟨rfl,rfl⟩)))
def p3(l:List dv):Int:=l.foldl (λn x=>max n (x.1+x.2)) 0
theorem aGN l x:p3 (l++[x])=max (p3 l) (x.1+x.2):=by simp[p3]
theorem akJ A n cap l h(a:bg h 2 A n (l.map c7))(d:∀x∈l,NB x)(i:n<=1000000000000000000):Fn aD 65 #[ab A n cap] h λv aa=>v=R (p3 l)/\aa=h:=by
 have al:l.length=n:=by simpa using a.len
 refine bU azL rfl (.mk Nat [3,6,7,8] (λk=>[.v (R (p3 (l.take k))),.v (ab A n cap),.v (R n),.v (R k)]) (λ_=>[]) (λk aa=>aa=h/\k<=n) (λk=>n-k) 0 (λ_=>rfl) ⟨rfl,cU _⟩ rfl rfl (λk e aa⟨rfl,hk⟩=>aW (λu=>?_) (λu=>?_)));have o:k<l.length:=I;obtain⟨g,b⟩:=a.b4 I;obtain⟨x,j⟩:∃x,x=l[k]:=⟨_,rfl⟩;obtain⟨p,a2,a3,a4⟩:=d x aL;have f:(l.map c7)[k]?=some (c7 x):=aL;refine .m g b (.hp (c7 x) rfl (by rw[bn];exact a.row b f) (.bl (.bl (⟨k+1,?_,rfl,⟨rfl,I⟩,I⟩))));have c:l.take (k+1)=l.take k++[x]:=by simp_all
 rw[c,aGN];rfl;have:k=n:=I;subst this;refine .ag ⟨?_,rfl⟩;rw[mJ I];rfl
def j6(a8:List dv)(a:Int):List Int:=a8.filterMap λp=>if a=p.1 then some p.2 else if a=p.2 then some p.1 else none
theorem aBT l x a:j6 (l++[x]) a=j6 l a++j6 [x] a:=by simp[j6]
theorem aBS E F n c m d l a h(s:bg h 2 E n (l.map c7))(G:n<=1000000):Fn aD 61 #[.agg #[ab E n c,ab F m d],R a] h λv aa=>h.le aa/\∃B ey,v=ab B (j6 l a).length ey/\bg aa 1 B (j6 l a).length ((j6 l a).map λz=>[R z]):=by
 have al:l.length=n:=by simpa using s.len
 refine bU azJ rfl ?_;refine .mb [] (Nat×Option aE×Nat) [1,5,9,10,11] (λ(k,B,ey)=>[.v (R a),.v (ab B (j6 (l.take k) a).length ey),.v (ab E n c),.v (R n),.v (R k)]) (λ_=>[]) (λ(k,B,ey) aa=>h.le aa/\k<=n/\bw aa 3 1 B (j6 (l.take k) a).length ey ((j6 (l.take k) a).map R)/\∀g,B=some g->h g.block=none) (λ(k,_,_)=>n-k) (0,none,0) (λ(_,_,_)=>rfl) ⟨J.le_refl _,cU _,⟨rfl,bQ ⟨rfl,rfl,rfl⟩⟩,λ_ e=>by cases e⟩ rfl rfl rfl ?_;rintro⟨k,B,ey⟩ e aa ⟨y,hk,row,r⟩;have o:=Bp y r;have L:(j6 (l.take k) a).length<=k:=by
  unfold j6
  grind
 refine .abs 3 1 B _ ey _ row (.ag (aW (λu=>?_) (λu=>?_)));have K:k<l.length:=I;obtain⟨g,j⟩:=s.b4 I;obtain⟨x,H⟩:∃x,x=l[k]:=⟨_,rfl⟩;have D:(l.map c7)[k]?=some (c7 x):=aL;have w:l.take (k+1)=l.take k++[x]:=by simp_all
 have q:=aBT (l.take k) x a;rw[<-w]at q;have fin:∀{b:Option aE}{c2:Nat}{z:Int}{aT:J},j6 [x] a=[z]->(en aa B).le aT->bw aT 3 1 b ((j6 (l.take k) a).length+1) c2 ((j6 (l.take k) a).map R++[R z])->(∀g,b=some g->en aa B g.block=none)->h.le aT/\k+1<=n/\bw aT 3 1 b (j6 (l.take (k+1)) a).length c2 ((j6 (l.take (k+1)) a).map R)/\∀g,b=some g->h g.block=none:=λ{b c2 z aT} i f ro f4=>by
  refine⟨J.le_trans o f,I,?_,λg j=>J.none_le o (f4 g j)⟩
  grind
 refine .m g j (.hp (c7 x) rfl (by rw[bn];exact(s.mono o).row j D) (aW (λt=>?_) (λt=>?_)));have i:j6 [x] a=[x.2]:=by simp[j6,t]
 refine .ag (.c0 0 _ [R x.2] rfl rfl (by intro u hu;simp at hu;subst hu;rfl) (by grind [eQ]) I λb c2 _=>.bl (.b5 0 3 1 b ((j6 (l.take k) a).length+1) c2 _ rfl λaT f p f4=>.ag ⟨(k+1,b,c2),?_,rfl,fin i f p f4,aL⟩));show _=[aN.v (R a),aN.v (ab b (j6 (l.take (k+1)) a).length c2),_,_,_];rw[q,i,fb];rfl;refine aW (λC=>?_) (λC=>?_);have i:j6 [x] a=[x.1]:=by
  grind [j6]
 refine .ag (.c0 0 _ [R x.1] rfl rfl (by intro u hu;simp at hu;subst hu;rfl) (by grind [eQ]) I λb c2 _=>.bl (.b5 0 3 1 b ((j6 (l.take k) a).length+1) c2 _ rfl λaT f p f4=>.ag ⟨(k+1,b,c2),?_,rfl,fin i f p f4,aL⟩));show _=[aN.v (R a),aN.v (ab b (j6 (l.take (k+1)) a).length c2),_,_,_];rw[q,i,fb];rfl;have i:j6 [x] a=[]:=by
  grind [j6]
 rw[i,sf]at q;refine .bl (.b5 0 3 1 B _ ey _ rfl λaT f p f4=>.ag ⟨(k+1,B,ey),?_,rfl,?_,aL⟩);show _=[aN.v (R a),aN.v (ab B (j6 (l.take (k+1)) a).length ey),_,_,_];rw[q];rfl;refine⟨J.le_trans o f,I,?_,λg j=>J.none_le o (f4 g j)⟩
 grind
 have:k=n:=I;subst this;have A:l.take k=l:=mJ I;refine .b5 0 3 1 B _ ey _ rfl λaT f p f4=>.ag ⟨J.le_trans o f,B,ey,?_,?_⟩;show ab B (j6 (l.take k) a).length ey=_;rw[A];have:=p.one
 grind
def np(N:Int)(ad:List b2)(az:List Int):Int:=if(eJ N ad az).1≠0 then(eJ N ad az).1 else if BP N ad az=true then 0 else 181
def amX(h:J)(N:Int)(ad:List b2)(az:List Int)(v:aA)(aa:J):Prop:=
 h.le aa/\(np N ad az≠0->v=eA #[.agg #[ab none 0 0,ab none 0 0],R (np N ad az)])/\
  (np N ad az=0->∃E c F d,v=eA #[.agg #[ab E (lo (eJ N ad az).2 ad.length).length c,ab F ad.length d],R 0]/\bg aa 2 E (lo (eJ N ad az).2 ad.length).length ((lo (eJ N ad az).2 ad.length).map c7)/\
   bg aa 1 F ad.length ((ma (eJ N ad az).2).map λz=>[R z]))
theorem bw.Jo{bF:Nat}{xs:List dv}(r:bw h bF 2 A n cap (xs.map c7).flatten):bg h 2 A n (xs.map c7):=r.dK (λr a=>by obtain⟨x,_,rfl⟩:=cO.1 a;rfl) aH
theorem aAS N n cap ad A D r e az h(j:bg h 5 A n (ad.map b2.cells))(i:n*40<=140737488355328)(f:bg h 1 D r (az.map λz=>[R z])):Fn aD 57 #[nQ N A n cap,ab D r e] h λv aa=>amX h N ad az v aa:=by
 refine bU azG rfl (.ag (.mk _ (apS N n cap ad A D r e az h j i f) (λv h1⟨b,s,t⟩=>?_)));by_cases he:(eJ N ad az).1=0;obtain⟨E,c,rfl,g,_⟩:=t he;refine .ag (.mk _ (auN N n cap ad A D r e az h1 (j.mono b) i (f.mono b)) ?_);rintro v ae ⟨rfl,d⟩;have a:np N ad az=if BP N ad az=true then 0 else 181:=by unfold np;omega
 cases k:BP N ad az with
 |true=>
  rw[k,aS rfl]at a;refine .ag (.mk _ (aBs N n cap ad A D r e az ae (j.mono (J.le_trans b d)) i (f.mono (J.le_trans b d))) ?_);rintro v y ⟨l,_,o⟩;obtain⟨v,X,rfl,u,p,_⟩:=o he;obtain⟨m,x,rfl,w⟩:=u.2 (Sy he);exact .ag ⟨J.le_trans b (J.le_trans d l),λq=>absurd a q,λ_=>⟨E,c,some m,x,rfl,(g.Jo).mono (J.le_trans d l),(w.mono p).one⟩⟩
 |false=>
  rw[k]at a;have a:np N ad az=181:=a;refine .ag ⟨J.le_trans b d,λ_=>?_,λq=>absurd (a.symm.trans q) aH⟩;rw[a];rfl
 obtain rfl:=s he;have a:np N ad az=(eJ N ad az).1:=by unfold np;omega
 refine aW (λ_=>?_) (λq=>absurd he q);refine .ag ⟨b,λ_=>?_,λq=>absurd (a.symm.trans q) he⟩;rw[a];rfl
def C9(x y:Int):Int:=if x<y then-1 else if y<x then 1 else 0
theorem ahr x h:Fn aD 123 #[R x] h λv aa=>v=dh false/\aa=h:=by
 refine bU aye rfl (.ag ⟨?_,rfl⟩);show dh (decide (x≠x))=_;simp
theorem ap3 x y h:Fn aD 60 #[R x,R y] h λv aa=>v=R (C9 x y)/\aa=h:=by
 refine bU azI rfl (.ag (.mk _ (ahr x h) ?_));rintro _ _ ⟨rfl,rfl⟩;refine .ag (.mk _ (ahr y _) ?_);rintro _ _ ⟨rfl,rfl⟩;refine aW (λu=>?_) (λu=>?_);refine .ag ⟨?_,rfl⟩;unfold C9;rw[aS u];rfl;refine aW (λa=>?_) (λa=>?_);refine .ag ⟨?_,rfl⟩;unfold C9;rw[aC u,aS a];rfl;refine .ag ⟨?_,rfl⟩;unfold C9;rw[aC u,aC a];rfl
structure s4(h:J)(q:Nat)(X F:Option aE)(k c m d:Nat)(dB:List Int):Prop where
 cell:h q=some (bb [ab X k c,ab F m d].toArray 188 (0,0))
 dK:bg h 1 F m (dB.map λz=>[R z])
theorem Mn{k:Nat}(f:s4 h q X F k c m d dB)(_hm:m<=1000000){a:Nat}(i:a<m)(j:b<m):Fn aD 59 #[R a,R b,gR (some ⟨q,0,none⟩)] h λv aa=>v=R (C9 (dB.getD b 0) (dB.getD a 0))/\aa=h:=by
 have al:dB.length=m:=by simpa using f.dK.len
 obtain⟨g,e⟩:=f.dK.b4 I;have ld:∀o,o<m->h.cell? (g.add ((o:Int).toNat*1))=some (R (dB.getD o 0)):=λo l=>by
  rw[bn];exact f.dK.one e (r:=[R (dB.getD o 0)]) aL rfl
 have cl:∀o v,[ab X k c,ab F m d][o]?=some v->h.cell? ⟨q,o,none⟩=some v:=λo v n=>by
  unfold J.cell?
  grind [f.cell]
 refine bU azH rfl (.hp (ab F m d) (cl 1 _ rfl) (.m g e (.hp _ (ld b j) (.hp (ab F m d) (cl 1 _ rfl) (.m g e (.hp _ (ld a i) (.mk _ (ap3 _ _ h) ?_ ?_)))))));rintro _ _ ⟨rfl,rfl⟩;exact J.le_refl _;exactλ_ _⟨rfl,rfl⟩=>.ag ⟨rfl,rfl⟩
theorem avU{k:Nat}(f:s4 h q X F k c m d dB)(hm:m<=1000000)(A:Option aE)(n cap:Nat)(xs:List Nat)(b:bg h 1 A n (xs.map λz:Nat=>[R (z:Int)]))(y:n<=1000000)(j:∀x∈xs,x<m)(s:∀i(l:i+1<xs.length),¬C9 (dB.getD xs[i] 0) (dB.getD xs[i+1] 0)<0):Fn aD 167 #[ab A n cap,R 0,R n,.func (.func 59) #[] #[gR (some ⟨q,0,none⟩)]] h λv aa=>v=eA #[]/\aa=h:=by
 have al:xs.length=n:=by simpa using b.len
 refine bU afN rfl (.bl (.mk Nat [0,1,2,3,8] (λi=>[.v (ab A n cap),.v (R 0),.v (R n),.v (.func (.func 59) #[] #[gR (some ⟨q,0,none⟩)]),.v (R (i+1:Nat))]) (λ_=>[]) (λi aa=>aa=h) (λi=>n-i) 0 (λ_=>rfl) rfl rfl rfl ?_));rintro i e aa rfl;refine aW (λu=>?_) (λu=>?_);have l:i+1<n:=I;obtain⟨g,a⟩:=b.b4 I;have ld:∀o(p:o<n),aa.cell? (g.add ((o:Int).toNat*1))=some (R (xs[o]'I:Int)):=λo p=>by
  rw[bn];exact b.one a (r:=[R (xs[o]'I:Int)]) aL rfl
 refine .mk Unit [0,1,2,3,8,9] (λ_=>[.v (ab A n cap),.v (R 0),.v (R n),.v (.func (.func 59) #[] #[gR (some ⟨q,0,none⟩)]),.v (R (i+1:Nat)),.v (R (i+1:Nat))]) (λ_=>[]) (λ_ ae=>ae=aa) (λ_=>0) () (λ_=>rfl) rfl rfl rfl ?_;rintro _ B ae rfl;refine aW (λ_=>?_) (λq=>absurd (show((i+1:Nat):Int)>0 by omega) q);refine .m g a ?_;refine .hp _ (ld (i+1) l) ?_;refine .bl ?_;have t:((i+1:Nat):Int)-1=(i:Nat):=I;rw[t];refine .m g a (.hp _ (ld i I) (.mk _ (Mn f hm (j _ (b3 _)) (j _ (b3 _))) ?_ ?_));rintro _ _ ⟨rfl,rfl⟩;exact J.le_refl _;rintro _ _ ⟨rfl,rfl⟩;exact aW (λw=>absurd w (s i I)) (λ_=>.bl (⟨i+1,rfl,rfl,rfl,I⟩));exact .ag ⟨rfl,rfl⟩
theorem aFL{k:Nat}(f:s4 h q X F k c m d dB)(hm:m<=1000000)(A:Option aE)(n cap:Nat)(xs:List Nat)(g:bg h 1 A n (xs.map λz:Nat=>[R (z:Int)]))(j:n<20)(b:∀x∈xs,x<m)(e:∀i(o:i+1<xs.length),¬C9 (dB.getD xs[i] 0) (dB.getD xs[i+1] 0)<0):Fn aD 122 #[ab A n cap,R n,.func (.func 59) #[] #[gR (some ⟨q,0,none⟩)]] h λv aa=>v=eA #[]/\aa=h:=by
 refine bU VD rfl (.mk Unit [0,1,2,6,7,8] (λ_=>[.v (ab A n cap),.v (R n),.v (.func (.func 59) #[] #[gR (some ⟨q,0,none⟩)]),.v (R 20),.v (R 0),.v (R 20)]) (λ_=>[]) (λ_ ae=>ae=h) (λ_=>0) () (λ_=>rfl) rfl rfl rfl ?_);rintro _ l ae rfl;refine aW (λw=>absurd (show(20:Int)<=(n:Int)from w) I) (λ_=>.ag (.mk _ (avU f hm A n cap xs g I b e) ?_));rintro _ _ ⟨rfl,rfl⟩;refine .mk Unit [0,1,2,6] (λ_=>[.v (ab A n cap),.v (R n),.v (.func (.func 59) #[] #[gR (some ⟨q,0,none⟩)]),.v (R 20)]) (λ_=>[]) (λ_ a=>a=_) (λ_=>0) () (λ_=>rfl) rfl rfl rfl ?_;rintro _ p a rfl;exact aW (λw=>absurd (show(20:Int)<(n:Int)from w) I) (λ_=>.ag ⟨rfl,rfl⟩)
theorem aFK{k:Nat}(f:s4 h q X F k c m d dB)(hm:m<=1000000)(A:Option aE)(n cap:Nat)(xs:List Nat)(g:bg h 1 A n (xs.map λz:Nat=>[R (z:Int)]))(a:n<20)(b:∀x∈xs,x<m)(e:∀i(j:i+1<xs.length),¬C9 (dB.getD xs[i] 0) (dB.getD xs[i+1] 0)<0):Fn aD 58 #[ab A n cap,.func (.func 59) #[] #[gR (some ⟨q,0,none⟩)]] h λv aa=>v=eA #[]/\aa=h:=by
 refine bU afQ rfl (.ag (.mk _ (aFL f hm A n cap xs g a b e) ?_));rintro _ _ ⟨rfl,rfl⟩;exact .ag ⟨rfl,rfl⟩
theorem akF{N T:Nat}{f:List Int}(d:fF N ad=0)(g:Good N ad f T):(dP ad f).length=ad.length/\∀x∈dP ad f,0<=x/\x<=256+64*T:=by
 refine⟨rj _ _,λx c=>?_⟩;obtain⟨a,b,rfl⟩:=cO.1 c;exact⟨g.tok a b,g.akE d b⟩
theorem Z7{N:Nat}{ad:List b2}(c:fF N ad=0):∀az f T,Good N ad f T->∀r∈(fU N ad az f).2,r.length=ad.length/\∀x∈r,0<=x/\x<=256+64*((T+az.length:Nat):Int)
 |[],_,_,_=>λr h=>by cases h
 |v::az,f,T,g=>by
  unfold fU;split;simp;rename_i e;split;rename_i hm;obtain⟨k,rfl⟩:∃k:Nat,v=k:=⟨v.toNat,I⟩;have g2:=g.bump c hm;intro r d;rcases ez.1 d with rfl|d;obtain⟨a,b⟩:=akF c g2
  grind
  obtain⟨a,b⟩:=Z7 c az _ _ g2 r d
  grind
  simp
theorem Z'(h:(eJ N ad az).1=0):fF N ad=0:=by
 refine xH λa=>?_;rw[zl a]at h;omega
theorem ao2(h:(eJ N ad az).1=0):∀r∈(eJ N ad az).2,r.length=ad.length/\∀x∈r,0<=x/\x<=131328:=by
 have c:=Z' h;have e:=mM c;obtain⟨N,rfl⟩:∃q:Nat,N=q:=⟨N.toNat,I⟩;have al:¬2048<az.length:=λq=>by rw[EU c q]at h;cases h
 rw[NI c al];intro r d;rcases ez.1 d with rfl|d;obtain⟨a,b⟩:=akF c (Fk c)
 grind
 obtain⟨a,b⟩:=Z7 c az _ _ (Fk c) r d
 grind
theorem acQ{m:Nat}:∀(rs:List (List Int)) r,r.length=m->(∀s∈rs,s.length=m)->(rs.foldl (λa b=>sh max a b) r).length=m/\∀i,i<m->r.getD i 0<=(rs.foldl (λa b=>sh max a b) r).getD i 0/\(∀s∈rs,s.getD i 0<=(rs.foldl (λa b=>sh max a b) r).getD i 0)/\((rs.foldl (λa b=>sh max a b) r).getD i 0=r.getD i 0\/∃s∈rs,(rs.foldl (λa b=>sh max a b) r).getD i 0=s.getD i 0)
 |[],r,d,_=>⟨d,λi g=>⟨y4 _,(λs h=>by cases h),bQ rfl⟩⟩
 |s::rs,r,d,c=>by
  have h1:=c s (hq ..);have e:(sh max r s).length=m:=aL;obtain⟨a,b⟩:=acQ rs (sh max r s) e λx f=>c x (gd _ f)
  grind
structure J7(rows:List (List Int))(m:Nat)(dB:List Int):Prop where
 len:dB.length=m
 up:∀i,i<m->∀r∈rows,r.getD i 0<=dB.getD i 0
 is:∀i,i<m->∃r∈rows,dB.getD i 0=r.getD i 0
theorem aBe(h:rows≠[])(al:∀r∈rows,r.length=m):J7 rows m (ma rows):=by
 cases rows with
 |nil=>grind
 |cons r rs=>
  obtain⟨a,b⟩:=acQ rs r (al r (hq ..)) λs f=>al s (gd _ f);refine⟨a,λi g s f=>?_,λi g=>?_⟩;obtain⟨c,d,_⟩:=b i g;rcases ez.1 f with rfl|f;exact c;exact d s f;obtain⟨_,_,e⟩:=b i g;rcases e with e|⟨s,f,e⟩;exact⟨r,hq ..,e⟩;exact⟨s,gd _ f,e⟩
theorem L1(h:(eJ N ad az).1=0):J7 (eJ N ad az).2 ad.length (ma (eJ N ad az).2)/\∀i,i<ad.length->0<=(ma (eJ N ad az).2).getD i 0/\(ma (eJ N ad az).2).getD i 0<=131328:=by
 have d:=ao2 h;have p:=aBe (Sy h) λr c=>(d r c).1;refine⟨p,λi f=>?_⟩;obtain⟨r,c,e⟩:=p.is i f;obtain⟨a,b⟩:=d r c;simp_all
def tV(x y:dv):dv:=if we x y then(y.1+y.2,x.2)else x
def lE(s:Int)(aV:List dv):dv:=aV.foldl tV (0,s)
theorem asa s aV y:lE s (aV++[y])=tV (lE s aV) y:=by simp[lE]
def mZ(a:List Int)(bm:List dv)(ek:List Bool):List dv:=a.filterMap λz=>if ek.getD z.toNat false then some (bm.getD z.toNat (0,0))else none
theorem aps l z bm ek:mZ (l++[z]) bm ek=mZ l bm ek++mZ [z] bm ek:=by simp[mZ]
inductive qT(a8:List dv)(dB:List Int)(m:Nat):List Nat->List dv->List Bool->Prop
 |nil:qT a8 dB m [] (bp m (0,0)) (bp m false)
 |step {os:List Nat} {bm:List dv} {ek:List Bool} (a:Nat) (aV:List dv) (h:qT a8 dB m os bm ek) (an:Sm (Y' C7) (mZ (j6 a8 a) bm ek) aV):qT a8 dB m (os++[a]) (bm.set a (lE (dB.getD a 0) aV)) (ek.set a true)
theorem qT.lens(r:qT a8 dB m os bm ek):bm.length=m/\ek.length=m:=by
 induction r with
 |nil=>simp
 |step a aV _ _ b=>grind
theorem SM{a:List Int}{x:dv}(h:x∈mZ a bm ek):∃z∈a,ek.getD z.toNat false=true/\x=bm.getD z.toNat (0,0):=by
 obtain⟨z,b,e⟩:=JT.1 h
 grind
theorem acN{B:Int}(g:0<=B)(d:∀y∈aV,0<=y.1/\0<=y.2/\y.1+y.2<=B):(lE s aV).2=s/\0<=(lE s aV).1/\(lE s aV).1<=B:=by
 have key:∀(aV:List dv)(x:dv),x.2=s->0<=x.1->x.1<=B->(∀y∈aV,0<=y.1/\0<=y.2/\y.1+y.2<=B)->(aV.foldl tV x).2=s/\0<=(aV.foldl tV x).1/\(aV.foldl tV x).1<=B:=by
  intro aV;induction aV with
  |nil=>grind
  |cons y aV e=>
   intro x a b c d;have h1:=d y (hq ..);have ae:=λz f=>d z (gd _ f);simp only[vk];unfold tV;split;exact e _ a I h1.2.2 ae;exact e _ a b c ae
 exact key aV (0,s) rfl (y4 _) g d
theorem qT.Kk(r:qT a8 dB m os bm ek)(b:∀i,0<=dB.getD i 0/\dB.getD i 0<=131328):∀x∈bm,0<=x.1/\0<=x.2/\x.1+x.2<=131328*(os.length:Int):=by
 induction r with
 |nil=>simp
 | @step os bm ek a aV h e k=>
  have hp:=b a;have d:∀y∈aV,0<=y.1/\0<=y.2/\y.1+y.2<=131328*(os.length:Int):=λy c=>by
   obtain⟨z,_,f,rfl⟩:=SM ((e.perm.mem_iff).1 c)
   grind
  obtain⟨g,j,l⟩:=acN (s:=dB.getD a 0) (B:=131328*(os.length:Int)) I d
  grind
theorem acO:∀(l:List dv) a n,l.foldl (λn x=>max n (x.1+x.2)) a<=n↔a<=n/\∀x∈l,x.1+x.2<=n
 |[],a,n=>by simp
 |x::l,a,n=>by
  simp only[vk,acO l,ez,forall_eq_or_imp]
  grind
theorem akL{n:Int}:p3 l<=n↔0<=n/\∀x∈l,x.1+x.2<=n:=acO l 0 n
theorem akK{x:dv}(h:x∈l):x.1+x.2<=p3 l:=(akL.1 (y4 _)).2 x h
theorem GC x y:we x y=true↔x.1<x.1+x.2/\x.1<y.1+y.2/\y.1<x.1+x.2/\y.1<y.1+y.2:=by
 unfold we
 grind
theorem aFo x y:we x y=we y x:=by
 rw[Bool.eq_iff_iff,GC,GC];omega
theorem ar9(e:aV.Pairwise λa b=>Y' C7 b a=false):∀y∈aV,we (lE s aV) y=false:=by
 have key:∀(aV pre:List dv)(x:dv),aV.Pairwise (λa b=>Y' C7 b a=false)->(∀p∈pre,∀y∈aV,p.1<=y.1)->(∀p∈pre,we x p=false)->∀y∈pre++aV,we (aV.foldl tV x) y=false:=by
  intro aV;induction aV with
  |nil=>simp
  |cons z aV g=>
   intro pre x hp i h y d;obtain⟨k,j⟩:=List.pairwise_cons.1 hp;simp only[vk];refine g (pre++[z]) (tV x z) j (λp c w hw=>?_) (λp c=>?_) y aL
   grind [PQ]
   unfold tV;cases f:we x z with
   |false=>
    grind
   |true=>
    rw[GC]at f;rw[aS rfl,GY,ne_eq,GC];rcases eI.1 c with c|c;have h1:=h p c;have ae:=i p c z (hq ..);rw[GY,ne_eq,GC]at h1;omega
    grind
 intro y d;exact key aV [] (0,s) e (λp hp=>by cases hp) (λp hp=>by cases hp) y aL
theorem ar' s aV:(lE s aV).2=s/\((lE s aV).1=0\/∃y∈aV,(lE s aV).1=y.1+y.2):=by
 have key:∀(aV:List dv)(x:dv),(aV.foldl tV x).2=x.2/\((aV.foldl tV x).1=x.1\/∃y∈aV,(aV.foldl tV x).1=y.1+y.2):=by
  intro aV;induction aV with
  |nil=>simp
  |cons z aV c=>
   intro x;simp only[vk];obtain⟨a,b⟩:=c (tV x z);unfold tV at a b⊢
   grind
 exact key aV (0,s)
theorem ahu{a:Int}:z∈j6 a8 a->(a,z)∈a8\/(z,a)∈a8:=by
 intro h;obtain⟨p,hp,e⟩:=JT.1 h
 grind
theorem aBU{a:Int}(b:a≠z)(h:(a,z)∈a8\/(z,a)∈a8):z∈j6 a8 a:=by
 rcases h with h|h;exact JT.2 ⟨(a,z),h,bc⟩;exact JT.2 ⟨(z,a),h,bc⟩
def xG(a8:List dv)(i o:Nat):Prop:=((i:Int),(o:Int))∈a8\/((o:Int),(i:Int))∈a8
def pU(dB:List Int)(i:Nat):Int:=dB.getD i 0
def iq(bm:List dv)(i:Nat):dv:=bm.getD i (0,0)
structure anw(a8:List dv)(dB:List Int)(os:List Nat)(bm:List dv)(ek:List Bool):Prop where
 pl:∀i,ek.getD i false=true↔i∈os
 size:∀i∈os,(iq bm i).2=pU dB i
 base:∀i∈os,0<=(iq bm i).1
 apart:∀i∈os,∀o∈os,xG a8 i o->we (iq bm i) (iq bm o)=false
 tight:∀i∈os,(iq bm i).1=0\/∃o∈os,xG a8 i o/\(iq bm o).1+(iq bm o).2=(iq bm i).1
 N':∀i∈os,(iq bm i).1+(iq bm i).2<=(os.map (pU dB)).sum
theorem ac6{α:Type}(l:List α) a i x d(b:a<l.length):(l.set a x).getD i d=if i=a then x else l.getD i d:=by
 grind
theorem aES(r:qT a8 dB m os bm ek)(H:∀i,0<=pU dB i)(G:∀p∈a8,0<=p.1/\p.1<p.2)(q:os.Nodup)(hm:∀i∈os,i<m):anw a8 dB os bm ek:=by
 induction r with
 |nil=>
  refine⟨λi=>?_,(λi h=>by cases h),(λi h=>by cases h),(λi h=>by cases h),(λi h=>by cases h),(λi h=>by cases h)⟩
  grind
 | @step os bm ek a aV r n b=>
  have A:=q;rw[List.nodup_append]at q;obtain⟨D,_,F⟩:=q;have B:a∉os:=λh=>F a h a (hZ.2 rfl) rfl;have b:=b D λi c=>hm i (List.mem_append_left _ c);have C:a<m:=hm a (List.mem_append_right _ (hZ.2 rfl));obtain⟨M,pl⟩:=r.lens;have K:∀i,iq (bm.set a (lE (dB.getD a 0) aV)) i=if i=a then lE (dB.getD a 0) aV else iq bm i:=λi=>ac6 _ _ _ _ _ I;have E:∀i,(ek.set a true).getD i false=if i=a then true else ek.getD i false:=λi=>ac6 _ _ _ _ _ I;have f:∀i∈os,iq (bm.set a (lE (dB.getD a 0) aV)) i=iq bm i:=λi c=>by grind
  have e6:iq (bm.set a (lE (dB.getD a 0) aV)) a=lE (dB.getD a 0) aV:=aL;have c':∀y∈aV,∃o∈os,xG a8 a o/\y=iq bm o:=λy j=>by
   obtain⟨z,u,w,e⟩:=SM (n.perm.mem_iff.1 j);have d:=(b.pl z.toNat).1 w;have am:0<=z:=by
    rcases ahu u with h|h
    grind
    grind
   have J:((z.toNat:Nat):Int)=z:=Int.toNat_of_nonneg am;exact⟨z.toNat,d,by rcases ahu u with h|h;exact bQ aL;exact ba aL,e⟩
  have L:∀o∈os,xG a8 a o->iq bm o∈aV:=λo d av=>by
   refine n.perm.mem_iff.2 (JT.2 ⟨(o:Int),aBU (λe=>B aL) av,?_⟩);rw[bn,aS ((b.pl o).2 d)];rfl
  have ap:=ar9 (s:=dB.getD a 0) n.ord;obtain⟨v,g⟩:=ar' (dB.getD a 0) aV;have k:((os++[a]).map (pU dB)).sum=(os.map (pU dB)).sum+pU dB a:=bc;have sp:0<=(os.map (pU dB)).sum:=by
   have:∀l:List Nat,0<=(l.map (pU dB)).sum:=λl=>by
    induction l with
    |nil=>simp
    |cons x l b=>grind
   grind
  have gH:∀o,¬xG a8 o o:=λo h=>by
   rcases h with h|h<;>(grind)
  have cs:∀i o,xG a8 i o->xG a8 o i:=λi o h=>h.symm;refine⟨λi=>?_,λi c=>?_,λi c=>?_,λi c o d av=>?_,λi c=>?_,λi c=>?_⟩;rw[E];split
  grind
  rename_i h;rw[b.pl i,eI,hZ]
  grind
  rcases eI.1 c with h|h;rw[f i h];exact b.size i h;rw[hZ.1 h,e6];exact v;rcases eI.1 c with h|h;rw[f i h];exact b.base i h;rw[hZ.1 h,e6];rcases g with g|⟨y,j,g⟩;omega;obtain⟨o,d,_,rfl⟩:=c' y j;have:=b.base o d;have:=b.size o d
  grind
  rcases eI.1 c with h|h<;>rcases eI.1 d with aa|aa;rw[f i h,f o aa];exact b.apart i h o aa av;rw[hZ.1 aa]at av⊢;rw[f i h,e6,aFo]
  grind
  grind
  grind
  rcases eI.1 c with h|h;rw[f i h];rcases b.tight i h with t|⟨o,d,av,t⟩;omega
  grind
  grind
  rw[k];rcases eI.1 c with h|h;rw[f i h];have:=b.N' i h
  grind
  rw[hZ.1 h,e6,v];rcases g with g|⟨y,j,g⟩;show(lE (dB.getD a 0) aV).1+pU dB a<=_;omega;obtain⟨o,d,_,rfl⟩:=c' y j;have:=b.N' o d;show(lE (dB.getD a 0) aV).1+pU dB a<=_;omega
structure Fin(rows:List (List Int))(m:Nat)(dB:List Int)(bm:List dv):Prop where
 len:bm.length=m
 size:∀i,i<m->(iq bm i).2=pU dB i
 base:∀i,i<m->0<=(iq bm i).1
 apart:∀i,i<m->∀o,o<m->xG (lo rows m) i o->we (iq bm i) (iq bm o)=false
 tight:∀i,i<m->(iq bm i).1=0\/∃o,o<m/\xG (lo rows m) i o/\(iq bm o).1+(iq bm o).2=(iq bm i).1
 N':∀i,i<m->(iq bm i).1+(iq bm i).2<=((fJ m).map (pU dB)).sum
theorem aDi{l cC:List Int}(h:l.Perm cC):l.sum=cC.sum:=by
 induction h with
 |nil=>rfl
 |cons x _ c=>simp[c]
 |swap x y l=>grind
 |trans _ _ a b=>omega
theorem ajj(r:qT (lo rows m) dB m os bm ek)(d:∀i,0<=pU dB i)(hp:os.Perm (fJ m)):Fin rows m dB bm:=by
 have hm:∀i,i∈os↔i<m:=λi=>by grind
 have k:=aES r d (λp hp=>by
  obtain⟨i,o,rfl,a,_⟩:=I8.1 hp;omega) ((hp.nodup_iff).2 List.nodup_range) λi b=>(hm i).1 b
 refine⟨r.lens.1,λi b=>k.size i ((hm i).2 b),λi b=>k.base i ((hm i).2 b),λi b o c=>k.apart i ((hm i).2 b) o ((hm o).2 c),λi b=>?_,λi b=>?_⟩;rcases k.tight i ((hm i).2 b)with t|⟨o,c,t⟩;omega
 grind
 have:=k.N' i ((hm i).2 b);rwa[aDi (hp.map (pU dB))]at this
theorem aa1{i:Nat}(c:i<m)(b:o<m)(d:i≠o):xG (lo rows m) i o↔xm rows i o=true:=by
 have a:∀i o,xm rows i o=xm rows o i:=λi o=>by
  unfold xm
  grind
 unfold xG;rw[I8,I8]
 grind
theorem arz(f:Fin rows m dB bm){i:Nat}(a:i<m):(iq bm i).1+(iq bm i).2<=p3 bm:=by
 have:iq bm i∈bm:=by
  unfold iq;rw[cc,bK (by grind [f.len])];simp
 exact akK this
def dy(am:J)(b:Nat)(a:List aA)(os:List Nat):J:=am.put b (bb ((os.map λz:Nat=>R (z:Int))++a).toArray 3 (0,0))
theorem Uh am b a os:dy am b a os b=some (bb ((os.map λz:Nat=>R z)++a).toArray 3 (0,0)):=Qw
theorem sQ{c:List aA}(a:z=o) d:(dy am b c os).cell? ((oA b 0 none).add (z.toNat*1))=some (R (os[o]:Nat)):=by
 subst a;rw[bn,e4,add_lit,dZ];unfold J.cell?;simp only[Uh];simp only[List.getElem?_toArray]
 grind
theorem aim:∀(cs:List aA) o v,o<cs.length->over cs o [v]=some (cs.set o v)
 |[],_,_,h=>absurd h (CK _)
 |_::_,0,_,_=>by simp[over]
 |c::cs,o+1,v,h=>by
  have:=aim cs o v (Nat.lt_of_succ_lt_succ h);simp[over,this]
theorem Ed{a:List aA}{v:Nat}{L:List LE}{K:List LE->J->Prop}(c:z=o)(d:o<os.length)(k:K L (dy am b a (os.set o v))):JG L (dy am b a os) ((oA b 0 none).add (z.toNat*1)) [R v] K:=by
 subst c;refine .hp b o 3 _ _ (by rw[bn,e4,add_lit,dZ]) (Uh _ _ _ _) (aim _ o _ aL) ?_;unfold dy at k⊢;rw[J.tS,List.set_append_left _ _ aL];simp_all
def swp(os:List Nat)(i o:Nat):List Nat:=(os.set i (os.getD o 0)).set o (os.getD i 0)
theorem Q6{i:Nat}(b:i<os.length)(a:o<os.length):(swp os i o).Perm os:=by
 unfold swp
 grind
theorem X3{i:Nat} b a:(os.set i os[o]).set o os[i]=swp os i o:=by
 unfold swp
 grind
abbrev kF(q:Nat):aA:=.func (.func 59) #[] #[gR (some ⟨q,0,none⟩)]
def Ho(am:J)(b:Nat)(c:List aA)(os:List Nat)(v:aA)(aa:J):Prop:=v=eA #[]/\∃a:List Nat,a.Perm os/\aa=dy am b c a
theorem X2{f:List aA}(hm:m<=1000000) os(j:os.length=m)(x y n:Int)(k:0<=x)(d:0<=y)(c:0<=n)(p:x+n<=m)(l:y+n<=m):Fn aD 214 #[ab (some ⟨b,0,none⟩) m cap,R x,R y,R n,kF q] (dy am b f os) λv aa=>Ho am b f os v aa:=by
 obtain⟨x,rfl⟩:=JM k;obtain⟨y,rfl⟩:=JM d;obtain⟨n,rfl⟩:=JM c;refine bU ay0 rfl (.mk (Nat×List Nat) [0,1,2,3,10] (λ(i,_)=>[.v (ab (some ⟨b,0,none⟩) m cap),.v (R x),.v (R y),.v (R n),.v (R i)]) (λ_=>[]) (λ(i,aV) aa=>i<=n/\aV.Perm os/\aa=dy am b f aV) (λ(i,_)=>n-i) (0,os) (λ(_,_)=>rfl) ⟨cU _,.refl _,rfl⟩ rfl rfl ?_);rintro⟨i,aV⟩ e aa ⟨s,hp,rfl⟩;have t:aV.length=m:=by rw[hp.length_eq,j]
 refine aW (λu=>?_) (λu=>?_);have h:i<n:=I;refine .bl (.bl (.bl (.r (.hp _ (sQ (o:=y+i) I I) (.bl (.r (.hp _ (sQ (o:=x+i) I I) (.r (Ed (o:=x+i) (v:=aV[y+i]) I I (.r (Ed (o:=y+i) (v:=aV[x+i]) I aL ?_)))))))))));have g:=Q6 (os:=aV) (i:=x+i) (o:=y+i) I I;have a:(aV.set (x+i) aV[y+i]).set (y+i) aV[x+i]=swp aV (x+i) (y+i):=by
  unfold swp
  grind
 rw[a];exact .bl (⟨(i+1,_),rfl,rfl,⟨h,g.trans hp,rfl⟩,aL⟩);exact .ag ⟨rfl,aV,hp,rfl⟩
theorem aEu{f:List aA}(hm:m<=1000000) os(p:os.length=m)(x y n:Int)(w:0<=x)(t:x<y)(j:y<n)(s:n<=m):Fn aD 196 #[ab (some ⟨b,0,none⟩) m cap,R x,R y,R n,kF q] (dy am b f os) λv aa=>Ho am b f os v aa:=by
 refine bU ayU rfl (.bl (.bl (.mk (Int×Int×List Nat) [0,2,4,10,11] (λ(i,o,_)=>[.v (ab (some ⟨b,0,none⟩) m cap),.v (R y),.v (kF q),.v (R i),.v (R o)]) (λ_=>[]) (λ(i,o,aV) aa=>1<=i/\1<=o/\i<=y/\y+o<=m/\aV.Perm os/\aa=dy am b f aV) (λ(i,o,_)=>(i+o).toNat) (y-x,n-y,os) (λ(_,_,_)=>rfl) ⟨I,I,I,I,.refl _,rfl⟩ rfl rfl ?_)));rintro⟨i,o,aV⟩ e aa ⟨l,k,d,h,hp,rfl⟩;have g:aV.length=m:=by rw[hp.length_eq,p]
 refine aW (λu=>?_) (λu=>?_);refine aW (λr=>?_) (λr=>?_);refine .bl (.ag (.mk _ (X2 hm aV g (y-i) y o I I I I I) ?_));rintro _ _ ⟨rfl,a,c,rfl⟩;exact .bl (⟨(i-o,o,a),rfl,rfl,⟨I,k,I,h,c.trans hp,rfl⟩,aL⟩);refine .bl (.bl (.bl (.ag (.mk _ (X2 hm aV g (y-i) (y+o-i) i I I I I I) ?_))));rintro _ _ ⟨rfl,a,c,rfl⟩;exact .bl (⟨(i,o-i,a),rfl,rfl,⟨l,I,d,I,c.trans hp,rfl⟩,aL⟩);refine .bl (.ag (.mk _ (X2 hm aV g (y-i) y i I I I I I) ?_));rintro _ _ ⟨rfl,a,c,rfl⟩;exact .ag ⟨rfl,a,c.trans hp,rfl⟩
theorem ae4{g:List aA}{k:Nat}(hm:m<=1000000)(bs:∀aV,s4 (dy am b g aV) q X F k c m d dB) os(p:os.length=m)(l:∀x∈os,x<m)(x y:Int)(H:0<=x)(G:x<=y)(A:y<=m):Fn aD 167 #[ab (some ⟨b,0,none⟩) m cap,R x,R y,kF q] (dy am b g os) λv aa=>Ho am b g os v aa:=by
 refine bU afN rfl (.bl (.mk (Int×List Nat) [0,1,2,3,8] (λ(i,_)=>[.v (ab (some ⟨b,0,none⟩) m cap),.v (R x),.v (R y),.v (kF q),.v (R i)]) (λ_=>[]) (λ(i,aV) aa=>x+1<=i/\i<=m+1/\aV.Perm os/\aa=dy am b g aV) (λ(i,_)=>(y-i).toNat) (x+1,os) (λ(_,_)=>rfl) ⟨I,I,.refl _,rfl⟩ rfl rfl ?_));rintro⟨i,aV⟩ e aa ⟨D,t,hp,rfl⟩;refine aW (λu=>?_) (λu=>?_);refine .mk (Int×List Nat) [0,1,2,3,8,9] (λ(o,_)=>[.v (ab (some ⟨b,0,none⟩) m cap),.v (R x),.v (R y),.v (kF q),.v (R i),.v (R o)]) (λ_=>[]) (λ(o,az) aa=>x<=o/\o<=i/\az.Perm os/\aa=dy am b g az) (λ(o,_)=>(o-x).toNat) (i,aV) (λ(_,_)=>rfl) ⟨I,I,hp,rfl⟩ rfl rfl ?_;rintro⟨o,az⟩ B ae ⟨C,E,h,rfl⟩;have z:az.length=m:=by rw[h.length_eq,p]
 have f:∀x∈az,x<m:=λx s=>l x (h.mem_iff.1 s);refine aW (λw=>?_) (λw=>?_);obtain⟨a,rfl⟩:=JM (show 0<=o by omega);refine .r (.hp _ (sQ (o:=a) I I) (.bl (.r (.hp _ (sQ (o:=a-1) I I) (.mk _ (Mn (bs az) hm (f _ (b3 _)) (f _ (b3 _))) ?_ ?_)))));rintro _ _ ⟨rfl,rfl⟩;exact J.le_refl _;rintro _ _ ⟨rfl,rfl⟩;refine aW (λn=>?_) (λn=>?_);refine .bl ?_;refine .bl ?_;refine .r ?_;refine .hp _ (sQ (o:=a-1) I I) ?_;refine .r ?_;refine .hp _ (sQ (o:=a) I I) ?_;refine .r ?_;refine Ed (o:=a) (v:=az[a-1]) I I ?_;refine .r ?_;refine Ed (o:=a-1) (v:=az[a]) I aL ?_;have j:=Q6 (os:=az) (i:=a) (o:=a-1) I I;rw[X3 I I];exact .bl (⟨((a:Int)-1,_),rfl,rfl,⟨I,I,j.trans h,rfl⟩,aL⟩);exact .bl (⟨(i+1,az),rfl,rfl,⟨I,I,h,rfl⟩,aL⟩);exact .bl (⟨(i+1,az),rfl,rfl,⟨I,I,h,rfl⟩,aL⟩);exact .ag ⟨rfl,aV,hp,rfl⟩
theorem Of(z:Int):2*z.fdiv 2<=z/\z<=2*z.fdiv 2+1:=by
 grind
noncomputable def XP:IR:=.seq (.ck awP) (.cond (.t 213) (.ck awQ) .skip)
noncomputable def QR:IR:=.seq (.seq (.ck awN) (.cond (.t 199) (.ck awO) .skip)) XP
noncomputable def ajv:IR:=.seq (.seq (.ck afl) (.cond (.t 185) (.ck afm) .skip)) QR
noncomputable def XO:IR:=.seq (.ck afk) ajv
noncomputable def MB:IR:=.seq (.ck awM) (.seq (.block 8 (.loop awz)) XO)
def Hp(am:J)(b:Nat)(a:List aA)(q m cap:Nat)(N:Nat):Prop:=∀(os:List Nat),os.length=m->(∀x∈os,x<m)->∀x y z:Int,(z-x).toNat<N->0<=x->x<y->y<z->z<=m->Fn aD 168 #[ab (some ⟨b,0,none⟩) m cap,R x,R y,R z,kF q] (dy am b a os) λv aa=>Ho am b a os v aa
theorem X5 Q(e:cg){am:J}{b:Nat}{f:List aA}{q m cap N:Nat}(n:Hp am b f q m cap N) os(o:os.length=m)(j:∀x∈os,x<m)(a c h:Int)(p:0<=c)(l:(a-c).toNat<N)(k:a<=m)(he:[0,3,4,18,24].map e=[.v (ab (some ⟨b,0,none⟩) m cap),.v (R a),.v (kF q),.v (R c),.v (R h)])(d:∀e aV,A0 aV os->Q .normal e [] (dy am b f aV)):dq aD 220 XP Q e [] (dy am b f os):=by
 have g:=fi [0,3,4,18,24] e;rw[he]at g;rw[<-g];refine aW (λu=>?_) (λu=>?_);refine aW (λi=>?_) (λi=>?_);refine .ag (.mk _ (n os o j c h a l p u i k) ?_);rintro _ _ ⟨rfl,aV,hp,rfl⟩;exact d _ aV hp;exact d _ os (.refl _);exact d _ os (.refl _)
theorem aGg Q(e:cg){am:J}{b:Nat}{l:List aA}{q m cap N:Nat}(g:Hp am b l q m cap N) os(h:os.length=m)(f:∀x∈os,x<m)(a d c s i:Int)(y:0<=a)(p:0<=c)(n:(d-c).toNat<N)(A:(c-a).toNat<N)(B:c<=m)(j:d<=m)(he:[0,1,3,4,18,20,24].map e=[.v (ab (some ⟨b,0,none⟩) m cap),.v (R a),.v (R d),.v (kF q),.v (R c),.v (R s),.v (R i)])(k:∀e aV,A0 aV os->Q .normal e [] (dy am b l aV)):dq aD 220 QR Q e [] (dy am b l os):=by
 have r:=fi [0,1,3,4,18,20,24] e;rw[he]at r;rw[<-r];unfold QR;generalize av:XP=o;refine aW (λu=>?_) (λu=>?_);refine aW (λt=>?_) (λt=>?_);refine .ag (.mk _ (g os h f a s c A y u t B) ?_);rintro _ _ ⟨rfl,aV,hp,rfl⟩;show dq aD 220 o Q _ [] _;subst av;exact X5 Q _ g aV (by rw[hp.length_eq,h]) (λx z=>f x (hp.mem_iff.1 z)) d c i p n j rfl λe az w=>k e az (w.trans hp);show dq aD 220 o Q _ [] _;subst av;exact X5 Q _ g os h f d c i p n j rfl k;show dq aD 220 o Q _ [] _;subst av;exact X5 Q _ g os h f d c i p n j rfl k
theorem aGd Q(e:cg){am:J}{b:Nat}{g:List aA}{q m cap:Nat}(hm:m<=1000000) os(o:os.length=m)(a k f i s c:Int)(n:0<=s)(l:c<=m)(he:[0,1,2,3,4,18,20,24].map e=[.v (ab (some ⟨b,0,none⟩) m cap),.v (R a),.v (R k),.v (R f),.v (kF q),.v (R i),.v (R s),.v (R c)])(d:∀e aV,[0,1,3,4,18,20,24].map e=[.v (ab (some ⟨b,0,none⟩) m cap),.v (R a),.v (R f),.v (kF q),.v (R i),.v (R s),.v (R c)]->A0 aV os->Q .normal e [] (dy am b g aV)):dq aD 220 (.seq (.ck afl) (.cond (.t 185) (.ck afm) .skip)) Q e [] (dy am b g os):=by
 have h:=fi [0,1,2,3,4,18,20,24] e;rw[he]at h;rw[<-h];refine aW (λu=>?_) (λu=>?_);refine aW (λj=>?_) (λj=>?_);refine .ag (.mk _ (aEu hm os o s k c n u j l) ?_);rintro _ _ ⟨rfl,aV,hp,rfl⟩;exact d _ aV rfl hp;exact d _ os rfl (.refl _);exact d _ os rfl (.refl _)
theorem aGc Q(e:cg){am:J}{b:Nat}{d:List aA}{q m cap:Nat} os a h c g n s(l:0<=s)(j:0<=n)(k:n<=4000000)(o:s<=4000000)(he:[0,1,2,3,4,18,19,20].map e=[.v (ab (some ⟨b,0,none⟩) m cap),.v (R a),.v (R h),.v (R c),.v (kF q),.v (R g),.v (R n),.v (R s)])(i:∀e,[0,1,2,3,4,18,20,24].map e=[.v (ab (some ⟨b,0,none⟩) m cap),.v (R a),.v (R h),.v (R c),.v (kF q),.v (R g),.v (R s),.v (R (n-s))]->Q .normal e [] (dy am b d os)):dq aD 220 (.ck afk) Q e [] (dy am b d os):=by
 have f:=fi [0,1,2,3,4,18,19,20] e;rw[he]at f;rw[<-f];exact .bl (i _ rfl)
theorem aGf Q(e:cg){am:J}{b:Nat}{f:List aA}{q m cap N:Nat}(hm:m<=1000000)(B:Hp am b f q m cap N) os(j:os.length=m)(w:∀x∈os,x<m)(a g d c n s:Int)(u:0<=a)(G:0<=c)(A:(d-c).toNat<N)(H:(c-a).toNat<N)(I:c<=m)(y:d<=m)(i:0<=s)(l:n-s<=m)(k:0<=n)(p:n<=4000000)(E:s<=4000000)(he:[0,1,2,3,4,18,19,20].map e=[.v (ab (some ⟨b,0,none⟩) m cap),.v (R a),.v (R g),.v (R d),.v (kF q),.v (R c),.v (R n),.v (R s)])(z:∀e aV,A0 aV os->Q .normal e [] (dy am b f aV)):dq aD 220 XO Q e [] (dy am b f os):=by
 exact aGc (λex e L h=>match ex with|.normal=>dq aD 220 ajv Q e L h|ex=>Q ex e L h) e os a g d c n s i k p E he λr F=>aGd (λex e L h=>match ex with|.normal=>dq aD 220 QR Q e L h|ex=>Q ex e L h) r hm os j a g d c s (n-s) i l F λt aV C hp=>aGg Q t B aV (by rw[hp.length_eq,j]) (λx D=>w x (hp.mem_iff.1 D)) a d c s (n-s) u G A H I y C λe az o=>z e az (o.trans hp)
theorem aGe Q(e:cg){am:J}{b:Nat}{h:List aA}{q m cap N:Nat}{X F:Option aE}{k c d:Nat}{dB:List Int}(hm:m<=1000000)(bs:∀aV,s4 (dy am b h aV) q X F k c m d dB)(K:Hp am b h q m cap N) os(M:os.length=m)(i:∀x∈os,x<m)(a j g f n S au:Int)(t:0<=a)(O:0<=f)(H:(g-f).toNat<N)(P:(f-a).toNat<N)(T:f<=m)(B:g<=m)(A:0<=S)(p:S<=au)(Y:au<=m)(w:n-S<=m)(y:au<=n)(V:n<=2*m)(he:[0,1,2,3,4,18,19,20,21].map e=[.v (ab (some ⟨b,0,none⟩) m cap),.v (R a),.v (R j),.v (R g),.v (kF q),.v (R f),.v (R n),.v (R S),.v (R au)])(G:∀e aV,A0 aV os->Q .normal e [] (dy am b h aV)):dq aD 220 MB Q e [] (dy am b h os):=by
 have l:=fi [0,1,2,3,4,18,19,20,21] e;rw[he]at l;rw[<-l];unfold MB;generalize av:XO=L;refine .bl (.mk (Int×Int) [0,1,2,3,4,18,19,20,21,22] (λ(s,r)=>[.v (ab (some ⟨b,0,none⟩) m cap),.v (R a),.v (R j),.v (R g),.v (kF q),.v (R f),.v (R n),.v (R s),.v (R r),.v (R (n-1))]) (λ_=>[]) (λ(s,r) aa=>S<=s/\s<=r/\r<=au/\aa=dy am b h os) (λ(s,r)=>(r-s).toNat) (S,au) (λ(_,_)=>rfl) ⟨I,p,I,rfl⟩ rfl rfl ?_);rintro⟨s,r⟩ W ae ⟨C,U,D,rfl⟩;refine aW (λu=>?_) (λu=>?_);have E:=Of (s+r);refine .bl ?_;refine .mk I I ?_;refine .mk I I ?_;generalize(s+r).fdiv 2=z at E⊢;refine .bl ?_;refine .r ?_;refine .hp _ (sQ (o:=(n-1-z).toNat) I I) ?_;refine .r ?_;refine .hp _ (sQ (o:=z.toNat) I I) ?_;refine .mk _ (Mn (bs os) hm (i _ (b3 _)) (i _ (b3 _))) ?_ ?_;rintro _ _ ⟨rfl,rfl⟩;exact J.le_refl _;rintro _ _ ⟨rfl,rfl⟩;refine vr (λ_=>?_) (λ_=>?_);refine .bl ?_;exact⟨(z+1,r),rfl,rfl,⟨I,I,D,rfl⟩,aL⟩;exact⟨(s,z),rfl,rfl,⟨C,I,I,rfl⟩,aL⟩;show dq aD 220 L Q _ [] _;subst av;exact aGf Q _ hm K os M i a j g f n s t O H P T B I I I I I rfl G
noncomputable def xx:IR:=.seq (.ck awA) (.cond (.t 28) (.seq (.ck awE) (.seq (.ck awI) (.seq (.block 0 (.loop awv)) (.seq (.seq (.ck awR) (.block 2 (.loop aww))) .ret)))) .skip)
noncomputable def aju:IR:=.seq (.ck awB) (.cond (.t 80) (.seq (.ck awC) (.seq (.ck awD) (.seq (.block 4 (.loop awx)) (.seq (.seq (.ck awF) (.block 6 (.loop awy))) .ret)))) .skip)
noncomputable def XJ:IR:=.seq (.ck awG) (.cond (.t 140) (.seq (.ck awH) (.ck awJ)) (.seq (.ck awK) (.ck awL)))
theorem aF6 Q(e:cg){am:J}{b:Nat}{a:List aA}{q m cap:Nat}{X F:Option aE}{k c d:Nat}{dB:List Int}(hm:m<=1000000)(bs:∀aV,s4 (dy am b a aV) q X F k c m d dB) os(B:os.length=m)(f:∀x∈os,x<m)(x y z:Int)(N:0<=x)(L:x<y)(P:y<z)(E:z<=m)(he:[0,1,2,3,4].map e=[.v (ab (some ⟨b,0,none⟩) m cap),.v (R x),.v (R y),.v (R z),.v (kF q)])(A:∀e aV,A0 aV os->Q .ret e [] (dy am b a aV))(s:∀e,[0,1,2,3,4].map e=[.v (ab (some ⟨b,0,none⟩) m cap),.v (R x),.v (R y),.v (R z),.v (kF q)]->¬y-x=1->Q .normal e [] (dy am b a os)):dq aD 220 xx Q e [] (dy am b a os):=by
 have g:=fi [0,1,2,3,4] e;rw[he]at g;rw[<-g];refine .bl (aW (λu=>?_) (λu=>?_));refine .mk (Int×Int) [0,1,4,10,11] (λ(i,o)=>[.v (ab (some ⟨b,0,none⟩) m cap),.v (R x),.v (kF q),.v (R i),.v (R o)]) (λ_=>[]) (λ(i,o) aa=>y<=i/\i<=o/\o<=z/\aa=dy am b a os) (λ(i,o)=>(o-i).toNat) (y,z) (λ(_,_)=>rfl) ⟨I,I,I,rfl⟩ rfl rfl ?_;rintro⟨i,o⟩ G ae ⟨l,O,j,rfl⟩;refine aW (λC=>?_) (λC=>?_);have n:=Of (i+o);refine .bl ?_;refine .mk I I ?_;refine .mk I I ?_;generalize(i+o).fdiv 2=t at n⊢;refine .r ?_;refine .hp _ (sQ (o:=t.toNat) I I) ?_;refine .r ?_;refine .hp _ (sQ (o:=x.toNat) I I) ?_;refine .mk _ (Mn (bs os) hm (f _ (b3 _)) (f _ (b3 _))) ?_ ?_;rintro _ _ ⟨rfl,rfl⟩;exact J.le_refl _;rintro _ _ ⟨rfl,rfl⟩;refine vr (λ_=>?_) (λ_=>?_);refine .bl ?_;exact⟨(t+1,o),rfl,rfl,⟨I,I,j,rfl⟩,aL⟩;exact⟨(i,t),rfl,rfl,⟨l,I,I,rfl⟩,aL⟩;refine .mk (Int×List Nat) [0,10,13] (λ(w,_)=>[.v (ab (some ⟨b,0,none⟩) m cap),.v (R i),.v (R w)]) (λ_=>[]) (λ(w,aV) aa=>x<=w/\w<=m/\aV.Perm os/\aa=dy am b a aV) (λ(w,_)=>(i-w).toNat) (x,os) (λ(_,_)=>rfl) ⟨I,I,.refl _,rfl⟩ rfl rfl ?_;rintro⟨w,aV⟩ K H ⟨hw,p,hp,rfl⟩;have M:aV.length=m:=by rw[hp.length_eq,B]
 refine .bl (aW (λD=>?_) (λD=>?_));obtain⟨w,rfl⟩:=JM (show 0<=w by omega);refine .bl (.bl (.r (.hp _ (sQ (o:=w+1) I I) (.r (.hp _ (sQ (o:=w) I I) (.r (Ed (o:=w) (v:=aV[w+1]) I I (.r (Ed (o:=w+1) (v:=aV[w]) I aL ?_)))))))));have h:=Q6 (os:=aV) (i:=w) (o:=w+1) I I;rw[X3 I I];exact .bl (⟨((w:Int)+1,_),rfl,rfl,⟨I,I,h.trans hp,rfl⟩,aL⟩);exact A _ aV hp;exact s _ rfl u
theorem aF7 Q(e:cg){am:J}{b:Nat}{a:List aA}{q m cap:Nat}{X F:Option aE}{k c d:Nat}{dB:List Int}(hm:m<=1000000)(bs:∀aV,s4 (dy am b a aV) q X F k c m d dB) os(B:os.length=m)(f:∀x∈os,x<m)(x y z:Int)(N:0<=x)(L:x<y)(P:y<z)(E:z<=m)(he:[0,1,2,3,4].map e=[.v (ab (some ⟨b,0,none⟩) m cap),.v (R x),.v (R y),.v (R z),.v (kF q)])(A:∀e aV,A0 aV os->Q .ret e [] (dy am b a aV))(s:∀e,[0,1,2,3,4].map e=[.v (ab (some ⟨b,0,none⟩) m cap),.v (R x),.v (R y),.v (R z),.v (kF q)]->¬z-y=1->Q .normal e [] (dy am b a os)):dq aD 220 aju Q e [] (dy am b a os):=by
 have g:=fi [0,1,2,3,4] e;rw[he]at g;rw[<-g];refine .bl (aW (λu=>?_) (λu=>?_));refine .mk (Int×Int) [0,2,4,14,15] (λ(i,o)=>[.v (ab (some ⟨b,0,none⟩) m cap),.v (R y),.v (kF q),.v (R i),.v (R o)]) (λ_=>[]) (λ(i,o) aa=>x<=i/\i<=o/\o<=y/\aa=dy am b a os) (λ(i,o)=>(o-i).toNat) (x,y) (λ(_,_)=>rfl) ⟨I,I,I,rfl⟩ rfl rfl ?_;rintro⟨i,o⟩ G ae ⟨l,O,j,rfl⟩;refine aW (λC=>?_) (λC=>?_);have n:=Of (i+o);refine .bl ?_;refine .mk I I ?_;refine .mk I I ?_;generalize(i+o).fdiv 2=t at n⊢;refine .r ?_;refine .hp _ (sQ (o:=y.toNat) I I) ?_;refine .r ?_;refine .hp _ (sQ (o:=t.toNat) I I) ?_;refine .mk _ (Mn (bs os) hm (f _ (b3 _)) (f _ (b3 _))) ?_ ?_;rintro _ _ ⟨rfl,rfl⟩;exact J.le_refl _;rintro _ _ ⟨rfl,rfl⟩;refine vr (λ_=>?_) (λ_=>?_);refine .bl ?_;exact⟨(t+1,o),rfl,rfl,⟨I,I,j,rfl⟩,aL⟩;exact⟨(i,t),rfl,rfl,⟨l,I,I,rfl⟩,aL⟩;refine .mk (Int×List Nat) [0,14,17] (λ(w,_)=>[.v (ab (some ⟨b,0,none⟩) m cap),.v (R i),.v (R w)]) (λ_=>[]) (λ(w,aV) aa=>i<=w/\w<=y/\aV.Perm os/\aa=dy am b a aV) (λ(w,_)=>(w-i).toNat) (y,os) (λ(_,_)=>rfl) ⟨I,I,.refl _,rfl⟩ rfl rfl ?_;rintro⟨w,aV⟩ K H ⟨hw,p,hp,rfl⟩;have M:aV.length=m:=by rw[hp.length_eq,B]
 refine aW (λD=>?_) (λD=>?_);obtain⟨w,rfl⟩:=JM (show 0<=w by omega);refine .bl (.bl (.r (.hp _ (sQ (o:=w-1) I I) (.r (.hp _ (sQ (o:=w) I I) (.r (Ed (o:=w) (v:=aV[w-1]) I I (.r (Ed (o:=w-1) (v:=aV[w]) I aL ?_)))))))));have h:=Q6 (os:=aV) (i:=w) (o:=w-1) I I;rw[X3 I I];exact .bl (⟨((w:Int)-1,_),rfl,rfl,⟨I,I,h.trans hp,rfl⟩,aL⟩);exact A _ aV hp;exact s _ rfl u
theorem aF9 Q(e:cg){am:J}{b:Nat}{c:List aA}{q m cap:Nat}(hm:m<=1000000) os(x y z:Int)(i:0<=x)(h:x<y)(j:y<z)(g:z<=m)(he:[0,1,2,3,4].map e=[.v (ab (some ⟨b,0,none⟩) m cap),.v (R x),.v (R y),.v (R z),.v (kF q)])(f:∀e t,2*t<=x+z->x+z<=2*t+1->[0,1,2,3,4,18].map e=[.v (ab (some ⟨b,0,none⟩) m cap),.v (R x),.v (R y),.v (R z),.v (kF q),.v (R t)]->Q .normal e [] (dy am b c os)):dq aD 220 (.ck afh) Q e [] (dy am b c os):=by
 have d:=fi [0,1,2,3,4] e;rw[he]at d;rw[<-d];have a:=Of (x+z);exact .bl (.mk I I (.mk I I (f _ _ a.1 a.2 rfl)))
theorem aF' Q(e:cg){am:J}{b:Nat}{a:List aA}{q m cap:Nat}(hm:m<=1000000) os(x y z:Int)(j:0<=x)(i:x<y)(k:y<z)(g:z<=m)(t:Int)(h:0<=t)(f:t<=m)(he:[0,1,2,3,4,18].map e=[.v (ab (some ⟨b,0,none⟩) m cap),.v (R x),.v (R y),.v (R z),.v (kF q),.v (R t)])(d:∀e,[0,1,2,3,4,18,19].map e=[.v (ab (some ⟨b,0,none⟩) m cap),.v (R x),.v (R y),.v (R z),.v (kF q),.v (R t),.v (R (t+y))]->Q .normal e [] (dy am b a os)):dq aD 220 (.ck afi) Q e [] (dy am b a os):=by
 have c:=fi [0,1,2,3,4,18] e;rw[he]at c;rw[<-c];exact .bl (d _ rfl)
theorem aGa Q(e:cg) h aI(he:[0,1,2,3,4,18,19].map e=aI)(a:∀e,[0,1,2,3,4,18,19].map e=aI->Q .normal e [] h):dq aD 220 (.ck afj) Q e [] h:=by
 subst he;exact a _ rfl
theorem aGb Q(e:cg){am:J}{b:Nat}{c:List aA}{q m cap:Nat}(hm:m<=1000000) os(x y z:Int)(l:0<=x)(k:x<y)(n:y<z)(h:z<=m)(t:Int)(i:0<=t)(f:t<=m)(g:2*t<=x+z)(j:x+z<=2*t+1)(he:[0,1,2,3,4,18,19].map e=[.v (ab (some ⟨b,0,none⟩) m cap),.v (R x),.v (R y),.v (R z),.v (kF q),.v (R t),.v (R (t+y))])(a:∀(e:cg)(S au:Int),0<=S->S<=au->au<=m->t+y-S<=m->au<=t+y->[0,1,2,3,4,18,19,20,21].map e=[.v (ab (some ⟨b,0,none⟩) m cap),.v (R x),.v (R y),.v (R z),.v (kF q),.v (R t),.v (R (t+y)),.v (R S),.v (R au)]->Q .normal e [] (dy am b c os)):dq aD 220 XJ Q e [] (dy am b c os):=by
 have d:=fi [0,1,2,3,4,18,19] e;rw[he]at d;rw[<-d];refine aW (λu=>?_) (λu=>?_);exact .bl (a _ (t+y-z) t I I I I I rfl);exact a _ x y I I I I I rfl
noncomputable def ajt:IR:=.seq (.ck afj) (.seq XJ MB)
noncomputable def ajs:IR:=.seq (.ck afi) ajt
noncomputable def XI:IR:=.seq (.ck afh) ajs
theorem aF8 Q(e:cg){am:J}{b:Nat}{f:List aA}{q m cap N:Nat}{X F:Option aE}{k c d:Nat}{dB:List Int}(hm:m<=1000000)(bs:∀aV,s4 (dy am b f aV) q X F k c m d dB)(E:Hp am b f q m cap N) os(M:os.length=m)(B:∀x∈os,x<m)(x y z:Int)(g:0<=x)(n:x<y)(o:y<z)(a:z<=m)(U:(z-x).toNat<N+1)(u:¬y-x=1)(V:¬z-y=1)(he:[0,1,2,3,4].map e=[.v (ab (some ⟨b,0,none⟩) m cap),.v (R x),.v (R y),.v (R z),.v (kF q)])(C:∀e aV,A0 aV os->Q .normal e [] (dy am b f aV)):dq aD 220 XI Q e [] (dy am b f os):=by
 exact aF9 (λex e L h=>match ex with|.normal=>dq aD 220 ajs Q e L h|ex=>Q ex e L h) e hm os x y z g n o a he λw t r O P=>aF' (λex e L h=>match ex with|.normal=>dq aD 220 ajt Q e L h|ex=>Q ex e L h) w hm os x y z g n o a t I I P λA K=>aGa (λex e L h=>match ex with|.normal=>dq aD 220 (.seq XJ MB) Q e L h|ex=>Q ex e L h) A _ _ K λD T=>aGb (λex e L h=>match ex with|.normal=>dq aD 220 MB Q e L h|ex=>Q ex e L h) D hm os x y z g n o a t I I r O T λH S au l s G i j p=>aGe Q H hm bs E os M B x y z t (t+y) S au g I I I I a l s G i j I p C
theorem X4{am:J}{b:Nat}{f:List aA}{q m cap:Nat}{X F:Option aE}{k c d:Nat}{dB:List Int}(hm:m<=1000000)(bs:∀aV,s4 (dy am b f aV) q X F k c m d dB):∀N,Hp am b f q m cap N
 |0=>λ_ _ _ x y z n=>absurd n (CK _)
 |N+1=>by
  intro os o i x y z n r p s g;have w:=X4 (cap:=cap) hm bs N;refine bU ln rfl ?_;generalize l:wi aD ln.fn.results.toList _=Q;have j:∀e aV,A0 aV os->Q .normal e [] (dy am b f aV):=λe aV hp=>by
   subst l;exact .ag ⟨rfl,aV,hp,rfl⟩
  have a:∀e aV,A0 aV os->Q .ret e [] (dy am b f aV):=λe aV hp=>by
   subst l;exact .ag ⟨rfl,aV,hp,rfl⟩
  clear l;exact aF6 (λex e L h=>match ex with|.normal=>dq aD 220 (.seq aju XI) Q e L h|ex=>Q ex e L h) _ hm bs os o i x y z r p s g rfl a λt C u=>aF7 (λex e L h=>match ex with|.normal=>dq aD 220 XI Q e L h|ex=>Q ex e L h) t hm bs os o i x y z r p s g C a λv A B=>aF8 Q v hm bs w os o i x y z r p s g n u B A j
theorem aFP{a:List aA}{k:Nat}(hm:m<=1000000)(bs:∀aV,s4 (dy am b a aV) q X F k c m d dB) os(n:os.length=m)(z:∀x∈os,x<m):Fn aD 122 #[ab (some ⟨b,0,none⟩) m cap,R m,kF q] (dy am b a os) λv aa=>Ho am b a os v aa:=by
 refine bU VD rfl ?_;generalize av:IR.block 2 (.loop awn)=c2;refine .mk (Int×Int×List Nat) [0,1,2,6,7,8] (λ(i,o,_)=>[.v (ab (some ⟨b,0,none⟩) m cap),.v (R m),.v (kF q),.v (R 20),.v (R i),.v (R o)]) (λ_=>[]) (λ(i,o,aV) aa=>0<=i/\i<=m/\o=i+20/\aV.Perm os/\aa=dy am b a aV) (λ(i,_,_)=>((m:Int)-i).toNat) (0,20,os) (λ(_,_,_)=>rfl) ⟨I,I,I,.refl _,rfl⟩ rfl rfl ?_;rintro⟨i,o,aV⟩ e aa ⟨g,t,rfl,hp,rfl⟩;have C:aV.length=m:=by rw[hp.length_eq,n]
 have B:∀x∈aV,x<m:=λx p=>z x (hp.mem_iff.1 p);refine aW (λu=>?_) (λu=>?_);refine .ag (.mk _ (ae4 hm bs aV C B i (i+20) g I u) ?_);rintro _ _ ⟨rfl,az,r,rfl⟩;exact .bl (⟨(i+20,i+20+20,az),rfl,rfl,⟨I,I,rfl,r.trans hp,rfl⟩,aL⟩);refine .ag (.mk _ (ae4 hm bs aV C B i m g t I) ?_);rintro _ _ ⟨rfl,az,r,rfl⟩;subst av;refine .mk (Int×List Nat) [0,1,2,6] (λ(s,_)=>[.v (ab (some ⟨b,0,none⟩) m cap),.v (R m),.v (kF q),.v (R s)]) (λ_=>[]) (λ(s,ws) aa=>20<=s/\s<=2000020/\ws.Perm os/\aa=dy am b a ws) (λ(s,_)=>((m:Int)-s).toNat) (20,az) (λ(_,_)=>rfl) ⟨I,I,r.trans hp,rfl⟩ rfl rfl ?_;rintro⟨s,ws⟩ H ae ⟨J,M,j,rfl⟩;refine aW (λw=>?_) (λw=>?_);have G:ws.length=m:=by rw[j.length_eq,n]
 refine .bl (.mk (Int×Int×List Nat) [0,1,2,6,7,8] (λ(i,o,_)=>[.v (ab (some ⟨b,0,none⟩) m cap),.v (R m),.v (kF q),.v (R s),.v (R i),.v (R o)]) (λ_=>[]) (λ(i,o,aV) aa=>0<=i/\i<=m/\o=i+2*s/\aV.Perm os/\aa=dy am b a aV) (λ(i,_,_)=>((m:Int)-i).toNat) (0,2*s,ws) (λ(_,_,_)=>rfl) ⟨I,I,I,j,rfl⟩ rfl rfl ?_);rintro⟨i,o,aI⟩ L K ⟨g,t,rfl,f,rfl⟩;have y:aI.length=m:=by rw[f.length_eq,n]
 have E:∀x∈aI,x<m:=λx p=>z x (f.mem_iff.1 p);refine aW (λA=>?_) (λA=>?_);refine .bl (.ag (.mk _ (X4 hm bs (i+2*s-i+1).toNat aI y E i (i+s) (i+2*s) I g I I A) ?_));rintro _ _ ⟨rfl,l,h,rfl⟩;exact .bl (.bl (⟨(i+2*s,i+2*s+2*s,l),rfl,rfl,⟨I,I,rfl,h.trans f,rfl⟩,aL⟩));refine .bl (aW (λD=>?_) (λD=>?_));refine .ag (.mk _ (X4 hm bs ((m:Int)-i+1).toNat aI y E i (i+s) m I g I D I) ?_);rintro _ _ ⟨rfl,l,h,rfl⟩;exact .bl (⟨(s*2,l),rfl,rfl,⟨I,I,h.trans f,rfl⟩,aL⟩);exact .bl (⟨(s*2,aI),rfl,rfl,⟨I,I,f,rfl⟩,aL⟩);exact .ag ⟨rfl,ws,j,rfl⟩
theorem aFO{a:List aA}{k:Nat}(hm:m<=1000000)(bs:∀aV,s4 (dy am b a aV) q X F k c m d dB) os(f:os.length=m)(e:∀x∈os,x<m):Fn aD 58 #[ab (some ⟨b,0,none⟩) m cap,kF q] (dy am b a os) λv aa=>Ho am b a os v aa:=by
 refine bU afQ rfl (.ag (.mk _ (aFP hm bs os f e) ?_));rintro _ _ ⟨rfl,az,g,rfl⟩;exact .ag ⟨rfl,az,g,rfl⟩
theorem aik:∀(l:List dv) a(x:dv),a<l.length->over (l.map c7).flatten (a*2) (c7 x)=some ((l.set a x).map c7).flatten
 |[],a,x,h=>by simp at h
 |y::l,0,x,_=>by
  show over (R y.1::R y.2::(l.map c7).flatten) 0 [R x.1,R x.2]=some (R x.1::R x.2::(l.map c7).flatten);simp[over]
 |y::l,a+1,x,h=>by
  have b:=aik l a x aL;have e:(a+1)*2=a*2+1+1:=I;rw[e];show over (R y.1::R y.2::(l.map c7).flatten) (a*2+1+1) (c7 x)=some (R y.1::R y.2::((l.set a x).map c7).flatten);simp[over,b]
theorem aDe{a:Nat} h:∀k v,(c7 l[a])[k]?=some v->((l.map c7).flatten)[a*2+k]?=some v:=by
 intro k v b;have hk:k<2:=(qO.1 b).1;have h1:=Qs l (a*2+k) I;rw[h1,show(a*2+k)/2=a by omega,show(a*2+k)%2=k by omega];rw[getElem!_pos l.toArray a I];match k,hk,b with
 |0,_,b=>exact b
 |1,_,b=>exact b
abbrev xP(q m:Nat)(a b:aE)(bm:List dv)(ek:List Bool):List LE:=[.own [.v (ab none 0 0),.v (R 0)] 37,.b5 q,.row 142 2 (some a) m m (bm.map c7).flatten,.row 4 1 (some b) m m (ek.map dh)]
theorem aDn{d f:aE}(Z:bm.length=m)(hp:ek.length=m){B:Option aE}{ey:Nat}{b:List Int}(x:bg H 1 B b.length (b.map λz=>[R z]))(W:b.length<=1000000)(L:∀z∈b,0<=z/\z<m) O(t j k a:Nat) Q(e:cg) X(he:[4,6,10,11,13,14,53,54,55,61,62,63].map e=[.p 0 0,.p 1 0,.v (ab (some d) m m),.v (ab (some f) m m),.v (R a),.v (ab none 0 0),.v (ab O j t),.v (R j),.v (R k),.v (ab B b.length ey),.v (R b.length),.v (R 0)])
 (P:∀y aa E c,H.le aa->(∀g,E=some g->H g.block=none)->[4,6,10,11,13,14,53,54,55].map y=[.p 0 0,.p 1 0,.v (ab (some d) m m),.v (ab (some f) m m),.v (R a),.v (ab E (mZ b bm ek).length c),.v (ab O j t),.v (R j),.v (R k)]->
  Q .normal y (xP q m d f bm ek++[.row 142 2 E (mZ b bm ek).length c ((mZ b bm ek).map c7).flatten]) aa):
 dq aD 119 (.block 4 (.loop Pn)) Q e (xP q m d f bm ek++X) H:=by
 have C:=fi [4,6,10,11,13,14,53,54,55,61,62,63] e
 rw[he]at C
 rw[<-C]
 refine .mb [0,1,2,3] (Nat×Option aE×Nat) [4,6,10,11,13,14,53,54,55,61,62,63] (λ(o,E,c)=>[.p 0 0,.p 1 0,.v (ab (some d) m m),.v (ab (some f) m m),.v (R a),.v (ab E (mZ (b.take o) bm ek).length c),.v (ab O j t),.v (R j),.v (R k),.v (ab B b.length ey),.v (R b.length),.v (R o)]) (λ_=>xP q m d f bm ek) (λ(o,E,c) aa=>H.le aa/\o<=b.length/\bw aa 142 2 E (mZ (b.take o) bm ek).length c ((mZ (b.take o) bm ek).map c7).flatten/\∀g,E=some g->H g.block=none) (λ(o,_,_)=>b.length-o) (0,none,0) (λ(_,_,_)=>rfl) ⟨J.le_refl _,cU _,⟨rfl,bQ ⟨rfl,rfl,rfl⟩⟩,λ_ e=>by cases e⟩ rfl rfl rfl ?_
 rintro⟨o,E,c⟩ e aa ⟨S,Y,row,K⟩
 have i:=Bp S K
 have ev:(mZ (b.take o) bm ek).length<=o:=by
  unfold mZ
  grind
 refine .abs 142 2 E _ c _ row (.ag (aW (λu=>?_) (λu=>?_)))
 have D:o<b.length:=I
 obtain⟨g,h⟩:=x.b4 I
 obtain⟨z,zU⟩:∃z,z=b[o]:=⟨_,rfl⟩
 have V:(b.map λz=>[R z])[o]?=some [R z]:=aL
 obtain⟨z0,G⟩:=L z aL
 have M:z.toNat<m:=I
 have N:b.take (o+1)=b.take o++[z]:=by simp_all
 have l:=aps (b.take o) z bm ek
 rw[<-N]at l
 refine .m g h (.hp (R z) (by rw[bn];exact(x.mono i).one h V rfl) (.mk f rfl z0 G (.row 3 4 1 f m m _ z.toNat (dh (ek[z.toNat]'I)) rfl bc bc ?_)))
 have F:ek.getD z.toNat false=ek[z.toNat]'I:=aL
 cases w:ek[z.toNat]'I with
 |true=>
  have n:mZ [z] bm ek=[bm[z.toNat]'I]:=by
   simp only[mZ,amt,amu,F,w,mO]
   grind
  rw[n]at l;refine .mk d rfl z0 G (.row 2 142 2 d m m _ (z.toNat*2) (c7 (bm[z.toNat]'I)) rfl rfl rfl (aDe I) (.ag (.c0 4 _ (c7 (bm[z.toNat]'I)) rfl rfl (by intro u hu;simp[c7]at hu;rcases hu with rfl|rfl<;>rfl) (by grind [eQ]) I λr c2 _=>.bl (.b5 4 142 2 r _ c2 _ rfl λaT s U f4=>.ag ⟨(o+1,r,c2),?_,rfl,⟨J.le_trans i s,D,?_,λg h=>J.none_le i (f4 g h)⟩,aL⟩))));show _=[aN.p 0 0,.p 1 0,.v (ab (some d) m m),.v (ab (some f) m m),.v (R a),.v (ab r (mZ (b.take (o+1)) bm ek).length c2),_,_,_,_,_,_];rw[l,fb];rfl
  grind
 |false=>
  have n:mZ [z] bm ek=[]:=by
   simp only[mZ,amt,amu,F,w];rfl
  rw[n,sf]at l;refine .bl (.b5 4 142 2 E _ c _ rfl λaT s U f4=>.ag ⟨(o+1,E,c),?_,rfl,⟨J.le_trans i s,D,?_,λg h=>J.none_le i (f4 g h)⟩,aL⟩);show _=[aN.p 0 0,.p 1 0,.v (ab (some d) m m),.v (ab (some f) m m),.v (R a),.v (ab E (mZ (b.take (o+1)) bm ek).length c),_,_,_,_,_,_];rw[l];rfl
  grind
 have:o=b.length:=I
 subst this
 have A:b.take b.length=b:=mJ (dM _)
 have T:mZ (b.take b.length) bm ek=mZ b bm ek:=by rw[A]
 rw[A]
 refine P _ _ E c i K ?_
 rw[<-T]
 rfl
theorem aDo{c d:aE}{E:Option aE}{r:Nat}(n:bg H 2 E aV.length (aV.map c7))(K:aV.length<=1000000)(G:0<=s)(P:s<=131328)(j:∀y∈aV,0<=y.1/\0<=y.2/\y.1+y.2<=100000000000) O(i f k a:Nat) Q(e:cg)(he:[4,6,10,11,13,14,17,53,54,55].map e=[.p 0 0,.p 1 0,.v (ab (some c) m m),.v (ab (some d) m m),.v (R a),.v (ab E aV.length r),.p 5 0,.v (ab O f i),.v (R f),.v (R k)])
 (C:∀t,[4,6,10,11,13,17,53,54,55].map t=[.p 0 0,.p 1 0,.v (ab (some c) m m),.v (ab (some d) m m),.v (R a),.p 4 0,.v (ab O f i),.v (R f),.v (R k)]->
  Q .normal t (xP q m c d bm ek++[.own [.v (R (lE s aV).1),.v (R (lE s aV).2)] 142]) H):
 dq aD 119 (.seq (.ck LD) (.block 6 (.loop LC))) Q e (xP q m c d bm ek++[.gone,.own [.v (R 0),.v (R s)] 142]) H:=by
 have w:=fi [4,6,10,11,13,14,17,53,54,55] e
 rw[he]at w
 rw[<-w]
 refine .yG [0,1,2,3,5] Nat [4,6,10,11,13,17,53,54,55,87,88,89] (λo=>[.p 0 0,.p 1 0,.v (ab (some c) m m),.v (ab (some d) m m),.v (R a),.p 4 0,.v (ab O f i),.v (R f),.v (R k),.v (ab E aV.length r),.v (R aV.length),.v (R o)]) (λo=>xP q m c d bm ek++[.own [.v (R (lE s (aV.take o)).1),.v (R (lE s (aV.take o)).2)] 142]) (λo aa=>aa=H/\o<=aV.length) (λo=>aV.length-o) 0 (λ_=>rfl) ⟨rfl,cU _⟩ rfl rfl rfl ?_
 rintro o e aa ⟨rfl,L⟩
 obtain⟨f1,f2,f3⟩:=acN (s:=s) (B:=100000000000) (aV:=aV.take o) aH λy h=>j y (Nl h)
 refine aW (λu=>?_) (λu=>?_)
 have x:o<aV.length:=I
 obtain⟨g,l⟩:=n.b4 I
 obtain⟨y,J⟩:∃y,y=aV[o]:=⟨_,rfl⟩
 have F:(aV.map c7)[o]?=some (c7 y):=aL
 obtain⟨M,N,S⟩:=j y aL
 have A:aV.take (o+1)=aV.take o++[y]:=by simp_all
 have b:=asa s (aV.take o) y
 rw[<-A]at b
 unfold tV at b
 refine .m g l (.hp (c7 y) rfl (by rw[bn];exact n.row l F) (.ag (.mk _ (aFn (lE s (aV.take o)) y aa ⟨I,I,I,I⟩ ⟨I,I,I,I⟩) ?_)))
 rintro _ _ ⟨rfl,rfl⟩
 cases z:we (lE s (aV.take o)) y with
 |true=>
  rw[z,aS rfl]at b;refine .bl ?_;refine .bl ?_;refine⟨o+1,rfl,?_,⟨rfl,x⟩,I⟩;rw[b];rfl
 |false=>
  rw[z]at b;have b:lE s (aV.take (o+1))=lE s (aV.take o):=b;refine .bl ?_;refine⟨o+1,rfl,?_,⟨rfl,x⟩,I⟩;simp_all
 have:o=aV.length:=I
 subst this
 have D:aV.take aV.length=aV:=mJ (dM _)
 rw[D]
 exact C _ rfl
theorem aBW{a:Int}(h:z∈j6 a8 a):∃p∈a8,(a=p.1/\z=p.2)\/(a=p.2/\z=p.1):=by
 obtain⟨p,hp,e⟩:=JT.1 h
 grind
theorem aBV a8 a:(j6 a8 a).length<=a8.length:=amF _ _
structure Sg(H:J)(q:Nat)(X F O:Option aE)(ca c m d m8:Nat)(a8:List dv)(dB:List Int)(os:List Nat):Prop where
 nb:s4 H q X F ca c m d dB
 cl:bg H 2 X ca (a8.map c7)
 WI:bg H 1 O m (os.map λz:Nat=>[R (z:Int)])
 aAc:ca<=1000000
 eE:m<=10000
 aCD:∀a∈os,a<m
 pm:∀p∈a8,(0<=p.1/\p.1<m)/\0<=p.2/\p.2<m
 W4:∀i,0<=dB.getD i 0/\dB.getD i 0<=131328
theorem aDm{O:Option aE}{l n:Nat}(x:Sg H q X F O l c m d n a8 dB os) b f q6 N Q(e:cg)(he:[4,6,8,10,11].map e=[.p 1 0,.p 2 0,.v (ab O m n),.v (ab (some b) m m),.v (ab (some f) m m)])(cF:∀W aa bm ek,H.le aa->qT a8 dB m os bm ek->[4,10].map W=[.p 0 0,.v (ab (some b) m m)]->Q .normal W (xP q m b f bm ek) aa):dq aD 119 (.seq (.ck Vx) (.block 2 (.loop Vw))) Q e [q6,.own [.v (ab none 0 0),.v (R 0)] 37,.b5 q,N,.row 142 2 (some b) m m ((bp m (0,0)).map c7).flatten,.row 4 1 (some f) m m ((bp m false).map dh)] H:=by
 have i:=fi [4,6,8,10,11] e;rw[he]at i;rw[<-i];have oi:os.length=m:=by simpa using x.WI.len
 have Du:a8.length=l:=by simpa using x.cl.len
 have lH:dB.length=m:=by simpa using x.nb.dK.len
 have hm:=x.eE;have rQ:=x.aAc;refine .yG [1,2,4,5] (Nat×List dv×List Bool) [4,6,10,11,53,54,55] (λ(k,_,_)=>[.p 0 0,.p 1 0,.v (ab (some b) m m),.v (ab (some f) m m),.v (ab O m n),.v (R m),.v (R k)]) (λ(_,bm,ek)=>xP q m b f bm ek) (λ(k,bm,ek) aa=>H.le aa/\k<=m/\qT a8 dB m (os.take k) bm ek) (λ(k,_,_)=>m-k) (0,bp m (0,0),bp m false) (λ(_,_,_)=>rfl) ⟨J.le_refl _,cU _,.nil⟩ rfl rfl rfl ?_;rintro⟨k,bm,ek⟩ e aa ⟨A,hk,run⟩;obtain⟨j0,L⟩:=run.lens;show dq aD 119 (.seq (.ck afp) (.seq (.cond (.t 56) .skip (.exit 2)) (.seq (.block 3 (.seq (.ck afq) (.seq (.ck afr) (.seq (.seq (.ck afs) (.block 4 (.loop Pn))) (.seq (.ck aft) (.seq (.ck afu) (.seq (.seq (.ck LD) (.block 6 (.loop LC))) (.ck afv)))))))) (.ck afw)))) _ _ _ _;generalize K:IR.block 4 (.loop Pn)=fc;generalize Us:IR.seq (.ck LD) (.block 6 (.loop LC))=x7;refine aW (λu=>?_) (λu=>?_);have bO:k<os.length:=I;obtain⟨g,w⟩:=x.WI.b4 I;obtain⟨a,aZ⟩:∃a,a=os[k]:=⟨_,rfl⟩;have atg:a<m:=x.aCD a aL;have tB:(os.map λz:Nat=>[R (z:Int)])[k]?=some [R (a:Int)]:=aL;have aQ:os.take (k+1)=os.take k++[a]:=by simp_all
 have qh:∀M,H.le M->∀o v,[ab X l c,ab F m d][o]?=some v->M.cell? ⟨q,o,none⟩=some v:=λM al o v ao=>by
  unfold J.cell?;simp only[al _ _ x.nb.cell]
  grind
 have Ii:=aBV a8 (a:Int);refine .m g w (.hp (R (a:Int)) (by rw[bn];exact(x.WI.mono A).one w tB rfl) (.hp [ab X l c,ab F m d] rfl (λo v ao=>by rw[add_lit,dZ];grind) (.ag (.mk _ (aBS X F l c m d a8 a aa (x.cl.mono A) rQ) ?_))));rintro _ ae ⟨cG,B,ey,rfl,AA⟩;have j:=J.le_trans A cG;conv=>whnf
 subst K;refine aDn j0 L AA I (λz S=>?_) O n m k a _ _ [] rfl λaR ax E V N tn gg=>?_;obtain⟨p,hp,h|h⟩:=aBW S;have:=x.pm p hp;omega;have:=x.pm p hp;omega;have i:=fi [4,6,10,11,13,14,53,54,55] aR;rw[gg]at i;rw[<-i];have sB:(mZ (j6 a8 a) bm ek).length<=a8.length:=lf (amF _ _) Ii;refine .b5 4 142 2 E _ V _ rfl λaT iI lQ f4=>.ag (.mk _ (aFx E _ V _ aT lQ I) ?_);rintro _ cr ⟨aV,rfl,C,Z,same⟩;have Y:aV.length=(mZ (j6 a8 a) bm ek).length:=C.perm.length_eq;have G:H.le cr:=λo U ah=>by
  rw[same o λg w e=>?_];exact iI _ _ (N _ _ (j _ _ ah));have:=J.none_le j (tn g w)
  grind
 obtain⟨s,T⟩:∃s,s=dB.getD a 0:=⟨_,rfl⟩;have D:=x.W4 a;rw[<-T]at D;have Ll:dB[a]?=some s:=aL;obtain⟨ju,P⟩:=x.nb.dK.b4 I;refine .hp (ab F m d) (qh _ G 1 _ rfl) (.m ju P (.hp (R s) (by rw[bn];exact(x.nb.dK.mono G).one P (r:=[R s]) aL rfl) ?_));conv=>whnf
 subst Us;rw[<-Y]at Z;have aJg:=run.Kk x.W4;have Vk:∀y∈aV,0<=y.1/\0<=y.2/\y.1+y.2<=100000000000:=λy aM=>by
  obtain⟨z,_,S,rfl⟩:=SM ((C.perm.mem_iff).1 aM)
  grind
 show dq aD 119 (.seq (.ck LD) (.block 6 (.loop LC))) _ _ (xP q m b f bm ek++[.gone,.own [.v (R 0),.v (R s)] 142]) _;refine aDo Z.Jo I D.1 D.2 Vk O n m k a _ _ (by rw[Y];rfl) λdi q2=>?_;have i:=fi [4,6,10,11,13,17,53,54,55] di;rw[q2]at i;rw[<-i];refine .m b rfl (.row 2 142 2 b m m _ _ (a*2) rfl dW (aik bm a (lE s aV) I) (.m f rfl (.row 3 4 1 f m m _ _ a rfl bc (io _ _ _ aL) (.bl (⟨(k+1,bm.set a (lE s aV),ek.set a true),rfl,?_,⟨G,I,?_⟩,aL⟩)))));show _=xP q m b f (bm.set a (lE s aV)) (ek.set a true);unfold xP;rw[show(ek.set a true).map dh=(ek.map dh).set a (dh true)from bc];rfl;rw[aQ,T];exact .step a aV run C;have:k=m:=I;subst this;have dG:os.take k=os:=mJ I;rw[dG]at run;exact cF _ _ _ _ A run rfl
def ZK(m:Nat)(dB:List Int)(au:List Nat->Prop):Prop:=∀(h:J)(q:Nat)(X F:Option aE)(b c d:Nat),s4 h q X F b c m d dB->∀(A:Option aE)(cap:Nat),bw h 3 1 A m cap ((fJ m).map λz:Nat=>R (z:Int))->(∀e6 a,A=some e6->F=some a->0<m->e6.block≠a.block)->Fn aD 58 #[ab A m cap,.func (.func 59) #[] #[gR (some ⟨q,0,none⟩)]] h λv aa=>v=eA #[]/\∃os:List Nat,os.Perm (fJ m)/\au os/\bw aa 3 1 A m cap (os.map λz:Nat=>R (z:Int))/\∀o,(∀g,A=some g->o≠g.block)->aa o=h o
theorem bg.qV{size:Nat}{rows:List (List aA)}(t:bg h size A n rows)(f:0<n)(i:0<size){g:aE}(b:A=some g):h g.block≠none:=by
 intro e;have al:=t.len;have a:rows[0]?=some rows[0]:=bK I;have hw:=t.wid _ (List.mem_of_getElem? a);have c:rows[0][0]?=some rows[0][0]:=bK I;have:=t.cell g b 0 _ a 0 _ c;have d:(g.add (0*size+0)).block=g.block:=by unfold M8;simp
 unfold J.cell? at this
 grind
def anq(h:J)(N:Int)(ad:List b2)(az:List Int)(au:List Nat->Prop)(v:aA)(aa:J):Prop:=
 h.le aa/\(np N ad az≠0->v=eA #[Mt none 0 0 0,R (np N ad az)])/\
  (np N ad az=0->∃os bm ek,os.Perm (fJ ad.length)/\au os/\qT (lo (eJ N ad az).2 ad.length) (ma (eJ N ad az).2) ad.length os bm ek/\
   (1024<p3 bm->v=eA #[Mt none 0 0 0,R 5])/\(p3 bm<=1024->∃A,v=eA #[Mt (some A) ad.length ad.length (p3 bm),R 0]/\bg aa 2 (some A) ad.length (bm.map c7)))
def uZ(m k:Nat):List aA:=((fJ k).map λz:Nat=>R (z:Int))++bp (m-k) (R 0)
theorem aib{k:Nat}(h:k<=m):(uZ m k).length=m:=by grind [uZ]
theorem aic{k:Nat}(h:k<m):(uZ m k).set k (R k)=uZ m (k+1):=by
 unfold uZ;rw[List.set_append_right _ _ bc,List.length_map,R5,Nat.sub_self,CG,fw,mg];congr 1;rw[show m-k=(m- (k+1))+1 by omega,A4];rfl
theorem aA6 m:(tK (#[R 0,R 0]:Array aA) (m*2)).toList=((bp m (0,0)).map c7).flatten:=by
 have h1:∀k,((bp k ((0:Int),(0:Int))).map c7).flatten=bp (k*2) (R 0):=λk=>by
  induction k with
  |zero=>rfl
  |succ k a=>
   rw[A4,er,List.flatten_cons,a,show(k+1)*2=k*2+1+1 by omega,A4,A4];rfl
 rw[h1];apply List.ext_getElem?;intro o;unfold tK
 grind
theorem aDl N n cap ad A D r jV az h(aw:bg h 5 A n (ad.map b2.cells))(aF:n*40<=140737488355328)(a7:bg h 1 D r (az.map λz=>[R z])) au(T:np N ad az=0->ZK ad.length (ma (eJ N ad az).2) au):Fn aD 24 #[nQ N A n cap,ab D r jV] h λv aa=>anq h N ad az au v aa:=by
 refine bU ay4 rfl (.ag (.mk _ (aAS N n cap ad A D r jV az h aw aF a7) (λv h1⟨Z,aj,ak⟩=>?_)));by_cases he:np N ad az=0;have T:=T he;obtain⟨E,c,F,d,rfl,K,V⟩:=ak he;have jZ:(eJ N ad az).1=0:=by
  refine xH λq=>?_;unfold np at he;omega
 have Dm:=Z' jZ;have hm:=(mM Dm).2.2.1;obtain⟨oR,aKi⟩:=L1 jZ;generalize lu:IR.block 0 (.loop afo)=c1;generalize Ur:IR.seq (.ck Vx) (.block 2 (.loop Vw))=c2;refine pw.one ad.length (R 0) rfl rfl rfl rfl I I λg=>?_;subst lu;have lH:(lo (eJ N ad az).2 ad.length).length<=9216:=lf (Sw ad.length _ ((aiq _ _).imp λ{a b} h e=>by rw[e]at h;exact Qt _ h) λp hp=>by
  obtain⟨i,o,e,a,b,_⟩:=I8.1 hp
  grind) (mh hm hm)
 refine .mk Nat [4,6,8,35,36] (λk=>[.p 1 0,.p 2 0,.v (ab (some g) ad.length ad.length),.v (R ad.length),.v (R k)]) (λk=>[.own [.v (R N),.v (ab A n cap)] 33,.own [.v (ab none 0 0),.v (R 0)] 37,.own [.v (ab E (lo (eJ N ad az).2 ad.length).length c),.v (ab F ad.length d)] 188,.row 3 1 (some g) ad.length ad.length (uZ ad.length k)]) (λk aa=>aa=h1/\k<=ad.length) (λk=>ad.length-k) 0 (λ_=>rfl) ⟨rfl,cU _⟩ rfl rfl ?_;refineλk e aa⟨rfl,hk⟩=>aW (λu=>?_) (λu=>?_);have S:k<ad.length:=I;refine .m g rfl (.row 3 3 1 g ad.length ad.length _ _ k rfl bc (io _ _ _ (by rw[aib I];exact S)) (.bl (⟨k+1,rfl,?_,⟨rfl,S⟩,I⟩)));rw[<-aic S];rfl;have sF:k=ad.length:=I;subst sF;have aU:uZ ad.length ad.length=(fJ ad.length).map λz:Nat=>R (z:Int):=by simp[uZ]
 rw[aU];refine .mk λq X=>?_;refine .b5 3 3 1 (some g) ad.length ad.length _ rfl λax B Mx f3=>.ag (.mk _ (T ax q E F _ c d ⟨B _ _ (J.b8 _ _ _),V.mono (J.le_trans (J.d' X) B)⟩ (some g) _ Mx (λe6 ju L M am di=>by
  injection L with L;subst L;have W:=f3 g rfl;by_cases j:g.block=q;rw[j,J.b8]at W;cases W;rw[J.cD _ _ j]at W;exact V.qV am aH M aL)) ?_)
 rintro _ aT ⟨rfl,os,y,dt,lQ,same⟩;have O:g.block≠q:=λe=>by
  have:=f3 g rfl;rw[e,J.b8]at this
  grind
 have G:aa.le aT:=λo U Y=>by
  rw[same o λg2 C e=>?_];exact B _ _ (J.d' X _ _ Y);injection C with C;subst C;have:=f3 g rfl;rw[J.cD _ _ O,<-e,Y]at this
  grind
 have Q:aT q=some (bb [ab E (lo (eJ N ad az).2 ad.length).length c,ab F ad.length d].toArray 188 (0,0)):=by
  rw[same q λg2 C e=>aL];exact B _ _ (J.b8 _ _ _)
 refine pw.mk ad.length rfl rfl I I λf=>?_;show hJ 119 _ _ _ (hy _ 3 LE.gone++[LE.row 142 2 (some f) _ _ (tK (#[R 0,R 0]:Array aA) (ad.length*2)).toList]) _ _;rw[aA6];refine pw.one ad.length (dh false) rfl rfl rfl rfl I I λkW=>?_;rw[show bp ad.length (dh false)=(bp ad.length false).map dh from bc];conv=>whnf
 subst Ur;have P:Sg aT q E F (some g) (lo (eJ N ad az).2 ad.length).length c ad.length d ad.length (lo (eJ N ad az).2 ad.length) (ma (eJ N ad az).2) os:=by
  refine⟨⟨Q,V.mono G⟩,K.mono G,?_,I,I,λa aZ=>vl.1 ((y.mem_iff).1 aZ),λp hp=>?_,λi=>?_⟩;have:=bw.one (l:=os.map λz:Nat=>(z:Int)) (by rw[ig];exact lQ);rw[ig]at this;exact this;obtain⟨i,o,rfl,a,b,_⟩:=I8.1 hp;omega;by_cases ai:i<ad.length
  grind
  rw[cc,List.getElem?_eq_none (by grind [oR.len])];simp
 refine aDm P f kW _ _ _ _ rfl λM cr bm ek qu run gg=>?_;have eP:=fi [4,10] M;rw[gg]at eP;rw[<-eP];have FK:=run.Kk P.W4;have oi:os.length<=96:=by rw[y.length_eq,R5];exact hm
 have s:∀x∈bm,NB x:=λx af=>by
  have:=FK x af;exact⟨I,I,I,I⟩
 refine .b5 2 142 2 (some f) _ _ _ rfl λeX z8 H f6=>.ag (.mk _ (akJ (some f) _ _ bm eX H.Jo s I) ?_);rintro _ _ ⟨rfl,rfl⟩;have t:=J.le_trans Z (J.le_trans G (J.le_trans qu z8));refine aW (λw=>?_) (λw=>?_);exact .ag ⟨t,λq=>absurd he q,λ_=>⟨os,bm,ek,y,dt,run,λ_=>rfl,λq=>absurd w I⟩⟩;refine .ag (.mk _ (akJ (some f) _ _ bm _ H.Jo s I) ?_);rintro _ _ ⟨rfl,rfl⟩;exact .ag ⟨t,λq=>absurd he q,λ_=>⟨os,bm,ek,y,dt,run,λq=>absurd q w,λ_=>⟨f,rfl,H.Jo⟩⟩⟩;obtain rfl:=aj he;refine aW (λ_=>?_) (λq=>absurd he q);refine .ag ⟨Z,λ_=>rfl,λq=>absurd q he⟩
theorem bg.D0{size:Nat}{rows:List (List aA)}(t:bg h size A n rows){U:Obj}(e:∀g,A=some g->0<n->g.block≠b):bg (h.put b U) size A n rows:=by
 refine⟨t.len,t.wid,t.b4,λg a i r c o v d=>?_⟩;have am:0<n:=by
  have:=(qO.1 c).1;have:=t.len;omega
 have j:=e g a am;have:=t.cell g a i r c o v d;have f:(g.add (i*size+o)).block=g.block:=by unfold M8;grind
 unfold J.cell? at this⊢;rw[J.cD _ _ I];omega
theorem aFJ(m:Nat)(hm:m<=1000000)(dB:List Int):ZK m dB λ_=>True:=by
 intro h q X F B c d f A cap y l;obtain⟨D,ae⟩:=y;rcases ae with⟨rfl,rfl,rfl⟩|⟨b,a,rfl,u,s,av,G,E⟩;refine(aFK f aH none 0 0 [] (bg.nil _ _ _) aH (λ_ k=>by cases k) (λi t=>absurd t (CK _))).mono ?_;rintro v aa ⟨rfl,rfl⟩;exact⟨rfl,[],.refl _,trivial,⟨rfl,bQ ⟨rfl,rfl,rfl⟩⟩,λ_ _=>rfl⟩;have r:q≠b:=λe=>by
  have:=f.cell
  grind
 have p:a=(((fJ m).map λz:Nat=>R (z:Int))++a.toList.drop (m*1)).toArray:=by
  grind
 have K:a.size=cap:=I;have C:(a.toList.drop (m*1)).length=cap-m:=aL;generalize a.toList.drop (m*1)=n at p C;have he:h=dy h b n (fJ m):=by
  funext o;unfold dy;by_cases j:o=b;rw[j,J.b8,u,p];rw[J.cD _ _ j]
 have bs:∀aV,s4 (dy h b n aV) q X F B c m d dB:=λaV=>
  ⟨by unfold dy;rw[J.cD _ _ r];exact f.cell,f.dK.D0 λg w am e=>l _ g rfl w am e.symm⟩
 have:=aFO (cap:=cap) (m:=m) hm bs (fJ m) R5 (λx k=>vl.1 k);rw[<-he]at this;refine this.mono ?_;rintro v aa ⟨rfl,os,hp,rfl⟩;have H:os.length=m:=by rw[hp.length_eq,R5]
 refine⟨rfl,os,hp,trivial,⟨aL,ba ⟨b,_,rfl,Uh _ _ _ _,s,av,aL,?_⟩⟩,λo j=>?_⟩
 grind
 exact J.cD _ _ (j _ rfl)
end Go.Sx
namespace Go.Sx
open Go.Proofs
set_option maxRecDepth 100000
set_option maxHeartbeats 0
set_option linter.all false
variable {t:Int}{bA:List Nat}{es:List ja}{a b c c' cb ch m n o w:Nat}{A D:Option aE}
inductive e3 where
 |nil
 |cons (t n:Int) (b r:e3)
 deriving DecidableEq
variable {f:e3}
inductive cd where
 |nil
 |cons (t n:Int) (B:Option aE) (m c:Nat) (b r:cd)
variable {l:cd}
def cd.bR:cd->e3
 |.nil=>.nil
 |.cons t n _ _ _ b r=>.cons t n b.bR r.bR
def e3.len:e3->Nat
 |.nil=>0
 |.cons _ _ _ r=>r.len+1
def cd.len:cd->Nat
 |.nil=>0
 |.cons _ _ _ _ _ _ r=>r.len+1
def cd.br:cd->Nat
 |.nil=>0
 |.cons _ _ _ _ _ b r=>b.br+1+r.br
def e3.br:e3->Nat
 |.nil=>0
 |.cons _ _ b r=>b.br+1+r.br
theorem cd.acM:∀l:cd,l.bR.len=l.len
 |.nil=>rfl
 |.cons _ _ _ _ _ _ r=>by simp[cd.bR,e3.len,cd.len,r.acM]
theorem cd.TL:∀l:cd,l.bR.br=l.br
 |.nil=>rfl
 |.cons _ _ _ _ _ b r=>by simp[cd.bR,e3.br,cd.br,b.TL,r.TL]
theorem cd.Ac:∀l:cd,l.len<=l.br
 |.nil=>dM _
 |.cons _ _ _ _ _ _ r=>by have:=r.Ac;grind [cd.len,cd.br]
theorem cd.S5(h:l.len=0):l= .nil:=by
 cases l with
 |nil=>rfl
 |cons=>grind [cd.len]
def k9(t n:Int)(B:Option aE)(m c:Nat):List aA:=[R t,R n,ab B m c]
def rq(h:J):aE->Nat->cd->Prop
 |_,_,.nil=>True
 |g,i,.cons t n B m c b r=>(∀o v,(k9 t n B m c)[o]?=some v->h.cell? ((g.add (i*3)).add o)=some v)/\m=b.len/\(b= .nil\/∃a,B=some a/\rq h a 0 b)/\rq h g (i+1) r
def kR(h:J)(A:Option aE)(m:Nat)(l:cd):Prop:=m=l.len/\(l= .nil\/∃g,A=some g/\rq h g 0 l)
theorem rq.mono{h aa:J}(x:h.le aa):∀l g i,rq h g i l->rq aa g i l
 |.nil,_,_,_=>trivial
 |.cons _ _ _ _ _ b r,g,i,⟨h1,ae,f,aT⟩=>⟨λo v d=>J.l5 x (h1 o v d),ae,f.imp id λ⟨a,e,c⟩=>⟨a,e,rq.mono x b a 0 c⟩,rq.mono x r g (i+1) aT⟩
theorem kR.mono{h aa:J}{A:Option aE}{m:Nat}{l:cd}(x:h.le aa)(s:kR h A m l):kR aa A m l:=⟨s.1,s.2.imp id λ⟨g,e,a⟩=>⟨g,e,rq.mono x l g 0 a⟩⟩
def s'(h:J)(A:Option aE)(n:Nat)(i:Nat)(l:cd):Prop:=i+l.len=n/\(l= .nil\/∃g,A=some g/\rq h g i l)
theorem kR.cK{h:J}(s:kR h A n l):s' h A n 0 l:=⟨by have:=s.1;omega,s.2⟩
theorem s'.open{h:J}{i:Nat}{k:Int}{B:Option aE}{b r:cd}(s:s' h A n i (.cons t k B m c b r)):∃g,A=some g/\i<n/\(∀o v,(k9 t k B m c)[o]?=some v->h.cell? ((g.add (i*3)).add o)=some v)/\kR h B m b/\s' h A n (i+1) r:=by
 obtain⟨h1,ae⟩:=s;rcases ae with ae|⟨g,e,a,f,bj,d⟩
 grind
 simp only[cd.len]at h1;exact⟨g,e,I,a,⟨f,bj⟩,I,ba ⟨g,e,d⟩⟩
theorem s'.fin{h:J}{i:Nat}(s:s' h A n i .nil):i=n:=s.1
def e3.leaf:e3->Bool
 |.nil=>true
 |.cons .. =>false
theorem cd.LX(l:cd):l.bR.leaf=decide (l.len=0):=by cases l<;>simp[cd.bR,e3.leaf,cd.len]
def kK(t n:Int)(mw:Bool)(d k:Nat)(hj:Int×Nat):Int×Nat:=
 if 2048<=k then(5,k)else if mw=false/\16<=d then(161,k)else if t<1 then(160,k)else if mw=true then(if n<0\/32<=n then(100,k)else(0,k+1))else if n≠0 then(162,k)else hj
def jo:e3->Nat->Nat->Int×Nat
 |.nil,_,k=>(0,k)
 |.cons t n b r,d,k=>if(kK t n b.leaf d k (jo b (d+1) k)).1=0 then jo r d (kK t n b.leaf d k (jo b (d+1) k)).2 else kK t n b.leaf d k (jo b (d+1) k)
theorem ah2{n:Int}{mw:Bool}{d k:Nat}{hj:Int×Nat}(hk:k<=2048)(a:hj.2<=2048):(kK t n mw d k hj).2<=2048:=by
 unfold kK
 grind
theorem TA:∀f d k,k<=2048->(jo f d k).2<=2048
 |.nil,_,_,h=>h
 |.cons t n b r,d,k,h=>by
  have h1:=ah2 (t:=t) (n:=n) (mw:=b.leaf) (d:=d) (hj:=jo b (d+1) k) h (TA b (d+1) k h);simp only[jo];split;exact TA r d _ h1;omega
abbrev pF(k:Nat):Obj:=bb [R k].toArray 239 (0,0)
def iW(b:Nat):aA:=gR (some ⟨b,0,none⟩)
theorem aa0(h:J) b k:(h.put b (pF k)).cell? ⟨b,0,none⟩=some (R k):=by
 unfold J.cell?;simp[J.b8]
def ZF(l:cd):Prop:=∀(A:Option aE)(m cap d k b:Nat)(bs:J),kR bs A m l->bs b=none->d<=16->k<=2048->Fn aD 90 #[iW b,ab A m cap,R d] (bs.put b (pF k)) λv aa=>v=R (jo l.bR d k).1/\aa=bs.put b (pF (jo l.bR d k).2)
theorem aCE t n B m c l(h:ZF l)(d k b:Nat) bs(f:kR bs B m l)(g:bs b=none)(i:d<=16)(hk:k<=2048):Fn aD 139 #[iW b,.agg (k9 t n B m c).toArray,R d] (bs.put b (pF k)) λv aa=>v=R (kK t n l.bR.leaf d k (jo l.bR (d+1) k)).1/\aa=bs.put b (pF (kK t n l.bR.leaf d k (jo l.bR (d+1) k)).2):=by
 have hm:=f.1;rw[l.LX];refine bU ayp rfl (.hp _ (aa0 bs b k) (aW (λh1=>?_) (λh1=>?_)));exact .ag (by unfold kK;rw[aS I];exact⟨rfl,rfl⟩);have fin:∀{x:Int×Nat},kK t n (decide (l.len=0)) d k (jo l.bR (d+1) k)=x->(R x.1=R (kK t n (decide (l.len=0)) d k (jo l.bR (d+1) k)).1/\bs.put b (pF x.2)=bs.put b (pF (kK t n (decide (l.len=0)) d k (jo l.bR (d+1) k)).2)):=by
  simp
 rcases Nat.eq_zero_or_pos m with am|am;subst am;rw[show decide (l.len=0)=true from hr hm.symm]at fin⊢;refine aW (λe=>?_) (λe=>?_);exact .ag (fin (x:=(160,k)) (by unfold kK;grind));have node:n<0\/32<=n->kK t n true d k (jo l.bR (d+1) k)=(100,k):=λj=>by
  unfold kK;grind
 refine aW (λaT=>?_) (λaT=>?_);exact .ag (fin (node (bQ aT)));refine aW (λa=>?_) (λa=>?_);exact .ag (fin (node (ba a)));refine .hp _ (aa0 bs b k) (.bl (.hp b 0 239 [R k] [R ((k:Int)+1)] rfl (J.b8 _ _ _) rfl (.ag ?_)));rw[J.tS];exact fin (x:=(0,k+1)) (by unfold kK;grind);rw[show decide (l.len=0)=false from jn I]at fin⊢;refine vr (λ_=>?_) (λae=>absurd ae aL);refine aW (λae=>?_) (λae=>?_);exact .ag (fin (x:=(161,k)) (by unfold kK;grind));refine aW (λe=>?_) (λe=>?_);exact .ag (fin (x:=(160,k)) (by unfold kK;grind));refine vr (λ_=>?_) (λae=>absurd ae aL);refine aW (λaT=>?_) (λaT=>?_);exact .ag (fin (x:=(162,k)) (by unfold kK;grind));refine vr (λa=>absurd a aL) (λ_=>vr (λa=>absurd a aL) (λ_=>.bl (.ag (.mk _ (h B m c (d+1) k b bs f g I hk) ?_))));rintro _ _ ⟨rfl,rfl⟩;exact .ag (fin (x:=jo l.bR (d+1) k) (by unfold kK;grind))
theorem ai7:∀N l,l.br<N->l.br<=200000->ZF l
 |0,l,u,_=>absurd u (CK _)
 |N+1,l,u,F=>by
  intro A m cap d k b bs n j C hk;have hm:m<=200000:=by have:=n.1;have:=l.Ac;omega
  refine bU az5 rfl ?_;refine .mk (Nat×Nat×cd) [0,2,10,11,12] (λ(i,_,_)=>[.v (iW b),.v (R d),.v (ab A m cap),.v (R m),.v (R i)]) (λ_=>[]) (λ(i,q,r) aa=>aa=bs.put b (pF q)/\s' bs A m i r/\q<=2048/\r.br<=l.br/\jo l.bR d k=jo r.bR d q) (λ(i,_,_)=>m-i) (0,k,l) (λ_=>rfl) ⟨rfl,n.cK,hk,dM _,rfl⟩ rfl rfl ?_;rintro⟨i,q,r⟩ e aa ⟨rfl,f,a,D,he⟩;refine aW (λae=>?_) (λae=>?_);cases r with
  |nil=>have:=f.fin;omega
  |cons t w B h c s r=>
   obtain⟨g,aK,x,av,E,z⟩:=f.open;simp only[cd.br]at D;have G:∀o v,(k9 t w B h c)[o]?=some v->(bs.put b (pF q)).cell? ((g.add (i*3)).add o)=some v:=λo v y=>J.l5 (J.d' j) (av o v y);refine .m g aK (.hp (k9 t w B h c) rfl aL (.ag (.mk _ (aCE t w B h c s (ai7 N s I I) d q b bs E j C a) ?_)));rintro _ _ ⟨rfl,rfl⟩;simp only[cd.bR,jo]at he;refine aW (λp=>?_) (λp=>?_);rw[aC p]at he;refine .ag ?_;rw[he];exact⟨rfl,rfl⟩;rw[aS I]at he;exact .bl (⟨(i+1,_,r),rfl,rfl,⟨rfl,z,ah2 a (TA _ _ _ a),I,he⟩,aL⟩)
  cases r with
  |nil=>
   refine .ag ?_;rw[he];exact⟨rfl,rfl⟩
  |cons=>obtain⟨g,aK,x,_⟩:=f.open;omega
def gn:e3->Nat
 |.nil=>0
 |.cons t _ b r=>t.toNat*(bif b.leaf then 1 else gn b)+gn r
def o2:e3->Prop
 |.nil=>True
 |.cons t _ b r=>1<=t/\o2 b/\o2 r
theorem Oi:∀f d k,(jo f d k).1=0->o2 f
 |.nil,_,_,_=>trivial
 |.cons t n b r,d,k,h=>by
  simp only[jo]at h;split at h
  .rename_i h1;refine⟨?_,?_,Oi r d _ h⟩
   .unfold kK at h1;repeat' split at h1
    all_goals first|omega|(simp at h1;done)|skip
   unfold kK at h1;repeat' split at h1
   all_goals first|(simp at h1;done)|skip
   rename_i al _;cases b with
   |nil=>trivial
   |cons=>simp[e3.leaf]at al
   exact Oi b (d+1) k h1
  rename_i h1;exact absurd h h1
theorem Yj:∀f,o2 f->f.leaf=false->1<=gn f
 |.nil,_,h=>by grind [e3.leaf]
 |.cons t n b r,⟨h1,ae,_⟩,_=>by
  simp only[gn];have a:1<=(bif b.leaf then 1 else gn b):=by
   cases al:b.leaf with
   |true=>simp
   |false=>exact Yj b ae al
  have:1*1<=t.toNat*(bif b.leaf then 1 else gn b):=mh I a;omega
def q4(f:e3):Nat:=bif f.leaf then 1 else gn f
theorem ae5(h:o2 f):1<=q4 f:=by
 unfold q4;cases al:f.leaf with
 |true=>simp
 |false=>exact Yj f h al
theorem akH t n b r:gn (.cons t n b r)=t.toNat*q4 b+gn r:=rfl
theorem akI:∀N l,l.br<N->l.br<=200000->o2 l.bR->∀A m cap h,kR h A m l->Fn aD 91 #[ab A m cap] h λv aa=>aa=h/\v=R (min (gn l.bR) 2049:Nat)
 |0,l,y,_=>absurd y (CK _)
 |N+1,l,y,O=>by
  intro K A m cap h p;have hm:m<=200000:=by have:=p.1;have:=l.Ac;omega
  refine bU az6 rfl ?_;refine .mk (Nat×Nat×cd) [3,7,8,9] (λ(i,s,_)=>[.v (R s),.v (ab A m cap),.v (R m),.v (R i)]) (λ_=>[]) (λ(i,s,r) aa=>aa=h/\s' h A m i r/\s<=2048/\r.br<=l.br/\o2 r.bR/\s+gn r.bR=gn l.bR) (λ(i,_,_)=>m-i) (0,0,l) (λ_=>rfl) ⟨rfl,p.cK,cU _,dM _,K,I⟩ rfl rfl ?_;refineλ⟨i,s,r⟩ e aa⟨rfl,f,L,H,hp,he⟩=>aW (λae=>?_) (λae=>?_);cases r with
  |nil=>have:=f.fin;omega
  |cons t w B x c b r=>
   obtain⟨g,aK,D,av,o,u⟩:=f.open;simp only[cd.br]at H;simp only[cd.bR]at hp;obtain⟨Q,z,k⟩:=hp;obtain⟨q,rfl⟩:∃q:Nat,t=q:=⟨t.toNat,I⟩;have d:=ae5 z;have G:s+(q*q4 b.bR+gn r.bR)=gn l.bR:=by
    have:=akH q w b.bR r.bR;simp only[bn]at this;rw[<-this];exact he
   have P:=o.1;refine .m g aK (.hp (k9 q w B x c) rfl aL (aW (λE=>?_) (λE=>?_)));have J:b.bR.leaf=false:=by rw[b.LX];grind
   have a:q4 b.bR=gn b.bR:=by unfold q4;grind
   refine .ag (.mk _ (akI N b I I z B x c aa o) ?_);rintro _ ae ⟨rfl,rfl⟩;refine aW (λaT=>?_) (λaT=>?_);refine .ag ⟨rfl,?_⟩;have:q*1<=q*q4 b.bR:=Nat.mul_le_mul_left _ d;rw[show min (gn l.bR) 2049=2049 by omega];rfl;refine aW (λF=>?_) (λF=>?_);refine .ag ⟨rfl,?_⟩;have:1*q4 b.bR<=q*q4 b.bR:=vn _ I;rw[show min (gn l.bR) 2049=2049 by omega];rfl;have C:min (gn b.bR) 2049=q4 b.bR:=I;have M:q*q4 b.bR<=2048*2048:=mh I I;have n:((min (gn b.bR) 2049:Nat):Int)*(q:Int)=((q*q4 b.bR:Nat):Int):=aL;refine .bl ?_;rw[n];refine .bl (aW (λj=>?_) (λj=>?_));refine .ag ⟨rfl,?_⟩;rw[show min (gn l.bR) 2049=2049 by omega];rfl;exact .bl (⟨(i+1,s+q*q4 b.bR,r),rfl,rfl,⟨rfl,u,I,I,k,I⟩,aL⟩);have J:b.bR.leaf=true:=by rw[b.LX];grind
   have a:q4 b.bR=1:=by unfold q4;grind
   rw[a]at G;refine aW (λaT=>?_) (λaT=>?_);refine .ag ⟨rfl,?_⟩;rw[show min (gn l.bR) 2049=2049 by omega];rfl;have n:(1:Int)*(q:Int)=(q:Int):=Int.one_mul _;refine .bl (.bl (aW (λj=>?_) (λj=>?_)));refine .ag ⟨rfl,?_⟩;rw[show min (gn l.bR) 2049=2049 by omega];rfl;refine .bl (⟨(i+1,s+q,r),?_,rfl,⟨rfl,u,I,I,k,I⟩,aL⟩);rw[show((s:Int)+1*(q:Int))=((s+q:Nat):Int) by omega];rfl
  cases r with
  |nil=>
   refine .ag ⟨rfl,?_⟩;simp only[cd.bR,gn]at he;rw[<-he,show min (s+0) 2049=s by omega];rfl
  |cons=>obtain⟨g,aK,D,_⟩:=f.open;omega
def wZ(f:e3):Int:=if(jo f 0 0).1≠0 then(jo f 0 0).1 else if 2048<gn f then 5 else 0
theorem apO l(av:l.br<=200000) A m cap h(e:kR h A m l):Fn aD 35 #[ab A m cap] h λv aa=>h.le aa/\v=R (wZ l.bR):=by
 refine bU azr rfl ?_;refine .mk λb d=>?_;refine .ag (.mk _ (ai7 _ l (A8 _) av A m cap 0 0 b h e d I I) ?_);rintro _ aa ⟨rfl,rfl⟩;have a:h.le (h.put b (pF (jo l.bR 0 0).2)):=J.d' d;refine aW (λh1=>?_) (λh1=>?_);refine .ag ⟨a,?_⟩;unfold wZ;rw[aS h1];rfl;have c:¬(jo l.bR 0 0).1≠0:=h1;refine .ag (.mk _ (akI _ l (A8 _) av (Oi _ _ _ (aIv c)) A m cap _ (e.mono a)) ?_);rintro _ aa ⟨rfl,rfl⟩;refine aW (λae=>?_) (λae=>?_);refine .ag ⟨a,?_⟩;unfold wZ;rw[aC c,aS I];rfl;refine .ag ⟨a,?_⟩;unfold wZ;rw[aC c,aC I];rfl
def vC:e3->Nat
 |.nil=>0
 |.cons _ _ b r=>(bif b.leaf then 1 else vC b)+vC r
def pH:e3->Nat
 |.nil=>0
 |.cons _ _ b r=>max (bif b.leaf then 0 else pH b+1) (pH r)
theorem agr(h:f.leaf=true):f= .nil:=by
 cases f with
 |nil=>rfl
 |cons=>grind [e3.leaf]
theorem aaX(h:wZ f=0):(jo f 0 0).1=0/\gn f<=2048:=by
 unfold wZ at h;omega
def J.sub(aa h:J):J:=λo=>match h o with
 |none=>aa o
 |some _=>none
variable {aa h:J}
theorem J.sub_le(aa h:J):(aa.sub h).le aa:=λo U e=>by
 unfold J.sub at e
 grind
theorem J.aFX(a:aa o=none):aa.sub h o=none:=by
 unfold J.sub;grind
theorem J.MK(a:aa.sub h o≠none):h o=none:=by
 unfold J.sub at a
 grind
theorem J.PG{a:J}(x:a.le aa)(d:∀o,a o≠none->h o=none):a.le (aa.sub h):=λo U e=>by
 unfold J.sub;rw[d o aL];exact x o U e
def cd.cl:cd->List (List aA)
 |.nil=>[]
 |.cons t n B m c _ r=>k9 t n B m c::r.cl
theorem cd.aa2:∀l:cd,l.cl.length=l.len
 |.nil=>rfl
 |.cons _ _ _ _ _ _ r=>by simp[cd.cl,cd.len,r.aa2]
theorem cd.Kv:∀l:cd,∀r∈l.cl,r.length=3
 |.nil,_,h=>by cases h
 |.cons t n B m c _ r,x,h=>by
  rcases ez.1 h with rfl|h;rfl;exact r.Kv x h
abbrev wl:=J->Option aE->Nat->Nat->cd->Prop
def wl.Zt(K:wl):Prop:=∀h aa B m c b,h.le aa->K h B m c b->K aa B m c b
def wm(K:wl)(h:J):cd->Prop
 |.nil=>True
 |.cons _ _ B m c b r=>K h B m c b/\wm K h r
theorem wm.mono{K:wl}(c:K.Zt){h aa:J}(x:h.le aa):∀{l:cd},wm K h l->wm K aa l
 |.nil,_=>trivial
 |.cons _ _ _ _ _ _ _,⟨a,b⟩=>⟨c _ _ _ _ _ _ x a,wm.mono c x b⟩
def GW(K:wl)(h:J):cd->Prop
 |.nil=>True
 |.cons _ _ B m c b r=>∃d a:J,d.le h/\a.le h/\(∀o,d o≠none->a o=none)/\K d B m c b/\GW K a r
def J.or(a b:J):J:=λo=>match a o with
 |some U=>some U
 |none=>b o
theorem J.Qm{a b:J}(x:a.le h)(y:b.le h):(a.or b).le h:=λo U e=>by
 unfold J.or at e;cases q:a o with
 |none=>rw[q]at e;exact y o U e
 |some c=>rw[q]at e;injection e with e;subst e;exact x o c q
theorem J.aAy(a b:J):a.le (a.or b):=λo U e=>by unfold J.or;rw[e]
theorem J.aAz{a b:J}(d:∀o,b o≠none->a o=none):b.le (a.or b):=λo U e=>by
 unfold J.or;grind
theorem J.or_none{a b:J}(x:a o=none)(y:b o=none):a.or b o=none:=by unfold J.or;grind
def xW:wl:=λh B m _ b=>kR h B m b
theorem xW.mono:xW.Zt:=λ_ _ _ _ _ _ x a=>kR.mono x a
def cd.snoc:cd->Int->Int->Option aE->Nat->Nat->cd->cd
 |.nil,t,n,B,m,c,b=>.cons t n B m c b .nil
 |.cons iS f d a bj e r,t,n,B,m,c,b=>.cons iS f d a bj e (r.snoc t n B m c b)
def e3.app:e3->e3->e3
 |.nil,f=>f
 |.cons t n b r,f=>.cons t n b (r.app f)
theorem e3.SA:∀f:e3,f.app .nil=f
 |.nil=>rfl
 |.cons _ _ _ r=>by simp[e3.app,r.SA]
theorem cd.XV t n B m c b f:∀p:cd,(p.snoc t n B m c b).bR.app f=p.bR.app (.cons t n b.bR f)
 |.nil=>rfl
 |.cons _ _ _ _ _ _ r=>by simp only[cd.snoc,cd.bR,e3.app,cd.XV t n B m c b f r]
theorem cd.XW t n B m c b:∀p:cd,(p.snoc t n B m c b).len=p.len+1
 |.nil=>rfl
 |.cons _ _ _ _ _ _ r=>by simp[cd.snoc,cd.len,cd.XW t n B m c b r]
theorem cd.XU t n B m c b:∀p:cd,(p.snoc t n B m c b).cl=p.cl++[k9 t n B m c]
 |.nil=>rfl
 |.cons _ _ _ _ _ _ r=>by simp[cd.snoc,cd.cl,cd.XU t n B m c b r]
theorem cd.ajW{K:wl}{Y:J} t n B m c b(k:K Y B m c b):∀{p:cd}{X Z:J},GW K X p->(∀o,Y o≠none->X o=none)->X.le Z->Y.le Z->GW K Z (p.snoc t n B m c b)
 |.nil,_,_,_,_,_,g=>⟨Y,λ_=>none,g,(λ_ _ e=>by cases e),(λ_ _=>rfl),k,trivial⟩
 |.cons _ _ _ _ _ _ _,X,Z,⟨r,l,a,i,bj,d,e⟩,h,j,g=>⟨r,l.or Y,J.le_trans a j,J.Qm (J.le_trans i j) g,λo f=>J.or_none (bj o f) (by
  cases q:Y o with
  |none=>rfl
  |some U=>exact absurd (J.none_le a (h o aL)) f),d,cd.ajW t n B m c b k e (λo f=>J.none_le i (h o f)) (J.aAy _ _) (J.aAz λo f=>J.none_le i (h o f))⟩
theorem aan{h:J}{g:aE}:∀l i,(∀k row,l.cl[k]?=some row->∀o v,row[o]?=some v->h.cell? ((g.add ((i+k)*3)).add o)=some v)->wm xW h l->rq h g i l
 |.nil,_,_,_=>trivial
 |.cons t n B m c b r,i,av,⟨a,e⟩=>⟨av 0 _ rfl,a.1,a.2,aan r (i+1) (λk row hk o v d=>by
  have:=av (k+1) row (by grind [cd.cl]) o v d
  grind) e⟩
theorem bg.sat(t:bg h 3 A n l.cl)(b:wm xW h l):kR h A n l:=by
 have al:=t.len;rw[l.aa2]at al;refine⟨al.symm,?_⟩;by_cases am:n=0;exact bQ (cd.S5 I);obtain⟨g,a⟩:=t.b4 am;exact ba ⟨g,a,aan l 0 (λk row hk o v c=>by rw[wS,dZ];exact t.cell g a k row hk o v c) b⟩
theorem aEA{bF size cap:Nat}{xs:List aA}(x:bw aa bF size A n cap xs)(e:∀g,A=some g->h g.block=none):bw (aa.sub h) bF size A n cap xs:=by
 obtain⟨h1,ae⟩:=x;refine⟨h1,ae.imp id λ⟨g,b,a,d,c⟩=>⟨g,b,a,?_,c⟩⟩;unfold J.sub
 grind
structure Cw(K:wl)(h aa cy:J)(A:Option aE)(i c:Nat)(p:cd):Prop where
 le:h.le aa
 hd:cy.le aa
 out:∀o,cy o≠none->h o=none
 qe:∀g,A=some g->h g.block=none/\cy g.block=none
 row:bw aa 199 3 A i c p.cl.flatten
 Kj:GW K cy p
 len:p.len=i
theorem Cw.nil(K:wl)(h:J):Cw K h h (λ_=>none) none 0 0 .nil:=⟨J.le_refl h,(λ_ _ e=>by cases e),(λ_ e=>absurd rfl e),(λ_ e=>by cases e),⟨rfl,bQ ⟨rfl,rfl,rfl⟩⟩,trivial,rfl⟩
theorem Cw.step{K:wl}{h aa r ae f:J}{A bo:Option aE}{i c bj:Nat}{p:cd}(x:Cw K h aa r A i c p)(l:aa.le ae) t n{B:Option aE}{m j:Nat}{b:cd}(u:K (ae.sub aa) B m j b)(s:(en ae A).le f)(v:bw f 199 3 bo (i+1) bj (p.cl.flatten++k9 t n B m j))(k:∀g,bo=some g->en ae A g.block=none):Cw K h f ((en ae A).sub h) bo (i+1) bj (p.snoc t n B m j b):=by
 have aK:h.le (en ae A):=Bp (J.le_trans x.le l) λg e=>(x.qe g e).1;have d:∀g,A=some g->aa g.block≠none:=λg e=>by
  rcases x.row.2 with⟨q,_⟩|⟨z,y,q,w,_⟩
  grind
  grind
 have s1:r.le ((en ae A).sub h):=J.PG (Bp (J.le_trans x.hd l) λg e=>(x.qe g e).2) x.out;have s2:(ae.sub aa).le ((en ae A).sub h):=J.PG (Bp (J.sub_le _ _) λg e=>by
  cases q:ae.sub aa g.block with
  |none=>rfl
  |some U=>exact absurd (J.MK (by rw[q];simp)) (d g e)) λo a=>J.none_le x.le (J.MK a)
 refine⟨J.le_trans aK s,J.le_trans (J.sub_le _ _) s,λo a=>J.MK a,λg e=>⟨J.none_le aK (k g e),J.aFX (k g e)⟩,?_,cd.ajW _ _ _ _ _ _ u x.Kj (λo a=>J.none_le x.hd (J.MK a)) s1 s2,by rw[cd.XW,x.len]⟩;rw[cd.XU,wy,List.flatten_singleton];exact v
theorem PC t n B m c:∀u∈k9 t n B m c,u.oneCell'=true:=by
 intro u h;simp only[k9,ez,y9,or_false]at h;rcases h with rfl|rfl|rfl<;>rfl
def rep{α:Type}:Nat->List α->List α
 |0,_=>[]
 |k+1,w=>w++rep k w
def gS:e3->List Int
 |.nil=>[]
 |.cons t n b r=>rep t.toNat (bif b.leaf then[n]else gS b)++gS r
theorem ai6{α:Type}(w:List α):∀k,(rep k w).length=k*w.length
 |0=>by simp[rep]
 |k+1=>by rw[rep,fb,ai6 w k,Nat.succ_mul];omega
theorem TG:∀f,(gS f).length=gn f
 |.nil=>rfl
 |.cons t n b r=>by
  simp only[gS,gn,fb,ai6,TG r];cases b.leaf with
  |true=>rfl
  |false=>simp only[vw,TG b]
theorem NT(h:wZ f=0):o2 f/\gn f<=2048:=by
 obtain⟨h1,ae⟩:=aaX h;exact⟨Oi _ _ _ h1,ae⟩
theorem WD(l:List Int):∀u∈l.map R,u.oneCell'=true:=by
 intro u h;obtain⟨z,_,rfl⟩:=cO.1 h;rfl
theorem bw.j7{q:List Int}(x:bw h 3 1 D n c (q.map R)):bg h 1 D n (q.map λz=>[R z]):=by
 refine bw.dK (bF:=3) (cap:=c) ?_ (Vs q) aH;rw[vD];exact x
structure xV(bF size:Nat)(h aa:J)(D:Option aE)(n c:Nat)(xs:List aA):Prop where
 le:h.le aa
 row:bw aa bF size D n c xs
 qe:∀g,D=some g->h g.block=none
theorem xV.nil bF size h:xV bF size h h none 0 0 []:=⟨J.le_refl h,⟨bc,bQ ⟨rfl,rfl,rfl⟩⟩,λ_ e=>by cases e⟩
theorem xV.step{bF size:Nat}{h aa ae b:J}{D a:Option aE}{n c d c2:Nat}{q w:List aA}(x:xV bF size h aa D n c q)(j:aa.le ae)(k:(en ae D).le b)(f:bw b bF size a d c2 (q++w))(i:∀g,a=some g->en ae D g.block=none):xV bF size h b a d c2 (q++w):=by
 have aK:h.le (en ae D):=Bp (J.le_trans x.le j) x.qe;exact⟨J.le_trans aK k,f,λg e=>J.none_le aK (i g e)⟩
abbrev CO:=Int×Nat
def Ap(r:CO):List aA:=[R r.1,R r.2]
def D2(l:List CO):List aA:=(l.map Ap).flatten
theorem aiU a b:D2 (a++b)=D2 a++D2 b:=by simp[D2]
def gI:List Int->List CO
 |[]=>[]
 |x::l=>match gI l with
  |(y,k)::r=>if y=x then(x,k+1)::r else(x,1)::(y,k)::r
  |[]=>[(x,1)]
theorem aEW:∀l:List Int,(gI l).head?.map (·.1)=l.head?
 |[]=>rfl
 |x::l=>by
  grind [gI]
theorem QO:∀l,(gI l).length<=l.length
 |[]=>dM _
 |x::l=>by
  have:=QO l;simp only[gI]
  grind
theorem ajo x t(a:t.head?≠some x):∀k,gI (bp (k+1) x++t)=(x,k+1)::gI t
 |0=>by
  have:=aEW t;show gI (x::t)=_;simp only[gI]
  grind
 |k+1=>by
  rw[A4,A2,gI,ajo x t a k];simp
theorem aqx{l:List Int}{i:Nat} a:l.drop i=l[i]::l.drop (i+1):=List.drop_eq_getElem_cons a
theorem aEV D n cap l h(j:bg h 1 D n (l.map λz=>[R z]))(L:n<=8796093022207):Fn aD 16 #[ab D n cap] h λv aa=>∃E m c,v=ab E m c/\m=(gI l).length/\xV 130 2 h aa E m c (D2 (gI l)):=by
 have al:l.length=n:=by simpa using j.len
 have N:=QO l;refine bU ayC rfl ?_;refine .mb [] (Nat×Option aE×Nat×Nat×List CO) [0,3,4] (λ(i,E,m,c,_)=>[.v (ab D n cap),.v (ab E m c),.v (R i)]) (λ_=>[]) (λ(i,E,m,c,q) aa=>i<=n/\m=q.length/\xV 130 2 h aa E m c (D2 q)/\q++gI (l.drop i)=gI l) (λ(i,_,_,_,_)=>n-i) (0,none,0,0,[]) (λ_=>rfl) ⟨cU _,rfl,xV.nil 130 2 h,rfl⟩ rfl rfl rfl ?_;refineλ⟨i,E,m,c,q⟩ e aa⟨G,hm,a,he⟩=>.ag (aW (λh1=>?_) (λh1=>?_));have p:i<l.length:=I;obtain⟨g,d⟩:=j.b4 I;have at_:∀(aa:J)(k:Nat)(hk:k<l.length),h.le aa->aa.cell? (g.add (k*1))=some (R l[k]):=λaa k hk x=>by
  exact(j.mono x).one d (jx hk) rfl
 refine .mb [] Nat [0,3,4,5] (λk=>[.v (ab D n cap),.v (ab E m c),.v (R i),.v (R k)]) (λ_=>[]) (λk aa=>i<=k/\k<=n/\xV 130 2 h aa E m c (D2 q)/\l.drop i=bp (k-i) l[i]++l.drop k) (λk=>n-k) i (λ_=>rfl) ⟨dM _,G,a,bc⟩ rfl rfl rfl ?_;refineλk e aa⟨K,B,a,w⟩=>.ag ?_;have fin:l[k]?≠some l[i]->i<k->q++((l[i],k-i)::gI (l.drop k))=gI l:=λM b=>by
  rw[<-he,w,show k-i=(k-i-1)+1 by omega,ajo _ _ (by simp_all)]
 refine aW (λae=>?_) (λae=>?_);have A:k<l.length:=I;refine .m g d ?_;refine .hp _ (by rw[bn];exact at_ aa k A a.le) ?_;refine .m g d ?_;refine .hp _ (by rw[bn];exact at_ aa i p a.le) ?_;refine aW (λy=>?_) (λy=>?_);refine .bl ?_;refine .ag ⟨k+1,rfl,rfl,⟨I,I,a,?_⟩,I⟩;rw[w,aqx A,y,show k+1-i=(k-i)+1 by omega,List.replicate_succ',mg];rfl;have b:i<k:=by
  grind
 have H:=fin aL b;refine .m g d (.hp _ (by rw[bn];exact at_ aa i p a.le) (.bl ?_));rw[show(k:Int)- (i:Int)=((k-i:Nat):Int) by omega];have o:q.length<=n:=by
  grind
 refine .abs 130 2 E m c _ a.row (.ag (.c0 1 _ (Ap (l[i],k-i)) rfl rfl (by intro u hu;simp only[Ap,ez,y9,or_false]at hu;rcases hu with rfl|rfl<;>rfl) (by grind [eQ]) I λf c2 C=>.b5 1 130 2 f (m+1) c2 _ rfl λaT r s t=>.ag ⟨(k,f,m+1,c2,q++[(l[i],k-i)]),rfl,rfl,⟨B,by simp[hm],?_,aL⟩,aL⟩));rw[aiU];exact a.step (J.le_refl _) r s t;obtain rfl:k=n:=by omega
 have H:=fin aL I;refine .m g d (.hp _ (by rw[bn];exact at_ aa i p a.le) (.bl ?_));rw[show(k:Int)- (i:Int)=((k-i:Nat):Int) by omega];have o:q.length<=k:=by
  grind
 refine .abs 130 2 E m c _ a.row (.ag (.c0 1 _ (Ap (l[i],k-i)) rfl rfl (by intro u hu;simp only[Ap,ez,y9,or_false]at hu;rcases hu with rfl|rfl<;>rfl) (by grind [eQ]) I λf c2 C=>.b5 1 130 2 f (m+1) c2 _ rfl λaT r s t=>.ag ⟨(k,f,m+1,c2,q++[(l[i],k-i)]),rfl,rfl,⟨B,by simp[hm],?_,aL⟩,aL⟩));rw[aiU];exact a.step (J.le_refl _) r s t;obtain rfl:i=n:=by omega
 rw[List.drop_of_length_le I]at he;have F:q=gI l:=by simp[<-he,gI]
 rw[F]at a hm;exact .ag ⟨E,m,c,rfl,hm,a⟩
theorem aD3(l:List CO):∀r∈l.map Ap,r.length=2:=by
 intro r b;obtain⟨a,_,rfl⟩:=cO.1 b;rfl
theorem xV.dK{h aa:J}{D:Option aE}{m c:Nat}{q:List CO}(x:xV 130 2 h aa D m c (D2 q)):bg aa 2 D m (q.map Ap):=x.row.dK (aD3 q) aH
theorem ajx A B n m j l(a b:List Int) h(aK:bg h 1 A n (a.map λz=>[R z]))(d:bg h 1 B m (b.map λz=>[R z]))(t:n<=9223372036854775806):Fn aD 12 #[ab A n j,ab B m l] h λr aa=>r=dh (decide (a=b))/\aa=h:=by
 have u:a.length=n:=by simpa using aK.len
 have w:b.length=m:=by simpa using d.len
 refine bU ayb rfl (aW (λh1=>?_) (λh1=>?_));refine .ag ⟨?_,rfl⟩;rw[jn (λe=>aL)];rfl;have p:n=m:=I;subst p;refine .mk Nat [0,1,5] (λk=>[.v (ab A n j),.v (ab B n l),.v (R k)]) (λ_=>[]) (λk aa=>aa=h/\k<=n/\a.take k=b.take k) (λk=>n-k) 0 (λ_=>rfl) ⟨rfl,cU _,bc⟩ rfl rfl (λk e aa⟨rfl,hk,f⟩=>aW (λae=>?_) (λae=>?_));have q:k<n:=I;obtain⟨g,i⟩:=aK.b4 I;obtain⟨g2,o⟩:=d.b4 I;have s:=akr f I I;refine .m g i (.hp (R (a[k]'I)) (by rw[bn];exact aK.one i (r:=[R (a[k]'I)]) aL rfl) (.m g2 o (.hp (R (b[k]'I)) (by rw[bn];exact d.one o (r:=[R (b[k]'I)]) aL rfl) (aW (λc=>?_) (λc=>?_)))));refine .ag ⟨?_,rfl⟩;rw[jn (λe=>c aL)];rfl;exact .bl (⟨k+1,rfl,rfl,⟨rfl,q,s.2 (alR.1 c)⟩,I⟩);have:k=n:=I;subst this;refine .ag ⟨?_,rfl⟩;rw[mJ I,mJ I]at f;rw[hr f];rfl
theorem avX A n c(a:List Int) h(aK:bg h 1 A n (a.map λz=>[R z]))(e:n*8<=140737488355328):Fn aD 31 #[ab A n c] h λr aa=>h.le aa/\∃bo bj,r=ab bo n bj/\bw aa 3 1 bo n bj (a.map R)/\∀g,bo=some g->h g.block=none:=by
 refine bU azo rfl (.ag (.fresh _ rfl rfl rfl (aK.src _) (by rw[vD];exact Gh a) (by grind [eQ]) e λbo d j=>.b5 0 3 1 bo n d _ rfl λaa i b f=>?_));have b:bw aa 3 1 bo n d (a.map λz=>[R z]).flatten:=b;rw[vD]at b;exact .ag ⟨i,bo,d,rfl,b,f⟩
theorem bg.at_{size:Nat}{rows:List (List aA)}(t:bg h size A n rows)(e:∀g,A=some g->h g.block=aa g.block):bg aa size A n rows:=by
 refine⟨t.len,t.wid,t.b4,λg a i r c o v b=>?_⟩;have:=t.cell g a i r c o v b;have he:=e g a;unfold J.cell? at this⊢;have d:(g.add (i*size+o)).block=g.block:=by unfold M8;grind
 grind
theorem bg.mem{g:aE}{l:List Int}(t:bg h 1 (some g) n (l.map λz=>[R z]))(b:n≠0):h g.block≠none:=by
 have al:l.length=n:=by simpa using t.len
 obtain⟨z,a⟩:∃z,l[0]?=some z:=⟨_,bK I⟩;have:=t.one rfl (i:=0) (r:=[R z]) aL rfl;intro c;have d:(g.add (0*1)).block=g.block:=dW;unfold J.cell? at this
 grind
theorem q8{l:List aA}{ty:Nat}(a:h b=some (bb l.toArray ty (0,0))){v:aA}(c:l[o]?=some v):h.cell? ⟨b,o,none⟩=some v:=by
 unfold J.cell?;grind
theorem TF:∀f,o2 f->vC f<=gn f
 |.nil,_=>dM _
 |.cons t n b r,⟨h1,ae,a⟩=>by
  have i2:=TF r a;have i1:=TF b ae;have d:=ae5 ae;have c:1*q4 b<=t.toNat*q4 b:=vn _ I;rw[akH];simp only[vC];unfold q4 at*
  grind
theorem acE g:∀f,gS (f.app g)=gS f++gS g
 |.nil=>rfl
 |.cons t n b r=>by simp only[e3.app,gS,acE g r,mg]
theorem TE:∀{f:e3},f.leaf=false->1<=vC f
 |.nil,h=>by cases h
 |.cons t n b r,_=>by
  simp only[vC];cases al:b.leaf with
  |true=>simp
  |false=>have:=TE al;grind
abbrev jB:=Int×Int×e3
def e3.eL:e3->List jB
 |.nil=>[]
 |.cons t n b r=>(t,n,b)::r.eL
def gA:List jB->e3
 |[]=>.nil
 |(t,n,b)::l=>.cons t n b (gA l)
theorem Ti:∀l,(gA l).eL=l
 |[]=>rfl
 |(t,n,b)::l=>by simp only[gA,e3.eL,Ti l]
theorem Ge:∀f,gA f.eL=f
 |.nil=>rfl
 |.cons t n b r=>by simp only[gA,e3.eL,Ge r]
theorem aBn{f g:List jB}(h:gA f=gA g):f=g:=by rw[<-Ti f,h,Ti]
theorem abM g:∀f:e3,(f.app g).eL=f.eL++g.eL
 |.nil=>rfl
 |.cons t n b r=>by simp only[e3.app,e3.eL,abM g r,A2]
theorem ag6 m:∀l,gA (l++m)=(gA l).app (gA m)
 |[]=>rfl
 |(t,n,b)::l=>by simp only[A2,gA,e3.app,ag6 m l]
theorem abN:∀f:e3,f.eL.length=f.len
 |.nil=>rfl
 |.cons t n b r=>by simp only[e3.eL,iJ,e3.len,abN r]
def CA(w:Nat)(l:List jB)(o:Nat):Prop:=(o+1)*w<=l.length/\(l.drop (o*w)).take w=l.take w
instance (w:Nat)(l:List jB)(o:Nat):Decidable (CA w l o):=inferInstanceAs (Decidable (_/\_))
structure ua(w:Nat)(l:List jB)(m:Nat):Prop where
 pos:1<=m
 ok:∀o,1<=o->o<m->CA w l o
 no:¬CA w l m
theorem ua.uniq{l:List jB}{k:Nat}(a:ua w l m)(b:ua w l k):m=k:=by
 rcases Nat.lt_trichotomy m k with h|h|h;exact absurd (b.ok m a.pos h) a.no;omega;exact absurd (a.ok k b.pos h) b.no
def QD(w:Nat)(l:List jB):Nat->Nat->Nat
 |0,m=>m
 |k+1,m=>if CA w l m then QD w l k (m+1)else m
def eF(w:Nat)(l:List jB):Nat:=QD w l l.length 1
theorem ai0{w:Nat}(hw:1<=w) l:∀k m,1<=m->(∀o,1<=o->o<m->CA w l o)->l.length<=k+m->ua w l (QD w l k m)
 |0,m,h1,ae,a=>⟨h1,ae,λh=>by
  have h:(m+1)*w<=l.length:=h.1;have:m+1<=(m+1)*w:=Nat.le_mul_of_pos_right _ hw;omega⟩
 |k+1,m,h1,ae,a=>by
  unfold QD;split;rename_i h;refine ai0 hw l k (m+1) I (λo b c=>?_) I
  grind
  rename_i h;exact⟨h1,ae,h⟩
theorem Gw(hw:1<=w) l:ua w l (eF w l):=ai0 hw l _ 1 (dM _) (λo h1 ae=>I) I
theorem ua.room{l:List jB}(r:ua w l m)(h:2<=m):m*w<=l.length:=by
 have:=(r.ok (m-1) I I).1
 grind
def DY(w:Nat):Nat->List jB->List jB
 |0,_=>[]
 |_+1,[]=>[]
 |k+1,x::l=>if eF w (x::l)=1 then x::DY w k l else((eF w (x::l):Int),0,gA ((x::l).take w))::DY w k ((x::l).drop (eF w (x::l)*w))
theorem W2{w:Nat}(hw:1<=w):∀k a l,l.length<=k->l.length<=a->DY w k l=DY w a l
 |0,0,_,_,_=>rfl
 |0,a+1,l,h,_=>by
  obtain rfl:l=[]:=y7 I;rfl
 |k+1,0,l,_,h=>by
  obtain rfl:l=[]:=y7 I;rfl
 |k+1,a+1,[],_,_=>rfl
 |k+1,a+1,x::l,h,aa=>by
  simp only[DY];simp only[iJ]at h aa;split;rw[W2 hw k a l I I];have hp:=(Gw hw (x::l)).pos;have b:((x::l).drop (eF w (x::l)*w)).length<=l.length:=by
   have:1<=eF w (x::l)*w:=mh hp hw
   grind
  rw[W2 hw k a _ I I]
def jO(w:Nat)(l:List jB):List jB:=DY w l.length l
theorem aDc w:jO w []=[]:=rfl
theorem I9{x:jB}{l:List jB}(hw:1<=w)(h:ua w (x::l) 1):jO w (x::l)=x::jO w l:=by
 unfold jO;simp only[iJ,DY];rw[aS ((Gw hw _).uniq h)]
theorem Ml{l:List jB}(hw:1<=w)(h:ua w l m)(hm:2<=m):jO w l=((m:Int),0,gA (l.take w))::jO w (l.drop (m*w)):=by
 have a:=h.room hm;cases l with
 |nil=>
  have:1<=m*w:=mh h.pos hw
  grind
 |cons x l=>
  have e:=(Gw hw _).uniq h;unfold jO;simp only[iJ,DY];rw[aC I,e];congr 1;refine W2 hw _ _ _ ?_ (dM _);have:1<=m*w:=mh h.pos hw
  grind
def oH(l:List jB):Nat:=(gA l).br
theorem HE x l:oH (x::l)=1+x.2.2.br+oH l:=by
 grind [oH,gA,e3.br]
theorem NX m:∀l,oH (l++m)=oH l+oH m
 |[]=>by simp[oH,gA,e3.br]
 |x::l=>by rw[A2,HE,HE,NX m l];omega
theorem aa5:∀l,l.length<=oH l
 |[]=>cU _
 |x::l=>by have:=aa5 l;rw[HE,iJ];omega
theorem apZ k l:oH (l.drop k)<=oH l:=by
 have:=NX (l.drop k) (l.take k);simp_all
theorem Gp{w:Nat}(hw:1<=w):∀N l,l.length<=N->oH (jO w l)<=oH l/\(jO w l).length<=l.length
 |N,[],_=>⟨dM _,dM _⟩
 |0,x::l,h=>by simp at h
 |N+1,x::l,h=>by
  simp only[iJ]at h;have c:=Gw hw (x::l);by_cases h1:eF w (x::l)=1;rw[h1]at c;obtain⟨a,b⟩:=Gp hw N l I;rw[I9 hw c,HE,HE]
  grind
  have ae:2<=eF w (x::l):=by have:=c.pos;omega
  obtain⟨m,hm⟩:∃m,m=eF w (x::l):=⟨_,rfl⟩;rw[<-hm]at c ae;have j:=c.room ae;have k:2*w<=m*w:=vn w ae;rw[Ml hw c ae,HE];obtain⟨cC,i⟩:∃cC,cC=x::l:=⟨_,rfl⟩;rw[<-i]at c j⊢;have o:cC.length=l.length+1:=aL;obtain⟨a,b⟩:=Gp hw N (cC.drop (m*w)) aL;have d:=(c.ok 1 (dM _) I).2;rw[Nat.one_mul]at d;have e:=NX (cC.drop w) (cC.take w);rw[Ha]at e;have f:=NX ((cC.drop w).drop w) ((cC.drop w).take w);rw[Ha,d]at f;have n:oH (cC.drop (m*w))<=oH ((cC.drop w).drop w):=by
   have:cC.drop (m*w)=((cC.drop w).drop w).drop (m*w-2*w):=by
    rw[RW,RW];grind
   rw[this];exact apZ _ _
  have g:=aa5 (cC.take w);rw[mV]at g;simp only[iJ];rw[mU]at b;refine⟨?_,I⟩;show 1+oH (cC.take w)+_<=_;omega
def o4:Nat->Nat->List jB->List jB
 |0,_,l=>l
 |k+1,w,l=>if w<=16/\2*w<=l.length then(if(jO w l).length<l.length then o4 k 1 (jO w l)else o4 k (w+1) (jO w l))else l
def comp(l:List jB):List jB:=o4 (20*l.length+20) 1 l
structure dU where
 bk:List (Int×Int×Nat)
 ls:List (Nat×Nat)
 mH:Nat->jB
 l0:Nat->List jB
variable {M N:dU}
structure dU.Ok(N:dU):Prop where
 q6:N.l0 0=[]
 ds:∀k a b,N.ls[k]?=some (a,b)->a<=N.ls.length/\1<=b/\b<=N.bk.length/\N.l0 (k+1)=N.l0 a++[N.mH b]
 fn:∀k t n b,N.bk[k]?=some (t,n,b)->b<=N.ls.length/\N.mH (k+1)=(t,n,gA (N.l0 b))
 k7:∀a b,a<=N.ls.length->b<=N.ls.length->N.l0 a=N.l0 b->a=b
 uu:∀a b,1<=a->1<=b->a<=N.bk.length->b<=N.bk.length->N.mH a=N.mH b->a=b
structure dU.Ext(N M:dU):Prop where
 jL:N.bk.length<=M.bk.length
 hf:N.ls.length<=M.ls.length
 E5:∀k,k<=N.bk.length->M.mH k=N.mH k
 el:∀k,k<=N.ls.length->M.l0 k=N.l0 k
def dU.hA(N:dU):Nat:=N.bk.length+N.ls.length
theorem dU.Ext.refl(N:dU):N.Ext N:=⟨dM _,dM _,λ_ _=>rfl,λ_ _=>rfl⟩
theorem dU.Ext.trans{K:dU}(x:N.Ext M)(y:M.Ext K):N.Ext K:=⟨lf x.jL y.jL,lf x.hf y.hf,λk hk=>by rw[y.E5 k (lf hk x.jL),x.E5 k hk],λk hk=>by rw[y.el k (lf hk x.hf),x.el k hk]⟩
def dU.fresh:dU:=⟨[],[],λ_=>(0,0,.nil),λ_=>[]⟩
theorem dU.Ot:dU.fresh.Ok:=⟨rfl,λk a b h=>by grind [dU.fresh],λk t n b h=>by grind [dU.fresh],λa b c d _=>by grind [dU.fresh],λa b h1 _ ae=>by grind [dU.fresh]⟩
def dU.link(N:dU)(a b:Nat):dU:=⟨N.bk,N.ls++[(a,b)],N.mH,λk=>if k=N.ls.length+1 then N.l0 a++[N.mH b]else N.l0 k⟩
def dU.ur(N:dU)(t n:Int)(b:Nat):dU:=⟨N.bk++[(t,n,b)],N.ls,λk=>if k=N.bk.length+1 then(t,n,gA (N.l0 b))else N.mH k,N.l0⟩
theorem dU.agJ(N:dU) a b:N.Ext (N.link a b):=⟨dM _,by simp[dU.link],λ_ _=>rfl,λk hk=>by
 grind [dU.link]⟩
theorem dU.acj(N:dU) t n b:N.Ext (N.ur t n b):=⟨by simp[dU.ur],dM _,λk hk=>by
 grind [dU.ur],λ_ _=>rfl⟩
theorem dU.Ok.arD(U:N.Ok){k:Nat}(hk:k<=N.ls.length)(l:a<=N.ls.length)(h1:1<=b)(n:b<=N.bk.length)(h:N.l0 k=N.l0 a++[N.mH b]):∃i,k=i+1/\N.ls[i]?=some (a,b):=by
 cases k with
 |zero=>simp_all[U.q6]
 |succ i=>
  refine⟨i,rfl,?_⟩;obtain⟨⟨e,d⟩,m⟩:∃x,N.ls[i]?=some x:=⟨_,bK I⟩;obtain⟨g,f,o,p⟩:=U.ds i e d m;rw[p]at h;obtain⟨j,c⟩:=List.append_inj' h rfl;have q:=U.k7 e a g l j;injection c with c;have c6:=U.uu d b f h1 o n c
  grind
theorem dU.aAM(U:N.Ok)(l:a<=N.ls.length)(h1:1<=b)(m:b<=N.bk.length)(w:(a,b)∉N.ls):(N.link a b).Ok:=by
 have A:∀k,k<=N.ls.length->N.l0 k≠N.l0 a++[N.mH b]:=λk hk h=>by
  obtain⟨i,_,z⟩:=U.arD hk l h1 m h
  grind
 have e:∀k,k<=N.ls.length->(N.link a b).l0 k=N.l0 k:=(N.agJ a b).el;have o:(N.link a b).l0 (N.ls.length+1)=N.l0 a++[N.mH b]:=by simp[dU.link]
 have u:(N.link a b).ls.length=N.ls.length+1:=by simp[dU.link]
 refine⟨by rw[e 0 (cU _)];exact U.q6,λk c d hk=>?_,λk t n c hk=>?_,λc d av p h=>?_,U.uu⟩;have f:(N.ls++[(a,b)])[k]?=some (c,d):=hk;rw[EF]at f;split at f;rename_i s;obtain⟨j,g,q,r⟩:=U.ds k c d f;exact⟨I,g,q,by rw[e _ I,e _ j];exact r⟩;rename_i s;have v:k-N.ls.length=0:=by
  grind
 rw[v]at f;simp at f;obtain⟨rfl,rfl⟩:=f;obtain rfl:k=N.ls.length:=by omega
 exact⟨I,h1,m,by rw[o,e _ l];rfl⟩;obtain⟨j,g⟩:=U.fn k t n c hk;exact⟨I,by rw[e _ j];exact g⟩;rw[u]at av p;by_cases x:c=N.ls.length+1
 grind
 by_cases y:d=N.ls.length+1
 grind
 rw[e c I,e d I]at h;exact U.k7 c d I I h
theorem dU.Ok.arC(U:N.Ok){k:Nat}(am:1<=k)(hk:k<=N.bk.length){n:Int}(g:b<=N.ls.length)(h:N.mH k=(t,n,gA (N.l0 b))):∃i,k=i+1/\N.bk[i]?=some (t,n,b):=by
 cases k with
 |zero=>omega
 |succ i=>
  refine⟨i,rfl,?_⟩;obtain⟨⟨iS,l,c⟩,f⟩:∃x,N.bk[i]?=some x:=⟨_,bK I⟩;obtain⟨e,d⟩:=U.fn i iS l c f;rw[d]at h;injection h with m a;injection a with a j;have c6:=U.k7 c b e g (aBn j)
  grind
theorem dU.arl(U:N.Ok){n:Int}(g:b<=N.ls.length)(u:(t,n,b)∉N.bk):(N.ur t n b).Ok:=by
 have y:∀k,1<=k->k<=N.bk.length->N.mH k≠(t,n,gA (N.l0 b)):=λk am hk h=>by
  obtain⟨i,_,x⟩:=U.arC am hk g h
  grind
 have bs:∀k,k<=N.bk.length->(N.ur t n b).mH k=N.mH k:=(N.acj t n b).E5;have l:(N.ur t n b).mH (N.bk.length+1)=(t,n,gA (N.l0 b)):=by simp[dU.ur]
 have r:(N.ur t n b).bk.length=N.bk.length+1:=by simp[dU.ur]
 refine⟨U.q6,λk c d hk=>?_,λk iS j c hk=>?_,U.k7,λc d h1 ae av m h=>?_⟩;obtain⟨f,e,o,p⟩:=U.ds k c d hk;exact⟨f,e,I,by rw[bs d o];exact p⟩;have a:(N.bk++[(t,n,b)])[k]?=some (iS,j,c):=hk;rw[EF]at a;split at a;rename_i q;obtain⟨f,e⟩:=U.fn k iS j c a;exact⟨f,by rw[bs _ I];exact e⟩;rename_i q;have s:k-N.bk.length=0:=by
  grind
 rw[s]at a;simp at a;obtain⟨rfl,rfl,rfl⟩:=a;obtain rfl:k=N.bk.length:=by omega
 exact⟨g,l⟩;rw[r]at av m;by_cases v:c=N.bk.length+1
 grind
 by_cases w:d=N.bk.length+1
 grind
 rw[bs c I,bs d I]at h;exact U.uu c d h1 ae I I h
def KM(x:Int×Int×Nat):List Int:=[x.1,x.2.1,(x.2.2:Int)]
def L0(x:Nat×Nat):List Int:=[(x.1:Int),(x.2:Int)]
theorem ar2{x y:Int×Int×Nat}(h:KM x=KM y):x=y:=by
 grind [KM,A1]
theorem aAP{x y:Nat×Nat}(h:L0 x=L0 y):x=y:=by
 grind [L0,A1]
structure xJ{α:Type}(key:α->List Int)(l:List α)(es:List ja):Prop where
 len:es.length=l.length
 at_:∀(i:Nat)(e:ja)(x:α),es[i]?=some e->l[i]?=some x->e.k=key x/\e.v=R ((i+1:Nat):Int)
theorem aaj:∀es k,ke es k=none->∀(i:Nat) e,es[i]?=some e->e.k≠k
 |[],_,_,i,e,h=>by simp at h
 |x::es,k,h,i,e,he=>by
  simp only[ke]at h;split at h
  grind
  rename_i a;cases i with
  |zero=>grind
  |succ i=>exact aaj es k h i e aL
theorem aak:∀es k v,ke es k=some v->∃(i:Nat)(e:ja),es[i]?=some e/\e.k=k/\e.v=v
 |[],_,_,h=>by cases h
 |x::es,k,v,h=>by
  simp only[ke]at h;split at h;rename_i he;injection h with h;exact⟨0,x,rfl,he.symm,h⟩;obtain⟨i,e,h1,ae⟩:=aak es k v h;exact⟨i+1,e,aL,ae⟩
theorem GN:∀es k v c,ke es k=none->upsert es k v c=es++[⟨k,v,c⟩]
 |[],_,_,_,_=>rfl
 |x::es,k,v,c,h=>by
  simp only[ke]at h;split at h
  grind
  rename_i a;simp only[upsert,aC a,GN es k v c h,A2]
theorem xJ.none{α:Type}{key:α->List Int}{l:List α}{es:List ja}(s:xJ key l es){x:α}(h:ke es (key x)= .none):x∉l:=λb=>by
 obtain⟨i,a⟩:=List.getElem?_of_mem b;have c:=(qO.1 a).1;obtain⟨e,he⟩:∃e,es[i]?=some e:=⟨_,bK (by grind [s.len])⟩;exact aaj es _ h i e he (s.at_ i e x he a).1
theorem xJ.some{α:Type}{key:α->List Int}(hk:∀x y,key x=key y->x=y){l:List α}{es:List ja}(s:xJ key l es){x:α}{v:aA}(h:ke es (key x)= .some v):∃i,l[i]?= .some x/\v=R ((i+1:Nat):Int):=by
 obtain⟨i,e,h1,ae,d⟩:=aak es _ v h;have f:=(qO.1 h1).1;obtain⟨y,a⟩:∃y,l[i]?=Option.some y:=⟨_,bK (by simp_all[<-s.len])⟩;obtain⟨c,b⟩:=s.at_ i e y h1 a
 grind
theorem xJ.add{α:Type}{key:α->List Int}{l:List α}(s:xJ key l es) x c:xJ key (l++[x]) (es++[⟨key x,R ((es.length:Int)+1),c⟩]):=by
 refine⟨by simp[s.len],λi e y he a=>?_⟩;rw[EF]at he a;rw[s.len]at he;split at he;rename_i b;rw[aS b]at a;exact s.at_ i e y he a
 grind
structure jr(h:J)(c' ch cb:Nat)(N:dU):Prop where
 cell:h c'=some (bb [.map (some ch),.map (some cb)].toArray 284 (0,0))
 f:∃es cx,y' h ch 8 es cx/\xJ KM N.bk es
 l:∃es cx,y' h cb 7 es cx/\xJ L0 N.ls es
 ne:ch≠cb
 ok:N.Ok
theorem jr.aBQ(x:jr h c' ch cb N):c'≠ch:=λe=>by
 obtain⟨es,a,hm,_⟩:=x.f;have h1:=x.cell;rw[e,hm.at_]at h1;cases h1
theorem jr.aBR(x:jr h c' ch cb N):c'≠cb:=λe=>by
 obtain⟨es,a,hm,_⟩:=x.l;have h1:=x.cell;rw[e,hm.at_]at h1;cases h1
theorem jr.mono(x:jr h c' ch cb N)(l:h.le aa):jr aa c' ch cb N:=⟨l _ _ x.cell,let⟨es,a,hm,s⟩:=x.f;⟨es,a,⟨l _ _ hm.at_,hm.keys⟩,s⟩,let⟨es,a,hm,s⟩:=x.l;⟨es,a,⟨l _ _ hm.at_,hm.keys⟩,s⟩,x.ne,x.ok⟩
def J.off(h:J)(ch cb:Nat):J:=λo=>if o=ch\/o=cb then none else h o
theorem J.Ah(h:J) ch cb:(h.off ch cb).le h:=λo U e=>by
 unfold J.off at e;grind
theorem J.IX(h1:o≠ch)(ae:o≠cb):h.off ch cb o=h o:=by
 unfold J.off;grind
theorem J.aCp U:(h.put ch U).off ch cb=h.off ch cb:=by
 funext o;unfold J.off;split;rfl;rename_i q;rw[J.cD _ _ (λe=>q (bQ e))]
theorem J.aCq U:(h.put cb U).off ch cb=h.off ch cb:=by
 funext o;unfold J.off;split;rfl;rename_i q;rw[J.cD _ _ (λe=>q (ba e))]
theorem J.Mb(x:h.le aa):(h.off ch cb).le (aa.off ch cb):=λo U e=>by
 unfold J.off at e⊢;split at e
 grind
 rename_i q;rw[aC q];exact x o U e
theorem jr.aoV(x:jr h c' ch cb N)(k:a<=N.ls.length)(h1:1<=b)(l:b<=N.bk.length){m jK:Nat}(hm:y' h cb 7 es m)(s:xJ L0 N.ls es)(d:ke es [a,b]=none):jr (h.put cb (kZ 7 (upsert es [a,b] (R ((es.length:Int)+1)) c) jK)) c' ch cb (N.link a b):=by
 have n:(a,b)∉N.ls:=s.none (x:=(a,b)) d;obtain⟨i,j,g,s2⟩:=x.f;refine⟨by rw[J.cD _ _ x.aBR];exact x.cell,⟨i,j,⟨by rw[J.cD _ _ x.ne];exact g.at_,g.keys⟩,s2⟩,⟨_,jK,⟨J.b8 _ _ _,λe he=>?_⟩,?_⟩,x.ne,dU.aAM x.ok k h1 l n⟩;rw[GN _ _ _ _ d]at he;rcases eI.1 he with he|he;exact hm.keys e he;rw[hZ.1 he];rfl;rw[GN _ _ _ _ d];exact s.add (a,b) c
theorem jr.aoT(x:jr h c' ch cb N){n:Int}(i:b<=N.ls.length){j jK:Nat}(hm:y' h ch 8 es j)(s:xJ KM N.bk es)(a:ke es [t,n,b]=none):jr (h.put ch (kZ 8 (upsert es [t,n,b] (R ((es.length:Int)+1)) c) jK)) c' ch cb (N.ur t n b):=by
 have k:(t,n,b)∉N.bk:=s.none (x:=(t,n,b)) a;obtain⟨f,g,d,s2⟩:=x.l;refine⟨by rw[J.cD _ _ x.aBQ];exact x.cell,⟨_,jK,⟨J.b8 _ _ _,λe he=>?_⟩,?_⟩,⟨f,g,⟨by rw[J.cD _ _ (eh x.ne)];exact d.at_,d.keys⟩,s2⟩,x.ne,dU.arl x.ok i k⟩;rw[GN _ _ _ _ a]at he;rcases eI.1 he with he|he;exact hm.keys e he;rw[hZ.1 he];rfl;rw[GN _ _ _ _ a];exact s.add (t,n,b) c
theorem agI(d:jr h c' ch cb N)(m:a<=N.ls.length)(h1:1<=b)(n:b<=N.bk.length)(q:N.hA<=4000000000):Fn aD 128 #[iW c',R a,R b] h λv aa=>∃(M:dU)(r:Nat),v=R r/\N.Ext M/\jr aa c' ch cb M/\M.l0 r=N.l0 a++[N.mH b]/\r<=M.ls.length/\M.hA<=N.hA+1/\aa.off ch cb=h.off ch cb:=by
 obtain⟨es,f,hm,s⟩:=d.l;have p:=s.len;simp only[dU.hA]at q;refine bU ayh rfl (.hp (.map (some cb)) (q8 d.cell rfl) (.mk es f hm ?_));cases g:ke es [(a:Int),(b:Int)]with
 |some v=>
  obtain⟨i,k,rfl⟩:=s.some (λ_ _=>aAP) (x:=(a,b)) g;refine .hp (.map (some cb)) (q8 d.cell rfl) (.mk es f hm ?_);rw[g];have o:=(qO.1 k).1;exact .ag ⟨N,i+1,rfl,dU.Ext.refl N,d,(d.ok.ds i a b k).2.2.2,o,am6 _,rfl⟩
 |none=>
  refine .hp (.map (some cb)) (q8 d.cell rfl) (.hp (.map (some cb)) (q8 d.cell rfl) (.mk 7 es f hm (.bl (.mk es f hm λjK=>?_))));have j:=d.aoV (jK:=jK) (c:=f) m h1 n hm s g;refine .hp (.map (some cb)) (q8 j.cell rfl) ?_;obtain⟨t,u,w,s2⟩:=j.l;refine .mk _ jK ⟨J.b8 _ _ _,?_⟩ ?_;intro e he;rw[GN _ _ _ _ g]at he;rcases eI.1 he with he|he;exact hm.keys e he;rw[hZ.1 he];rfl;rw[SB,aS rfl];refine .ag ⟨N.link a b,N.ls.length+1,?_,N.agJ a b,j,?_,?_,?_,J.aCq _⟩;rw[<-p];rfl;simp[dU.link];simp[dU.link]
  grind [dU.link,dU.hA]
theorem aci(a:jr h c' ch cb N){n:Int}(l:b<=N.ls.length)(p:N.hA<=4000000000):Fn aD 129 #[iW c',.agg #[R t,R n,R b]] h λv aa=>∃(M:dU)(r:Nat),v=R r/\N.Ext M/\jr aa c' ch cb M/\M.mH r=(t,n,gA (N.l0 b))/\1<=r/\r<=M.bk.length/\M.hA<=N.hA+1/\aa.off ch cb=h.off ch cb:=by
 obtain⟨es,d,hm,s⟩:=a.f;have o:=s.len;simp only[dU.hA]at p;refine bU ayi rfl (.hp (.map (some ch)) (q8 a.cell rfl) (.mk es d hm ?_));cases g:ke es [t,n,(b:Int)]with
 |some v=>
  obtain⟨i,j,rfl⟩:=s.some (λ_ _=>ar2) (x:=(t,n,b)) g;refine .hp (.map (some ch)) (q8 a.cell rfl) (.mk es d hm ?_);rw[g];have m:=(qO.1 j).1;exact .ag ⟨N,i+1,rfl,dU.Ext.refl N,a,(a.ok.fn i t n b j).2,ane _,m,am6 _,rfl⟩
 |none=>
  refine .hp (.map (some ch)) (q8 a.cell rfl) (.hp (.map (some ch)) (q8 a.cell rfl) (.mk 8 es d hm (.bl (.mk es d hm λjK=>?_))));have k:=a.aoT (jK:=jK) (c:=d) l hm s g;refine .hp (.map (some ch)) (q8 k.cell rfl) (.mk _ jK ⟨J.b8 _ _ _,?_⟩ ?_);intro e he;rw[GN _ _ _ _ g]at he;rcases eI.1 he with he|he;exact hm.keys e he;rw[hZ.1 he];rfl;rw[SB,aS rfl];refine .ag ⟨N.ur t n b,N.bk.length+1,?_,N.acj t n b,k,?_,ane _,?_,?_,J.aCp _⟩;rw[<-o];rfl;simp[dU.ur];simp[dU.ur]
  grind [dU.ur,dU.hA]
theorem agK:∀K b,b.br<K->b.br<=200000->∀t n B m c h c' ch cb N,jr h c' ch cb N->kR (h.off ch cb) B m b->N.hA+2*b.br+1<=4000000000->Fn aD 126 #[iW c',.agg (k9 t n B m c).toArray] h λv aa=>∃(M:dU)(r:Nat),v=R r/\N.Ext M/\jr aa c' ch cb M/\M.mH r=(t,n,b.bR)/\1<=r/\r<=M.bk.length/\M.hA<=N.hA+2*b.br+1/\aa.off ch cb=h.off ch cb
 |0,b,E,_=>absurd E (CK _)
 |K+1,b,E,oM=>by
  intro t n B m c h c' ch cb N z A iC;have hm:m<=200000:=by have:=A.1;have:=b.Ac;omega
  refine bU ayf rfl ?_;refine .mb [0] (Nat×Nat×dU×cd) [0,3,5,9,10,11] (λ(i,k,_,_)=>[.v (iW c'),.p 0 0,.v (R k),.v (ab B m c),.v (R m),.v (R i)]) (λ_=>[.own ((k9 t n B m c).map .v) 199]) (λ(i,k,M,r) aa=>jr aa c' ch cb M/\N.Ext M/\s' (h.off ch cb) B m i r/\k<=M.ls.length/\M.l0 k++r.bR.eL=b.bR.eL/\M.hA+2*r.br<=N.hA+2*b.br/\r.br<=b.br/\aa.off ch cb=h.off ch cb) (λ(i,_,_,_)=>m-i) (0,0,N,b) (λ_=>rfl) ⟨z,dU.Ext.refl N,A.cK,cU _,by simp[z.ok.q6],dM _,dM _,rfl⟩ rfl rfl rfl ?_;refineλ⟨i,k,M,r⟩ e aa⟨H,F,w,hk,he,y,j0,aU⟩=>.ag (aW (λae=>?_) (λae=>?_));cases r with
  |nil=>have:=w.fin;omega
  |cons iS G D C bj Z r=>
   obtain⟨g,Y,V,av,aj,W⟩:=w.open;simp only[cd.br]at j0 y;simp only[cd.bR,e3.eL]at he;refine .m g Y (.hp (k9 iS G D C bj) rfl (by rw[bn];exactλo v ao=>J.l5 (aa.Ah ch cb) aL) (.ag (.mk _ (agK K Z I I iS G D C bj aa c' ch cb M H aL I) ?_)));rintro _ ax ⟨R',eb,rfl,q,L,s,O,P,X,UT⟩;refine .ag (.mk _ (agI L (a:=k) (b:=eb) (lf hk q.hf) O P I) ?_);rintro _ aT ⟨f,x,rfl,d,l,T,j,U,S⟩;refine .bl (.ag ⟨(i+1,x,f,r),rfl,rfl,⟨l,F.trans (q.trans d),W,j,?_,I,I,aL⟩,aL⟩);rw[T,s,q.el k hk,<-he,mg];rfl
  cases r with
  |nil=>
   simp only[cd.bR,e3.eL,sf]at he;simp only[cd.br]at y;refine .ag (.mk _ (aci H (t:=t) (n:=n) (b:=k) hk I) ?_);rintro _ aT ⟨f,x,rfl,d,l,u,Q,j,U,S⟩;refine .ag ⟨f,x,rfl,F.trans d,l,?_,Q,j,I,aL⟩;rw[u,he,Ge]
  |cons=>obtain⟨g,aK,V,_⟩:=w.open;omega
def cd.th:Nat->cd->cd
 |0,l=>l
 |_+1,.nil=>.nil
 |k+1,.cons _ _ _ _ _ _ r=>r.th k
def cd.fQ:Nat->cd->cd
 |0,_=>.nil
 |_+1,.nil=>.nil
 |k+1,.cons t n B m c b r=>.cons t n B m c b (r.fQ k)
theorem N3:∀k(l:cd),(l.th k).bR.eL=l.bR.eL.drop k
 |0,l=>by rfl
 |k+1,.nil=>by rfl
 |k+1,.cons _ _ _ _ _ _ r=>by simp only[cd.th,cd.bR,e3.eL,List.drop_succ_cons,N3 k r]
theorem Yg:∀k(l:cd),(l.fQ k).bR.eL=l.bR.eL.take k
 |0,l=>by rfl
 |k+1,.nil=>by rfl
 |k+1,.cons _ _ _ _ _ _ r=>by simp only[cd.fQ,cd.bR,e3.eL,List.take_succ_cons,Yg k r]
theorem Fd(l:cd):l.bR.eL.length=l.len:=by rw[abN,cd.acM]
theorem abu k(l:cd):(l.th k).len=l.len-k:=by rw[<-Fd,N3,mU,Fd]
theorem aGB k(l:cd):(l.fQ k).len=min k l.len:=by rw[<-Fd,Yg,mV,Fd]
theorem SC{h:J}{g:aE}:∀k l i,rq h g i l->rq h g (i+k) (l.th k)
 |0,_,_,a=>a
 |_+1,.nil,_,_=>trivial
 |k+1,.cons _ _ _ _ _ _ r,i,⟨_,_,_,a⟩=>by rw[show i+(k+1)=i+1+k by omega];exact SC k r (i+1) a
theorem aao{h:J}{g:aE}:∀k l i,rq h g i l->rq h g i (l.fQ k)
 |0,_,_,_=>trivial
 |_+1,.nil,_,_=>trivial
 |k+1,.cons _ _ _ _ _ _ r,i,⟨a,b,c,d⟩=>⟨a,b,c,aao k r (i+1) d⟩
theorem aam{h:J}{g:aE} i:∀l o,rq h g (i+o) l->rq h (g.add (i*3)) o l
 |.nil,_,_=>trivial
 |.cons _ _ _ _ _ _ r,o,⟨a,b,c,d⟩=>⟨λq v e=>by
  have:=a q v e;rw[wS,wS,<-Nat.add_assoc,<-Nat.add_mul,<-wS];omega,b,c,aam i r (o+1) d⟩
theorem aE8{B:Option aE}{i:Nat}(s:kR h A m l)(c:i+w<=m)(e:0<w->B=A.map (λa=>a.add (i*3))):kR h B w ((l.th i).fQ w):=by
 obtain⟨h1,ae⟩:=s;refine⟨by rw[aGB,abu];omega,?_⟩;by_cases hw:w=0;subst hw;exact bQ rfl;rcases ae with ae|⟨g,d,b⟩
 grind [cd.len]
 refine ba ⟨g.add (i*3),aL,aao w _ 0 (aam i _ 0 ?_)⟩;have:=SC i l 0 b
 grind
theorem aGC{i:Nat}(s:kR h A m l)(b:i<=m):s' h A m i (l.th i):=by
 obtain⟨h1,ae⟩:=s;refine⟨by rw[abu];omega,?_⟩;rcases ae with ae|⟨g,c,a⟩;subst ae;cases i<;>exact bQ rfl;have:=SC i l 0 a
 grind
def j7(bA:List Nat):List Int:=bA.map λ(k:Nat)=>(k:Int)
theorem ahJ a b:j7 (a++b)=j7 a++j7 b:=by simp[j7]
structure pA(N:dU)(bA:List Nat)(l:List jB):Prop where
 eq:bA.map N.mH=l
 le:∀k∈bA,1<=k/\k<=N.bk.length
theorem pA.ext{l:List jB}(x:pA N bA l)(e:N.Ext M):pA M bA l:=⟨by rw[<-x.eq];exact List.map_congr_left λk hk=>e.E5 k (x.le k hk).2,λk hk=>⟨(x.le k hk).1,lf (x.le k hk).2 e.jL⟩⟩
theorem pA.nil N:pA N [] []:=⟨rfl,λk hk=>by cases hk⟩
theorem pA.snoc{l:List jB}(x:pA N bA l){k:Nat}(h1:1<=k)(ae:k<=N.bk.length):pA N (bA++[k]) (l++[N.mH k]):=
 ⟨by simp[x.eq],λo a=>by
  rcases eI.1 a with a|a;exact x.le o a
  grind⟩
theorem jr.del(x:jr h c' ch cb N)(y:jr aa c' ch cb M)(m:∀g,D=some g->h g.block=none):jr (en aa D) c' ch cb M:=by
 have key:∀o U,h o≠none->aa o=some U->en aa D o=some U:=λo U d e=>by
  cases D with
  |none=>exact e
  |some g=>rw[en,J.nA _ (λq=>d aL)];exact e
 obtain⟨es,i,hm,s⟩:=y.f;obtain⟨k,jK,c,j⟩:=y.l;obtain⟨_,_,b,_⟩:=x.f;obtain⟨_,_,a,_⟩:=x.l;exact⟨key _ _ (by simp[x.cell]) y.cell,⟨es,i,⟨key _ _ (by rw[b.at_];simp) hm.at_,hm.keys⟩,s⟩,⟨k,jK,⟨key _ _ (by rw[a.at_];simp) c.at_,c.keys⟩,j⟩,y.ne,y.ok⟩
theorem WK{g:Nat}(e:h g=none):h.off ch cb g=none:=by
 unfold J.off;grind
theorem WJ(x:(h.off ch cb).le (aa.off ch cb))(b:∀g,D=some g->h g.block=none):(h.off ch cb).le ((en aa D).off ch cb):=λo U e=>by
 have h1:=x o U e;unfold J.off at h1⊢;split at h1
 grind
 rename_i a;rw[aC a];cases D with
 |none=>exact h1
 |some g=>
  rw[en,J.nA _ (λq=>?_)];omega;subst q;rw[WK (b g rfl)]at e;cases e
theorem aBK{cap:Nat}(F:jr h c' ch cb N)(K:kR (h.off ch cb) A m l)(av:l.br<=200000)(iC:N.hA+2*l.br<=4000000000):Fn aD 67 #[iW c',ab A m cap] h λv aa=>∃(M:dU)(bA:List Nat)(D:Option aE)(c:Nat),v= .agg #[ab A m cap,ab D m c]/\N.Ext M/\jr aa c' ch cb M/\pA M bA l.bR.eL/\bw aa 3 1 D m c ((j7 bA).map R)/\(∀g,D=some g->h g.block=none)/\(h.off ch cb).le (aa.off ch cb)/\M.hA<=N.hA+2*l.br:=by
 have hm:m<=200000:=by have:=K.1;have:=l.Ac;omega
 refine bU azN rfl ?_;refine .mb [0,1] (Nat×Option aE×Nat×dU×List Nat×cd) [0,4,5,10,11,12] (λ(i,_,_,_,_,_)=>[.v (iW c'),.p 0 0,.p 1 0,.v (ab A m cap),.v (R m),.v (R i)]) (λ(i,D,c,_,_,_)=>[.own [.v (ab none 0 0),.v (ab none 0 0)] 203,.own [.v (ab A m cap),.v (ab D i c)] 203]) (λ(i,D,c,M,bA,r) aa=>jr aa c' ch cb M/\N.Ext M/\s' (h.off ch cb) A m i r/\(∃U,pA M bA U/\U++r.bR.eL=l.bR.eL)/\bw aa 3 1 D i c ((j7 bA).map R)/\(∀g,D=some g->h g.block=none)/\(h.off ch cb).le (aa.off ch cb)/\M.hA+2*r.br<=N.hA+2*l.br/\r.br<=l.br) (λ(i,_,_,_,_,_)=>m-i) (0,none,0,N,[],l) (λ_=>rfl) ⟨F,dU.Ext.refl N,K.cK,⟨[],pA.nil N,rfl⟩,⟨rfl,bQ ⟨rfl,rfl,rfl⟩⟩,(λ_ e=>by cases e),J.le_refl _,dM _,dM _⟩ rfl rfl rfl ?_;refineλ⟨i,D,c,M,bA,r⟩ e aa⟨q,P,k,⟨U,zJ,he⟩,j1,w,a,E,j0⟩=>.abs 3 1 D i c _ j1 (.ag ?_);have q:=F.del q w;have a:=WJ a w;refine aW (λae=>?_) (λae=>?_);cases r with
 |nil=>have:=k.fin;omega
 |cons iS S O L bj dN r=>
  obtain⟨g,aK,Y,T,Z,aq⟩:=k.open;simp only[cd.br]at j0 E;simp only[cd.bR,e3.eL]at he;refine .m g aK (.hp (k9 iS S O L bj) rfl (by rw[bn];exactλo v ao=>J.l5 (J.le_trans a (J.Ah _ ch cb)) (T o v ao)) (.mk _ (agK _ dN (A8 _) I iS S O L bj _ c' ch cb M q (Z.mono a) I) ?_));rintro _ ax ⟨B,n,rfl,z,t,X,V,W,avB,C⟩;refine .c0 2 _ [R n] rfl rfl (WD [(n:Int)]) (by grind [eQ]) I λy c2 asZ=>.bl (.b5 2 3 1 y (i+1) c2 _ rfl λaT j x b=>.ag ⟨(i+1,y,c2,B,bA++[n],r),rfl,rfl,⟨t.mono j,P.trans z,aq,⟨U++[B.mH n],(zJ.ext z).snoc V W,?_⟩,?_,λs mn=>?_,?_,I,I⟩,aL⟩)
  grind
  rw[ahJ,fw];exact x;have d:=b s mn;by_cases G:s.block=ch;obtain⟨_,_,u,_⟩:=t.f;rw[G,u.at_]at d;cases d;by_cases H:s.block=cb;obtain⟨_,_,u,_⟩:=t.l;rw[H,u.at_]at d;cases d;have Q:ax.off ch cb s.block=none:=WK d;rw[C]at Q;have:=xk a Q;rwa[J.IX G H]at this;refine J.le_trans a ?_;rw[<-C];exact J.Mb j
 cases r with
 |nil=>
  have:=k.fin;subst this;simp only[cd.bR,e3.eL,sf]at he;simp only[cd.br]at E;refine .b5 2 3 1 D i c _ rfl λaT j x b=>.ag ⟨M,bA,D,c,rfl,P,q.mono j,aL,x,w,J.le_trans a (J.Mb j),I⟩
 |cons=>obtain⟨g,aK,Y,_⟩:=k.open;omega
theorem Tb{α:Type}{l:List α}{k:Nat} h:(l.drop a).take (k+1)=(l.drop a).take k++[l[a+k]]:=by
 rw[lz aL,List.getElem_drop]
theorem aE5{hj:Nat}{bj:Nat}(i:h hj=some (bb [ab A m c,ab D m bj].toArray 203 (0,0)))(f:bg h 1 D m ((j7 bA).map λz=>[R z]))(hm:m<=1000000000)(t:a+w<=m)(u:b+w<=m):Fn aD 127 #[iW hj,R a,R b,R w] h λv aa=>v=dh (decide ((bA.drop a).take w=(bA.drop b).take w))/\aa=h:=by
 have al:bA.length=m:=by have:=f.len;grind [j7]
 have n:∀k(hk:k<m),((j7 bA).map λz=>[R z])[k]?=some [R (bA[k]'I:Int)]:=λk hk=>by simp[j7,al,hk]
 refine bU ayg rfl (.mk Nat [0,1,2,10,11] (λk=>[.v (iW hj),.v (R a),.v (R b),.v (R w),.v (R k)]) (λ_=>[]) (λk aa=>aa=h/\k<=w/\(bA.drop a).take k=(bA.drop b).take k) (λk=>w-k) 0 (λ_=>rfl) ⟨rfl,cU _,rfl⟩ rfl rfl (λk e aa⟨rfl,hk,p⟩=>aW (λae=>?_) (λae=>?_)));obtain⟨g,d⟩:=f.b4 I;have r:=Tb (l:=bA) (a:=a) (k:=k) I;have s:=Tb (l:=bA) (a:=b) (k:=k) I;refine .hp (ab D m bj) (q8 i rfl) (.bl (.m g d (.hp (R (bA[a+k]'I:Int)) (by rw[show((a:Int)+k).toNat=a+k by omega];exact f.one d (n (a+k) I) rfl) (.hp (ab D m bj) (q8 i rfl) (.bl (.m g d (.hp (R (bA[b+k]'I:Int)) (by rw[show((b:Int)+k).toNat=b+k by omega];exact f.one d (n (b+k) I) rfl) (aW (λj=>?_) (λj=>?_)))))))));refine .ag ⟨?_,rfl⟩;rw[jn];rfl;intro q;apply j;have o:=eu (λl=>l.take (k+1)) q;simp only[List.take_take,show min (k+1) w=k+1 by omega]at o;simp_all;refine .bl (⟨k+1,rfl,rfl,⟨rfl,I,?_⟩,I⟩)
 grind
 obtain rfl:k=w:=by omega
 refine .ag ⟨?_,rfl⟩;rw[hr p];rfl
theorem agW{α β:Type}{f:α->β}:∀{l r:List α},(∀x∈l,∀y∈r,f x=f y->x=y)->l.map f=r.map f->l=r
 |[],[],_,_=>rfl
 |[],_::_,_,h=>by cases h
 |_::_,[],_,h=>by cases h
 |x::l,y::r,c,h=>by
  simp only[er,A1]at h;rw[c x (hq ..) y (hq ..) h.1,agW (λa d b e=>c a (gd _ d) b (gd _ e)) h.2]
theorem pA.asH(U:N.Ok){es:List jB}(x:pA N bA es) a b w:((bA.drop a).take w=(bA.drop b).take w)↔((es.drop a).take w=(es.drop b).take w):=by
 rw[<-x.eq,<-Nk,<-Nk,<-G8,<-G8];refine⟨λh=>by rw[h],λh=>agW (λp hp q c=>?_) h⟩;have h1:=x.le p (amM (Nl hp));have ae:=x.le q (amM (Nl c));exact U.uu p q h1.1 ae.1 h1.2 ae.2
theorem asj h:Fn aD 66 #[] h λv aa=>∃c' ch cb,v=iW c'/\jr aa c' ch cb dU.fresh/\h.le aa/\h c'=none/\h ch=none/\h cb=none/\h.le (aa.off ch cb):=by
 refine bU azM rfl (.mk λb n=>.mk λc g=>.mk λd a=>?_);have l:b≠c:=λe=>by rw[<-e,J.b8]at g;cases g
 obtain⟨t,f⟩:d≠c/\h d=none/\d≠b:=by
  by_cases e:d=c;rw[e,J.b8]at a;cases a;rw[J.cD _ _ e]at a;by_cases m:d=b;rw[m,J.b8]at a;cases a;rw[J.cD _ _ m]at a;grind
 have k:h c=none:=by rwa[J.cD _ _ (eh l)]at g
 have s:h.le (h.put b (.map #[] 0)):=J.d' n;have r:=J.le_trans s (J.d' (U:=.map #[] 0) g);have p:=J.le_trans r (J.d' (U:=bb [.map (some b),.map (some c)].toArray 284 (0,0)) a);refine .ag ⟨d,b,c,rfl,⟨J.b8 _ _ _,⟨[],0,⟨?_,λx j=>by cases j⟩,⟨rfl,λi e x he=>aL⟩⟩,⟨[],0,⟨?_,λx j=>by cases j⟩,⟨rfl,λi e x he=>aL⟩⟩,l,dU.Ot⟩,p,f.1,n,k,λo U e=>?_⟩;rw[J.cD _ _ (eh f.2),J.cD _ _ l,J.b8];rfl;rw[J.cD _ _ (eh t),J.b8];rfl;rw[J.IX (λq=>aL) (λq=>aL)];exact p o U e
end Go.Sx
