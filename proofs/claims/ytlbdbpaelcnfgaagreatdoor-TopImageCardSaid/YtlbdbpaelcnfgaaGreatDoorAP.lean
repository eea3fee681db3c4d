/- A part of the proof that the statement holds. Conditions: none. -/
import Derived.Test.YtlbdbpaelcnfgaaGreatDoorAC
import Derived.Test.YtlbdbpaelcnfgaaGreatDoorAO
open Bool renaming eq_false_iff->JN
open Decidable renaming byContradiction->zM,not_not->Gu,of_not_not->NN
open Go renaming Addr->ar,Value->ao,madeCells->rO,maxLen->c'
open Go.Addr renaming add->Gn,mk->ou
open Go.Proofs renaming ltOf->UH
open Go.Proofs.Tryz renaming prog->aH
open Go.Value renaming bool->qB,slice->oE
open Int renaming eq_ofNat_of_zero_le->GC,le_refl->JU,toNat_natCast->bq
open List renaming Perm->yo,append_assoc->mb,append_nil->zR,cons_append->wS,drop_drop->JW,eq_nil_of_length_eq_zero->ra,filterMap_cons->N4,filterMap_nil->N5,flatten_append->zS,foldl_cons->DY,getElem?_append->JY,getElem?_eq_getElem->bZ,getElem?_eq_some_iff->qt,getElem_mem->cS,length_append->fb,length_cons->gI,length_filterMap_le->UV,length_range->Oa,map_append->fm,map_cons->eO,map_map->lo,mem_append->ev,mem_cons->dC,mem_cons_of_mem->iv,mem_cons_self->iU,mem_filterMap->J2,mem_map->dn,mem_map_of_mem->pL,mem_range->re,mem_singleton->fx,not_mem_nil->th,range->aDB,range_succ->GN,replicate->bG,replicate_succ->GO,take_append_drop->BI,take_of_length_le->k4,zipWith->rf
open List.Nodup renaming length_le_of_subset->aAs
open List.cons renaming injEq->yp
open Nat renaming le_refl->dd,le_succ->ahJ,le_trans->hT,lt_succ_self->ri,mul_le_mul->ns,mul_le_mul_right->pN,mul_one->ew,not_lt_zero->BO,succ_pos->ahP,zero_add->dJ,zero_le->cO
open Ne renaming symm->d9
namespace Go.Sx
open Go.Proofs Go.Sort
set_option maxRecDepth 100000
set_option maxHeartbeats 0
set_option linter.all false
variable {s z:Int}{rows:List (List Int)}{dA:List Bool}{aG dm row:List Int}{os:List Nat}{cB:List ao}{aa:List bo}{aN bC be:List cL}{l:List gr}{N b b' c cap d i k m n o q:Nat}{S:Nat->Nat->Prop}{A F X:Option ar}
theorem fr:∀(c0:List Nat)(e:bY),iR e c0 (c0.map e)=e
 |[],e=>rfl
 |d::a7,e=>by
  have h1:h7 e d (e d)=e:=by
   funext t;unfold h7;cases af:Nat.beq t d with
   |true=>simp_all
   |false=>rfl
  rw[eO,iR,h1];exact fr a7 e
abbrev yn(N:Int)(A:Option ar)(n cap:Nat):List LE:=[.own [.v (R N),.v (.slice A n cap)] 33]
theorem adz(h:i<row.length):aDX row i=decide (0<row[i]):=by
 unfold aDX;grind
theorem ajq{bW:I}{ax:Option ar}{tt:Nat}(af:bW b=none)(am:bg bW 1 ax m (row.map λz=>[R z]))(hm:m<=1000000)(ae:o<m)(N:Int)(A:Option ar)(n cap:Nat)(x:lp (bW.put b (jE 7 l b')) b S l b')(z8 aCs z':ao)(Q:dL)(e:bY)(he:[8,10,11,25,26,27,32,33].map e=[.v (.map (some b)),.v (.slice ax m tt),.v (R o),.v z8,.v aCs,.v z',.v (R m),.v (R o)])(cD:∀bl b3 ii,lp (bW.put b (jE 7 b3 ii)) b (λp q=>S p q\/(q=o/\p<o/\aDX row p=true/\aDX row o=true)) b3 ii->[8,10,25,26,27,32,33].map bl=[.v (.map (some b)),.v (.slice ax m tt),.v z8,.v aCs,.v z',.v (R m),.v (R o)]->Q .normal bl (yn N A n cap) (bW.put b (jE 7 b3 ii))):c7 aH 72 (.seq (.ch LR) (.block 4 (.loop LQ))) Q e (yn N A n cap) (bW.put b (jE 7 l b')):=by
 have ec:=fr [8,10,11,25,26,27,32,33] e;rw[he]at ec;rw[<-ec];have y2:row.length=m:=by simpa using am.len
 have qP:∀J,bW.le (bW.put b J):=λJ=>I.du af;refine .mk (Nat×List gr×Nat) [8,10,11,25,26,27,32,33,36,37] (λ(i,_,_)=>[.v (.map (some b)),.v (.slice ax m tt),.v (R o),.v z8,.v aCs,.v z',.v (R m),.v (R o),.v (R o),.v (R i)]) (λ_=>yn N A n cap) (λ(i,l,b') U=>U=bW.put b (jE 7 l b')/\i<=o/\lp U b (λp q=>S p q\/(q=o/\p<i/\aDX row p=true/\aDX row o=true)) l b') (λ(i,_,_)=>o-i) (0,l,b') (λ(_,_,_)=>rfl) ⟨rfl,cO _,x.eqv λp q=>⟨.inl,λh=>h.elim id λh=>by omega⟩⟩ rfl rfl ?_;rintro⟨i,l,b'⟩ e U ⟨rfl,u0,x⟩;refine aW (λu=>?_) (λu=>?_);have ag:i<m:=by omega
 obtain⟨g,ak⟩:=am.cc (by omega);have u9:=adz (row:=row) (i:=i) (by omega);have nG:=adz (row:=row) (i:=o) (by omega);have load:∀q(aq:q<m)(J:Obj),(bW.put b J).cell? (g.add ((q:Int).toNat*1))=some (R (row[q]'(by omega))):=λq aq J=>by
  rw[bq];exact(am.mono (qP J)).one ak (r:=[R (row[q]'(by omega))]) (by grind) rfl
 have skip:¬(aDX row i=true/\aDX row o=true)->lp (bW.put b (jE 7 l b')) b (λp q=>S p q\/(q=o/\p<i+1/\aDX row p=true/\aDX row o=true)) l b':=λu4=>x.eqv λp q=>⟨λh=>h.imp id λh=>⟨h.1,by omega,h.2.2⟩,λh=>h.imp id λ⟨h1,ab,an⟩=>⟨h1,by
  grind,an⟩⟩
 refine .m g ak ?_;refine .hp (R (row[i]'(by omega))) (load i ag _) ?_;refine aW (λo0=>?_) (λo0=>?_);refine .m g ak ?_;refine .hp (R (row[o]'(by omega))) (load o ae _) ?_;refine aW (λhI=>?_) (λhI=>?_);refine .atZ l b' x.atL ?_;rw[I.sZ];have y:=x.ins (ab:=bW) i o (R 1);refine .aLS ?_;refine⟨(i+1,upsert l [(i:Int),(o:Int)] (R 1) b',if(iw l [(i:Int),(o:Int)]).isSome then b' else b'+1),rfl,rfl,⟨rfl,by omega,y.eqv λp q=>?_⟩,by grind⟩
 grind
 refine .aLS ?_;exact⟨(i+1,l,b'),rfl,rfl,⟨rfl,by omega,skip λh=>hI (qb (nG▸h.2))⟩,by grind⟩;refine .aLS ?_;exact⟨(i+1,l,b'),rfl,rfl,⟨rfl,by omega,skip λh=>o0 (qb (u9▸h.1))⟩,by grind⟩;have:i=o:=by omega
 subst this;exact cD _ l b' x rfl
theorem ajp{bW:I}{ax:Option ar}{tt:Nat}(af:bW b=none)(am:bg bW 1 ax m (row.map λz=>[R z]))(hm:m<=1000000)(N:Int)(A:Option ar)(n cap:Nat)(x:lp (bW.put b (jE 7 l b')) b S l b')(z8 aCs z':ao)(Q:dL)(e:bY)(he:[8,10,25,26,27].map e=[.v (.map (some b)),.v (.slice ax m tt),.v z8,.v aCs,.v z'])(cD:∀bl b3 ii,lp (bW.put b (jE 7 b3 ii)) b (λp q=>S p q\/(p<q/\q<m/\aDX row p=true/\aDX row q=true)) b3 ii->[8,25,26,27].map bl=[.v (.map (some b)),.v z8,.v aCs,.v z']->Q .normal bl (yn N A n cap) (bW.put b (jE 7 b3 ii))):c7 aH 72 (.seq (.ch LS) (.block 2 (.loop LP))) Q e (yn N A n cap) (bW.put b (jE 7 l b')):=by
 have ec:=fr [8,10,25,26,27] e;rw[he]at ec;rw[<-ec];refine .mk (Nat×List gr×Nat) [8,10,25,26,27,32,33] (λ(o,_,_)=>[.v (.map (some b)),.v (.slice ax m tt),.v z8,.v aCs,.v z',.v (R m),.v (R o)]) (λ_=>yn N A n cap) (λ(o,l,b') U=>U=bW.put b (jE 7 l b')/\o<=m/\lp U b (λp q=>S p q\/(p<q/\q<o/\aDX row p=true/\aDX row q=true)) l b') (λ(o,_,_)=>m-o) (0,l,b') (λ(_,_,_)=>rfl) ⟨rfl,cO _,x.eqv λp q=>⟨.inl,λh=>h.elim id λh=>by omega⟩⟩ rfl rfl ?_;rintro⟨o,l,b'⟩ e U ⟨rfl,Ls,x⟩;show c7 aH 72 (.seq (.ch aan) (.seq (.cond (.t 34) .skip (.exit 2)) (.seq (.block 3 (.seq (.ch aao) (.seq (.ch LR) (.block 4 (.loop LQ))))) (.ch aap)))) _ _ _ _;generalize lU:IR.seq (.ch LR) (.block 4 (.loop LQ))=gT;refine aW (λu=>?_) (λu=>?_);have ae:o<m:=by omega
 conv=>whnf
 subst lU;refine ajq af am hm ae N A n cap x z8 aCs z' _ _ rfl λbl b3 ii y tE=>?_;have ec:=fr [8,10,25,26,27,32,33] bl;rw[tE]at ec;rw[<-ec];refine .aLS ?_;refine⟨(o+1,b3,ii),rfl,rfl,⟨rfl,by omega,y.eqv λp q=>?_⟩,by grind⟩
 grind
 have:o=m:=by omega
 subst this;exact cD _ l b' x rfl
theorem I.none_le{h U:I}(x:h.le U)(e:U o=none):h o=none:=by
 cases q:h o with
 |none=>rfl
 |some J=>rw[x _ _ q]at e;cases e
variable {H ai bW h:I}
theorem atR{p:Nat}:Fy rows p q=true↔∃k,k<rows.length/\aDX (rows.getD k []) p=true/\aDX (rows.getD k []) q=true:=by
 unfold Fy;rw[List.any_eq_true];constructor;rintro⟨r,am,h⟩;obtain⟨k,hk,e⟩:=List.getElem_of_mem am;refine⟨k,hk,?_⟩
 grind
 grind
theorem ajn{B:Option ar}{dP:Nat}{ba:Nat->Option ar×Nat}(af:bW b=none)(aF:GP bW B rows ba)(eb:∀i,i<rows.length->(rows.getD i []).length=m)(hm:m<=1000000)(eR:rows.length<=1000000)(N:Int)(A:Option ar)(n cap:Nat)(x:lp (bW.put b (jE 7 [] 0)) b (λ_ _=>False) [] 0)(Q:dL)(e:bY)(he:[6,8].map e=[.v (.slice B rows.length dP),.v (.map (some b))])(cD:∀bl b3 ii,lp (bW.put b (jE 7 b3 ii)) b (λp q=>p<q/\q<m/\Fy rows p q=true) b3 ii->[8].map bl=[.v (.map (some b))]->Q .normal bl (yn N A n cap) (bW.put b (jE 7 b3 ii))):c7 aH 72 (.seq (.ch Rj) (.block 0 (.loop Rh))) Q e (yn N A n cap) (bW.put b (jE 7 [] 0)):=by
 have ec:=fr [6,8] e;rw[he]at ec;rw[<-ec];refine .mk (Nat×List gr×Nat) [8,25,26,27] (λ(k,_,_)=>[.v (.map (some b)),.v (.slice B rows.length dP),.v (R rows.length),.v (R k)]) (λ_=>yn N A n cap) (λ(k,l,b') U=>U=bW.put b (jE 7 l b')/\k<=rows.length/\lp U b (λp q=>p<q/\q<m/\∃e1,e1<k/\aDX (rows.getD e1 []) p=true/\aDX (rows.getD e1 []) q=true) l b') (λ(k,_,_)=>rows.length-k) (0,[],0) (λ(_,_,_)=>rfl) ⟨rfl,cO _,x.eqv λp q=>⟨False.elim,λ⟨_,_,e1,h,_⟩=>absurd h (BO _)⟩⟩ rfl rfl ?_;rintro⟨k,l,b'⟩ e U ⟨rfl,p2,x⟩;show c7 aH 72 (.seq (.ch aar) (.seq (.cond (.t 28) .skip (.exit 0)) (.seq (.block 1 (.seq (.ch aas) (.seq (.ch LS) (.block 2 (.loop LP))))) (.ch aaq)))) _ _ _ _;generalize lU:IR.seq (.ch LS) (.block 2 (.loop LP))=gT;refine aW (λu=>?_) (λu=>?_);have hk:k<rows.length:=by omega
 obtain⟨g,ak⟩:=aF.outer.cc (by omega);have lX:=aF.inner k hk;rw[eb k hk]at lX;refine .m g ak ?_;refine .hp (.slice (ba k).1 m (ba k).2) (by rw[bq];exact(aF.outer.mono (I.du af)).one ak (atM hk) (by grind)) ?_;conv=>whnf
 subst lU;refine ajp af lX hm N A n cap x _ _ _ _ _ rfl λbl b3 ii y tE=>?_;have ec:=fr [8,25,26,27] bl;rw[tE]at ec;rw[<-ec];refine .aLS ?_;refine⟨(k+1,b3,ii),rfl,rfl,⟨rfl,by omega,y.eqv λp q=>?_⟩,by grind⟩
 grind
 have:k=rows.length:=by omega
 subst this;exact cD _ l b' (x.eqv λp q=>by rw[atR]) rfl
structure NV(bW:I)(b r:Nat)(S:Nat->Nat->Prop)(l:List gr)(b':Nat)(U:I)(seen:Array Nat)(outs:List cL)(E:Option ar)(cM:Nat):Prop where
 le:bW.le U
 mp:lp U b S l b'
 it:U r=some (.mapIter (some b) b' seen b')
 go:yj l seen outs
 row:bz U 278 2 E outs.length cM (outs.map cH).flatten
 qG:∀g,E=some g->bW g.block=none/\g.block≠b/\g.block≠r
theorem lp.of{U:I}(m:lp h b S l b')(e:U b=h b):lp U b S l b':=⟨e.trans m.at_,m.sub,m.all,m.gR,m.rn,m.ix⟩
theorem ajr{r:Nat}(CF:r≠b)(Fc:bW r=none)(anx:∀outs:List cL,outs.Nodup->(∀p∈outs,∃i o:Nat,p=((i:Int),(o:Int))/\S i o)->outs.length<=1000000)(g0:NV bW b r S l b' H #[] [] none 0)(Q:dL)(e:bY)(L:List LE)(he:[13,60].map e=[.v (.slice none 0 0),.v (.pointer (some ⟨r,0,none⟩))])(cD:∀bl U(outs:List cL) E cM,bW.le U->outs.Nodup->(∀p:cL,p∈outs↔∃i o:Nat,p=((i:Int),(o:Int))/\S i o)->(∀g,E=some g->bW g.block=none)->[13].map bl=[.v (.slice E outs.length cM)]->Q .normal bl [.row 278 2 E outs.length cM (outs.map cH).flatten] U):c7 aH 72 (.block 6 (.loop Ri)) Q e L H:=by
 have ec:=fr [13,60] e;rw[he]at ec;rw[<-ec];refine .kU [] (Array Nat×List cL×Option ar×Nat) [13,60] (λ(_,outs,E,cM)=>[.v (.slice E outs.length cM),.v (.pointer (some ⟨r,0,none⟩))]) (λ_=>[]) (λ(seen,outs,E,cM) U=>NV bW b r S l b' U seen outs E cM) (λ(seen,_,_,_)=>(lf l seen).length) (#[],[],none,0) (λ(_,_,_,_)=>rfl) g0 rfl rfl rfl ?_;rintro⟨seen,outs,E,cM⟩ e U g;have eC:bW.le (ei U E):=xh g.le λq aq=>(g.qG q aq).1;have xq:∀o,(∀q,E=some q->o≠q.block)->ei U E o=U o:=λo ae=>by
  cases E with
  |none=>rfl
  |some q=>exact I.lP _ (ae q rfl)
 have cK:ei U E b=U b:=xq b λq aq=>d9 (g.qG q aq).2.1;have Ca:ei U E r=U r:=xq r λq aq=>d9 (g.qG q aq).2.2;have jq:=g.mp.of cK;refine .abs 278 2 E outs.length cM _ g.row (.done ?_);refine .mk b b' b' b' seen (l.map (jl 7)).toArray (Ca.trans g.it) jq.at_ (λx ad=>?_) (dd _) (λai=>?_) (λjJ Lh=>?_);obtain⟨y,aQ,rfl⟩:=dn.1 (by omega:x∈l.map (jl 7));exact g.mp.rn _ (pL (f:=(·.born)) aQ);have aY:lf l seen=[]:=by
  have h1:=abC l seen
  grind
 exact cD _ _ outs E cM eC g.go.gR (g.go.done g.mp aY) (λq aq=>(g.qG q aq).1) rfl;rw[abC]at Lh;obtain⟨x,ad,rfl⟩:=dn.1 Lh;obtain⟨sD,hB⟩:=List.mem_filter.1 ad;obtain⟨i,o,hk,c5⟩:=g.mp.sub _ (pL (f:=(·.k)) sD);have Zu:(jl 7 x).key= .agg #[R i,R o]:=by show jN 7 x.k=_;rw[hk];rfl
 have amC:(jl 7 x).born=x.born:=rfl;have AR:∀p∈outs,∃i o:Nat,p=((i:Int),(o:Int))/\S i o:=λp hp=>by
  obtain⟨y,aQ,aJ,_⟩:=g.go.sub p hp;obtain⟨sG,nI,aI,aj⟩:=g.mp.sub _ (pL (f:=(·.k)) aQ)
  grind
 have cu:=anx outs g.go.gR AR;rw[Zu,amC];refine .mk b b' b' seen (l.map (jl 7)).toArray (jl 7 x) (I.bP _ _ _) ((I.cf _ _ (d9 CF)).trans jq.at_) (by grind) ?_ ?_;have aJ:(l.map (jl 7)).toArray.toList.map (·.born)=l.map (·.born):=by simp[jl]
 rw[aJ];exact g.mp.ix;rw[Zu];refine .done (.cR 0 _ [R i,R o] rfl rfl (by intro u hu;simp at hu;rcases hu with rfl|rfl<;>rfl) (by grind [c']) (by omega) λgC mg HC=>?_);refine .bV 0 278 2 gC (outs.length+1) mg _ rfl λaR gm jG f4=>.done ⟨(seen.push x.born,outs++[((i:Int),(o:Int))],gC,mg),?_,rfl,?_,atl ad⟩;show _=[aA.v (.slice gC (outs++[((i:Int),(o:Int))]).length mg),aA.v (.pointer (some ⟨r,0,none⟩))];rw[fb];rfl;have dF:∀q,gC=some q->q.block≠r:=λq aq e=>by
  have:=f4 q aq;rw[e,I.bP]at this
  grind
 have dR:∀q,gC=some q->ei U E q.block=none:=λq aq=>by
  have:=f4 q aq;rwa[I.cf _ _ (dF q aq)]at this
 have cG:bW.le ((ei U E).put r (.mapIter (some b) b' (seen.push x.born) b')):=λnI J en=>by
  rw[I.cf _ _ (λq=>by grind)];exact eC _ _ en
 refine⟨I.le_trans cG gm,jq.of ?_,gm _ _ (I.bP _ _ _),g.go.step g.mp.gR g.mp.ix ad hk,?_,λq aq=>⟨I.none_le eC (dR q aq),λe=>?_,dF q aq⟩⟩;rw[jq.at_];exact gm _ _ ((I.cf _ _ (d9 CF)).trans jq.at_);rw[fb,fm,zS];exact jG;have:=dR q aq;rw[e,jq.at_]at this
 grind
theorem OQ(m:Nat)(outs:List cL)(aC:outs.Nodup)(h:∀p∈outs,∃i o:Nat,p=((i:Int),(o:Int))/\i<m/\o<m):outs.length<=m*m:=by
 have h1:=aAs (l₂:=(aDB m).flatMap λi:Nat=>(aDB m).map λo:Nat=>((i:Int),(o:Int))) aC λp hp=>by
  obtain⟨i,o,rfl,a,b⟩:=h p hp;exact List.mem_flatMap.2 ⟨i,re.2 a,dn.2 ⟨o,re.2 b,rfl⟩⟩
 refine hT h1 (Nat.le_of_eq ?_);have:∀k:Nat,((aDB k).map λ_=>m).sum=k*m:=λk=>by
  induction k with
  |zero=>simp
  |succ k bE=>rw[GN,fm,List.sum_append,bE];grind
 simp_all
def agr(h:I)(N:Int)(aa:List bo)(aG:List Int)(v:ao)(U:I):Prop:=
 h.le U/\((eh N aa aG).1≠0->v= .tuple #[.slice none 0 0,R (eh N aa aG).1])/\
  ((eh N aa aG).1=0->∃E c,v= .tuple #[.slice E (kg (eh N aa aG).2 aa.length).length c,R 0]/\bz U 278 2 E (kg (eh N aa aG).2 aa.length).length c ((kg (eh N aa aG).2 aa.length).map cH).flatten/\∀g,E=some g->h g.block=none)
theorem ajo(N:Int)(n cap:Nat)(aa:List bo)(A D:Option ar)(r iy:Nat)(aG:List Int)(h:I)(av:bg h 5 A n (aa.map bo.cells))(aC:n*40<=140737488355328)(aY:bg h 1 D r (aG.map λz=>[R z])):Fn aH 119 #[my N A n cap,.slice D r iy] h λv U=>agr h N aa aG v U:=by
 refine b5 aq5 rfl ?_;refine .done (.mk _ (aiO N n cap aa A D r iy aG h av aC aY) ?_);rintro v h1 ⟨cu,af,ak⟩;by_cases he:(eh N aa aG).1=0;obtain⟨v,X,rfl,⟨B,c,ba,rfl,ZS⟩,eC,aA4⟩:=ak he;have aF:=(ZS.lists).mono eC;have eb:=ZS.lens;have Qv:e' N aa=0:=by
  refine zM λaj=>?_;rw[vY aj]at he;omega
 have hm:=(lO Qv).2.2.1;have ht:=aiQ N aa aG;obtain⟨rows,CS⟩:∃rows,(eh N aa aG).2=rows:=⟨_,rfl⟩;rw[CS]at aF eb ht⊢;generalize ks:IR.seq (IR.ch Rj) (IR.block 0 (IR.loop Rh))=c1;generalize Qt:IR.block 6 (IR.loop Ri)=tq;refine .mk λb af=>?_;conv=>whnf
 subst ks;refine ajn af aF eb (by omega) (by omega) N A n cap (lp.start (I.bP _ _ _)) _ _ rfl λaJ l b' x pn=>?_;have ec:=fr [8] aJ;rw[pn]at ec;rw[<-ec];refine .mk (l.map (jl 7)).toArray b' x.at_ λr am=>?_;conv=>whnf
 subst Qt;have y9:r≠b:=λe=>by rw[e,I.bP]at am;cases am
 have Fc:h1 r=none:=by rwa[I.cf _ _ y9]at am
 have g0:NV h1 b r (λp q=>p<q/\q<aa.length/\Fy rows p q=true) l b' ((h1.put b (jE 7 l b')).put r (.mapIter (some b) b' #[] b')) #[] [] none 0:=by
  refine⟨λo J ae=>?_,x.of ?_,I.bP _ _ _,yj.start l,⟨rfl,.inl ⟨rfl,rfl,rfl⟩⟩,λ_ e=>by cases e⟩;rw[I.cf _ _ (λe=>by grind)];exact I.du af _ _ ae;exact I.cf _ _ (d9 y9)
 refine ajr y9 Fc (λouts aC aj=>hT (OQ aa.length outs aC λp hp=>?_) (hT (ns hm hm) (by decide))) g0 _ _ _ rfl λaI ab outs E cM L0 mn p0 qG gD=>?_
 grind
 have nF:outs.length<=9216:=hT (OQ aa.length outs mn λp hp=>by
  grind) (ns hm hm)
 have ec:=fr [13] aI;rw[gD]at ec;rw[<-ec];refine .bV 0 278 2 E outs.length cM _ rfl λan ha Jg f3=>.done (.mk _ (axL E outs.length cM outs an Jg (by omega)) ?_);rintro _ aR ⟨aN,rfl,DC,jG,same⟩;have Fg:aN=kg rows aa.length:=axN DC mn λp=>(p0 p).trans MF.symm;have mT:aN.length=outs.length:=DC.perm.length_eq;refine .done ⟨λo J ae=>?_,λq=>absurd he q,λ_=>⟨E,cM,?_,?_,λq aq=>?_⟩⟩;have tG:=cu _ _ ae;rw[same o λq aq e=>?_];exact ha _ _ (L0 _ _ tG)
 grind
 rw[CS,<-Fg,mT];rfl
 grind
 exact I.none_le cu (qG q aq);obtain rfl:=af he;refine aW (λ_=>?_) (λq=>absurd he q);exact .done ⟨cu,λ_=>rfl,λq=>absurd q he⟩
def uc(x y:cL):Bool:=decide (max x.1 y.1<min (x.1+x.2) (y.1+y.2))
def Kb(x:cL):Prop:= -1000000000000<=x.1/\x.1<=1000000000000/\ -1000000000000<=x.2/\x.2<=1000000000000
theorem axC(x y:cL)(h:I)(ad:Kb x)(aQ:Kb y):Fn aH 64 #[.agg #[R x.1,R x.2],.agg #[R y.1,R y.2]] h λv U=>v= .bool (uc x y)/\U=h:=by
 obtain⟨cP,a2,a3,a4⟩:=ad;obtain⟨bL,cy,gE,iW⟩:=aQ;refine b5 ast rfl ?_;refine .aLS ?_;refine .aLS ?_;exact .done ⟨rfl,rfl⟩
def oZ(l:List cL):Int:=l.foldl (λn x=>max n (x.1+x.2)) 0
theorem ayO(l:List cL)(x:cL):oZ (l++[x])=max (oZ l) (x.1+x.2):=by simp[oZ]
theorem afq(A:Option ar)(n cap:Nat)(l:List cL)(h:I)(av:bg h 2 A n (l.map cH))(aj:∀x∈l,Kb x)(aC:n<=1000000000000000000):Fn aH 65 #[.slice A n cap] h λv U=>v=R (oZ l)/\U=h:=by
 have al:l.length=n:=by simpa using av.len
 refine b5 asu rfl ?_;refine .mk Nat [3,6,7,8] (λk=>[.v (R (oZ (l.take k))),.v (.slice A n cap),.v (R n),.v (R k)]) (λ_=>[]) (λk U=>U=h/\k<=n) (λk=>n-k) 0 (λ_=>rfl) ⟨rfl,cO _⟩ rfl rfl ?_;rintro k e U ⟨rfl,hk⟩;refine aW (λu=>?_) (λu=>?_);have br:k<l.length:=by omega
 obtain⟨g,ak⟩:=av.cc (by omega);obtain⟨x,ad⟩:∃x,x=l[k]:=⟨_,rfl⟩;obtain⟨cP,a2,a3,a4⟩:=aj x (by grind);have oM:(l.map cH)[k]?=some (cH x):=by grind
 refine .m g ak ?_;refine .hp (cH x) rfl (by rw[bq];exact av.row ak oM) ?_;refine .aLS ?_;refine .aLS ?_;refine⟨k+1,?_,rfl,⟨rfl,by omega⟩,by omega⟩;have aJ:l.take (k+1)=l.take k++[x]:=by simp_all
 rw[aJ,ayO];rfl;have:k=n:=by omega
 subst this;refine .done ⟨?_,rfl⟩;rw[k4 (by omega)];rfl
def il(be:List cL)(hV:Int):List Int:=be.filterMap λp=>if hV=p.1 then some p.2 else if hV=p.2 then some p.1 else none
theorem auo(l:List cL)(x:cL)(hV:Int):il (l++[x]) hV=il l hV++il [x] hV:=by simp[il]
theorem aun(E F:Option ar)(n c m d:Nat)(l:List cL)(hV:Int)(h:I)(av:bg h 2 E n (l.map cH))(aC:n<=1000000):Fn aH 61 #[.agg #[.slice E n c,.slice F m d],R hV] h λv U=>h.le U/\∃B dP,v= .slice B (il l hV).length dP/\bg U 1 B (il l hV).length ((il l hV).map λz=>[R z]):=by
 have al:l.length=n:=by simpa using av.len
 refine b5 ass rfl ?_;refine .kU [] (Nat×Option ar×Nat) [1,5,9,10,11] (λ(k,B,dP)=>[.v (R hV),.v (.slice B (il (l.take k) hV).length dP),.v (.slice E n c),.v (R n),.v (R k)]) (λ_=>[]) (λ(k,B,dP) U=>h.le U/\k<=n/\bz U 3 1 B (il (l.take k) hV).length dP ((il (l.take k) hV).map R)/\∀g,B=some g->h g.block=none) (λ(k,_,_)=>n-k) (0,none,0) (λ(_,_,_)=>rfl) ⟨I.le_refl _,cO _,⟨rfl,.inl ⟨rfl,rfl,rfl⟩⟩,λ_ e=>by cases e⟩ rfl rfl rfl ?_;rintro⟨k,B,dP⟩ e U ⟨cu,hk,row,akF⟩;have eC:=xh cu akF;have eb:(il (l.take k) hV).length<=k:=by
  unfold il
  grind
 refine .abs 3 1 B _ dP _ row (.done ?_);refine aW (λu=>?_) (λu=>?_);have br:k<l.length:=by omega
 obtain⟨g,ak⟩:=av.cc (by omega);obtain⟨x,ad⟩:∃x,x=l[k]:=⟨_,rfl⟩;have oM:(l.map cH)[k]?=some (cH x):=by grind
 have aJ:l.take (k+1)=l.take k++[x]:=by simp_all
 have aI:=auo (l.take k) x hV;rw[<-aJ]at aI;have fin:∀{hz:Option ar}{c2:Nat}{z:Int}{aR:I},il [x] hV=[z]->(ei U B).le aR->bz aR 3 1 hz ((il (l.take k) hV).length+1) c2 ((il (l.take k) hV).map R++[R z])->(∀g,hz=some g->ei U B g.block=none)->h.le aR/\k+1<=n/\bz aR 3 1 hz (il (l.take (k+1)) hV).length c2 ((il (l.take (k+1)) hV).map R)/\∀g,hz=some g->h g.block=none:=λ{hz c2 z aR} aY gm ro f4=>by
  refine⟨I.le_trans eC gm,by omega,?_,λg ak=>I.none_le eC (f4 g ak)⟩
  grind
 refine .m g ak ?_;refine .hp (cH x) rfl (by rw[bq];exact(av.mono eC).row ak oM) ?_;refine aW (λo0=>?_) (λo0=>?_);have aY:il [x] hV=[x.2]:=by simp[il,o0]
 refine .done (.cR 0 _ [R x.2] rfl rfl (by intro u hu;simp at hu;subst hu;rfl) (by grind [c']) (by omega) λhz c2 _=>?_);refine .aLS ?_;refine .bV 0 3 1 hz ((il (l.take k) hV).length+1) c2 _ rfl λaR gm jG f4=>.done ⟨(k+1,hz,c2),?_,rfl,fin aY gm jG f4,by grind⟩;show _=[aA.v (R hV),aA.v (.slice hz (il (l.take (k+1)) hV).length c2),_,_,_];rw[aI,aY,fb];rfl;refine aW (λhI=>?_) (λhI=>?_);have aY:il [x] hV=[x.1]:=by
  grind [il]
 refine .done (.cR 0 _ [R x.1] rfl rfl (by intro u hu;simp at hu;subst hu;rfl) (by grind [c']) (by omega) λhz c2 _=>?_);refine .aLS ?_;refine .bV 0 3 1 hz ((il (l.take k) hV).length+1) c2 _ rfl λaR gm jG f4=>.done ⟨(k+1,hz,c2),?_,rfl,fin aY gm jG f4,by grind⟩;show _=[aA.v (R hV),aA.v (.slice hz (il (l.take (k+1)) hV).length c2),_,_,_];rw[aI,aY,fb];rfl;have aY:il [x] hV=[]:=by
  grind [il]
 rw[aY,zR]at aI;refine .aLS ?_;refine .bV 0 3 1 B _ dP _ rfl λaR gm jG f4=>.done ⟨(k+1,B,dP),?_,rfl,?_,by grind⟩;show _=[aA.v (R hV),aA.v (.slice B (il (l.take (k+1)) hV).length dP),_,_,_];rw[aI];rfl;refine⟨I.le_trans eC gm,by omega,?_,λg ak=>I.none_le eC (f4 g ak)⟩
 grind
 have:k=n:=by omega
 subst this;have ds:l.take k=l:=k4 (by omega);refine .bV 0 3 1 B _ dP _ rfl λaR gm jG f4=>.done ⟨I.le_trans eC gm,B,dP,?_,?_⟩;show oE B (il (l.take k) hV).length dP=_;rw[ds];have:=jG.one
 grind
def l2(N:Int)(aa:List bo)(aG:List Int):Int:=if(eh N aa aG).1≠0 then(eh N aa aG).1 else if CO N aa aG=true then 0 else 181
def ahw(h:I)(N:Int)(aa:List bo)(aG:List Int)(v:ao)(U:I):Prop:=
 h.le U/\(l2 N aa aG≠0->v= .tuple #[.agg #[.slice none 0 0,.slice none 0 0],R (l2 N aa aG)])/\
  (l2 N aa aG=0->∃E c F d,v= .tuple #[.agg #[.slice E (kg (eh N aa aG).2 aa.length).length c,.slice F aa.length d],R 0]/\bg U 2 E (kg (eh N aa aG).2 aa.length).length ((kg (eh N aa aG).2 aa.length).map cH)/\
   bg U 1 F aa.length ((lg (eh N aa aG).2).map λz=>[R z]))
theorem bz.Gd{bs:Nat}{xs:List cL}(r:bz h bs 2 A n cap (xs.map cH).flatten):bg h 2 A n (xs.map cH):=r.dG (λr am=>by obtain⟨x,_,rfl⟩:=dn.1 am;rfl) (by decide)
theorem att(N:Int)(n cap:Nat)(aa:List bo)(A D:Option ar)(r iy:Nat)(aG:List Int)(h:I)(av:bg h 5 A n (aa.map bo.cells))(aC:n*40<=140737488355328)(aY:bg h 1 D r (aG.map λz=>[R z])):Fn aH 57 #[my N A n cap,.slice D r iy] h λv U=>ahw h N aa aG v U:=by
 refine b5 asp rfl ?_;refine .done (.mk _ (ajo N n cap aa A D r iy aG h av aC aY) ?_);rintro v h1 ⟨dc,af,ak⟩;by_cases he:(eh N aa aG).1=0;obtain⟨E,c,rfl,awK,_⟩:=ak he;refine .done (.mk _ (anN N n cap aa A D r iy aG h1 (av.mono dc) aC (aY.mono dc)) ?_);rintro v ab ⟨rfl,c9⟩;have cV:l2 N aa aG=if CO N aa aG=true then 0 else 181:=by unfold l2;omega
 cases aP:CO N aa aG with
 |true=>
  rw[aP,aX rfl]at cV;refine .done (.mk _ (at3 N n cap aa A D r iy aG ab (av.mono (I.le_trans dc c9)) aC (aY.mono (I.le_trans dc c9))) ?_);rintro v an ⟨ha,_,Lm⟩;obtain⟨v,X,rfl,ie,aD,_⟩:=Lm he;obtain⟨Cq,sf,rfl,kW⟩:=ie.2 (OR he);exact .done ⟨I.le_trans dc (I.le_trans c9 ha),λq=>absurd cV q,λ_=>⟨E,c,some Cq,sf,rfl,(awK.Gd).mono (I.le_trans c9 ha),(kW.mono aD).one⟩⟩
 |false=>
  rw[aP]at cV;have cV:l2 N aa aG=181:=cV;refine .done ⟨I.le_trans dc c9,λ_=>?_,λq=>absurd (cV.symm.trans q) (by decide)⟩;rw[cV];rfl
 obtain rfl:=af he;have cV:l2 N aa aG=(eh N aa aG).1:=by unfold l2;omega
 refine aW (λ_=>?_) (λq=>absurd he q);refine .done ⟨dc,λ_=>?_,λq=>absurd (cV.symm.trans q) he⟩;rw[cV];rfl
def Aj(x y:Int):Int:=if x<y then-1 else if y<x then 1 else 0
theorem acs(x:Int)(h:I):Fn aH 123 #[R x] h λv U=>v= .bool false/\U=h:=by
 refine b5 aq8 rfl ?_;refine .done ⟨?_,rfl⟩;show qB (decide (x≠x))=_;simp
theorem ajz(x y:Int)(h:I):Fn aH 60 #[R x,R y] h λv U=>v=R (Aj x y)/\U=h:=by
 refine b5 asr rfl ?_;refine .done (.mk _ (acs x h) ?_);rintro _ _ ⟨rfl,rfl⟩;refine .done (.mk _ (acs y _) ?_);rintro _ _ ⟨rfl,rfl⟩;refine aW (λu=>?_) (λu=>?_);refine .done ⟨?_,rfl⟩;unfold Aj;rw[aX u];rfl;refine aW (λhI=>?_) (λhI=>?_);refine .done ⟨?_,rfl⟩;unfold Aj;rw[aE u,aX hI];rfl;refine .done ⟨?_,rfl⟩;unfold Aj;rw[aE u,aE hI];rfl
structure q8(h:I)(q:Nat)(X F:Option ar)(k c m d:Nat)(dm:List Int):Prop where
 cell:h q=some (.cells [.slice X k c,.slice F m d].toArray 188 (0,0))
 dG:bg h 1 F m (dm.map λz=>[R z])
theorem I9(f:q8 h q X F k c m d dm)(_hm:m<=1000000){a:Nat}(a6:a<m)(af:b<m):Fn aH 59 #[R a,R b,.pointer (some ⟨q,0,none⟩)] h λv U=>v=R (Aj (dm.getD b 0) (dm.getD a 0))/\U=h:=by
 have al:dm.length=m:=by simpa using f.dG.len
 obtain⟨g,ak⟩:=f.dG.cc (by omega);have ld:∀o,o<m->h.cell? (g.add ((o:Int).toNat*1))=some (R (dm.getD o 0)):=λo ae=>by
  rw[bq];exact f.dG.one ak (r:=[R (dm.getD o 0)]) (by grind) rfl
 have cl:∀o v,[oE X k c,.slice F m d][o]?=some v->h.cell? ⟨q,o,none⟩=some v:=λo v ah=>by
  unfold I.cell?
  grind [f.cell]
 refine b5 asq rfl ?_;refine .hp (.slice F m d) (cl 1 _ rfl) ?_;refine .m g ak ?_;refine .hp _ (ld b af) ?_;refine .hp (.slice F m d) (cl 1 _ rfl) ?_;refine .m g ak ?_;refine .hp _ (ld a a6) ?_;refine .mk _ (ajz _ _ h) ?_ ?_;rintro _ _ ⟨rfl,rfl⟩;exact I.le_refl _;rintro _ _ ⟨rfl,rfl⟩;exact .done ⟨rfl,rfl⟩
theorem aoH(f:q8 h q X F k c m d dm)(hm:m<=1000000)(A:Option ar)(n cap:Nat)(xs:List Nat)(av:bg h 1 A n (xs.map λz:Nat=>[R (z:Int)]))(aC:n<=1000000)(ad:∀x∈xs,x<m)(aj:∀i(ag:i+1<xs.length),¬Aj (dm.getD xs[i] 0) (dm.getD xs[i+1] 0)<0):Fn aH 167 #[.slice A n cap,R 0,R n,.func (.func 59) #[] #[.pointer (some ⟨q,0,none⟩)]] h λv U=>v= .tuple #[]/\U=h:=by
 have al:xs.length=n:=by simpa using av.len
 refine b5 aaZ rfl ?_;refine .aLS ?_;refine .mk Nat [0,1,2,3,8] (λi=>[.v (.slice A n cap),.v (R 0),.v (R n),.v (.func (.func 59) #[] #[.pointer (some ⟨q,0,none⟩)]),.v (R (i+1:Nat))]) (λ_=>[]) (λi U=>U=h) (λi=>n-i) 0 (λ_=>rfl) rfl rfl rfl ?_;rintro i e U rfl;refine aW (λu=>?_) (λu=>?_);have ag:i+1<n:=by omega
 obtain⟨g,ak⟩:=av.cc (by omega);have ld:∀o(ae:o<n),U.cell? (g.add ((o:Int).toNat*1))=some (R (xs[o]'(by omega):Int)):=λo ae=>by
  rw[bq];exact av.one ak (r:=[R (xs[o]'(by omega):Int)]) (by grind) rfl
 refine .mk Unit [0,1,2,3,8,9] (λ_=>[.v (.slice A n cap),.v (R 0),.v (R n),.v (.func (.func 59) #[] #[.pointer (some ⟨q,0,none⟩)]),.v (R (i+1:Nat)),.v (R (i+1:Nat))]) (λ_=>[]) (λ_ ab=>ab=U) (λ_=>0) () (λ_=>rfl) rfl rfl rfl ?_;rintro _ aI ab rfl;refine aW (λ_=>?_) (λq=>absurd (show((i+1:Nat):Int)>0 by omega) q);refine .m g ak ?_;refine .hp _ (ld (i+1) ag) ?_;refine .aLS ?_;have ds:((i+1:Nat):Int)-1=(i:Nat):=by omega
 rw[ds];refine .m g ak ?_;refine .hp _ (ld i (by omega)) ?_;refine .mk _ (I9 f hm (ad _ (cS _)) (ad _ (cS _))) ?_ ?_;rintro _ _ ⟨rfl,rfl⟩;exact I.le_refl _;rintro _ _ ⟨rfl,rfl⟩;refine aW (λw=>absurd w (aj i (by omega))) (λ_=>?_);refine .aLS ?_;exact⟨i+1,rfl,rfl,rfl,by omega⟩;exact .done ⟨rfl,rfl⟩
theorem axW(f:q8 h q X F k c m d dm)(hm:m<=1000000)(A:Option ar)(n cap:Nat)(xs:List Nat)(av:bg h 1 A n (xs.map λz:Nat=>[R (z:Int)]))(aC:n<20)(ad:∀x∈xs,x<m)(aj:∀i(ag:i+1<xs.length),¬Aj (dm.getD xs[i] 0) (dm.getD xs[i+1] 0)<0):Fn aH 122 #[.slice A n cap,R n,.func (.func 59) #[] #[.pointer (some ⟨q,0,none⟩)]] h λv U=>v= .tuple #[]/\U=h:=by
 refine b5 Rq rfl ?_;refine .mk Unit [0,1,2,6,7,8] (λ_=>[.v (.slice A n cap),.v (R n),.v (.func (.func 59) #[] #[.pointer (some ⟨q,0,none⟩)]),.v (R 20),.v (R 0),.v (R 20)]) (λ_=>[]) (λ_ ab=>ab=h) (λ_=>0) () (λ_=>rfl) rfl rfl rfl ?_;rintro _ aI ab rfl;refine aW (λw=>absurd (show(20:Int)<=(n:Int)from w) (by omega)) (λ_=>?_);refine .done (.mk _ (aoH f hm A n cap xs av (by omega) ad aj) ?_);rintro _ _ ⟨rfl,rfl⟩;refine .mk Unit [0,1,2,6] (λ_=>[.v (.slice A n cap),.v (R n),.v (.func (.func 59) #[] #[.pointer (some ⟨q,0,none⟩)]),.v (R 20)]) (λ_=>[]) (λ_ an=>an=_) (λ_=>0) () (λ_=>rfl) rfl rfl rfl ?_;rintro _ ck an rfl;refine aW (λw=>absurd (show(20:Int)<(n:Int)from w) (by omega)) (λ_=>?_);exact .done ⟨rfl,rfl⟩
theorem axV(f:q8 h q X F k c m d dm)(hm:m<=1000000)(A:Option ar)(n cap:Nat)(xs:List Nat)(av:bg h 1 A n (xs.map λz:Nat=>[R (z:Int)]))(aC:n<20)(ad:∀x∈xs,x<m)(aj:∀i(ag:i+1<xs.length),¬Aj (dm.getD xs[i] 0) (dm.getD xs[i+1] 0)<0):Fn aH 58 #[.slice A n cap,.func (.func 59) #[] #[.pointer (some ⟨q,0,none⟩)]] h λv U=>v= .tuple #[]/\U=h:=by
 refine b5 aa1 rfl ?_;refine .done (.mk _ (axW f hm A n cap xs av aC ad aj) ?_);rintro _ _ ⟨rfl,rfl⟩;exact .done ⟨rfl,rfl⟩
theorem afo{T:Nat}{f:List Int}(aj:e' N aa=0)(g:Good N aa f T):(ee aa f).length=aa.length/\∀x∈ee aa f,0<=x/\x<=256+64*(T:Int):=by
 refine⟨pE _ _,λx ad=>?_⟩;obtain⟨a,a6,rfl⟩:=dn.1 ad;exact⟨g.tok a a6,g.afn aj a6⟩
theorem VA{N:Nat}{aa:List bo}(aj:e' N aa=0):∀(aG f:List Int)(T:Nat),Good N aa f T->∀r∈(fA N aa aG f).2,r.length=aa.length/\∀x∈r,0<=x/\x<=256+64*((T+aG.length:Nat):Int)
 |[],_,_,_=>λr h=>by cases h
 |v::aG,f,T,g=>by
  unfold fA;split;simp;rename_i ah;split;rename_i hm;obtain⟨k,rfl⟩:∃k:Nat,v=k:=⟨v.toNat,by omega⟩;have g2:=g.bump aj hm;intro r am;rcases dC.1 am with rfl|am;obtain⟨a,b⟩:=afo aj g2
  grind
  obtain⟨a,b⟩:=VA aj aG _ _ g2 r am
  grind
  simp
theorem VD{N:Int}(h:(eh N aa aG).1=0):e' N aa=0:=by
 refine zM λaj=>?_;rw[vY aj]at h;omega
theorem aiP{N:Int}(h:(eh N aa aG).1=0):∀r∈(eh N aa aG).2,r.length=aa.length/\∀x∈r,0<=x/\x<=131328:=by
 have aj:=VD h;have Qd:=lO aj;obtain⟨N,rfl⟩:∃q:Nat,N=q:=⟨N.toNat,by omega⟩;have al:¬2048<aG.length:=λq=>by rw[Ae aj q]at h;cases h
 rw[Kg aj al];intro r am;rcases dC.1 am with rfl|am;obtain⟨a,b⟩:=afo aj (Cr aj)
 grind
 obtain⟨a,b⟩:=VA aj aG _ _ (Cr aj) r am
 grind
theorem Ya{m:Nat}:∀(rs:List (List Int))(r:List Int),r.length=m->(∀s∈rs,s.length=m)->(rs.foldl (λa b=>rf max a b) r).length=m/\∀i,i<m->r.getD i 0<=(rs.foldl (λa b=>rf max a b) r).getD i 0/\(∀s∈rs,s.getD i 0<=(rs.foldl (λa b=>rf max a b) r).getD i 0)/\((rs.foldl (λa b=>rf max a b) r).getD i 0=r.getD i 0\/∃s∈rs,(rs.foldl (λa b=>rf max a b) r).getD i 0=s.getD i 0)
 |[],r,am,_=>⟨am,λi ag=>⟨JU _,(λs h=>by cases h),.inl rfl⟩⟩
 |s::rs,r,am,aj=>by
  have h1:=aj s (iU ..);have aY:(rf max r s).length=m:=by grind
  obtain⟨a,b⟩:=Ya rs (rf max r s) aY λx ad=>aj x (iv _ ad)
  grind
structure U6(rows:List (List Int))(m:Nat)(dm:List Int):Prop where
 len:dm.length=m
 up:∀i,i<m->∀r∈rows,r.getD i 0<=dm.getD i 0
 is:∀i,i<m->∃r∈rows,dm.getD i 0=r.getD i 0
theorem atO(bH:rows≠[])(al:∀r∈rows,r.length=m):U6 rows m (lg rows):=by
 cases rows with
 |nil=>grind
 |cons r rs=>
  obtain⟨a,b⟩:=Ya rs r (al r (iU ..)) λs aj=>al s (iv _ aj);refine⟨a,λi ag s aj=>?_,λi ag=>?_⟩;obtain⟨c,d,_⟩:=b i ag;rcases dC.1 aj with rfl|aj;exact c;exact d s aj;obtain⟨_,_,e⟩:=b i ag;rcases e with e|⟨s,aj,e⟩;exact⟨r,iU ..,e⟩;exact⟨s,iv _ aj,e⟩
theorem RX{N:Int}(h:(eh N aa aG).1=0):U6 (eh N aa aG).2 aa.length (lg (eh N aa aG).2)/\∀i,i<aa.length->0<=(lg (eh N aa aG).2).getD i 0/\(lg (eh N aa aG).2).getD i 0<=131328:=by
 have af:=aiP h;have p:=atO (OR h) λr am=>(af r am).1;refine⟨p,λi ag=>?_⟩;obtain⟨r,am,e⟩:=p.is i ag;obtain⟨a,b⟩:=af r am;simp_all
def r0(x y:cL):cL:=if uc x y then(y.1+y.2,x.2)else x
def kr(s:Int)(aN:List cL):cL:=aN.foldl r0 (0,s)
theorem aln(s:Int)(aN:List cL)(y:cL):kr s (aN++[y])=r0 (kr s aN) y:=by simp[kr]
def k5(hM:List Int)(bC:List cL)(dA:List Bool):List cL:=hM.filterMap λz=>if dA.getD z.toNat false then some (bC.getD z.toNat (0,0))else none
theorem ai7(l:List Int)(z:Int)(bC:List cL)(dA:List Bool):k5 (l++[z]) bC dA=k5 l bC dA++k5 [z] bC dA:=by simp[k5]
inductive o8(be:List cL)(dm:List Int)(m:Nat):List Nat->List cL->List Bool->Prop
 |nil:o8 be dm m [] (bG m (0,0)) (bG m false)
 |step {os:List Nat} {bC:List cL} {dA:List Bool} (a:Nat) (aN:List cL) (h:o8 be dm m os bC dA) (aj:OI (UH Ai) (k5 (il be a) bC dA) aN):o8 be dm m (os++[a]) (bC.set a (kr (dm.getD a 0) aN)) (dA.set a true)
theorem o8.lens(r:o8 be dm m os bC dA):bC.length=m/\dA.length=m:=by
 induction r with
 |nil=>simp
 |step a aN _ _ bE=>grind
theorem OZ{hM:List Int}{x:cL}(h:x∈k5 hM bC dA):∃z∈hM,dA.getD z.toNat false=true/\x=bC.getD z.toNat (0,0):=by
 obtain⟨z,aY,e⟩:=J2.1 h
 grind
theorem X9{B:Int}(bW:0<=B)(aQ:∀y∈aN,0<=y.1/\0<=y.2/\y.1+y.2<=B):(kr s aN).2=s/\0<=(kr s aN).1/\(kr s aN).1<=B:=by
 have key:∀(aN:List cL)(x:cL),x.2=s->0<=x.1->x.1<=B->(∀y∈aN,0<=y.1/\0<=y.2/\y.1+y.2<=B)->(aN.foldl r0 x).2=s/\0<=(aN.foldl r0 x).1/\(aN.foldl r0 x).1<=B:=by
  intro aN;induction aN with
  |nil=>grind
  |cons y aN bE=>
   intro x a b c aQ;have h1:=aQ y (iU ..);have ab:=λz aY=>aQ z (iv _ aY);simp only[DY];unfold r0;split;exact bE _ a (by omega) h1.2.2 ab;exact bE _ a b c ab
 exact key aN (0,s) rfl (JU _) bW aQ
theorem o8.VX(r:o8 be dm m os bC dA)(CR:∀i,0<=dm.getD i 0/\dm.getD i 0<=131328):∀x∈bC,0<=x.1/\0<=x.2/\x.1+x.2<=131328*(os.length:Int):=by
 induction r with
 |nil=>simp
 | @step os bC dA a aN h aj bE=>
  have hp:=CR a;have af:∀y∈aN,0<=y.1/\0<=y.2/\y.1+y.2<=131328*(os.length:Int):=λy aQ=>by
   obtain⟨z,_,aY,rfl⟩:=OZ ((aj.perm.mem_iff).1 aQ)
   grind
  obtain⟨aJ,aI,ck⟩:=X9 (s:=dm.getD a 0) (B:=131328*(os.length:Int)) (by omega) af
  grind
theorem X':∀(l:List cL)(a n:Int),l.foldl (λn x=>max n (x.1+x.2)) a<=n↔a<=n/\∀x∈l,x.1+x.2<=n
 |[],a,n=>by simp
 |x::l,a,n=>by
  simp only[DY,X' l,dC,forall_eq_or_imp]
  grind
theorem afr{l:List cL}{n:Int}:oZ l<=n↔0<=n/\∀x∈l,x.1+x.2<=n:=X' l 0 n
theorem ayP{l:List cL}{x:cL}(h:x∈l):x.1+x.2<=oZ l:=(afr.1 (JU _)).2 x h
theorem Jq(x y:cL):uc x y=true↔x.1<x.1+x.2/\x.1<y.1+y.2/\y.1<x.1+x.2/\y.1<y.1+y.2:=by
 unfold uc
 grind
theorem axD(x y:cL):uc x y=uc y x:=by
 rw[Bool.eq_iff_iff,Jq,Jq];omega
theorem alk(aL:aN.Pairwise λa b=>UH Ai b a=false):∀y∈aN,uc (kr s aN) y=false:=by
 have key:∀(aN pre:List cL)(x:cL),aN.Pairwise (λa b=>UH Ai b a=false)->(∀p∈pre,∀y∈aN,p.1<=y.1)->(∀p∈pre,uc x p=false)->∀y∈pre++aN,uc (aN.foldl r0 x) y=false:=by
  intro aN;induction aN with
  |nil=>simp
  |cons z aN bE=>
   intro pre x hp cu h y aQ;obtain⟨aY,nG⟩:=List.pairwise_cons.1 hp;simp only[DY];refine bE (pre++[z]) (r0 x z) nG (λp nH w hw=>?_) (λp nH=>?_) y (by grind)
   grind [Md]
   unfold r0;cases aj:uc x z with
   |false=>
    grind
   |true=>
    rw[Jq]at aj;rw[aX rfl,JN,ne_eq,Jq];rcases ev.1 nH with nH|nH;have h1:=h p nH;have ab:=cu p nH z (iU ..);rw[JN,ne_eq,Jq]at h1;omega
    grind
 intro y aQ;exact key aN [] (0,s) aL (λp hp=>by cases hp) (λp hp=>by cases hp) y (by grind)
theorem alm(s:Int)(aN:List cL):(kr s aN).2=s/\((kr s aN).1=0\/∃y∈aN,(kr s aN).1=y.1+y.2):=by
 have key:∀(aN:List cL)(x:cL),(aN.foldl r0 x).2=x.2/\((aN.foldl r0 x).1=x.1\/∃y∈aN,(aN.foldl r0 x).1=y.1+y.2):=by
  intro aN;induction aN with
  |nil=>simp
  |cons z aN bE=>
   intro x;simp only[DY];obtain⟨a,b⟩:=bE (r0 x z);unfold r0 at a b⊢
   grind
 exact key aN (0,s)
theorem acw{a:Int}:z∈il be a->(a,z)∈be\/(z,a)∈be:=by
 intro h;obtain⟨p,hp,e⟩:=J2.1 h
 grind
theorem aup{a:Int}(bH:a≠z)(h:(a,z)∈be\/(z,a)∈be):z∈il be a:=by
 rcases h with h|h;exact J2.2 ⟨(a,z),h,by simp⟩;exact J2.2 ⟨(z,a),h,by simp⟩
def ye(be:List cL)(i o:Nat):Prop:=((i:Int),(o:Int))∈be\/((o:Int),(i:Int))∈be
def q0(dm:List Int)(i:Nat):Int:=dm.getD i 0
def kC(bC:List cL)(i:Nat):cL:=bC.getD i (0,0)
structure ah6(be:List cL)(dm:List Int)(os:List Nat)(bC:List cL)(dA:List Bool):Prop where
 pl:∀i,dA.getD i false=true↔i∈os
 size:∀i∈os,(kC bC i).2=q0 dm i
 base:∀i∈os,0<=(kC bC i).1
 apart:∀i∈os,∀o∈os,ye be i o->uc (kC bC i) (kC bC o)=false
 tight:∀i∈os,(kC bC i).1=0\/∃o∈os,ye be i o/\(kC bC o).1+(kC bC o).2=(kC bC i).1
 KG:∀i∈os,(kC bC i).1+(kC bC i).2<=(os.map (q0 dm)).sum
theorem Yn{α:Type}(l:List α)(a i:Nat)(x d:α)(a6:a<l.length):(l.set a x).getD i d=if i=a then x else l.getD i d:=by
 grind
theorem aw9(r:o8 be dm m os bC dA)(CR:∀i,0<=q0 dm i)(u':∀p∈be,0<=p.1/\p.1<p.2)(u4:os.Nodup)(hm:∀i∈os,i<m):ah6 be dm os bC dA:=by
 induction r with
 |nil=>
  refine⟨λi=>?_,(λi h=>by cases h),(λi h=>by cases h),(λi h=>by cases h),(λi h=>by cases h),(λi h=>by cases h)⟩
  grind
 | @step os bC dA a aN r aj bE=>
  have aBm:=u4;rw[List.nodup_append]at u4;obtain⟨dF,_,hZ⟩:=u4;have a6:a∉os:=λh=>hZ a h a (fx.2 rfl) rfl;have bE:=bE dF λi ag=>hm i (List.mem_append_left _ ag);have ami:a<m:=hm a (List.mem_append_right _ (fx.2 rfl));obtain⟨wG,pl⟩:=r.lens;have eJ:∀i,kC (bC.set a (kr (dm.getD a 0) aN)) i=if i=a then kr (dm.getD a 0) aN else kC bC i:=λi=>Yn _ _ _ _ _ (by omega);have jB:∀i,(dA.set a true).getD i false=if i=a then true else dA.getD i false:=λi=>Yn _ _ _ _ _ (by omega);have h5:∀i∈os,kC (bC.set a (kr (dm.getD a 0) aN)) i=kC bC i:=λi ag=>by grind
  have ez:kC (bC.set a (kr (dm.getD a 0) aN)) a=kr (dm.getD a 0) aN:=by grind
  have c6:∀y∈aN,∃o∈os,ye be a o/\y=kC bC o:=λy aQ=>by
   obtain⟨z,aY,LC,e⟩:=OZ (aj.perm.mem_iff.1 aQ);have ae:=(bE.pl z.toNat).1 LC;have ai:0<=z:=by
    rcases acw aY with h|h
    grind
    grind
   have Ih:((z.toNat:Nat):Int)=z:=Int.toNat_of_nonneg ai;exact⟨z.toNat,ae,by rcases acw aY with h|h;exact .inl (by grind);exact .inr (by grind),e⟩
  have rn:∀o∈os,ye be a o->kC bC o∈aN:=λo ae aw=>by
   refine aj.perm.mem_iff.2 (J2.2 ⟨(o:Int),aup (λe=>a6 (by grind)) aw,?_⟩);rw[bq,aX ((bE.pl o).2 ae)];rfl
  have ap:=alk (s:=dm.getD a 0) aj.ord;obtain⟨o',cj⟩:=alm (dm.getD a 0) aN;have axH:((os++[a]).map (q0 dm)).sum=(os.map (q0 dm)).sum+q0 dm a:=by simp
  have sp:0<=(os.map (q0 dm)).sum:=by
   have:∀l:List Nat,0<=(l.map (q0 dm)).sum:=λl=>by
    induction l with
    |nil=>simp
    |cons x l bE=>grind
   grind
  have pu:∀o,¬ye be o o:=λo h=>by
   rcases h with h|h<;>(grind)
  have cs:∀i o,ye be i o->ye be o i:=λi o h=>h.symm;refine⟨λi=>?_,λi ag=>?_,λi ag=>?_,λi ag o ae aw=>?_,λi ag=>?_,λi ag=>?_⟩;rw[jB];split
  grind
  rename_i h;rw[bE.pl i,ev,fx]
  grind
  rcases ev.1 ag with h|h;rw[h5 i h];exact bE.size i h;rw[fx.1 h,ez];exact o';rcases ev.1 ag with h|h;rw[h5 i h];exact bE.base i h;rw[fx.1 h,ez];rcases cj with cj|⟨y,aQ,cj⟩;omega;obtain⟨o,ae,_,rfl⟩:=c6 y aQ;have:=bE.base o ae;have:=bE.size o ae
  grind
  rcases ev.1 ag with h|h<;>rcases ev.1 ae with U|U;rw[h5 i h,h5 o U];exact bE.apart i h o U aw;rw[fx.1 U]at aw⊢;rw[h5 i h,ez,axD]
  grind
  grind
  grind
  rcases ev.1 ag with h|h;rw[h5 i h];rcases bE.tight i h with t|⟨o,ae,aw,t⟩;omega
  grind
  grind
  rw[axH];rcases ev.1 ag with h|h;rw[h5 i h];have:=bE.KG i h
  grind
  rw[fx.1 h,ez,o'];rcases cj with cj|⟨y,aQ,cj⟩;show(kr (dm.getD a 0) aN).1+q0 dm a<=_;omega;obtain⟨o,ae,_,rfl⟩:=c6 y aQ;have:=bE.KG o ae;show(kr (dm.getD a 0) aN).1+q0 dm a<=_;omega
structure Fin(rows:List (List Int))(m:Nat)(dm:List Int)(bC:List cL):Prop where
 len:bC.length=m
 size:∀i,i<m->(kC bC i).2=q0 dm i
 base:∀i,i<m->0<=(kC bC i).1
 apart:∀i,i<m->∀o,o<m->ye (kg rows m) i o->uc (kC bC i) (kC bC o)=false
 tight:∀i,i<m->(kC bC i).1=0\/∃o,o<m/\ye (kg rows m) i o/\(kC bC o).1+(kC bC o).2=(kC bC i).1
 KG:∀i,i<m->(kC bC i).1+(kC bC i).2<=((aDB m).map (q0 dm)).sum
theorem avA{l b3:List Int}(h:l.Perm b3):l.sum=b3.sum:=by
 induction h with
 |nil=>rfl
 |cons x _ bE=>simp[bE]
 |swap x y l=>grind
 |trans _ _ a b=>omega
theorem aw7(r:o8 (kg rows m) dm m os bC dA)(CR:∀i,0<=q0 dm i)(hp:os.Perm (aDB m)):Fin rows m dm bC:=by
 have hm:∀i,i∈os↔i<m:=λi=>by grind
 have k:=aw9 r CR (λp hp=>by
  obtain⟨i,o,rfl,a,_⟩:=MF.1 hp;omega) ((hp.nodup_iff).2 List.nodup_range) λi ag=>(hm i).1 ag
 refine⟨r.lens.1,λi ag=>k.size i ((hm i).2 ag),λi ag=>k.base i ((hm i).2 ag),λi ag o ae=>k.apart i ((hm i).2 ag) o ((hm o).2 ae),λi ag=>?_,λi ag=>?_⟩;rcases k.tight i ((hm i).2 ag)with t|⟨o,ae,t⟩;omega
 grind
 have:=k.KG i ((hm i).2 ag);rwa[avA (hp.map (q0 dm))]at this
def c5(ai:I)(b:Nat)(cB:List ao)(os:List Nat):I:=ai.put b (.cells ((os.map λz:Nat=>R (z:Int))++cB).toArray 3 (0,0))
theorem Qh(ai:I)(b:Nat)(cB:List ao)(os:List Nat):c5 ai b cB os b=some (.cells ((os.map λz:Nat=>R (z:Int))++cB).toArray 3 (0,0)):=MK
theorem qT(aY:z=(o:Nat))(ae:o<os.length):(c5 ai b cB os).cell? ((ou b 0 none).add (z.toNat*1))=some (R (os[o]:Nat)):=by
 subst aY;rw[bq,ew,add_lit,dJ];unfold I.cell?;simp only[Qh];simp only[List.getElem?_toArray]
 grind
theorem adk:∀(cs:List ao)(o:Nat)(v:ao),o<cs.length->over cs o [v]=some (cs.set o v)
 |[],_,_,h=>absurd h (BO _)
 |_::_,0,_,_=>by simp[over]
 |c::cs,o+1,v,h=>by
  have:=adk cs o v (Nat.lt_of_succ_lt_succ h);simp[over,this]
theorem Bo{v:Nat}{L:List LE}{K:List LE->I->Prop}(aY:z=(o:Nat))(ae:o<os.length)(k:K L (c5 ai b cB (os.set o v))):Gx L (c5 ai b cB os) ((ou b 0 none).add (z.toNat*1)) [R (v:Nat)] K:=by
 subst aY;refine .hp b o 3 _ _ (by rw[bq,ew,add_lit,dJ]) (Qh _ _ _ _) (adk _ o _ (by grind)) ?_;unfold c5 at k⊢;rw[I.sZ,List.set_append_left _ _ (by grind)];simp_all
def swp(os:List Nat)(i o:Nat):List Nat:=(os.set i (os.getD o 0)).set o (os.getD i 0)
theorem Na(ag:i<os.length)(ae:o<os.length):(swp os i o).Perm os:=by
 unfold swp
 grind
theorem TE(ag:i<os.length)(ae:o<os.length):(os.set i os[o]).set o os[i]=swp os i o:=by
 unfold swp
 grind
abbrev jm(q:Nat):ao:=.func (.func 59) #[] #[.pointer (some ⟨q,0,none⟩)]
def Ec(ai:I)(b:Nat)(cB:List ao)(os:List Nat)(v:ao)(U:I):Prop:=v= .tuple #[]/\∃oh:List Nat,oh.Perm os/\U=c5 ai b cB oh
theorem TD(hm:m<=1000000)(os:List Nat)(hX:os.length=m)(x y n:Int)(pZ:0<=x)(alP:0<=y)(PZ:0<=n)(ad:x+n<=m)(aQ:y+n<=m):Fn aH 214 #[.slice (some ⟨b,0,none⟩) m cap,R x,R y,R n,jm q] (c5 ai b cB os) λv U=>Ec ai b cB os v U:=by
 obtain⟨x,rfl⟩:=GC pZ;obtain⟨y,rfl⟩:=GC alP;obtain⟨n,rfl⟩:=GC PZ;refine b5 arW rfl ?_;refine .mk (Nat×List Nat) [0,1,2,3,10] (λ(i,_)=>[.v (.slice (some ⟨b,0,none⟩) m cap),.v (R x),.v (R y),.v (R n),.v (R i)]) (λ_=>[]) (λ(i,aN) U=>i<=n/\aN.Perm os/\U=c5 ai b cB aN) (λ(i,_)=>n-i) (0,os) (λ(_,_)=>rfl) ⟨cO _,.refl _,rfl⟩ rfl rfl ?_;rintro⟨i,aN⟩ e U ⟨ag,hp,rfl⟩;have mT:aN.length=m:=by rw[hp.length_eq,hX]
 refine aW (λu=>?_) (λu=>?_);have ea:i<n:=by omega
 refine .aLS ?_;refine .aLS ?_;refine .aLS ?_;refine .r ?_;refine .hp _ (qT (o:=y+i) (by omega) (by omega)) ?_;refine .aLS ?_;refine .r ?_;refine .hp _ (qT (o:=x+i) (by omega) (by omega)) ?_;refine .r ?_;refine Bo (o:=x+i) (v:=aN[y+i]) (by omega) (by omega) ?_;refine .r ?_;refine Bo (o:=y+i) (v:=aN[x+i]) (by omega) (by grind) ?_;have DG:=Na (os:=aN) (i:=x+i) (o:=y+i) (by omega) (by omega);have axr:(aN.set (x+i) aN[y+i]).set (y+i) aN[x+i]=swp aN (x+i) (y+i):=by
  unfold swp
  grind
 rw[axr];refine .aLS ?_;exact⟨(i+1,_),rfl,rfl,⟨ea,DG.trans hp,rfl⟩,by grind⟩;exact .done ⟨rfl,aN,hp,rfl⟩
theorem awL(hm:m<=1000000)(os:List Nat)(hX:os.length=m)(x y n:Int)(pZ:0<=x)(mr:x<y)(aBv:y<n)(aC:n<=m):Fn aH 196 #[.slice (some ⟨b,0,none⟩) m cap,R x,R y,R n,jm q] (c5 ai b cB os) λv U=>Ec ai b cB os v U:=by
 refine b5 arQ rfl ?_;refine .aLS ?_;refine .aLS ?_;refine .mk (Int×Int×List Nat) [0,2,4,10,11] (λ(i,o,_)=>[.v (.slice (some ⟨b,0,none⟩) m cap),.v (R y),.v (jm q),.v (R i),.v (R o)]) (λ_=>[]) (λ(i,o,aN) U=>1<=i/\1<=o/\i<=y/\y+o<=m/\aN.Perm os/\U=c5 ai b cB aN) (λ(i,o,_)=>(i+o).toNat) (y-x,n-y,os) (λ(_,_,_)=>rfl) ⟨by omega,by omega,by omega,by omega,.refl _,rfl⟩ rfl rfl ?_;rintro⟨i,o,aN⟩ e U ⟨ag,ae,ann,Ls,hp,rfl⟩;have mT:aN.length=m:=by rw[hp.length_eq,hX]
 refine aW (λu=>?_) (λu=>?_);refine aW (λhI=>?_) (λhI=>?_);refine .aLS ?_;refine .done (.mk _ (TD hm aN mT (y-i) y o (by omega) (by omega) (by omega) (by omega) (by omega)) ?_);rintro _ _ ⟨rfl,JI,ww,rfl⟩;refine .aLS ?_;exact⟨(i-o,o,JI),rfl,rfl,⟨by omega,ae,by omega,Ls,ww.trans hp,rfl⟩,by grind⟩;refine .aLS ?_;refine .aLS ?_;refine .aLS ?_;refine .done (.mk _ (TD hm aN mT (y-i) (y+o-i) i (by omega) (by omega) (by omega) (by omega) (by omega)) ?_);rintro _ _ ⟨rfl,JI,ww,rfl⟩;refine .aLS ?_;exact⟨(i,o-i,JI),rfl,rfl,⟨ag,by omega,ann,by omega,ww.trans hp,rfl⟩,by grind⟩;refine .aLS ?_;refine .done (.mk _ (TD hm aN mT (y-i) y i (by omega) (by omega) (by omega) (by omega) (by omega)) ?_);rintro _ _ ⟨rfl,JI,ww,rfl⟩;exact .done ⟨rfl,JI,ww.trans hp,rfl⟩
theorem aaj(hm:m<=1000000)(bm:∀aN,q8 (c5 ai b cB aN) q X F k c m d dm)(os:List Nat)(hX:os.length=m)(ad:∀x∈os,x<m)(x y:Int)(pZ:0<=x)(mr:x<=y)(aQ:y<=m):Fn aH 167 #[.slice (some ⟨b,0,none⟩) m cap,R x,R y,jm q] (c5 ai b cB os) λv U=>Ec ai b cB os v U:=by
 refine b5 aaZ rfl ?_;refine .aLS ?_;refine .mk (Int×List Nat) [0,1,2,3,8] (λ(i,_)=>[.v (.slice (some ⟨b,0,none⟩) m cap),.v (R x),.v (R y),.v (jm q),.v (R i)]) (λ_=>[]) (λ(i,aN) U=>x+1<=i/\i<=m+1/\aN.Perm os/\U=c5 ai b cB aN) (λ(i,_)=>(y-i).toNat) (x+1,os) (λ(_,_)=>rfl) ⟨by omega,by omega,.refl _,rfl⟩ rfl rfl ?_;rintro⟨i,aN⟩ e U ⟨ag,E5,hp,rfl⟩;refine aW (λu=>?_) (λu=>?_);refine .mk (Int×List Nat) [0,1,2,3,8,9] (λ(o,_)=>[.v (.slice (some ⟨b,0,none⟩) m cap),.v (R x),.v (R y),.v (jm q),.v (R i),.v (R o)]) (λ_=>[]) (λ(o,aG) U=>x<=o/\o<=i/\aG.Perm os/\U=c5 ai b cB aG) (λ(o,_)=>(o-x).toNat) (i,aN) (λ(_,_)=>rfl) ⟨by omega,by omega,hp,rfl⟩ rfl rfl ?_;rintro⟨o,aG⟩ aI ab ⟨ae,jY,nG,rfl⟩;have xD:aG.length=m:=by rw[nG.length_eq,hX]
 have Z8:∀x∈aG,x<m:=λx hB=>ad x (nG.mem_iff.1 hB);refine aW (λw=>?_) (λw=>?_);obtain⟨tR,rfl⟩:=GC (show 0<=o by omega);refine .r ?_;refine .hp _ (qT (o:=tR) (by omega) (by omega)) ?_;refine .aLS ?_;refine .r ?_;refine .hp _ (qT (o:=tR-1) (by omega) (by omega)) ?_;refine .mk _ (I9 (bm aG) hm (Z8 _ (cS _)) (Z8 _ (cS _))) ?_ ?_;rintro _ _ ⟨rfl,rfl⟩;exact I.le_refl _;rintro _ _ ⟨rfl,rfl⟩;refine aW (λdw=>?_) (λdw=>?_);refine .aLS ?_;refine .aLS ?_;refine .r ?_;refine .hp _ (qT (o:=tR-1) (by omega) (by omega)) ?_;refine .r ?_;refine .hp _ (qT (o:=tR) (by omega) (by omega)) ?_;refine .r ?_;refine Bo (o:=tR) (v:=aG[tR-1]) (by omega) (by omega) ?_;refine .r ?_;refine Bo (o:=tR-1) (v:=aG[tR]) (by omega) (by grind) ?_;have DG:=Na (os:=aG) (i:=tR) (o:=tR-1) (by omega) (by omega);rw[TE (by omega) (by omega)];refine .aLS ?_;exact⟨((tR:Int)-1,_),rfl,rfl,⟨by omega,by omega,DG.trans nG,rfl⟩,by grind⟩;refine .aLS ?_;exact⟨(i+1,aG),rfl,rfl,⟨by omega,by omega,nG,rfl⟩,by grind⟩;refine .aLS ?_;exact⟨(i+1,aG),rfl,rfl,⟨by omega,by omega,nG,rfl⟩,by grind⟩;exact .done ⟨rfl,aN,hp,rfl⟩
theorem KM(z:Int):2*z.fdiv 2<=z/\z<=2*z.fdiv 2+1:=by
 grind
noncomputable def Tt:IR:=.seq (.ch apC) (.cond (.t 213) (.ch apD) .skip)
noncomputable def M1:IR:=.seq (.seq (.ch apA) (.cond (.t 199) (.ch apB) .skip)) Tt
noncomputable def aer:IR:=.seq (.seq (.ch aay) (.cond (.t 185) (.ch aaz) .skip)) M1
noncomputable def Ts:IR:=.seq (.ch aax) aer
noncomputable def Jm:IR:=.seq (.ch apz) (.seq (.block 8 (.loop apl)) Ts)
def Ed(ai:I)(b:Nat)(cB:List ao)(q m cap:Nat)(N:Nat):Prop:=∀(os:List Nat),os.length=m->(∀x∈os,x<m)->∀x y z:Int,(z-x).toNat<N->0<=x->x<y->y<z->z<=m->Fn aH 168 #[.slice (some ⟨b,0,none⟩) m cap,R x,R y,R z,jm q] (c5 ai b cB os) λv U=>Ec ai b cB os v U
theorem TG(Q:dL)(e:bY)(gf:Ed ai b cB q m cap N)(os:List Nat)(hX:os.length=m)(ad:∀x∈os,x<m)(cj iG jJ:Int)(sw:0<=iG)(db:(cj-iG).toNat<N)(af:cj<=m)(he:[0,3,4,18,24].map e=[.v (.slice (some ⟨b,0,none⟩) m cap),.v (R cj),.v (jm q),.v (R iG),.v (R jJ)])(cD:∀e aN,yo aN os->Q .normal e [] (c5 ai b cB aN)):c7 aH 220 Tt Q e [] (c5 ai b cB os):=by
 have ec:=fr [0,3,4,18,24] e;rw[he]at ec;rw[<-ec];refine aW (λu=>?_) (λu=>?_);refine aW (λhI=>?_) (λhI=>?_);refine .done (.mk _ (gf os hX ad iG jJ cj db sw u hI af) ?_);rintro _ _ ⟨rfl,aN,hp,rfl⟩;exact cD _ aN hp;exact cD _ os (.refl _);exact cD _ os (.refl _)
theorem ayl(Q:dL)(e:bY)(gf:Ed ai b cB q m cap N)(os:List Nat)(hX:os.length=m)(ad:∀x∈os,x<m)(a cj iG s jJ:Int)(a6:0<=a)(sw:0<=iG)(db:(cj-iG).toNat<N)(uW:(iG-a).toNat<N)(xx:iG<=m)(af:cj<=m)(he:[0,1,3,4,18,20,24].map e=[.v (.slice (some ⟨b,0,none⟩) m cap),.v (R a),.v (R cj),.v (jm q),.v (R iG),.v (R s),.v (R jJ)])(cD:∀e aN,yo aN os->Q .normal e [] (c5 ai b cB aN)):c7 aH 220 M1 Q e [] (c5 ai b cB os):=by
 have ec:=fr [0,1,3,4,18,20,24] e;rw[he]at ec;rw[<-ec];unfold M1;generalize aw:Tt=eI;refine aW (λu=>?_) (λu=>?_);refine aW (λhI=>?_) (λhI=>?_);refine .done (.mk _ (gf os hX ad a s iG uW a6 u hI xx) ?_);rintro _ _ ⟨rfl,aN,hp,rfl⟩;show c7 aH 220 eI Q _ [] _;subst aw;exact TG Q _ gf aN (by rw[hp.length_eq,hX]) (λx hB=>ad x (hp.mem_iff.1 hB)) cj iG jJ sw db af rfl λe aG aY=>cD e aG (aY.trans hp);show c7 aH 220 eI Q _ [] _;subst aw;exact TG Q _ gf os hX ad cj iG jJ sw db af rfl cD;show c7 aH 220 eI Q _ [] _;subst aw;exact TG Q _ gf os hX ad cj iG jJ sw db af rfl cD
theorem ayi(Q:dL)(e:bY)(hm:m<=1000000)(os:List Nat)(hX:os.length=m)(a kv cj iG s jJ:Int)(aj:0<=s)(Ia:jJ<=m)(he:[0,1,2,3,4,18,20,24].map e=[.v (.slice (some ⟨b,0,none⟩) m cap),.v (R a),.v (R kv),.v (R cj),.v (jm q),.v (R iG),.v (R s),.v (R jJ)])(cD:∀e aN,[0,1,3,4,18,20,24].map e=[.v (.slice (some ⟨b,0,none⟩) m cap),.v (R a),.v (R cj),.v (jm q),.v (R iG),.v (R s),.v (R jJ)]->yo aN os->Q .normal e [] (c5 ai b cB aN)):c7 aH 220 (.seq (.ch aay) (.cond (.t 185) (.ch aaz) .skip)) Q e [] (c5 ai b cB os):=by
 have ec:=fr [0,1,2,3,4,18,20,24] e;rw[he]at ec;rw[<-ec];refine aW (λu=>?_) (λu=>?_);refine aW (λhI=>?_) (λhI=>?_);refine .done (.mk _ (awL hm os hX s kv jJ aj u hI Ia) ?_);rintro _ _ ⟨rfl,aN,hp,rfl⟩;exact cD _ aN rfl hp;exact cD _ os rfl (.refl _);exact cD _ os rfl (.refl _)
theorem ayh(Q:dL)(e:bY)(os:List Nat)(a kv cj iG n s:Int)(aj:0<=s)(QL:0<=n)(aC:n<=4000000)(iK:s<=4000000)(he:[0,1,2,3,4,18,19,20].map e=[.v (.slice (some ⟨b,0,none⟩) m cap),.v (R a),.v (R kv),.v (R cj),.v (jm q),.v (R iG),.v (R n),.v (R s)])(cD:∀e,[0,1,2,3,4,18,20,24].map e=[.v (.slice (some ⟨b,0,none⟩) m cap),.v (R a),.v (R kv),.v (R cj),.v (jm q),.v (R iG),.v (R s),.v (R (n-s))]->Q .normal e [] (c5 ai b cB os)):c7 aH 220 (.ch aax) Q e [] (c5 ai b cB os):=by
 have ec:=fr [0,1,2,3,4,18,19,20] e;rw[he]at ec;rw[<-ec];refine .aLS ?_;exact cD _ rfl
theorem ayk(Q:dL)(e:bY)(hm:m<=1000000)(gf:Ed ai b cB q m cap N)(os:List Nat)(hX:os.length=m)(ad:∀x∈os,x<m)(a kv cj iG n s:Int)(a6:0<=a)(sw:0<=iG)(db:(cj-iG).toNat<N)(uW:(iG-a).toNat<N)(xx:iG<=m)(af:cj<=m)(aj:0<=s)(Ia:n-s<=m)(QL:0<=n)(aC:n<=4000000)(iK:s<=4000000)(he:[0,1,2,3,4,18,19,20].map e=[.v (.slice (some ⟨b,0,none⟩) m cap),.v (R a),.v (R kv),.v (R cj),.v (jm q),.v (R iG),.v (R n),.v (R s)])(cD:∀e aN,yo aN os->Q .normal e [] (c5 ai b cB aN)):c7 aH 220 Ts Q e [] (c5 ai b cB os):=by
 refine ayh (λex e L h=>match ex with|.normal=>c7 aH 220 aer Q e L h|ex=>Q ex e L h) e os a kv cj iG n s aj QL aC iK he λaJ pn=>?_;refine ayi (λex e L h=>match ex with|.normal=>c7 aH 220 M1 Q e L h|ex=>Q ex e L h) aJ hm os hX a kv cj iG s (n-s) aj Ia pn λaI aN gD hp=>?_;exact ayl Q aI gf aN (by rw[hp.length_eq,hX]) (λx hB=>ad x (hp.mem_iff.1 hB)) a cj iG s (n-s) a6 sw db uW xx af gD λe aG aY=>cD e aG (aY.trans hp)
theorem ayj(Q:dL)(e:bY)(hm:m<=1000000)(bm:∀aN,q8 (c5 ai b cB aN) q X F k c m d dm)(gf:Ed ai b cB q m cap N)(os:List Nat)(hX:os.length=m)(ad:∀x∈os,x<m)(a kv cj iG n S ax:Int)(a6:0<=a)(sw:0<=iG)(db:(cj-iG).toNat<N)(uW:(iG-a).toNat<N)(xx:iG<=m)(af:cj<=m)(YH:0<=S)(Qg:S<=ax)(cG:ax<=m)(YJ:n-S<=m)(YG:ax<=n)(aC:n<=2*m)(he:[0,1,2,3,4,18,19,20,21].map e=[.v (.slice (some ⟨b,0,none⟩) m cap),.v (R a),.v (R kv),.v (R cj),.v (jm q),.v (R iG),.v (R n),.v (R S),.v (R ax)])(cD:∀e aN,yo aN os->Q .normal e [] (c5 ai b cB aN)):c7 aH 220 Jm Q e [] (c5 ai b cB os):=by
 have ec:=fr [0,1,2,3,4,18,19,20,21] e;rw[he]at ec;rw[<-ec];unfold Jm;generalize aw:Ts=eI;refine .aLS ?_;refine .mk (Int×Int) [0,1,2,3,4,18,19,20,21,22] (λ(s,r)=>[.v (.slice (some ⟨b,0,none⟩) m cap),.v (R a),.v (R kv),.v (R cj),.v (jm q),.v (R iG),.v (R n),.v (R s),.v (R r),.v (R (n-1))]) (λ_=>[]) (λ(s,r) U=>S<=s/\s<=r/\r<=ax/\U=c5 ai b cB os) (λ(s,r)=>(r-s).toNat) (S,ax) (λ(_,_)=>rfl) ⟨by omega,Qg,by omega,rfl⟩ rfl rfl ?_;rintro⟨s,r⟩ aI ab ⟨aj,LG,am,rfl⟩;refine aW (λu=>?_) (λu=>?_);have aB:=KM (s+r);refine .aLS ?_;refine .mk (by omega) (by omega) ?_;refine .mk (by omega) (by omega) ?_;generalize(s+r).fdiv 2=z at aB⊢;refine .aLS ?_;refine .r ?_;refine .hp _ (qT (o:=(n-1-z).toNat) (by omega) (by omega)) ?_;refine .r ?_;refine .hp _ (qT (o:=z.toNat) (by omega) (by omega)) ?_;refine .mk _ (I9 (bm os) hm (ad _ (cS _)) (ad _ (cS _))) ?_ ?_;rintro _ _ ⟨rfl,rfl⟩;exact I.le_refl _;rintro _ _ ⟨rfl,rfl⟩;refine uK (λ_=>?_) (λ_=>?_);refine .aLS ?_;exact⟨(z+1,r),rfl,rfl,⟨by omega,by omega,am,rfl⟩,by grind⟩;exact⟨(s,z),rfl,rfl,⟨aj,by omega,by omega,rfl⟩,by grind⟩;show c7 aH 220 eI Q _ [] _;subst aw;exact ayk Q _ hm gf os hX ad a kv cj iG n s a6 sw db uW xx af (by omega) (by omega) (by omega) (by omega) (by omega) rfl cD
noncomputable def Bi:IR:=.seq (.ch apm) (.cond (.t 28) (.seq (.ch apr) (.seq (.ch apv) (.seq (.block 0 (.loop aph)) (.seq (.seq (.ch apE) (.block 2 (.loop api))) .ret)))) .skip)
noncomputable def aeq:IR:=.seq (.ch apn) (.cond (.t 80) (.seq (.ch apo) (.seq (.ch apq) (.seq (.block 4 (.loop apj)) (.seq (.seq (.ch aps) (.block 6 (.loop apk))) .ret)))) .skip)
noncomputable def To:IR:=.seq (.ch apt) (.cond (.t 140) (.seq (.ch apu) (.ch apw)) (.seq (.ch apx) (.ch apy)))
theorem aya(Q:dL)(e:bY)(hm:m<=1000000)(bm:∀aN,q8 (c5 ai b cB aN) q X F k c m d dm)(os:List Nat)(hX:os.length=m)(ad:∀x∈os,x<m)(x y z:Int)(pZ:0<=x)(mr:x<y)(vc:y<z)(aY:z<=m)(he:[0,1,2,3,4].map e=[.v (.slice (some ⟨b,0,none⟩) m cap),.v (R x),.v (R y),.v (R z),.v (jm q)])(cG:∀e aN,yo aN os->Q .ret e [] (c5 ai b cB aN))(db:∀e,[0,1,2,3,4].map e=[.v (.slice (some ⟨b,0,none⟩) m cap),.v (R x),.v (R y),.v (R z),.v (jm q)]->¬y-x=1->Q .normal e [] (c5 ai b cB os)):c7 aH 220 Bi Q e [] (c5 ai b cB os):=by
 have ec:=fr [0,1,2,3,4] e;rw[he]at ec;rw[<-ec];refine .aLS ?_;refine aW (λu=>?_) (λu=>?_);refine .mk (Int×Int) [0,1,4,10,11] (λ(i,o)=>[.v (.slice (some ⟨b,0,none⟩) m cap),.v (R x),.v (jm q),.v (R i),.v (R o)]) (λ_=>[]) (λ(i,o) U=>y<=i/\i<=o/\o<=z/\U=c5 ai b cB os) (λ(i,o)=>(o-i).toNat) (y,z) (λ(_,_)=>rfl) ⟨by omega,by omega,by omega,rfl⟩ rfl rfl ?_;rintro⟨i,o⟩ aI ab ⟨ag,u0,ae,rfl⟩;refine aW (λhI=>?_) (λhI=>?_);have aB:=KM (i+o);refine .aLS ?_;refine .mk (by omega) (by omega) ?_;refine .mk (by omega) (by omega) ?_;generalize(i+o).fdiv 2=t at aB⊢;refine .r ?_;refine .hp _ (qT (o:=t.toNat) (by omega) (by omega)) ?_;refine .r ?_;refine .hp _ (qT (o:=x.toNat) (by omega) (by omega)) ?_;refine .mk _ (I9 (bm os) hm (ad _ (cS _)) (ad _ (cS _))) ?_ ?_;rintro _ _ ⟨rfl,rfl⟩;exact I.le_refl _;rintro _ _ ⟨rfl,rfl⟩;refine uK (λ_=>?_) (λ_=>?_);refine .aLS ?_;exact⟨(t+1,o),rfl,rfl,⟨by omega,by omega,ae,rfl⟩,by grind⟩;exact⟨(i,t),rfl,rfl,⟨ag,by omega,by omega,rfl⟩,by grind⟩;refine .mk (Int×List Nat) [0,10,13] (λ(w,_)=>[.v (.slice (some ⟨b,0,none⟩) m cap),.v (R i),.v (R w)]) (λ_=>[]) (λ(w,aN) U=>x<=w/\w<=m/\aN.Perm os/\U=c5 ai b cB aN) (λ(w,_)=>(i-w).toNat) (x,os) (λ(_,_)=>rfl) ⟨by omega,by omega,.refl _,rfl⟩ rfl rfl ?_;rintro⟨w,aN⟩ ck an ⟨hw,aol,hp,rfl⟩;have mT:aN.length=m:=by rw[hp.length_eq,hX]
 refine .aLS ?_;refine aW (λue=>?_) (λue=>?_);obtain⟨w,rfl⟩:=GC (show 0<=w by omega);refine .aLS ?_;refine .aLS ?_;refine .r ?_;refine .hp _ (qT (o:=w+1) (by omega) (by omega)) ?_;refine .r ?_;refine .hp _ (qT (o:=w) (by omega) (by omega)) ?_;refine .r ?_;refine Bo (o:=w) (v:=aN[w+1]) (by omega) (by omega) ?_;refine .r ?_;refine Bo (o:=w+1) (v:=aN[w]) (by omega) (by grind) ?_;have DG:=Na (os:=aN) (i:=w) (o:=w+1) (by omega) (by omega);rw[TE (by omega) (by omega)];refine .aLS ?_;exact⟨((w:Int)+1,_),rfl,rfl,⟨by omega,by omega,DG.trans hp,rfl⟩,by grind⟩;exact cG _ aN hp;exact db _ rfl u
theorem ayb(Q:dL)(e:bY)(hm:m<=1000000)(bm:∀aN,q8 (c5 ai b cB aN) q X F k c m d dm)(os:List Nat)(hX:os.length=m)(ad:∀x∈os,x<m)(x y z:Int)(pZ:0<=x)(mr:x<y)(vc:y<z)(aY:z<=m)(he:[0,1,2,3,4].map e=[.v (.slice (some ⟨b,0,none⟩) m cap),.v (R x),.v (R y),.v (R z),.v (jm q)])(cG:∀e aN,yo aN os->Q .ret e [] (c5 ai b cB aN))(db:∀e,[0,1,2,3,4].map e=[.v (.slice (some ⟨b,0,none⟩) m cap),.v (R x),.v (R y),.v (R z),.v (jm q)]->¬z-y=1->Q .normal e [] (c5 ai b cB os)):c7 aH 220 aeq Q e [] (c5 ai b cB os):=by
 have ec:=fr [0,1,2,3,4] e;rw[he]at ec;rw[<-ec];refine .aLS ?_;refine aW (λu=>?_) (λu=>?_);refine .mk (Int×Int) [0,2,4,14,15] (λ(i,o)=>[.v (.slice (some ⟨b,0,none⟩) m cap),.v (R y),.v (jm q),.v (R i),.v (R o)]) (λ_=>[]) (λ(i,o) U=>x<=i/\i<=o/\o<=y/\U=c5 ai b cB os) (λ(i,o)=>(o-i).toNat) (x,y) (λ(_,_)=>rfl) ⟨by omega,by omega,by omega,rfl⟩ rfl rfl ?_;rintro⟨i,o⟩ aI ab ⟨ag,u0,ae,rfl⟩;refine aW (λhI=>?_) (λhI=>?_);have aB:=KM (i+o);refine .aLS ?_;refine .mk (by omega) (by omega) ?_;refine .mk (by omega) (by omega) ?_;generalize(i+o).fdiv 2=t at aB⊢;refine .r ?_;refine .hp _ (qT (o:=y.toNat) (by omega) (by omega)) ?_;refine .r ?_;refine .hp _ (qT (o:=t.toNat) (by omega) (by omega)) ?_;refine .mk _ (I9 (bm os) hm (ad _ (cS _)) (ad _ (cS _))) ?_ ?_;rintro _ _ ⟨rfl,rfl⟩;exact I.le_refl _;rintro _ _ ⟨rfl,rfl⟩;refine uK (λ_=>?_) (λ_=>?_);refine .aLS ?_;exact⟨(t+1,o),rfl,rfl,⟨by omega,by omega,ae,rfl⟩,by grind⟩;exact⟨(i,t),rfl,rfl,⟨ag,by omega,by omega,rfl⟩,by grind⟩;refine .mk (Int×List Nat) [0,14,17] (λ(w,_)=>[.v (.slice (some ⟨b,0,none⟩) m cap),.v (R i),.v (R w)]) (λ_=>[]) (λ(w,aN) U=>i<=w/\w<=y/\aN.Perm os/\U=c5 ai b cB aN) (λ(w,_)=>(w-i).toNat) (y,os) (λ(_,_)=>rfl) ⟨by omega,by omega,.refl _,rfl⟩ rfl rfl ?_;rintro⟨w,aN⟩ ck an ⟨hw,aol,hp,rfl⟩;have mT:aN.length=m:=by rw[hp.length_eq,hX]
 refine aW (λue=>?_) (λue=>?_);obtain⟨w,rfl⟩:=GC (show 0<=w by omega);refine .aLS ?_;refine .aLS ?_;refine .r ?_;refine .hp _ (qT (o:=w-1) (by omega) (by omega)) ?_;refine .r ?_;refine .hp _ (qT (o:=w) (by omega) (by omega)) ?_;refine .r ?_;refine Bo (o:=w) (v:=aN[w-1]) (by omega) (by omega) ?_;refine .r ?_;refine Bo (o:=w-1) (v:=aN[w]) (by omega) (by grind) ?_;have DG:=Na (os:=aN) (i:=w) (o:=w-1) (by omega) (by omega);rw[TE (by omega) (by omega)];refine .aLS ?_;exact⟨((w:Int)-1,_),rfl,rfl,⟨by omega,by omega,DG.trans hp,rfl⟩,by grind⟩;exact cG _ aN hp;exact db _ rfl u
theorem ayd(Q:dL)(e:bY)(hm:m<=1000000)(os:List Nat)(x y z:Int)(pZ:0<=x)(mr:x<y)(vc:y<z)(aY:z<=m)(he:[0,1,2,3,4].map e=[.v (.slice (some ⟨b,0,none⟩) m cap),.v (R x),.v (R y),.v (R z),.v (jm q)])(cD:∀e t,2*t<=x+z->x+z<=2*t+1->[0,1,2,3,4,18].map e=[.v (.slice (some ⟨b,0,none⟩) m cap),.v (R x),.v (R y),.v (R z),.v (jm q),.v (R t)]->Q .normal e [] (c5 ai b cB os)):c7 aH 220 (.ch aau) Q e [] (c5 ai b cB os):=by
 have ec:=fr [0,1,2,3,4] e;rw[he]at ec;rw[<-ec];have aB:=KM (x+z);refine .aLS ?_;refine .mk (by omega) (by omega) ?_;refine .mk (by omega) (by omega) ?_;exact cD _ _ aB.1 aB.2 rfl
theorem aye(Q:dL)(e:bY)(hm:m<=1000000)(os:List Nat)(x y z:Int)(pZ:0<=x)(mr:x<y)(vc:y<z)(aY:z<=m)(t:Int)(av:0<=t)(Fd:t<=m)(he:[0,1,2,3,4,18].map e=[.v (.slice (some ⟨b,0,none⟩) m cap),.v (R x),.v (R y),.v (R z),.v (jm q),.v (R t)])(cD:∀e,[0,1,2,3,4,18,19].map e=[.v (.slice (some ⟨b,0,none⟩) m cap),.v (R x),.v (R y),.v (R z),.v (jm q),.v (R t),.v (R (t+y))]->Q .normal e [] (c5 ai b cB os)):c7 aH 220 (.ch aav) Q e [] (c5 ai b cB os):=by
 have ec:=fr [0,1,2,3,4,18] e;rw[he]at ec;rw[<-ec];refine .aLS ?_;exact cD _ rfl
theorem ayf(Q:dL)(e:bY)(h:I)(au:List aA)(he:[0,1,2,3,4,18,19].map e=au)(cD:∀e,[0,1,2,3,4,18,19].map e=au->Q .normal e [] h):c7 aH 220 (.ch aaw) Q e [] h:=by
 subst he;exact cD _ rfl
theorem ayg(Q:dL)(e:bY)(hm:m<=1000000)(os:List Nat)(x y z:Int)(pZ:0<=x)(mr:x<y)(vc:y<z)(aY:z<=m)(t:Int)(av:0<=t)(Fd:t<=m)(HN:2*t<=x+z)(uY:x+z<=2*t+1)(he:[0,1,2,3,4,18,19].map e=[.v (.slice (some ⟨b,0,none⟩) m cap),.v (R x),.v (R y),.v (R z),.v (jm q),.v (R t),.v (R (t+y))])(cD:∀(e:bY)(S ax:Int),0<=S->S<=ax->ax<=m->t+y-S<=m->ax<=t+y->[0,1,2,3,4,18,19,20,21].map e=[.v (.slice (some ⟨b,0,none⟩) m cap),.v (R x),.v (R y),.v (R z),.v (jm q),.v (R t),.v (R (t+y)),.v (R S),.v (R ax)]->Q .normal e [] (c5 ai b cB os)):c7 aH 220 To Q e [] (c5 ai b cB os):=by
 have ec:=fr [0,1,2,3,4,18,19] e;rw[he]at ec;rw[<-ec];refine aW (λu=>?_) (λu=>?_);refine .aLS ?_;exact cD _ (t+y-z) t (by omega) (by omega) (by omega) (by omega) (by omega) rfl;exact cD _ x y (by omega) (by omega) (by omega) (by omega) (by omega) rfl
noncomputable def aep:IR:=.seq (.ch aaw) (.seq To Jm)
noncomputable def aeo:IR:=.seq (.ch aav) aep
noncomputable def Tn:IR:=.seq (.ch aau) aeo
theorem ayc(Q:dL)(e:bY)(hm:m<=1000000)(bm:∀aN,q8 (c5 ai b cB aN) q X F k c m d dm)(gf:Ed ai b cB q m cap N)(os:List Nat)(hX:os.length=m)(ad:∀x∈os,x<m)(x y z:Int)(pZ:0<=x)(mr:x<y)(vc:y<z)(aY:z<=m)(db:(z-x).toNat<N+1)(u:¬y-x=1)(hI:¬z-y=1)(he:[0,1,2,3,4].map e=[.v (.slice (some ⟨b,0,none⟩) m cap),.v (R x),.v (R y),.v (R z),.v (jm q)])(cD:∀e aN,yo aN os->Q .normal e [] (c5 ai b cB aN)):c7 aH 220 Tn Q e [] (c5 ai b cB os):=by
 refine ayd (λex e L h=>match ex with|.normal=>c7 aH 220 aeo Q e L h|ex=>Q ex e L h) e hm os x y z pZ mr vc aY he λaJ t HN uY pn=>?_;refine aye (λex e L h=>match ex with|.normal=>c7 aH 220 aep Q e L h|ex=>Q ex e L h) aJ hm os x y z pZ mr vc aY t (by omega) (by omega) pn λaI gD=>?_;refine ayf (λex e L h=>match ex with|.normal=>c7 aH 220 (.seq To Jm) Q e L h|ex=>Q ex e L h) aI _ _ gD λck sq=>?_;refine ayg (λex e L h=>match ex with|.normal=>c7 aH 220 Jm Q e L h|ex=>Q ex e L h) ck hm os x y z pZ mr vc aY t (by omega) (by omega) HN uY sq λeE S ax YH Qg cG YJ YG CG=>?_;exact ayj Q eE hm bm gf os hX ad x y z t (t+y) S ax pZ (by omega) (by omega) (by omega) (by omega) aY YH Qg cG YJ YG (by omega) CG cD
theorem TF{ai:I}{b:Nat}{cB:List ao}{q m cap:Nat}{X F:Option ar}{k c d:Nat}{dm:List Int}(hm:m<=1000000)(bm:∀aN,q8 (c5 ai b cB aN) q X F k c m d dm):∀N,Ed ai b cB q m cap N
 |0=>λ_ _ _ x y z db=>absurd db (BO _)
 |N+1=>by
  intro os hX ad x y z db pZ mr vc aY;have bE:=TF (cap:=cap) hm bm N;refine b5 j0 rfl ?_;generalize cD:s9 aH j0.fn.results.toList _=Q;have al':∀e aN,yo aN os->Q .normal e [] (c5 ai b cB aN):=λe aN hp=>by
   subst cD;exact .done ⟨rfl,aN,hp,rfl⟩
  have YE:∀e aN,yo aN os->Q .ret e [] (c5 ai b cB aN):=λe aN hp=>by
   subst cD;exact .done ⟨rfl,aN,hp,rfl⟩
  clear cD;refine aya (λex e L h=>match ex with|.normal=>c7 aH 220 (.seq aeq Tn) Q e L h|ex=>Q ex e L h) _ hm bm os hX ad x y z pZ mr vc aY rfl YE λaJ pn u=>?_;refine ayb (λex e L h=>match ex with|.normal=>c7 aH 220 Tn Q e L h|ex=>Q ex e L h) aJ hm bm os hX ad x y z pZ mr vc aY pn YE λaI gD hI=>?_;exact ayc Q aI hm bm bE os hX ad x y z pZ mr vc aY db u hI gD al'
theorem axY(hm:m<=1000000)(bm:∀aN,q8 (c5 ai b cB aN) q X F k c m d dm)(os:List Nat)(hX:os.length=m)(ad:∀x∈os,x<m):Fn aH 122 #[.slice (some ⟨b,0,none⟩) m cap,R m,jm q] (c5 ai b cB os) λv U=>Ec ai b cB os v U:=by
 refine b5 Rq rfl ?_;generalize aw:IR.block 2 (.loop ao9)=c2;refine .mk (Int×Int×List Nat) [0,1,2,6,7,8] (λ(i,o,_)=>[.v (.slice (some ⟨b,0,none⟩) m cap),.v (R m),.v (jm q),.v (R 20),.v (R i),.v (R o)]) (λ_=>[]) (λ(i,o,aN) U=>0<=i/\i<=m/\o=i+20/\aN.Perm os/\U=c5 ai b cB aN) (λ(i,_,_)=>((m:Int)-i).toNat) (0,20,os) (λ(_,_,_)=>rfl) ⟨by omega,by omega,by omega,.refl _,rfl⟩ rfl rfl ?_;rintro⟨i,o,aN⟩ e U ⟨ag,E5,rfl,hp,rfl⟩;have mT:aN.length=m:=by rw[hp.length_eq,hX]
 have mr:∀x∈aN,x<m:=λx hB=>ad x (hp.mem_iff.1 hB);refine aW (λu=>?_) (λu=>?_);refine .done (.mk _ (aaj hm bm aN mT mr i (i+20) ag (by omega) u) ?_);rintro _ _ ⟨rfl,aG,nG,rfl⟩;refine .aLS ?_;exact⟨(i+20,i+20+20,aG),rfl,rfl,⟨by omega,by omega,rfl,nG.trans hp,rfl⟩,by grind⟩;refine .done (.mk _ (aaj hm bm aN mT mr i m ag E5 (by omega)) ?_);rintro _ _ ⟨rfl,aG,nG,rfl⟩;subst aw;refine .mk (Int×List Nat) [0,1,2,6] (λ(s,_)=>[.v (.slice (some ⟨b,0,none⟩) m cap),.v (R m),.v (jm q),.v (R s)]) (λ_=>[]) (λ(s,ws) U=>20<=s/\s<=2000020/\ws.Perm os/\U=c5 ai b cB ws) (λ(s,_)=>((m:Int)-s).toNat) (20,aG) (λ(_,_)=>rfl) ⟨by omega,by omega,nG.trans hp,rfl⟩ rfl rfl ?_;rintro⟨s,ws⟩ aI ab ⟨aj,iK,QS,rfl⟩;refine aW (λw=>?_) (λw=>?_);have AU:ws.length=m:=by rw[QS.length_eq,hX]
 refine .aLS ?_;refine .mk (Int×Int×List Nat) [0,1,2,6,7,8] (λ(i,o,_)=>[.v (.slice (some ⟨b,0,none⟩) m cap),.v (R m),.v (jm q),.v (R s),.v (R i),.v (R o)]) (λ_=>[]) (λ(i,o,aN) U=>0<=i/\i<=m/\o=i+2*s/\aN.Perm os/\U=c5 ai b cB aN) (λ(i,_,_)=>((m:Int)-i).toNat) (0,2*s,ws) (λ(_,_,_)=>rfl) ⟨by omega,by omega,by omega,QS,rfl⟩ rfl rfl ?_;rintro⟨i,o,au⟩ ck an ⟨ag,E5,rfl,Fa,rfl⟩;have Ff:au.length=m:=by rw[Fa.length_eq,hX]
 have Z7:∀x∈au,x<m:=λx hB=>ad x (Fa.mem_iff.1 hB);refine aW (λhI=>?_) (λhI=>?_);refine .aLS ?_;refine .done (.mk _ (TF hm bm (i+2*s-i+1).toNat au Ff Z7 i (i+s) (i+2*s) (by omega) ag (by omega) (by omega) hI) ?_);rintro _ _ ⟨rfl,Ub,AN,rfl⟩;refine .aLS ?_;refine .aLS ?_;exact⟨(i+2*s,i+2*s+2*s,Ub),rfl,rfl,⟨by omega,by omega,rfl,AN.trans Fa,rfl⟩,by grind⟩;refine .aLS ?_;refine aW (λue=>?_) (λue=>?_);refine .done (.mk _ (TF hm bm ((m:Int)-i+1).toNat au Ff Z7 i (i+s) m (by omega) ag (by omega) ue (by omega)) ?_);rintro _ _ ⟨rfl,Ub,AN,rfl⟩;refine .aLS ?_;exact⟨(s*2,Ub),rfl,rfl,⟨by omega,by omega,AN.trans Fa,rfl⟩,by grind⟩;refine .aLS ?_;exact⟨(s*2,au),rfl,rfl,⟨by omega,by omega,Fa,rfl⟩,by grind⟩;exact .done ⟨rfl,ws,QS,rfl⟩
theorem axX(hm:m<=1000000)(bm:∀aN,q8 (c5 ai b cB aN) q X F k c m d dm)(os:List Nat)(hX:os.length=m)(ad:∀x∈os,x<m):Fn aH 58 #[.slice (some ⟨b,0,none⟩) m cap,jm q] (c5 ai b cB os) λv U=>Ec ai b cB os v U:=by
 refine b5 aa1 rfl ?_;refine .done (.mk _ (axY hm bm os hX ad) ?_);rintro _ _ ⟨rfl,aG,nG,rfl⟩;exact .done ⟨rfl,aG,nG,rfl⟩
theorem adi:∀(l:List cL)(a:Nat)(x:cL),a<l.length->over (l.map cH).flatten (a*2) (cH x)=some ((l.set a x).map cH).flatten
 |[],a,x,h=>by simp at h
 |y::l,0,x,_=>by
  show over (R y.1::R y.2::(l.map cH).flatten) 0 [R x.1,R x.2]=some (R x.1::R x.2::(l.map cH).flatten);simp[over]
 |y::l,a+1,x,h=>by
  have bE:=adi l a x (by grind);have e:(a+1)*2=a*2+1+1:=by omega
  rw[e];show over (R y.1::R y.2::(l.map cH).flatten) (a*2+1+1) (cH x)=some (R y.1::R y.2::((l.set a x).map cH).flatten);simp[over,bE]
theorem avy{l:List cL}{a:Nat}(h:a<l.length):∀k v,(cH l[a])[k]?=some v->((l.map cH).flatten)[a*2+k]?=some v:=by
 intro k v ah;have hk:k<2:=(qt.1 ah).1;have h1:=MH l (a*2+k) (by omega);rw[h1,show(a*2+k)/2=a by omega,show(a*2+k)%2=k by omega];rw[getElem!_pos l.toArray a (by omega)];match k,hk,ah with
 |0,_,ah=>exact ah
 |1,_,ah=>exact ah
abbrev vJ(q m:Nat)(eJ jB:ar)(bC:List cL)(dA:List Bool):List LE:=[.own [.v (.slice none 0 0),.v (R 0)] 37,.bV q,.row 142 2 (some eJ) m m (bC.map cH).flatten,.row 4 1 (some jB) m m (dA.map qB)]
theorem avH{eJ jB:ar}(am:bC.length=m)(hp:dA.length=m){B:Option ar}{dP:Nat}{hM:List Int}(av:bg H 1 B hM.length (hM.map λz=>[R z]))(aC:hM.length<=1000000)(aY:∀z∈hM,0<=z/\z<m)(O:Option ar)(lN oV k a:Nat)(Q:dL)(e:bY)(X:List LE)(he:[4,6,10,11,13,14,53,54,55,61,62,63].map e=[.p 0 0,.p 1 0,.v (.slice (some eJ) m m),.v (.slice (some jB) m m),.v (R a),.v (.slice none 0 0),.v (.slice O oV lN),.v (R oV),.v (R k),.v (.slice B hM.length dP),.v (R hM.length),.v (R 0)])
 (cD:∀bl U E cM,H.le U->(∀g,E=some g->H g.block=none)->[4,6,10,11,13,14,53,54,55].map bl=[.p 0 0,.p 1 0,.v (.slice (some eJ) m m),.v (.slice (some jB) m m),.v (R a),.v (.slice E (k5 hM bC dA).length cM),.v (.slice O oV lN),.v (R oV),.v (R k)]->
  Q .normal bl (vJ q m eJ jB bC dA++[.row 142 2 E (k5 hM bC dA).length cM ((k5 hM bC dA).map cH).flatten]) U):
 c7 aH 119 (.block 4 (.loop LT)) Q e (vJ q m eJ jB bC dA++X) H:=by
 have ec:=fr [4,6,10,11,13,14,53,54,55,61,62,63] e
 rw[he]at ec
 rw[<-ec]
 refine .kU [0,1,2,3] (Nat×Option ar×Nat) [4,6,10,11,13,14,53,54,55,61,62,63] (λ(o,E,cM)=>[.p 0 0,.p 1 0,.v (.slice (some eJ) m m),.v (.slice (some jB) m m),.v (R a),.v (.slice E (k5 (hM.take o) bC dA).length cM),.v (.slice O oV lN),.v (R oV),.v (R k),.v (.slice B hM.length dP),.v (R hM.length),.v (R o)]) (λ_=>vJ q m eJ jB bC dA) (λ(o,E,cM) U=>H.le U/\o<=hM.length/\bz U 142 2 E (k5 (hM.take o) bC dA).length cM ((k5 (hM.take o) bC dA).map cH).flatten/\∀g,E=some g->H g.block=none) (λ(o,_,_)=>hM.length-o) (0,none,0) (λ(_,_,_)=>rfl) ⟨I.le_refl _,cO _,⟨rfl,.inl ⟨rfl,rfl,rfl⟩⟩,λ_ e=>by cases e⟩ rfl rfl rfl ?_
 rintro⟨o,E,cM⟩ e U ⟨cu,ae,row,qG⟩
 have eC:=xh cu qG
 have eb:(k5 (hM.take o) bC dA).length<=o:=by
  unfold k5
  grind
 refine .abs 142 2 E _ cM _ row (.done ?_)
 refine aW (λu=>?_) (λu=>?_)
 have en:o<hM.length:=by omega
 obtain⟨g,ak⟩:=av.cc (by omega)
 obtain⟨z,tQ⟩:∃z,z=hM[o]:=⟨_,rfl⟩
 have oM:(hM.map λz=>[R z])[o]?=some [R z]:=by grind
 obtain⟨z0,hJ⟩:=aY z (by grind)
 have aBx:z.toNat<m:=by omega
 have aJ:hM.take (o+1)=hM.take o++[z]:=by simp_all
 have aI:=ai7 (hM.take o) z bC dA
 rw[<-aJ]at aI
 refine .m g ak ?_
 refine .hp (R z) (by rw[bq];exact(av.mono eC).one ak oM rfl) ?_
 refine .mk jB rfl z0 hJ ?_
 refine .row 3 4 1 jB m m _ z.toNat (.bool (dA[z.toNat]'(by omega))) rfl (by simp) (by simp) ?_
 have eK:dA.getD z.toNat false=dA[z.toNat]'(by omega):=by grind
 cases LC:dA[z.toNat]'(by omega)with
 |true=>
  have af:k5 [z] bC dA=[bC[z.toNat]'(by omega)]:=by
   simp only[k5,N4,N5,eK,LC,la]
   grind
  rw[af]at aI;refine .mk eJ rfl z0 hJ ?_;refine .row 2 142 2 eJ m m _ (z.toNat*2) (cH (bC[z.toNat]'(by omega))) rfl rfl rfl (avy (by omega)) ?_;refine .done (.cR 4 _ (cH (bC[z.toNat]'(by omega))) rfl rfl (by intro u hu;simp[cH]at hu;rcases hu with rfl|rfl<;>rfl) (by grind [c']) (by omega) λgC c2 _=>?_);refine .aLS ?_;refine .bV 4 142 2 gC _ c2 _ rfl λaR gm jG f4=>.done ⟨(o+1,gC,c2),?_,rfl,⟨I.le_trans eC gm,en,?_,λg ak=>I.none_le eC (f4 g ak)⟩,by grind⟩;show _=[aA.p 0 0,.p 1 0,.v (.slice (some eJ) m m),.v (.slice (some jB) m m),.v (R a),.v (.slice gC (k5 (hM.take (o+1)) bC dA).length c2),_,_,_,_,_,_];rw[aI,fb];rfl
  grind
 |false=>
  have af:k5 [z] bC dA=[]:=by
   simp only[k5,N4,N5,eK,LC];rfl
  rw[af,zR]at aI;refine .aLS ?_;refine .bV 4 142 2 E _ cM _ rfl λaR gm jG f4=>.done ⟨(o+1,E,cM),?_,rfl,⟨I.le_trans eC gm,en,?_,λg ak=>I.none_le eC (f4 g ak)⟩,by grind⟩;show _=[aA.p 0 0,.p 1 0,.v (.slice (some eJ) m m),.v (.slice (some jB) m m),.v (R a),.v (.slice E (k5 (hM.take (o+1)) bC dA).length cM),_,_,_,_,_,_];rw[aI];rfl
  grind
 have:o=hM.length:=by omega
 subst this
 have ds:hM.take hM.length=hM:=k4 (dd _)
 have ck:k5 (hM.take hM.length) bC dA=k5 hM bC dA:=by rw[ds]
 rw[ds]
 refine cD _ _ E cM eC qG ?_
 rw[<-ck]
 rfl
theorem avI{eJ jB:ar}{E:Option ar}{cM:Nat}(av:bg H 2 E aN.length (aN.map cH))(aC:aN.length<=1000000)(CU:0<=s)(qQ:s<=131328)(aQ:∀y∈aN,0<=y.1/\0<=y.2/\y.1+y.2<=100000000000)(O:Option ar)(lN oV k a:Nat)(Q:dL)(e:bY)(he:[4,6,10,11,13,14,17,53,54,55].map e=[.p 0 0,.p 1 0,.v (.slice (some eJ) m m),.v (.slice (some jB) m m),.v (R a),.v (.slice E aN.length cM),.p 5 0,.v (.slice O oV lN),.v (R oV),.v (R k)])
 (cD:∀bl,[4,6,10,11,13,17,53,54,55].map bl=[.p 0 0,.p 1 0,.v (.slice (some eJ) m m),.v (.slice (some jB) m m),.v (R a),.p 4 0,.v (.slice O oV lN),.v (R oV),.v (R k)]->
  Q .normal bl (vJ q m eJ jB bC dA++[.own [.v (R (kr s aN).1),.v (R (kr s aN).2)] 142]) H):
 c7 aH 119 (.seq (.ch Il) (.block 6 (.loop Ik))) Q e (vJ q m eJ jB bC dA++[.gone,.own [.v (R 0),.v (R s)] 142]) H:=by
 have ec:=fr [4,6,10,11,13,14,17,53,54,55] e
 rw[he]at ec
 rw[<-ec]
 refine .zl [0,1,2,3,5] Nat [4,6,10,11,13,17,53,54,55,87,88,89] (λo=>[.p 0 0,.p 1 0,.v (.slice (some eJ) m m),.v (.slice (some jB) m m),.v (R a),.p 4 0,.v (.slice O oV lN),.v (R oV),.v (R k),.v (.slice E aN.length cM),.v (R aN.length),.v (R o)]) (λo=>vJ q m eJ jB bC dA++[.own [.v (R (kr s (aN.take o)).1),.v (R (kr s (aN.take o)).2)] 142]) (λo U=>U=H/\o<=aN.length) (λo=>aN.length-o) 0 (λ_=>rfl) ⟨rfl,cO _⟩ rfl rfl rfl ?_
 rintro o e U ⟨rfl,ae⟩
 obtain⟨f1,f2,f3⟩:=X9 (s:=s) (B:=100000000000) (aN:=aN.take o) (by decide) λy h=>aQ y (List.mem_of_mem_take h)
 refine aW (λu=>?_) (λu=>?_)
 have en:o<aN.length:=by omega
 obtain⟨g,ak⟩:=av.cc (by omega)
 obtain⟨y,zc⟩:∃y,y=aN[o]:=⟨_,rfl⟩
 have oM:(aN.map cH)[o]?=some (cH y):=by grind
 obtain⟨hl,aDA,wN⟩:=aQ y (by grind)
 have aJ:aN.take (o+1)=aN.take o++[y]:=by simp_all
 have aI:=aln s (aN.take o) y
 rw[<-aJ]at aI
 unfold r0 at aI
 refine .m g ak ?_
 refine .hp (cH y) rfl (by rw[bq];exact av.row ak oM) ?_
 refine .done (.mk _ (axC (kr s (aN.take o)) y U ⟨by omega,by omega,by omega,by omega⟩ ⟨by omega,by omega,by omega,by omega⟩) ?_)
 rintro _ _ ⟨rfl,rfl⟩
 cases sC:uc (kr s (aN.take o)) y with
 |true=>
  rw[sC,aX rfl]at aI;refine .aLS ?_;refine .aLS ?_;refine⟨o+1,rfl,?_,⟨rfl,en⟩,by omega⟩;rw[aI];rfl
 |false=>
  rw[sC]at aI;have aI:kr s (aN.take (o+1))=kr s (aN.take o):=aI;refine .aLS ?_;refine⟨o+1,rfl,?_,⟨rfl,en⟩,by omega⟩;simp_all
 have:o=aN.length:=by omega
 subst this
 have ds:aN.take aN.length=aN:=k4 (dd _)
 rw[ds]
 exact cD _ rfl
theorem aur{hV:Int}(h:z∈il be hV):∃p∈be,(hV=p.1/\z=p.2)\/(hV=p.2/\z=p.1):=by
 obtain⟨p,hp,e⟩:=J2.1 h
 grind
theorem auq(be:List cL)(hV:Int):(il be hV).length<=be.length:=UV _ _
structure Ow(H:I)(q:Nat)(X F O:Option ar)(bQ c m d lN:Nat)(be:List cL)(dm:List Int)(os:List Nat):Prop where
 ny:q8 H q X F bQ c m d dm
 cl:bg H 2 X bQ (be.map cH)
 IX:bg H 1 O m (os.map λz:Nat=>[R (z:Int)])
 asY:bQ<=1000000
 dM:m<=10000
 au4:∀a∈os,a<m
 pm:∀p∈be,(0<=p.1/\p.1<m)/\0<=p.2/\p.2<m
 SP:∀i,0<=dm.getD i 0/\dm.getD i 0<=131328
theorem avG{O:Option ar}{bQ lN:Nat}(x:Ow H q X F O bQ c m d lN be dm os)(eJ jB:ar)(rN ha:LE)(Q:dL)(e:bY)(he:[4,6,8,10,11].map e=[.p 1 0,.p 2 0,.v (.slice O m lN),.v (.slice (some eJ) m m),.v (.slice (some jB) m m)])(cD:∀bl U bC dA,H.le U->o8 be dm m os bC dA->[4,10].map bl=[.p 0 0,.v (.slice (some eJ) m m)]->Q .normal bl (vJ q m eJ jB bC dA) U):c7 aH 119 (.seq (.ch Rl) (.block 2 (.loop Rk))) Q e [rN,.own [.v (.slice none 0 0),.v (R 0)] 37,.bV q,ha,.row 142 2 (some eJ) m m ((bG m ((0:Int),(0:Int))).map cH).flatten,.row 4 1 (some jB) m m ((bG m false).map qB)] H:=by
 have ec:=fr [4,6,8,10,11] e;rw[he]at ec;rw[<-ec];have nF:os.length=m:=by simpa using x.IX.len
 have AI:be.length=bQ:=by simpa using x.cl.len
 have tM:dm.length=m:=by simpa using x.ny.dG.len
 have hm:=x.dM;have E7:=x.asY;refine .zl [1,2,4,5] (Nat×List cL×List Bool) [4,6,10,11,53,54,55] (λ(k,_,_)=>[.p 0 0,.p 1 0,.v (.slice (some eJ) m m),.v (.slice (some jB) m m),.v (.slice O m lN),.v (R m),.v (R k)]) (λ(_,bC,dA)=>vJ q m eJ jB bC dA) (λ(k,bC,dA) U=>H.le U/\k<=m/\o8 be dm m (os.take k) bC dA) (λ(k,_,_)=>m-k) (0,bG m (0,0),bG m false) (λ(_,_,_)=>rfl) ⟨I.le_refl _,cO _,.nil⟩ rfl rfl rfl ?_;rintro⟨k,bC,dA⟩ e U ⟨cu,hk,run⟩;obtain⟨ik,anT⟩:=run.lens;show c7 aH 119 (.seq (.ch aaC) (.seq (.cond (.t 56) .skip (.exit 2)) (.seq (.block 3 (.seq (.ch aaD) (.seq (.ch aaE) (.seq (.seq (.ch aaF) (.block 4 (.loop LT))) (.seq (.ch aaG) (.seq (.ch aaH) (.seq (.seq (.ch Il) (.block 6 (.loop Ik))) (.ch aaI)))))))) (.ch aaJ)))) _ _ _ _;generalize amF:IR.block 4 (.loop LT)=eI;generalize Qt:IR.seq (.ch Il) (.block 6 (.loop Ik))=tq;refine aW (λu=>?_) (λu=>?_);have br:k<os.length:=by omega
 obtain⟨g,ak⟩:=x.IX.cc (by omega);obtain⟨a,a6⟩:∃a,a=os[k]:=⟨_,rfl⟩;have ami:a<m:=x.au4 a (by grind);have oM:(os.map λz:Nat=>[R (z:Int)])[k]?=some [R (a:Int)]:=by grind
 have aJ:os.take (k+1)=os.take k++[a]:=by simp_all
 have lV:∀aP,H.le aP->∀o v,[oE X bQ c,.slice F m d][o]?=some v->aP.cell? ⟨q,o,none⟩=some v:=λaP al o v ah=>by
  unfold I.cell?;simp only[al _ _ x.ny.cell]
  grind
 have CL:=auq be (a:Int);refine .m g ak ?_;refine .hp (R (a:Int)) (by rw[bq];exact(x.IX.mono cu).one ak oM rfl) ?_;refine .hp [.slice X bQ c,.slice F m d] rfl (λo v ah=>by rw[add_lit,dJ];grind) ?_;refine .done (.mk _ (aun X F bQ c m d be a U (x.cl.mono cu) E7) ?_);rintro _ ab ⟨c9,B,dP,rfl,TH⟩;have abg:=I.le_trans cu c9;conv=>whnf
 subst amF;refine avH ik anT TH (by omega) (λz aY=>?_) O lN m k a _ _ [] rfl λaI an E cM ha qG gD=>?_;obtain⟨p,hp,h|h⟩:=aur aY;have:=x.pm p hp;omega;have:=x.pm p hp;omega;have ec:=fr [4,6,10,11,13,14,53,54,55] aI;rw[gD]at ec;rw[<-ec];have qN:(k5 (il be a) bC dA).length<=be.length:=hT (UV _ _) CL;refine .bV 4 142 2 E _ cM _ rfl λaR gm jG f4=>.done (.mk _ (axM E _ cM _ aR jG (by omega)) ?_);rintro _ cg ⟨aN,rfl,DC,ua,same⟩;have mT:aN.length=(k5 (il be a) bC dA).length:=DC.perm.length_eq;have RF:H.le cg:=λo J ae=>by
  rw[same o λg ak e=>?_];exact gm _ _ (ha _ _ (abg _ _ ae));have:=I.none_le abg (qG g ak)
  grind
 obtain⟨s,aj⟩:∃s,s=dm.getD a 0:=⟨_,rfl⟩;have CV:=x.SP a;rw[<-aj]at CV;have AO:dm[a]?=some s:=by grind
 obtain⟨ij,HS⟩:=x.ny.dG.cc (by omega);refine .hp (.slice F m d) (lV _ RF 1 _ rfl) ?_;refine .m ij HS ?_;refine .hp (R s) (by rw[bq];exact(x.ny.dG.mono RF).one HS (r:=[R s]) (by grind) rfl) ?_;conv=>whnf
 subst Qt;rw[<-mT]at ua;have amx:=run.VX x.SP;have Q9:∀y∈aN,0<=y.1/\0<=y.2/\y.1+y.2<=100000000000:=λy aQ=>by
  obtain⟨z,_,aY,rfl⟩:=OZ ((DC.perm.mem_iff).1 aQ)
  grind
 show c7 aH 119 (.seq (.ch Il) (.block 6 (.loop Ik))) _ _ (vJ q m eJ jB bC dA++[.gone,.own [.v (R 0),.v (R s)] 142]) _;refine avI ua.Gd (by omega) CV.1 CV.2 Q9 O lN m k a _ _ (by rw[mT];rfl) λck sq=>?_;have ec:=fr [4,6,10,11,13,17,53,54,55] ck;rw[sq]at ec;rw[<-ec];refine .m eJ rfl ?_;refine .row 2 142 2 eJ m m _ _ (a*2) rfl (by rfl) (adi bC a (kr s aN) (by omega)) ?_;refine .m jB rfl ?_;refine .row 3 4 1 jB m m _ _ a rfl (by simp) (ib _ _ _ (by grind)) ?_;refine .aLS ?_;refine⟨(k+1,bC.set a (kr s aN),dA.set a true),rfl,?_,⟨RF,by omega,?_⟩,by grind⟩;show _=vJ q m eJ jB (bC.set a (kr s aN)) (dA.set a true);unfold vJ;rw[show(dA.set a true).map qB=(dA.map qB).set a (.bool true)from by simp];rfl;rw[aJ,aj];exact .step a aN run DC;have:k=m:=by omega
 subst this;have ds:os.take k=os:=k4 (by omega);rw[ds]at run;exact cD _ _ _ _ cu run rfl
def Vf(m:Nat)(dm:List Int)(ax:List Nat->Prop):Prop:=∀(h:I)(q:Nat)(X F:Option ar)(bQ c d:Nat),q8 h q X F bQ c m d dm->∀(A:Option ar)(cap:Nat),bz h 3 1 A m cap ((aDB m).map λz:Nat=>R (z:Int))->(∀ez ij,A=some ez->F=some ij->0<m->ez.block≠ij.block)->Fn aH 58 #[.slice A m cap,.func (.func 59) #[] #[.pointer (some ⟨q,0,none⟩)]] h λv U=>v= .tuple #[]/\∃os:List Nat,os.Perm (aDB m)/\ax os/\bz U 3 1 A m cap (os.map λz:Nat=>R (z:Int))/\∀o,(∀g,A=some g->o≠g.block)->U o=h o
theorem bg.n0{size:Nat}{rows:List (List ao)}(t:bg h size A n rows)(aC:0<n)(aj:0<size){g:ar}(ak:A=some g):h g.block≠none:=by
 intro aY;have al:=t.len;have am:rows[0]?=some rows[0]:=bZ (by omega);have hw:=t.wid _ (List.mem_of_getElem? am);have ah:rows[0][0]?=some rows[0][0]:=bZ (by omega);have:=t.cell g ak 0 _ am 0 _ ah;have ER:(g.add (0*size+0)).block=g.block:=by unfold Gn;simp
 unfold I.cell? at this
 grind
def ah0(h:I)(N:Int)(aa:List bo)(aG:List Int)(ax:List Nat->Prop)(v:ao)(U:I):Prop:=
 h.le U/\(l2 N aa aG≠0->v= .tuple #[Jd none 0 0 0,R (l2 N aa aG)])/\
  (l2 N aa aG=0->∃os bC dA,os.Perm (aDB aa.length)/\ax os/\o8 (kg (eh N aa aG).2 aa.length) (lg (eh N aa aG).2) aa.length os bC dA/\
   (1024<oZ bC->v= .tuple #[Jd none 0 0 0,R 5])/\(oZ bC<=1024->∃A,v= .tuple #[Jd (some A) aa.length aa.length (oZ bC),R 0]/\bg U 2 (some A) aa.length (bC.map cH)))
def sW(m k:Nat):List ao:=((aDB k).map λz:Nat=>R (z:Int))++bG (m-k) (R 0)
theorem ada(h:k<=m):(sW m k).length=m:=by grind [sW]
theorem adb(h:k<m):(sW m k).set k (R (k:Int))=sW m (k+1):=by
 unfold sW;rw[List.set_append_right _ _ (by simp),List.length_map,Oa,Nat.sub_self,GN,fm,mb];congr 1;rw[show m-k=(m- (k+1))+1 by omega,GO];rfl
theorem atH(m:Nat):(rO (#[R 0,R 0]:Array ao) (m*2)).toList=((bG m ((0:Int),(0:Int))).map cH).flatten:=by
 have h1:∀k,((bG k ((0:Int),(0:Int))).map cH).flatten=bG (k*2) (R 0):=λk=>by
  induction k with
  |zero=>rfl
  |succ k bE=>
   rw[GO,eO,List.flatten_cons,bE,show(k+1)*2=k*2+1+1 by omega,GO,GO];rfl
 rw[h1];apply List.ext_getElem?;intro o;unfold rO
 grind
theorem avF(N:Int)(n cap:Nat)(aa:List bo)(A D:Option ar)(r iy:Nat)(aG:List Int)(h:I)(av:bg h 5 A n (aa.map bo.cells))(aC:n*40<=140737488355328)(aY:bg h 1 D r (aG.map λz=>[R z]))(ax:List Nat->Prop)(iD:l2 N aa aG=0->Vf aa.length (lg (eh N aa aG).2) ax):Fn aH 24 #[my N A n cap,.slice D r iy] h λv U=>ah0 h N aa aG ax v U:=by
 refine b5 ar0 rfl ?_;refine .done (.mk _ (att N n cap aa A D r iy aG h av aC aY) ?_);rintro v h1 ⟨dc,af,ak⟩;by_cases he:l2 N aa aG=0;have iD:=iD he;obtain⟨E,c,F,d,rfl,ayn,Gc⟩:=ak he;have fB:(eh N aa aG).1=0:=by
  refine zM λq=>?_;unfold l2 at he;omega
 have Qv:=VD fB;have hm:=(lO Qv).2.2.1;obtain⟨avD,avC⟩:=RX fB;generalize ks:IR.block 0 (.loop aaB)=c1;generalize Lb:IR.seq (.ch Rl) (.block 2 (.loop Rk))=c2;refine dN.one aa.length (R 0) rfl rfl rfl rfl (by omega) (by omega) λg=>?_;subst ks;have tM:(kg (eh N aa aG).2 aa.length).length<=9216:=hT (OQ aa.length _ ((adp _ _).imp λ{a b} h e=>by rw[e]at h;exact MI _ h) λp hp=>by
  obtain⟨i,o,e,a,b,_⟩:=MF.1 hp
  grind) (ns hm hm)
 refine .mk Nat [4,6,8,35,36] (λk=>[.p 1 0,.p 2 0,.v (.slice (some g) aa.length aa.length),.v (R aa.length),.v (R k)]) (λk=>[.own [.v (R N),.v (.slice A n cap)] 33,.own [.v (.slice none 0 0),.v (R 0)] 37,.own [.v (.slice E (kg (eh N aa aG).2 aa.length).length c),.v (.slice F aa.length d)] 188,.row 3 1 (some g) aa.length aa.length (sW aa.length k)]) (λk U=>U=h1/\k<=aa.length) (λk=>aa.length-k) 0 (λ_=>rfl) ⟨rfl,cO _⟩ rfl rfl ?_;rintro k e U ⟨rfl,hk⟩;refine aW (λu=>?_) (λu=>?_);have br:k<aa.length:=by omega
 refine .m g rfl ?_;refine .row 3 3 1 g aa.length aa.length _ _ k rfl (by simp) (ib _ _ _ (by rw[ada (by omega)];exact br)) ?_;refine .aLS ?_;refine⟨k+1,rfl,?_,⟨rfl,br⟩,by omega⟩;rw[<-adb br];rfl;have p2:k=aa.length:=by omega
 subst p2;have aL:sW aa.length aa.length=(aDB aa.length).map λz:Nat=>R (z:Int):=by simp[sW]
 rw[aL];refine .mk λq aq=>?_;refine .bV 3 3 1 (some g) aa.length aa.length _ rfl λan ha Jg f3=>.done (.mk _ (iD an q E F _ c d ⟨ha _ _ (I.bP _ _ _),Gc.mono (I.le_trans (I.du aq) ha)⟩ (some g) _ Jg (λez ij aJ aI ai ck=>by
  injection aJ with aJ;subst aJ;have ss:=f3 g rfl;by_cases Zk:g.block=q;rw[Zk,I.bP]at ss;cases ss;rw[I.cf _ _ Zk]at ss;exact Gc.n0 ai (by decide) aI (by grind))) ?_)
 rintro _ aR ⟨rfl,os,LB,cG,jG,same⟩;have PY:g.block≠q:=λe=>by
  have:=f3 g rfl;rw[e,I.bP]at this
  grind
 have RG:U.le aR:=λo J ae=>by
  rw[same o λg2 gV e=>?_];exact ha _ _ (I.du aq _ _ ae);injection gV with gV;subst gV;have:=f3 g rfl;rw[I.cf _ _ PY,<-e,ae]at this
  grind
 have an0:aR q=some (.cells [.slice E (kg (eh N aa aG).2 aa.length).length c,.slice F aa.length d].toArray 188 (0,0)):=by
  rw[same q λg2 gV e=>by grind];exact ha _ _ (I.bP _ _ _)
 refine dN.mk aa.length rfl rfl (by omega) (by omega) λeJ=>?_;show gn 119 _ _ _ (fN _ 3 LE.gone++[LE.row 142 2 (some eJ) _ _ (rO (#[R 0,R 0]:Array ao) (aa.length*2)).toList]) _ _;rw[atH];refine dN.one aa.length (.bool false) rfl rfl rfl rfl (by omega) (by omega) λjB=>?_;rw[show bG aa.length (qB false)=(bG aa.length false).map qB from by simp];conv=>whnf
 subst Lb;have P:Ow aR q E F (some g) (kg (eh N aa aG).2 aa.length).length c aa.length d aa.length (kg (eh N aa aG).2 aa.length) (lg (eh N aa aG).2) os:=by
  refine⟨⟨an0,Gc.mono RG⟩,ayn.mono RG,?_,by omega,by omega,λa a6=>re.1 ((LB.mem_iff).1 a6),λp hp=>?_,λi=>?_⟩;have:=bz.one (l:=os.map λz:Nat=>(z:Int)) (by rw[lo];exact jG);rw[lo]at this;exact this;obtain⟨i,o,rfl,a,b,_⟩:=MF.1 hp;omega;by_cases ag:i<aa.length
  grind
  rw[List.getD_eq_getElem?_getD,List.getElem?_eq_none (by grind [avD.len])];simp
 refine avG P eJ jB _ _ _ _ rfl λaI cg bC dA l1 run gD=>?_;have ec:=fr [4,10] aI;rw[gD]at ec;rw[<-ec];have y9:=run.VX P.SP;have nF:os.length<=96:=by rw[LB.length_eq,Oa];exact hm
 have YI:∀x∈bC,Kb x:=λx ad=>by
  have:=y9 x ad;exact⟨by omega,by omega,by omega,by omega⟩
 refine .bV 2 142 2 (some eJ) _ _ _ rfl λfa sN S7 f6=>.done (.mk _ (afq (some eJ) _ _ bC fa S7.Gd YI (by omega)) ?_);rintro _ _ ⟨rfl,rfl⟩;have abh:=I.le_trans dc (I.le_trans RG (I.le_trans l1 sN));refine aW (λw=>?_) (λw=>?_);exact .done ⟨abh,λq=>absurd he q,λ_=>⟨os,bC,dA,LB,cG,run,λ_=>rfl,λq=>absurd w (by omega)⟩⟩;refine .done (.mk _ (afq (some eJ) _ _ bC _ S7.Gd YI (by omega)) ?_);rintro _ _ ⟨rfl,rfl⟩;exact .done ⟨abh,λq=>absurd he q,λ_=>⟨os,bC,dA,LB,cG,run,λq=>absurd q w,λ_=>⟨eJ,rfl,S7.Gd⟩⟩⟩;obtain rfl:=af he;refine aW (λ_=>?_) (λq=>absurd he q);refine .done ⟨dc,λ_=>rfl,λq=>absurd q he⟩
theorem bg.FW{size:Nat}{rows:List (List ao)}(t:bg h size A n rows){J:Obj}(bH:∀g,A=some g->0<n->g.block≠b):bg (h.put b J) size A n rows:=by
 refine⟨t.len,t.wid,t.cc,λg ak i r am o v ah=>?_⟩;have ai:0<n:=by
  have:=(qt.1 am).1;have:=t.len;omega
 have af:=bH g ak ai;have:=t.cell g ak i r am o v ah;have ER:(g.add (i*size+o)).block=g.block:=by unfold Gn;grind
 unfold I.cell? at this⊢;rw[I.cf _ _ (by omega)];omega
theorem axU(m:Nat)(hm:m<=1000000)(dm:List Int):Vf m dm λ_=>True:=by
 intro h q X F bQ c d f A cap am amP;obtain⟨rK,ab⟩:=am;rcases ab with⟨rfl,rfl,rfl⟩|⟨b,a8,rfl,af,aC,aw,ht,Fe⟩;refine(axV f (by decide) none 0 0 [] (bg.nil _ _ _) (by decide) (λ_ ad=>by cases ad) (λi ag=>absurd ag (BO _))).mono ?_;rintro v U ⟨rfl,rfl⟩;exact⟨rfl,[],.refl _,trivial,⟨rfl,.inl ⟨rfl,rfl,rfl⟩⟩,λ_ _=>rfl⟩;have aq:q≠b:=λe=>by
  have:=f.cell
  grind
 have jK:a8=(((aDB m).map λz:Nat=>R (z:Int))++a8.toList.drop (m*1)).toArray:=by
  grind
 have uX:a8.size=cap:=by omega
 have pq:(a8.toList.drop (m*1)).length=cap-m:=by grind
 generalize a8.toList.drop (m*1)=cB at jK pq;have he:h=c5 h b cB (aDB m):=by
  funext o;unfold c5;by_cases ae:o=b;rw[ae,I.bP,af,jK];rw[I.cf _ _ ae]
 have bm:∀aN,q8 (c5 h b cB aN) q X F bQ c m d dm:=λaN=>
  ⟨by unfold c5;rw[I.cf _ _ aq];exact f.cell,f.dG.FW λg ak ai e=>amP _ g rfl ak ai e.symm⟩
 have:=axX (cap:=cap) (m:=m) hm bm (aDB m) Oa (λx ad=>re.1 ad);rw[<-he]at this;refine this.mono ?_;rintro v U ⟨rfl,os,hp,rfl⟩;have nF:os.length=m:=by rw[hp.length_eq,Oa]
 refine⟨rfl,os,hp,trivial,⟨by grind,.inr ⟨b,_,rfl,Qh _ _ _ _,aC,aw,by grind,?_⟩⟩,λo ae=>?_⟩
 grind
 exact I.cf _ _ (ae _ rfl)
end Go.Sx
namespace Go.Sx
open Go.Proofs
set_option maxRecDepth 100000
set_option maxHeartbeats 0
set_option linter.all false
variable {t:Int}{es:List gr}{a b b9 c c6 cd i k m n o w:Nat}{A:Option ar}
inductive cX where
 |nil
 |cons (t n:Int) (b r:cX)
 deriving DecidableEq
variable {f:cX}
inductive bw where
 |nil
 |cons (t n:Int) (B:Option ar) (m c:Nat) (b r:bw)
def bw.bn:bw->cX
 |.nil=>.nil
 |.cons t n _ _ _ b r=>.cons t n b.bn r.bn
def cX.len:cX->Nat
 |.nil=>0
 |.cons _ _ _ r=>r.len+1
def bw.len:bw->Nat
 |.nil=>0
 |.cons _ _ _ _ _ _ r=>r.len+1
def bw.bF:bw->Nat
 |.nil=>0
 |.cons _ _ _ _ _ b r=>b.bF+1+r.bF
def cX.bF:cX->Nat
 |.nil=>0
 |.cons _ _ b r=>b.bF+1+r.bF
theorem bw.X8:∀l:bw,l.bn.len=l.len
 |.nil=>rfl
 |.cons _ _ _ _ _ _ r=>by simp[bw.bn,cX.len,bw.len,r.X8]
theorem bw.Hq:∀l:bw,l.bn.bF=l.bF
 |.nil=>rfl
 |.cons _ _ _ _ _ b r=>by simp[bw.bn,cX.bF,bw.bF,b.Hq,r.Hq]
theorem bw.vk:∀l:bw,l.len<=l.bF
 |.nil=>dd _
 |.cons _ _ _ _ _ _ r=>by have:=r.vk;grind [bw.len,bw.bF]
theorem bw.Pg{l:bw}(h:l.len=0):l= .nil:=by
 cases l with
 |nil=>rfl
 |cons=>grind [bw.len]
def iF(t n:Int)(B:Option ar)(m c:Nat):List ao:=[R t,R n,.slice B m c]
def pI(h:I):ar->Nat->bw->Prop
 |_,_,.nil=>True
 |g,i,.cons t n B m c b r=>(∀o v,(iF t n B m c)[o]?=some v->h.cell? ((g.add (i*3)).add o)=some v)/\m=b.len/\(b= .nil\/∃b7,B=some b7/\pI h b7 0 b)/\pI h g (i+1) r
def hU(h:I)(A:Option ar)(m:Nat)(l:bw):Prop:=m=l.len/\(l= .nil\/∃g,A=some g/\pI h g 0 l)
theorem pI.mono{h U:I}(x:h.le U):∀(l:bw)(g:ar)(i:Nat),pI h g i l->pI U g i l
 |.nil,_,_,_=>trivial
 |.cons _ _ _ _ _ b r,g,i,⟨h1,ab,an,aR⟩=>⟨λo v ah=>I.kL x (h1 o v ah),ab,an.imp id λ⟨b7,e,af⟩=>⟨b7,e,pI.mono x b b7 0 af⟩,pI.mono x r g (i+1) aR⟩
theorem hU.mono{h U:I}{A:Option ar}{m:Nat}{l:bw}(x:h.le U)(s:hU h A m l):hU U A m l:=⟨s.1,s.2.imp id λ⟨g,e,af⟩=>⟨g,e,pI.mono x l g 0 af⟩⟩
def o9(h:I)(A:Option ar)(n:Nat)(i:Nat)(l:bw):Prop:=i+l.len=n/\(l= .nil\/∃g,A=some g/\pI h g i l)
theorem hU.cB{h:I}{l:bw}(s:hU h A n l):o9 h A n 0 l:=⟨by have:=s.1;omega,s.2⟩
theorem o9.open{h:I}{k:Int}{B:Option ar}{b r:bw}(s:o9 h A n i (.cons t k B m c b r)):∃g,A=some g/\i<n/\(∀o v,(iF t k B m c)[o]?=some v->h.cell? ((g.add (i*3)).add o)=some v)/\hU h B m b/\o9 h A n (i+1) r:=by
 obtain⟨h1,ab⟩:=s;rcases ab with ab|⟨g,e,a,eP,bu,d⟩
 grind
 simp only[bw.len]at h1;exact⟨g,e,by omega,a,⟨eP,bu⟩,by omega,.inr ⟨g,e,d⟩⟩
theorem o9.fin{h:I}(s:o9 h A n i .nil):i=n:=s.1
def cX.leaf:cX->Bool
 |.nil=>true
 |.cons .. =>false
theorem bw.Ft(l:bw):l.bn.leaf=decide (l.len=0):=by cases l<;>simp[bw.bn,cX.leaf,bw.len]
def js(t n:Int)(lf:Bool)(d k:Nat)(gK:Int×Nat):Int×Nat:=
 if 2048<=k then(5,k)else if lf=false/\16<=d then(161,k)else if t<1 then(160,k)else if lf=true then(if n<0\/32<=n then(100,k)else(0,k+1))else if n≠0 then(162,k)else gK
def hW:cX->Nat->Nat->Int×Nat
 |.nil,_,k=>(0,k)
 |.cons t n b r,d,k=>if(js t n b.leaf d k (hW b (d+1) k)).1=0 then hW r d (js t n b.leaf d k (hW b (d+1) k)).2 else js t n b.leaf d k (hW b (d+1) k)
theorem acZ{n:Int}{lf:Bool}{d:Nat}{gK:Int×Nat}(hk:k<=2048)(af:gK.2<=2048):(js t n lf d k gK).2<=2048:=by
 unfold js
 grind
theorem PG:∀(f:cX)(d k:Nat),k<=2048->(hW f d k).2<=2048
 |.nil,_,_,h=>h
 |.cons t n b r,d,k,h=>by
  have h1:=acZ (t:=t) (n:=n) (lf:=b.leaf) (d:=d) (gK:=hW b (d+1) k) h (PG b (d+1) k h);simp only[hW];split;exact PG r d _ h1;omega
abbrev xf(k:Nat):Obj:=.cells [R k].toArray 239 (0,0)
def hj(b:Nat):ao:=.pointer (some ⟨b,0,none⟩)
theorem Wr(h:I)(b k:Nat):(h.put b (xf k)).cell? ⟨b,0,none⟩=some (R k):=by
 unfold I.cell?;simp[I.bP]
def Vb(l:bw):Prop:=∀(A:Option ar)(m cap d k b:Nat)(bm:I),hU bm A m l->bm b=none->d<=16->k<=2048->Fn aH 90 #[hj b,.slice A m cap,R d] (bm.put b (xf k)) λv U=>v=R (hW l.bn d k).1/\U=bm.put b (xf (hW l.bn d k).2)
theorem au5(t n:Int)(B:Option ar)(m c:Nat)(l:bw)(jM:Vb l)(d k b:Nat)(bm:I)(aj:hU bm B m l)(af:bm b=none)(aB:d<=16)(hk:k<=2048):Fn aH 139 #[hj b,.agg (iF t n B m c).toArray,R d] (bm.put b (xf k)) λv U=>v=R (js t n l.bn.leaf d k (hW l.bn (d+1) k)).1/\U=bm.put b (xf (js t n l.bn.leaf d k (hW l.bn (d+1) k)).2):=by
 have hm:=aj.1;rw[l.Ft];refine b5 ari rfl ?_;refine .hp _ (Wr bm b k) ?_;refine aW (λh1=>?_) (λh1=>?_);exact .done (by unfold js;rw[aX (by omega)];exact⟨rfl,rfl⟩);have fin:∀{x:Int×Nat},js t n (decide (l.len=0)) d k (hW l.bn (d+1) k)=x->(R x.1=R (js t n (decide (l.len=0)) d k (hW l.bn (d+1) k)).1/\bm.put b (xf x.2)=bm.put b (xf (js t n (decide (l.len=0)) d k (hW l.bn (d+1) k)).2)):=by
  simp
 rcases Nat.eq_zero_or_pos m with ai|ai;subst ai;rw[show decide (l.len=0)=true from fo hm.symm]at fin⊢;refine aW (λan=>?_) (λan=>?_);exact .done (fin (x:=(160,k)) (by unfold js;grind));have node:n<0\/32<=n->js t n true d k (hW l.bn (d+1) k)=(100,k):=λaP=>by
  unfold js;grind
 refine aW (λaR=>?_) (λaR=>?_);exact .done (fin (node (.inl aR)));refine aW (λcg=>?_) (λcg=>?_);exact .done (fin (node (.inr cg)));refine .hp _ (Wr bm b k) ?_;refine .aLS ?_;refine .hp b 0 239 [R k] [R ((k:Int)+1)] rfl (I.bP _ _ _) rfl ?_;refine .done ?_;rw[I.sZ];exact fin (x:=(0,k+1)) (by unfold js;grind);rw[show decide (l.len=0)=false from gU (by omega)]at fin⊢;refine uK (λ_=>?_) (λab=>absurd ab (by grind));refine aW (λab=>?_) (λab=>?_);exact .done (fin (x:=(161,k)) (by unfold js;grind));refine aW (λan=>?_) (λan=>?_);exact .done (fin (x:=(160,k)) (by unfold js;grind));refine uK (λ_=>?_) (λab=>absurd ab (by grind));refine aW (λaR=>?_) (λaR=>?_);exact .done (fin (x:=(162,k)) (by unfold js;grind));refine uK (λcg=>absurd cg (by grind)) (λ_=>?_);refine uK (λcg=>absurd cg (by grind)) (λ_=>?_);refine .aLS ?_;refine .done (.mk _ (jM B m c (d+1) k b bm aj af (by omega) hk) ?_);rintro _ _ ⟨rfl,rfl⟩;exact .done (fin (x:=hW l.bn (d+1) k) (by unfold js;grind))
theorem ad6:∀(N:Nat)(l:bw),l.bF<N->l.bF<=200000->Vb l
 |0,l,db,_=>absurd db (BO _)
 |N+1,l,db,lU=>by
  intro A m cap d k b bm aj af aB hk;have hm:m<=200000:=by have:=aj.1;have:=l.vk;omega
  refine b5 asN rfl ?_;refine .mk (Nat×Nat×bw) [0,2,10,11,12] (λ(i,_,_)=>[.v (hj b),.v (R d),.v (.slice A m cap),.v (R m),.v (R i)]) (λ_=>[]) (λ(i,q,r) U=>U=bm.put b (xf q)/\o9 bm A m i r/\q<=2048/\r.bF<=l.bF/\hW l.bn d k=hW r.bn d q) (λ(i,_,_)=>m-i) (0,k,l) (λ_=>rfl) ⟨rfl,aj.cB,hk,dd _,rfl⟩ rfl rfl ?_;rintro⟨i,q,r⟩ e U ⟨rfl,av,aq,ik,he⟩;refine aW (λab=>?_) (λab=>?_);cases r with
  |nil=>have:=av.fin;omega
  |cons t w B bc c cj r=>
   obtain⟨g,aO,ag,aw,ph,am⟩:=av.open;simp only[bw.bF]at ik;have u3:∀o v,(iF t w B bc c)[o]?=some v->(bm.put b (xf q)).cell? ((g.add (i*3)).add o)=some v:=λo v ah=>I.kL (I.du af) (aw o v ah);refine .m g aO ?_;refine .hp (iF t w B bc c) rfl (by grind) ?_;refine .done (.mk _ (au5 t w B bc c cj (ad6 N cj (by omega) (by omega)) d q b bm ph af aB aq) ?_);rintro _ _ ⟨rfl,rfl⟩;simp only[bw.bn,hW]at he;refine aW (λan=>?_) (λan=>?_);rw[aE an]at he;refine .done ?_;rw[he];exact⟨rfl,rfl⟩;rw[aX (by omega)]at he;refine .aLS ?_;exact⟨(i+1,_,r),rfl,rfl,⟨rfl,am,acZ aq (PG _ _ _ aq),by omega,he⟩,by grind⟩
  cases r with
  |nil=>
   refine .done ?_;rw[he];exact⟨rfl,rfl⟩
  |cons=>obtain⟨g,aO,ag,_⟩:=av.open;omega
def fj:cX->Nat
 |.nil=>0
 |.cons t _ b r=>t.toNat*(bif b.leaf then 1 else fj b)+fj r
def nW:cX->Prop
 |.nil=>True
 |.cons t _ b r=>1<=t/\nW b/\nW r
theorem KP:∀(f:cX)(d k:Nat),(hW f d k).1=0->nW f
 |.nil,_,_,_=>trivial
 |.cons t n b r,d,k,h=>by
  simp only[hW]at h;split at h
  .rename_i h1;refine⟨?_,?_,KP r d _ h⟩
   .unfold js at h1;repeat' split at h1
    all_goals first|omega|(simp at h1;done)|skip
   unfold js at h1;repeat' split at h1
   all_goals first|(simp at h1;done)|skip
   rename_i al _;cases b with
   |nil=>trivial
   |cons=>simp[cX.leaf]at al
   exact KP b (d+1) k h1
  rename_i h1;exact absurd h h1
theorem TR:∀(f:cX),nW f->f.leaf=false->1<=fj f
 |.nil,_,h=>by grind [cX.leaf]
 |.cons t n b r,⟨h1,ab,_⟩,_=>by
  simp only[fj];have af:1<=(bif b.leaf then 1 else fj b):=by
   cases al:b.leaf with
   |true=>simp
   |false=>exact TR b ab al
  have:1*1<=t.toNat*(bif b.leaf then 1 else fj b):=ns (by omega) af;omega
def mU(f:cX):Nat:=bif f.leaf then 1 else fj f
theorem aHm(h:nW f):1<=mU f:=by
 unfold mU;cases al:f.leaf with
 |true=>simp
 |false=>exact TR f h al
theorem TQ(t n:Int)(b r:cX):fj (.cons t n b r)=t.toNat*mU b+fj r:=rfl
theorem afp:∀(N:Nat)(l:bw),l.bF<N->l.bF<=200000->nW l.bn->∀(A:Option ar)(m cap:Nat)(h:I),hU h A m l->Fn aH 91 #[.slice A m cap] h λv U=>U=h/\v=R (min (fj l.bn) 2049:Nat)
 |0,l,db,_=>absurd db (BO _)
 |N+1,l,db,lU=>by
  intro xy A m cap h aj;have hm:m<=200000:=by have:=aj.1;have:=l.vk;omega
  refine b5 asO rfl ?_;refine .mk (Nat×Nat×bw) [3,7,8,9] (λ(i,s,_)=>[.v (R s),.v (.slice A m cap),.v (R m),.v (R i)]) (λ_=>[]) (λ(i,s,r) U=>U=h/\o9 h A m i r/\s<=2048/\r.bF<=l.bF/\nW r.bn/\s+fj r.bn=fj l.bn) (λ(i,_,_)=>m-i) (0,0,l) (λ_=>rfl) ⟨rfl,aj.cB,cO _,dd _,xy,by omega⟩ rfl rfl ?_;rintro⟨i,s,r⟩ e U ⟨rfl,av,aq,ik,hp,he⟩;refine aW (λab=>?_) (λab=>?_);cases r with
  |nil=>have:=av.fin;omega
  |cons t w B bc c b r=>
   obtain⟨g,aO,ag,aw,af,am⟩:=av.open;simp only[bw.bF]at ik;simp only[bw.bn]at hp;obtain⟨u9,nG,AN⟩:=hp;obtain⟨q,rfl⟩:∃q:Nat,t=q:=⟨t.toNat,by omega⟩;have anl:=aHm nG;have gD:s+(q*mU b.bn+fj r.bn)=fj l.bn:=by
    have:=TQ q w b.bn r.bn;simp only[bq]at this;rw[<-this];exact he
   have oK:=af.1;refine .m g aO ?_;refine .hp (iF q w B bc c) rfl (by grind) ?_;refine aW (λan=>?_) (λan=>?_);have nE:b.bn.leaf=false:=by rw[b.Ft];grind
   have Zp:mU b.bn=fj b.bn:=by unfold mU;grind
   refine .done (.mk _ (afp N b (by omega) (by omega) nG B bc c U af) ?_);rintro _ ab ⟨rfl,rfl⟩;refine aW (λaR=>?_) (λaR=>?_);refine .done ⟨rfl,?_⟩;have:q*1<=q*mU b.bn:=Nat.mul_le_mul_left _ anl;rw[show min (fj l.bn) 2049=2049 by omega];rfl;refine aW (λcg=>?_) (λcg=>?_);refine .done ⟨rfl,?_⟩;have:1*mU b.bn<=q*mU b.bn:=pN _ (by omega);rw[show min (fj l.bn) 2049=2049 by omega];rfl;have anI:min (fj b.bn) 2049=mU b.bn:=by omega
   have fC:q*mU b.bn<=2048*2048:=ns (by omega) (by omega);have aY:((min (fj b.bn) 2049:Nat):Int)*(q:Int)=((q*mU b.bn:Nat):Int):=by grind
   refine .aLS ?_;rw[aY];refine .aLS ?_;refine aW (λfa=>?_) (λfa=>?_);refine .done ⟨rfl,?_⟩;rw[show min (fj l.bn) 2049=2049 by omega];rfl;refine .aLS ?_;exact⟨(i+1,s+q*mU b.bn,r),rfl,rfl,⟨rfl,am,by omega,by omega,AN,by omega⟩,by grind⟩;have nE:b.bn.leaf=true:=by rw[b.Ft];grind
   have Zp:mU b.bn=1:=by unfold mU;grind
   rw[Zp]at gD;refine aW (λaR=>?_) (λaR=>?_);refine .done ⟨rfl,?_⟩;rw[show min (fj l.bn) 2049=2049 by omega];rfl;have aY:(1:Int)*(q:Int)=(q:Int):=Int.one_mul _;refine .aLS ?_;refine .aLS ?_;refine aW (λfa=>?_) (λfa=>?_);refine .done ⟨rfl,?_⟩;rw[show min (fj l.bn) 2049=2049 by omega];rfl;refine .aLS ?_;refine⟨(i+1,s+q,r),?_,rfl,⟨rfl,am,by omega,by omega,AN,by omega⟩,by grind⟩;rw[show((s:Int)+1*(q:Int))=((s+q:Nat):Int) by omega];rfl
  cases r with
  |nil=>
   refine .done ⟨rfl,?_⟩;simp only[bw.bn,fj]at he;rw[<-he,show min (s+0) 2049=s by omega];rfl
  |cons=>obtain⟨g,aO,ag,_⟩:=av.open;omega
def qE(f:cX):Int:=if(hW f 0 0).1≠0 then(hW f 0 0).1 else if 2048<fj f then 5 else 0
theorem O'(l:bw)(aw:l.bF<=200000)(A:Option ar)(m cap:Nat)(h:I)(aj:hU h A m l):Fn aH 35 #[.slice A m cap] h λv U=>h.le U/\v=R (qE l.bn):=by
 refine b5 ar' rfl ?_;refine .mk λb af=>?_;refine .done (.mk _ (ad6 _ l (ri _) aw A m cap 0 0 b h aj af (by omega) (by omega)) ?_);rintro _ U ⟨rfl,rfl⟩;have cu:h.le (h.put b (xf (hW l.bn 0 0).2)):=I.du af;refine aW (λh1=>?_) (λh1=>?_);refine .done ⟨cu,?_⟩;unfold qE;rw[aX h1];rfl;have Hx:¬(hW l.bn 0 0).1≠0:=h1;refine .done (.mk _ (afp _ l (ri _) aw (KP _ _ _ (NN Hx)) A m cap _ (aj.mono cu)) ?_);rintro _ U ⟨rfl,rfl⟩;refine aW (λab=>?_) (λab=>?_);refine .done ⟨cu,?_⟩;unfold qE;rw[aE Hx,aX (by omega)];rfl;refine .done ⟨cu,?_⟩;unfold qE;rw[aE Hx,aE (by omega)];rfl
def pb:cX->Nat
 |.nil=>0
 |.cons _ _ b r=>(bif b.leaf then 1 else pb b)+pb r
def mM:cX->Nat
 |.nil=>0
 |.cons _ _ b r=>max (bif b.leaf then 0 else mM b+1) (mM r)
theorem abx(h:f.leaf=true):f= .nil:=by
 cases f with
 |nil=>rfl
 |cons=>grind [cX.leaf]
theorem Wo(h:qE f=0):(hW f 0 0).1=0/\fj f<=2048:=by
 unfold qE at h;omega
def I.sub(U h:I):I:=λo=>match h o with
 |none=>U o
 |some _=>none
variable {U h:I}
theorem I.sub_le(U h:I):(U.sub h).le U:=λo J e=>by
 unfold I.sub at e
 grind
theorem I.ax5(ae:U o=none):U.sub h o=none:=by
 unfold I.sub;grind
theorem I.Gb(ae:U.sub h o≠none):h o=none:=by
 unfold I.sub at ae
 grind
theorem I.De{bW:I}(x:bW.le U)(d:∀o,bW o≠none->h o=none):bW.le (U.sub h):=λo J e=>by
 unfold I.sub;rw[d o (by grind)];exact x o J e
def bw.cl:bw->List (List ao)
 |.nil=>[]
 |.cons t n B m c _ r=>iF t n B m c::r.cl
theorem bw.Ws:∀l:bw,l.cl.length=l.len
 |.nil=>rfl
 |.cons _ _ _ _ _ _ r=>by simp[bw.cl,bw.len,r.Ws]
theorem bw.Er:∀l:bw,∀r∈l.cl,r.length=3
 |.nil,_,h=>by cases h
 |.cons t n B m c _ r,x,h=>by
  rcases dC.1 h with rfl|h;rfl;exact r.Er x h
abbrev tc:=I->Option ar->Nat->Nat->bw->Prop
def tc.Oo(K:tc):Prop:=∀h U B m c b,h.le U->K h B m c b->K U B m c b
def r7(K:tc)(h:I):bw->Prop
 |.nil=>True
 |.cons _ _ B m c b r=>K h B m c b/\r7 K h r
theorem r7.mono{K:tc}(eR:K.Oo){h U:I}(x:h.le U):∀{l:bw},r7 K h l->r7 K U l
 |.nil,_=>trivial
 |.cons _ _ _ _ _ _ _,⟨a,b⟩=>⟨eR _ _ _ _ _ _ x a,r7.mono eR x b⟩
def yc(K:tc)(h:I):bw->Prop
 |.nil=>True
 |.cons _ _ B m c b r=>∃vX nu:I,vX.le h/\nu.le h/\(∀o,vX o≠none->nu o=none)/\K vX B m c b/\yc K nu r
def I.or(a b:I):I:=λo=>match a o with
 |some J=>some J
 |none=>b o
theorem I.MC{a b:I}(x:a.le h)(y:b.le h):(a.or b).le h:=λo J e=>by
 unfold I.or at e;cases q:a o with
 |none=>rw[q]at e;exact y o J e
 |some gh=>rw[q]at e;injection e with e;subst e;exact x o gh q
theorem I.atb(a b:I):a.le (a.or b):=λo J e=>by unfold I.or;rw[e]
theorem I.atc{a b:I}(d:∀o,b o≠none->a o=none):b.le (a.or b):=λo J e=>by
 unfold I.or;grind
theorem I.or_none{a b:I}(x:a o=none)(y:b o=none):a.or b o=none:=by unfold I.or;grind
def qA:tc:=λh B m _ b=>hU h B m b
theorem qA.mono:qA.Oo:=λ_ _ _ _ _ _ x a=>hU.mono x a
def bw.snoc:bw->Int->Int->Option ar->Nat->Nat->bw->bw
 |.nil,t,n,B,m,c,b=>.cons t n B m c b .nil
 |.cons hy hE dS bc bu eP r,t,n,B,m,c,b=>.cons hy hE dS bc bu eP (r.snoc t n B m c b)
def cX.app:cX->cX->cX
 |.nil,f=>f
 |.cons t n b r,f=>.cons t n b (r.app f)
theorem cX.Kh:∀f:cX,f.app .nil=f
 |.nil=>rfl
 |.cons _ _ _ r=>by simp[cX.app,r.Kh]
theorem bw.M8(t n:Int)(B:Option ar)(m c:Nat)(b:bw)(f:cX):∀p:bw,(p.snoc t n B m c b).bn.app f=p.bn.app (.cons t n b.bn f)
 |.nil=>rfl
 |.cons _ _ _ _ _ _ r=>by simp only[bw.snoc,bw.bn,cX.app,bw.M8 t n B m c b f r]
theorem bw.Ty(t n:Int)(B:Option ar)(m c:Nat)(b:bw):∀p:bw,(p.snoc t n B m c b).len=p.len+1
 |.nil=>rfl
 |.cons _ _ _ _ _ _ r=>by simp[bw.snoc,bw.len,bw.Ty t n B m c b r]
theorem bw.Tx(t n:Int)(B:Option ar)(m c:Nat)(b:bw):∀p:bw,(p.snoc t n B m c b).cl=p.cl++[iF t n B m c]
 |.nil=>rfl
 |.cons _ _ _ _ _ _ r=>by simp[bw.snoc,bw.cl,bw.Tx t n B m c b r]
theorem bw.aeQ{K:tc}{Y:I}(t n:Int)(B:Option ar)(m c:Nat)(b:bw)(af:K Y B m c b):∀{p:bw}{X Z:I},yc K X p->(∀o,Y o≠none->X o=none)->X.le Z->Y.le Z->yc K Z (p.snoc t n B m c b)
 |.nil,_,_,_,_,_,aQ=>⟨Y,λ_=>none,aQ,(λ_ _ e=>by cases e),(λ_ _=>rfl),af,trivial⟩
 |.cons _ _ _ _ _ _ _,X,Z,⟨vX,nu,a,eP,bu,d,e⟩,aB,ad,aQ=>⟨vX,nu.or Y,I.le_trans a ad,I.MC (I.le_trans eP ad) aQ,λo ae=>I.or_none (bu o ae) (by
  cases q:Y o with
  |none=>rfl
  |some J=>exact absurd (I.none_le a (aB o (by grind))) ae),d,bw.aeQ t n B m c b af e (λo ae=>I.none_le eP (aB o ae)) (I.atb _ _) (I.atc λo ae=>I.none_le eP (aB o ae))⟩
theorem VM{h:I}{g:ar}:∀(l:bw)(i:Nat),(∀k row,l.cl[k]?=some row->∀o v,row[o]?=some v->h.cell? ((g.add ((i+k)*3)).add o)=some v)->r7 qA h l->pI h g i l
 |.nil,_,_,_=>trivial
 |.cons t n B m c b r,i,aw,⟨af,am⟩=>⟨aw 0 _ rfl,af.1,af.2,VM r (i+1) (λk row hk o v ah=>by
  have:=aw (k+1) row (by grind [bw.cl]) o v ah
  grind) am⟩
theorem bg.sat{l:bw}(t:bg h 3 A n l.cl)(af:r7 qA h l):hU h A n l:=by
 have al:=t.len;rw[l.Ws]at al;refine⟨al.symm,?_⟩;by_cases ai:n=0;exact .inl (bw.Pg (by omega));obtain⟨g,ak⟩:=t.cc ai;exact .inr ⟨g,ak,VM l 0 (λk row hk o v ah=>by rw[uE,dJ];exact t.cell g ak k row hk o v ah) af⟩
theorem ad'{bs size cap:Nat}{xs:List ao}(x:bz U bs size A n cap xs)(az:∀g,A=some g->h g.block=none):bz (U.sub h) bs size A n cap xs:=by
 obtain⟨h1,ab⟩:=x;refine⟨h1,ab.imp id λ⟨g,a8,aJ,aI,ck⟩=>⟨g,a8,aJ,?_,ck⟩⟩;unfold I.sub
 grind
structure uk(K:tc)(h U bW:I)(A:Option ar)(i c:Nat)(p:bw):Prop where
 le:h.le U
 gF:bW.le U
 out:∀o,bW o≠none->h o=none
 rv:∀g,A=some g->h g.block=none/\bW g.block=none
 row:bz U 199 3 A i c p.cl.flatten
 El:yc K bW p
 len:p.len=i
theorem uk.nil(K:tc)(h:I):uk K h h (λ_=>none) none 0 0 .nil:=⟨I.le_refl h,(λ_ _ e=>by cases e),(λ_ e=>absurd rfl e),(λ_ e=>by cases e),⟨rfl,.inl ⟨rfl,rfl,rfl⟩⟩,trivial,rfl⟩
theorem uk.step{K:tc}{h U bW ab an:I}{A bA:Option ar}{i c bu:Nat}{p:bw}(x:uk K h U bW A i c p)(c9:U.le ab)(t n:Int){B:Option ar}{m c8:Nat}{b:bw}(af:K (ab.sub U) B m c8 b)(ha:(ei ab A).le an)(am:bz an 199 3 bA (i+1) bu (p.cl.flatten++iF t n B m c8))(az:∀g,bA=some g->ei ab A g.block=none):uk K h an ((ei ab A).sub h) bA (i+1) bu (p.snoc t n B m c8 b):=by
 have aO:h.le (ei ab A):=xh (I.le_trans x.le c9) λg e=>(x.rv g e).1;have P4:∀g,A=some g->U g.block≠none:=λg e=>by
  rcases x.row.2 with⟨q,_⟩|⟨b7,a8,q,aD,_⟩
  grind
  grind
 have s1:bW.le ((ei ab A).sub h):=I.De (xh (I.le_trans x.gF c9) λg e=>(x.rv g e).2) x.out;have s2:(ab.sub U).le ((ei ab A).sub h):=I.De (xh (I.sub_le _ _) λg e=>by
  cases q:ab.sub U g.block with
  |none=>rfl
  |some J=>exact absurd (I.Gb (by rw[q];simp)) (P4 g e)) λo ae=>I.none_le x.le (I.Gb ae)
 refine⟨I.le_trans aO ha,I.le_trans (I.sub_le _ _) ha,λo ae=>I.Gb ae,λg e=>⟨I.none_le aO (az g e),I.ax5 (az g e)⟩,?_,bw.aeQ _ _ _ _ _ _ af x.El (λo ae=>I.none_le x.gF (I.Gb ae)) s1 s2,by rw[bw.Ty,x.len]⟩;rw[bw.Tx,zS,List.flatten_singleton];exact am
theorem Iy(t n:Int)(B:Option ar)(m c:Nat):∀u∈iF t n B m c,u.oneCell'=true:=by
 intro u h;simp only[iF,dC,th,or_false]at h;rcases h with rfl|rfl|rfl<;>rfl
def rep{α:Type}:Nat->List α->List α
 |0,_=>[]
 |k+1,w=>w++rep k w
def hr:cX->List Int
 |.nil=>[]
 |.cons t n b r=>rep t.toNat (bif b.leaf then[n]else hr b)++hr r
theorem ad3{α:Type}(w:List α):∀k,(rep k w).length=k*w.length
 |0=>by simp[rep]
 |k+1=>by rw[rep,fb,ad3 w k,Nat.succ_mul];omega
theorem KS:∀f:cX,(hr f).length=fj f
 |.nil=>rfl
 |.cons t n b r=>by
  simp only[hr,fj,fb,ad3,KS r];cases b.leaf with
  |true=>rfl
  |false=>simp only[pR,KS b]
theorem aFx(h:qE f=0):nW f/\fj f<=2048:=by
 obtain⟨h1,ab⟩:=Wo h;exact⟨KP _ _ _ h1,ab⟩
theorem Mt(l:List Int):∀u∈l.map R,u.oneCell'=true:=by
 intro u h;obtain⟨z,_,rfl⟩:=dn.1 h;rfl
theorem bz.jr{D:Option ar}{q:List Int}(x:bz h 3 1 D n c (q.map R)):bg h 1 D n (q.map λz=>[R z]):=by
 refine bz.dG (bs:=3) (cap:=c) ?_ (Rg q) (by decide);rw[wd];exact x
structure vR(bs size:Nat)(h U:I)(D:Option ar)(n c:Nat)(xs:List ao):Prop where
 le:h.le U
 row:bz U bs size D n c xs
 rv:∀g,D=some g->h g.block=none
theorem vR.nil(bs size:Nat)(h:I):vR bs size h h none 0 0 []:=⟨I.le_refl h,⟨by simp,.inl ⟨rfl,rfl,rfl⟩⟩,λ_ e=>by cases e⟩
theorem vR.step{bs size:Nat}{h U ab an:I}{D nr:Option ar}{n c dR c2:Nat}{q w:List ao}(x:vR bs size h U D n c q)(c9:U.le ab)(ha:(ei ab D).le an)(am:bz an bs size nr dR c2 (q++w))(az:∀g,nr=some g->ei ab D g.block=none):vR bs size h an nr dR c2 (q++w):=by
 have aO:h.le (ei ab D):=xh (I.le_trans x.le c9) x.rv;exact⟨I.le_trans aO ha,am,λg e=>I.none_le aO (az g e)⟩
abbrev qz:=Int×Nat
def wF(r:qz):List ao:=[R r.1,R r.2]
def xV(l:List qz):List ao:=(l.map wF).flatten
theorem adR(a b:List qz):xV (a++b)=xV a++xV b:=by simp[xV]
def fy:List Int->List qz
 |[]=>[]
 |x::l=>match fy l with
  |(y,k)::r=>if y=x then(x,k+1)::r else(x,1)::(y,k)::r
  |[]=>[(x,1)]
theorem axd:∀l:List Int,(fy l).head?.map (·.1)=l.head?
 |[]=>rfl
 |x::l=>by
  grind [fy]
theorem MY:∀l:List Int,(fy l).length<=l.length
 |[]=>dd _
 |x::l=>by
  have:=MY l;simp only[fy]
  grind
theorem aek(x:Int)(t:List Int)(av:t.head?≠some x):∀k:Nat,fy (bG (k+1) x++t)=(x,k+1)::fy t
 |0=>by
  have:=axd t;show fy (x::t)=_;simp only[fy]
  grind
 |k+1=>by
  rw[GO,wS,fy,aek x t av k];simp
theorem ajV{l:List Int}(ag:i<l.length):l.drop i=l[i]::l.drop (i+1):=List.drop_eq_getElem_cons ag
theorem aej(D:Option ar)(n cap:Nat)(l:List Int)(h:I)(aY:bg h 1 D n (l.map λz=>[R z]))(aC:n<=8796093022207):Fn aH 16 #[.slice D n cap] h λv U=>∃E m c,v= .slice E m c/\m=(fy l).length/\vR 130 2 h U E m c (xV (fy l)):=by
 have al:l.length=n:=by simpa using aY.len
 have ik:=MY l;refine b5 ary rfl ?_;refine .kU [] (Nat×Option ar×Nat×Nat×List qz) [0,3,4] (λ(i,E,m,c,_)=>[.v (.slice D n cap),.v (.slice E m c),.v (R i)]) (λ_=>[]) (λ(i,E,m,c,q) U=>i<=n/\m=q.length/\vR 130 2 h U E m c (xV q)/\q++fy (l.drop i)=fy l) (λ(i,_,_,_,_)=>n-i) (0,none,0,0,[]) (λ_=>rfl) ⟨cO _,rfl,vR.nil 130 2 h,rfl⟩ rfl rfl rfl ?_;rintro⟨i,E,m,c,q⟩ e U ⟨ag,hm,aq,he⟩;refine .done ?_;refine aW (λh1=>?_) (λh1=>?_);have ea:i<l.length:=by omega
 obtain⟨g,ak⟩:=aY.cc (by omega);have at_:∀(U:I)(k:Nat)(hk:k<l.length),h.le U->U.cell? (g.add (k*1))=some (R l[k]):=λU k hk x=>by
  exact(aY.mono x).one ak (iM hk) rfl
 refine .kU [] Nat [0,3,4,5] (λk=>[.v (.slice D n cap),.v (.slice E m c),.v (R i),.v (R k)]) (λ_=>[]) (λk U=>i<=k/\k<=n/\vR 130 2 h U E m c (xV q)/\l.drop i=bG (k-i) l[i]++l.drop k) (λk=>n-k) i (λ_=>rfl) ⟨dd _,ag,aq,by simp⟩ rfl rfl rfl ?_;rintro k e U ⟨HY,i9,aq,aB⟩;refine .done ?_;have fin:l[k]?≠some l[i]->i<k->q++((l[i],k-i)::fy (l.drop k))=fy l:=λbH Zq=>by
  rw[<-he,aB,show k-i=(k-i-1)+1 by omega,aek _ _ (by simp_all)]
 refine aW (λab=>?_) (λab=>?_);have br:k<l.length:=by omega
 refine .m g ak ?_;refine .hp _ (by rw[bq];exact at_ U k br aq.le) ?_;refine .m g ak ?_;refine .hp _ (by rw[bq];exact at_ U i ea aq.le) ?_;refine aW (λan=>?_) (λan=>?_);refine .aLS ?_;refine .done ⟨k+1,rfl,rfl,⟨by omega,by omega,aq,?_⟩,by omega⟩;rw[aB,ajV br,an,show k+1-i=(k-i)+1 by omega,List.replicate_succ',mb];rfl;have Zq:i<k:=by
  grind
 have az:=fin (by grind) Zq;refine .m g ak ?_;refine .hp _ (by rw[bq];exact at_ U i ea aq.le) ?_;refine .aLS ?_;rw[show(k:Int)- (i:Int)=((k-i:Nat):Int) by omega];have an1:q.length<=n:=by
  grind
 refine .abs 130 2 E m c _ aq.row (.done (.cR 1 _ (wF (l[i],k-i)) rfl rfl (by intro u hu;simp only[wF,dC,th,or_false]at hu;rcases hu with rfl|rfl<;>rfl) (by grind [c']) (by omega) λgC c2 HC=>?_));refine .bV 1 130 2 gC (m+1) c2 _ rfl λaR gm hg ss=>.done ⟨(k,gC,m+1,c2,q++[(l[i],k-i)]),rfl,rfl,⟨i9,by simp[hm],?_,by grind⟩,by grind⟩;rw[adR];exact aq.step (I.le_refl _) gm hg ss;obtain rfl:k=n:=by omega
 have az:=fin (by grind) (by omega);refine .m g ak ?_;refine .hp _ (by rw[bq];exact at_ U i ea aq.le) ?_;refine .aLS ?_;rw[show(k:Int)- (i:Int)=((k-i:Nat):Int) by omega];have an1:q.length<=k:=by
  grind
 refine .abs 130 2 E m c _ aq.row (.done (.cR 1 _ (wF (l[i],k-i)) rfl rfl (by intro u hu;simp only[wF,dC,th,or_false]at hu;rcases hu with rfl|rfl<;>rfl) (by grind [c']) (by omega) λgC c2 HC=>?_));refine .bV 1 130 2 gC (m+1) c2 _ rfl λaR gm hg ss=>.done ⟨(k,gC,m+1,c2,q++[(l[i],k-i)]),rfl,rfl,⟨i9,by simp[hm],?_,by grind⟩,by grind⟩;rw[adR];exact aq.step (I.le_refl _) gm hg ss;obtain rfl:i=n:=by omega
 rw[List.drop_of_length_le (by omega)]at he;have H9:q=fy l:=by simp[<-he,fy]
 rw[H9]at aq hm;exact .done ⟨E,m,c,rfl,hm,aq⟩
theorem awk(l:List qz):∀r∈l.map wF,r.length=2:=by
 intro r am;obtain⟨a,_,rfl⟩:=dn.1 am;rfl
theorem vR.dG{h U:I}{D:Option ar}{m c:Nat}{q:List qz}(x:vR 130 2 h U D m c (xV q)):bg U 2 D m (q.map wF):=x.row.dG (awk q) (by decide)
theorem aet(A B:Option ar)(n m cx c8:Nat)(a b:List Int)(h:I)(aO:bg h 1 A n (a.map λz=>[R z]))(bW:bg h 1 B m (b.map λz=>[R z]))(aC:n<=9223372036854775806):Fn aH 12 #[.slice A n cx,.slice B m c8] h λr U=>r= .bool (decide (a=b))/\U=h:=by
 have fB:a.length=n:=by simpa using aO.len
 have qN:b.length=m:=by simpa using bW.len
 refine b5 aaP rfl ?_;refine aW (λh1=>?_) (λh1=>?_);refine .done ⟨?_,rfl⟩;rw[gU (λe=>by grind)];rfl;have H3:n=m:=by omega
 subst H3;refine .mk Nat [0,1,5] (λk=>[.v (.slice A n cx),.v (.slice B n c8),.v (R k)]) (λ_=>[]) (λk U=>U=h/\k<=n/\a.take k=b.take k) (λk=>n-k) 0 (λ_=>rfl) ⟨rfl,cO _,by simp⟩ rfl rfl ?_;rintro k e U ⟨rfl,hk,mR⟩;refine aW (λab=>?_) (λab=>?_);have br:k<n:=by omega
 obtain⟨g,ak⟩:=aO.cc (by omega);obtain⟨g2,gV⟩:=bW.cc (by omega);have iD:=TM mR (by omega) (by omega);refine .m g ak ?_;refine .hp (R (a[k]'(by omega))) (by rw[bq];exact aO.one ak (r:=[R (a[k]'(by omega))]) (by grind) rfl) ?_;refine .m g2 gV ?_;refine .hp (R (b[k]'(by omega))) (by rw[bq];exact bW.one gV (r:=[R (b[k]'(by omega))]) (by grind) rfl) ?_;refine aW (λan=>?_) (λan=>?_);refine .done ⟨?_,rfl⟩;rw[gU (λe=>an (by grind))];rfl;refine .aLS ?_;exact⟨k+1,rfl,rfl,⟨rfl,br,iD.2 (Gu.1 an)⟩,by omega⟩;have:k=n:=by omega
 subst this;refine .done ⟨?_,rfl⟩;rw[k4 (by omega),k4 (by omega)]at mR;rw[fo mR];rfl
theorem bg.at_{size:Nat}{rows:List (List ao)}(t:bg h size A n rows)(e:∀g,A=some g->h g.block=U g.block):bg U size A n rows:=by
 refine⟨t.len,t.wid,t.cc,λg ak i r am o v ah=>?_⟩;have:=t.cell g ak i r am o v ah;have he:=e g ak;unfold I.cell? at this⊢;have af:(g.add (i*size+o)).block=g.block:=by unfold Gn;grind
 grind
theorem bg.mem{g:ar}{l:List Int}(t:bg h 1 (some g) n (l.map λz=>[R z]))(aC:n≠0):h g.block≠none:=by
 have al:l.length=n:=by simpa using t.len
 obtain⟨z,aY⟩:∃z,l[0]?=some z:=⟨_,bZ (by omega)⟩;have:=t.one rfl (i:=0) (r:=[R z]) (by grind) rfl;intro af;have mj:(g.add (0*1)).block=g.block:=by rfl
 unfold I.cell? at this
 grind
theorem ps{l:List ao}{ty:Nat}(af:h b=some (.cells l.toArray ty (0,0))){v:ao}(ah:l[o]?=some v):h.cell? ⟨b,o,none⟩=some v:=by
 unfold I.cell?;grind
theorem PN:∀f:cX,nW f->pb f<=fj f
 |.nil,_=>dd _
 |.cons t n b r,⟨h1,ab,an⟩=>by
  have i2:=PN r an;have i1:=PN b ab;have ag:=aHm ab;have aD:1*mU b<=t.toNat*mU b:=pN _ (by omega);rw[TQ];simp only[pb];unfold mU at*
  grind
theorem XZ(g:cX):∀f:cX,hr (f.app g)=hr f++hr g
 |.nil=>rfl
 |.cons t n b r=>by simp only[cX.app,hr,XZ g r,mb]
theorem PM:∀{f:cX},f.leaf=false->1<=pb f
 |.nil,h=>by cases h
 |.cons t n b r,_=>by
  simp only[pb];cases al:b.leaf with
  |true=>simp
  |false=>have:=PM al;grind
abbrev fw:=Int×Int×cX
variable {l:List fw}
def cX.dK:cX->List fw
 |.nil=>[]
 |.cons t n b r=>(t,n,b)::r.dK
def fp:List fw->cX
 |[]=>.nil
 |(t,n,b)::l=>.cons t n b (fp l)
theorem Pq:∀l,(fp l).dK=l
 |[]=>rfl
 |(t,n,b)::l=>by simp only[fp,cX.dK,Pq l]
theorem zm:∀f:cX,fp f.dK=f
 |.nil=>rfl
 |.cons t n b r=>by simp only[fp,cX.dK,zm r]
theorem at0{f g:List fw}(h:fp f=fp g):f=g:=by rw[<-Pq f,h,Pq]
theorem W8(g:cX):∀f:cX,(f.app g).dK=f.dK++g.dK
 |.nil=>rfl
 |.cons t n b r=>by simp only[cX.app,cX.dK,W8 g r,wS]
theorem ab9(m:List fw):∀l:List fw,fp (l++m)=(fp l).app (fp m)
 |[]=>rfl
 |(t,n,b)::l=>by simp only[wS,fp,cX.app,ab9 m l]
theorem W9:∀f:cX,f.dK.length=f.len
 |.nil=>rfl
 |.cons t n b r=>by simp only[cX.dK,gI,cX.len,W9 r]
def zO(w:Nat)(l:List fw)(o:Nat):Prop:=(o+1)*w<=l.length/\(l.drop (o*w)).take w=l.take w
instance (w:Nat)(l:List fw)(o:Nat):Decidable (zO w l o):=inferInstanceAs (Decidable (_/\_))
structure r'(w:Nat)(l:List fw)(m:Nat):Prop where
 pos:1<=m
 ok:∀o,1<=o->o<m->zO w l o
 no:¬zO w l m
theorem r'.uniq(a:r' w l m)(b:r' w l k):m=k:=by
 rcases Nat.lt_trichotomy m k with h|h|h;exact absurd (b.ok m a.pos h) a.no;omega;exact absurd (a.ok k b.pos h) b.no
def MQ(w:Nat)(l:List fw):Nat->Nat->Nat
 |0,m=>m
 |k+1,m=>if zO w l m then MQ w l k (m+1)else m
def d6(w:Nat)(l:List fw):Nat:=MQ w l l.length 1
theorem adX{w:Nat}(hw:1<=w)(l:List fw):∀k m,1<=m->(∀o,1<=o->o<m->zO w l o)->l.length<=k+m->r' w l (MQ w l k m)
 |0,m,h1,ab,an=>⟨h1,ab,λh=>by
  have h:(m+1)*w<=l.length:=h.1;have:m+1<=(m+1)*w:=Nat.le_mul_of_pos_right _ hw;omega⟩
 |k+1,m,h1,ab,an=>by
  unfold MQ;split;rename_i h;refine adX hw l k (m+1) (by omega) (λo tG p1=>?_) (by omega)
  grind
  rename_i h;exact⟨h1,ab,h⟩
theorem Dv(hw:1<=w)(l:List fw):r' w l (d6 w l):=adX hw l _ 1 (dd _) (λo h1 ab=>by omega) (by omega)
theorem r'.room(r:r' w l m)(h:2<=m):m*w<=l.length:=by
 have:=(r.ok (m-1) (by omega) (by omega)).1
 grind
def Bd(w:Nat):Nat->List fw->List fw
 |0,_=>[]
 |_+1,[]=>[]
 |k+1,x::l=>if d6 w (x::l)=1 then x::Bd w k l else((d6 w (x::l):Int),0,fp ((x::l).take w))::Bd w k ((x::l).drop (d6 w (x::l)*w))
theorem SN{w:Nat}(hw:1<=w):∀k e1(l:List fw),l.length<=k->l.length<=e1->Bd w k l=Bd w e1 l
 |0,0,_,_,_=>rfl
 |0,e1+1,l,h,_=>by
  obtain rfl:l=[]:=ra (by omega);rfl
 |k+1,0,l,_,h=>by
  obtain rfl:l=[]:=ra (by omega);rfl
 |k+1,e1+1,[],_,_=>rfl
 |k+1,e1+1,x::l,h,U=>by
  simp only[Bd];simp only[gI]at h U;split;rw[SN hw k e1 l (by omega) (by omega)];have hp:=(Dv hw (x::l)).pos;have aB:((x::l).drop (d6 w (x::l)*w)).length<=l.length:=by
   have:1<=d6 w (x::l)*w:=ns hp hw
   grind
  rw[SN hw k e1 _ (by omega) (by omega)]
def io(w:Nat)(l:List fw):List fw:=Bd w l.length l
theorem avw(w:Nat):io w []=[]:=rfl
theorem FU{x:fw}(hw:1<=w)(h:r' w (x::l) 1):io w (x::l)=x::io w l:=by
 unfold io;simp only[gI,Bd];rw[aX ((Dv hw _).uniq h)]
theorem I7(hw:1<=w)(h:r' w l m)(hm:2<=m):io w l=((m:Int),0,fp (l.take w))::io w (l.drop (m*w)):=by
 have am:=h.room hm;cases l with
 |nil=>
  have:1<=m*w:=ns h.pos hw
  grind
 |cons x l=>
  have e:=(Dv hw _).uniq h;unfold io;simp only[gI,Bd];rw[aE (by omega),e];congr 1;refine SN hw _ _ _ ?_ (dd _);have:1<=m*w:=ns h.pos hw
  grind
def ng(l:List fw):Nat:=(fp l).bF
theorem Es(x:fw)(l:List fw):ng (x::l)=1+x.2.2.bF+ng l:=by
 grind [ng,fp,cX.bF]
theorem Kt(m:List fw):∀l:List fw,ng (l++m)=ng l+ng m
 |[]=>by simp[ng,fp,cX.bF]
 |x::l=>by rw[wS,Es,Es,Kt m l];omega
theorem Wv:∀l:List fw,l.length<=ng l
 |[]=>cO _
 |x::l=>by have:=Wv l;rw[Es,gI];omega
theorem aju(k:Nat)(l:List fw):ng (l.drop k)<=ng l:=by
 have:=Kt (l.drop k) (l.take k);simp_all
theorem Do{w:Nat}(hw:1<=w):∀(N:Nat)(l:List fw),l.length<=N->ng (io w l)<=ng l/\(io w l).length<=l.length
 |N,[],_=>⟨dd _,dd _⟩
 |0,x::l,h=>by simp at h
 |N+1,x::l,h=>by
  simp only[gI]at h;have am:=Dv hw (x::l);by_cases h1:d6 w (x::l)=1;rw[h1]at am;obtain⟨a,b⟩:=Do hw N l (by omega);rw[FU hw am,Es,Es]
  grind
  have ab:2<=d6 w (x::l):=by have:=am.pos;omega
  obtain⟨m,hm⟩:∃m,m=d6 w (x::l):=⟨_,rfl⟩;rw[<-hm]at am ab;have rI:=am.room ab;have QK:2*w<=m*w:=pN w ab;rw[I7 hw am ab,Es];obtain⟨b3,jL⟩:∃b3,b3=x::l:=⟨_,rfl⟩;rw[<-jL]at am rI⊢;have eb:b3.length=l.length+1:=by grind
  obtain⟨a,b⟩:=Do hw N (b3.drop (m*w)) (by grind);have ak:=(am.ok 1 (dd _) (by omega)).2;rw[Nat.one_mul]at ak;have aJ:=Kt (b3.drop w) (b3.take w);rw[BI]at aJ;have aI:=Kt ((b3.drop w).drop w) ((b3.drop w).take w);rw[BI,ak]at aI;have ck:ng (b3.drop (m*w))<=ng ((b3.drop w).drop w):=by
   have:b3.drop (m*w)=((b3.drop w).drop w).drop (m*w-2*w):=by
    rw[JW,JW];grind
   rw[this];exact aju _ _
  have eE:=Wv (b3.take w);rw[List.length_take]at eE;simp only[gI];rw[List.length_drop]at b;refine⟨?_,by omega⟩;show 1+ng (b3.take w)+_<=_;omega
def nv:Nat->Nat->List fw->List fw
 |0,_,l=>l
 |k+1,w,l=>if w<=16/\2*w<=l.length then(if(io w l).length<l.length then nv k 1 (io w l)else nv k (w+1) (io w l))else l
def comp(l:List fw):List fw:=nv (20*l.length+20) 1 l
structure dj where
 a':List (Int×Int×Nat)
 ls:List (Nat×Nat)
 aDu:Nat->fw
 kI:Nat->List fw
variable {N:dj}
structure dj.Ok(N:dj):Prop where
 rN:N.kI 0=[]
 dv:∀k a b,N.ls[k]?=some (a,b)->a<=N.ls.length/\1<=b/\b<=N.a'.length/\N.kI (k+1)=N.kI a++[N.aDu b]
 fn:∀k t n b,N.a'[k]?=some (t,n,b)->b<=N.ls.length/\N.aDu (k+1)=(t,n,fp (N.kI b))
 vd:∀a b,a<=N.ls.length->b<=N.ls.length->N.kI a=N.kI b->a=b
 tA:∀a b,1<=a->1<=b->a<=N.a'.length->b<=N.a'.length->N.aDu a=N.aDu b->a=b
structure dj.Ext(N M:dj):Prop where
 uU:N.a'.length<=M.a'.length
 hY:N.ls.length<=M.ls.length
 B':∀k,k<=N.a'.length->M.aDu k=N.aDu k
 el:∀k,k<=N.ls.length->M.kI k=N.kI k
def dj.gp(N:dj):Nat:=N.a'.length+N.ls.length
theorem dj.Ext.refl(N:dj):N.Ext N:=⟨dd _,dd _,λ_ _=>rfl,λ_ _=>rfl⟩
theorem dj.Ext.trans{M K:dj}(x:N.Ext M)(y:M.Ext K):N.Ext K:=⟨hT x.uU y.uU,hT x.hY y.hY,λk hk=>by rw[y.B' k (hT hk x.uU),x.B' k hk],λk hk=>by rw[y.el k (hT hk x.hY),x.el k hk]⟩
def dj.fresh:dj:=⟨[],[],λ_=>(0,0,.nil),λ_=>[]⟩
theorem dj.alw:dj.fresh.Ok:=⟨rfl,λk a b h=>by grind [dj.fresh],λk t n b h=>by grind [dj.fresh],λa b a6 af _=>by grind [dj.fresh],λa b h1 _ ab=>by grind [dj.fresh]⟩
def dj.link(N:dj)(a b:Nat):dj:=⟨N.a',N.ls++[(a,b)],N.aDu,λk=>if k=N.ls.length+1 then N.kI a++[N.aDu b]else N.kI k⟩
def dj.sl(N:dj)(t n:Int)(b:Nat):dj:=⟨N.a'++[(t,n,b)],N.ls,λk=>if k=N.a'.length+1 then(t,n,fp (N.kI b))else N.aDu k,N.kI⟩
theorem dj.abQ(N:dj)(a b:Nat):N.Ext (N.link a b):=⟨dd _,by simp[dj.link],λ_ _=>rfl,λk hk=>by
 grind [dj.link]⟩
theorem dj.XG(N:dj)(t n:Int)(b:Nat):N.Ext (N.sl t n b):=⟨by simp[dj.sl],dd _,λk hk=>by
 grind [dj.sl],λ_ _=>rfl⟩
theorem dj.Ok.akT(J:N.Ok)(hk:k<=N.ls.length)(a6:a<=N.ls.length)(h1:1<=b)(af:b<=N.a'.length)(h:N.kI k=N.kI a++[N.aDu b]):∃i,k=i+1/\N.ls[i]?=some (a,b):=by
 cases k with
 |zero=>simp_all[J.rN]
 |succ i=>
  refine⟨i,rfl,?_⟩;obtain⟨⟨ey,eP⟩,ad⟩:∃x,N.ls[i]?=some x:=⟨_,bZ (by omega)⟩;obtain⟨aM,aD,bj,bT⟩:=J.dv i ey eP ad;rw[bT]at h;obtain⟨aJ,aI⟩:=List.append_inj' h rfl;have Hf:=J.vd ey a aM a6 aJ;injection aI with aI;have cK:=J.tA eP b aD h1 bj af aI
  grind
theorem dj.atq(J:N.Ok)(a6:a<=N.ls.length)(h1:1<=b)(af:b<=N.a'.length)(aC:(a,b)∉N.ls):(N.link a b).Ok:=by
 have bH:∀k,k<=N.ls.length->N.kI k≠N.kI a++[N.aDu b]:=λk hk h=>by
  obtain⟨i,_,ag⟩:=J.akT hk a6 h1 af h
  grind
 have aF:∀k,k<=N.ls.length->(N.link a b).kI k=N.kI k:=(N.abQ a b).el;have yY:(N.link a b).kI (N.ls.length+1)=N.kI a++[N.aDu b]:=by simp[dj.link]
 have eb:(N.link a b).ls.length=N.ls.length+1:=by simp[dj.link]
 refine⟨by rw[aF 0 (cO _)];exact J.rN,λk c d hk=>?_,λk t n c hk=>?_,λc d aw aB h=>?_,J.tA⟩;have br:(N.ls++[(a,b)])[k]?=some (c,d):=hk;rw[JY]at br;split at br;rename_i di;obtain⟨aM,aD,bj,bT⟩:=J.dv k c d br;exact⟨by omega,aD,bj,by rw[aF _ (by omega),aF _ aM];exact bT⟩;rename_i di;have mm:k-N.ls.length=0:=by
  grind
 rw[mm]at br;simp at br;obtain⟨rfl,rfl⟩:=br;obtain rfl:k=N.ls.length:=by omega
 exact⟨by omega,h1,af,by rw[yY,aF _ a6];rfl⟩;obtain⟨aM,aD⟩:=J.fn k t n c hk;exact⟨by omega,by rw[aF _ aM];exact aD⟩;rw[eb]at aw aB;by_cases aJ:c=N.ls.length+1
 grind
 by_cases aI:d=N.ls.length+1
 grind
 rw[aF c (by omega),aF d (by omega)]at h;exact J.vd c d (by omega) (by omega) h
theorem dj.Ok.akS(J:N.Ok)(ai:1<=k)(hk:k<=N.a'.length){n:Int}(af:b<=N.ls.length)(h:N.aDu k=(t,n,fp (N.kI b))):∃i,k=i+1/\N.a'[i]?=some (t,n,b):=by
 cases k with
 |zero=>omega
 |succ i=>
  refine⟨i,rfl,?_⟩;obtain⟨⟨hy,hE,eP⟩,ad⟩:∃x,N.a'[i]?=some x:=⟨_,bZ (by omega)⟩;obtain⟨aM,aD⟩:=J.fn i hy hE eP ad;rw[aD]at h;injection h with aJ aI;injection aI with aI ck;have cK:=J.vd eP b aM af (at0 ck)
  grind
theorem dj.akG(J:N.Ok){n:Int}(af:b<=N.ls.length)(aC:(t,n,b)∉N.a'):(N.sl t n b).Ok:=by
 have bH:∀k,1<=k->k<=N.a'.length->N.aDu k≠(t,n,fp (N.kI b)):=λk ai hk h=>by
  obtain⟨i,_,ag⟩:=J.akS ai hk af h
  grind
 have bm:∀k,k<=N.a'.length->(N.sl t n b).aDu k=N.aDu k:=(N.XG t n b).B';have yY:(N.sl t n b).aDu (N.a'.length+1)=(t,n,fp (N.kI b)):=by simp[dj.sl]
 have eb:(N.sl t n b).a'.length=N.a'.length+1:=by simp[dj.sl]
 refine⟨J.rN,λk c d hk=>?_,λk hy hE c hk=>?_,J.vd,λc d h1 ab aw aB h=>?_⟩;obtain⟨aM,aD,bj,bT⟩:=J.dv k c d hk;exact⟨aM,aD,by omega,by rw[bm d bj];exact bT⟩;have br:(N.a'++[(t,n,b)])[k]?=some (hy,hE,c):=hk;rw[JY]at br;split at br;rename_i di;obtain⟨aM,aD⟩:=J.fn k hy hE c br;exact⟨aM,by rw[bm _ (by omega)];exact aD⟩;rename_i di;have mm:k-N.a'.length=0:=by
  grind
 rw[mm]at br;simp at br;obtain⟨rfl,rfl,rfl⟩:=br;obtain rfl:k=N.a'.length:=by omega
 exact⟨af,yY⟩;rw[eb]at aw aB;by_cases aJ:c=N.a'.length+1
 grind
 by_cases aI:d=N.a'.length+1
 grind
 rw[bm c (by omega),bm d (by omega)]at h;exact J.tA c d h1 ab (by omega) (by omega) h
def Hp(x:Int×Int×Nat):List Int:=[x.1,x.2.1,(x.2.2:Int)]
def IG(x:Nat×Nat):List Int:=[(x.1:Int),(x.2:Int)]
theorem ald{x y:Int×Int×Nat}(h:Hp x=Hp y):x=y:=by
 grind [Hp,yp]
theorem atr{x y:Nat×Nat}(h:IG x=IG y):x=y:=by
 grind [IG,yp]
structure vD{α:Type}(key:α->List Int)(l:List α)(es:List gr):Prop where
 len:es.length=l.length
 at_:∀(i:Nat)(e:gr)(x:α),es[i]?=some e->l[i]?=some x->e.k=key x/\e.v=R ((i+1:Nat):Int)
theorem VJ:∀(es:List gr)(k:List Int),iw es k=none->∀(i:Nat)(e:gr),es[i]?=some e->e.k≠k
 |[],_,_,i,e,h=>by simp at h
 |x::es,k,h,i,e,he=>by
  simp only[iw]at h;split at h
  grind
  rename_i bH;cases i with
  |zero=>grind
  |succ i=>exact VJ es k h i e (by grind)
theorem VK:∀(es:List gr)(k:List Int)(v:ao),iw es k=some v->∃(i:Nat)(e:gr),es[i]?=some e/\e.k=k/\e.v=v
 |[],_,_,h=>by cases h
 |x::es,k,v,h=>by
  simp only[iw]at h;split at h;rename_i he;injection h with h;exact⟨0,x,rfl,he.symm,h⟩;obtain⟨i,e,h1,ab⟩:=VK es k v h;exact⟨i+1,e,by grind,ab⟩
theorem DK:∀(es:List gr)(k:List Int)(v:ao)(c:Nat),iw es k=none->upsert es k v c=es++[⟨k,v,c⟩]
 |[],_,_,_,_=>rfl
 |x::es,k,v,c,h=>by
  simp only[iw]at h;split at h
  grind
  rename_i bH;simp only[upsert,aE bH,DK es k v c h,wS]
theorem vD.none{α:Type}{key:α->List Int}{l:List α}{es:List gr}(s:vD key l es){x:α}(h:iw es (key x)= .none):x∉l:=λad=>by
 obtain⟨i,ag⟩:=List.getElem?_of_mem ad;have di:=(qt.1 ag).1;obtain⟨e,he⟩:∃e,es[i]?=some e:=⟨_,bZ (by grind [s.len])⟩;exact VJ es _ h i e he (s.at_ i e x he ag).1
theorem vD.some{α:Type}{key:α->List Int}(hk:∀x y,key x=key y->x=y){l:List α}{es:List gr}(s:vD key l es){x:α}{v:ao}(h:iw es (key x)= .some v):∃i,l[i]?= .some x/\v=R ((i+1:Nat):Int):=by
 obtain⟨i,e,h1,ab,an⟩:=VK es _ v h;have di:=(qt.1 h1).1;obtain⟨y,aQ⟩:∃y,l[i]?=Option.some y:=⟨_,bZ (by simp_all[<-s.len])⟩;obtain⟨aM,aD⟩:=s.at_ i e y h1 aQ
 grind
theorem vD.add{α:Type}{key:α->List Int}{l:List α}(s:vD key l es)(x:α)(c:Nat):vD key (l++[x]) (es++[⟨key x,R ((es.length:Int)+1),c⟩]):=by
 refine⟨by simp[s.len],λi e y he aQ=>?_⟩;rw[JY]at he aQ;rw[s.len]at he;split at he;rename_i di;rw[aX di]at aQ;exact s.at_ i e y he aQ
 grind
structure h3(h:I)(c6 cd b9:Nat)(N:dj):Prop where
 cell:h c6=some (.cells [.map (some cd),.map (some b9)].toArray 284 (0,0))
 f:∃es b',wV h cd 8 es b'/\vD Hp N.a' es
 l:∃es b',wV h b9 7 es b'/\vD IG N.ls es
 ne:cd≠b9
 ok:N.Ok
theorem h3.aul(x:h3 h c6 cd b9 N):c6≠cd:=λe=>by
 obtain⟨es,b',hm,_⟩:=x.f;have h1:=x.cell;rw[e,hm.at_]at h1;cases h1
theorem h3.aum(x:h3 h c6 cd b9 N):c6≠b9:=λe=>by
 obtain⟨es,b',hm,_⟩:=x.l;have h1:=x.cell;rw[e,hm.at_]at h1;cases h1
theorem h3.mono(x:h3 h c6 cd b9 N)(l:h.le U):h3 U c6 cd b9 N:=⟨l _ _ x.cell,let⟨es,b',hm,s⟩:=x.f;⟨es,b',⟨l _ _ hm.at_,hm.keys⟩,s⟩,let⟨es,b',hm,s⟩:=x.l;⟨es,b',⟨l _ _ hm.at_,hm.keys⟩,s⟩,x.ne,x.ok⟩
def I.off(h:I)(cd b9:Nat):I:=λo=>if o=cd\/o=b9 then none else h o
theorem I.xQ(h:I)(cd b9:Nat):(h.off cd b9).le h:=λo J e=>by
 unfold I.off at e;grind
theorem I.FL(h1:o≠cd)(ab:o≠b9):h.off cd b9 o=h o:=by
 unfold I.off;grind
theorem I.auU(J:Obj):(h.put cd J).off cd b9=h.off cd b9:=by
 funext o;unfold I.off;split;rfl;rename_i q;rw[I.cf _ _ (λe=>q (.inl e))]
theorem I.auV(J:Obj):(h.put b9 J).off cd b9=h.off cd b9:=by
 funext o;unfold I.off;split;rfl;rename_i q;rw[I.cf _ _ (λe=>q (.inr e))]
theorem I.IY(x:h.le U):(h.off cd b9).le (U.off cd b9):=λo J e=>by
 unfold I.off at e⊢;split at e
 grind
 rename_i q;rw[aE q];exact x o J e
theorem h3.aiH(x:h3 h c6 cd b9 N)(a6:a<=N.ls.length)(h1:1<=b)(af:b<=N.a'.length){b' ii:Nat}(hm:wV h b9 7 es b')(s:vD IG N.ls es)(aC:iw es [(a:Int),(b:Int)]=none):h3 (h.put b9 (jE 7 (upsert es [(a:Int),(b:Int)] (R ((es.length:Int)+1)) c) ii)) c6 cd b9 (N.link a b):=by
 have sz:(a,b)∉N.ls:=s.none (x:=(a,b)) aC;obtain⟨KI,Kr,oO,s2⟩:=x.f;refine⟨by rw[I.cf _ _ x.aum];exact x.cell,⟨KI,Kr,⟨by rw[I.cf _ _ x.ne];exact oO.at_,oO.keys⟩,s2⟩,⟨_,ii,⟨I.bP _ _ _,λe he=>?_⟩,?_⟩,x.ne,dj.atq x.ok a6 h1 af sz⟩;rw[DK _ _ _ _ aC]at he;rcases ev.1 he with he|he;exact hm.keys e he;rw[fx.1 he];rfl;rw[DK _ _ _ _ aC];exact s.add (a,b) c
theorem h3.aiF(x:h3 h c6 cd b9 N){n:Int}(af:b<=N.ls.length){b' ii:Nat}(hm:wV h cd 8 es b')(s:vD Hp N.a' es)(aC:iw es [t,n,(b:Int)]=none):h3 (h.put cd (jE 8 (upsert es [t,n,(b:Int)] (R ((es.length:Int)+1)) c) ii)) c6 cd b9 (N.sl t n b):=by
 have sz:(t,n,b)∉N.a':=s.none (x:=(t,n,b)) aC;obtain⟨KI,Kr,oO,s2⟩:=x.l;refine⟨by rw[I.cf _ _ x.aul];exact x.cell,⟨_,ii,⟨I.bP _ _ _,λe he=>?_⟩,?_⟩,⟨KI,Kr,⟨by rw[I.cf _ _ (d9 x.ne)];exact oO.at_,oO.keys⟩,s2⟩,x.ne,dj.akG x.ok af sz⟩;rw[DK _ _ _ _ aC]at he;rcases ev.1 he with he|he;exact hm.keys e he;rw[fx.1 he];rfl;rw[DK _ _ _ _ aC];exact s.add (t,n,b) c
theorem abP(aC:h3 h c6 cd b9 N)(a6:a<=N.ls.length)(h1:1<=b)(af:b<=N.a'.length)(ht:N.gp<=4000000000):Fn aH 128 #[hj c6,R a,R b] h λv U=>∃(M:dj)(r:Nat),v=R r/\N.Ext M/\h3 U c6 cd b9 M/\M.kI r=N.kI a++[N.aDu b]/\r<=M.ls.length/\M.gp<=N.gp+1/\U.off cd b9=h.off cd b9:=by
 obtain⟨es,b',hm,s⟩:=aC.l;have eb:=s.len;simp only[dj.gp]at ht;refine b5 ara rfl ?_;refine .hp (.map (some b9)) (ps aC.cell rfl) ?_;refine .mk es b' hm ?_;cases aq:iw es [(a:Int),(b:Int)]with
 |some v=>
  obtain⟨i,ag,rfl⟩:=s.some (λ_ _=>atr) (x:=(a,b)) aq;refine .hp (.map (some b9)) (ps aC.cell rfl) ?_;refine .mk es b' hm ?_;rw[aq];have di:=(qt.1 ag).1;exact .done ⟨N,i+1,rfl,dj.Ext.refl N,aC,(aC.ok.dv i a b ag).2.2.2,di,ahJ _,rfl⟩
 |none=>
  refine .hp (.map (some b9)) (ps aC.cell rfl) ?_;refine .hp (.map (some b9)) (ps aC.cell rfl) ?_;refine .mk 7 es b' hm ?_;refine .aLS ?_;refine .mk es b' hm λii=>?_;have rG:=aC.aiH (ii:=ii) (c:=b') a6 h1 af hm s aq;refine .hp (.map (some b9)) (ps rG.cell rfl) ?_;obtain⟨KI,Kr,oO,s2⟩:=rG.l;refine .mk _ ii ⟨I.bP _ _ _,?_⟩ ?_;intro e he;rw[DK _ _ _ _ aq]at he;rcases ev.1 he with he|he;exact hm.keys e he;rw[fx.1 he];rfl;rw[OT,aX rfl];refine .done ⟨N.link a b,N.ls.length+1,?_,N.abQ a b,rG,?_,?_,?_,I.auV _⟩;rw[<-eb];rfl;simp[dj.link];simp[dj.link]
  grind [dj.link,dj.gp]
theorem XF(aC:h3 h c6 cd b9 N){n:Int}(af:b<=N.ls.length)(ht:N.gp<=4000000000):Fn aH 129 #[hj c6,.agg #[R t,R n,R b]] h λv U=>∃(M:dj)(r:Nat),v=R r/\N.Ext M/\h3 U c6 cd b9 M/\M.aDu r=(t,n,fp (N.kI b))/\1<=r/\r<=M.a'.length/\M.gp<=N.gp+1/\U.off cd b9=h.off cd b9:=by
 obtain⟨es,b',hm,s⟩:=aC.f;have eb:=s.len;simp only[dj.gp]at ht;refine b5 arb rfl ?_;refine .hp (.map (some cd)) (ps aC.cell rfl) ?_;refine .mk es b' hm ?_;cases aq:iw es [t,n,(b:Int)]with
 |some v=>
  obtain⟨i,ag,rfl⟩:=s.some (λ_ _=>ald) (x:=(t,n,b)) aq;refine .hp (.map (some cd)) (ps aC.cell rfl) ?_;refine .mk es b' hm ?_;rw[aq];have di:=(qt.1 ag).1;exact .done ⟨N,i+1,rfl,dj.Ext.refl N,aC,(aC.ok.fn i t n b ag).2,ahP _,di,ahJ _,rfl⟩
 |none=>
  refine .hp (.map (some cd)) (ps aC.cell rfl) ?_;refine .hp (.map (some cd)) (ps aC.cell rfl) ?_;refine .mk 8 es b' hm ?_;refine .aLS ?_;refine .mk es b' hm λii=>?_;have rG:=aC.aiF (ii:=ii) (c:=b') af hm s aq;refine .hp (.map (some cd)) (ps rG.cell rfl) ?_;refine .mk _ ii ⟨I.bP _ _ _,?_⟩ ?_;intro e he;rw[DK _ _ _ _ aq]at he;rcases ev.1 he with he|he;exact hm.keys e he;rw[fx.1 he];rfl;rw[OT,aX rfl];refine .done ⟨N.sl t n b,N.a'.length+1,?_,N.XG t n b,rG,?_,ahP _,?_,?_,I.auU _⟩;rw[<-eb];rfl;simp[dj.sl];simp[dj.sl]
  grind [dj.sl,dj.gp]
theorem abT:∀(K:Nat)(b:bw),b.bF<K->b.bF<=200000->∀(t n:Int)(B:Option ar)(m c:Nat)(h:I)(c6 cd b9:Nat)(N:dj),h3 h c6 cd b9 N->hU (h.off cd b9) B m b->N.gp+2*b.bF+1<=4000000000->Fn aH 126 #[hj c6,.agg (iF t n B m c).toArray] h λv U=>∃(M:dj)(r:Nat),v=R r/\N.Ext M/\h3 U c6 cd b9 M/\M.aDu r=(t,n,b.bn)/\1<=r/\r<=M.a'.length/\M.gp<=N.gp+2*b.bF+1/\U.off cd b9=h.off cd b9
 |0,b,db,_=>absurd db (BO _)
 |K+1,b,db,lU=>by
  intro t n B m c h c6 cd b9 N aC aj ht;have hm:m<=200000:=by have:=aj.1;have:=b.vk;omega
  refine b5 aq9 rfl ?_;refine .kU [0] (Nat×Nat×dj×bw) [0,3,5,9,10,11] (λ(i,k,_,_)=>[.v (hj c6),.p 0 0,.v (R k),.v (.slice B m c),.v (R m),.v (R i)]) (λ_=>[.own ((iF t n B m c).map .v) 199]) (λ(i,k,M,r) U=>h3 U c6 cd b9 M/\N.Ext M/\o9 (h.off cd b9) B m i r/\k<=M.ls.length/\M.kI k++r.bn.dK=b.bn.dK/\M.gp+2*r.bF<=N.gp+2*b.bF/\r.bF<=b.bF/\U.off cd b9=h.off cd b9) (λ(i,_,_,_)=>m-i) (0,0,N,b) (λ_=>rfl) ⟨aC,dj.Ext.refl N,aj.cB,cO _,by simp[aC.ok.rN],dd _,dd _,rfl⟩ rfl rfl rfl ?_;rintro⟨i,k,M,r⟩ e U ⟨kP,cV,av,hk,he,aY,ik,aL⟩;refine .done ?_;refine aW (λab=>?_) (λab=>?_);cases r with
  |nil=>have:=av.fin;omega
  |cons hy hE dS bc bu eP r=>
   obtain⟨g,bW,ag,aw,af,am⟩:=av.open;simp only[bw.bF]at ik aY;simp only[bw.bn,cX.dK]at he;refine .m g bW ?_;refine .hp (iF hy hE dS bc bu) rfl (by rw[bq];exactλo v ah=>I.kL (U.xQ cd b9) (by grind)) ?_;refine .done (.mk _ (abT K eP (by omega) (by omega) hy hE dS bc bu U c6 cd b9 M kP (by grind) (by omega)) ?_);rintro _ an ⟨Om,gi,rfl,DU,HE,P',P0,P1,aou,LA⟩;refine .done (.mk _ (abP HE (a:=k) (b:=gi) (hT hk DU.hY) P0 P1 (by omega)) ?_);rintro _ aR ⟨BL,fT,rfl,zN,Cz,Qb,Cu,Ra,CM⟩;refine .aLS ?_;refine .done ⟨(i+1,fT,BL,r),rfl,rfl,⟨Cz,cV.trans (DU.trans zN),am,Cu,?_,by omega,by omega,by grind⟩,by grind⟩;rw[Qb,P',DU.el k hk,<-he,mb];rfl
  cases r with
  |nil=>
   simp only[bw.bn,cX.dK,zR]at he;simp only[bw.bF]at aY;refine .done (.mk _ (XF kP (t:=t) (n:=n) (b:=k) hk (by omega)) ?_);rintro _ aR ⟨BL,fT,rfl,zN,Cz,Qa,P2,Cu,Ra,CM⟩;refine .done ⟨BL,fT,rfl,cV.trans zN,Cz,?_,P2,Cu,by omega,by grind⟩;rw[Qa,he,zm]
  |cons=>obtain⟨g,aO,ag,_⟩:=av.open;omega
end Go.Sx
