/- A part of the proof that the statement holds. Conditions: none. -/
import Derived.Test.YtlbdbpaelcnfgaaGreatDoorAC
import Derived.Test.YtlbdbpaelcnfgaaGreatDoorAO
open Bool renaming eq_false_iff->FG
open Decidable renaming byContradiction->wJ,not_not->akb,of_not_not->aGA
open Go renaming Addr->aI,Value->ax,madeCells->sI,maxLen->eD
open Go.Addr renaming add->LH,mk->nI
open Go.Obj renaming cells->bb
open Go.Proofs renaming ltOf->XG
open Go.Proofs.Tryz renaming prog->aB
open Go.Value renaming bool->c5,pointer->gv,slice->ab,tuple->ey
open Int renaming eq_ofNat_of_zero_le->aIM,le_refl->vp,toNat_natCast->bz
open List renaming Perm->zM,append_assoc->kC,append_nil->s7,cons_append->wP,drop_drop->XR,eq_nil_of_length_eq_zero->x9,filterMap_cons->akR,filterMap_nil->akS,flatten_append->vr,foldl_cons->Dk,getD_eq_getElem?_getD->cx,getElem?_append->Dl,getElem?_eq_getElem->bZ,getElem?_eq_some_iff->pZ,getElem_mem->cG,length_append->fc,length_cons->iv,length_drop->mF,length_filterMap_le->ak2,length_range->Qq,length_take->ni,map_append->fF,map_cons->ec,map_drop->aIN,map_map->iD,map_take->FQ,mem_append->ej,mem_cons->ek,mem_cons_of_mem->gX,mem_cons_self->hU,mem_filterMap->Ik,mem_map->cU,mem_map_of_mem->FR,mem_of_mem_drop->ala,mem_of_mem_take->LV,mem_range->uo,mem_singleton->hV,not_mem_nil->ya,range->fL,range_succ->Bz,replicate->bh,replicate_succ->wS,take_append_drop->FU,take_of_length_le->lN,zipWith->rn
open List.Nodup renaming length_le_of_subset->aGE
open List.cons renaming injEq->zN
open Nat renaming le_mul_of_pos_right->alt,le_refl->dz,le_succ->alu,le_trans->og,lt_succ_self->zR,mul_le_mul->lP,mul_le_mul_right->ur,mul_one->eV,not_lt_zero->BE,succ_mul->zS,succ_pos->alD,zero_add->dM,zero_le->cW
open Ne renaming symm->d'
open Or renaming inl->bW,inr->bl
namespace Go.Sx
open Go.Proofs Go.Sort
set_option maxRecDepth 100000
set_option maxHeartbeats 0
set_option linter.all false
variable {N s z:Int}{rows:List (List Int)}{dT:List Bool}{aE dd:List Int}{os:List Nat}{ad:List bT}{a6 aO bc l:List c9}{b c cap d m n o q:Nat}{A F X:Option aI}
theorem J.none_le{h aa:J}(x:h.le aa)(e:aa o=none):h o=none:=by
 cases q:h o with
 |none=>rfl
 |some U=>rw[x _ _ q]at e;cases e
variable {H al h:J}
theorem azj{p:Nat}:wo rows p q=true↔∃k,k<rows.length/\oJ (rows.getD k []) p=true/\oJ (rows.getD k []) q=true:=by
 unfold wo;rw[List.any_eq_true];constructor;rintro⟨r,a,h⟩;obtain⟨k,hk,e⟩:=List.getElem_of_mem a;refine⟨k,hk,?_⟩
 grind
 grind
theorem aoa{a:J}{B:Option aI}{ed:Nat}{cT:Nat->Option aI×Nat}(r:a b=none)(o:Ip a B rows cT)(C:∀i,i<rows.length->(rows.getD i []).length=m)(hm:m<=1000000)(F:rows.length<=1000000)(N:Int)(A:Option aI)(n cap:Nat)(x:lO (a.put b (kb 7 [] 0)) b (λ_ _=>False) [] 0)(Q:k7)(e:cy)(he:[6,8].map e=[.v (ab B rows.length ed),.v (.map (some b))])(z:∀d cw i9,lO (a.put b (kb 7 cw i9)) b (λp q=>p<q/\q<m/\wo rows p q=true) cw i9->[8].map d=[.v (.map (some b))]->Q .normal d (zL N A n cap) (a.put b (kb 7 cw i9))):di aB 72 (.seq (.cd TQ) (.block 0 (.loop TO))) Q e (zL N A n cap) (a.put b (kb 7 [] 0)):=by
 have c:=fK [6,8] e;rw[he]at c;rw[<-c];refine .mk (Nat×List il×Nat) [8,25,26,27] (λ(k,_,_)=>[.v (.map (some b)),.v (ab B rows.length ed),.v (R rows.length),.v (R k)]) (λ_=>zL N A n cap) (λ(k,l,f) aa=>aa=a.put b (kb 7 l f)/\k<=rows.length/\lO aa b (λp q=>p<q/\q<m/\∃j,j<k/\oJ (rows.getD j []) p=true/\oJ (rows.getD j []) q=true) l f) (λ(k,_,_)=>rows.length-k) (0,[],0) (λ(_,_,_)=>rfl) ⟨rfl,cW _,x.eqv λp q=>⟨False.elim,λ⟨_,_,j,h,_⟩=>absurd h (BE _)⟩⟩ rfl rfl ?_;rintro⟨k,l,f⟩ e aa ⟨rfl,H,x⟩;show di aB 72 (.seq (.cd adM) (.seq (.cond (.t 28) .skip (.exit 0)) (.seq (.block 1 (.seq (.cd adN) (.seq (.cd NR) (.block 2 (.loop NO))))) (.cd adL)))) _ _ _ _;generalize D:IR.seq (.cd NR) (.block 2 (.loop NO))=G;refine aY (λu=>?_) (λu=>?_);have hk:k<rows.length:=I;obtain⟨g,s⟩:=o.outer.cg I;have w:=o.inner k hk;rw[C k hk]at w;refine .m g s (.hp (ab (cT k).1 m (cT k).2) (by rw[bz];exact(o.outer.mono (J.dI r)).one s (azf hk) aJ) ?_);conv=>whnf
 subst D;refine aoc r w hm N A n cap x _ _ _ _ _ rfl λd cw i9 y E=>?_;have c:=fK [8,25,26,27] d;rw[E]at c;rw[<-c];refine .bg (⟨(k+1,cw,i9),rfl,rfl,⟨rfl,I,y.eqv λp q=>?_⟩,aJ⟩)
 grind
 have:k=rows.length:=I;subst this;exact z _ l f (x.eqv λp q=>by rw[azj]) rfl
structure Qb(b9:J)(b r:Nat)(S:Nat->Nat->Prop)(l:List il)(cq:Nat)(aa:J)(seen:Array Nat)(outs:List c9)(E:Option aI)(cD:Nat):Prop where
 le:b9.le aa
 mp:lO aa b S l cq
 it:aa r=some (.mapIter (some b) cq seen cq)
 go:zH l seen outs
 row:bJ aa 278 2 E outs.length cD (outs.map cN).flatten
 sl:∀g,E=some g->b9 g.block=none/\g.block≠b/\g.block≠r
theorem lO.of{aa:J}{S:Nat->Nat->Prop}{l:List il}{a:Nat}(m:lO h b S l a)(e:aa b=h b):lO aa b S l a:=⟨e.trans m.at_,m.sub,m.all,m.dS,m.nN,m.jD⟩
theorem aoe{h:J}{r:Nat}{S:Nat->Nat->Prop}{l:List il}{d:Nat}(B:r≠b)(NA:h r=none)(t:∀outs:List c9,outs.Nodup->(∀p∈outs,∃i o:Nat,p=((i:Int),(o:Int))/\S i o)->outs.length<=1000000)(g0:Qb h b r S l d H #[] [] none 0) Q(e:cy) L(he:[13,60].map e=[.v (ab none 0 0),.v (gv (some ⟨r,0,none⟩))])(X:∀F aa(outs:List c9) E c,h.le aa->outs.Nodup->(∀p,p∈outs↔∃i o:Nat,p=((i:Int),(o:Int))/\S i o)->(∀g,E=some g->h g.block=none)->[13].map F=[.v (ab E outs.length c)]->Q .normal F [.row 278 2 E outs.length c (outs.map cN).flatten] aa):di aB 72 (.block 6 (.loop TP)) Q e L H:=by
 have M:=fK [13,60] e;rw[he]at M;rw[<-M];refine .mq [] (Array Nat×List c9×Option aI×Nat) [13,60] (λ(_,outs,E,c)=>[.v (ab E outs.length c),.v (gv (some ⟨r,0,none⟩))]) (λ_=>[]) (λ(seen,outs,E,c) aa=>Qb h b r S l d aa seen outs E c) (λ(seen,_,_,_)=>(lB l seen).length) (#[],[],none,0) (λ(_,_,_,_)=>rfl) g0 rfl rfl rfl ?_;rintro⟨seen,outs,E,c⟩ e aa g;have w:h.le (eP aa E):=Af g.le λq a=>(g.sl q a).1;have N:∀o,(∀q,E=some q->o≠q.block)->eP aa E o=aa o:=λo V=>by
  cases E with
  |none=>rfl
  |some q=>exact J.mJ _ (V q rfl)
 have cO:eP aa E b=aa b:=N b λq a=>d' (g.sl q a).2.1;have xi:eP aa E r=aa r:=N r λq a=>d' (g.sl q a).2.2;have j0:=g.mp.of cO;refine .abs 278 2 E outs.length c _ g.row (.ah (.mk b d d d seen (l.map (kh 7)).toArray (xi.trans g.it) j0.at_ (λx n=>?_) (dz _) (λal=>?_) (λkg C=>?_)));obtain⟨y,s,rfl⟩:=cU.1 (by omega:x∈l.map (kh 7));exact g.mp.nN _ (FR (f:=(·.born)) s);have T:lB l seen=[]:=by
  have h1:=ae3 l seen
  grind
 exact X _ _ outs E c w g.go.dS (g.go.done g.mp T) (λq a=>(g.sl q a).1) rfl;rw[ae3]at C;obtain⟨x,n,rfl⟩:=cU.1 C;obtain⟨xC,jv⟩:=List.mem_filter.1 n;obtain⟨i,o,hk,dr⟩:=g.mp.sub _ (FR (f:=(·.k)) xC);have j:(kh 7 x).key= .agg #[R i,R o]:=by show km 7 x.k=_;rw[hk];rfl
 have P:(kh 7 x).born=x.born:=rfl;have O:∀p∈outs,∃i o:Nat,p=((i:Int),(o:Int))/\S i o:=λp hp=>by
  obtain⟨y,s,D,_⟩:=g.go.sub p hp;obtain⟨sF,o7,aQ,ao⟩:=g.mp.sub _ (FR (f:=(·.k)) s)
  grind
 have cJ:=t outs g.go.dS O;rw[j,P];refine .mk b d d seen (l.map (kh 7)).toArray (kh 7 x) (J.b1 _ _ _) ((J.cB _ _ (d' B)).trans j0.at_) aJ ?_ ?_;have D:(l.map (kh 7)).toArray.toList.map (·.born)=l.map (·.born):=by simp[kh]
 rw[D];exact g.mp.jD;rw[j];refine .ah (.c3 0 _ [R i,R o] rfl rfl (by intro u hu;simp at hu;rcases hu with rfl|rfl<;>rfl) (by grind [eD]) I λm A Jt=>.b4 0 278 2 m (outs.length+1) A _ rfl λaU z Z f4=>.ah ⟨(seen.push x.born,outs++[((i:Int),(o:Int))],m,A),?_,rfl,?_,ayN n⟩);show _=[aK.v (ab m (outs++[((i:Int),(o:Int))]).length A),aK.v (gv (some ⟨r,0,none⟩))];rw[fc];rfl;have K:∀q,m=some q->q.block≠r:=λq a e=>by
  have:=f4 q a;rw[e,J.b1]at this
  grind
 have G:∀q,m=some q->eP aa E q.block=none:=λq a=>by
  have:=f4 q a;rwa[J.cB _ _ (K q a)]at this
 have W:h.le ((eP aa E).put r (.mapIter (some b) d (seen.push x.born) d)):=λo7 U Y=>by
  rw[J.cB _ _ (λq=>aJ)];exact w _ _ Y
 refine⟨J.le_trans W z,j0.of ?_,z _ _ (J.b1 _ _ _),g.go.step g.mp.dS g.mp.jD n hk,?_,λq a=>⟨J.none_le w (G q a),λe=>?_,K q a⟩⟩;rw[j0.at_];exact z _ _ ((J.cB _ _ (d' B)).trans j0.at_);rw[fc,fF,vr];exact Z;have:=G q a;rw[e,j0.at_]at this
 grind
theorem QS m(outs:List c9)(c:outs.Nodup)(h:∀p∈outs,∃i o:Nat,p=((i:Int),(o:Int))/\i<m/\o<m):outs.length<=m*m:=by
 have h1:=aGE (l₂:=(fL m).flatMap λi:Nat=>(fL m).map λo:Nat=>((i:Int),(o:Int))) c λp hp=>by
  obtain⟨i,o,rfl,a,b⟩:=h p hp;exact List.mem_flatMap.2 ⟨i,uo.2 a,cU.2 ⟨o,uo.2 b,rfl⟩⟩
 refine og h1 (Nat.le_of_eq ?_);have:∀k:Nat,((fL k).map λ_=>m).sum=k*m:=λk=>by
  induction k with
  |zero=>simp
  |succ k d=>rw[Bz,fF,List.sum_append,d];grind
 simp_all
def aj5(h:J)(N:Int)(ad:List bT)(aE:List Int)(v:ax)(aa:J):Prop:=
 h.le aa/\((eo N ad aE).1≠0->v=ey #[ab none 0 0,R (eo N ad aE).1])/\
  ((eo N ad aE).1=0->∃E c,v=ey #[ab E (kz (eo N ad aE).2 ad.length).length c,R 0]/\bJ aa 278 2 E (kz (eo N ad aE).2 ad.length).length c ((kz (eo N ad aE).2 ad.length).map cN).flatten/\∀g,E=some g->h g.block=none)
theorem aob N n cap ad A D r G aE h(av:bf h 5 A n (ad.map bT.cells))(j:n*40<=140737488355328)(V:bf h 1 D r (aE.map λz=>[R z])):Fn aB 119 #[mW N A n cap,ab D r G] h λv aa=>aj5 h N ad aE v aa:=by
 refine b6 awm rfl (.ah (.mk _ (anp N n cap ad A D r G aE h av j V) (λv h1⟨t,g,am⟩=>?_)));by_cases he:(eo N ad aE).1=0;obtain⟨v,X,rfl,⟨B,c,cT,rfl,a⟩,eY,W⟩:=am he;have w:=(a.lists).mono eY;have F:=a.lens;have L:e' N ad=0:=by
  refine wJ λy=>?_;rw[yn y]at he;omega
 have hm:=(lT L).2.2.1;have hL:=anr N ad aE;obtain⟨rows,K⟩:∃rows,(eo N ad aE).2=rows:=⟨_,rfl⟩;rw[K]at w F hL⊢;generalize kG:IR.seq (IR.cd TQ) (IR.block 0 (IR.loop TO))=c1;generalize T:IR.block 6 (IR.loop TP)=xa;refine .mk λb g=>?_;conv=>whnf
 subst kG;refine aoa g w F I I N A n cap (lO.start (J.b1 _ _ _)) _ _ rfl λZ l d x qa=>?_;have f:=fK [8] Z;rw[qa]at f;rw[<-f];refine .mk (l.map (kh 7)).toArray d x.at_ λr m=>?_;conv=>whnf
 subst T;have i:r≠b:=λe=>by rw[e,J.b1]at m;cases m
 have S:h1 r=none:=by rwa[J.cB _ _ i]at m
 have g0:Qb h1 b r (λp q=>p<q/\q<ad.length/\wo rows p q=true) l d ((h1.put b (kb 7 l d)).put r (.mapIter (some b) d #[] d)) #[] [] none 0:=by
  refine⟨λo U k=>?_,x.of ?_,J.b1 _ _ _,zH.start l,⟨rfl,bW ⟨rfl,rfl,rfl⟩⟩,λ_ e=>by cases e⟩;rw[J.cB _ _ (λe=>aJ)];exact J.dI g _ _ k;exact J.cB _ _ (d' i)
 refine aoe i S (λouts j y=>og (QS ad.length outs j λp hp=>?_) (og (lP hm hm) aM)) g0 _ _ _ rfl λY ae outs E s Q H vY sl gR=>?_
 grind
 have rH:outs.length<=9216:=og (QS ad.length outs H λp hp=>by
  grind) (lP hm hm)
 have f:=fK [13] Y;rw[gR]at f;rw[<-f];refine .b4 0 278 2 E outs.length s _ rfl λau hv P f3=>.ah (.mk _ (aDu E outs.length s outs au P I) ?_);rintro _ aU ⟨aO,rfl,u,kW,same⟩;have M:aO=kz rows ad.length:=aDA u H λp=>(vY p).trans HB.symm;have mT:aO.length=outs.length:=u.perm.length_eq;refine .ah ⟨λo U k=>?_,λq=>absurd he q,λ_=>⟨E,s,?_,?_,λq C=>?_⟩⟩;have O:=t _ _ k;rw[same o λq C e=>?_];exact hv _ _ (Q _ _ O)
 grind
 rw[K,<-M,mT];rfl
 grind
 exact J.none_le t (sl q C);obtain rfl:=g he;refine aY (λ_=>?_) (λq=>absurd he q);exact .ah ⟨t,λ_=>rfl,λq=>absurd q he⟩
def vb(x y:c9):Bool:=decide (max x.1 y.1<min (x.1+x.2) (y.1+y.2))
def Mc(x:c9):Prop:= -1000000000000<=x.1/\x.1<=1000000000000/\ -1000000000000<=x.2/\x.2<=1000000000000
theorem aDm x y h(b:Mc x)(a:Mc y):Fn aB 64 #[.agg #[R x.1,R x.2],.agg #[R y.1,R y.2]] h λv aa=>v=c5 (vb x y)/\aa=h:=by
 obtain⟨d,a2,a3,a4⟩:=b;obtain⟨c,e,f,g⟩:=a;exact b6 axT rfl (.bg (.bg (.ah ⟨rfl,rfl⟩)))
def po(l:List c9):Int:=l.foldl (λn x=>max n (x.1+x.2)) 0
theorem aER l x:po (l++[x])=max (po l) (x.1+x.2):=by simp[po]
theorem ai3 A n cap l h(a:bf h 2 A n (l.map cN))(d:∀x∈l,Mc x)(i:n<=1000000000000000000):Fn aB 65 #[ab A n cap] h λv aa=>v=R (po l)/\aa=h:=by
 have ak:l.length=n:=by simpa using a.len
 refine b6 axU rfl (.mk Nat [3,6,7,8] (λk=>[.v (R (po (l.take k))),.v (ab A n cap),.v (R n),.v (R k)]) (λ_=>[]) (λk aa=>aa=h/\k<=n) (λk=>n-k) 0 (λ_=>rfl) ⟨rfl,cW _⟩ rfl rfl (λk e aa⟨rfl,hk⟩=>aY (λu=>?_) (λu=>?_)));have o:k<l.length:=I;obtain⟨g,b⟩:=a.cg I;obtain⟨x,j⟩:∃x,x=l[k]:=⟨_,rfl⟩;obtain⟨p,a2,a3,a4⟩:=d x aJ;have f:(l.map cN)[k]?=some (cN x):=aJ;refine .m g b (.hp (cN x) rfl (by rw[bz];exact a.row b f) (.bg (.bg (⟨k+1,?_,rfl,⟨rfl,I⟩,I⟩))));have c:l.take (k+1)=l.take k++[x]:=by simp_all
 rw[c,aER];rfl;have:k=n:=I;subst this;refine .ah ⟨?_,rfl⟩;rw[lN I];rfl
def jy(a6:List c9)(a:Int):List Int:=a6.filterMap λp=>if a=p.1 then some p.2 else if a=p.2 then some p.1 else none
theorem azV l x a:jy (l++[x]) a=jy l a++jy [x] a:=by simp[jy]
theorem azU E F n c m d l a h(t:bf h 2 E n (l.map cN))(H:n<=1000000):Fn aB 61 #[.agg #[ab E n c,ab F m d],R a] h λv aa=>h.le aa/\∃B ed,v=ab B (jy l a).length ed/\bf aa 1 B (jy l a).length ((jy l a).map λz=>[R z]):=by
 have ak:l.length=n:=by simpa using t.len
 refine b6 axS rfl ?_;refine .mq [] (Nat×Option aI×Nat) [1,5,9,10,11] (λ(k,B,ed)=>[.v (R a),.v (ab B (jy (l.take k) a).length ed),.v (ab E n c),.v (R n),.v (R k)]) (λ_=>[]) (λ(k,B,ed) aa=>h.le aa/\k<=n/\bJ aa 3 1 B (jy (l.take k) a).length ed ((jy (l.take k) a).map R)/\∀g,B=some g->h g.block=none) (λ(k,_,_)=>n-k) (0,none,0) (λ(_,_,_)=>rfl) ⟨J.le_refl _,cW _,⟨rfl,bW ⟨rfl,rfl,rfl⟩⟩,λ_ e=>by cases e⟩ rfl rfl rfl ?_;rintro⟨k,B,ed⟩ e aa ⟨A,hk,row,s⟩;have p:=Af A s;have M:(jy (l.take k) a).length<=k:=by
  unfold jy
  grind
 refine .abs 3 1 B _ ed _ row (.ah (aY (λu=>?_) (λu=>?_)));have L:k<l.length:=I;obtain⟨g,o⟩:=t.cg I;obtain⟨x,K⟩:∃x,x=l[k]:=⟨_,rfl⟩;have G:(l.map cN)[k]?=some (cN x):=aJ;have y:l.take (k+1)=l.take k++[x]:=by simp_all
 have r:=azV (l.take k) x a;rw[<-y]at r;have fin:∀{b:Option aI}{c2:Nat}{z:Int}{f:J},jy [x] a=[z]->(eP aa B).le f->bJ f 3 1 b ((jy (l.take k) a).length+1) c2 ((jy (l.take k) a).map R++[R z])->(∀g,b=some g->eP aa B g.block=none)->h.le f/\k+1<=n/\bJ f 3 1 b (jy (l.take (k+1)) a).length c2 ((jy (l.take (k+1)) a).map R)/\∀g,b=some g->h g.block=none:=λ{b c2 z f} j i ro f4=>by
  refine⟨J.le_trans p i,I,?_,λg o=>J.none_le p (f4 g o)⟩
  grind
 refine .m g o (.hp (cN x) rfl (by rw[bz];exact(t.mono p).row o G) (aY (λw=>?_) (λw=>?_)));have j:jy [x] a=[x.2]:=by simp[jy,w]
 refine .ah (.c3 0 _ [R x.2] rfl rfl (by intro u hu;simp at hu;subst hu;rfl) (by grind [eD]) I λb c2 _=>.bg (.b4 0 3 1 b ((jy (l.take k) a).length+1) c2 _ rfl λf i q f4=>.ah ⟨(k+1,b,c2),?_,rfl,fin j i q f4,aJ⟩));show _=[aK.v (R a),aK.v (ab b (jy (l.take (k+1)) a).length c2),_,_,_];rw[r,j,fc];rfl;refine aY (λD=>?_) (λD=>?_);have j:jy [x] a=[x.1]:=by
  grind [jy]
 refine .ah (.c3 0 _ [R x.1] rfl rfl (by intro u hu;simp at hu;subst hu;rfl) (by grind [eD]) I λb c2 _=>.bg (.b4 0 3 1 b ((jy (l.take k) a).length+1) c2 _ rfl λf i q f4=>.ah ⟨(k+1,b,c2),?_,rfl,fin j i q f4,aJ⟩));show _=[aK.v (R a),aK.v (ab b (jy (l.take (k+1)) a).length c2),_,_,_];rw[r,j,fc];rfl;have j:jy [x] a=[]:=by
  grind [jy]
 rw[j,s7]at r;refine .bg (.b4 0 3 1 B _ ed _ rfl λf i q f4=>.ah ⟨(k+1,B,ed),?_,rfl,?_,aJ⟩);show _=[aK.v (R a),aK.v (ab B (jy (l.take (k+1)) a).length ed),_,_,_];rw[r];rfl;refine⟨J.le_trans p i,I,?_,λg o=>J.none_le p (f4 g o)⟩
 grind
 have:k=n:=I;subst this;have C:l.take k=l:=lN I;refine .b4 0 3 1 B _ ed _ rfl λf i q f4=>.ah ⟨J.le_trans p i,B,ed,?_,?_⟩;show ab B (jy (l.take k) a).length ed=_;rw[C];have:=q.one
 grind
def mo(N:Int)(ad:List bT)(aE:List Int):Int:=if(eo N ad aE).1≠0 then(eo N ad aE).1 else if AE N ad aE=true then 0 else 181
def alk(h:J)(N:Int)(ad:List bT)(aE:List Int)(v:ax)(aa:J):Prop:=
 h.le aa/\(mo N ad aE≠0->v=ey #[.agg #[ab none 0 0,ab none 0 0],R (mo N ad aE)])/\
  (mo N ad aE=0->∃E c F d,v=ey #[.agg #[ab E (kz (eo N ad aE).2 ad.length).length c,ab F ad.length d],R 0]/\bf aa 2 E (kz (eo N ad aE).2 ad.length).length ((kz (eo N ad aE).2 ad.length).map cN)/\
   bf aa 1 F ad.length ((lm (eo N ad aE).2).map λz=>[R z]))
theorem bJ.HS{bK:Nat}{xs:List c9}(r:bJ h bK 2 A n cap (xs.map cN).flatten):bf h 2 A n (xs.map cN):=r.dV (λr a=>by obtain⟨x,_,rfl⟩:=cU.1 a;rfl) aM
theorem ayY N n cap ad A D r e aE h(j:bf h 5 A n (ad.map bT.cells))(g:n*40<=140737488355328)(f:bf h 1 D r (aE.map λz=>[R z])):Fn aB 57 #[mW N A n cap,ab D r e] h λv aa=>alk h N ad aE v aa:=by
 refine b6 axP rfl (.ah (.mk _ (aob N n cap ad A D r e aE h j g f) (λv h1⟨b,s,t⟩=>?_)));by_cases he:(eo N ad aE).1=0;obtain⟨E,c,rfl,i,_⟩:=t he;refine .ah (.mk _ (atf N n cap ad A D r e aE h1 (j.mono b) g (f.mono b)) ?_);rintro v ae ⟨rfl,d⟩;have a:mo N ad aE=if AE N ad aE=true then 0 else 181:=by unfold mo;omega
 cases k:AE N ad aE with
 |true=>
  rw[k,aP rfl]at a;refine .ah (.mk _ (azw N n cap ad A D r e aE ae (j.mono (J.le_trans b d)) g (f.mono (J.le_trans b d))) ?_);rintro v y ⟨l,_,o⟩;obtain⟨v,X,rfl,u,p,_⟩:=o he;obtain⟨m,x,rfl,w⟩:=u.2 (QT he);exact .ah ⟨J.le_trans b (J.le_trans d l),λq=>absurd a q,λ_=>⟨E,c,some m,x,rfl,(i.HS).mono (J.le_trans d l),(w.mono p).one⟩⟩
 |false=>
  rw[k]at a;have a:mo N ad aE=181:=a;refine .ah ⟨J.le_trans b d,λ_=>?_,λq=>absurd (a.symm.trans q) aM⟩;rw[a];rfl
 obtain rfl:=s he;have a:mo N ad aE=(eo N ad aE).1:=by unfold mo;omega
 refine aY (λ_=>?_) (λq=>absurd he q);refine .ah ⟨b,λ_=>?_,λq=>absurd (a.symm.trans q) he⟩;rw[a];rfl
def B2(x y:Int):Int:=if x<y then-1 else if y<x then 1 else 0
theorem afT x h:Fn aB 123 #[R x] h λv aa=>v=c5 false/\aa=h:=by
 refine b6 awq rfl (.ah ⟨?_,rfl⟩);show c5 (decide (x≠x))=_;simp
theorem aon x y h:Fn aB 60 #[R x,R y] h λv aa=>v=R (B2 x y)/\aa=h:=by
 refine b6 axR rfl (.ah (.mk _ (afT x h) ?_));rintro _ _ ⟨rfl,rfl⟩;refine .ah (.mk _ (afT y _) ?_);rintro _ _ ⟨rfl,rfl⟩;refine aY (λu=>?_) (λu=>?_);refine .ah ⟨?_,rfl⟩;unfold B2;rw[aP u];rfl;refine aY (λa=>?_) (λa=>?_);refine .ah ⟨?_,rfl⟩;unfold B2;rw[aD u,aP a];rfl;refine .ah ⟨?_,rfl⟩;unfold B2;rw[aD u,aD a];rfl
structure r3(h:J)(q:Nat)(X F:Option aI)(k c m d:Nat)(dd:List Int):Prop where
 cell:h q=some (bb [ab X k c,ab F m d].toArray 188 (0,0))
 dV:bf h 1 F m (dd.map λz=>[R z])
theorem KT{k:Nat}(f:r3 h q X F k c m d dd)(_hm:m<=1000000){a:Nat}(i:a<m)(j:b<m):Fn aB 59 #[R a,R b,gv (some ⟨q,0,none⟩)] h λv aa=>v=R (B2 (dd.getD b 0) (dd.getD a 0))/\aa=h:=by
 have ak:dd.length=m:=by simpa using f.dV.len
 obtain⟨g,e⟩:=f.dV.cg I;have ld:∀o,o<m->h.cell? (g.add ((o:Int).toNat*1))=some (R (dd.getD o 0)):=λo l=>by
  rw[bz];exact f.dV.one e (r:=[R (dd.getD o 0)]) aJ rfl
 have cl:∀o v,[ab X k c,ab F m d][o]?=some v->h.cell? ⟨q,o,none⟩=some v:=λo v n=>by
  unfold J.cell?
  grind [f.cell]
 refine b6 axQ rfl (.hp (ab F m d) (cl 1 _ rfl) (.m g e (.hp _ (ld b j) (.hp (ab F m d) (cl 1 _ rfl) (.m g e (.hp _ (ld a i) (.mk _ (aon _ _ h) ?_ ?_)))))));rintro _ _ ⟨rfl,rfl⟩;exact J.le_refl _;exactλ_ _⟨rfl,rfl⟩=>.ah ⟨rfl,rfl⟩
theorem aug{k:Nat}(f:r3 h q X F k c m d dd)(hm:m<=1000000)(A:Option aI)(n cap:Nat)(xs:List Nat)(b:bf h 1 A n (xs.map λz:Nat=>[R (z:Int)]))(y:n<=1000000)(j:∀x∈xs,x<m)(s:∀i(l:i+1<xs.length),¬B2 (dd.getD xs[i] 0) (dd.getD xs[i+1] 0)<0):Fn aB 167 #[ab A n cap,R 0,R n,.func (.func 59) #[] #[gv (some ⟨q,0,none⟩)]] h λv aa=>v=ey #[]/\aa=h:=by
 have ak:xs.length=n:=by simpa using b.len
 refine b6 aej rfl (.bg (.mk Nat [0,1,2,3,8] (λi=>[.v (ab A n cap),.v (R 0),.v (R n),.v (.func (.func 59) #[] #[gv (some ⟨q,0,none⟩)]),.v (R (i+1:Nat))]) (λ_=>[]) (λi aa=>aa=h) (λi=>n-i) 0 (λ_=>rfl) rfl rfl rfl ?_));rintro i e aa rfl;refine aY (λu=>?_) (λu=>?_);have l:i+1<n:=I;obtain⟨g,a⟩:=b.cg I;have ld:∀o(p:o<n),aa.cell? (g.add ((o:Int).toNat*1))=some (R (xs[o]'I:Int)):=λo p=>by
  rw[bz];exact b.one a (r:=[R (xs[o]'I:Int)]) aJ rfl
 refine .mk Unit [0,1,2,3,8,9] (λ_=>[.v (ab A n cap),.v (R 0),.v (R n),.v (.func (.func 59) #[] #[gv (some ⟨q,0,none⟩)]),.v (R (i+1:Nat)),.v (R (i+1:Nat))]) (λ_=>[]) (λ_ ae=>ae=aa) (λ_=>0) () (λ_=>rfl) rfl rfl rfl ?_;rintro _ B ae rfl;refine aY (λ_=>?_) (λq=>absurd (show((i+1:Nat):Int)>0 by omega) q);refine .m g a ?_;refine .hp _ (ld (i+1) l) ?_;refine .bg ?_;have t:((i+1:Nat):Int)-1=(i:Nat):=I;rw[t];refine .m g a (.hp _ (ld i I) (.mk _ (KT f hm (j _ (cG _)) (j _ (cG _))) ?_ ?_));rintro _ _ ⟨rfl,rfl⟩;exact J.le_refl _;rintro _ _ ⟨rfl,rfl⟩;exact aY (λw=>absurd w (s i I)) (λ_=>.bg (⟨i+1,rfl,rfl,rfl,I⟩));exact .ah ⟨rfl,rfl⟩
theorem aDL{k:Nat}(f:r3 h q X F k c m d dd)(hm:m<=1000000)(A:Option aI)(n cap:Nat)(xs:List Nat)(g:bf h 1 A n (xs.map λz:Nat=>[R (z:Int)]))(j:n<20)(b:∀x∈xs,x<m)(e:∀i(o:i+1<xs.length),¬B2 (dd.getD xs[i] 0) (dd.getD xs[i+1] 0)<0):Fn aB 122 #[ab A n cap,R n,.func (.func 59) #[] #[gv (some ⟨q,0,none⟩)]] h λv aa=>v=ey #[]/\aa=h:=by
 refine b6 TX rfl (.mk Unit [0,1,2,6,7,8] (λ_=>[.v (ab A n cap),.v (R n),.v (.func (.func 59) #[] #[gv (some ⟨q,0,none⟩)]),.v (R 20),.v (R 0),.v (R 20)]) (λ_=>[]) (λ_ ae=>ae=h) (λ_=>0) () (λ_=>rfl) rfl rfl rfl ?_);rintro _ l ae rfl;refine aY (λw=>absurd (show(20:Int)<=(n:Int)from w) I) (λ_=>.ah (.mk _ (aug f hm A n cap xs g I b e) ?_));rintro _ _ ⟨rfl,rfl⟩;refine .mk Unit [0,1,2,6] (λ_=>[.v (ab A n cap),.v (R n),.v (.func (.func 59) #[] #[gv (some ⟨q,0,none⟩)]),.v (R 20)]) (λ_=>[]) (λ_ a=>a=_) (λ_=>0) () (λ_=>rfl) rfl rfl rfl ?_;rintro _ p a rfl;exact aY (λw=>absurd (show(20:Int)<(n:Int)from w) I) (λ_=>.ah ⟨rfl,rfl⟩)
theorem aDK{k:Nat}(f:r3 h q X F k c m d dd)(hm:m<=1000000)(A:Option aI)(n cap:Nat)(xs:List Nat)(g:bf h 1 A n (xs.map λz:Nat=>[R (z:Int)]))(a:n<20)(b:∀x∈xs,x<m)(e:∀i(j:i+1<xs.length),¬B2 (dd.getD xs[i] 0) (dd.getD xs[i+1] 0)<0):Fn aB 58 #[ab A n cap,.func (.func 59) #[] #[gv (some ⟨q,0,none⟩)]] h λv aa=>v=ey #[]/\aa=h:=by
 refine b6 aem rfl (.ah (.mk _ (aDL f hm A n cap xs g a b e) ?_));rintro _ _ ⟨rfl,rfl⟩;exact .ah ⟨rfl,rfl⟩
theorem aiZ{N T:Nat}{f:List Int}(d:e' N ad=0)(g:Good N ad f T):(dx ad f).length=ad.length/\∀x∈dx ad f,0<=x/\x<=256+64*T:=by
 refine⟨qq _ _,λx c=>?_⟩;obtain⟨a,b,rfl⟩:=cU.1 c;exact⟨g.tok a b,g.aiY d b⟩
theorem YH{N:Nat}{ad:List bT}(c:e' N ad=0):∀aE f T,Good N ad f T->∀r∈(fS N ad aE f).2,r.length=ad.length/\∀x∈r,0<=x/\x<=256+64*((T+aE.length:Nat):Int)
 |[],_,_,_=>λr h=>by cases h
 |v::aE,f,T,g=>by
  unfold fS;split;simp;rename_i e;split;rename_i hm;obtain⟨k,rfl⟩:∃k:Nat,v=k:=⟨v.toNat,I⟩;have g2:=g.bump c hm;intro r d;rcases ek.1 d with rfl|d;obtain⟨a,b⟩:=aiZ c g2
  grind
  obtain⟨a,b⟩:=YH c aE _ _ g2 r d
  grind
  simp
theorem YK(h:(eo N ad aE).1=0):e' N ad=0:=by
 refine wJ λa=>?_;rw[yn a]at h;omega
theorem anq(h:(eo N ad aE).1=0):∀r∈(eo N ad aE).2,r.length=ad.length/\∀x∈r,0<=x/\x<=131328:=by
 have c:=YK h;have e:=lT c;obtain⟨N,rfl⟩:∃q:Nat,N=q:=⟨N.toNat,I⟩;have ak:¬2048<aE.length:=λq=>by rw[DA c q]at h;cases h
 rw[Mi c ak];intro r d;rcases ek.1 d with rfl|d;obtain⟨a,b⟩:=aiZ c (D1 c)
 grind
 obtain⟨a,b⟩:=YH c aE _ _ (D1 c) r d
 grind
theorem abj{m:Nat}:∀(rs:List (List Int)) r,r.length=m->(∀s∈rs,s.length=m)->(rs.foldl (λa b=>rn max a b) r).length=m/\∀i,i<m->r.getD i 0<=(rs.foldl (λa b=>rn max a b) r).getD i 0/\(∀s∈rs,s.getD i 0<=(rs.foldl (λa b=>rn max a b) r).getD i 0)/\((rs.foldl (λa b=>rn max a b) r).getD i 0=r.getD i 0\/∃s∈rs,(rs.foldl (λa b=>rn max a b) r).getD i 0=s.getD i 0)
 |[],r,d,_=>⟨d,λi g=>⟨vp _,(λs h=>by cases h),bW rfl⟩⟩
 |s::rs,r,d,c=>by
  have h1:=c s (hU ..);have e:(rn max r s).length=m:=aJ;obtain⟨a,b⟩:=abj rs (rn max r s) e λx f=>c x (gX _ f)
  grind
structure FZ(rows:List (List Int))(m:Nat)(dd:List Int):Prop where
 len:dd.length=m
 up:∀i,i<m->∀r∈rows,r.getD i 0<=dd.getD i 0
 is:∀i,i<m->∃r∈rows,dd.getD i 0=r.getD i 0
theorem azi(h:rows≠[])(ak:∀r∈rows,r.length=m):FZ rows m (lm rows):=by
 cases rows with
 |nil=>grind
 |cons r rs=>
  obtain⟨a,b⟩:=abj rs r (ak r (hU ..)) λs f=>ak s (gX _ f);refine⟨a,λi g s f=>?_,λi g=>?_⟩;obtain⟨c,d,_⟩:=b i g;rcases ek.1 f with rfl|f;exact c;exact d s f;obtain⟨_,_,e⟩:=b i g;rcases e with e|⟨s,f,e⟩;exact⟨r,hU ..,e⟩;exact⟨s,gX _ f,e⟩
theorem Ku(h:(eo N ad aE).1=0):FZ (eo N ad aE).2 ad.length (lm (eo N ad aE).2)/\∀i,i<ad.length->0<=(lm (eo N ad aE).2).getD i 0/\(lm (eo N ad aE).2).getD i 0<=131328:=by
 have d:=anq h;have p:=azi (QT h) λr c=>(d r c).1;refine⟨p,λi f=>?_⟩;obtain⟨r,c,e⟩:=p.is i f;obtain⟨a,b⟩:=d r c;simp_all
def sV(x y:c9):c9:=if vb x y then(y.1+y.2,x.2)else x
def kO(s:Int)(aO:List c9):c9:=aO.foldl sV (0,s)
theorem aqx s aO y:kO s (aO++[y])=sV (kO s aO) y:=by simp[kO]
def l'(a:List Int)(bc:List c9)(dT:List Bool):List c9:=a.filterMap λz=>if dT.getD z.toNat false then some (bc.getD z.toNat (0,0))else none
theorem anQ l z bc dT:l' (l++[z]) bc dT=l' l bc dT++l' [z] bc dT:=by simp[l']
inductive p2(a6:List c9)(dd:List Int)(m:Nat):List Nat->List c9->List Bool->Prop
 |nil:p2 a6 dd m [] (bh m (0,0)) (bh m false)
 |step {os:List Nat} {bc:List c9} {dT:List Bool} (a:Nat) (aO:List c9) (h:p2 a6 dd m os bc dT) (ao:QJ (XG B0) (l' (jy a6 a) bc dT) aO):p2 a6 dd m (os++[a]) (bc.set a (kO (dd.getD a 0) aO)) (dT.set a true)
theorem p2.lens(r:p2 a6 dd m os bc dT):bc.length=m/\dT.length=m:=by
 induction r with
 |nil=>simp
 |step a aO _ _ b=>grind
theorem Q7{a:List Int}{x:c9}(h:x∈l' a bc dT):∃z∈a,dT.getD z.toNat false=true/\x=bc.getD z.toNat (0,0):=by
 obtain⟨z,b,e⟩:=Ik.1 h
 grind
theorem abh{B:Int}(g:0<=B)(d:∀y∈aO,0<=y.1/\0<=y.2/\y.1+y.2<=B):(kO s aO).2=s/\0<=(kO s aO).1/\(kO s aO).1<=B:=by
 have key:∀(aO:List c9)(x:c9),x.2=s->0<=x.1->x.1<=B->(∀y∈aO,0<=y.1/\0<=y.2/\y.1+y.2<=B)->(aO.foldl sV x).2=s/\0<=(aO.foldl sV x).1/\(aO.foldl sV x).1<=B:=by
  intro aO;induction aO with
  |nil=>grind
  |cons y aO e=>
   intro x a b c d;have h1:=d y (hU ..);have ae:=λz f=>d z (gX _ f);simp only[Dk];unfold sV;split;exact e _ a I h1.2.2 ae;exact e _ a b c ae
 exact key aO (0,s) rfl (vp _) g d
theorem p2.IL(r:p2 a6 dd m os bc dT)(b:∀i,0<=dd.getD i 0/\dd.getD i 0<=131328):∀x∈bc,0<=x.1/\0<=x.2/\x.1+x.2<=131328*(os.length:Int):=by
 induction r with
 |nil=>simp
 | @step os bc dT a aO h e k=>
  have hp:=b a;have d:∀y∈aO,0<=y.1/\0<=y.2/\y.1+y.2<=131328*(os.length:Int):=λy c=>by
   obtain⟨z,_,f,rfl⟩:=Q7 ((e.perm.mem_iff).1 c)
   grind
  obtain⟨j,g,l⟩:=abh (s:=dd.getD a 0) (B:=131328*(os.length:Int)) I d
  grind
theorem abi:∀(l:List c9) a n,l.foldl (λn x=>max n (x.1+x.2)) a<=n↔a<=n/\∀x∈l,x.1+x.2<=n
 |[],a,n=>by simp
 |x::l,a,n=>by
  simp only[Dk,abi l,ek,forall_eq_or_imp]
  grind
theorem ai5{n:Int}:po l<=n↔0<=n/\∀x∈l,x.1+x.2<=n:=abi l 0 n
theorem ai4{x:c9}(h:x∈l):x.1+x.2<=po l:=(ai5.1 (vp _)).2 x h
theorem Fj x y:vb x y=true↔x.1<x.1+x.2/\x.1<y.1+y.2/\y.1<x.1+x.2/\y.1<y.1+y.2:=by
 unfold vb
 grind
theorem aDn x y:vb x y=vb y x:=by
 rw[Bool.eq_iff_iff,Fj,Fj];omega
theorem aqv(e:aO.Pairwise λa b=>XG B0 b a=false):∀y∈aO,vb (kO s aO) y=false:=by
 have key:∀(aO pre:List c9)(x:c9),aO.Pairwise (λa b=>XG B0 b a=false)->(∀p∈pre,∀y∈aO,p.1<=y.1)->(∀p∈pre,vb x p=false)->∀y∈pre++aO,vb (aO.foldl sV x) y=false:=by
  intro aO;induction aO with
  |nil=>simp
  |cons z aO g=>
   intro pre x hp i h y d;obtain⟨k,j⟩:=List.pairwise_cons.1 hp;simp only[Dk];refine g (pre++[z]) (sV x z) j (λp c w hw=>?_) (λp c=>?_) y aJ
   grind [Oh]
   unfold sV;cases f:vb x z with
   |false=>
    grind
   |true=>
    rw[Fj]at f;rw[aP rfl,FG,ne_eq,Fj];rcases ej.1 c with c|c;have h1:=h p c;have ae:=i p c z (hU ..);rw[FG,ne_eq,Fj]at h1;omega
    grind
 intro y d;exact key aO [] (0,s) e (λp hp=>by cases hp) (λp hp=>by cases hp) y aJ
theorem aqw s aO:(kO s aO).2=s/\((kO s aO).1=0\/∃y∈aO,(kO s aO).1=y.1+y.2):=by
 have key:∀(aO:List c9)(x:c9),(aO.foldl sV x).2=x.2/\((aO.foldl sV x).1=x.1\/∃y∈aO,(aO.foldl sV x).1=y.1+y.2):=by
  intro aO;induction aO with
  |nil=>simp
  |cons z aO c=>
   intro x;simp only[Dk];obtain⟨a,b⟩:=c (sV x z);unfold sV at a b⊢
   grind
 exact key aO (0,s)
theorem afW{a:Int}:z∈jy a6 a->(a,z)∈a6\/(z,a)∈a6:=by
 intro h;obtain⟨p,hp,e⟩:=Ik.1 h
 grind
theorem azW{a:Int}(b:a≠z)(h:(a,z)∈a6\/(z,a)∈a6):z∈jy a6 a:=by
 rcases h with h|h;exact Ik.2 ⟨(a,z),h,bd⟩;exact Ik.2 ⟨(z,a),h,bd⟩
def wI(a6:List c9)(i o:Nat):Prop:=((i:Int),(o:Int))∈a6\/((o:Int),(i:Int))∈a6
def pd(dd:List Int)(i:Nat):Int:=dd.getD i 0
def hN(bc:List c9)(i:Nat):c9:=bc.getD i (0,0)
structure alT(a6:List c9)(dd:List Int)(os:List Nat)(bc:List c9)(dT:List Bool):Prop where
 pl:∀i,dT.getD i false=true↔i∈os
 size:∀i∈os,(hN bc i).2=pd dd i
 base:∀i∈os,0<=(hN bc i).1
 apart:∀i∈os,∀o∈os,wI a6 i o->vb (hN bc i) (hN bc o)=false
 tight:∀i∈os,(hN bc i).1=0\/∃o∈os,wI a6 i o/\(hN bc o).1+(hN bc o).2=(hN bc i).1
 MH:∀i∈os,(hN bc i).1+(hN bc i).2<=(os.map (pd dd)).sum
theorem aby{α:Type}(l:List α) a i x d(b:a<l.length):(l.set a x).getD i d=if i=a then x else l.getD i d:=by
 grind
theorem aCQ(r:p2 a6 dd m os bc dT)(H:∀i,0<=pd dd i)(G:∀p∈a6,0<=p.1/\p.1<p.2)(q:os.Nodup)(hm:∀i∈os,i<m):alT a6 dd os bc dT:=by
 induction r with
 |nil=>
  refine⟨λi=>?_,(λi h=>by cases h),(λi h=>by cases h),(λi h=>by cases h),(λi h=>by cases h),(λi h=>by cases h)⟩
  grind
 | @step os bc dT a aO r n b=>
  have A:=q;rw[List.nodup_append]at q;obtain⟨D,_,F⟩:=q;have B:a∉os:=λh=>F a h a (hV.2 rfl) rfl;have b:=b D λi c=>hm i (List.mem_append_left _ c);have C:a<m:=hm a (List.mem_append_right _ (hV.2 rfl));obtain⟨N,pl⟩:=r.lens;have K:∀i,hN (bc.set a (kO (dd.getD a 0) aO)) i=if i=a then kO (dd.getD a 0) aO else hN bc i:=λi=>aby _ _ _ _ _ I;have E:∀i,(dT.set a true).getD i false=if i=a then true else dT.getD i false:=λi=>aby _ _ _ _ _ I;have f:∀i∈os,hN (bc.set a (kO (dd.getD a 0) aO)) i=hN bc i:=λi c=>by grind
  have eX:hN (bc.set a (kO (dd.getD a 0) aO)) a=kO (dd.getD a 0) aO:=aJ;have c7:∀y∈aO,∃o∈os,wI a6 a o/\y=hN bc o:=λy j=>by
   obtain⟨z,u,w,e⟩:=Q7 (n.perm.mem_iff.1 j);have d:=(b.pl z.toNat).1 w;have al:0<=z:=by
    rcases afW u with h|h
    grind
    grind
   have J:((z.toNat:Nat):Int)=z:=Int.toNat_of_nonneg al;exact⟨z.toNat,d,by rcases afW u with h|h;exact bW aJ;exact bl aJ,e⟩
  have L:∀o∈os,wI a6 a o->hN bc o∈aO:=λo d ay=>by
   refine n.perm.mem_iff.2 (Ik.2 ⟨(o:Int),azW (λe=>B aJ) ay,?_⟩);rw[bz,aP ((b.pl o).2 d)];rfl
  have ap:=aqv (s:=dd.getD a 0) n.ord;obtain⟨v,g⟩:=aqw (dd.getD a 0) aO;have k:((os++[a]).map (pd dd)).sum=(os.map (pd dd)).sum+pd dd a:=bd;have sp:0<=(os.map (pd dd)).sum:=by
   have:∀l:List Nat,0<=(l.map (pd dd)).sum:=λl=>by
    induction l with
    |nil=>simp
    |cons x l b=>grind
   grind
  have M:∀o,¬wI a6 o o:=λo h=>by
   rcases h with h|h<;>(grind)
  have cs:∀i o,wI a6 i o->wI a6 o i:=λi o h=>h.symm;refine⟨λi=>?_,λi c=>?_,λi c=>?_,λi c o d ay=>?_,λi c=>?_,λi c=>?_⟩;rw[E];split
  grind
  rename_i h;rw[b.pl i,ej,hV]
  grind
  rcases ej.1 c with h|h;rw[f i h];exact b.size i h;rw[hV.1 h,eX];exact v;rcases ej.1 c with h|h;rw[f i h];exact b.base i h;rw[hV.1 h,eX];rcases g with g|⟨y,j,g⟩;omega;obtain⟨o,d,_,rfl⟩:=c7 y j;have:=b.base o d;have:=b.size o d
  grind
  rcases ej.1 c with h|h<;>rcases ej.1 d with aa|aa;rw[f i h,f o aa];exact b.apart i h o aa ay;rw[hV.1 aa]at ay⊢;rw[f i h,eX,aDn]
  grind
  grind
  grind
  rcases ej.1 c with h|h;rw[f i h];rcases b.tight i h with t|⟨o,d,ay,t⟩;omega
  grind
  grind
  rw[k];rcases ej.1 c with h|h;rw[f i h];have:=b.MH i h
  grind
  rw[hV.1 h,eX,v];rcases g with g|⟨y,j,g⟩;show(kO (dd.getD a 0) aO).1+pd dd a<=_;omega;obtain⟨o,d,_,rfl⟩:=c7 y j;have:=b.MH o d;show(kO (dd.getD a 0) aO).1+pd dd a<=_;omega
structure Fin(rows:List (List Int))(m:Nat)(dd:List Int)(bc:List c9):Prop where
 len:bc.length=m
 size:∀i,i<m->(hN bc i).2=pd dd i
 base:∀i,i<m->0<=(hN bc i).1
 apart:∀i,i<m->∀o,o<m->wI (kz rows m) i o->vb (hN bc i) (hN bc o)=false
 tight:∀i,i<m->(hN bc i).1=0\/∃o,o<m/\wI (kz rows m) i o/\(hN bc o).1+(hN bc o).2=(hN bc i).1
 MH:∀i,i<m->(hN bc i).1+(hN bc i).2<=((fL m).map (pd dd)).sum
theorem aBl{l cw:List Int}(h:l.Perm cw):l.sum=cw.sum:=by
 induction h with
 |nil=>rfl
 |cons x _ c=>simp[c]
 |swap x y l=>grind
 |trans _ _ a b=>omega
theorem ahG(r:p2 (kz rows m) dd m os bc dT)(d:∀i,0<=pd dd i)(hp:os.Perm (fL m)):Fin rows m dd bc:=by
 have hm:∀i,i∈os↔i<m:=λi=>by grind
 have k:=aCQ r d (λp hp=>by
  obtain⟨i,o,rfl,a,_⟩:=HB.1 hp;omega) ((hp.nodup_iff).2 List.nodup_range) λi b=>(hm i).1 b
 refine⟨r.lens.1,λi b=>k.size i ((hm i).2 b),λi b=>k.base i ((hm i).2 b),λi b o c=>k.apart i ((hm i).2 b) o ((hm o).2 c),λi b=>?_,λi b=>?_⟩;rcases k.tight i ((hm i).2 b)with t|⟨o,c,t⟩;omega
 grind
 have:=k.MH i ((hm i).2 b);rwa[aBl (hp.map (pd dd))]at this
theorem ZA{i:Nat}(c:i<m)(b:o<m)(d:i≠o):wI (kz rows m) i o↔wo rows i o=true:=by
 have a:∀i o,wo rows i o=wo rows o i:=λi o=>by
  unfold wo
  grind
 unfold wI;rw[HB,HB]
 grind
theorem apS(f:Fin rows m dd bc){i:Nat}(a:i<m):(hN bc i).1+(hN bc i).2<=po bc:=by
 have:hN bc i∈bc:=by
  unfold hN;rw[cx,bZ (by grind [f.len])];simp
 exact ai4 this
def dr(al:J)(b:Nat)(a:List ax)(os:List Nat):J:=al.put b (bb ((os.map λz:Nat=>R (z:Int))++a).toArray 3 (0,0))
theorem SE al b a os:dr al b a os b=some (bb ((os.map λz:Nat=>R z)++a).toArray 3 (0,0)):=OZ
theorem rQ{c:List ax}(a:z=o) d:(dr al b c os).cell? ((nI b 0 none).add (z.toNat*1))=some (R (os[o]:Nat)):=by
 subst a;rw[bz,eV,add_lit,dM];unfold J.cell?;simp only[SE];simp only[List.getElem?_toArray]
 grind
theorem agM:∀(cs:List ax) o v,o<cs.length->over cs o [v]=some (cs.set o v)
 |[],_,_,h=>absurd h (BE _)
 |_::_,0,_,_=>by simp[over]
 |c::cs,o+1,v,h=>by
  have:=agM cs o v (Nat.lt_of_succ_lt_succ h);simp[over,this]
theorem C0{a:List ax}{v:Nat}{L:List LE}{K:List LE->J->Prop}(c:z=o)(d:o<os.length)(k:K L (dr al b a (os.set o v))):H8 L (dr al b a os) ((nI b 0 none).add (z.toNat*1)) [R v] K:=by
 subst c;refine .hp b o 3 _ _ (by rw[bz,eV,add_lit,dM]) (SE _ _ _ _) (agM _ o _ aJ) ?_;unfold dr at k⊢;rw[J.sS,List.set_append_left _ _ aJ];simp_all
def swp(os:List Nat)(i o:Nat):List Nat:=(os.set i (os.getD o 0)).set o (os.getD i 0)
theorem Pv{i:Nat}(b:i<os.length)(a:o<os.length):(swp os i o).Perm os:=by
 unfold swp
 grind
theorem Wz{i:Nat} b a:(os.set i os[o]).set o os[i]=swp os i o:=by
 unfold swp
 grind
abbrev jY(q:Nat):ax:=.func (.func 59) #[] #[gv (some ⟨q,0,none⟩)]
def F5(al:J)(b:Nat)(c:List ax)(os:List Nat)(v:ax)(aa:J):Prop:=v=ey #[]/\∃a:List Nat,a.Perm os/\aa=dr al b c a
theorem Wy{f:List ax}(hm:m<=1000000) os(j:os.length=m)(x y n:Int)(k:0<=x)(d:0<=y)(c:0<=n)(p:x+n<=m)(l:y+n<=m):Fn aB 214 #[ab (some ⟨b,0,none⟩) m cap,R x,R y,R n,jY q] (dr al b f os) λv aa=>F5 al b f os v aa:=by
 obtain⟨x,rfl⟩:=aIM k;obtain⟨y,rfl⟩:=aIM d;obtain⟨n,rfl⟩:=aIM c;refine b6 aw' rfl (.mk (Nat×List Nat) [0,1,2,3,10] (λ(i,_)=>[.v (ab (some ⟨b,0,none⟩) m cap),.v (R x),.v (R y),.v (R n),.v (R i)]) (λ_=>[]) (λ(i,aO) aa=>i<=n/\aO.Perm os/\aa=dr al b f aO) (λ(i,_)=>n-i) (0,os) (λ(_,_)=>rfl) ⟨cW _,.refl _,rfl⟩ rfl rfl ?_);rintro⟨i,aO⟩ e aa ⟨s,hp,rfl⟩;have t:aO.length=m:=by rw[hp.length_eq,j]
 refine aY (λu=>?_) (λu=>?_);have h:i<n:=I;refine .bg (.bg (.bg (.r (.hp _ (rQ (o:=y+i) I I) (.bg (.r (.hp _ (rQ (o:=x+i) I I) (.r (C0 (o:=x+i) (v:=aO[y+i]) I I (.r (C0 (o:=y+i) (v:=aO[x+i]) I aJ ?_)))))))))));have g:=Pv (os:=aO) (i:=x+i) (o:=y+i) I I;have a:(aO.set (x+i) aO[y+i]).set (y+i) aO[x+i]=swp aO (x+i) (y+i):=by
  unfold swp
  grind
 rw[a];exact .bg (⟨(i+1,_),rfl,rfl,⟨h,g.trans hp,rfl⟩,aJ⟩);exact .ah ⟨rfl,aO,hp,rfl⟩
theorem aCt{f:List ax}(hm:m<=1000000) os(p:os.length=m)(x y n:Int)(w:0<=x)(t:x<y)(j:y<n)(s:n<=m):Fn aB 196 #[ab (some ⟨b,0,none⟩) m cap,R x,R y,R n,jY q] (dr al b f os) λv aa=>F5 al b f os v aa:=by
 refine b6 aw4 rfl (.bg (.bg (.mk (Int×Int×List Nat) [0,2,4,10,11] (λ(i,o,_)=>[.v (ab (some ⟨b,0,none⟩) m cap),.v (R y),.v (jY q),.v (R i),.v (R o)]) (λ_=>[]) (λ(i,o,aO) aa=>1<=i/\1<=o/\i<=y/\y+o<=m/\aO.Perm os/\aa=dr al b f aO) (λ(i,o,_)=>(i+o).toNat) (y-x,n-y,os) (λ(_,_,_)=>rfl) ⟨I,I,I,I,.refl _,rfl⟩ rfl rfl ?_)));rintro⟨i,o,aO⟩ e aa ⟨l,k,d,h,hp,rfl⟩;have g:aO.length=m:=by rw[hp.length_eq,p]
 refine aY (λu=>?_) (λu=>?_);refine aY (λr=>?_) (λr=>?_);refine .bg (.ah (.mk _ (Wy hm aO g (y-i) y o I I I I I) ?_));rintro _ _ ⟨rfl,a,c,rfl⟩;exact .bg (⟨(i-o,o,a),rfl,rfl,⟨I,k,I,h,c.trans hp,rfl⟩,aJ⟩);refine .bg (.bg (.bg (.ah (.mk _ (Wy hm aO g (y-i) (y+o-i) i I I I I I) ?_))));rintro _ _ ⟨rfl,a,c,rfl⟩;exact .bg (⟨(i,o-i,a),rfl,rfl,⟨l,I,d,I,c.trans hp,rfl⟩,aJ⟩);refine .bg (.ah (.mk _ (Wy hm aO g (y-i) y i I I I I I) ?_));rintro _ _ ⟨rfl,a,c,rfl⟩;exact .ah ⟨rfl,a,c.trans hp,rfl⟩
theorem adC{g:List ax}{k:Nat}(hm:m<=1000000)(bn:∀aO,r3 (dr al b g aO) q X F k c m d dd) os(p:os.length=m)(l:∀x∈os,x<m)(x y:Int)(H:0<=x)(G:x<=y)(A:y<=m):Fn aB 167 #[ab (some ⟨b,0,none⟩) m cap,R x,R y,jY q] (dr al b g os) λv aa=>F5 al b g os v aa:=by
 refine b6 aej rfl (.bg (.mk (Int×List Nat) [0,1,2,3,8] (λ(i,_)=>[.v (ab (some ⟨b,0,none⟩) m cap),.v (R x),.v (R y),.v (jY q),.v (R i)]) (λ_=>[]) (λ(i,aO) aa=>x+1<=i/\i<=m+1/\aO.Perm os/\aa=dr al b g aO) (λ(i,_)=>(y-i).toNat) (x+1,os) (λ(_,_)=>rfl) ⟨I,I,.refl _,rfl⟩ rfl rfl ?_));rintro⟨i,aO⟩ e aa ⟨D,t,hp,rfl⟩;refine aY (λu=>?_) (λu=>?_);refine .mk (Int×List Nat) [0,1,2,3,8,9] (λ(o,_)=>[.v (ab (some ⟨b,0,none⟩) m cap),.v (R x),.v (R y),.v (jY q),.v (R i),.v (R o)]) (λ_=>[]) (λ(o,aE) aa=>x<=o/\o<=i/\aE.Perm os/\aa=dr al b g aE) (λ(o,_)=>(o-x).toNat) (i,aO) (λ(_,_)=>rfl) ⟨I,I,hp,rfl⟩ rfl rfl ?_;rintro⟨o,aE⟩ B ae ⟨C,E,h,rfl⟩;have z:aE.length=m:=by rw[h.length_eq,p]
 have f:∀x∈aE,x<m:=λx s=>l x (h.mem_iff.1 s);refine aY (λw=>?_) (λw=>?_);obtain⟨a,rfl⟩:=aIM (show 0<=o by omega);refine .r (.hp _ (rQ (o:=a) I I) (.bg (.r (.hp _ (rQ (o:=a-1) I I) (.mk _ (KT (bn aE) hm (f _ (cG _)) (f _ (cG _))) ?_ ?_)))));rintro _ _ ⟨rfl,rfl⟩;exact J.le_refl _;rintro _ _ ⟨rfl,rfl⟩;refine aY (λn=>?_) (λn=>?_);refine .bg ?_;refine .bg ?_;refine .r ?_;refine .hp _ (rQ (o:=a-1) I I) ?_;refine .r ?_;refine .hp _ (rQ (o:=a) I I) ?_;refine .r ?_;refine C0 (o:=a) (v:=aE[a-1]) I I ?_;refine .r ?_;refine C0 (o:=a-1) (v:=aE[a]) I aJ ?_;have j:=Pv (os:=aE) (i:=a) (o:=a-1) I I;rw[Wz I I];exact .bg (⟨((a:Int)-1,_),rfl,rfl,⟨I,I,j.trans h,rfl⟩,aJ⟩);exact .bg (⟨(i+1,aE),rfl,rfl,⟨I,I,h,rfl⟩,aJ⟩);exact .bg (⟨(i+1,aE),rfl,rfl,⟨I,I,h,rfl⟩,aJ⟩);exact .ah ⟨rfl,aO,hp,rfl⟩
theorem MO(z:Int):2*z.fdiv 2<=z/\z<=2*z.fdiv 2+1:=by
 grind
noncomputable def Wg:IR:=.seq (.cd au7) (.cond (.t 213) (.cd au8) .skip)
noncomputable def Pk:IR:=.seq (.seq (.cd au5) (.cond (.t 199) (.cd au6) .skip)) Wg
noncomputable def ahR:IR:=.seq (.seq (.cd adT) (.cond (.t 185) (.cd adU) .skip)) Pk
noncomputable def Wf:IR:=.seq (.cd adS) ahR
noncomputable def K9:IR:=.seq (.cd au4) (.seq (.block 8 (.loop auR)) Wf)
def F6(al:J)(b:Nat)(a:List ax)(q m cap:Nat)(N:Nat):Prop:=∀(os:List Nat),os.length=m->(∀x∈os,x<m)->∀x y z:Int,(z-x).toNat<N->0<=x->x<y->y<z->z<=m->Fn aB 168 #[ab (some ⟨b,0,none⟩) m cap,R x,R y,R z,jY q] (dr al b a os) λv aa=>F5 al b a os v aa
theorem WB Q(e:cy){al:J}{b:Nat}{d:List ax}{q m cap N:Nat}(n:F6 al b d q m cap N) os(o:os.length=m)(j:∀x∈os,x<m)(a c i:Int)(p:0<=c)(l:(a-c).toNat<N)(k:a<=m)(he:[0,3,4,18,24].map e=[.v (ab (some ⟨b,0,none⟩) m cap),.v (R a),.v (jY q),.v (R c),.v (R i)])(f:∀e aO,zM aO os->Q .normal e [] (dr al b d aO)):di aB 220 Wg Q e [] (dr al b d os):=by
 have g:=fK [0,3,4,18,24] e;rw[he]at g;rw[<-g];refine aY (λu=>?_) (λu=>?_);refine aY (λh=>?_) (λh=>?_);refine .ah (.mk _ (n os o j c i a l p u h k) ?_);rintro _ _ ⟨rfl,aO,hp,rfl⟩;exact f _ aO hp;exact f _ os (.refl _);exact f _ os (.refl _)
theorem aEh Q(e:cy){al:J}{b:Nat}{k:List ax}{q m cap N:Nat}(g:F6 al b k q m cap N) os(h:os.length=m)(f:∀x∈os,x<m)(a d c s i:Int)(y:0<=a)(p:0<=c)(n:(d-c).toNat<N)(A:(c-a).toNat<N)(B:c<=m)(j:d<=m)(he:[0,1,3,4,18,20,24].map e=[.v (ab (some ⟨b,0,none⟩) m cap),.v (R a),.v (R d),.v (jY q),.v (R c),.v (R s),.v (R i)])(l:∀e aO,zM aO os->Q .normal e [] (dr al b k aO)):di aB 220 Pk Q e [] (dr al b k os):=by
 have r:=fK [0,1,3,4,18,20,24] e;rw[he]at r;rw[<-r];unfold Pk;generalize ay:Wg=o;refine aY (λu=>?_) (λu=>?_);refine aY (λt=>?_) (λt=>?_);refine .ah (.mk _ (g os h f a s c A y u t B) ?_);rintro _ _ ⟨rfl,aO,hp,rfl⟩;show di aB 220 o Q _ [] _;subst ay;exact WB Q _ g aO (by rw[hp.length_eq,h]) (λx z=>f x (hp.mem_iff.1 z)) d c i p n j rfl λe aE w=>l e aE (w.trans hp);show di aB 220 o Q _ [] _;subst ay;exact WB Q _ g os h f d c i p n j rfl l;show di aB 220 o Q _ [] _;subst ay;exact WB Q _ g os h f d c i p n j rfl l
theorem aEe Q(e:cy){al:J}{b:Nat}{g:List ax}{q m cap:Nat}(hm:m<=1000000) os(o:os.length=m)(a k f j s c:Int)(n:0<=s)(l:c<=m)(he:[0,1,2,3,4,18,20,24].map e=[.v (ab (some ⟨b,0,none⟩) m cap),.v (R a),.v (R k),.v (R f),.v (jY q),.v (R j),.v (R s),.v (R c)])(d:∀e aO,[0,1,3,4,18,20,24].map e=[.v (ab (some ⟨b,0,none⟩) m cap),.v (R a),.v (R f),.v (jY q),.v (R j),.v (R s),.v (R c)]->zM aO os->Q .normal e [] (dr al b g aO)):di aB 220 (.seq (.cd adT) (.cond (.t 185) (.cd adU) .skip)) Q e [] (dr al b g os):=by
 have h:=fK [0,1,2,3,4,18,20,24] e;rw[he]at h;rw[<-h];refine aY (λu=>?_) (λu=>?_);refine aY (λi=>?_) (λi=>?_);refine .ah (.mk _ (aCt hm os o s k c n u i l) ?_);rintro _ _ ⟨rfl,aO,hp,rfl⟩;exact d _ aO rfl hp;exact d _ os rfl (.refl _);exact d _ os rfl (.refl _)
theorem aEd Q(e:cy){al:J}{b:Nat}{d:List ax}{q m cap:Nat} os a h c g n s(l:0<=s)(i:0<=n)(k:n<=4000000)(o:s<=4000000)(he:[0,1,2,3,4,18,19,20].map e=[.v (ab (some ⟨b,0,none⟩) m cap),.v (R a),.v (R h),.v (R c),.v (jY q),.v (R g),.v (R n),.v (R s)])(j:∀e,[0,1,2,3,4,18,20,24].map e=[.v (ab (some ⟨b,0,none⟩) m cap),.v (R a),.v (R h),.v (R c),.v (jY q),.v (R g),.v (R s),.v (R (n-s))]->Q .normal e [] (dr al b d os)):di aB 220 (.cd adS) Q e [] (dr al b d os):=by
 have f:=fK [0,1,2,3,4,18,19,20] e;rw[he]at f;rw[<-f];exact .bg (j _ rfl)
theorem aEg Q(e:cy){al:J}{b:Nat}{g:List ax}{q m cap N:Nat}(hm:m<=1000000)(B:F6 al b g q m cap N) os(k:os.length=m)(w:∀x∈os,x<m)(a i d c n s:Int)(u:0<=a)(G:0<=c)(A:(d-c).toNat<N)(H:(c-a).toNat<N)(I:c<=m)(y:d<=m)(j:0<=s)(l:n-s<=m)(f:0<=n)(p:n<=4000000)(E:s<=4000000)(he:[0,1,2,3,4,18,19,20].map e=[.v (ab (some ⟨b,0,none⟩) m cap),.v (R a),.v (R i),.v (R d),.v (jY q),.v (R c),.v (R n),.v (R s)])(z:∀e aO,zM aO os->Q .normal e [] (dr al b g aO)):di aB 220 Wf Q e [] (dr al b g os):=by
 exact aEd (λex e L h=>match ex with|.normal=>di aB 220 ahR Q e L h|ex=>Q ex e L h) e os a i d c n s j f p E he λt F=>aEe (λex e L h=>match ex with|.normal=>di aB 220 Pk Q e L h|ex=>Q ex e L h) t hm os k a i d c s (n-s) j l F λr aO C hp=>aEh Q r B aO (by rw[hp.length_eq,k]) (λx D=>w x (hp.mem_iff.1 D)) a d c s (n-s) u G A H I y C λe aE o=>z e aE (o.trans hp)
theorem aEf Q(e:cy){al:J}{b:Nat}{h:List ax}{q m cap N:Nat}{X F:Option aI}{k c d:Nat}{dd:List Int}(hm:m<=1000000)(bn:∀aO,r3 (dr al b h aO) q X F k c m d dd)(L:F6 al b h q m cap N) os(M:os.length=m)(i:∀x∈os,x<m)(a j g f n S ar:Int)(w:0<=a)(O:0<=f)(H:(g-f).toNat<N)(P:(f-a).toNat<N)(T:f<=m)(C:g<=m)(y:0<=S)(p:S<=ar)(Y:ar<=m)(A:n-S<=m)(B:ar<=n)(V:n<=2*m)(he:[0,1,2,3,4,18,19,20,21].map e=[.v (ab (some ⟨b,0,none⟩) m cap),.v (R a),.v (R j),.v (R g),.v (jY q),.v (R f),.v (R n),.v (R S),.v (R ar)])(G:∀e aO,zM aO os->Q .normal e [] (dr al b h aO)):di aB 220 K9 Q e [] (dr al b h os):=by
 have l:=fK [0,1,2,3,4,18,19,20,21] e;rw[he]at l;rw[<-l];unfold K9;generalize ay:Wf=K;refine .bg (.mk (Int×Int) [0,1,2,3,4,18,19,20,21,22] (λ(s,r)=>[.v (ab (some ⟨b,0,none⟩) m cap),.v (R a),.v (R j),.v (R g),.v (jY q),.v (R f),.v (R n),.v (R s),.v (R r),.v (R (n-1))]) (λ_=>[]) (λ(s,r) aa=>S<=s/\s<=r/\r<=ar/\aa=dr al b h os) (λ(s,r)=>(r-s).toNat) (S,ar) (λ(_,_)=>rfl) ⟨I,p,I,rfl⟩ rfl rfl ?_);rintro⟨s,r⟩ W ae ⟨D,U,E,rfl⟩;refine aY (λu=>?_) (λu=>?_);have t:=MO (s+r);refine .bg ?_;refine .mk I I ?_;refine .mk I I ?_;generalize(s+r).fdiv 2=z at t⊢;refine .bg ?_;refine .r ?_;refine .hp _ (rQ (o:=(n-1-z).toNat) I I) ?_;refine .r ?_;refine .hp _ (rQ (o:=z.toNat) I I) ?_;refine .mk _ (KT (bn os) hm (i _ (cG _)) (i _ (cG _))) ?_ ?_;rintro _ _ ⟨rfl,rfl⟩;exact J.le_refl _;rintro _ _ ⟨rfl,rfl⟩;refine uw (λ_=>?_) (λ_=>?_);refine .bg ?_;exact⟨(z+1,r),rfl,rfl,⟨I,I,E,rfl⟩,aJ⟩;exact⟨(s,z),rfl,rfl,⟨D,I,I,rfl⟩,aJ⟩;show di aB 220 K Q _ [] _;subst ay;exact aEg Q _ hm L os M i a j g f n s w O H P T C I I I I I rfl G
noncomputable def wz:IR:=.seq (.cd auS) (.cond (.t 28) (.seq (.cd auW) (.seq (.cd au0) (.seq (.block 0 (.loop auN)) (.seq (.seq (.cd au9) (.block 2 (.loop auO))) .ret)))) .skip)
noncomputable def ahQ:IR:=.seq (.cd auT) (.cond (.t 80) (.seq (.cd auU) (.seq (.cd auV) (.seq (.block 4 (.loop auP)) (.seq (.seq (.cd auX) (.block 6 (.loop auQ))) .ret)))) .skip)
noncomputable def Wa:IR:=.seq (.cd auY) (.cond (.t 140) (.seq (.cd auZ) (.cd au1)) (.seq (.cd au2) (.cd au3)))
theorem aD7 Q(e:cy){al:J}{b:Nat}{a:List ax}{q m cap:Nat}{X F:Option aI}{k c d:Nat}{dd:List Int}(hm:m<=1000000)(bn:∀aO,r3 (dr al b a aO) q X F k c m d dd) os(B:os.length=m)(f:∀x∈os,x<m)(x y z:Int)(N:0<=x)(L:x<y)(P:y<z)(E:z<=m)(he:[0,1,2,3,4].map e=[.v (ab (some ⟨b,0,none⟩) m cap),.v (R x),.v (R y),.v (R z),.v (jY q)])(s:∀e aO,zM aO os->Q .ret e [] (dr al b a aO))(A:∀e,[0,1,2,3,4].map e=[.v (ab (some ⟨b,0,none⟩) m cap),.v (R x),.v (R y),.v (R z),.v (jY q)]->¬y-x=1->Q .normal e [] (dr al b a os)):di aB 220 wz Q e [] (dr al b a os):=by
 have g:=fK [0,1,2,3,4] e;rw[he]at g;rw[<-g];refine .bg (aY (λu=>?_) (λu=>?_));refine .mk (Int×Int) [0,1,4,10,11] (λ(i,o)=>[.v (ab (some ⟨b,0,none⟩) m cap),.v (R x),.v (jY q),.v (R i),.v (R o)]) (λ_=>[]) (λ(i,o) aa=>y<=i/\i<=o/\o<=z/\aa=dr al b a os) (λ(i,o)=>(o-i).toNat) (y,z) (λ(_,_)=>rfl) ⟨I,I,I,rfl⟩ rfl rfl ?_;rintro⟨i,o⟩ G ae ⟨n,O,l,rfl⟩;refine aY (λC=>?_) (λC=>?_);have j:=MO (i+o);refine .bg ?_;refine .mk I I ?_;refine .mk I I ?_;generalize(i+o).fdiv 2=t at j⊢;refine .r ?_;refine .hp _ (rQ (o:=t.toNat) I I) ?_;refine .r ?_;refine .hp _ (rQ (o:=x.toNat) I I) ?_;refine .mk _ (KT (bn os) hm (f _ (cG _)) (f _ (cG _))) ?_ ?_;rintro _ _ ⟨rfl,rfl⟩;exact J.le_refl _;rintro _ _ ⟨rfl,rfl⟩;refine uw (λ_=>?_) (λ_=>?_);refine .bg ?_;exact⟨(t+1,o),rfl,rfl,⟨I,I,l,rfl⟩,aJ⟩;exact⟨(i,t),rfl,rfl,⟨n,I,I,rfl⟩,aJ⟩;refine .mk (Int×List Nat) [0,10,13] (λ(w,_)=>[.v (ab (some ⟨b,0,none⟩) m cap),.v (R i),.v (R w)]) (λ_=>[]) (λ(w,aO) aa=>x<=w/\w<=m/\aO.Perm os/\aa=dr al b a aO) (λ(w,_)=>(i-w).toNat) (x,os) (λ(_,_)=>rfl) ⟨I,I,.refl _,rfl⟩ rfl rfl ?_;rintro⟨w,aO⟩ K H ⟨hw,p,hp,rfl⟩;have M:aO.length=m:=by rw[hp.length_eq,B]
 refine .bg (aY (λD=>?_) (λD=>?_));obtain⟨w,rfl⟩:=aIM (show 0<=w by omega);refine .bg (.bg (.r (.hp _ (rQ (o:=w+1) I I) (.r (.hp _ (rQ (o:=w) I I) (.r (C0 (o:=w) (v:=aO[w+1]) I I (.r (C0 (o:=w+1) (v:=aO[w]) I aJ ?_)))))))));have h:=Pv (os:=aO) (i:=w) (o:=w+1) I I;rw[Wz I I];exact .bg (⟨((w:Int)+1,_),rfl,rfl,⟨I,I,h.trans hp,rfl⟩,aJ⟩);exact s _ aO hp;exact A _ rfl u
theorem aD8 Q(e:cy){al:J}{b:Nat}{a:List ax}{q m cap:Nat}{X F:Option aI}{k c d:Nat}{dd:List Int}(hm:m<=1000000)(bn:∀aO,r3 (dr al b a aO) q X F k c m d dd) os(B:os.length=m)(f:∀x∈os,x<m)(x y z:Int)(N:0<=x)(L:x<y)(P:y<z)(E:z<=m)(he:[0,1,2,3,4].map e=[.v (ab (some ⟨b,0,none⟩) m cap),.v (R x),.v (R y),.v (R z),.v (jY q)])(s:∀e aO,zM aO os->Q .ret e [] (dr al b a aO))(A:∀e,[0,1,2,3,4].map e=[.v (ab (some ⟨b,0,none⟩) m cap),.v (R x),.v (R y),.v (R z),.v (jY q)]->¬z-y=1->Q .normal e [] (dr al b a os)):di aB 220 ahQ Q e [] (dr al b a os):=by
 have g:=fK [0,1,2,3,4] e;rw[he]at g;rw[<-g];refine .bg (aY (λu=>?_) (λu=>?_));refine .mk (Int×Int) [0,2,4,14,15] (λ(i,o)=>[.v (ab (some ⟨b,0,none⟩) m cap),.v (R y),.v (jY q),.v (R i),.v (R o)]) (λ_=>[]) (λ(i,o) aa=>x<=i/\i<=o/\o<=y/\aa=dr al b a os) (λ(i,o)=>(o-i).toNat) (x,y) (λ(_,_)=>rfl) ⟨I,I,I,rfl⟩ rfl rfl ?_;rintro⟨i,o⟩ G ae ⟨n,O,l,rfl⟩;refine aY (λC=>?_) (λC=>?_);have j:=MO (i+o);refine .bg ?_;refine .mk I I ?_;refine .mk I I ?_;generalize(i+o).fdiv 2=t at j⊢;refine .r ?_;refine .hp _ (rQ (o:=y.toNat) I I) ?_;refine .r ?_;refine .hp _ (rQ (o:=t.toNat) I I) ?_;refine .mk _ (KT (bn os) hm (f _ (cG _)) (f _ (cG _))) ?_ ?_;rintro _ _ ⟨rfl,rfl⟩;exact J.le_refl _;rintro _ _ ⟨rfl,rfl⟩;refine uw (λ_=>?_) (λ_=>?_);refine .bg ?_;exact⟨(t+1,o),rfl,rfl,⟨I,I,l,rfl⟩,aJ⟩;exact⟨(i,t),rfl,rfl,⟨n,I,I,rfl⟩,aJ⟩;refine .mk (Int×List Nat) [0,14,17] (λ(w,_)=>[.v (ab (some ⟨b,0,none⟩) m cap),.v (R i),.v (R w)]) (λ_=>[]) (λ(w,aO) aa=>i<=w/\w<=y/\aO.Perm os/\aa=dr al b a aO) (λ(w,_)=>(w-i).toNat) (y,os) (λ(_,_)=>rfl) ⟨I,I,.refl _,rfl⟩ rfl rfl ?_;rintro⟨w,aO⟩ K H ⟨hw,p,hp,rfl⟩;have M:aO.length=m:=by rw[hp.length_eq,B]
 refine aY (λD=>?_) (λD=>?_);obtain⟨w,rfl⟩:=aIM (show 0<=w by omega);refine .bg (.bg (.r (.hp _ (rQ (o:=w-1) I I) (.r (.hp _ (rQ (o:=w) I I) (.r (C0 (o:=w) (v:=aO[w-1]) I I (.r (C0 (o:=w-1) (v:=aO[w]) I aJ ?_)))))))));have h:=Pv (os:=aO) (i:=w) (o:=w-1) I I;rw[Wz I I];exact .bg (⟨((w:Int)-1,_),rfl,rfl,⟨I,I,h.trans hp,rfl⟩,aJ⟩);exact s _ aO hp;exact A _ rfl u
theorem aD' Q(e:cy){al:J}{b:Nat}{c:List ax}{q m cap:Nat}(hm:m<=1000000) os(x y z:Int)(i:0<=x)(h:x<y)(j:y<z)(g:z<=m)(he:[0,1,2,3,4].map e=[.v (ab (some ⟨b,0,none⟩) m cap),.v (R x),.v (R y),.v (R z),.v (jY q)])(f:∀e t,2*t<=x+z->x+z<=2*t+1->[0,1,2,3,4,18].map e=[.v (ab (some ⟨b,0,none⟩) m cap),.v (R x),.v (R y),.v (R z),.v (jY q),.v (R t)]->Q .normal e [] (dr al b c os)):di aB 220 (.cd adP) Q e [] (dr al b c os):=by
 have d:=fK [0,1,2,3,4] e;rw[he]at d;rw[<-d];have a:=MO (x+z);exact .bg (.mk I I (.mk I I (f _ _ a.1 a.2 rfl)))
theorem aEa Q(e:cy){al:J}{b:Nat}{a:List ax}{q m cap:Nat}(hm:m<=1000000) os(x y z:Int)(j:0<=x)(i:x<y)(k:y<z)(g:z<=m)(t:Int)(h:0<=t)(f:t<=m)(he:[0,1,2,3,4,18].map e=[.v (ab (some ⟨b,0,none⟩) m cap),.v (R x),.v (R y),.v (R z),.v (jY q),.v (R t)])(d:∀e,[0,1,2,3,4,18,19].map e=[.v (ab (some ⟨b,0,none⟩) m cap),.v (R x),.v (R y),.v (R z),.v (jY q),.v (R t),.v (R (t+y))]->Q .normal e [] (dr al b a os)):di aB 220 (.cd adQ) Q e [] (dr al b a os):=by
 have c:=fK [0,1,2,3,4,18] e;rw[he]at c;rw[<-c];exact .bg (d _ rfl)
theorem aEb Q(e:cy) h aG(he:[0,1,2,3,4,18,19].map e=aG)(a:∀e,[0,1,2,3,4,18,19].map e=aG->Q .normal e [] h):di aB 220 (.cd adR) Q e [] h:=by
 subst he;exact a _ rfl
theorem aEc Q(e:cy){al:J}{b:Nat}{a:List ax}{q m cap:Nat}(hm:m<=1000000) os(x y z:Int)(k:0<=x)(j:x<y)(n:y<z)(h:z<=m)(t:Int)(i:0<=t)(f:t<=m)(g:2*t<=x+z)(l:x+z<=2*t+1)(he:[0,1,2,3,4,18,19].map e=[.v (ab (some ⟨b,0,none⟩) m cap),.v (R x),.v (R y),.v (R z),.v (jY q),.v (R t),.v (R (t+y))])(c:∀(e:cy)(S ar:Int),0<=S->S<=ar->ar<=m->t+y-S<=m->ar<=t+y->[0,1,2,3,4,18,19,20,21].map e=[.v (ab (some ⟨b,0,none⟩) m cap),.v (R x),.v (R y),.v (R z),.v (jY q),.v (R t),.v (R (t+y)),.v (R S),.v (R ar)]->Q .normal e [] (dr al b a os)):di aB 220 Wa Q e [] (dr al b a os):=by
 have d:=fK [0,1,2,3,4,18,19] e;rw[he]at d;rw[<-d];refine aY (λu=>?_) (λu=>?_);exact .bg (c _ (t+y-z) t I I I I I rfl);exact c _ x y I I I I I rfl
noncomputable def ahP:IR:=.seq (.cd adR) (.seq Wa K9)
noncomputable def ahO:IR:=.seq (.cd adQ) ahP
noncomputable def V':IR:=.seq (.cd adP) ahO
theorem aD9 Q(e:cy){al:J}{b:Nat}{f:List ax}{q m cap N:Nat}{X F:Option aI}{k c d:Nat}{dd:List Int}(hm:m<=1000000)(bn:∀aO,r3 (dr al b f aO) q X F k c m d dd)(G:F6 al b f q m cap N) os(M:os.length=m)(B:∀x∈os,x<m)(x y z:Int)(g:0<=x)(n:x<y)(o:y<z)(a:z<=m)(U:(z-x).toNat<N+1)(u:¬y-x=1)(V:¬z-y=1)(he:[0,1,2,3,4].map e=[.v (ab (some ⟨b,0,none⟩) m cap),.v (R x),.v (R y),.v (R z),.v (jY q)])(D:∀e aO,zM aO os->Q .normal e [] (dr al b f aO)):di aB 220 V' Q e [] (dr al b f os):=by
 exact aD' (λex e L h=>match ex with|.normal=>di aB 220 ahO Q e L h|ex=>Q ex e L h) e hm os x y z g n o a he λA t r T O=>aEa (λex e L h=>match ex with|.normal=>di aB 220 ahP Q e L h|ex=>Q ex e L h) A hm os x y z g n o a t I I O λw K=>aEb (λex e L h=>match ex with|.normal=>di aB 220 (.seq Wa K9) Q e L h|ex=>Q ex e L h) w _ _ K λE P=>aEc (λex e L h=>match ex with|.normal=>di aB 220 K9 Q e L h|ex=>Q ex e L h) E hm os x y z g n o a t I I r T P λH S ar i s C j l p=>aEf Q H hm bn G os M B x y z t (t+y) S ar g I I I I a i s C j l I p D
theorem WA{al:J}{b:Nat}{f:List ax}{q m cap:Nat}{X F:Option aI}{k c d:Nat}{dd:List Int}(hm:m<=1000000)(bn:∀aO,r3 (dr al b f aO) q X F k c m d dd):∀N,F6 al b f q m cap N
 |0=>λ_ _ _ x y z n=>absurd n (BE _)
 |N+1=>by
  intro os o i x y z n r p s g;have w:=WA (cap:=cap) hm bn N;refine b6 kw rfl ?_;generalize l:vf aB kw.fn.results.toList _=Q;have j:∀e aO,zM aO os->Q .normal e [] (dr al b f aO):=λe aO hp=>by
   subst l;exact .ah ⟨rfl,aO,hp,rfl⟩
  have a:∀e aO,zM aO os->Q .ret e [] (dr al b f aO):=λe aO hp=>by
   subst l;exact .ah ⟨rfl,aO,hp,rfl⟩
  clear l;exact aD7 (λex e L h=>match ex with|.normal=>di aB 220 (.seq ahQ V') Q e L h|ex=>Q ex e L h) _ hm bn os o i x y z r p s g rfl a λv C u=>aD8 (λex e L h=>match ex with|.normal=>di aB 220 V' Q e L h|ex=>Q ex e L h) v hm bn os o i x y z r p s g C a λt A B=>aD9 Q t hm bn w os o i x y z r p s g n u B A j
theorem aDO{a:List ax}{k:Nat}(hm:m<=1000000)(bn:∀aO,r3 (dr al b a aO) q X F k c m d dd) os(p:os.length=m)(A:∀x∈os,x<m):Fn aB 122 #[ab (some ⟨b,0,none⟩) m cap,R m,jY q] (dr al b a os) λv aa=>F5 al b a os v aa:=by
 refine b6 TX rfl ?_;generalize ay:IR.block 2 (.loop auF)=c2;refine .mk (Int×Int×List Nat) [0,1,2,6,7,8] (λ(i,o,_)=>[.v (ab (some ⟨b,0,none⟩) m cap),.v (R m),.v (jY q),.v (R 20),.v (R i),.v (R o)]) (λ_=>[]) (λ(i,o,aO) aa=>0<=i/\i<=m/\o=i+20/\aO.Perm os/\aa=dr al b a aO) (λ(i,_,_)=>((m:Int)-i).toNat) (0,20,os) (λ(_,_,_)=>rfl) ⟨I,I,I,.refl _,rfl⟩ rfl rfl ?_;rintro⟨i,o,aO⟩ e aa ⟨h,z,rfl,hp,rfl⟩;have D:aO.length=m:=by rw[hp.length_eq,p]
 have C:∀x∈aO,x<m:=λx r=>A x (hp.mem_iff.1 r);refine aY (λu=>?_) (λu=>?_);refine .ah (.mk _ (adC hm bn aO D C i (i+20) h I u) ?_);rintro _ _ ⟨rfl,aE,t,rfl⟩;exact .bg (⟨(i+20,i+20+20,aE),rfl,rfl,⟨I,I,rfl,t.trans hp,rfl⟩,aJ⟩);refine .ah (.mk _ (adC hm bn aO D C i m h z I) ?_);rintro _ _ ⟨rfl,aE,t,rfl⟩;subst ay;refine .mk (Int×List Nat) [0,1,2,6] (λ(s,_)=>[.v (ab (some ⟨b,0,none⟩) m cap),.v (R m),.v (jY q),.v (R s)]) (λ_=>[]) (λ(s,ws) aa=>20<=s/\s<=2000020/\ws.Perm os/\aa=dr al b a ws) (λ(s,_)=>((m:Int)-s).toNat) (20,aE) (λ(_,_)=>rfl) ⟨I,I,t.trans hp,rfl⟩ rfl rfl ?_;rintro⟨s,ws⟩ H ae ⟨J,M,l,rfl⟩;refine aY (λw=>?_) (λw=>?_);have G:ws.length=m:=by rw[l.length_eq,p]
 refine .bg (.mk (Int×Int×List Nat) [0,1,2,6,7,8] (λ(i,o,_)=>[.v (ab (some ⟨b,0,none⟩) m cap),.v (R m),.v (jY q),.v (R s),.v (R i),.v (R o)]) (λ_=>[]) (λ(i,o,aO) aa=>0<=i/\i<=m/\o=i+2*s/\aO.Perm os/\aa=dr al b a aO) (λ(i,_,_)=>((m:Int)-i).toNat) (0,2*s,ws) (λ(_,_,_)=>rfl) ⟨I,I,I,l,rfl⟩ rfl rfl ?_);rintro⟨i,o,aG⟩ L K ⟨h,z,rfl,f,rfl⟩;have y:aG.length=m:=by rw[f.length_eq,p]
 have g:∀x∈aG,x<m:=λx r=>A x (f.mem_iff.1 r);refine aY (λB=>?_) (λB=>?_);refine .bg (.ah (.mk _ (WA hm bn (i+2*s-i+1).toNat aG y g i (i+s) (i+2*s) I h I I B) ?_));rintro _ _ ⟨rfl,n,j,rfl⟩;exact .bg (.bg (⟨(i+2*s,i+2*s+2*s,n),rfl,rfl,⟨I,I,rfl,j.trans f,rfl⟩,aJ⟩));refine .bg (aY (λE=>?_) (λE=>?_));refine .ah (.mk _ (WA hm bn ((m:Int)-i+1).toNat aG y g i (i+s) m I h I E I) ?_);rintro _ _ ⟨rfl,n,j,rfl⟩;exact .bg (⟨(s*2,n),rfl,rfl,⟨I,I,j.trans f,rfl⟩,aJ⟩);exact .bg (⟨(s*2,aG),rfl,rfl,⟨I,I,f,rfl⟩,aJ⟩);exact .ah ⟨rfl,ws,l,rfl⟩
theorem aDN{a:List ax}{k:Nat}(hm:m<=1000000)(bn:∀aO,r3 (dr al b a aO) q X F k c m d dd) os(f:os.length=m)(e:∀x∈os,x<m):Fn aB 58 #[ab (some ⟨b,0,none⟩) m cap,jY q] (dr al b a os) λv aa=>F5 al b a os v aa:=by
 refine b6 aem rfl (.ah (.mk _ (aDO hm bn os f e) ?_));rintro _ _ ⟨rfl,aE,g,rfl⟩;exact .ah ⟨rfl,aE,g,rfl⟩
theorem agK:∀(l:List c9) a(x:c9),a<l.length->over (l.map cN).flatten (a*2) (cN x)=some ((l.set a x).map cN).flatten
 |[],a,x,h=>by simp at h
 |y::l,0,x,_=>by
  show over (R y.1::R y.2::(l.map cN).flatten) 0 [R x.1,R x.2]=some (R x.1::R x.2::(l.map cN).flatten);simp[over]
 |y::l,a+1,x,h=>by
  have b:=agK l a x aJ;have e:(a+1)*2=a*2+1+1:=I;rw[e];show over (R y.1::R y.2::(l.map cN).flatten) (a*2+1+1) (cN x)=some (R y.1::R y.2::((l.set a x).map cN).flatten);simp[over,b]
theorem aBi{a:Nat} h:∀k v,(cN l[a])[k]?=some v->((l.map cN).flatten)[a*2+k]?=some v:=by
 intro k v b;have hk:k<2:=(pZ.1 b).1;have h1:=OV l (a*2+k) I;rw[h1,show(a*2+k)/2=a by omega,show(a*2+k)%2=k by omega];rw[getElem!_pos l.toArray a I];match k,hk,b with
 |0,_,b=>exact b
 |1,_,b=>exact b
abbrev wT(q m:Nat)(a b:aI)(bc:List c9)(dT:List Bool):List LE:=[.own [.v (ab none 0 0),.v (R 0)] 37,.b4 q,.row 142 2 (some a) m m (bc.map cN).flatten,.row 4 1 (some b) m m (dT.map c5)]
theorem aBq{d f:aI}(aq:bc.length=m)(hp:dT.length=m){B:Option aI}{ed:Nat}{b:List Int}(x:bf H 1 B b.length (b.map λz=>[R z]))(Y:b.length<=1000000)(L:∀z∈b,0<=z/\z<m) O(t j k a:Nat) Q(e:cy) X(he:[4,6,10,11,13,14,53,54,55,61,62,63].map e=[.p 0 0,.p 1 0,.v (ab (some d) m m),.v (ab (some f) m m),.v (R a),.v (ab none 0 0),.v (ab O j t),.v (R j),.v (R k),.v (ab B b.length ed),.v (R b.length),.v (R 0)])
 (T:∀y aa E c,H.le aa->(∀g,E=some g->H g.block=none)->[4,6,10,11,13,14,53,54,55].map y=[.p 0 0,.p 1 0,.v (ab (some d) m m),.v (ab (some f) m m),.v (R a),.v (ab E (l' b bc dT).length c),.v (ab O j t),.v (R j),.v (R k)]->
  Q .normal y (wT q m d f bc dT++[.row 142 2 E (l' b bc dT).length c ((l' b bc dT).map cN).flatten]) aa):
 di aB 119 (.block 4 (.loop NS)) Q e (wT q m d f bc dT++X) H:=by
 have C:=fK [4,6,10,11,13,14,53,54,55,61,62,63] e
 rw[he]at C
 rw[<-C]
 refine .mq [0,1,2,3] (Nat×Option aI×Nat) [4,6,10,11,13,14,53,54,55,61,62,63] (λ(o,E,c)=>[.p 0 0,.p 1 0,.v (ab (some d) m m),.v (ab (some f) m m),.v (R a),.v (ab E (l' (b.take o) bc dT).length c),.v (ab O j t),.v (R j),.v (R k),.v (ab B b.length ed),.v (R b.length),.v (R o)]) (λ_=>wT q m d f bc dT) (λ(o,E,c) aa=>H.le aa/\o<=b.length/\bJ aa 142 2 E (l' (b.take o) bc dT).length c ((l' (b.take o) bc dT).map cN).flatten/\∀g,E=some g->H g.block=none) (λ(o,_,_)=>b.length-o) (0,none,0) (λ(_,_,_)=>rfl) ⟨J.le_refl _,cW _,⟨rfl,bW ⟨rfl,rfl,rfl⟩⟩,λ_ e=>by cases e⟩ rfl rfl rfl ?_
 rintro⟨o,E,c⟩ e aa ⟨S,Z,row,K⟩
 have i:=Af S K
 have eH:(l' (b.take o) bc dT).length<=o:=by
  unfold l'
  grind
 refine .abs 142 2 E _ c _ row (.ah (aY (λu=>?_) (λu=>?_)))
 have D:o<b.length:=I
 obtain⟨g,h⟩:=x.cg I
 obtain⟨z,yZ⟩:∃z,z=b[o]:=⟨_,rfl⟩
 have W:(b.map λz=>[R z])[o]?=some [R z]:=aJ
 obtain⟨z0,G⟩:=L z aJ
 have M:z.toNat<m:=I
 have N:b.take (o+1)=b.take o++[z]:=by simp_all
 have l:=anQ (b.take o) z bc dT
 rw[<-N]at l
 refine .m g h (.hp (R z) (by rw[bz];exact(x.mono i).one h W rfl) (.mk f rfl z0 G (.row 3 4 1 f m m _ z.toNat (c5 (dT[z.toNat]'I)) rfl bd bd ?_)))
 have F:dT.getD z.toNat false=dT[z.toNat]'I:=aJ
 cases w:dT[z.toNat]'I with
 |true=>
  have n:l' [z] bc dT=[bc[z.toNat]'I]:=by
   simp only[l',akR,akS,F,w,lY]
   grind
  rw[n]at l;refine .mk d rfl z0 G (.row 2 142 2 d m m _ (z.toNat*2) (cN (bc[z.toNat]'I)) rfl rfl rfl (aBi I) (.ah (.c3 4 _ (cN (bc[z.toNat]'I)) rfl rfl (by intro u hu;simp[cN]at hu;rcases hu with rfl|rfl<;>rfl) (by grind [eD]) I λs c2 _=>.bg (.b4 4 142 2 s _ c2 _ rfl λP r V f4=>.ah ⟨(o+1,s,c2),?_,rfl,⟨J.le_trans i r,D,?_,λg h=>J.none_le i (f4 g h)⟩,aJ⟩))));show _=[aK.p 0 0,.p 1 0,.v (ab (some d) m m),.v (ab (some f) m m),.v (R a),.v (ab s (l' (b.take (o+1)) bc dT).length c2),_,_,_,_,_,_];rw[l,fc];rfl
  grind
 |false=>
  have n:l' [z] bc dT=[]:=by
   simp only[l',akR,akS,F,w];rfl
  rw[n,s7]at l;refine .bg (.b4 4 142 2 E _ c _ rfl λP r V f4=>.ah ⟨(o+1,E,c),?_,rfl,⟨J.le_trans i r,D,?_,λg h=>J.none_le i (f4 g h)⟩,aJ⟩);show _=[aK.p 0 0,.p 1 0,.v (ab (some d) m m),.v (ab (some f) m m),.v (R a),.v (ab E (l' (b.take (o+1)) bc dT).length c),_,_,_,_,_,_];rw[l];rfl
  grind
 have:o=b.length:=I
 subst this
 have A:b.take b.length=b:=lN (dz _)
 have U:l' (b.take b.length) bc dT=l' b bc dT:=by rw[A]
 rw[A]
 refine T _ _ E c i K ?_
 rw[<-U]
 rfl
theorem aBr{c d:aI}{E:Option aI}{t:Nat}(n:bf H 2 E aO.length (aO.map cN))(K:aO.length<=1000000)(G:0<=s)(P:s<=131328)(j:∀y∈aO,0<=y.1/\0<=y.2/\y.1+y.2<=100000000000) O(i f k a:Nat) Q(e:cy)(he:[4,6,10,11,13,14,17,53,54,55].map e=[.p 0 0,.p 1 0,.v (ab (some c) m m),.v (ab (some d) m m),.v (R a),.v (ab E aO.length t),.p 5 0,.v (ab O f i),.v (R f),.v (R k)])
 (C:∀r,[4,6,10,11,13,17,53,54,55].map r=[.p 0 0,.p 1 0,.v (ab (some c) m m),.v (ab (some d) m m),.v (R a),.p 4 0,.v (ab O f i),.v (R f),.v (R k)]->
  Q .normal r (wT q m c d bc dT++[.own [.v (R (kO s aO).1),.v (R (kO s aO).2)] 142]) H):
 di aB 119 (.seq (.cd J8) (.block 6 (.loop J7))) Q e (wT q m c d bc dT++[.gone,.own [.v (R 0),.v (R s)] 142]) H:=by
 have w:=fK [4,6,10,11,13,14,17,53,54,55] e
 rw[he]at w
 rw[<-w]
 refine .AV [0,1,2,3,5] Nat [4,6,10,11,13,17,53,54,55,87,88,89] (λo=>[.p 0 0,.p 1 0,.v (ab (some c) m m),.v (ab (some d) m m),.v (R a),.p 4 0,.v (ab O f i),.v (R f),.v (R k),.v (ab E aO.length t),.v (R aO.length),.v (R o)]) (λo=>wT q m c d bc dT++[.own [.v (R (kO s (aO.take o)).1),.v (R (kO s (aO.take o)).2)] 142]) (λo aa=>aa=H/\o<=aO.length) (λo=>aO.length-o) 0 (λ_=>rfl) ⟨rfl,cW _⟩ rfl rfl rfl ?_
 rintro o e aa ⟨rfl,L⟩
 obtain⟨f1,f2,f3⟩:=abh (s:=s) (B:=100000000000) (aO:=aO.take o) aM λy h=>j y (LV h)
 refine aY (λu=>?_) (λu=>?_)
 have x:o<aO.length:=I
 obtain⟨g,l⟩:=n.cg I
 obtain⟨y,J⟩:∃y,y=aO[o]:=⟨_,rfl⟩
 have F:(aO.map cN)[o]?=some (cN y):=aJ
 obtain⟨M,N,S⟩:=j y aJ
 have A:aO.take (o+1)=aO.take o++[y]:=by simp_all
 have b:=aqx s (aO.take o) y
 rw[<-A]at b
 unfold sV at b
 refine .m g l (.hp (cN y) rfl (by rw[bz];exact n.row l F) (.ah (.mk _ (aDm (kO s (aO.take o)) y aa ⟨I,I,I,I⟩ ⟨I,I,I,I⟩) ?_)))
 rintro _ _ ⟨rfl,rfl⟩
 cases z:vb (kO s (aO.take o)) y with
 |true=>
  rw[z,aP rfl]at b;refine .bg ?_;refine .bg ?_;refine⟨o+1,rfl,?_,⟨rfl,x⟩,I⟩;rw[b];rfl
 |false=>
  rw[z]at b;have b:kO s (aO.take (o+1))=kO s (aO.take o):=b;refine .bg ?_;refine⟨o+1,rfl,?_,⟨rfl,x⟩,I⟩;simp_all
 have:o=aO.length:=I
 subst this
 have D:aO.take aO.length=aO:=lN (dz _)
 rw[D]
 exact C _ rfl
theorem azY{a:Int}(h:z∈jy a6 a):∃p∈a6,(a=p.1/\z=p.2)\/(a=p.2/\z=p.1):=by
 obtain⟨p,hp,e⟩:=Ik.1 h
 grind
theorem azX a6 a:(jy a6 a).length<=a6.length:=ak2 _ _
structure QA(H:J)(q:Nat)(X F O:Option aI)(b0 c m d ma:Nat)(a6:List c9)(dd:List Int)(os:List Nat):Prop where
 oq:r3 H q X F b0 c m d dd
 cl:bf H 2 X b0 (a6.map cN)
 U':bf H 1 O m (os.map λz:Nat=>[R (z:Int)])
 ayi:b0<=1000000
 eg:m<=10000
 aAG:∀a∈os,a<m
 pm:∀p∈a6,(0<=p.1/\p.1<m)/\0<=p.2/\p.2<m
 Vy:∀i,0<=dd.getD i 0/\dd.getD i 0<=131328
theorem aBp{O:Option aI}{l n:Nat}(x:QA H q X F O l c m d n a6 dd os) b f sH N Q(e:cy)(he:[4,6,8,10,11].map e=[.p 1 0,.p 2 0,.v (ab O m n),.v (ab (some b) m m),.v (ab (some f) m m)])(cM:∀V aa bc dT,H.le aa->p2 a6 dd m os bc dT->[4,10].map V=[.p 0 0,.v (ab (some b) m m)]->Q .normal V (wT q m b f bc dT) aa):di aB 119 (.seq (.cd TS) (.block 2 (.loop TR))) Q e [sH,.own [.v (ab none 0 0),.v (R 0)] 37,.b4 q,N,.row 142 2 (some b) m m ((bh m (0,0)).map cN).flatten,.row 4 1 (some f) m m ((bh m false).map c5)] H:=by
 have i:=fK [4,6,8,10,11] e;rw[he]at i;rw[<-i];have rH:os.length=m:=by simpa using x.U'.len
 have Cq:a6.length=l:=by simpa using x.cl.len
 have yQ:dd.length=m:=by simpa using x.oq.dV.len
 have hm:=x.eg;have sA:=x.ayi;refine .AV [1,2,4,5] (Nat×List c9×List Bool) [4,6,10,11,53,54,55] (λ(k,_,_)=>[.p 0 0,.p 1 0,.v (ab (some b) m m),.v (ab (some f) m m),.v (ab O m n),.v (R m),.v (R k)]) (λ(_,bc,dT)=>wT q m b f bc dT) (λ(k,bc,dT) aa=>H.le aa/\k<=m/\p2 a6 dd m (os.take k) bc dT) (λ(k,_,_)=>m-k) (0,bh m (0,0),bh m false) (λ(_,_,_)=>rfl) ⟨J.le_refl _,cW _,.nil⟩ rfl rfl rfl ?_;rintro⟨k,bc,dT⟩ e aa ⟨A,hk,run⟩;obtain⟨lj,L⟩:=run.lens;show di aB 119 (.seq (.cd adX) (.seq (.cond (.t 56) .skip (.exit 2)) (.seq (.block 3 (.seq (.cd adY) (.seq (.cd adZ) (.seq (.seq (.cd ad0) (.block 4 (.loop NS))) (.seq (.cd ad1) (.seq (.cd ad2) (.seq (.seq (.cd J8) (.block 6 (.loop J7))) (.cd ad3)))))))) (.cd ad4)))) _ _ _ _;generalize K:IR.block 4 (.loop NS)=eW;generalize SP:IR.seq (.cd J8) (.block 6 (.loop J7))=xa;refine aY (λu=>?_) (λu=>?_);have bP:k<os.length:=I;obtain⟨g,w⟩:=x.U'.cg I;obtain⟨a,aV⟩:∃a,a=os[k]:=⟨_,rfl⟩;have arH:a<m:=x.aAG a aJ;have sy:(os.map λz:Nat=>[R (z:Int)])[k]?=some [R (a:Int)]:=aJ;have aR:os.take (k+1)=os.take k++[a]:=by simp_all
 have pC:∀M,H.le M->∀o v,[ab X l c,ab F m d][o]?=some v->M.cell? ⟨q,o,none⟩=some v:=λM ak o v an=>by
  unfold J.cell?;simp only[ak _ _ x.oq.cell]
  grind
 have GU:=azX a6 (a:Int);refine .m g w (.hp (R (a:Int)) (by rw[bz];exact(x.U'.mono A).one w sy rfl) (.hp [ab X l c,ab F m d] rfl (λo v an=>by rw[add_lit,dM];grind) (.ah (.mk _ (azU X F l c m d a6 a aa (x.cl.mono A) sA) ?_))));rintro _ ae ⟨dg,B,ed,rfl,WC⟩;have j:=J.le_trans A dg;conv=>whnf
 subst K;refine aBq lj L WC I (λz S=>?_) O n m k a _ _ [] rfl λaQ au E W N sl gR=>?_;obtain⟨p,hp,h|h⟩:=azY S;have:=x.pm p hp;omega;have:=x.pm p hp;omega;have i:=fK [4,6,10,11,13,14,53,54,55] aQ;rw[gR]at i;rw[<-i];have tr:(l' (jy a6 a) bc dT).length<=a6.length:=og (ak2 _ _) GU;refine .b4 4 142 2 E _ W _ rfl λaU h4 kW f4=>.ah (.mk _ (aDv E _ W _ aU kW I) ?_);rintro _ cE ⟨aO,rfl,C,Z,same⟩;have Y:aO.length=(l' (jy a6 a) bc dT).length:=C.perm.length_eq;have G:H.le cE:=λo U ag=>by
  rw[same o λg w e=>?_];exact h4 _ _ (N _ _ (j _ _ ag));have:=J.none_le j (sl g w)
  grind
 obtain⟨s,T⟩:∃s,s=dd.getD a 0:=⟨_,rfl⟩;have D:=x.Vy a;rw[<-T]at D;have JT:dd[a]?=some s:=aJ;obtain⟨i',P⟩:=x.oq.dV.cg I;refine .hp (ab F m d) (pC _ G 1 _ rfl) (.m i' P (.hp (R s) (by rw[bz];exact(x.oq.dV.mono G).one P (r:=[R s]) aJ rfl) ?_));conv=>whnf
 subst SP;rw[<-Y]at Z;have aHm:=run.IL x.Vy;have TG:∀y∈aO,0<=y.1/\0<=y.2/\y.1+y.2<=100000000000:=λy aN=>by
  obtain⟨z,_,S,rfl⟩:=Q7 ((C.perm.mem_iff).1 aN)
  grind
 show di aB 119 (.seq (.cd J8) (.block 6 (.loop J7))) _ _ (wT q m b f bc dT++[.gone,.own [.v (R 0),.v (R s)] 142]) _;refine aBr Z.HS I D.1 D.2 TG O n m k a _ _ (by rw[Y];rfl) λcV rE=>?_;have i:=fK [4,6,10,11,13,17,53,54,55] cV;rw[rE]at i;rw[<-i];refine .m b rfl (.row 2 142 2 b m m _ _ (a*2) rfl dC (agK bc a (kO s aO) I) (.m f rfl (.row 3 4 1 f m m _ _ a rfl bd (ih _ _ _ aJ) (.bg (⟨(k+1,bc.set a (kO s aO),dT.set a true),rfl,?_,⟨G,I,?_⟩,aJ⟩)))));show _=wT q m b f (bc.set a (kO s aO)) (dT.set a true);unfold wT;rw[show(dT.set a true).map c5=(dT.map c5).set a (c5 true)from bd];rfl;rw[aR,T];exact .step a aO run C;have:k=m:=I;subst this;have dO:os.take k=os:=lN I;rw[dO]at run;exact cM _ _ _ _ A run rfl
def Yi(m:Nat)(dd:List Int)(ar:List Nat->Prop):Prop:=∀(h:J)(q:Nat)(X F:Option aI)(b c d:Nat),r3 h q X F b c m d dd->∀(A:Option aI)(cap:Nat),bJ h 3 1 A m cap ((fL m).map λz:Nat=>R (z:Int))->(∀eX a,A=some eX->F=some a->0<m->eX.block≠a.block)->Fn aB 58 #[ab A m cap,.func (.func 59) #[] #[gv (some ⟨q,0,none⟩)]] h λv aa=>v=ey #[]/\∃os:List Nat,os.Perm (fL m)/\ar os/\bJ aa 3 1 A m cap (os.map λz:Nat=>R (z:Int))/\∀o,(∀g,A=some g->o≠g.block)->aa o=h o
theorem bf.p5{size:Nat}{rows:List (List ax)}(t:bf h size A n rows)(f:0<n)(i:0<size){g:aI}(b:A=some g):h g.block≠none:=by
 intro e;have ak:=t.len;have a:rows[0]?=some rows[0]:=bZ I;have hw:=t.wid _ (List.mem_of_getElem? a);have c:rows[0][0]?=some rows[0][0]:=bZ I;have:=t.cell g b 0 _ a 0 _ c;have d:(g.add (0*size+0)).block=g.block:=by unfold LH;simp
 unfold J.cell? at this
 grind
def alN(h:J)(N:Int)(ad:List bT)(aE:List Int)(ar:List Nat->Prop)(v:ax)(aa:J):Prop:=
 h.le aa/\(mo N ad aE≠0->v=ey #[K0 none 0 0 0,R (mo N ad aE)])/\
  (mo N ad aE=0->∃os bc dT,os.Perm (fL ad.length)/\ar os/\p2 (kz (eo N ad aE).2 ad.length) (lm (eo N ad aE).2) ad.length os bc dT/\
   (1024<po bc->v=ey #[K0 none 0 0 0,R 5])/\(po bc<=1024->∃A,v=ey #[K0 (some A) ad.length ad.length (po bc),R 0]/\bf aa 2 (some A) ad.length (bc.map cN)))
def tT(m k:Nat):List ax:=((fL k).map λz:Nat=>R (z:Int))++bh (m-k) (R 0)
theorem agB{k:Nat}(h:k<=m):(tT m k).length=m:=by grind [tT]
theorem agC{k:Nat}(h:k<m):(tT m k).set k (R k)=tT m (k+1):=by
 unfold tT;rw[List.set_append_right _ _ bd,List.length_map,Qq,Nat.sub_self,Bz,fF,kC];congr 1;rw[show m-k=(m- (k+1))+1 by omega,wS];rfl
theorem aza m:(sI (#[R 0,R 0]:Array ax) (m*2)).toList=((bh m (0,0)).map cN).flatten:=by
 have h1:∀k,((bh k ((0:Int),(0:Int))).map cN).flatten=bh (k*2) (R 0):=λk=>by
  induction k with
  |zero=>rfl
  |succ k a=>
   rw[wS,ec,List.flatten_cons,a,show(k+1)*2=k*2+1+1 by omega,wS,wS];rfl
 rw[h1];apply List.ext_getElem?;intro o;unfold sI
 grind
theorem aBo N n cap ad A D r jn aE h(av:bf h 5 A n (ad.map bT.cells))(aA:n*40<=140737488355328)(a1:bf h 1 D r (aE.map λz=>[R z])) ar(V:mo N ad aE=0->Yi ad.length (lm (eo N ad aE).2) ar):Fn aB 24 #[mW N A n cap,ab D r jn] h λv aa=>alN h N ad aE ar v aa:=by
 refine b6 axd rfl (.ah (.mk _ (ayY N n cap ad A D r jn aE h av aA a1) (λv h1⟨df,aj,am⟩=>?_)));by_cases he:mo N ad aE=0;have V:=V he;obtain⟨E,c,F,d,rfl,K,W⟩:=am he;have jt:(eo N ad aE).1=0:=by
  refine wJ λq=>?_;unfold mo at he;omega
 have Ec:=YK jt;have hm:=(lT Ec).2.2.1;obtain⟨pe,aIp⟩:=Ku jt;generalize kG:IR.block 0 (.loop adW)=c1;generalize SO:IR.seq (.cd TS) (.block 2 (.loop TR))=c2;refine oP.one ad.length (R 0) rfl rfl rfl rfl I I λg=>?_;subst kG;have yQ:(kz (eo N ad aE).2 ad.length).length<=9216:=og (QS ad.length _ ((agQ _ _).imp λ{a b} h e=>by rw[e]at h;exact OW _ h) λp hp=>by
  obtain⟨i,o,e,a,b,_⟩:=HB.1 hp
  grind) (lP hm hm)
 refine .mk Nat [4,6,8,35,36] (λk=>[.p 1 0,.p 2 0,.v (ab (some g) ad.length ad.length),.v (R ad.length),.v (R k)]) (λk=>[.own [.v (R N),.v (ab A n cap)] 33,.own [.v (ab none 0 0),.v (R 0)] 37,.own [.v (ab E (kz (eo N ad aE).2 ad.length).length c),.v (ab F ad.length d)] 188,.row 3 1 (some g) ad.length ad.length (tT ad.length k)]) (λk aa=>aa=h1/\k<=ad.length) (λk=>ad.length-k) 0 (λ_=>rfl) ⟨rfl,cW _⟩ rfl rfl ?_;refineλk e aa⟨rfl,hk⟩=>aY (λu=>?_) (λu=>?_);have T:k<ad.length:=I;refine .m g rfl (.row 3 3 1 g ad.length ad.length _ _ k rfl bd (ih _ _ _ (by rw[agB I];exact T)) (.bg (⟨k+1,rfl,?_,⟨rfl,T⟩,I⟩)));rw[<-agC T];rfl;have rF:k=ad.length:=I;subst rF;have aS:tT ad.length ad.length=(fL ad.length).map λz:Nat=>R (z:Int):=by simp[tT]
 rw[aS];refine .mk λq Z=>?_;refine .b4 3 3 1 (some g) ad.length ad.length _ rfl λau C K5 f3=>.ah (.mk _ (V au q E F _ c d ⟨C _ _ (J.b1 _ _ _),W.mono (J.le_trans (J.dI Z) C)⟩ (some g) _ K5 (λeX i' M L al cV=>by
  injection M with M;subst M;have X:=f3 g rfl;by_cases s:g.block=q;rw[s,J.b1]at X;cases X;rw[J.cB _ _ s]at X;exact W.p5 al aM L aJ)) ?_)
 rintro _ O ⟨rfl,os,y,c',kW,same⟩;have Q:g.block≠q:=λe=>by
  have:=f3 g rfl;rw[e,J.b1]at this
  grind
 have G:aa.le O:=λo U Y=>by
  rw[same o λg2 B e=>?_];exact C _ _ (J.dI Z _ _ Y);injection B with B;subst B;have:=f3 g rfl;rw[J.cB _ _ Q,<-e,Y]at this
  grind
 have S:O q=some (bb [ab E (kz (eo N ad aE).2 ad.length).length c,ab F ad.length d].toArray 188 (0,0)):=by
  rw[same q λg2 B e=>aJ];exact C _ _ (J.b1 _ _ _)
 refine oP.mk ad.length rfl rfl I I λf=>?_;show g8 119 _ _ _ (gV _ 3 LE.gone++[LE.row 142 2 (some f) _ _ (sI (#[R 0,R 0]:Array ax) (ad.length*2)).toList]) _ _;rw[aza];refine oP.one ad.length (c5 false) rfl rfl rfl rfl I I λj7=>?_;rw[show bh ad.length (c5 false)=(bh ad.length false).map c5 from bd];conv=>whnf
 subst SO;have P:QA O q E F (some g) (kz (eo N ad aE).2 ad.length).length c ad.length d ad.length (kz (eo N ad aE).2 ad.length) (lm (eo N ad aE).2) os:=by
  refine⟨⟨S,W.mono G⟩,K.mono G,?_,I,I,λa aV=>uo.1 ((y.mem_iff).1 aV),λp hp=>?_,λi=>?_⟩;have:=bJ.one (l:=os.map λz:Nat=>(z:Int)) (by rw[iD];exact kW);rw[iD]at this;exact this;obtain⟨i,o,rfl,a,b,_⟩:=HB.1 hp;omega;by_cases ai:i<ad.length
  grind
  rw[cx,List.getElem?_eq_none (by grind [pe.len])];simp
 refine aBp P f j7 _ _ _ _ rfl λL cE bc dT pL run gR=>?_;have eB:=fK [4,10] L;rw[gR]at eB;rw[<-eB];have Et:=run.IL P.Vy;have rH:os.length<=96:=by rw[y.length_eq,Qq];exact hm
 have j:∀x∈bc,Mc x:=λx af=>by
  have:=Et x af;exact⟨I,I,I,I⟩
 refine .b4 2 142 2 (some f) _ _ _ rfl λe6 CD H f6=>.ah (.mk _ (ai3 (some f) _ _ bc e6 H.HS j I) ?_);rintro _ _ ⟨rfl,rfl⟩;have t:=J.le_trans df (J.le_trans G (J.le_trans pL CD));refine aY (λw=>?_) (λw=>?_);exact .ah ⟨t,λq=>absurd he q,λ_=>⟨os,bc,dT,y,c',run,λ_=>rfl,λq=>absurd w I⟩⟩;refine .ah (.mk _ (ai3 (some f) _ _ bc _ H.HS j I) ?_);rintro _ _ ⟨rfl,rfl⟩;exact .ah ⟨t,λq=>absurd he q,λ_=>⟨os,bc,dT,y,c',run,λq=>absurd q w,λ_=>⟨f,rfl,H.HS⟩⟩⟩;obtain rfl:=aj he;refine aY (λ_=>?_) (λq=>absurd he q);refine .ah ⟨df,λ_=>rfl,λq=>absurd q he⟩
theorem bf.HE{size:Nat}{rows:List (List ax)}(t:bf h size A n rows){U:Obj}(e:∀g,A=some g->0<n->g.block≠b):bf (h.put b U) size A n rows:=by
 refine⟨t.len,t.wid,t.cg,λg a i r c o v d=>?_⟩;have al:0<n:=by
  have:=(pZ.1 c).1;have:=t.len;omega
 have j:=e g a al;have:=t.cell g a i r c o v d;have f:(g.add (i*size+o)).block=g.block:=by unfold LH;grind
 unfold J.cell? at this⊢;rw[J.cB _ _ I];omega
theorem aDJ(m:Nat)(hm:m<=1000000)(dd:List Int):Yi m dd λ_=>True:=by
 intro h q X F B c d f A cap w l;obtain⟨D,ae⟩:=w;rcases ae with⟨rfl,rfl,rfl⟩|⟨b,a,rfl,t,r,ay,G,E⟩;refine(aDK f aM none 0 0 [] (bf.nil _ _ _) aM (λ_ k=>by cases k) (λi s=>absurd s (BE _))).mono ?_;rintro v aa ⟨rfl,rfl⟩;exact⟨rfl,[],.refl _,trivial,⟨rfl,bW ⟨rfl,rfl,rfl⟩⟩,λ_ _=>rfl⟩;have y:q≠b:=λe=>by
  have:=f.cell
  grind
 have p:a=(((fL m).map λz:Nat=>R (z:Int))++a.toList.drop (m*1)).toArray:=by
  grind
 have H:a.size=cap:=I;have C:(a.toList.drop (m*1)).length=cap-m:=aJ;generalize a.toList.drop (m*1)=n at p C;have he:h=dr h b n (fL m):=by
  funext o;unfold dr;by_cases j:o=b;rw[j,J.b1,t,p];rw[J.cB _ _ j]
 have bn:∀aO,r3 (dr h b n aO) q X F B c m d dd:=λaO=>
  ⟨by unfold dr;rw[J.cB _ _ y];exact f.cell,f.dV.HE λg u al e=>l _ g rfl u al e.symm⟩
 have:=aDN (cap:=cap) (m:=m) hm bn (fL m) Qq (λx k=>uo.1 k);rw[<-he]at this;refine this.mono ?_;rintro v aa ⟨rfl,os,hp,rfl⟩;have K:os.length=m:=by rw[hp.length_eq,Qq]
 refine⟨rfl,os,hp,trivial,⟨aJ,bl ⟨b,_,rfl,SE _ _ _ _,r,ay,aJ,?_⟩⟩,λo j=>?_⟩
 grind
 exact J.cB _ _ (j _ rfl)
end Go.Sx
namespace Go.Sx
open Go.Proofs
set_option maxRecDepth 100000
set_option maxHeartbeats 0
set_option linter.all false
variable {t:Int}{bs:List Nat}{es:List il}{a b b7 c c7 cc m n o w:Nat}{A D:Option aI}
inductive eJ where
 |nil
 |cons (t n:Int) (b r:eJ)
 deriving DecidableEq
variable {f:eJ}
inductive ca where
 |nil
 |cons (t n:Int) (B:Option aI) (m c:Nat) (b r:ca)
variable {l:ca}
def ca.bM:ca->eJ
 |.nil=>.nil
 |.cons t n _ _ _ b r=>.cons t n b.bM r.bM
def eJ.len:eJ->Nat
 |.nil=>0
 |.cons _ _ _ r=>r.len+1
def ca.len:ca->Nat
 |.nil=>0
 |.cons _ _ _ _ _ _ r=>r.len+1
def ca.bj:ca->Nat
 |.nil=>0
 |.cons _ _ _ _ _ b r=>b.bj+1+r.bj
def eJ.bj:eJ->Nat
 |.nil=>0
 |.cons _ _ b r=>b.bj+1+r.bj
theorem ca.abg:∀l:ca,l.bM.len=l.len
 |.nil=>rfl
 |.cons _ _ _ _ _ _ r=>by simp[ca.bM,eJ.len,ca.len,r.abg]
theorem ca.R7:∀l:ca,l.bM.bj=l.bj
 |.nil=>rfl
 |.cons _ _ _ _ _ b r=>by simp[ca.bM,eJ.bj,ca.bj,b.R7,r.R7]
theorem ca.y5:∀l:ca,l.len<=l.bj
 |.nil=>dz _
 |.cons _ _ _ _ _ _ r=>by have:=r.y5;grind [ca.len,ca.bj]
theorem ca.Rn(h:l.len=0):l= .nil:=by
 cases l with
 |nil=>rfl
 |cons=>grind [ca.len]
def kn(t n:Int)(B:Option aI)(m c:Nat):List ax:=[R t,R n,ab B m c]
def qw(h:J):aI->Nat->ca->Prop
 |_,_,.nil=>True
 |g,i,.cons t n B m c b r=>(∀o v,(kn t n B m c)[o]?=some v->h.cell? ((g.add (i*3)).add o)=some v)/\m=b.len/\(b= .nil\/∃a,B=some a/\qw h a 0 b)/\qw h g (i+1) r
def j5(h:J)(A:Option aI)(m:Nat)(l:ca):Prop:=m=l.len/\(l= .nil\/∃g,A=some g/\qw h g 0 l)
theorem qw.mono{h aa:J}(x:h.le aa):∀l g i,qw h g i l->qw aa g i l
 |.nil,_,_,_=>trivial
 |.cons _ _ _ _ _ b r,g,i,⟨h1,ae,j,c⟩=>⟨λo v f=>J.la x (h1 o v f),ae,j.imp id λ⟨a,e,d⟩=>⟨a,e,qw.mono x b a 0 d⟩,qw.mono x r g (i+1) c⟩
theorem j5.mono{h aa:J}{A:Option aI}{m:Nat}{l:ca}(x:h.le aa)(s:j5 h A m l):j5 aa A m l:=⟨s.1,s.2.imp id λ⟨g,e,a⟩=>⟨g,e,qw.mono x l g 0 a⟩⟩
def sa(h:J)(A:Option aI)(n:Nat)(i:Nat)(l:ca):Prop:=i+l.len=n/\(l= .nil\/∃g,A=some g/\qw h g i l)
theorem j5.cF{h:J}(s:j5 h A n l):sa h A n 0 l:=⟨by have:=s.1;omega,s.2⟩
theorem sa.open{h:J}{i:Nat}{k:Int}{B:Option aI}{b r:ca}(s:sa h A n i (.cons t k B m c b r)):∃g,A=some g/\i<n/\(∀o v,(kn t k B m c)[o]?=some v->h.cell? ((g.add (i*3)).add o)=some v)/\j5 h B m b/\sa h A n (i+1) r:=by
 obtain⟨h1,ae⟩:=s;rcases ae with ae|⟨g,e,a,j,f,d⟩
 grind
 simp only[ca.len]at h1;exact⟨g,e,I,a,⟨j,f⟩,I,bl ⟨g,e,d⟩⟩
theorem sa.fin{h:J}{i:Nat}(s:sa h A n i .nil):i=n:=s.1
def eJ.leaf:eJ->Bool
 |.nil=>true
 |.cons .. =>false
theorem ca.Kq(l:ca):l.bM.leaf=decide (l.len=0):=by cases l<;>simp[ca.bM,eJ.leaf,ca.len]
def j1(t n:Int)(lB:Bool)(d k:Nat)(hn:Int×Nat):Int×Nat:=
 if 2048<=k then(5,k)else if lB=false/\16<=d then(161,k)else if t<1 then(160,k)else if lB=true then(if n<0\/32<=n then(100,k)else(0,k+1))else if n≠0 then(162,k)else hn
def iF:eJ->Nat->Nat->Int×Nat
 |.nil,_,k=>(0,k)
 |.cons t n b r,d,k=>if(j1 t n b.leaf d k (iF b (d+1) k)).1=0 then iF r d (j1 t n b.leaf d k (iF b (d+1) k)).2 else j1 t n b.leaf d k (iF b (d+1) k)
theorem agr{n:Int}{lB:Bool}{d k:Nat}{hn:Int×Nat}(hk:k<=2048)(a:hn.2<=2048):(j1 t n lB d k hn).2<=2048:=by
 unfold j1
 grind
theorem RV:∀f d k,k<=2048->(iF f d k).2<=2048
 |.nil,_,_,h=>h
 |.cons t n b r,d,k,h=>by
  have h1:=agr (t:=t) (n:=n) (lB:=b.leaf) (d:=d) (hn:=iF b (d+1) k) h (RV b (d+1) k h);simp only[iF];split;exact RV r d _ h1;omega
abbrev yu(k:Nat):Obj:=bb [R k].toArray 239 (0,0)
def ie(b:Nat):ax:=gv (some ⟨b,0,none⟩)
theorem Zz(h:J) b k:(h.put b (yu k)).cell? ⟨b,0,none⟩=some (R k):=by
 unfold J.cell?;simp[J.b1]
def Yd(l:ca):Prop:=∀(A:Option aI)(m cap d k b:Nat)(bn:J),j5 bn A m l->bn b=none->d<=16->k<=2048->Fn aB 90 #[ie b,ab A m cap,R d] (bn.put b (yu k)) λv aa=>v=R (iF l.bM d k).1/\aa=bn.put b (yu (iF l.bM d k).2)
theorem aAH t n B m c l(i:Yd l)(d k b:Nat) bn(g:j5 bn B m l)(h:bn b=none)(j:d<=16)(hk:k<=2048):Fn aB 139 #[ie b,.agg (kn t n B m c).toArray,R d] (bn.put b (yu k)) λv aa=>v=R (j1 t n l.bM.leaf d k (iF l.bM (d+1) k)).1/\aa=bn.put b (yu (j1 t n l.bM.leaf d k (iF l.bM (d+1) k)).2):=by
 have hm:=g.1;rw[l.Kq];refine b6 awA rfl (.hp _ (Zz bn b k) (aY (λh1=>?_) (λh1=>?_)));exact .ah (by unfold j1;rw[aP I];exact⟨rfl,rfl⟩);have fin:∀{x:Int×Nat},j1 t n (decide (l.len=0)) d k (iF l.bM (d+1) k)=x->(R x.1=R (j1 t n (decide (l.len=0)) d k (iF l.bM (d+1) k)).1/\bn.put b (yu x.2)=bn.put b (yu (j1 t n (decide (l.len=0)) d k (iF l.bM (d+1) k)).2)):=by
  simp
 rcases Nat.eq_zero_or_pos m with al|al;subst al;rw[show decide (l.len=0)=true from gG hm.symm]at fin⊢;refine aY (λf=>?_) (λf=>?_);exact .ah (fin (x:=(160,k)) (by unfold j1;grind));have node:n<0\/32<=n->j1 t n true d k (iF l.bM (d+1) k)=(100,k):=λo=>by
  unfold j1;grind
 refine aY (λe=>?_) (λe=>?_);exact .ah (fin (node (bW e)));refine aY (λa=>?_) (λa=>?_);exact .ah (fin (node (bl a)));refine .hp _ (Zz bn b k) (.bg (.hp b 0 239 [R k] [R ((k:Int)+1)] rfl (J.b1 _ _ _) rfl (.ah ?_)));rw[J.sS];exact fin (x:=(0,k+1)) (by unfold j1;grind);rw[show decide (l.len=0)=false from io I]at fin⊢;refine uw (λ_=>?_) (λae=>absurd ae aJ);refine aY (λae=>?_) (λae=>?_);exact .ah (fin (x:=(161,k)) (by unfold j1;grind));refine aY (λf=>?_) (λf=>?_);exact .ah (fin (x:=(160,k)) (by unfold j1;grind));refine uw (λ_=>?_) (λae=>absurd ae aJ);refine aY (λe=>?_) (λe=>?_);exact .ah (fin (x:=(162,k)) (by unfold j1;grind));refine uw (λa=>absurd a aJ) (λ_=>uw (λa=>absurd a aJ) (λ_=>.bg (.ah (.mk _ (i B m c (d+1) k b bn g h I hk) ?_))));rintro _ _ ⟨rfl,rfl⟩;exact .ah (fin (x:=iF l.bM (d+1) k) (by unfold j1;grind))
theorem ahu:∀N l,l.bj<N->l.bj<=200000->Yd l
 |0,l,u,_=>absurd u (BE _)
 |N+1,l,u,F=>by
  intro A m cap d k b bn n j x hk;have hm:m<=200000:=by have:=n.1;have:=l.y5;omega
  refine b6 ayc rfl ?_;refine .mk (Nat×Nat×ca) [0,2,10,11,12] (λ(i,_,_)=>[.v (ie b),.v (R d),.v (ab A m cap),.v (R m),.v (R i)]) (λ_=>[]) (λ(i,q,r) aa=>aa=bn.put b (yu q)/\sa bn A m i r/\q<=2048/\r.bj<=l.bj/\iF l.bM d k=iF r.bM d q) (λ(i,_,_)=>m-i) (0,k,l) (λ_=>rfl) ⟨rfl,n.cF,hk,dz _,rfl⟩ rfl rfl ?_;rintro⟨i,q,r⟩ e aa ⟨rfl,a,f,D,he⟩;refine aY (λae=>?_) (λae=>?_);cases r with
  |nil=>have:=a.fin;omega
  |cons t w B h c s r=>
   obtain⟨g,aT,y,ay,E,C⟩:=a.open;simp only[ca.bj]at D;have G:∀o v,(kn t w B h c)[o]?=some v->(bn.put b (yu q)).cell? ((g.add (i*3)).add o)=some v:=λo v z=>J.la (J.dI j) (ay o v z);refine .m g aT (.hp (kn t w B h c) rfl aJ (.ah (.mk _ (aAH t w B h c s (ahu N s I I) d q b bn E j x f) ?_)));rintro _ _ ⟨rfl,rfl⟩;simp only[ca.bM,iF]at he;refine aY (λp=>?_) (λp=>?_);rw[aD p]at he;refine .ah ?_;rw[he];exact⟨rfl,rfl⟩;rw[aP I]at he;exact .bg (⟨(i+1,_,r),rfl,rfl,⟨rfl,C,agr f (RV _ _ _ f),I,he⟩,aJ⟩)
  cases r with
  |nil=>
   refine .ah ?_;rw[he];exact⟨rfl,rfl⟩
  |cons=>obtain⟨g,aT,y,_⟩:=a.open;omega
def fJ:eJ->Nat
 |.nil=>0
 |.cons t _ b r=>t.toNat*(bif b.leaf then 1 else fJ b)+fJ r
def oh:eJ->Prop
 |.nil=>True
 |.cons t _ b r=>1<=t/\oh b/\oh r
theorem MR:∀f d k,(iF f d k).1=0->oh f
 |.nil,_,_,_=>trivial
 |.cons t n b r,d,k,h=>by
  simp only[iF]at h;split at h
  .rename_i h1;refine⟨?_,?_,MR r d _ h⟩
   .unfold j1 at h1;repeat' split at h1
    all_goals first|omega|(simp at h1;done)|skip
   unfold j1 at h1;repeat' split at h1
   all_goals first|(simp at h1;done)|skip
   rename_i ak _;cases b with
   |nil=>trivial
   |cons=>simp[eJ.leaf]at ak
   exact MR b (d+1) k h1
  rename_i h1;exact absurd h h1
theorem WR:∀f,oh f->f.leaf=false->1<=fJ f
 |.nil,_,h=>by grind [eJ.leaf]
 |.cons t n b r,⟨h1,ae,_⟩,_=>by
  simp only[fJ];have a:1<=(bif b.leaf then 1 else fJ b):=by
   cases ak:b.leaf with
   |true=>simp
   |false=>exact WR b ae ak
  have:1*1<=t.toNat*(bif b.leaf then 1 else fJ b):=lP I a;omega
def qc(f:eJ):Nat:=bif f.leaf then 1 else fJ f
theorem adD(h:oh f):1<=qc f:=by
 unfold qc;cases ak:f.leaf with
 |true=>simp
 |false=>exact WR f h ak
theorem ai1 t n b r:fJ (.cons t n b r)=t.toNat*qc b+fJ r:=rfl
theorem ai2:∀N l,l.bj<N->l.bj<=200000->oh l.bM->∀A m cap h,j5 h A m l->Fn aB 91 #[ab A m cap] h λv aa=>aa=h/\v=R (min (fJ l.bM) 2049:Nat)
 |0,l,z,_=>absurd z (BE _)
 |N+1,l,z,P=>by
  intro D A m cap h u;have hm:m<=200000:=by have:=u.1;have:=l.y5;omega
  refine b6 ayd rfl ?_;refine .mk (Nat×Nat×ca) [3,7,8,9] (λ(i,s,_)=>[.v (R s),.v (ab A m cap),.v (R m),.v (R i)]) (λ_=>[]) (λ(i,s,r) aa=>aa=h/\sa h A m i r/\s<=2048/\r.bj<=l.bj/\oh r.bM/\s+fJ r.bM=fJ l.bM) (λ(i,_,_)=>m-i) (0,0,l) (λ_=>rfl) ⟨rfl,u.cF,cW _,dz _,D,I⟩ rfl rfl ?_;refineλ⟨i,s,r⟩ e aa⟨rfl,j,M,K,hp,he⟩=>aY (λae=>?_) (λae=>?_);cases r with
  |nil=>have:=j.fin;omega
  |cons t w B y c b r=>
   obtain⟨g,aT,F,ay,p,x⟩:=j.open;simp only[ca.bj]at K;simp only[ca.bM]at hp;obtain⟨S,C,n⟩:=hp;obtain⟨q,rfl⟩:∃q:Nat,t=q:=⟨t.toNat,I⟩;have f:=adD C;have J:s+(q*qc b.bM+fJ r.bM)=fJ l.bM:=by
    have:=ai1 q w b.bM r.bM;simp only[bz]at this;rw[<-this];exact he
   have Q:=p.1;refine .m g aT (.hp (kn q w B y c) rfl aJ (aY (λG=>?_) (λG=>?_)));have L:b.bM.leaf=false:=by rw[b.Kq];grind
   have a:qc b.bM=fJ b.bM:=by unfold qc;grind
   refine .ah (.mk _ (ai2 N b I I C B y c aa p) ?_);rintro _ ae ⟨rfl,rfl⟩;refine aY (λd=>?_) (λd=>?_);refine .ah ⟨rfl,?_⟩;have:q*1<=q*qc b.bM:=Nat.mul_le_mul_left _ f;rw[show min (fJ l.bM) 2049=2049 by omega];rfl;refine aY (λH=>?_) (λH=>?_);refine .ah ⟨rfl,?_⟩;have:1*qc b.bM<=q*qc b.bM:=ur _ I;rw[show min (fJ l.bM) 2049=2049 by omega];rfl;have E:min (fJ b.bM) 2049=qc b.bM:=I;have O:q*qc b.bM<=2048*2048:=lP I I;have o:((min (fJ b.bM) 2049:Nat):Int)*(q:Int)=((q*qc b.bM:Nat):Int):=aJ;refine .bg ?_;rw[o];refine .bg (aY (λk=>?_) (λk=>?_));refine .ah ⟨rfl,?_⟩;rw[show min (fJ l.bM) 2049=2049 by omega];rfl;exact .bg (⟨(i+1,s+q*qc b.bM,r),rfl,rfl,⟨rfl,x,I,I,n,I⟩,aJ⟩);have L:b.bM.leaf=true:=by rw[b.Kq];grind
   have a:qc b.bM=1:=by unfold qc;grind
   rw[a]at J;refine aY (λd=>?_) (λd=>?_);refine .ah ⟨rfl,?_⟩;rw[show min (fJ l.bM) 2049=2049 by omega];rfl;have o:(1:Int)*(q:Int)=(q:Int):=Int.one_mul _;refine .bg (.bg (aY (λk=>?_) (λk=>?_)));refine .ah ⟨rfl,?_⟩;rw[show min (fJ l.bM) 2049=2049 by omega];rfl;refine .bg (⟨(i+1,s+q,r),?_,rfl,⟨rfl,x,I,I,n,I⟩,aJ⟩);rw[show((s:Int)+1*(q:Int))=((s+q:Nat):Int) by omega];rfl
  cases r with
  |nil=>
   refine .ah ⟨rfl,?_⟩;simp only[ca.bM,fJ]at he;rw[<-he,show min (s+0) 2049=s by omega];rfl
  |cons=>obtain⟨g,aT,F,_⟩:=j.open;omega
def vO(f:eJ):Int:=if(iF f 0 0).1≠0 then(iF f 0 0).1 else if 2048<fJ f then 5 else 0
theorem an8 l(ay:l.bj<=200000) A m cap h(e:j5 h A m l):Fn aB 35 #[ab A m cap] h λv aa=>h.le aa/\v=R (vO l.bM):=by
 refine b6 axA rfl ?_;refine .mk λb d=>?_;refine .ah (.mk _ (ahu _ l (zR _) ay A m cap 0 0 b h e d I I) ?_);rintro _ aa ⟨rfl,rfl⟩;have a:h.le (h.put b (yu (iF l.bM 0 0).2)):=J.dI d;refine aY (λh1=>?_) (λh1=>?_);refine .ah ⟨a,?_⟩;unfold vO;rw[aP h1];rfl;have c:¬(iF l.bM 0 0).1≠0:=h1;refine .ah (.mk _ (ai2 _ l (zR _) ay (MR _ _ _ (aGA c)) A m cap _ (e.mono a)) ?_);rintro _ aa ⟨rfl,rfl⟩;refine aY (λae=>?_) (λae=>?_);refine .ah ⟨a,?_⟩;unfold vO;rw[aD c,aP I];rfl;refine .ah ⟨a,?_⟩;unfold vO;rw[aD c,aD I];rfl
def uF:eJ->Nat
 |.nil=>0
 |.cons _ _ b r=>(bif b.leaf then 1 else uF b)+uF r
def oZ:eJ->Nat
 |.nil=>0
 |.cons _ _ b r=>max (bif b.leaf then 0 else oZ b+1) (oZ r)
theorem aeZ(h:f.leaf=true):f= .nil:=by
 cases f with
 |nil=>rfl
 |cons=>grind [eJ.leaf]
theorem Zw(h:vO f=0):(iF f 0 0).1=0/\fJ f<=2048:=by
 unfold vO at h;omega
def J.sub(aa h:J):J:=λo=>match h o with
 |none=>aa o
 |some _=>none
variable {aa h:J}
theorem J.sub_le(aa h:J):(aa.sub h).le aa:=λo U e=>by
 unfold J.sub at e
 grind
theorem J.aDX(a:aa o=none):aa.sub h o=none:=by
 unfold J.sub;grind
theorem J.Lj(a:aa.sub h o≠none):h o=none:=by
 unfold J.sub at a
 grind
theorem J.N9{a:J}(x:a.le aa)(d:∀o,a o≠none->h o=none):a.le (aa.sub h):=λo U e=>by
 unfold J.sub;rw[d o aJ];exact x o U e
def ca.cl:ca->List (List ax)
 |.nil=>[]
 |.cons t n B m c _ r=>kn t n B m c::r.cl
theorem ca.ZB:∀l:ca,l.cl.length=l.len
 |.nil=>rfl
 |.cons _ _ _ _ _ _ r=>by simp[ca.cl,ca.len,r.ZB]
theorem ca.IY:∀l:ca,∀r∈l.cl,r.length=3
 |.nil,_,h=>by cases h
 |.cons t n B m c _ r,x,h=>by
  rcases ek.1 h with rfl|h;rfl;exact r.IY x h
abbrev vi:=J->Option aI->Nat->Nat->ca->Prop
def vi.X3(K:vi):Prop:=∀h aa B m c b,h.le aa->K h B m c b->K aa B m c b
def vj(K:vi)(h:J):ca->Prop
 |.nil=>True
 |.cons _ _ B m c b r=>K h B m c b/\vj K h r
theorem vj.mono{K:vi}(c:K.X3){h aa:J}(x:h.le aa):∀{l:ca},vj K h l->vj K aa l
 |.nil,_=>trivial
 |.cons _ _ _ _ _ _ _,⟨a,b⟩=>⟨c _ _ _ _ _ _ x a,vj.mono c x b⟩
def FE(K:vi)(h:J):ca->Prop
 |.nil=>True
 |.cons _ _ B m c b r=>∃d a:J,d.le h/\a.le h/\(∀o,d o≠none->a o=none)/\K d B m c b/\FE K a r
def J.or(a b:J):J:=λo=>match a o with
 |some U=>some U
 |none=>b o
theorem J.OO{a b:J}(x:a.le h)(y:b.le h):(a.or b).le h:=λo U e=>by
 unfold J.or at e;cases q:a o with
 |none=>rw[q]at e;exact y o U e
 |some c=>rw[q]at e;injection e with e;subst e;exact x o c q
theorem J.ayC(a b:J):a.le (a.or b):=λo U e=>by unfold J.or;rw[e]
theorem J.ayD{a b:J}(d:∀o,b o≠none->a o=none):b.le (a.or b):=λo U e=>by
 unfold J.or;grind
theorem J.or_none{a b:J}(x:a o=none)(y:b o=none):a.or b o=none:=by unfold J.or;grind
def w2:vi:=λh B m _ b=>j5 h B m b
theorem w2.mono:w2.X3:=λ_ _ _ _ _ _ x a=>j5.mono x a
def ca.snoc:ca->Int->Int->Option aI->Nat->Nat->ca->ca
 |.nil,t,n,B,m,c,b=>.cons t n B m c b .nil
 |.cons g' g e d a f r,t,n,B,m,c,b=>.cons g' g e d a f (r.snoc t n B m c b)
def eJ.app:eJ->eJ->eJ
 |.nil,f=>f
 |.cons t n b r,f=>.cons t n b (r.app f)
theorem eJ.QW:∀f:eJ,f.app .nil=f
 |.nil=>rfl
 |.cons _ _ _ r=>by simp[eJ.app,r.QW]
theorem ca.Wo t n B m c b f:∀p:ca,(p.snoc t n B m c b).bM.app f=p.bM.app (.cons t n b.bM f)
 |.nil=>rfl
 |.cons _ _ _ _ _ _ r=>by simp only[ca.snoc,ca.bM,eJ.app,ca.Wo t n B m c b f r]
theorem ca.Wp t n B m c b:∀p:ca,(p.snoc t n B m c b).len=p.len+1
 |.nil=>rfl
 |.cons _ _ _ _ _ _ r=>by simp[ca.snoc,ca.len,ca.Wp t n B m c b r]
theorem ca.Wn t n B m c b:∀p:ca,(p.snoc t n B m c b).cl=p.cl++[kn t n B m c]
 |.nil=>rfl
 |.cons _ _ _ _ _ _ r=>by simp[ca.snoc,ca.cl,ca.Wn t n B m c b r]
theorem ca.aii{K:vi}{Y:J} t n B m c b(k:K Y B m c b):∀{p:ca}{X Z:J},FE K X p->(∀o,Y o≠none->X o=none)->X.le Z->Y.le Z->FE K Z (p.snoc t n B m c b)
 |.nil,_,_,_,_,_,h=>⟨Y,λ_=>none,h,(λ_ _ e=>by cases e),(λ_ _=>rfl),k,trivial⟩
 |.cons _ _ _ _ _ _ _,X,Z,⟨s,r,a,i,l,d,e⟩,g,j,h=>⟨s,r.or Y,J.le_trans a j,J.OO (J.le_trans i j) h,λo f=>J.or_none (l o f) (by
  cases q:Y o with
  |none=>rfl
  |some U=>exact absurd (J.none_le a (g o aJ)) f),d,ca.aii t n B m c b k e (λo f=>J.none_le i (g o f)) (J.ayC _ _) (J.ayD λo f=>J.none_le i (g o f))⟩
theorem YX{h:J}{g:aI}:∀l i,(∀k row,l.cl[k]?=some row->∀o v,row[o]?=some v->h.cell? ((g.add ((i+k)*3)).add o)=some v)->vj w2 h l->qw h g i l
 |.nil,_,_,_=>trivial
 |.cons t n B m c b r,i,ay,⟨a,e⟩=>⟨ay 0 _ rfl,a.1,a.2,YX r (i+1) (λk row hk o v d=>by
  have:=ay (k+1) row (by grind [ca.cl]) o v d
  grind) e⟩
theorem bf.sat(t:bf h 3 A n l.cl)(b:vj w2 h l):j5 h A n l:=by
 have ak:=t.len;rw[l.ZB]at ak;refine⟨ak.symm,?_⟩;by_cases al:n=0;exact bW (ca.Rn I);obtain⟨g,a⟩:=t.cg al;exact bl ⟨g,a,YX l 0 (λk row hk o v c=>by rw[vH,dM];exact t.cell g a k row hk o v c) b⟩
theorem aCA{bK size cap:Nat}{xs:List ax}(x:bJ aa bK size A n cap xs)(d:∀g,A=some g->h g.block=none):bJ (aa.sub h) bK size A n cap xs:=by
 obtain⟨h1,ae⟩:=x;refine⟨h1,ae.imp id λ⟨g,b,a,e,c⟩=>⟨g,b,a,?_,c⟩⟩;unfold J.sub
 grind
structure Bl(K:vi)(h aa b9:J)(A:Option aI)(i c:Nat)(p:ca):Prop where
 le:h.le aa
 g7:b9.le aa
 out:∀o,b9 o≠none->h o=none
 pz:∀g,A=some g->h g.block=none/\b9 g.block=none
 row:bJ aa 199 3 A i c p.cl.flatten
 IJ:FE K b9 p
 len:p.len=i
theorem Bl.nil(K:vi)(h:J):Bl K h h (λ_=>none) none 0 0 .nil:=⟨J.le_refl h,(λ_ _ e=>by cases e),(λ_ e=>absurd rfl e),(λ_ e=>by cases e),⟨rfl,bW ⟨rfl,rfl,rfl⟩⟩,trivial,rfl⟩
theorem Bl.step{K:vi}{h aa r ae f:J}{A j:Option aI}{i c s:Nat}{p:ca}(x:Bl K h aa r A i c p)(u:aa.le ae) t n{B:Option aI}{m k:Nat}{b:ca}(w:K (ae.sub aa) B m k b)(v:(eP ae A).le f)(y:bJ f 199 3 j (i+1) s (p.cl.flatten++kn t n B m k))(l:∀g,j=some g->eP ae A g.block=none):Bl K h f ((eP ae A).sub h) j (i+1) s (p.snoc t n B m k b):=by
 have aT:h.le (eP ae A):=Af (J.le_trans x.le u) λg e=>(x.pz g e).1;have d:∀g,A=some g->aa g.block≠none:=λg e=>by
  rcases x.row.2 with⟨q,_⟩|⟨D,C,q,z,_⟩
  grind
  grind
 have s1:r.le ((eP ae A).sub h):=J.N9 (Af (J.le_trans x.g7 u) λg e=>(x.pz g e).2) x.out;have s2:(ae.sub aa).le ((eP ae A).sub h):=J.N9 (Af (J.sub_le _ _) λg e=>by
  cases q:ae.sub aa g.block with
  |none=>rfl
  |some U=>exact absurd (J.Lj (by rw[q];simp)) (d g e)) λo a=>J.none_le x.le (J.Lj a)
 refine⟨J.le_trans aT v,J.le_trans (J.sub_le _ _) v,λo a=>J.Lj a,λg e=>⟨J.none_le aT (l g e),J.aDX (l g e)⟩,?_,ca.aii _ _ _ _ _ _ w x.IJ (λo a=>J.none_le x.g7 (J.Lj a)) s1 s2,by rw[ca.Wp,x.len]⟩;rw[ca.Wn,vr,List.flatten_singleton];exact y
theorem N6 t n B m c:∀u∈kn t n B m c,u.oneCell'=true:=by
 intro u h;simp only[kn,ek,ya,or_false]at h;rcases h with rfl|rfl|rfl<;>rfl
def rep{α:Type}:Nat->List α->List α
 |0,_=>[]
 |k+1,w=>w++rep k w
def gw:eJ->List Int
 |.nil=>[]
 |.cons t n b r=>rep t.toNat (bif b.leaf then[n]else gw b)++gw r
theorem aht{α:Type}(w:List α):∀k,(rep k w).length=k*w.length
 |0=>by simp[rep]
 |k+1=>by rw[rep,fc,aht w k,zS];omega
theorem R2:∀f,(gw f).length=fJ f
 |.nil=>rfl
 |.cons t n b r=>by
  simp only[gw,fJ,fc,aht,R2 r];cases b.leaf with
  |true=>rfl
  |false=>simp only[uA,R2 b]
theorem Ms(h:vO f=0):oh f/\fJ f<=2048:=by
 obtain⟨h1,ae⟩:=Zw h;exact⟨MR _ _ _ h1,ae⟩
theorem U6(l:List Int):∀u∈l.map R,u.oneCell'=true:=by
 intro u h;obtain⟨z,_,rfl⟩:=cU.1 h;rfl
theorem bJ.kd{q:List Int}(x:bJ h 3 1 D n c (q.map R)):bf h 1 D n (q.map λz=>[R z]):=by
 refine bJ.dV (bK:=3) (cap:=c) ?_ (TN q) aM;rw[xj];exact x
structure w1(bK size:Nat)(h aa:J)(D:Option aI)(n c:Nat)(xs:List ax):Prop where
 le:h.le aa
 row:bJ aa bK size D n c xs
 pz:∀g,D=some g->h g.block=none
theorem w1.nil bK size h:w1 bK size h h none 0 0 []:=⟨J.le_refl h,⟨bd,bW ⟨rfl,rfl,rfl⟩⟩,λ_ e=>by cases e⟩
theorem w1.step{bK size:Nat}{h aa ae a:J}{D b:Option aI}{n c d c2:Nat}{q w:List ax}(x:w1 bK size h aa D n c q)(j:aa.le ae)(k:(eP ae D).le a)(i:bJ a bK size b d c2 (q++w))(f:∀g,b=some g->eP ae D g.block=none):w1 bK size h a b d c2 (q++w):=by
 have aT:h.le (eP ae D):=Af (J.le_trans x.le j) x.pz;exact⟨J.le_trans aT k,i,λg e=>J.none_le aT (f g e)⟩
abbrev BJ:=Int×Nat
def zg(r:BJ):List ax:=[R r.1,R r.2]
def CS(l:List BJ):List ax:=(l.map zg).flatten
theorem ahi a b:CS (a++b)=CS a++CS b:=by simp[CS]
def gg:List Int->List BJ
 |[]=>[]
 |x::l=>match gg l with
  |(y,k)::r=>if y=x then(x,k+1)::r else(x,1)::(y,k)::r
  |[]=>[(x,1)]
theorem aCU:∀l:List Int,(gg l).head?.map (·.1)=l.head?
 |[]=>rfl
 |x::l=>by
  grind [gg]
theorem Ph:∀l,(gg l).length<=l.length
 |[]=>dz _
 |x::l=>by
  have:=Ph l;simp only[gg]
  grind
theorem ahL x t(a:t.head?≠some x):∀k,gg (bh (k+1) x++t)=(x,k+1)::gg t
 |0=>by
  have:=aCU t;show gg (x::t)=_;simp only[gg]
  grind
 |k+1=>by
  rw[wS,wP,gg,ahL x t a k];simp
theorem aoT{l:List Int}{i:Nat} a:l.drop i=l[i]::l.drop (i+1):=List.drop_eq_getElem_cons a
theorem aCT D n cap l h(j:bf h 1 D n (l.map λz=>[R z]))(M:n<=8796093022207):Fn aB 16 #[ab D n cap] h λv aa=>∃E m c,v=ab E m c/\m=(gg l).length/\w1 130 2 h aa E m c (CS (gg l)):=by
 have ak:l.length=n:=by simpa using j.len
 have O:=Ph l;refine b6 awO rfl ?_;refine .mq [] (Nat×Option aI×Nat×Nat×List BJ) [0,3,4] (λ(i,E,m,c,_)=>[.v (ab D n cap),.v (ab E m c),.v (R i)]) (λ_=>[]) (λ(i,E,m,c,q) aa=>i<=n/\m=q.length/\w1 130 2 h aa E m c (CS q)/\q++gg (l.drop i)=gg l) (λ(i,_,_,_,_)=>n-i) (0,none,0,0,[]) (λ_=>rfl) ⟨cW _,rfl,w1.nil 130 2 h,rfl⟩ rfl rfl rfl ?_;refineλ⟨i,E,m,c,q⟩ e aa⟨K,hm,a,he⟩=>.ah (aY (λh1=>?_) (λh1=>?_));have p:i<l.length:=I;obtain⟨g,d⟩:=j.cg I;have at_:∀(aa:J)(k:Nat)(hk:k<l.length),h.le aa->aa.cell? (g.add (k*1))=some (R l[k]):=λaa k hk x=>by
  exact(j.mono x).one d (iP hk) rfl
 refine .mq [] Nat [0,3,4,5] (λk=>[.v (ab D n cap),.v (ab E m c),.v (R i),.v (R k)]) (λ_=>[]) (λk aa=>i<=k/\k<=n/\w1 130 2 h aa E m c (CS q)/\l.drop i=bh (k-i) l[i]++l.drop k) (λk=>n-k) i (λ_=>rfl) ⟨dz _,K,a,bd⟩ rfl rfl rfl ?_;refineλk e aa⟨L,B,a,w⟩=>.ah ?_;have fin:l[k]?≠some l[i]->i<k->q++((l[i],k-i)::gg (l.drop k))=gg l:=λN b=>by
  rw[<-he,w,show k-i=(k-i-1)+1 by omega,ahL _ _ (by simp_all)]
 refine aY (λae=>?_) (λae=>?_);have A:k<l.length:=I;refine .m g d ?_;refine .hp _ (by rw[bz];exact at_ aa k A a.le) ?_;refine .m g d ?_;refine .hp _ (by rw[bz];exact at_ aa i p a.le) ?_;refine aY (λy=>?_) (λy=>?_);refine .bg ?_;refine .ah ⟨k+1,rfl,rfl,⟨I,I,a,?_⟩,I⟩;rw[w,aoT A,y,show k+1-i=(k-i)+1 by omega,List.replicate_succ',kC];rfl;have b:i<k:=by
  grind
 have G:=fin aJ b;refine .m g d (.hp _ (by rw[bz];exact at_ aa i p a.le) (.bg ?_));rw[show(k:Int)- (i:Int)=((k-i:Nat):Int) by omega];have o:q.length<=n:=by
  grind
 refine .abs 130 2 E m c _ a.row (.ah (.c3 1 _ (zg (l[i],k-i)) rfl rfl (by intro u hu;simp only[zg,ek,ya,or_false]at hu;rcases hu with rfl|rfl<;>rfl) (by grind [eD]) I λf c2 F=>.b4 1 130 2 f (m+1) c2 _ rfl λH r s t=>.ah ⟨(k,f,m+1,c2,q++[(l[i],k-i)]),rfl,rfl,⟨B,by simp[hm],?_,aJ⟩,aJ⟩));rw[ahi];exact a.step (J.le_refl _) r s t;obtain rfl:k=n:=by omega
 have G:=fin aJ I;refine .m g d (.hp _ (by rw[bz];exact at_ aa i p a.le) (.bg ?_));rw[show(k:Int)- (i:Int)=((k-i:Nat):Int) by omega];have o:q.length<=k:=by
  grind
 refine .abs 130 2 E m c _ a.row (.ah (.c3 1 _ (zg (l[i],k-i)) rfl rfl (by intro u hu;simp only[zg,ek,ya,or_false]at hu;rcases hu with rfl|rfl<;>rfl) (by grind [eD]) I λf c2 F=>.b4 1 130 2 f (m+1) c2 _ rfl λH r s t=>.ah ⟨(k,f,m+1,c2,q++[(l[i],k-i)]),rfl,rfl,⟨B,by simp[hm],?_,aJ⟩,aJ⟩));rw[ahi];exact a.step (J.le_refl _) r s t;obtain rfl:i=n:=by omega
 rw[List.drop_of_length_le I]at he;have C:q=gg l:=by simp[<-he,gg]
 rw[C]at a hm;exact .ah ⟨E,m,c,rfl,hm,a⟩
theorem aB3(l:List BJ):∀r∈l.map zg,r.length=2:=by
 intro r b;obtain⟨a,_,rfl⟩:=cU.1 b;rfl
theorem w1.dV{h aa:J}{D:Option aI}{m c:Nat}{q:List BJ}(x:w1 130 2 h aa D m c (CS q)):bf aa 2 D m (q.map zg):=x.row.dV (aB3 q) aM
theorem aC4 A B n m j l(a b:List Int) h(aT:bf h 1 A n (a.map λz=>[R z]))(d:bf h 1 B m (b.map λz=>[R z]))(t:n<=9223372036854775806):Fn aB 12 #[ab A n j,ab B m l] h λr aa=>r=c5 (decide (a=b))/\aa=h:=by
 have u:a.length=n:=by simpa using aT.len
 have w:b.length=m:=by simpa using d.len
 refine b6 awn rfl (aY (λh1=>?_) (λh1=>?_));refine .ah ⟨?_,rfl⟩;rw[io (λe=>aJ)];rfl;have p:n=m:=I;subst p;refine .mk Nat [0,1,5] (λk=>[.v (ab A n j),.v (ab B n l),.v (R k)]) (λ_=>[]) (λk aa=>aa=h/\k<=n/\a.take k=b.take k) (λk=>n-k) 0 (λ_=>rfl) ⟨rfl,cW _,bd⟩ rfl rfl (λk e aa⟨rfl,hk,f⟩=>aY (λae=>?_) (λae=>?_));have q:k<n:=I;obtain⟨g,i⟩:=aT.cg I;obtain⟨g2,o⟩:=d.cg I;have s:=aiL f I I;refine .m g i (.hp (R (a[k]'I)) (by rw[bz];exact aT.one i (r:=[R (a[k]'I)]) aJ rfl) (.m g2 o (.hp (R (b[k]'I)) (by rw[bz];exact d.one o (r:=[R (b[k]'I)]) aJ rfl) (aY (λc=>?_) (λc=>?_)))));refine .ah ⟨?_,rfl⟩;rw[io (λe=>c aJ)];rfl;exact .bg (⟨k+1,rfl,rfl,⟨rfl,q,s.2 (akb.1 c)⟩,I⟩);have:k=n:=I;subst this;refine .ah ⟨?_,rfl⟩;rw[lN I,lN I]at f;rw[gG f];rfl
theorem bf.at_{size:Nat}{rows:List (List ax)}(t:bf h size A n rows)(e:∀g,A=some g->h g.block=aa g.block):bf aa size A n rows:=by
 refine⟨t.len,t.wid,t.cg,λg a i r c o v b=>?_⟩;have:=t.cell g a i r c o v b;have he:=e g a;unfold J.cell? at this⊢;have d:(g.add (i*size+o)).block=g.block:=by unfold LH;grind
 grind
theorem bf.mem{g:aI}{l:List Int}(t:bf h 1 (some g) n (l.map λz=>[R z]))(b:n≠0):h g.block≠none:=by
 have ak:l.length=n:=by simpa using t.len
 obtain⟨z,a⟩:∃z,l[0]?=some z:=⟨_,bZ I⟩;have:=t.one rfl (i:=0) (r:=[R z]) aJ rfl;intro c;have d:(g.add (0*1)).block=g.block:=dC;unfold J.cell? at this
 grind
theorem qe{l:List ax}{ty:Nat}(a:h b=some (bb l.toArray ty (0,0))){v:ax}(c:l[o]?=some v):h.cell? ⟨b,o,none⟩=some v:=by
 unfold J.cell?;grind
theorem R1:∀f,oh f->uF f<=fJ f
 |.nil,_=>dz _
 |.cons t n b r,⟨h1,ae,a⟩=>by
  have i2:=R1 r a;have i1:=R1 b ae;have d:=adD ae;have c:1*qc b<=t.toNat*qc b:=ur _ I;rw[ai1];simp only[uF];unfold qc at*
  grind
theorem aa9 g:∀f,gw (f.app g)=gw f++gw g
 |.nil=>rfl
 |.cons t n b r=>by simp only[eJ.app,gw,aa9 g r,kC]
theorem R0:∀{f:eJ},f.leaf=false->1<=uF f
 |.nil,h=>by cases h
 |.cons t n b r,_=>by
  simp only[uF];cases ak:b.leaf with
  |true=>simp
  |false=>have:=R0 ak;grind
abbrev iT:=Int×Int×eJ
def eJ.et:eJ->List iT
 |.nil=>[]
 |.cons t n b r=>(t,n,b)::r.et
def fY:List iT->eJ
 |[]=>.nil
 |(t,n,b)::l=>.cons t n b (fY l)
theorem RD:∀l,(fY l).et=l
 |[]=>rfl
 |(t,n,b)::l=>by simp only[fY,eJ.et,RD l]
theorem EX:∀f,fY f.et=f
 |.nil=>rfl
 |.cons t n b r=>by simp only[fY,eJ.et,EX r]
theorem azr{f g:List iT}(h:fY f=fY g):f=g:=by rw[<-RD f,h,RD]
theorem aaj g:∀f:eJ,(f.app g).et=f.et++g.et
 |.nil=>rfl
 |.cons t n b r=>by simp only[eJ.app,eJ.et,aaj g r,wP]
theorem afy m:∀l,fY (l++m)=(fY l).app (fY m)
 |[]=>rfl
 |(t,n,b)::l=>by simp only[wP,fY,eJ.app,afy m l]
theorem aak:∀f:eJ,f.et.length=f.len
 |.nil=>rfl
 |.cons t n b r=>by simp only[eJ.et,iv,eJ.len,aak r]
def Bp(w:Nat)(l:List iT)(o:Nat):Prop:=(o+1)*w<=l.length/\(l.drop (o*w)).take w=l.take w
instance (w:Nat)(l:List iT)(o:Nat):Decidable (Bp w l o):=inferInstanceAs (Decidable (_/\_))
structure s6(w:Nat)(l:List iT)(m:Nat):Prop where
 pos:1<=m
 ok:∀o,1<=o->o<m->Bp w l o
 no:¬Bp w l m
theorem s6.uniq{l:List iT}{k:Nat}(a:s6 w l m)(b:s6 w l k):m=k:=by
 rcases Nat.lt_trichotomy m k with h|h|h;exact absurd (b.ok m a.pos h) a.no;omega;exact absurd (a.ok k b.pos h) b.no
def O6(w:Nat)(l:List iT):Nat->Nat->Nat
 |0,m=>m
 |k+1,m=>if Bp w l m then O6 w l k (m+1)else m
def dw(w:Nat)(l:List iT):Nat:=O6 w l l.length 1
theorem ahn{w:Nat}(hw:1<=w) l:∀k m,1<=m->(∀o,1<=o->o<m->Bp w l o)->l.length<=k+m->s6 w l (O6 w l k m)
 |0,m,h1,ae,a=>⟨h1,ae,λh=>by
  have h:(m+1)*w<=l.length:=h.1;have:m+1<=(m+1)*w:=alt _ hw;omega⟩
 |k+1,m,h1,ae,a=>by
  unfold O6;split;rename_i h;refine ahn hw l k (m+1) I (λo b c=>?_) I
  grind
  rename_i h;exact⟨h1,ae,h⟩
theorem Fd(hw:1<=w) l:s6 w l (dw w l):=ahn hw l _ 1 (dz _) (λo h1 ae=>I) I
theorem s6.room{l:List iT}(r:s6 w l m)(h:2<=m):m*w<=l.length:=by
 have:=(r.ok (m-1) I I).1
 grind
def CP(w:Nat):Nat->List iT->List iT
 |0,_=>[]
 |_+1,[]=>[]
 |k+1,x::l=>if dw w (x::l)=1 then x::CP w k l else((dw w (x::l):Int),0,fY ((x::l).take w))::CP w k ((x::l).drop (dw w (x::l)*w))
theorem Vt{w:Nat}(hw:1<=w):∀k a l,l.length<=k->l.length<=a->CP w k l=CP w a l
 |0,0,_,_,_=>rfl
 |0,a+1,l,h,_=>by
  obtain rfl:l=[]:=x9 I;rfl
 |k+1,0,l,_,h=>by
  obtain rfl:l=[]:=x9 I;rfl
 |k+1,a+1,[],_,_=>rfl
 |k+1,a+1,x::l,h,aa=>by
  simp only[CP];simp only[iv]at h aa;split;rw[Vt hw k a l I I];have hp:=(Fd hw (x::l)).pos;have b:((x::l).drop (dw w (x::l)*w)).length<=l.length:=by
   have:1<=dw w (x::l)*w:=lP hp hw
   grind
  rw[Vt hw k a _ I I]
def jg(w:Nat)(l:List iT):List iT:=CP w l.length l
theorem aBg w:jg w []=[]:=rfl
theorem HC{x:iT}{l:List iT}(hw:1<=w)(h:s6 w (x::l) 1):jg w (x::l)=x::jg w l:=by
 unfold jg;simp only[iv,CP];rw[aP ((Fd hw _).uniq h)]
theorem KR{l:List iT}(hw:1<=w)(h:s6 w l m)(hm:2<=m):jg w l=((m:Int),0,fY (l.take w))::jg w (l.drop (m*w)):=by
 have a:=h.room hm;cases l with
 |nil=>
  have:1<=m*w:=lP h.pos hw
  grind
 |cons x l=>
  have e:=(Fd hw _).uniq h;unfold jg;simp only[iv,CP];rw[aD I,e];congr 1;refine Vt hw _ _ _ ?_ (dz _);have:1<=m*w:=lP h.pos hw
  grind
def nP(l:List iT):Nat:=(fY l).bj
theorem Gi x l:nP (x::l)=1+x.2.2.bj+nP l:=by
 grind [nP,fY,eJ.bj]
theorem Mw m:∀l,nP (l++m)=nP l+nP m
 |[]=>by simp[nP,fY,eJ.bj]
 |x::l=>by rw[wP,Gi,Gi,Mw m l];omega
theorem ZE:∀l,l.length<=nP l
 |[]=>cW _
 |x::l=>by have:=ZE l;rw[Gi,iv];omega
theorem aoi k l:nP (l.drop k)<=nP l:=by
 have:=Mw (l.drop k) (l.take k);simp_all
theorem E7{w:Nat}(hw:1<=w):∀N l,l.length<=N->nP (jg w l)<=nP l/\(jg w l).length<=l.length
 |N,[],_=>⟨dz _,dz _⟩
 |0,x::l,h=>by simp at h
 |N+1,x::l,h=>by
  simp only[iv]at h;have c:=Fd hw (x::l);by_cases h1:dw w (x::l)=1;rw[h1]at c;obtain⟨a,b⟩:=E7 hw N l I;rw[HC hw c,Gi,Gi]
  grind
  have ae:2<=dw w (x::l):=by have:=c.pos;omega
  obtain⟨m,hm⟩:∃m,m=dw w (x::l):=⟨_,rfl⟩;rw[<-hm]at c ae;have j:=c.room ae;have k:2*w<=m*w:=ur w ae;rw[KR hw c ae,Gi];obtain⟨cw,i⟩:∃cw,cw=x::l:=⟨_,rfl⟩;rw[<-i]at c j⊢;have o:cw.length=l.length+1:=aJ;obtain⟨a,b⟩:=E7 hw N (cw.drop (m*w)) aJ;have d:=(c.ok 1 (dz _) I).2;rw[Nat.one_mul]at d;have f:=Mw (cw.drop w) (cw.take w);rw[FU]at f;have e:=Mw ((cw.drop w).drop w) ((cw.drop w).take w);rw[FU,d]at e;have n:nP (cw.drop (m*w))<=nP ((cw.drop w).drop w):=by
   have:cw.drop (m*w)=((cw.drop w).drop w).drop (m*w-2*w):=by
    rw[XR,XR];grind
   rw[this];exact aoi _ _
  have g:=ZE (cw.take w);rw[ni]at g;simp only[iv];rw[mF]at b;refine⟨?_,I⟩;show 1+nP (cw.take w)+_<=_;omega
def oj:Nat->Nat->List iT->List iT
 |0,_,l=>l
 |k+1,w,l=>if w<=16/\2*w<=l.length then(if(jg w l).length<l.length then oj k 1 (jg w l)else oj k (w+1) (jg w l))else l
def comp(l:List iT):List iT:=oj (20*l.length+20) 1 l
structure dy where
 ba:List (Int×Int×Nat)
 ls:List (Nat×Nat)
 lK:Nat->iT
 k6:Nat->List iT
variable {M N:dy}
structure dy.Ok(N:dy):Prop where
 sH:N.k6 0=[]
 dc:∀k a b,N.ls[k]?=some (a,b)->a<=N.ls.length/\1<=b/\b<=N.ba.length/\N.k6 (k+1)=N.k6 a++[N.lK b]
 fn:∀k t n b,N.ba[k]?=some (t,n,b)->b<=N.ls.length/\N.lK (k+1)=(t,n,fY (N.k6 b))
 oB:∀a b,a<=N.ls.length->b<=N.ls.length->N.k6 a=N.k6 b->a=b
 vT:∀a b,1<=a->1<=b->a<=N.ba.length->b<=N.ba.length->N.lK a=N.lK b->a=b
structure dy.Ext(N M:dy):Prop where
 kv:N.ba.length<=M.ba.length
 gL:N.ls.length<=M.ls.length
 DL:∀k,k<=N.ba.length->M.lK k=N.lK k
 el:∀k,k<=N.ls.length->M.k6 k=N.k6 k
def dy.gW(N:dy):Nat:=N.ba.length+N.ls.length
theorem dy.Ext.refl(N:dy):N.Ext N:=⟨dz _,dz _,λ_ _=>rfl,λ_ _=>rfl⟩
theorem dy.Ext.trans{K:dy}(x:N.Ext M)(y:M.Ext K):N.Ext K:=⟨og x.kv y.kv,og x.gL y.gL,λk hk=>by rw[y.DL k (og hk x.kv),x.DL k hk],λk hk=>by rw[y.el k (og hk x.gL),x.el k hk]⟩
def dy.fresh:dy:=⟨[],[],λ_=>(0,0,.nil),λ_=>[]⟩
theorem dy.MY:dy.fresh.Ok:=⟨rfl,λk a b h=>by grind [dy.fresh],λk t n b h=>by grind [dy.fresh],λa b c d _=>by grind [dy.fresh],λa b h1 _ ae=>by grind [dy.fresh]⟩
def dy.link(N:dy)(a b:Nat):dy:=⟨N.ba,N.ls++[(a,b)],N.lK,λk=>if k=N.ls.length+1 then N.k6 a++[N.lK b]else N.k6 k⟩
def dy.tl(N:dy)(t n:Int)(b:Nat):dy:=⟨N.ba++[(t,n,b)],N.ls,λk=>if k=N.ba.length+1 then(t,n,fY (N.k6 b))else N.lK k,N.k6⟩
theorem dy.afg(N:dy) a b:N.Ext (N.link a b):=⟨dz _,by simp[dy.link],λ_ _=>rfl,λk hk=>by
 grind [dy.link]⟩
theorem dy.aaR(N:dy) t n b:N.Ext (N.tl t n b):=⟨by simp[dy.tl],dz _,λk hk=>by
 grind [dy.tl],λ_ _=>rfl⟩
theorem dy.Ok.apW(U:N.Ok){k:Nat}(hk:k<=N.ls.length)(l:a<=N.ls.length)(h1:1<=b)(n:b<=N.ba.length)(h:N.k6 k=N.k6 a++[N.lK b]):∃i,k=i+1/\N.ls[i]?=some (a,b):=by
 cases k with
 |zero=>simp_all[U.sH]
 |succ i=>
  refine⟨i,rfl,?_⟩;obtain⟨⟨e,d⟩,m⟩:∃x,N.ls[i]?=some x:=⟨_,bZ I⟩;obtain⟨g,f,o,p⟩:=U.dc i e d m;rw[p]at h;obtain⟨j,c⟩:=List.append_inj' h rfl;have q:=U.oB e a g l j;injection c with c;have cO:=U.vT d b f h1 o n c
  grind
theorem dy.ayS(U:N.Ok)(l:a<=N.ls.length)(h1:1<=b)(m:b<=N.ba.length)(w:(a,b)∉N.ls):(N.link a b).Ok:=by
 have A:∀k,k<=N.ls.length->N.k6 k≠N.k6 a++[N.lK b]:=λk hk h=>by
  obtain⟨i,_,z⟩:=U.apW hk l h1 m h
  grind
 have e:∀k,k<=N.ls.length->(N.link a b).k6 k=N.k6 k:=(N.afg a b).el;have o:(N.link a b).k6 (N.ls.length+1)=N.k6 a++[N.lK b]:=by simp[dy.link]
 have s:(N.link a b).ls.length=N.ls.length+1:=by simp[dy.link]
 refine⟨by rw[e 0 (cW _)];exact U.sH,λk c d hk=>?_,λk t n c hk=>?_,λc d ay p h=>?_,U.vT⟩;have f:(N.ls++[(a,b)])[k]?=some (c,d):=hk;rw[Dl]at f;split at f;rename_i u;obtain⟨j,g,q,r⟩:=U.dc k c d f;exact⟨I,g,q,by rw[e _ I,e _ j];exact r⟩;rename_i u;have v:k-N.ls.length=0:=by
  grind
 rw[v]at f;simp at f;obtain⟨rfl,rfl⟩:=f;obtain rfl:k=N.ls.length:=by omega
 exact⟨I,h1,m,by rw[o,e _ l];rfl⟩;obtain⟨j,g⟩:=U.fn k t n c hk;exact⟨I,by rw[e _ j];exact g⟩;rw[s]at ay p;by_cases y:c=N.ls.length+1
 grind
 by_cases x:d=N.ls.length+1
 grind
 rw[e c I,e d I]at h;exact U.oB c d I I h
theorem dy.Ok.apV(U:N.Ok){k:Nat}(al:1<=k)(hk:k<=N.ba.length){n:Int}(g:b<=N.ls.length)(h:N.lK k=(t,n,fY (N.k6 b))):∃i,k=i+1/\N.ba[i]?=some (t,n,b):=by
 cases k with
 |zero=>omega
 |succ i=>
  refine⟨i,rfl,?_⟩;obtain⟨⟨g',l,c⟩,f⟩:∃x,N.ba[i]?=some x:=⟨_,bZ I⟩;obtain⟨e,d⟩:=U.fn i g' l c f;rw[d]at h;injection h with m a;injection a with a j;have cO:=U.oB c b e g (azr j)
  grind
theorem dy.apF(U:N.Ok){n:Int}(g:b<=N.ls.length)(u:(t,n,b)∉N.ba):(N.tl t n b).Ok:=by
 have y:∀k,1<=k->k<=N.ba.length->N.lK k≠(t,n,fY (N.k6 b)):=λk al hk h=>by
  obtain⟨i,_,x⟩:=U.apV al hk g h
  grind
 have bn:∀k,k<=N.ba.length->(N.tl t n b).lK k=N.lK k:=(N.aaR t n b).DL;have l:(N.tl t n b).lK (N.ba.length+1)=(t,n,fY (N.k6 b)):=by simp[dy.tl]
 have q:(N.tl t n b).ba.length=N.ba.length+1:=by simp[dy.tl]
 refine⟨U.sH,λk c d hk=>?_,λk g' j c hk=>?_,U.oB,λc d h1 ae ay m h=>?_⟩;obtain⟨f,e,o,p⟩:=U.dc k c d hk;exact⟨f,e,I,by rw[bn d o];exact p⟩;have a:(N.ba++[(t,n,b)])[k]?=some (g',j,c):=hk;rw[Dl]at a;split at a;rename_i r;obtain⟨f,e⟩:=U.fn k g' j c a;exact⟨f,by rw[bn _ I];exact e⟩;rename_i r;have s:k-N.ba.length=0:=by
  grind
 rw[s]at a;simp at a;obtain⟨rfl,rfl,rfl⟩:=a;obtain rfl:k=N.ba.length:=by omega
 exact⟨g,l⟩;rw[q]at ay m;by_cases w:c=N.ba.length+1
 grind
 by_cases v:d=N.ba.length+1
 grind
 rw[bn c I,bn d I]at h;exact U.vT c d h1 ae I I h
def Jf(x:Int×Int×Nat):List Int:=[x.1,x.2.1,(x.2.2:Int)]
def Kt(x:Nat×Nat):List Int:=[(x.1:Int),(x.2:Int)]
theorem aqk{x y:Int×Int×Nat}(h:Jf x=Jf y):x=y:=by
 grind [Jf,zN]
theorem ayV{x y:Nat×Nat}(h:Kt x=Kt y):x=y:=by
 grind [Kt,zN]
structure wL{α:Type}(key:α->List Int)(l:List α)(es:List il):Prop where
 len:es.length=l.length
 at_:∀(i:Nat)(e:il)(x:α),es[i]?=some e->l[i]?=some x->e.k=key x/\e.v=R ((i+1:Nat):Int)
theorem YT:∀es k,jC es k=none->∀(i:Nat) e,es[i]?=some e->e.k≠k
 |[],_,_,i,e,h=>by simp at h
 |x::es,k,h,i,e,he=>by
  simp only[jC]at h;split at h
  grind
  rename_i a;cases i with
  |zero=>grind
  |succ i=>exact YT es k h i e aJ
theorem YU:∀es k v,jC es k=some v->∃(i:Nat)(e:il),es[i]?=some e/\e.k=k/\e.v=v
 |[],_,_,h=>by cases h
 |x::es,k,v,h=>by
  simp only[jC]at h;split at h;rename_i he;injection h with h;exact⟨0,x,rfl,he.symm,h⟩;obtain⟨i,e,h1,ae⟩:=YU es k v h;exact⟨i+1,e,aJ,ae⟩
theorem Fw:∀es k v c,jC es k=none->upsert es k v c=es++[⟨k,v,c⟩]
 |[],_,_,_,_=>rfl
 |x::es,k,v,c,h=>by
  simp only[jC]at h;split at h
  grind
  rename_i a;simp only[upsert,aD a,Fw es k v c h,wP]
theorem wL.none{α:Type}{key:α->List Int}{l:List α}{es:List il}(s:wL key l es){x:α}(h:jC es (key x)= .none):x∉l:=λb=>by
 obtain⟨i,a⟩:=List.getElem?_of_mem b;have c:=(pZ.1 a).1;obtain⟨e,he⟩:∃e,es[i]?=some e:=⟨_,bZ (by grind [s.len])⟩;exact YT es _ h i e he (s.at_ i e x he a).1
theorem wL.some{α:Type}{key:α->List Int}(hk:∀x y,key x=key y->x=y){l:List α}{es:List il}(s:wL key l es){x:α}{v:ax}(h:jC es (key x)= .some v):∃i,l[i]?= .some x/\v=R ((i+1:Nat):Int):=by
 obtain⟨i,e,h1,ae,d⟩:=YU es _ v h;have f:=(pZ.1 h1).1;obtain⟨y,a⟩:∃y,l[i]?=Option.some y:=⟨_,bZ (by simp_all[<-s.len])⟩;obtain⟨c,b⟩:=s.at_ i e y h1 a
 grind
theorem wL.add{α:Type}{key:α->List Int}{l:List α}(s:wL key l es) x c:wL key (l++[x]) (es++[⟨key x,R ((es.length:Int)+1),c⟩]):=by
 refine⟨by simp[s.len],λi e y he a=>?_⟩;rw[Dl]at he a;rw[s.len]at he;split at he;rename_i b;rw[aP b]at a;exact s.at_ i e y he a
 grind
structure iJ(h:J)(c7 cc b7:Nat)(N:dy):Prop where
 cell:h c7=some (bb [.map (some cc),.map (some b7)].toArray 284 (0,0))
 f:∃es cq,yb h cc 8 es cq/\wL Jf N.ba es
 l:∃es cq,yb h b7 7 es cq/\wL Kt N.ls es
 ne:cc≠b7
 ok:N.Ok
theorem iJ.azS(x:iJ h c7 cc b7 N):c7≠cc:=λe=>by
 obtain⟨es,a,hm,_⟩:=x.f;have h1:=x.cell;rw[e,hm.at_]at h1;cases h1
theorem iJ.azT(x:iJ h c7 cc b7 N):c7≠b7:=λe=>by
 obtain⟨es,a,hm,_⟩:=x.l;have h1:=x.cell;rw[e,hm.at_]at h1;cases h1
theorem iJ.mono(x:iJ h c7 cc b7 N)(l:h.le aa):iJ aa c7 cc b7 N:=⟨l _ _ x.cell,let⟨es,a,hm,s⟩:=x.f;⟨es,a,⟨l _ _ hm.at_,hm.keys⟩,s⟩,let⟨es,a,hm,s⟩:=x.l;⟨es,a,⟨l _ _ hm.at_,hm.keys⟩,s⟩,x.ne,x.ok⟩
def J.off(h:J)(cc b7:Nat):J:=λo=>if o=cc\/o=b7 then none else h o
theorem J.za(h:J) cc b7:(h.off cc b7).le h:=λo U e=>by
 unfold J.off at e;grind
theorem J.Hr(h1:o≠cc)(ae:o≠b7):h.off cc b7 o=h o:=by
 unfold J.off;grind
theorem J.aAt U:(h.put cc U).off cc b7=h.off cc b7:=by
 funext o;unfold J.off;split;rfl;rename_i q;rw[J.cB _ _ (λe=>q (bW e))]
theorem J.aAu U:(h.put b7 U).off cc b7=h.off cc b7:=by
 funext o;unfold J.off;split;rfl;rename_i q;rw[J.cB _ _ (λe=>q (bl e))]
theorem J.KG(x:h.le aa):(h.off cc b7).le (aa.off cc b7):=λo U e=>by
 unfold J.off at e⊢;split at e
 grind
 rename_i q;rw[aD q];exact x o U e
theorem iJ.ani(x:iJ h c7 cc b7 N)(k:a<=N.ls.length)(h1:1<=b)(l:b<=N.ba.length){m i9:Nat}(hm:yb h b7 7 es m)(s:wL Kt N.ls es)(d:jC es [a,b]=none):iJ (h.put b7 (kb 7 (upsert es [a,b] (R ((es.length:Int)+1)) c) i9)) c7 cc b7 (N.link a b):=by
 have n:(a,b)∉N.ls:=s.none (x:=(a,b)) d;obtain⟨i,j,g,s2⟩:=x.f;refine⟨by rw[J.cB _ _ x.azT];exact x.cell,⟨i,j,⟨by rw[J.cB _ _ x.ne];exact g.at_,g.keys⟩,s2⟩,⟨_,i9,⟨J.b1 _ _ _,λe he=>?_⟩,?_⟩,x.ne,dy.ayS x.ok k h1 l n⟩;rw[Fw _ _ _ _ d]at he;rcases ej.1 he with he|he;exact hm.keys e he;rw[hV.1 he];rfl;rw[Fw _ _ _ _ d];exact s.add (a,b) c
theorem iJ.ang(x:iJ h c7 cc b7 N){n:Int}(i:b<=N.ls.length){j i9:Nat}(hm:yb h cc 8 es j)(s:wL Jf N.ba es)(a:jC es [t,n,b]=none):iJ (h.put cc (kb 8 (upsert es [t,n,b] (R ((es.length:Int)+1)) c) i9)) c7 cc b7 (N.tl t n b):=by
 have k:(t,n,b)∉N.ba:=s.none (x:=(t,n,b)) a;obtain⟨f,g,d,s2⟩:=x.l;refine⟨by rw[J.cB _ _ x.azS];exact x.cell,⟨_,i9,⟨J.b1 _ _ _,λe he=>?_⟩,?_⟩,⟨f,g,⟨by rw[J.cB _ _ (d' x.ne)];exact d.at_,d.keys⟩,s2⟩,x.ne,dy.apF x.ok i k⟩;rw[Fw _ _ _ _ a]at he;rcases ej.1 he with he|he;exact hm.keys e he;rw[hV.1 he];rfl;rw[Fw _ _ _ _ a];exact s.add (t,n,b) c
theorem aff(d:iJ h c7 cc b7 N)(m:a<=N.ls.length)(h1:1<=b)(n:b<=N.ba.length)(q:N.gW<=4000000000):Fn aB 128 #[ie c7,R a,R b] h λv aa=>∃(M:dy)(r:Nat),v=R r/\N.Ext M/\iJ aa c7 cc b7 M/\M.k6 r=N.k6 a++[N.lK b]/\r<=M.ls.length/\M.gW<=N.gW+1/\aa.off cc b7=h.off cc b7:=by
 obtain⟨es,f,hm,s⟩:=d.l;have o:=s.len;simp only[dy.gW]at q;refine b6 awt rfl (.hp (.map (some b7)) (qe d.cell rfl) (.mk es f hm ?_));cases g:jC es [(a:Int),(b:Int)]with
 |some v=>
  obtain⟨i,k,rfl⟩:=s.some (λ_ _=>ayV) (x:=(a,b)) g;refine .hp (.map (some b7)) (qe d.cell rfl) (.mk es f hm ?_);rw[g];have p:=(pZ.1 k).1;exact .ah ⟨N,i+1,rfl,dy.Ext.refl N,d,(d.ok.dc i a b k).2.2.2,p,alu _,rfl⟩
 |none=>
  refine .hp (.map (some b7)) (qe d.cell rfl) (.hp (.map (some b7)) (qe d.cell rfl) (.mk 7 es f hm (.bg (.mk es f hm λi9=>?_))));have j:=d.ani (i9:=i9) (c:=f) m h1 n hm s g;refine .hp (.map (some b7)) (qe j.cell rfl) ?_;obtain⟨t,u,w,s2⟩:=j.l;refine .mk _ i9 ⟨J.b1 _ _ _,?_⟩ ?_;intro e he;rw[Fw _ _ _ _ g]at he;rcases ej.1 he with he|he;exact hm.keys e he;rw[hV.1 he];rfl;rw[QX,aP rfl];refine .ah ⟨N.link a b,N.ls.length+1,?_,N.afg a b,j,?_,?_,?_,J.aAu _⟩;rw[<-o];rfl;simp[dy.link];simp[dy.link]
  grind [dy.link,dy.gW]
theorem aaQ(a:iJ h c7 cc b7 N){n:Int}(l:b<=N.ls.length)(p:N.gW<=4000000000):Fn aB 129 #[ie c7,.agg #[R t,R n,R b]] h λv aa=>∃(M:dy)(r:Nat),v=R r/\N.Ext M/\iJ aa c7 cc b7 M/\M.lK r=(t,n,fY (N.k6 b))/\1<=r/\r<=M.ba.length/\M.gW<=N.gW+1/\aa.off cc b7=h.off cc b7:=by
 obtain⟨es,d,hm,s⟩:=a.f;have m:=s.len;simp only[dy.gW]at p;refine b6 awu rfl (.hp (.map (some cc)) (qe a.cell rfl) (.mk es d hm ?_));cases g:jC es [t,n,(b:Int)]with
 |some v=>
  obtain⟨i,j,rfl⟩:=s.some (λ_ _=>aqk) (x:=(t,n,b)) g;refine .hp (.map (some cc)) (qe a.cell rfl) (.mk es d hm ?_);rw[g];have o:=(pZ.1 j).1;exact .ah ⟨N,i+1,rfl,dy.Ext.refl N,a,(a.ok.fn i t n b j).2,alD _,o,alu _,rfl⟩
 |none=>
  refine .hp (.map (some cc)) (qe a.cell rfl) (.hp (.map (some cc)) (qe a.cell rfl) (.mk 8 es d hm (.bg (.mk es d hm λi9=>?_))));have k:=a.ang (i9:=i9) (c:=d) l hm s g;refine .hp (.map (some cc)) (qe k.cell rfl) (.mk _ i9 ⟨J.b1 _ _ _,?_⟩ ?_);intro e he;rw[Fw _ _ _ _ g]at he;rcases ej.1 he with he|he;exact hm.keys e he;rw[hV.1 he];rfl;rw[QX,aP rfl];refine .ah ⟨N.tl t n b,N.ba.length+1,?_,N.aaR t n b,k,?_,alD _,?_,?_,J.aAt _⟩;rw[<-m];rfl;simp[dy.tl];simp[dy.tl]
  grind [dy.tl,dy.gW]
theorem afh:∀K b,b.bj<K->b.bj<=200000->∀t n B m c h c7 cc b7 N,iJ h c7 cc b7 N->j5 (h.off cc b7) B m b->N.gW+2*b.bj+1<=4000000000->Fn aB 126 #[ie c7,.agg (kn t n B m c).toArray] h λv aa=>∃(M:dy)(r:Nat),v=R r/\N.Ext M/\iJ aa c7 cc b7 M/\M.lK r=(t,n,b.bM)/\1<=r/\r<=M.ba.length/\M.gW<=N.gW+2*b.bj+1/\aa.off cc b7=h.off cc b7
 |0,b,G,_=>absurd G (BE _)
 |K+1,b,G,nX=>by
  intro t n B m c h c7 cc b7 N z A hL;have hm:m<=200000:=by have:=A.1;have:=b.y5;omega
  refine b6 awr rfl ?_;refine .mq [0] (Nat×Nat×dy×ca) [0,3,5,9,10,11] (λ(i,k,_,_)=>[.v (ie c7),.p 0 0,.v (R k),.v (ab B m c),.v (R m),.v (R i)]) (λ_=>[.own ((kn t n B m c).map .v) 199]) (λ(i,k,M,r) aa=>iJ aa c7 cc b7 M/\N.Ext M/\sa (h.off cc b7) B m i r/\k<=M.ls.length/\M.k6 k++r.bM.et=b.bM.et/\M.gW+2*r.bj<=N.gW+2*b.bj/\r.bj<=b.bj/\aa.off cc b7=h.off cc b7) (λ(i,_,_,_)=>m-i) (0,0,N,b) (λ_=>rfl) ⟨z,dy.Ext.refl N,A.cF,cW _,by simp[z.ok.sH],dz _,dz _,rfl⟩ rfl rfl rfl ?_;refineλ⟨i,k,M,r⟩ e aa⟨L,E,w,hk,he,y,lj,aS⟩=>.ah (aY (λae=>?_) (λae=>?_));cases r with
  |nil=>have:=w.fin;omega
  |cons g' H F D C dA r=>
   obtain⟨g,b9,X,ay,aj,Y⟩:=w.open;simp only[ca.bj]at lj y;simp only[ca.bM,eJ.et]at he;refine .m g b9 (.hp (kn g' H F D C) rfl (by rw[bz];exactλo v an=>J.la (aa.za cc b7) aJ) (.ah (.mk _ (afh K dA I I g' H F D C aa c7 cc b7 M L aJ I) ?_)));rintro _ au ⟨Qt,dU,rfl,q,O,s,P,Q,Z,Tf⟩;refine .ah (.mk _ (aff O (a:=k) (b:=dU) (og hk q.gL) P Q I) ?_);rintro _ W ⟨l,x,rfl,d,j,T,f,U,V⟩;refine .bg (.ah ⟨(i+1,x,l,r),rfl,rfl,⟨j,E.trans (q.trans d),Y,f,?_,I,I,aJ⟩,aJ⟩);rw[T,s,q.el k hk,<-he,kC];rfl
  cases r with
  |nil=>
   simp only[ca.bM,eJ.et,s7]at he;simp only[ca.bj]at y;refine .ah (.mk _ (aaQ L (t:=t) (n:=n) (b:=k) hk I) ?_);rintro _ W ⟨l,x,rfl,d,j,u,S,f,U,V⟩;refine .ah ⟨l,x,rfl,E.trans d,j,?_,S,f,I,aJ⟩;rw[u,he,EX]
  |cons=>obtain⟨g,aT,X,_⟩:=w.open;omega
def ca.sf:Nat->ca->ca
 |0,l=>l
 |_+1,.nil=>.nil
 |k+1,.cons _ _ _ _ _ _ r=>r.sf k
def ca.fB:Nat->ca->ca
 |0,_=>.nil
 |_+1,.nil=>.nil
 |k+1,.cons t n B m c b r=>.cons t n B m c b (r.fB k)
theorem MD:∀k(l:ca),(l.sf k).bM.et=l.bM.et.drop k
 |0,l=>by rfl
 |k+1,.nil=>by rfl
 |k+1,.cons _ _ _ _ _ _ r=>by simp only[ca.sf,ca.bM,eJ.et,List.drop_succ_cons,MD k r]
theorem WO:∀k(l:ca),(l.fB k).bM.et=l.bM.et.take k
 |0,l=>by rfl
 |k+1,.nil=>by rfl
 |k+1,.cons _ _ _ _ _ _ r=>by simp only[ca.fB,ca.bM,eJ.et,List.take_succ_cons,WO k r]
theorem DT(l:ca):l.bM.et.length=l.len:=by rw[aak,ca.abg]
theorem Z1 k(l:ca):(l.sf k).len=l.len-k:=by rw[<-DT,MD,mF,DT]
theorem aEF k(l:ca):(l.fB k).len=min k l.len:=by rw[<-DT,WO,ni,DT]
theorem QY{h:J}{g:aI}:∀k l i,qw h g i l->qw h g (i+k) (l.sf k)
 |0,_,_,a=>a
 |_+1,.nil,_,_=>trivial
 |k+1,.cons _ _ _ _ _ _ r,i,⟨_,_,_,a⟩=>by rw[show i+(k+1)=i+1+k by omega];exact QY k r (i+1) a
theorem YY{h:J}{g:aI}:∀k l i,qw h g i l->qw h g i (l.fB k)
 |0,_,_,_=>trivial
 |_+1,.nil,_,_=>trivial
 |k+1,.cons _ _ _ _ _ _ r,i,⟨a,b,c,d⟩=>⟨a,b,c,YY k r (i+1) d⟩
theorem YW{h:J}{g:aI} i:∀l o,qw h g (i+o) l->qw h (g.add (i*3)) o l
 |.nil,_,_=>trivial
 |.cons _ _ _ _ _ _ r,o,⟨a,b,c,d⟩=>⟨λq v e=>by
  have:=a q v e;rw[vH,vH,<-Nat.add_assoc,<-Nat.add_mul,<-vH];omega,b,c,YW i r (o+1) d⟩
theorem aC9{B:Option aI}{i:Nat}(s:j5 h A m l)(c:i+w<=m)(e:0<w->B=A.map (λa=>a.add (i*3))):j5 h B w ((l.sf i).fB w):=by
 obtain⟨h1,ae⟩:=s;refine⟨by rw[aEF,Z1];omega,?_⟩;by_cases hw:w=0;subst hw;exact bW rfl;rcases ae with ae|⟨g,d,b⟩
 grind [ca.len]
 refine bl ⟨g.add (i*3),aJ,YY w _ 0 (YW i _ 0 ?_)⟩;have:=QY i l 0 b
 grind
theorem aEG{i:Nat}(s:j5 h A m l)(b:i<=m):sa h A m i (l.sf i):=by
 obtain⟨h1,ae⟩:=s;refine⟨by rw[Z1];omega,?_⟩;rcases ae with ae|⟨g,c,a⟩;subst ae;cases i<;>exact bW rfl;have:=QY i l 0 a
 grind
def kd(bs:List Nat):List Int:=bs.map λ(k:Nat)=>(k:Int)
theorem af' a b:kd (a++b)=kd a++kd b:=by simp[kd]
structure oU(N:dy)(bs:List Nat)(l:List iT):Prop where
 eq:bs.map N.lK=l
 le:∀k∈bs,1<=k/\k<=N.ba.length
theorem oU.ext{l:List iT}(x:oU N bs l)(e:N.Ext M):oU M bs l:=⟨by rw[<-x.eq];exact List.map_congr_left λk hk=>e.DL k (x.le k hk).2,λk hk=>⟨(x.le k hk).1,og (x.le k hk).2 e.kv⟩⟩
theorem oU.nil N:oU N [] []:=⟨rfl,λk hk=>by cases hk⟩
theorem oU.snoc{l:List iT}(x:oU N bs l){k:Nat}(h1:1<=k)(ae:k<=N.ba.length):oU N (bs++[k]) (l++[N.lK k]):=
 ⟨by simp[x.eq],λo a=>by
  rcases ej.1 a with a|a;exact x.le o a
  grind⟩
theorem iJ.del(x:iJ h c7 cc b7 N)(y:iJ aa c7 cc b7 M)(m:∀g,D=some g->h g.block=none):iJ (eP aa D) c7 cc b7 M:=by
 have key:∀o U,h o≠none->aa o=some U->eP aa D o=some U:=λo U i e=>by
  cases D with
  |none=>exact e
  |some g=>rw[eP,J.mJ _ (λq=>i aJ)];exact e
 obtain⟨es,j,hm,s⟩:=y.f;obtain⟨c,i9,d,k⟩:=y.l;obtain⟨_,_,a,_⟩:=x.f;obtain⟨_,_,b,_⟩:=x.l;exact⟨key _ _ (by simp[x.cell]) y.cell,⟨es,j,⟨key _ _ (by rw[a.at_];simp) hm.at_,hm.keys⟩,s⟩,⟨c,i9,⟨key _ _ (by rw[b.at_];simp) d.at_,d.keys⟩,k⟩,y.ne,y.ok⟩
theorem Vb{g:Nat}(e:h g=none):h.off cc b7 g=none:=by
 unfold J.off;grind
theorem Va(x:(h.off cc b7).le (aa.off cc b7))(a:∀g,D=some g->h g.block=none):(h.off cc b7).le ((eP aa D).off cc b7):=λo U e=>by
 have h1:=x o U e;unfold J.off at h1⊢;split at h1
 grind
 rename_i b;rw[aD b];cases D with
 |none=>exact h1
 |some g=>
  rw[eP,J.mJ _ (λq=>?_)];omega;subst q;rw[Vb (a g rfl)]at e;cases e
theorem azM{cap:Nat}(E:iJ h c7 cc b7 N)(H:j5 (h.off cc b7) A m l)(ay:l.bj<=200000)(hL:N.gW+2*l.bj<=4000000000):Fn aB 67 #[ie c7,ab A m cap] h λv aa=>∃(M:dy)(bs:List Nat)(D:Option aI)(c:Nat),v= .agg #[ab A m cap,ab D m c]/\N.Ext M/\iJ aa c7 cc b7 M/\oU M bs l.bM.et/\bJ aa 3 1 D m c ((kd bs).map R)/\(∀g,D=some g->h g.block=none)/\(h.off cc b7).le (aa.off cc b7)/\M.gW<=N.gW+2*l.bj:=by
 have hm:m<=200000:=by have:=H.1;have:=l.y5;omega
 refine b6 axW rfl ?_;refine .mq [0,1] (Nat×Option aI×Nat×dy×List Nat×ca) [0,4,5,10,11,12] (λ(i,_,_,_,_,_)=>[.v (ie c7),.p 0 0,.p 1 0,.v (ab A m cap),.v (R m),.v (R i)]) (λ(i,D,c,_,_,_)=>[.own [.v (ab none 0 0),.v (ab none 0 0)] 203,.own [.v (ab A m cap),.v (ab D i c)] 203]) (λ(i,D,c,M,bs,r) aa=>iJ aa c7 cc b7 M/\N.Ext M/\sa (h.off cc b7) A m i r/\(∃U,oU M bs U/\U++r.bM.et=l.bM.et)/\bJ aa 3 1 D i c ((kd bs).map R)/\(∀g,D=some g->h g.block=none)/\(h.off cc b7).le (aa.off cc b7)/\M.gW+2*r.bj<=N.gW+2*l.bj/\r.bj<=l.bj) (λ(i,_,_,_,_,_)=>m-i) (0,none,0,N,[],l) (λ_=>rfl) ⟨E,dy.Ext.refl N,H.cF,⟨[],oU.nil N,rfl⟩,⟨rfl,bW ⟨rfl,rfl,rfl⟩⟩,(λ_ e=>by cases e),J.le_refl _,dz _,dz _⟩ rfl rfl rfl ?_;refineλ⟨i,D,c,M,bs,r⟩ e aa⟨s,O,n,⟨U,yP,he⟩,ju,w,a,C,lj⟩=>.abs 3 1 D i c _ ju (.ah ?_);have s:=E.del s w;have a:=Va a w;refine aY (λae=>?_) (λae=>?_);cases r with
 |nil=>have:=n.fin;omega
 |cons g' S P L K dA r=>
  obtain⟨g,aT,ai,V,aj,aq⟩:=n.open;simp only[ca.bj]at lj C;simp only[ca.bM,eJ.et]at he;refine .m g aT (.hp (kn g' S P L K) rfl (by rw[bz];exactλo v an=>J.la (J.le_trans a (J.za _ cc b7)) (V o v an)) (.mk _ (afh _ dA (zR _) I g' S P L K _ c7 cc b7 M s (aj.mono a) I) ?_));rintro _ au ⟨z,q,rfl,y,t,Z,W,X,at5,B⟩;refine .c3 2 _ [R q] rfl rfl (U6 [(q:Int)]) (by grind [eD]) I λT c2 aro=>.bg (.b4 2 3 1 T (i+1) c2 _ rfl λY j x b=>.ah ⟨(i+1,T,c2,z,bs++[q],r),rfl,rfl,⟨t.mono j,O.trans y,aq,⟨U++[z.lK q],(yP.ext y).snoc W X,?_⟩,?_,λk lu=>?_,?_,I,I⟩,aJ⟩)
  grind
  rw[af',fF];exact x;have d:=b k lu;by_cases G:k.block=cc;obtain⟨_,_,u,_⟩:=t.f;rw[G,u.at_]at d;cases d;by_cases F:k.block=b7;obtain⟨_,_,u,_⟩:=t.l;rw[F,u.at_]at d;cases d;have Q:au.off cc b7 k.block=none:=Vb d;rw[B]at Q;have:=wk a Q;rwa[J.Hr G F]at this;refine J.le_trans a ?_;rw[<-B];exact J.KG j
 cases r with
 |nil=>
  have:=n.fin;subst this;simp only[ca.bM,eJ.et,s7]at he;simp only[ca.bj]at C;refine .b4 2 3 1 D i c _ rfl λY j x b=>.ah ⟨M,bs,D,c,rfl,O,s.mono j,aJ,x,w,J.le_trans a (J.KG j),I⟩
 |cons=>obtain⟨g,aT,ai,_⟩:=n.open;omega
theorem Rw{α:Type}{l:List α}{k:Nat} h:(l.drop a).take (k+1)=(l.drop a).take k++[l[a+k]]:=by
 rw[kJ aJ,List.getElem_drop]
theorem aC5{hn:Nat}{i:Nat}(j:h hn=some (bb [ab A m c,ab D m i].toArray 203 (0,0)))(f:bf h 1 D m ((kd bs).map λz=>[R z]))(hm:m<=1000000000)(u:a+w<=m)(x:b+w<=m):Fn aB 127 #[ie hn,R a,R b,R w] h λv aa=>v=c5 (decide ((bs.drop a).take w=(bs.drop b).take w))/\aa=h:=by
 have ak:bs.length=m:=by have:=f.len;grind [kd]
 have o:∀k(hk:k<m),((kd bs).map λz=>[R z])[k]?=some [R (bs[k]'I:Int)]:=λk hk=>by simp[kd,ak,hk]
 refine b6 aws rfl (.mk Nat [0,1,2,10,11] (λk=>[.v (ie hn),.v (R a),.v (R b),.v (R w),.v (R k)]) (λ_=>[]) (λk aa=>aa=h/\k<=w/\(bs.drop a).take k=(bs.drop b).take k) (λk=>w-k) 0 (λ_=>rfl) ⟨rfl,cW _,rfl⟩ rfl rfl (λk e aa⟨rfl,hk,r⟩=>aY (λae=>?_) (λae=>?_)));obtain⟨g,d⟩:=f.cg I;have t:=Rw (l:=bs) (a:=a) (k:=k) I;have s:=Rw (l:=bs) (a:=b) (k:=k) I;refine .hp (ab D m i) (qe j rfl) (.bg (.m g d (.hp (R (bs[a+k]'I:Int)) (by rw[show((a:Int)+k).toNat=a+k by omega];exact f.one d (o (a+k) I) rfl) (.hp (ab D m i) (qe j rfl) (.bg (.m g d (.hp (R (bs[b+k]'I:Int)) (by rw[show((b:Int)+k).toNat=b+k by omega];exact f.one d (o (b+k) I) rfl) (aY (λn=>?_) (λn=>?_)))))))));refine .ah ⟨?_,rfl⟩;rw[io];rfl;intro q;apply n;have p:=ee (λl=>l.take (k+1)) q;simp only[List.take_take,show min (k+1) w=k+1 by omega]at p;simp_all;refine .bg (⟨k+1,rfl,rfl,⟨rfl,I,?_⟩,I⟩)
 grind
 obtain rfl:k=w:=by omega
 refine .ah ⟨?_,rfl⟩;rw[gG r];rfl
theorem afo{α β:Type}{f:α->β}:∀{l r:List α},(∀x∈l,∀y∈r,f x=f y->x=y)->l.map f=r.map f->l=r
 |[],[],_,_=>rfl
 |[],_::_,_,h=>by cases h
 |_::_,[],_,h=>by cases h
 |x::l,y::r,c,h=>by
  simp only[ec,zN]at h;rw[c x (hU ..) y (hU ..) h.1,afo (λa d b e=>c a (gX _ d) b (gX _ e)) h.2]
theorem oU.aq4(U:N.Ok){es:List iT}(x:oU N bs es) a b w:((bs.drop a).take w=(bs.drop b).take w)↔((es.drop a).take w=(es.drop b).take w):=by
 rw[<-x.eq,<-aIN,<-aIN,<-FQ,<-FQ];refine⟨λh=>by rw[h],λh=>afo (λp hp q c=>?_) h⟩;have h1:=x.le p (ala (LV hp));have ae:=x.le q (ala (LV c));exact U.vT p q h1.1 ae.1 h1.2 ae.2
theorem aqG h:Fn aB 66 #[] h λv aa=>∃c7 cc b7,v=ie c7/\iJ aa c7 cc b7 dy.fresh/\h.le aa/\h c7=none/\h cc=none/\h b7=none/\h.le (aa.off cc b7):=by
 refine b6 axV rfl (.mk λb n=>.mk λc g=>.mk λd a=>?_);have l:b≠c:=λe=>by rw[<-e,J.b1]at g;cases g
 obtain⟨t,f⟩:d≠c/\h d=none/\d≠b:=by
  by_cases e:d=c;rw[e,J.b1]at a;cases a;rw[J.cB _ _ e]at a;by_cases m:d=b;rw[m,J.b1]at a;cases a;rw[J.cB _ _ m]at a;grind
 have k:h c=none:=by rwa[J.cB _ _ (d' l)]at g
 have r:h.le (h.put b (.map #[] 0)):=J.dI n;have s:=J.le_trans r (J.dI (U:=.map #[] 0) g);have p:=J.le_trans s (J.dI (U:=bb [.map (some b),.map (some c)].toArray 284 (0,0)) a);refine .ah ⟨d,b,c,rfl,⟨J.b1 _ _ _,⟨[],0,⟨?_,λx j=>by cases j⟩,⟨rfl,λi e x he=>aJ⟩⟩,⟨[],0,⟨?_,λx j=>by cases j⟩,⟨rfl,λi e x he=>aJ⟩⟩,l,dy.MY⟩,p,f.1,n,k,λo U e=>?_⟩;rw[J.cB _ _ (d' f.2),J.cB _ _ l,J.b1];rfl;rw[J.cB _ _ (d' t),J.b1];rfl;rw[J.Hr (λq=>aJ) (λq=>aJ)];exact p o U e
structure wM(H:J)(hn:Nat)(A D:Option aI)(m c br:Nat)(l:ca)(bs:List Nat):Prop where
 cell:H hn=some (bb [ab A m c,ab D m br].toArray 203 (0,0))
 sat:j5 H A m l
 dV:bf H 1 D m ((kd bs).map λz=>[R z])
 ck:m<=c
 se:m<=br
 le:m<=200000
theorem wM.mono{H k5:J}{hn:Nat}{A D:Option aI}{m c a:Nat}{l:ca}{bs:List Nat}(x:wM H hn A D m c a l bs)(y:H.le k5):wM k5 hn A D m c a l bs:=⟨y _ _ x.cell,x.sat.mono y,x.dV.mono y,x.ck,x.se,x.le⟩
theorem wM.len{H:J}{hn:Nat}{A D:Option aI}{m c a:Nat}{l:ca}{bs:List Nat}(x:wM H hn A D m c a l bs):bs.length=m/\l.bM.et.length=m:=by
 refine⟨?_,?_⟩;have:=x.dV.len;grind [kd];rw[DT];exact x.sat.1.symm
theorem wM.num{H:J}{hn:Nat}{b:Nat}(x:wM H hn A D m c b l bs){i:Nat}(a:i<m):((kd bs).map λz=>[R z])[i]?=some [R ((bs[i]'(by grind [x.len.1]):Nat):Int)]:=by
 have:=x.len.1;simp[kd,this,a]
noncomputable def NT:IR:=(IR.seq (IR.seq (IR.cd avS) (IR.cond (eb.t 41) (IR.seq (IR.y9 avT) (IR.seq (IR.y9 avL) (IR.seq (IR.cd avM) (IR.exit 1)))) IR.skip)) (IR.seq (IR.cd avN) (IR.seq (IR.seq (IR.cd avO) (IR.block 4 (IR.loop avK))) (IR.seq (IR.y9 avP) (IR.seq (IR.y9 avQ) (IR.cd avR))))))
abbrev x8(hn:Nat)(E:Option aI)(o a:Nat)(G:Option aI)(gc:Nat)(b rg:List ax):List LE:=[.b4 hn,.own [.v (ab none 0 0),.v (ab none 0 0)] 203,.own [.v (ab E o a),.v (ab G o gc)] 203,.row 199 3 E o a b,.row 3 1 G o gc rg]
theorem aDT y Q(e:cy){H:J}{hn c7:Nat}{A D:Option aI}{m c F:Nat}{l:ca}{bs:List Nat}(x:wM H hn A D m c F l bs){N:dy}(ok:N.Ok)(K:oU N bs l.bM.et){w:Nat}(hw:1<=w)(j:w<=16){i:Nat}(P:i<m) E o f G gc g rg(he:[0,2,4,6,7,8].map e=[.v (ie c7),.v (R w),.p 0 0,.p 1 0,.p 2 0,.v (R i)])(s:∀e k,s6 w (l.bM.et.drop i) k->k<=m->[0,2,4,6,7,8,9].map e=[.v (ie c7),.v (R w),.p 0 0,.p 1 0,.p 2 0,.v (R i),.v (R k)]->di aB 111 y Q e (x8 hn E o f G gc g rg) H):di aB 111 (.seq (.cd TU) (.seq (.block 2 (.loop TT)) y)) Q e (x8 hn E o f G gc g rg) H:=by
 have t:=fK [0,2,4,6,7,8] e;rw[he]at t;rw[<-t];have L:=x.le;obtain⟨M,U⟩:=x.len;refine .mk Nat [0,2,4,6,7,8,9] (λk=>[.v (ie c7),.v (R w),.p 0 0,.p 1 0,.p 2 0,.v (R i),.v (R k)]) (λ_=>x8 hn E o f G gc g rg) (λk aa=>aa=H/\1<=k/\k<=m/\∀q,1<=q->q<k->Bp w (l.bM.et.drop i) q) (λk=>m-k) 1 (λ_=>rfl) ⟨rfl,dz _,I,λq h1 ae=>I⟩ rfl rfl (λk e aa⟨rfl,n,z,r⟩=>?_);have S:(k+1)*w<=200001*16:=lP I j;have T:k*w<=200001*16:=lP I j;have O:((k:Int)+1)*w=(((k+1)*w:Nat):Int):=dC;have B:(k:Int)*w=((k*w:Nat):Int):=dC;have V:k<=k*w:=alt k hw;have W:(k+1)*w=k*w+w:=zS k w;refine .bg (.bg (.bg (.hp (ab A m c) (qe x.cell rfl) (aY (λu=>?_) (λu=>?_)))));have X:i+(k+1)*w<=m:=I;have C:=aC5 (w:=w) x.cell x.dV I (a:=i) (b:=i+k*w) I I;have d:Bp w (l.bM.et.drop i) k↔(bs.drop i).take w=(bs.drop (i+k*w)).take w:=by
  rw[K.aq4 ok];unfold Bp;rw[mF,XR]
  grind
 refine .bg (.bg ?_);rw[B,<-Int.natCast_add];refine .ah (.mk _ C ?_);rintro _ _ ⟨rfl,rfl⟩;refine aY (λv=>?_) (λv=>?_);refine .bg ?_;refine⟨k+1,rfl,rfl,⟨rfl,I,I,λq h1 ae=>?_⟩,I⟩
 grind
 exact s _ k ⟨n,r,λh=>v (d.1 h)⟩ z rfl;refine s _ k ⟨n,r,λh=>?_⟩ z rfl;have:=h.1
 grind
end Go.Sx
