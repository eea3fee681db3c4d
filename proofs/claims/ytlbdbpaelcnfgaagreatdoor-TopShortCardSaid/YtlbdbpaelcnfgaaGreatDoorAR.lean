/- A part of the proof that the statement holds. Conditions: none. -/
import Derived.Test.YtlbdbpaelcnfgaaGreatDoorAP
import Derived.Test.YtlbdbpaelcnfgaaGreatDoorAQ
open ByteArray renaming ext->aAj
open Decidable renaming byContradiction->zM,not_not->Gu,of_not_not->NN
open Go renaming Addr->ar,Operand->e3,Value->ao,World->bb,execOp->cY,getObj->Cp,maxLen->c',run_underlying->gj
open Go.Instr renaming checkKey->qp,findKey->BF,findNow->yk
open Go.Op renaming operands->D2
open Go.Proofs.Tryz renaming prog->aH,underlying331->aih,underlying9->Ef
open Go.Result renaming andThen_ok->hd
open Go.Sem renaming run->w3,run_bind->g7,run_pure->jR
open Go.Value renaming bool->qB,slice->oE
open Int renaming toNat_natCast->bq
open List renaming append_assoc->mb,append_nil->zR,cons_append->wS,drop_drop->JW,drop_of_length_le->aCc,eq_nil_of_length_eq_zero->ra,flatten_append->zS,flatten_singleton->ahg,getD_eq_getElem?_getD->cN,getElem?_append->JY,getElem?_drop->GF,getElem?_eq_getElem->bZ,getElem?_eq_some_iff->qt,getElem?_map->dV,getElem_mem->cS,length_cons->gI,length_drop->k1,length_take->sa,map_append->fm,map_cons->eO,map_drop->GK,map_nil->zU,map_take->GM,mem_append->ev,mem_cons->dC,mem_cons_of_mem->iv,mem_cons_self->iU,mem_map->dn,mem_of_mem_drop->Oc,mem_of_mem_take->Od,mem_singleton->fx,nodup_cons->k3,not_mem_nil->th,replicate->bG,replicate_succ->GO,replicate_succ'->aCd,take_append_drop->BI,take_length->pM,take_of_length_le->k4
open List.Perm renaming swap->N1
open List.cons renaming injEq->yp
open Nat renaming le_add_right->ahG,le_mul_of_pos_right->ahI,le_refl->dd,le_succ->ahJ,le_trans->hT,lt_succ_self->ri,mul_le_mul->ns,mul_le_mul_right->pN,mul_one->ew,not_lt_zero->BO,succ_mul->BQ,succ_pos->ahP,zero_add->dJ,zero_le->cO
open Ne renaming symm->d9
open Prod renaming fst->kn
namespace Go.Sx
open Go.Proofs
set_option maxRecDepth 100000
set_option maxHeartbeats 0
set_option linter.all false
variable {s:ByteArray}{t:Int}{bp:List Nat}{xs:List ao}{es:List gr}{a b b9 bs bu c c6 cap cd gK i k m n o size w:Nat}{J:Obj}{A D:Option ar}
theorem aqN:Iter aH 92 [] [] (λ_=>True) []:=by
 intro l ba oz _ _ h ae;refine b5 asP rfl ?_;exact .done (.inl ae)
def Ee(c8:Nat)(A:Option ar)(m cap:Nat)(bX:bw)(h:I):Prop:=h.cell? ⟨c8,0,none⟩=some (.slice A m cap)/\hU h A m bX
theorem Ee.mono{c8:Nat}{A:Option ar}{m cap:Nat}{bX:bw}:∀h U:I,h.le U->Ee c8 A m cap bX h->Ee c8 A m cap bX U:=λ_ _ x⟨a,b⟩=>⟨I.kL x a,b.mono x⟩
theorem aqO(c8:Nat)(A:Option ar)(m cap:Nat)(bX:bw)(aw:bX.bF<=200000)(hp:nW bX.bn)(av:fj bX.bn<=2048):Iter aH 94 [] [hj c8] (Ee c8 A m cap bX) (hr bX.bn):=by
 intro l ba oz gA K7 h ae;refine b5 asR rfl ?_;refine .hp _ (gA _ _ ae).1 ?_;refine .done (.mk _ (afM l ba oz (hr bX.bn) K7 _ bX (ri _) aw hp av A m cap [] h (λpre h ae=>(gA _ _ ae).2) ae (List.prefix_refl _)) ?_);rintro _ ab (⟨rfl,p1⟩|⟨rfl,p,hp,p1⟩);exact .done (.inl p1);exact .done (.inr ⟨p,hp,p1⟩)
def uS(f:cX):List Int:=if qE f=0 then hr f else[]
theorem Eq{f:cX}(h:qE f=0):nW f/\fj f<=2048:=by
 obtain⟨h1,ab⟩:=Wo h;exact⟨KP _ _ _ h1,ab⟩
theorem XD(f:cX):(uS f).length<=2048:=by
 unfold uS;split;rename_i h;rw[KS];exact(Eq h).2;simp
theorem aiK(l:bw)(aw:l.bF<=200000)(A:Option ar)(m cap:Nat)(h:I)(aj:hU h A m l):Fn aH 36 #[.slice A m cap] h λv U=>h.le U/\∃g zC T,v= .func (.func g) #[] (List.toArray zC)/\Iter aH g [] zC T (uS l.bn)/\(∀h U:I,h.le U->T h->T U)/\T (U.sub h):=by
 refine b5 asa rfl ?_;refine .done (.mk _ (O' l aw A m cap h aj) ?_);rintro _ h1 ⟨lY,rfl⟩;refine aW (λab=>?_) (λab=>?_);refine .done ⟨lY,92,[],λ_=>True,rfl,?_,λ_ _ _=>id,trivial⟩;unfold uS;rw[aE ab];exact aqN;have ab:qE l.bn=0:=NN ab;obtain⟨bJ,bB⟩:=Eq ab;refine .done (.mk _ (adm _ l (ri _) aw A m cap h1 (aj.mono lY)) ?_);rintro _ an ⟨CK,D,c,bX,rfl,hs,rE⟩;have tD:bX.bF<=200000:=by rw[<-bX.Hq,rE,l.Hq];exact aw
 refine .mk λb af=>?_;have Zw:an.le (an.put b (.cells [oE D m c].toArray 34 (0,0))):=I.du af;refine .done ⟨I.le_trans lY (I.le_trans CK Zw),94,[hj b],Ee b D m c bX,rfl,?_,Ee.mono,?_,hs.mono ?_⟩;unfold uS;rw[aX ab,<-rE];exact aqO b D m c bX tD (by grind) (by grind);refine I.kL (h:=(λo=>if o=b then some (.cells [oE D m c].toArray 34 (0,0))else none)) (I.De (λo J e=>?_) λo ae=>?_) ?_;split at e;rename_i ae;rw[ae,I.bP];exact e
 grind
 simp only[ne_eq,ite_eq_right_iff,reduceCtorEq,imp_false,Gu]at ae;rw[ae];exact I.none_le (I.le_trans lY CK) af;unfold I.cell?;simp;refine I.De (I.le_trans (I.sub_le _ _) Zw) λo ae=>I.none_le lY (I.Gb ae)
def BK(h1:I)(b:Nat)(pre:List Int)(U:I):Prop:=∃D n c,h1 b=none/\h1.le U/\U b=some (.cells [oE D n c].toArray 27 (0,0))/\bz U 3 1 D n c (pre.map R)/\∀g,D=some g->h1 g.block=none
theorem BK.nil{h1:I}(af:h1 b=none):BK h1 b [] (h1.put b (.cells [oE none 0 0].toArray 27 (0,0))):=⟨none,0,0,af,I.du af,I.bP _ _ _,⟨rfl,.inl ⟨rfl,rfl,rfl⟩⟩,λ_ e=>by cases e⟩
theorem abV{U:I}(aD:U b=some (.cells [oE D n c].toArray 27 (0,0))):U.cell? ⟨b,0,none⟩=some (.slice D n c):=by
 unfold I.cell?;simp[aD]
theorem atC{U:I}(aD:U b=some (.cells [oE D n c].toArray 27 (0,0)))(bj:bz U 3 1 D n c xs):ei U D b=some (.cells [oE D n c].toArray 27 (0,0)):=by
 rcases bj.2 with⟨q,_⟩|⟨b7,a8,q,dz,_⟩;rw[q];rw[q]at aD;exact aD;rw[q];have bH:b≠b7:=λe=>by grind
 rw[ei,I.lP _ bH,<-q];exact aD
theorem BK.step{h1 U aR:I}{b:Nat}{D nr:Option ar}{dR c2:Nat}{pre:List Int}{x:Int}(af:h1 b=none)(aM:h1.le U)(bT:∀g,D=some g->h1 g.block=none)(gm:((ei U D).put b (.cells [oE nr dR c2].toArray 27 (0,0))).le aR)(hg:bz aR 3 1 nr dR c2 (pre.map R++[R x]))(az:∀g,nr=some g->((ei U D).put b (.cells [oE nr dR c2].toArray 27 (0,0))) g.block=none):BK h1 b (pre++[x]) aR:=by
 have aB:=xh aM bT;refine⟨nr,dR,c2,af,λo J aL=>?_,gm _ _ (I.bP _ _ _),by grind,λuV e=>?_⟩;exact gm _ _ (by rw[I.cf _ _ (λe=>by grind)];exact aB o J aL);have:=az uV e;by_cases cK:uV.block=b
 grind
 rw[I.cf _ _ cK]at this;exact I.none_le aB this
theorem Mt(l:List Int):∀u∈l.map R,u.oneCell'=true:=by
 intro u h;obtain⟨z,_,rfl⟩:=dn.1 h;rfl
theorem avS{pre xs:List Int}{x:Int}(h:pre++[x]<+:xs)(ad:xs.length<=2048):pre.length<2048:=by
 grind
theorem ad8{h:I}{xs:List Int}(x:bz h bs 1 D n c (xs.map R)):n=xs.length:=by
 have:=x.1
 grind
theorem akC(l:bw)(aw:l.bF<=200000)(A:Option ar)(m cap:Nat)(h:I)(aj:hU h A m l):Fn aH 15 #[.slice A m cap] h λv U=>h.le U/\∃D n c,v= .tuple #[.slice D n c,R (qE l.bn)]/\bz U 3 1 D n c ((uS l.bn).map R)/\∀g,D=some g->h g.block=none:=by
 have eb:=XD l.bn;refine UB.intro (args:=[.slice A m cap]) Tryz.func15 rfl (by decide) Tryz.ntmps15 rfl (arr.low rfl) rfl ?_;refine .done (.mk _ (O' l aw A m cap h aj) ?_);rintro _ h1 ⟨lY,rfl⟩;refine aW (λab=>?_) (λab=>?_);refine .done ⟨lY,none,0,0,rfl,?_,λ_ e=>by cases e⟩;unfold uS;rw[aE ab];exact⟨rfl,.inl ⟨rfl,rfl,rfl⟩⟩;have ab:qE l.bn=0:=NN ab;rw[ab];refine .done (.mk _ (aiK l aw A m cap h1 (aj.mono lY)) ?_);rintro _ an ⟨CK,g,zC,T,rfl,K3,YK,gA⟩;refine .mk [5] ?_;refine .mk λb af=>?_;refine .done (.mk T (uS l.bn) (BK an b) (λ_ _ _=>False) K3 YK rfl (BK.nil af) ?_ ?_ ?_ ?_);rintro pre U ⟨D,n,c,_,aM,_⟩;exact YK _ _ (I.le_trans (I.sub_le _ _) aM) gA;rintro ds pre x U ⟨D,n,c,af,aM,aD,bj,bT⟩ pp;have CL:=ad8 bj;have tM:=avS pp eb;refine .hp _ (abV aD) ?_;refine .abs 3 1 D n c _ bj (.done (.cR 1 _ [R x] rfl rfl (Mt [x]) (by grind [c']) (by omega) λnr c2 P8=>?_));refine .hp b 0 27 [.slice D n c] [.slice nr (n+1) c2] rfl (atC aD bj) rfl ?_;exact .bV 1 3 1 nr (n+1) c2 _ rfl λaR gm hg az=>.done (BK.step af aM bT gm hg az);rintro U ⟨D,n,c,af,aM,aD,bj,bT⟩;refine .hp _ (abV aD) ?_;exact .done ⟨I.le_trans lY (I.le_trans CK aM),D,n,c,rfl,bj,λuV e=>I.none_le (I.le_trans lY CK) (bT uV e)⟩;simp
theorem bz.jr{h:I}{q:List Int}(x:bz h 3 1 D n c (q.map R)):bg h 1 D n (q.map λz=>[R z]):=by
 refine bz.dG (bs:=3) (cap:=c) ?_ (Rg q) (by decide);rw[wd];exact x
structure vR(bs size:Nat)(h U:I)(D:Option ar)(n c:Nat)(xs:List ao):Prop where
 le:h.le U
 row:bz U bs size D n c xs
 rv:∀g,D=some g->h g.block=none
theorem vR.nil(bs size:Nat)(h:I):vR bs size h h none 0 0 []:=⟨I.le_refl h,⟨by simp,.inl ⟨rfl,rfl,rfl⟩⟩,λ_ e=>by cases e⟩
theorem vR.step{bs size:Nat}{h U ab an:I}{D nr:Option ar}{n c dR c2:Nat}{q w:List ao}(x:vR bs size h U D n c q)(c9:U.le ab)(ha:(ei ab D).le an)(am:bz an bs size nr dR c2 (q++w))(az:∀g,nr=some g->ei ab D g.block=none):vR bs size h an nr dR c2 (q++w):=by
 have aO:h.le (ei ab D):=xh (I.le_trans x.le c9) x.rv;exact⟨I.le_trans aO ha,am,λg e=>I.none_le aO (az g e)⟩
abbrev qz:=Int×Nat
def wF(r:qz):List ao:=[R r.1,R r.2]
def xV(l:List qz):List ao:=(l.map wF).flatten
theorem adR(a b:List qz):xV (a++b)=xV a++xV b:=by simp[xV]
def fy:List Int->List qz
 |[]=>[]
 |x::l=>match fy l with
  |(y,k)::r=>if y=x then(x,k+1)::r else(x,1)::(y,k)::r
  |[]=>[(x,1)]
theorem axd:∀l:List Int,(fy l).head?.map (·.1)=l.head?
 |[]=>rfl
 |x::l=>by
  grind [fy]
theorem MY:∀l:List Int,(fy l).length<=l.length
 |[]=>dd _
 |x::l=>by
  have:=MY l;simp only[fy]
  grind
theorem aek(x:Int)(t:List Int)(av:t.head?≠some x):∀k:Nat,fy (bG (k+1) x++t)=(x,k+1)::fy t
 |0=>by
  have:=axd t;show fy (x::t)=_;simp only[fy]
  grind
 |k+1=>by
  rw[GO,wS,fy,aek x t av k];simp
theorem ajV{l:List Int}(ag:i<l.length):l.drop i=l[i]::l.drop (i+1):=List.drop_eq_getElem_cons ag
theorem aej(D:Option ar)(n cap:Nat)(l:List Int)(h:I)(aY:bg h 1 D n (l.map λz=>[R z]))(aC:n<=8796093022207):Fn aH 16 #[.slice D n cap] h λv U=>∃E m c,v= .slice E m c/\m=(fy l).length/\vR 130 2 h U E m c (xV (fy l)):=by
 have al:l.length=n:=by simpa using aY.len
 have ik:=MY l;refine b5 ary rfl ?_;refine .kU [] (Nat×Option ar×Nat×Nat×List qz) [0,3,4] (λ(i,E,m,c,_)=>[.v (.slice D n cap),.v (.slice E m c),.v (R i)]) (λ_=>[]) (λ(i,E,m,c,q) U=>i<=n/\m=q.length/\vR 130 2 h U E m c (xV q)/\q++fy (l.drop i)=fy l) (λ(i,_,_,_,_)=>n-i) (0,none,0,0,[]) (λ_=>rfl) ⟨cO _,rfl,vR.nil 130 2 h,rfl⟩ rfl rfl rfl ?_;rintro⟨i,E,m,c,q⟩ e U ⟨ag,hm,aq,he⟩;refine .done ?_;refine aW (λh1=>?_) (λh1=>?_);have ea:i<l.length:=by omega
 obtain⟨g,ak⟩:=aY.cc (by omega);have at_:∀(U:I)(k:Nat)(hk:k<l.length),h.le U->U.cell? (g.add (k*1))=some (R l[k]):=λU k hk x=>by
  exact(aY.mono x).one ak (iM hk) rfl
 refine .kU [] Nat [0,3,4,5] (λk=>[.v (.slice D n cap),.v (.slice E m c),.v (R i),.v (R k)]) (λ_=>[]) (λk U=>i<=k/\k<=n/\vR 130 2 h U E m c (xV q)/\l.drop i=bG (k-i) l[i]++l.drop k) (λk=>n-k) i (λ_=>rfl) ⟨dd _,ag,aq,by simp⟩ rfl rfl rfl ?_;rintro k e U ⟨HY,i9,aq,aB⟩;refine .done ?_;have fin:l[k]?≠some l[i]->i<k->q++((l[i],k-i)::fy (l.drop k))=fy l:=λbH Zq=>by
  rw[<-he,aB,show k-i=(k-i-1)+1 by omega,aek _ _ (by simp_all)]
 refine aW (λab=>?_) (λab=>?_);have br:k<l.length:=by omega
 refine .mk g ak (by omega) (by omega) ?_;refine .hp _ (by rw[bq];exact at_ U k br aq.le) ?_;refine .mk g ak (by omega) (by omega) ?_;refine .hp _ (by rw[bq];exact at_ U i ea aq.le) ?_;refine aW (λan=>?_) (λan=>?_);refine .ok (by omega) (by omega) ?_;refine .done ⟨k+1,rfl,rfl,⟨by omega,by omega,aq,?_⟩,by omega⟩;rw[aB,ajV br,an,show k+1-i=(k-i)+1 by omega,aCd,mb];rfl;have Zq:i<k:=by
  grind
 have az:=fin (by grind) Zq;refine .mk g ak (by omega) (by omega) ?_;refine .hp _ (by rw[bq];exact at_ U i ea aq.le) ?_;refine .ok (by omega) (by omega) ?_;rw[show(k:Int)- (i:Int)=((k-i:Nat):Int) by omega];have an1:q.length<=n:=by
  grind
 refine .abs 130 2 E m c _ aq.row (.done (.cR 1 _ (wF (l[i],k-i)) rfl rfl (by intro u hu;simp only[wF,dC,th,or_false]at hu;rcases hu with rfl|rfl<;>rfl) (by grind [c']) (by omega) λgC c2 HC=>?_));refine .bV 1 130 2 gC (m+1) c2 _ rfl λaR gm hg ss=>.done ⟨(k,gC,m+1,c2,q++[(l[i],k-i)]),rfl,rfl,⟨i9,by simp[hm],?_,by grind⟩,by grind⟩;rw[adR];exact aq.step (I.le_refl _) gm hg ss;obtain rfl:k=n:=by omega
 have az:=fin (by grind) (by omega);refine .mk g ak (by omega) (by omega) ?_;refine .hp _ (by rw[bq];exact at_ U i ea aq.le) ?_;refine .ok (by omega) (by omega) ?_;rw[show(k:Int)- (i:Int)=((k-i:Nat):Int) by omega];have an1:q.length<=k:=by
  grind
 refine .abs 130 2 E m c _ aq.row (.done (.cR 1 _ (wF (l[i],k-i)) rfl rfl (by intro u hu;simp only[wF,dC,th,or_false]at hu;rcases hu with rfl|rfl<;>rfl) (by grind [c']) (by omega) λgC c2 HC=>?_));refine .bV 1 130 2 gC (m+1) c2 _ rfl λaR gm hg ss=>.done ⟨(k,gC,m+1,c2,q++[(l[i],k-i)]),rfl,rfl,⟨i9,by simp[hm],?_,by grind⟩,by grind⟩;rw[adR];exact aq.step (I.le_refl _) gm hg ss;obtain rfl:i=n:=by omega
 rw[aCc (by omega)]at he;have H9:q=fy l:=by simp[<-he,fy]
 rw[H9]at aq hm;exact .done ⟨E,m,c,rfl,hm,aq⟩
theorem awk(l:List qz):∀r∈l.map wF,r.length=2:=by
 intro r am;obtain⟨a,_,rfl⟩:=dn.1 am;rfl
theorem vR.dG{h U:I}{D:Option ar}{m c:Nat}{q:List qz}(x:vR 130 2 h U D m c (xV q)):bg U 2 D m (q.map wF):=x.row.dG (awk q) (by decide)
theorem aet(A B:Option ar)(n m cx c8:Nat)(a b:List Int)(h:I)(aO:bg h 1 A n (a.map λz=>[R z]))(bW:bg h 1 B m (b.map λz=>[R z]))(aC:n<=9223372036854775806):Fn aH 12 #[.slice A n cx,.slice B m c8] h λr U=>r= .bool (decide (a=b))/\U=h:=by
 have fB:a.length=n:=by simpa using aO.len
 have qN:b.length=m:=by simpa using bW.len
 refine b5 aaP rfl ?_;refine aW (λh1=>?_) (λh1=>?_);refine .done ⟨?_,rfl⟩;rw[gU (λe=>by grind)];rfl;have H3:n=m:=by omega
 subst H3;refine .mk Nat [0,1,5] (λk=>[.v (.slice A n cx),.v (.slice B n c8),.v (R k)]) (λ_=>[]) (λk U=>U=h/\k<=n/\a.take k=b.take k) (λk=>n-k) 0 (λ_=>rfl) ⟨rfl,cO _,by simp⟩ rfl rfl ?_;rintro k e U ⟨rfl,hk,mR⟩;refine aW (λab=>?_) (λab=>?_);have br:k<n:=by omega
 obtain⟨g,ak⟩:=aO.cc (by omega);obtain⟨g2,gV⟩:=bW.cc (by omega);have iD:=TM mR (by omega) (by omega);refine .mk g ak (by omega) (by omega) ?_;refine .hp (R (a[k]'(by omega))) (by rw[bq];exact aO.one ak (r:=[R (a[k]'(by omega))]) (by grind) rfl) ?_;refine .mk g2 gV (by omega) (by omega) ?_;refine .hp (R (b[k]'(by omega))) (by rw[bq];exact bW.one gV (r:=[R (b[k]'(by omega))]) (by grind) rfl) ?_;refine aW (λan=>?_) (λan=>?_);refine .done ⟨?_,rfl⟩;rw[gU (λe=>an (by grind))];rfl;refine .ok (by omega) (by omega) ?_;exact⟨k+1,rfl,rfl,⟨rfl,br,iD.2 (Gu.1 an)⟩,by omega⟩;have:k=n:=by omega
 subst this;refine .done ⟨?_,rfl⟩;rw[k4 (by omega),k4 (by omega)]at mR;rw[fo mR];rfl
theorem bg.at_{h U:I}{rows:List (List ao)}(t:bg h size A n rows)(e:∀g,A=some g->h g.block=U g.block):bg U size A n rows:=by
 refine⟨t.len,t.wid,t.cc,λg ak i r am o v ah=>?_⟩;have:=t.cell g ak i r am o v ah;have he:=e g ak;unfold I.cell? at this⊢;have af:(g.add (i*size+o)).block=g.block:=by unfold Addr.add;grind
 grind
theorem bg.mem{h:I}{g:ar}{l:List Int}(t:bg h 1 (some g) n (l.map λz=>[R z]))(aC:n≠0):h g.block≠none:=by
 have al:l.length=n:=by simpa using t.len
 obtain⟨z,aY⟩:∃z,l[0]?=some z:=⟨_,bZ (by omega)⟩;have:=t.one rfl (i:=0) (r:=[R z]) (by grind) rfl;intro af;have mj:(g.add (0*1)).block=g.block:=by rfl
 unfold I.cell? at this
 grind
theorem ps{h:I}{l:List ao}{ty:Nat}(af:h b=some (.cells l.toArray ty (0,0))){v:ao}(ah:l[o]?=some v):h.cell? ⟨b,o,none⟩=some v:=by
 unfold I.cell?;grind
theorem PN:∀f:cX,nW f->pb f<=fj f
 |.nil,_=>dd _
 |.cons t n b r,⟨h1,ab,an⟩=>by
  have i2:=PN r an;have i1:=PN b ab;have ag:=Rd ab;have aD:1*mU b<=t.toNat*mU b:=pN _ (by omega);rw[TQ];simp only[pb];unfold mU at*
  grind
theorem XZ(g:cX):∀f:cX,hr (f.app g)=hr f++hr g
 |.nil=>rfl
 |.cons t n b r=>by simp only[cX.app,hr,XZ g r,mb]
theorem PM:∀{f:cX},f.leaf=false->1<=pb f
 |.nil,h=>by cases h
 |.cons t n b r,_=>by
  simp only[pb];cases al:b.leaf with
  |true=>simp
  |false=>have:=PM al;grind
abbrev fw:=Int×Int×cX
def cX.dK:cX->List fw
 |.nil=>[]
 |.cons t n b r=>(t,n,b)::r.dK
def fp:List fw->cX
 |[]=>.nil
 |(t,n,b)::l=>.cons t n b (fp l)
theorem Pq:∀l,(fp l).dK=l
 |[]=>rfl
 |(t,n,b)::l=>by simp only[fp,cX.dK,Pq l]
theorem zm:∀f:cX,fp f.dK=f
 |.nil=>rfl
 |.cons t n b r=>by simp only[fp,cX.dK,zm r]
theorem at0{f g:List fw}(h:fp f=fp g):f=g:=by rw[<-Pq f,h,Pq]
theorem W8(g:cX):∀f:cX,(f.app g).dK=f.dK++g.dK
 |.nil=>rfl
 |.cons t n b r=>by simp only[cX.app,cX.dK,W8 g r,wS]
theorem ab9(m:List fw):∀l:List fw,fp (l++m)=(fp l).app (fp m)
 |[]=>rfl
 |(t,n,b)::l=>by simp only[wS,fp,cX.app,ab9 m l]
theorem W9:∀f:cX,f.dK.length=f.len
 |.nil=>rfl
 |.cons t n b r=>by simp only[cX.dK,gI,cX.len,W9 r]
def zO(w:Nat)(l:List fw)(o:Nat):Prop:=(o+1)*w<=l.length/\(l.drop (o*w)).take w=l.take w
instance (w:Nat)(l:List fw)(o:Nat):Decidable (zO w l o):=inferInstanceAs (Decidable (_/\_))
structure r'(w:Nat)(l:List fw)(m:Nat):Prop where
 pos:1<=m
 ok:∀o,1<=o->o<m->zO w l o
 no:¬zO w l m
theorem r'.uniq{l:List fw}(a:r' w l m)(b:r' w l k):m=k:=by
 rcases Nat.lt_trichotomy m k with h|h|h;exact absurd (b.ok m a.pos h) a.no;omega;exact absurd (a.ok k b.pos h) b.no
def MQ(w:Nat)(l:List fw):Nat->Nat->Nat
 |0,m=>m
 |k+1,m=>if zO w l m then MQ w l k (m+1)else m
def d6(w:Nat)(l:List fw):Nat:=MQ w l l.length 1
theorem adX{w:Nat}(hw:1<=w)(l:List fw):∀k m,1<=m->(∀o,1<=o->o<m->zO w l o)->l.length<=k+m->r' w l (MQ w l k m)
 |0,m,h1,ab,an=>⟨h1,ab,λh=>by
  have h:(m+1)*w<=l.length:=h.1;have:m+1<=(m+1)*w:=ahI _ hw;omega⟩
 |k+1,m,h1,ab,an=>by
  unfold MQ;split;rename_i h;refine adX hw l k (m+1) (by omega) (λo tG p1=>?_) (by omega)
  grind
  rename_i h;exact⟨h1,ab,h⟩
theorem Dv(hw:1<=w)(l:List fw):r' w l (d6 w l):=adX hw l _ 1 (dd _) (λo h1 ab=>by omega) (by omega)
theorem r'.room{l:List fw}(r:r' w l m)(h:2<=m):m*w<=l.length:=by
 have:=(r.ok (m-1) (by omega) (by omega)).1
 grind
def Bd(w:Nat):Nat->List fw->List fw
 |0,_=>[]
 |_+1,[]=>[]
 |k+1,x::l=>if d6 w (x::l)=1 then x::Bd w k l else((d6 w (x::l):Int),0,fp ((x::l).take w))::Bd w k ((x::l).drop (d6 w (x::l)*w))
theorem SN{w:Nat}(hw:1<=w):∀k e1(l:List fw),l.length<=k->l.length<=e1->Bd w k l=Bd w e1 l
 |0,0,_,_,_=>rfl
 |0,e1+1,l,h,_=>by
  obtain rfl:l=[]:=ra (by omega);rfl
 |k+1,0,l,_,h=>by
  obtain rfl:l=[]:=ra (by omega);rfl
 |k+1,e1+1,[],_,_=>rfl
 |k+1,e1+1,x::l,h,U=>by
  simp only[Bd];simp only[gI]at h U;split;rw[SN hw k e1 l (by omega) (by omega)];have hp:=(Dv hw (x::l)).pos;have aB:((x::l).drop (d6 w (x::l)*w)).length<=l.length:=by
   have:1<=d6 w (x::l)*w:=ns hp hw
   grind
  rw[SN hw k e1 _ (by omega) (by omega)]
def io(w:Nat)(l:List fw):List fw:=Bd w l.length l
theorem avw(w:Nat):io w []=[]:=rfl
theorem FU{x:fw}{l:List fw}(hw:1<=w)(h:r' w (x::l) 1):io w (x::l)=x::io w l:=by
 unfold io;simp only[gI,Bd];rw[aX ((Dv hw _).uniq h)]
theorem I7{l:List fw}(hw:1<=w)(h:r' w l m)(hm:2<=m):io w l=((m:Int),0,fp (l.take w))::io w (l.drop (m*w)):=by
 have am:=h.room hm;cases l with
 |nil=>
  have:1<=m*w:=ns h.pos hw
  grind
 |cons x l=>
  have e:=(Dv hw _).uniq h;unfold io;simp only[gI,Bd];rw[aE (by omega),e];congr 1;refine SN hw _ _ _ ?_ (dd _);have:1<=m*w:=ns h.pos hw
  grind
def ng(l:List fw):Nat:=(fp l).bF
theorem Es(x:fw)(l:List fw):ng (x::l)=1+x.2.2.bF+ng l:=by
 grind [ng,fp,cX.bF]
theorem Kt(m:List fw):∀l:List fw,ng (l++m)=ng l+ng m
 |[]=>by simp[ng,fp,cX.bF]
 |x::l=>by rw[wS,Es,Es,Kt m l];omega
theorem Wv:∀l:List fw,l.length<=ng l
 |[]=>cO _
 |x::l=>by have:=Wv l;rw[Es,gI];omega
theorem aju(k:Nat)(l:List fw):ng (l.drop k)<=ng l:=by
 have:=Kt (l.drop k) (l.take k);simp_all
theorem Do{w:Nat}(hw:1<=w):∀(N:Nat)(l:List fw),l.length<=N->ng (io w l)<=ng l/\(io w l).length<=l.length
 |N,[],_=>⟨dd _,dd _⟩
 |0,x::l,h=>by simp at h
 |N+1,x::l,h=>by
  simp only[gI]at h;have am:=Dv hw (x::l);by_cases h1:d6 w (x::l)=1;rw[h1]at am;obtain⟨a,b⟩:=Do hw N l (by omega);rw[FU hw am,Es,Es]
  grind
  have ab:2<=d6 w (x::l):=by have:=am.pos;omega
  obtain⟨m,hm⟩:∃m,m=d6 w (x::l):=⟨_,rfl⟩;rw[<-hm]at am ab;have rI:=am.room ab;have QK:2*w<=m*w:=pN w ab;rw[I7 hw am ab,Es];obtain⟨b3,jL⟩:∃b3,b3=x::l:=⟨_,rfl⟩;rw[<-jL]at am rI⊢;have eb:b3.length=l.length+1:=by grind
  obtain⟨a,b⟩:=Do hw N (b3.drop (m*w)) (by grind);have ak:=(am.ok 1 (dd _) (by omega)).2;rw[Nat.one_mul]at ak;have aJ:=Kt (b3.drop w) (b3.take w);rw[BI]at aJ;have aI:=Kt ((b3.drop w).drop w) ((b3.drop w).take w);rw[BI,ak]at aI;have ck:ng (b3.drop (m*w))<=ng ((b3.drop w).drop w):=by
   have:b3.drop (m*w)=((b3.drop w).drop w).drop (m*w-2*w):=by
    rw[JW,JW];grind
   rw[this];exact aju _ _
  have eE:=Wv (b3.take w);rw[sa]at eE;simp only[gI];rw[k1]at b;refine⟨?_,by omega⟩;show 1+ng (b3.take w)+_<=_;omega
def nv:Nat->Nat->List fw->List fw
 |0,_,l=>l
 |k+1,w,l=>if w<=16/\2*w<=l.length then(if(io w l).length<l.length then nv k 1 (io w l)else nv k (w+1) (io w l))else l
def comp(l:List fw):List fw:=nv (20*l.length+20) 1 l
structure dj where
 a':List (Int×Int×Nat)
 ls:List (Nat×Nat)
 aDu:Nat->fw
 kI:Nat->List fw
variable {M N:dj}
structure dj.Ok(N:dj):Prop where
 rN:N.kI 0=[]
 dv:∀k a b,N.ls[k]?=some (a,b)->a<=N.ls.length/\1<=b/\b<=N.a'.length/\N.kI (k+1)=N.kI a++[N.aDu b]
 fn:∀k t n b,N.a'[k]?=some (t,n,b)->b<=N.ls.length/\N.aDu (k+1)=(t,n,fp (N.kI b))
 vd:∀a b,a<=N.ls.length->b<=N.ls.length->N.kI a=N.kI b->a=b
 tA:∀a b,1<=a->1<=b->a<=N.a'.length->b<=N.a'.length->N.aDu a=N.aDu b->a=b
structure dj.Ext(N M:dj):Prop where
 uU:N.a'.length<=M.a'.length
 hY:N.ls.length<=M.ls.length
 B':∀k,k<=N.a'.length->M.aDu k=N.aDu k
 el:∀k,k<=N.ls.length->M.kI k=N.kI k
def dj.gp(N:dj):Nat:=N.a'.length+N.ls.length
theorem dj.Ext.refl(N:dj):N.Ext N:=⟨dd _,dd _,λ_ _=>rfl,λ_ _=>rfl⟩
theorem dj.Ext.trans{K:dj}(x:N.Ext M)(y:M.Ext K):N.Ext K:=⟨hT x.uU y.uU,hT x.hY y.hY,λk hk=>by rw[y.B' k (hT hk x.uU),x.B' k hk],λk hk=>by rw[y.el k (hT hk x.hY),x.el k hk]⟩
def dj.fresh:dj:=⟨[],[],λ_=>(0,0,.nil),λ_=>[]⟩
theorem dj.alw:dj.fresh.Ok:=⟨rfl,λk a b h=>by grind [dj.fresh],λk t n b h=>by grind [dj.fresh],λa b a6 af _=>by grind [dj.fresh],λa b h1 _ ab=>by grind [dj.fresh]⟩
def dj.link(N:dj)(a b:Nat):dj:=⟨N.a',N.ls++[(a,b)],N.aDu,λk=>if k=N.ls.length+1 then N.kI a++[N.aDu b]else N.kI k⟩
def dj.sl(N:dj)(t n:Int)(b:Nat):dj:=⟨N.a'++[(t,n,b)],N.ls,λk=>if k=N.a'.length+1 then(t,n,fp (N.kI b))else N.aDu k,N.kI⟩
theorem dj.abQ(N:dj)(a b:Nat):N.Ext (N.link a b):=⟨dd _,by simp[dj.link],λ_ _=>rfl,λk hk=>by
 grind [dj.link]⟩
theorem dj.XG(N:dj)(t n:Int)(b:Nat):N.Ext (N.sl t n b):=⟨by simp[dj.sl],dd _,λk hk=>by
 grind [dj.sl],λ_ _=>rfl⟩
theorem dj.Ok.akT(J:N.Ok)(hk:k<=N.ls.length)(a6:a<=N.ls.length)(h1:1<=b)(af:b<=N.a'.length)(h:N.kI k=N.kI a++[N.aDu b]):∃i,k=i+1/\N.ls[i]?=some (a,b):=by
 cases k with
 |zero=>simp_all[J.rN]
 |succ i=>
  refine⟨i,rfl,?_⟩;obtain⟨⟨ey,eP⟩,ad⟩:∃x,N.ls[i]?=some x:=⟨_,bZ (by omega)⟩;obtain⟨aM,aD,bj,bT⟩:=J.dv i ey eP ad;rw[bT]at h;obtain⟨aJ,aI⟩:=List.append_inj' h rfl;have Hf:=J.vd ey a aM a6 aJ;injection aI with aI;have cK:=J.tA eP b aD h1 bj af aI
  grind
theorem dj.atq(J:N.Ok)(a6:a<=N.ls.length)(h1:1<=b)(af:b<=N.a'.length)(aC:(a,b)∉N.ls):(N.link a b).Ok:=by
 have bH:∀k,k<=N.ls.length->N.kI k≠N.kI a++[N.aDu b]:=λk hk h=>by
  obtain⟨i,_,ag⟩:=J.akT hk a6 h1 af h
  grind
 have aF:∀k,k<=N.ls.length->(N.link a b).kI k=N.kI k:=(N.abQ a b).el;have yY:(N.link a b).kI (N.ls.length+1)=N.kI a++[N.aDu b]:=by simp[dj.link]
 have eb:(N.link a b).ls.length=N.ls.length+1:=by simp[dj.link]
 refine⟨by rw[aF 0 (cO _)];exact J.rN,λk c d hk=>?_,λk t n c hk=>?_,λc d aw aB h=>?_,J.tA⟩;have br:(N.ls++[(a,b)])[k]?=some (c,d):=hk;rw[JY]at br;split at br;rename_i di;obtain⟨aM,aD,bj,bT⟩:=J.dv k c d br;exact⟨by omega,aD,bj,by rw[aF _ (by omega),aF _ aM];exact bT⟩;rename_i di;have mm:k-N.ls.length=0:=by
  grind
 rw[mm]at br;simp at br;obtain⟨rfl,rfl⟩:=br;obtain rfl:k=N.ls.length:=by omega
 exact⟨by omega,h1,af,by rw[yY,aF _ a6];rfl⟩;obtain⟨aM,aD⟩:=J.fn k t n c hk;exact⟨by omega,by rw[aF _ aM];exact aD⟩;rw[eb]at aw aB;by_cases aJ:c=N.ls.length+1
 grind
 by_cases aI:d=N.ls.length+1
 grind
 rw[aF c (by omega),aF d (by omega)]at h;exact J.vd c d (by omega) (by omega) h
theorem dj.Ok.akS(J:N.Ok)(ai:1<=k)(hk:k<=N.a'.length){n:Int}(af:b<=N.ls.length)(h:N.aDu k=(t,n,fp (N.kI b))):∃i,k=i+1/\N.a'[i]?=some (t,n,b):=by
 cases k with
 |zero=>omega
 |succ i=>
  refine⟨i,rfl,?_⟩;obtain⟨⟨hy,hE,eP⟩,ad⟩:∃x,N.a'[i]?=some x:=⟨_,bZ (by omega)⟩;obtain⟨aM,aD⟩:=J.fn i hy hE eP ad;rw[aD]at h;injection h with aJ aI;injection aI with aI ck;have cK:=J.vd eP b aM af (at0 ck)
  grind
theorem dj.akG(J:N.Ok){n:Int}(af:b<=N.ls.length)(aC:(t,n,b)∉N.a'):(N.sl t n b).Ok:=by
 have bH:∀k,1<=k->k<=N.a'.length->N.aDu k≠(t,n,fp (N.kI b)):=λk ai hk h=>by
  obtain⟨i,_,ag⟩:=J.akS ai hk af h
  grind
 have bm:∀k,k<=N.a'.length->(N.sl t n b).aDu k=N.aDu k:=(N.XG t n b).B';have yY:(N.sl t n b).aDu (N.a'.length+1)=(t,n,fp (N.kI b)):=by simp[dj.sl]
 have eb:(N.sl t n b).a'.length=N.a'.length+1:=by simp[dj.sl]
 refine⟨J.rN,λk c d hk=>?_,λk hy hE c hk=>?_,J.vd,λc d h1 ab aw aB h=>?_⟩;obtain⟨aM,aD,bj,bT⟩:=J.dv k c d hk;exact⟨aM,aD,by omega,by rw[bm d bj];exact bT⟩;have br:(N.a'++[(t,n,b)])[k]?=some (hy,hE,c):=hk;rw[JY]at br;split at br;rename_i di;obtain⟨aM,aD⟩:=J.fn k hy hE c br;exact⟨aM,by rw[bm _ (by omega)];exact aD⟩;rename_i di;have mm:k-N.a'.length=0:=by
  grind
 rw[mm]at br;simp at br;obtain⟨rfl,rfl,rfl⟩:=br;obtain rfl:k=N.a'.length:=by omega
 exact⟨af,yY⟩;rw[eb]at aw aB;by_cases aJ:c=N.a'.length+1
 grind
 by_cases aI:d=N.a'.length+1
 grind
 rw[bm c (by omega),bm d (by omega)]at h;exact J.tA c d h1 ab (by omega) (by omega) h
def Hp(x:Int×Int×Nat):List Int:=[x.1,x.2.1,(x.2.2:Int)]
def IG(x:Nat×Nat):List Int:=[(x.1:Int),(x.2:Int)]
theorem ald{x y:Int×Int×Nat}(h:Hp x=Hp y):x=y:=by
 grind [Hp,yp]
theorem atr{x y:Nat×Nat}(h:IG x=IG y):x=y:=by
 grind [IG,yp]
structure vD{α:Type}(key:α->List Int)(l:List α)(es:List gr):Prop where
 len:es.length=l.length
 at_:∀(i:Nat)(e:gr)(x:α),es[i]?=some e->l[i]?=some x->e.k=key x/\e.v=R ((i+1:Nat):Int)
theorem VJ:∀(es:List gr)(k:List Int),iw es k=none->∀(i:Nat)(e:gr),es[i]?=some e->e.k≠k
 |[],_,_,i,e,h=>by simp at h
 |x::es,k,h,i,e,he=>by
  simp only[iw]at h;split at h
  grind
  rename_i bH;cases i with
  |zero=>grind
  |succ i=>exact VJ es k h i e (by grind)
theorem VK:∀(es:List gr)(k:List Int)(v:ao),iw es k=some v->∃(i:Nat)(e:gr),es[i]?=some e/\e.k=k/\e.v=v
 |[],_,_,h=>by cases h
 |x::es,k,v,h=>by
  simp only[iw]at h;split at h;rename_i he;injection h with h;exact⟨0,x,rfl,he.symm,h⟩;obtain⟨i,e,h1,ab⟩:=VK es k v h;exact⟨i+1,e,by grind,ab⟩
theorem DK:∀(es:List gr)(k:List Int)(v:ao)(c:Nat),iw es k=none->upsert es k v c=es++[⟨k,v,c⟩]
 |[],_,_,_,_=>rfl
 |x::es,k,v,c,h=>by
  simp only[iw]at h;split at h
  grind
  rename_i bH;simp only[upsert,aE bH,DK es k v c h,wS]
theorem vD.none{α:Type}{key:α->List Int}{l:List α}{es:List gr}(s:vD key l es){x:α}(h:iw es (key x)= .none):x∉l:=λad=>by
 obtain⟨i,ag⟩:=List.getElem?_of_mem ad;have di:=(qt.1 ag).1;obtain⟨e,he⟩:∃e,es[i]?=some e:=⟨_,bZ (by grind [s.len])⟩;exact VJ es _ h i e he (s.at_ i e x he ag).1
theorem vD.some{α:Type}{key:α->List Int}(hk:∀x y,key x=key y->x=y){l:List α}{es:List gr}(s:vD key l es){x:α}{v:ao}(h:iw es (key x)= .some v):∃i,l[i]?= .some x/\v=R ((i+1:Nat):Int):=by
 obtain⟨i,e,h1,ab,an⟩:=VK es _ v h;have di:=(qt.1 h1).1;obtain⟨y,aQ⟩:∃y,l[i]?=Option.some y:=⟨_,bZ (by simp_all[<-s.len])⟩;obtain⟨aM,aD⟩:=s.at_ i e y h1 aQ
 grind
theorem vD.add{α:Type}{key:α->List Int}{l:List α}(s:vD key l es)(x:α)(c:Nat):vD key (l++[x]) (es++[⟨key x,R ((es.length:Int)+1),c⟩]):=by
 refine⟨by simp[s.len],λi e y he aQ=>?_⟩;rw[JY]at he aQ;rw[s.len]at he;split at he;rename_i di;rw[aX di]at aQ;exact s.at_ i e y he aQ
 grind
structure h3(h:I)(c6 cd b9:Nat)(N:dj):Prop where
 cell:h c6=some (.cells [.map (some cd),.map (some b9)].toArray 284 (0,0))
 f:∃es b',wV h cd 8 es b'/\vD Hp N.a' es
 l:∃es b',wV h b9 7 es b'/\vD IG N.ls es
 ne:cd≠b9
 ok:N.Ok
theorem h3.aul{h:I}(x:h3 h c6 cd b9 N):c6≠cd:=λe=>by
 obtain⟨es,b',hm,_⟩:=x.f;have h1:=x.cell;rw[e,hm.at_]at h1;cases h1
theorem h3.aum{h:I}(x:h3 h c6 cd b9 N):c6≠b9:=λe=>by
 obtain⟨es,b',hm,_⟩:=x.l;have h1:=x.cell;rw[e,hm.at_]at h1;cases h1
theorem h3.mono{h U:I}(x:h3 h c6 cd b9 N)(l:h.le U):h3 U c6 cd b9 N:=⟨l _ _ x.cell,let⟨es,b',hm,s⟩:=x.f;⟨es,b',⟨l _ _ hm.at_,hm.keys⟩,s⟩,let⟨es,b',hm,s⟩:=x.l;⟨es,b',⟨l _ _ hm.at_,hm.keys⟩,s⟩,x.ne,x.ok⟩
def I.off(h:I)(cd b9:Nat):I:=λo=>if o=cd\/o=b9 then none else h o
variable {H U h:I}
theorem I.xQ(h:I)(cd b9:Nat):(h.off cd b9).le h:=λo J e=>by
 unfold I.off at e;grind
theorem I.FL(h1:o≠cd)(ab:o≠b9):h.off cd b9 o=h o:=by
 unfold I.off;grind
theorem I.auU(J:Obj):(h.put cd J).off cd b9=h.off cd b9:=by
 funext o;unfold I.off;split;rfl;rename_i q;rw[I.cf _ _ (λe=>q (.inl e))]
theorem I.auV(J:Obj):(h.put b9 J).off cd b9=h.off cd b9:=by
 funext o;unfold I.off;split;rfl;rename_i q;rw[I.cf _ _ (λe=>q (.inr e))]
theorem I.IY(x:h.le U):(h.off cd b9).le (U.off cd b9):=λo J e=>by
 unfold I.off at e⊢;split at e
 grind
 rename_i q;rw[aE q];exact x o J e
theorem h3.aiH(x:h3 h c6 cd b9 N)(a6:a<=N.ls.length)(h1:1<=b)(af:b<=N.a'.length){b' ii:Nat}(hm:wV h b9 7 es b')(s:vD IG N.ls es)(aC:iw es [(a:Int),(b:Int)]=none):h3 (h.put b9 (jE 7 (upsert es [(a:Int),(b:Int)] (R ((es.length:Int)+1)) c) ii)) c6 cd b9 (N.link a b):=by
 have sz:(a,b)∉N.ls:=s.none (x:=(a,b)) aC;obtain⟨KI,Kr,oO,s2⟩:=x.f;refine⟨by rw[I.cf _ _ x.aum];exact x.cell,⟨KI,Kr,⟨by rw[I.cf _ _ x.ne];exact oO.at_,oO.keys⟩,s2⟩,⟨_,ii,⟨I.bP _ _ _,λe he=>?_⟩,?_⟩,x.ne,dj.atq x.ok a6 h1 af sz⟩;rw[DK _ _ _ _ aC]at he;rcases ev.1 he with he|he;exact hm.keys e he;rw[fx.1 he];rfl;rw[DK _ _ _ _ aC];exact s.add (a,b) c
theorem h3.aiF(x:h3 h c6 cd b9 N){n:Int}(af:b<=N.ls.length){b' ii:Nat}(hm:wV h cd 8 es b')(s:vD Hp N.a' es)(aC:iw es [t,n,(b:Int)]=none):h3 (h.put cd (jE 8 (upsert es [t,n,(b:Int)] (R ((es.length:Int)+1)) c) ii)) c6 cd b9 (N.sl t n b):=by
 have sz:(t,n,b)∉N.a':=s.none (x:=(t,n,b)) aC;obtain⟨KI,Kr,oO,s2⟩:=x.l;refine⟨by rw[I.cf _ _ x.aul];exact x.cell,⟨_,ii,⟨I.bP _ _ _,λe he=>?_⟩,?_⟩,⟨KI,Kr,⟨by rw[I.cf _ _ (d9 x.ne)];exact oO.at_,oO.keys⟩,s2⟩,x.ne,dj.akG x.ok af sz⟩;rw[DK _ _ _ _ aC]at he;rcases ev.1 he with he|he;exact hm.keys e he;rw[fx.1 he];rfl;rw[DK _ _ _ _ aC];exact s.add (t,n,b) c
theorem abP(aC:h3 h c6 cd b9 N)(a6:a<=N.ls.length)(h1:1<=b)(af:b<=N.a'.length)(ht:N.gp<=4000000000):Fn aH 128 #[hj c6,R a,R b] h λv U=>∃(M:dj)(r:Nat),v=R r/\N.Ext M/\h3 U c6 cd b9 M/\M.kI r=N.kI a++[N.aDu b]/\r<=M.ls.length/\M.gp<=N.gp+1/\U.off cd b9=h.off cd b9:=by
 obtain⟨es,b',hm,s⟩:=aC.l;have eb:=s.len;simp only[dj.gp]at ht;refine b5 ara rfl ?_;refine .hp (.map (some b9)) (ps aC.cell rfl) ?_;refine .mk es b' hm ?_;cases aq:iw es [(a:Int),(b:Int)]with
 |some v=>
  obtain⟨i,ag,rfl⟩:=s.some (λ_ _=>atr) (x:=(a,b)) aq;refine .hp (.map (some b9)) (ps aC.cell rfl) ?_;refine .mk es b' hm ?_;rw[aq];have di:=(qt.1 ag).1;exact .done ⟨N,i+1,rfl,dj.Ext.refl N,aC,(aC.ok.dv i a b ag).2.2.2,di,ahJ _,rfl⟩
 |none=>
  refine .hp (.map (some b9)) (ps aC.cell rfl) ?_;refine .hp (.map (some b9)) (ps aC.cell rfl) ?_;refine .mk 7 es b' hm ?_;refine .ok (by omega) (by omega) ?_;refine .mk es b' hm λii=>?_;have rG:=aC.aiH (ii:=ii) (c:=b') a6 h1 af hm s aq;refine .hp (.map (some b9)) (ps rG.cell rfl) ?_;obtain⟨KI,Kr,oO,s2⟩:=rG.l;refine .mk _ ii ⟨I.bP _ _ _,?_⟩ ?_;intro e he;rw[DK _ _ _ _ aq]at he;rcases ev.1 he with he|he;exact hm.keys e he;rw[fx.1 he];rfl;rw[OT,aX rfl];refine .done ⟨N.link a b,N.ls.length+1,?_,N.abQ a b,rG,?_,?_,?_,I.auV _⟩;rw[<-eb];rfl;simp[dj.link];simp[dj.link]
  grind [dj.link,dj.gp]
theorem XF(aC:h3 h c6 cd b9 N){n:Int}(af:b<=N.ls.length)(ht:N.gp<=4000000000):Fn aH 129 #[hj c6,.agg #[R t,R n,R b]] h λv U=>∃(M:dj)(r:Nat),v=R r/\N.Ext M/\h3 U c6 cd b9 M/\M.aDu r=(t,n,fp (N.kI b))/\1<=r/\r<=M.a'.length/\M.gp<=N.gp+1/\U.off cd b9=h.off cd b9:=by
 obtain⟨es,b',hm,s⟩:=aC.f;have eb:=s.len;simp only[dj.gp]at ht;refine b5 arb rfl ?_;refine .hp (.map (some cd)) (ps aC.cell rfl) ?_;refine .mk es b' hm ?_;cases aq:iw es [t,n,(b:Int)]with
 |some v=>
  obtain⟨i,ag,rfl⟩:=s.some (λ_ _=>ald) (x:=(t,n,b)) aq;refine .hp (.map (some cd)) (ps aC.cell rfl) ?_;refine .mk es b' hm ?_;rw[aq];have di:=(qt.1 ag).1;exact .done ⟨N,i+1,rfl,dj.Ext.refl N,aC,(aC.ok.fn i t n b ag).2,ahP _,di,ahJ _,rfl⟩
 |none=>
  refine .hp (.map (some cd)) (ps aC.cell rfl) ?_;refine .hp (.map (some cd)) (ps aC.cell rfl) ?_;refine .mk 8 es b' hm ?_;refine .ok (by omega) (by omega) ?_;refine .mk es b' hm λii=>?_;have rG:=aC.aiF (ii:=ii) (c:=b') af hm s aq;refine .hp (.map (some cd)) (ps rG.cell rfl) ?_;refine .mk _ ii ⟨I.bP _ _ _,?_⟩ ?_;intro e he;rw[DK _ _ _ _ aq]at he;rcases ev.1 he with he|he;exact hm.keys e he;rw[fx.1 he];rfl;rw[OT,aX rfl];refine .done ⟨N.sl t n b,N.a'.length+1,?_,N.XG t n b,rG,?_,ahP _,?_,?_,I.auU _⟩;rw[<-eb];rfl;simp[dj.sl];simp[dj.sl]
  grind [dj.sl,dj.gp]
theorem abT:∀(K:Nat)(b:bw),b.bF<K->b.bF<=200000->∀(t n:Int)(B:Option ar)(m c:Nat)(h:I)(c6 cd b9:Nat)(N:dj),h3 h c6 cd b9 N->hU (h.off cd b9) B m b->N.gp+2*b.bF+1<=4000000000->Fn aH 126 #[hj c6,.agg (iF t n B m c).toArray] h λv U=>∃(M:dj)(r:Nat),v=R r/\N.Ext M/\h3 U c6 cd b9 M/\M.aDu r=(t,n,b.bn)/\1<=r/\r<=M.a'.length/\M.gp<=N.gp+2*b.bF+1/\U.off cd b9=h.off cd b9
 |0,b,db,_=>absurd db (BO _)
 |K+1,b,db,lU=>by
  intro t n B m c h c6 cd b9 N aC aj ht;have hm:m<=200000:=by have:=aj.1;have:=b.vk;omega
  refine b5 aq9 rfl ?_;refine .kU [0] (Nat×Nat×dj×bw) [0,3,5,9,10,11] (λ(i,k,_,_)=>[.v (hj c6),.p 0 0,.v (R k),.v (.slice B m c),.v (R m),.v (R i)]) (λ_=>[.own ((iF t n B m c).map .v) 199]) (λ(i,k,M,r) U=>h3 U c6 cd b9 M/\N.Ext M/\o9 (h.off cd b9) B m i r/\k<=M.ls.length/\M.kI k++r.bn.dK=b.bn.dK/\M.gp+2*r.bF<=N.gp+2*b.bF/\r.bF<=b.bF/\U.off cd b9=h.off cd b9) (λ(i,_,_,_)=>m-i) (0,0,N,b) (λ_=>rfl) ⟨aC,dj.Ext.refl N,aj.cB,cO _,by simp[aC.ok.rN],dd _,dd _,rfl⟩ rfl rfl rfl ?_;rintro⟨i,k,M,r⟩ e U ⟨kP,cV,av,hk,he,aY,ik,aL⟩;refine .done ?_;refine aW (λab=>?_) (λab=>?_);cases r with
  |nil=>have:=av.fin;omega
  |cons hy hE dS bc bu eP r=>
   obtain⟨g,bW,ag,aw,af,am⟩:=av.open;simp only[bw.bF]at ik aY;simp only[bw.bn,cX.dK]at he;refine .mk g bW (by omega) (by omega) ?_;refine .hp (iF hy hE dS bc bu) rfl (by rw[bq];exactλo v ah=>I.kL (U.xQ cd b9) (by grind)) ?_;refine .done (.mk _ (abT K eP (by omega) (by omega) hy hE dS bc bu U c6 cd b9 M kP (by grind) (by omega)) ?_);rintro _ an ⟨Om,gi,rfl,DU,HE,P',P0,P1,aou,LA⟩;refine .done (.mk _ (abP HE (a:=k) (b:=gi) (hT hk DU.hY) P0 P1 (by omega)) ?_);rintro _ aR ⟨BL,fT,rfl,zN,Cz,Qb,Cu,Ra,CM⟩;refine .ok (by omega) (by omega) ?_;refine .done ⟨(i+1,fT,BL,r),rfl,rfl,⟨Cz,cV.trans (DU.trans zN),am,Cu,?_,by omega,by omega,by grind⟩,by grind⟩;rw[Qb,P',DU.el k hk,<-he,mb];rfl
  cases r with
  |nil=>
   simp only[bw.bn,cX.dK,zR]at he;simp only[bw.bF]at aY;refine .done (.mk _ (XF kP (t:=t) (n:=n) (b:=k) hk (by omega)) ?_);rintro _ aR ⟨BL,fT,rfl,zN,Cz,Qa,P2,Cu,Ra,CM⟩;refine .done ⟨BL,fT,rfl,cV.trans zN,Cz,?_,P2,Cu,by omega,by grind⟩;rw[Qa,he,zm]
  |cons=>obtain⟨g,aO,ag,_⟩:=av.open;omega
def bw.si:Nat->bw->bw
 |0,l=>l
 |_+1,.nil=>.nil
 |k+1,.cons _ _ _ _ _ _ r=>r.si k
variable {l:bw}
def bw.hS:Nat->bw->bw
 |0,_=>.nil
 |_+1,.nil=>.nil
 |k+1,.cons t n B m c b r=>.cons t n B m c b (r.hS k)
theorem KB:∀(k:Nat)(l:bw),(l.si k).bn.dK=l.bn.dK.drop k
 |0,l=>by rfl
 |k+1,.nil=>by rfl
 |k+1,.cons _ _ _ _ _ _ r=>by simp only[bw.si,bw.bn,cX.dK,List.drop_succ_cons,KB k r]
theorem TO:∀(k:Nat)(l:bw),(l.hS k).bn.dK=l.bn.dK.take k
 |0,l=>by rfl
 |k+1,.nil=>by rfl
 |k+1,.cons _ _ _ _ _ _ r=>by simp only[bw.hS,bw.bn,cX.dK,List.take_succ_cons,TO k r]
theorem Cj(l:bw):l.bn.dK.length=l.len:=by rw[W9,bw.X8]
theorem WP(k:Nat)(l:bw):(l.si k).len=l.len-k:=by rw[<-Cj,KB,k1,Cj]
theorem ayz(k:Nat)(l:bw):(l.hS k).len=min k l.len:=by rw[<-Cj,TO,sa,Cj]
theorem OU{h:I}{g:ar}:∀(k:Nat)(l:bw)(i:Nat),pI h g i l->pI h g (i+k) (l.si k)
 |0,_,_,a=>a
 |_+1,.nil,_,_=>trivial
 |k+1,.cons _ _ _ _ _ _ r,i,⟨_,_,_,a⟩=>by rw[show i+(k+1)=i+1+k by omega];exact OU k r (i+1) a
theorem VN{h:I}{g:ar}:∀(k:Nat)(l:bw)(i:Nat),pI h g i l->pI h g i (l.hS k)
 |0,_,_,_=>trivial
 |_+1,.nil,_,_=>trivial
 |k+1,.cons _ _ _ _ _ _ r,i,⟨a,b,c,d⟩=>⟨a,b,c,VN k r (i+1) d⟩
theorem VL{h:I}{g:ar}(i:Nat):∀(l:bw)(o:Nat),pI h g (i+o) l->pI h (g.add (i*3)) o l
 |.nil,_,_=>trivial
 |.cons _ _ _ _ _ _ r,o,⟨a,b,c,d⟩=>⟨λq v ah=>by
  have:=a q v ah;rw[uE,uE,<-Nat.add_assoc,<-Nat.add_mul,<-uE];omega,b,c,VL i r (o+1) d⟩
theorem axo{B:Option ar}(s:hU h A m l)(ag:i+w<=m)(bW:0<w->B=A.map (λa=>a.add (i*3))):hU h B w ((l.si i).hS w):=by
 obtain⟨h1,ab⟩:=s;refine⟨by rw[ayz,WP];omega,?_⟩;by_cases hw:w=0;subst hw;exact .inl rfl;rcases ab with ab|⟨g,ak,a6⟩
 grind [bw.len]
 refine .inr ⟨g.add (i*3),by grind,VN w _ 0 (VL i _ 0 ?_)⟩;have:=OU i l 0 a6
 grind
theorem ayB(s:hU h A m l)(ag:i<=m):o9 h A m i (l.si i):=by
 obtain⟨h1,ab⟩:=s;refine⟨by rw[WP];omega,?_⟩;rcases ab with ab|⟨g,ak,a6⟩;subst ab;cases i<;>exact .inl rfl;have:=OU i l 0 a6
 grind
def jr(bp:List Nat):List Int:=bp.map λ(k:Nat)=>(k:Int)
theorem acK(a b:List Nat):jr (a++b)=jr a++jr b:=by simp[jr]
structure nV(N:dj)(bp:List Nat)(l:List fw):Prop where
 eq:bp.map N.aDu=l
 le:∀k∈bp,1<=k/\k<=N.a'.length
theorem nV.ext{l:List fw}(x:nV N bp l)(e:N.Ext M):nV M bp l:=⟨by rw[<-x.eq];exact List.map_congr_left λk hk=>e.B' k (x.le k hk).2,λk hk=>⟨(x.le k hk).1,hT (x.le k hk).2 e.uU⟩⟩
theorem nV.nil(N:dj):nV N [] []:=⟨rfl,λk hk=>by cases hk⟩
theorem nV.snoc{l:List fw}(x:nV N bp l)(h1:1<=k)(ab:k<=N.a'.length):nV N (bp++[k]) (l++[N.aDu k]):=
 ⟨by simp[x.eq],λo ae=>by
  rcases ev.1 ae with ae|ae;exact x.le o ae
  grind⟩
theorem h3.del(x:h3 h c6 cd b9 N)(y:h3 U c6 cd b9 M)(az:∀g,D=some g->h g.block=none):h3 (ei U D) c6 cd b9 M:=by
 have key:∀o J,h o≠none->U o=some J->ei U D o=some J:=λo J ae e=>by
  cases D with
  |none=>exact e
  |some g=>rw[ei,I.lP _ (λq=>ae (by grind))];exact e
 obtain⟨es,b',hm,s⟩:=y.f;obtain⟨aka,ii,rF,s6⟩:=y.l;obtain⟨_,_,az8,_⟩:=x.f;obtain⟨_,_,az9,_⟩:=x.l;exact⟨key _ _ (by simp[x.cell]) y.cell,⟨es,b',⟨key _ _ (by rw[az8.at_];simp) hm.at_,hm.keys⟩,s⟩,⟨aka,ii,⟨key _ _ (by rw[az9.at_];simp) rF.at_,rF.keys⟩,s6⟩,y.ne,y.ok⟩
theorem St{g:Nat}(e:h g=none):h.off cd b9 g=none:=by
 unfold I.off;grind
theorem Ss(x:(h.off cd b9).le (U.off cd b9))(az:∀g,D=some g->h g.block=none):(h.off cd b9).le ((ei U D).off cd b9):=λo J e=>by
 have h1:=x o J e;unfold I.off at h1⊢;split at h1
 grind
 rename_i aq;rw[aE aq];cases D with
 |none=>exact h1
 |some g=>
  rw[ei,I.lP _ (λq=>?_)];omega;subst q;rw[St (az g rfl)]at e;cases e
theorem auh(aC:h3 h c6 cd b9 N)(aj:hU (h.off cd b9) A m l)(aw:l.bF<=200000)(ht:N.gp+2*l.bF<=4000000000):Fn aH 67 #[hj c6,.slice A m cap] h λv U=>∃(M:dj)(bp:List Nat)(D:Option ar)(c:Nat),v= .agg #[.slice A m cap,.slice D m c]/\N.Ext M/\h3 U c6 cd b9 M/\nV M bp l.bn.dK/\bz U 3 1 D m c ((jr bp).map R)/\(∀g,D=some g->h g.block=none)/\(h.off cd b9).le (U.off cd b9)/\M.gp<=N.gp+2*l.bF:=by
 have hm:m<=200000:=by have:=aj.1;have:=l.vk;omega
 refine b5 asw rfl ?_;refine .kU [0,1] (Nat×Option ar×Nat×dj×List Nat×bw) [0,4,5,10,11,12] (λ(i,_,_,_,_,_)=>[.v (hj c6),.p 0 0,.p 1 0,.v (.slice A m cap),.v (R m),.v (R i)]) (λ(i,D,c,_,_,_)=>[.own [.v (.slice none 0 0),.v (.slice none 0 0)] 203,.own [.v (.slice A m cap),.v (.slice D i c)] 203]) (λ(i,D,c,M,bp,r) U=>h3 U c6 cd b9 M/\N.Ext M/\o9 (h.off cd b9) A m i r/\(∃J,nV M bp J/\J++r.bn.dK=l.bn.dK)/\bz U 3 1 D i c ((jr bp).map R)/\(∀g,D=some g->h g.block=none)/\(h.off cd b9).le (U.off cd b9)/\M.gp+2*r.bF<=N.gp+2*l.bF/\r.bF<=l.bF) (λ(i,_,_,_,_,_)=>m-i) (0,none,0,N,[],l) (λ_=>rfl) ⟨aC,dj.Ext.refl N,aj.cB,⟨[],nV.nil N,rfl⟩,⟨rfl,.inl ⟨rfl,rfl,rfl⟩⟩,(λ_ e=>by cases e),I.le_refl _,dd _,dd _⟩ rfl rfl rfl ?_;rintro⟨i,D,c,M,bp,r⟩ e U ⟨kP,cV,av,⟨J,wt,he⟩,jM,az,CN,aY,ik⟩;refine .abs 3 1 D i c _ jM (.done ?_);have kP:=aC.del kP az;have CN:=Ss CN az;refine aW (λab=>?_) (λab=>?_);cases r with
 |nil=>have:=av.fin;omega
 |cons hy hE dS bc bu eP r=>
  obtain⟨g,aO,ag,sn,af,am⟩:=av.open;simp only[bw.bF]at ik aY;simp only[bw.bn,cX.dK]at he;refine .mk g aO (by omega) (by omega) ?_;refine .hp (iF hy hE dS bc bu) rfl (by rw[bq];exactλo v ah=>I.kL (I.le_trans CN (I.xQ _ cd b9)) (sn o v ah)) ?_;refine .mk _ (abT _ eP (ri _) (by omega) hy hE dS bc bu _ c6 cd b9 M kP (af.mono CN) (by omega)) ?_;rintro _ an ⟨Om,gi,rfl,DU,HE,P',P0,P1,aou,LA⟩;refine .cR 2 _ [R gi] rfl rfl (Mt [(gi:Int)]) (by grind [c']) (by omega) λnr c2 P8=>?_;refine .ok (by omega) (by omega) ?_;refine .bV 2 3 1 nr (i+1) c2 _ rfl λaR gm hg Zd=>.done ⟨(i+1,nr,c2,Om,bp++[gi],r),rfl,rfl,⟨HE.mono gm,cV.trans DU,am,⟨J++[Om.aDu gi],(wt.ext DU).snoc P0 P1,?_⟩,?_,λuV nh=>?_,?_,by omega,by omega⟩,by grind⟩
  grind
  rw[acK,fm];exact hg;have bT:=Zd uV nh;by_cases aJ:uV.block=cd;obtain⟨_,_,QJ,_⟩:=HE.f;rw[aJ,QJ.at_]at bT;cases bT;by_cases aI:uV.block=b9;obtain⟨_,_,QJ,_⟩:=HE.l;rw[aI,QJ.at_]at bT;cases bT;have dz:an.off cd b9 uV.block=none:=St bT;rw[LA]at dz;have:=vi CN dz;rwa[I.FL aJ aI]at this;refine I.le_trans CN ?_;rw[<-LA];exact I.IY gm
 cases r with
 |nil=>
  have:=av.fin;subst this;simp only[bw.bn,cX.dK,zR]at he;simp only[bw.bF]at aY;refine .bV 2 3 1 D i c _ rfl λaR gm hg Zd=>.done ⟨M,bp,D,c,rfl,cV,kP.mono gm,by grind,hg,az,I.le_trans CN (I.IY gm),by omega⟩
 |cons=>obtain⟨g,aO,ag,_⟩:=av.open;omega
theorem Pn{α:Type}{l:List α}(h:a+k<l.length):(l.drop a).take (k+1)=(l.drop a).take k++[l[a+k]]:=by
 rw[kh (by grind),List.getElem_drop]
theorem axl(am:h gK=some (.cells [.slice A m c,.slice D m bu].toArray 203 (0,0)))(av:bg h 1 D m ((jr bp).map λz=>[R z]))(hm:m<=1000000000)(a6:a+w<=m)(af:b+w<=m):Fn aH 127 #[hj gK,R a,R b,R w] h λv U=>v= .bool (decide ((bp.drop a).take w=(bp.drop b).take w))/\U=h:=by
 have al:bp.length=m:=by have:=av.len;grind [jr]
 have oM:∀k(hk:k<m),((jr bp).map λz=>[R z])[k]?=some [R (bp[k]'(by omega):Int)]:=λk hk=>by simp[jr,al,hk]
 refine b5 aq' rfl ?_;refine .mk Nat [0,1,2,10,11] (λk=>[.v (hj gK),.v (R a),.v (R b),.v (R w),.v (R k)]) (λ_=>[]) (λk U=>U=h/\k<=w/\(bp.drop a).take k=(bp.drop b).take k) (λk=>w-k) 0 (λ_=>rfl) ⟨rfl,cO _,rfl⟩ rfl rfl ?_;rintro k e U ⟨rfl,hk,mR⟩;refine aW (λab=>?_) (λab=>?_);obtain⟨g,ak⟩:=av.cc (by omega);have aJ:=Pn (l:=bp) (a:=a) (k:=k) (by omega);have aI:=Pn (l:=bp) (a:=b) (k:=k) (by omega);refine .hp (.slice D m bu) (ps am rfl) ?_;refine .ok (by omega) (by omega) ?_;refine .mk g ak (by omega) (by omega) ?_;refine .hp (R (bp[a+k]'(by omega):Int)) (by rw[show((a:Int)+k).toNat=a+k by omega];exact av.one ak (oM (a+k) (by omega)) rfl) ?_;refine .hp (.slice D m bu) (ps am rfl) ?_;refine .ok (by omega) (by omega) ?_;refine .mk g ak (by omega) (by omega) ?_;refine .hp (R (bp[b+k]'(by omega):Int)) (by rw[show((b:Int)+k).toNat=b+k by omega];exact av.one ak (oM (b+k) (by omega)) rfl) ?_;refine aW (λan=>?_) (λan=>?_);refine .done ⟨?_,rfl⟩;rw[gU];rfl;intro q;apply an;have aD:=ho (λl=>l.take (k+1)) q;simp only[List.take_take,show min (k+1) w=k+1 by omega]at aD;simp_all;refine .ok (by omega) (by omega) ?_;refine⟨k+1,rfl,rfl,⟨rfl,by omega,?_⟩,by omega⟩
 grind
 obtain rfl:k=w:=by omega
 refine .done ⟨?_,rfl⟩;rw[fo mR];rfl
theorem ab3{α β:Type}{f:α->β}:∀{l r:List α},(∀x∈l,∀y∈r,f x=f y->x=y)->l.map f=r.map f->l=r
 |[],[],_,_=>rfl
 |[],_::_,_,h=>by cases h
 |_::_,[],_,h=>by cases h
 |x::l,y::r,az,h=>by
  simp only[eO,yp]at h;rw[az x (iU ..) y (iU ..) h.1,ab3 (λa a6 b af=>az a (iv _ a6) b (iv _ af)) h.2]
theorem nV.alL(J:N.Ok){es:List fw}(x:nV N bp es)(a b w:Nat):((bp.drop a).take w=(bp.drop b).take w)↔((es.drop a).take w=(es.drop b).take w):=by
 rw[<-x.eq,<-GK,<-GK,<-GM,<-GM];refine⟨λh=>by rw[h],λh=>ab3 (λp hp q aq=>?_) h⟩;have h1:=x.le p (Oc (Od hp));have ab:=x.le q (Oc (Od aq));exact J.tA p q h1.1 ab.1 h1.2 ab.2
theorem alv(h:I):Fn aH 66 #[] h λv U=>∃c6 cd b9,v=hj c6/\h3 U c6 cd b9 dj.fresh/\h.le U/\h c6=none/\h cd=none/\h b9=none/\h.le (U.off cd b9):=by
 refine b5 asv rfl ?_;refine .mk λbL eS=>?_;refine .mk λcy fC=>?_;refine .mk λgE pg=>?_;have bH:bL≠cy:=λe=>by rw[<-e,I.bP]at fC;cases fC
 obtain⟨hZ,YW⟩:gE≠cy/\h gE=none/\gE≠bL:=by
  by_cases e:gE=cy;rw[e,I.bP]at pg;cases pg;rw[I.cf _ _ e]at pg;by_cases bl:gE=bL;rw[bl,I.bP]at pg;cases pg;rw[I.cf _ _ bl]at pg;grind
 have YV:h cy=none:=by rwa[I.cf _ _ (d9 bH)]at fC
 have dc:h.le (h.put bL (.map #[] 0)):=I.du eS;have c9:=I.le_trans dc (I.du (J:=.map #[] 0) fC);have ha:=I.le_trans c9 (I.du (J:=.cells [.map (some bL),.map (some cy)].toArray 284 (0,0)) pg);refine .done ⟨gE,bL,cy,rfl,⟨I.bP _ _ _,⟨[],0,⟨?_,λx ad=>by cases ad⟩,⟨rfl,λi e x he=>by grind⟩⟩,⟨[],0,⟨?_,λx ad=>by cases ad⟩,⟨rfl,λi e x he=>by grind⟩⟩,bH,dj.alw⟩,ha,YW.1,eS,YV,λo J e=>?_⟩;rw[I.cf _ _ (d9 YW.2),I.cf _ _ bH,I.bP];rfl;rw[I.cf _ _ (d9 hZ),I.bP];rfl;rw[I.FL (λq=>by grind) (λq=>by grind)];exact ha o J e
structure vE(H:I)(gK:Nat)(A D:Option ar)(m c bu:Nat)(l:bw)(bp:List Nat):Prop where
 cell:H gK=some (.cells [.slice A m c,.slice D m bu].toArray 203 (0,0))
 sat:hU H A m l
 dG:bg H 1 D m ((jr bp).map λz=>[R z])
 cx:m<=c
 Kn:m<=bu
 le:m<=200000
theorem vE.mono{H lH:I}{gK:Nat}{A D:Option ar}{m c bu:Nat}{l:bw}{bp:List Nat}(x:vE H gK A D m c bu l bp)(y:H.le lH):vE lH gK A D m c bu l bp:=⟨y _ _ x.cell,x.sat.mono y,x.dG.mono y,x.cx,x.Kn,x.le⟩
theorem vE.len{H:I}{gK:Nat}{A D:Option ar}{m c bu:Nat}{l:bw}{bp:List Nat}(x:vE H gK A D m c bu l bp):bp.length=m/\l.bn.dK.length=m:=by
 refine⟨?_,?_⟩;have:=x.dG.len;grind [jr];rw[Cj];exact x.sat.1.symm
theorem vE.num(x:vE H gK A D m c bu l bp)(ag:i<m):((jr bp).map λz=>[R z])[i]?=some [R ((bp[i]'(by grind [x.len.1]):Nat):Int)]:=by
 have:=x.len.1;simp[jr,this,ag]
noncomputable def LU:IR:=(IR.seq (IR.seq (IR.ch aqt) (IR.cond (dB.t 41) (IR.seq (IR.xP aqu) (IR.seq (IR.xP aqm) (IR.seq (IR.ch aqn) (IR.exit 1)))) IR.skip)) (IR.seq (IR.ch aqo) (IR.seq (IR.seq (IR.ch aqp) (IR.block 4 (IR.loop aql))) (IR.seq (IR.xP aqq) (IR.seq (IR.xP aqr) (IR.ch aqs))))))
abbrev wR(gK:Nat)(E:Option ar)(o cM:Nat)(G:Option ar)(gc:Nat)(s4 rg:List ao):List LE:=[.bV gK,.own [.v (.slice none 0 0),.v (.slice none 0 0)] 203,.own [.v (.slice E o cM),.v (.slice G o gc)] 203,.row 199 3 E o cM s4,.row 3 1 G o gc rg]
theorem ax3(gT:IR)(Q:dL)(e:bY)(x:vE H gK A D m c bu l bp)(ok:N.Ok)(wt:nV N bp l.bn.dK)(hw:1<=w)(C1:w<=16)(ag:i<m)(E:Option ar)(o cM:Nat)(G:Option ar)(gc:Nat)(s4 rg:List ao)(he:[0,2,4,6,7,8].map e=[.v (hj c6),.v (R w),.p 0 0,.p 1 0,.p 2 0,.v (R i)])(cD:∀e k,r' w (l.bn.dK.drop i) k->k<=m->[0,2,4,6,7,8,9].map e=[.v (hj c6),.v (R w),.p 0 0,.p 1 0,.p 2 0,.v (R i),.v (R k)]->c7 aH 111 gT Q e (wR gK E o cM G gc s4 rg) H):c7 aH 111 (.seq (.ch Rn) (.seq (.block 2 (.loop Rm)) gT)) Q e (wR gK E o cM G gc s4 rg) H:=by
 have ec:=fr [0,2,4,6,7,8] e;rw[he]at ec;rw[<-ec];have y2:=x.le;obtain⟨CL,n9⟩:=x.len;refine .mk Nat [0,2,4,6,7,8,9] (λk=>[.v (hj c6),.v (R w),.p 0 0,.p 1 0,.p 2 0,.v (R i),.v (R k)]) (λ_=>wR gK E o cM G gc s4 rg) (λk U=>U=H/\1<=k/\k<=m/\∀q,1<=q->q<k->zO w (l.bn.dK.drop i) q) (λk=>m-k) 1 (λ_=>rfl) ⟨rfl,dd _,by omega,λq h1 ab=>by omega⟩ rfl rfl ?_;rintro k e U ⟨rfl,HY,p2,ak⟩;have eS:(k+1)*w<=200001*16:=ns (by omega) C1;have fC:k*w<=200001*16:=ns (by omega) C1;have aJ:((k:Int)+1)*w=(((k+1)*w:Nat):Int):=by rfl
 have aI:(k:Int)*w=((k*w:Nat):Int):=by rfl
 have tJ:k<=k*w:=ahI k hw;have xv:(k+1)*w=k*w+w:=BQ k w;refine .ok (by omega) (by omega) ?_;refine .ok (by omega) (by omega) ?_;refine .ok (by omega) (by omega) ?_;refine .hp (.slice A m c) (ps x.cell rfl) ?_;refine aW (λu=>?_) (λu=>?_);have rI:i+(k+1)*w<=m:=by omega
 have aj:=axl (w:=w) x.cell x.dG (by omega) (a:=i) (b:=i+k*w) (by omega) (by omega);have Zl:zO w (l.bn.dK.drop i) k↔(bp.drop i).take w=(bp.drop (i+k*w)).take w:=by
  rw[wt.alL ok];unfold zO;rw[k1,JW]
  grind
 refine .ok (by omega) (by omega) ?_;refine .ok (by omega) (by omega) ?_;rw[aI,<-Int.natCast_add];refine .done (.mk _ aj ?_);rintro _ _ ⟨rfl,rfl⟩;refine aW (λv=>?_) (λv=>?_);refine .ok (by omega) (by omega) ?_;refine⟨k+1,rfl,rfl,⟨rfl,by omega,by omega,λq h1 ab=>?_⟩,by omega⟩
 grind
 exact cD _ k ⟨HY,ak,λh=>v (Zl.1 h)⟩ p2 rfl;refine cD _ k ⟨HY,ak,λh=>?_⟩ p2 rfl;have:=h.1
 grind
theorem stepT(Q:dL)(e:bY){Gz:I}(x:vE Gz gK A D m c bu l bp)(hH:Gz.le (H.off cd b9))(kP:h3 H c6 cd b9 M)(wt:nV M bp l.bn.dK)(hw:1<=w)(C1:w<=16)(ag:i<m)(hk:r' w (l.bn.dK.drop i) k)(p2:k<=m)(ht:M.gp+20<=4000000000)(E:Option ar)(o cM:Nat)(G:Option ar)(gc:Nat)(s4 rg:List ao)(ae:o<=200000)(he:[0,2,4,6,7,8,9].map e=[.v (hj c6),.v (R w),.p 0 0,.p 1 0,.p 2 0,.v (R i),.v (R k)])
 (Qe:k=1->∀bl gC mg o4 pY X t n B bc c8 b r,l.si i= .cons t n B bc c8 b r->hU Gz B bc b->[0,2,4,6,7,8].map bl=[.v (hj c6),.v (R w),.p 0 0,.p 1 0,.p 2 0,.v (R ((i+1:Nat):Int))]->
  Q (.exit 1) bl (wR gK gC (o+1) mg o4 pY (s4++iF t n B bc c8) (rg++[R ((bp[i]'(by grind [x.len.1]):Nat):Int)])++X) H)
 (Qf:2<=k->∀bl gC mg o4 pY X B c8 mI r lH,hU Gz B w ((l.si i).hS w)->M.Ext mI->h3 lH c6 cd b9 mI->lH.off cd b9=H.off cd b9->mI.aDu r=((k:Int),0,fp ((l.bn.dK.drop i).take w))->1<=r->r<=mI.a'.length->mI.gp<=M.gp+w+1->
  [0,2,4,6,7,8].map bl=[.v (hj c6),.v (R w),.p 0 0,.p 1 0,.p 2 0,.v (R ((i+k*w:Nat):Int))]->
  Q .normal bl (wR gK gC (o+1) mg o4 pY (s4++iF k 0 B w c8) (rg++[R (r:Int)])++X) lH):
 c7 aH 111 LU Q e (wR gK E o cM G gc s4 rg) H:=by
 have ec:=fr [0,2,4,6,7,8,9] e
 rw[he]at ec
 rw[<-ec]
 have y2:=x.le
 obtain⟨CL,n9⟩:=x.len
 have x8:=x.mono (I.le_trans hH (I.xQ _ _ _))
 obtain⟨g,ak⟩:=x8.dG.cc (by omega)
 have av:=ayB x.sat (Nat.le_of_lt ag)
 refine aW (λu=>?_) (λu=>?_)
 have HY:k=1:=by omega
 cases am:l.si i with
 |nil=>
  rw[am]at av;have:=av.fin;omega
 |cons t n B bc c8 b r=>
  rw[am]at av;obtain⟨ez,aO,_,sn,af,_⟩:=av.open;have sn:∀q v,(iF t n B bc c8)[q]?=some v->H.cell? ((ez.add (i*3)).add q)=some v:=λq v ah=>I.kL (I.le_trans hH (I.xQ _ _ _)) (sn q v ah);refine .hp (.slice A m c) (ps x8.cell rfl) ?_;refine .mk ez aO (by omega) (by omega) ?_;refine .hp (iF t n B bc c8) rfl (by rw[bq];exact sn) ?_;refine .cR 3 _ (iF t n B bc c8) rfl rfl (Iy _ _ _ _ _) (by grind [c']) (by omega) λgC mg HC=>?_;refine .hp (.slice D m bu) (ps x8.cell rfl) ?_;refine .mk g ak (by omega) (by omega) ?_;refine .hp (R ((bp[i]'(by omega):Nat):Int)) (by rw[bq];exact x8.dG.one ak (x.num ag) rfl) ?_;refine .cR 4 _ [R ((bp[i]'(by omega):Nat):Int)] rfl rfl (Mt [((bp[i]'(by omega):Nat):Int)]) (by grind [c']) (by omega) λo4 pY qK=>?_;refine .ok (by omega) (by omega) ?_;exact Qe HY _ gC mg o4 pY _ t n B bc c8 b r am af rfl
 have i9:2<=k:=by have:=hk.pos;omega
 have rI:=hk.room i9
 rw[k1]at rI
 have ant:1*w<=k*w:=pN w (by omega)
 have fC:k*w<=200001*16:=ns (by omega) C1
 have aAK:(k:Int)*w=((k*w:Nat):Int):=by rfl
 have Y4:=x.Kn
 have Y1:=x.cx
 refine .hp (.slice D m bu) (ps x8.cell rfl) ?_
 refine .ok (by omega) (by omega) ?_
 refine .mk i (i+w) rfl (by rfl) (ahG _ _) (by omega) λB n7 pe=>?_
 have TH:bg H 1 B w ((((jr bp).map λz=>[R z]).drop i).take w):=(x8.dG.drop (k:=i) (B:=B) (λq=>n7 (by omega)) (by omega)).take (by omega)
 have alY:∀q(aq:q<w),((((jr bp).map λz=>[R z]).drop i).take w)[q]?=some [R ((bp[i+q]'(by omega):Nat):Int)]:=λq aq=>by
  rw[List.getElem?_take,aX aq,GF];exact x.num (by omega)
 obtain⟨W,lT⟩:∃W,W=i+w-i:=⟨_,rfl⟩
 have amg:W=w:=by omega
 rw[<-lT]
 refine .mk (Nat×Nat×dj) [0,2,4,6,7,8,9,10,70,71,72] (λ(q,b,_)=>[.v (hj c6),.v (R w),.p 0 0,.p 1 0,.p 2 0,.v (R i),.v (R k),.v (R b),.v (.slice B W (bu-i)),.v (R W),.v (R q)]) (λ_=>wR gK E o cM G gc s4 rg) (λ(q,b,mI) lH=>h3 lH c6 cd b9 mI/\lH.off cd b9=H.off cd b9/\M.Ext mI/\b<=mI.ls.length/\q<=w/\mI.kI b=(l.bn.dK.drop i).take q/\mI.gp<=M.gp+q) (λ(q,_,_)=>W-q) (0,0,M) (λ(_,_,_)=>rfl) ⟨kP,rfl,dj.Ext.refl M,cO _,cO _,by simp[kP.ok.rN],dd _⟩ rfl rfl ?_
 rintro⟨q,b,mI⟩ e lH ⟨YB,QO,cV,af,aq,aF,aY⟩
 have Cw:Gz.le lH:=I.le_trans (by grind) (I.xQ lH cd b9)
 have af7:=x.mono Cw
 refine aW (λv=>?_) (λv=>?_)
 have LD:q<w:=by omega
 obtain⟨alC,Zg⟩:=TH.cc (by omega)
 have aym:bg lH 1 B w ((((jr bp).map λz=>[R z]).drop i).take w):=(af7.dG.drop (k:=i) (B:=B) (λq=>n7 (by omega)) (by omega)).take (by omega)
 have lX:=(wt.ext cV).le (bp[i+q]'(by omega)) (cS _)
 refine .mk alC Zg (by omega) (by omega) ?_
 refine .hp (R ((bp[i+q]'(by omega):Nat):Int)) (by rw[bq];exact aym.one Zg (alY q LD) rfl) ?_
 refine .done (.mk _ (abP YB (a:=b) (b:=bp[i+q]'(by omega)) af lX.1 lX.2 (by omega)) ?_)
 rintro _ aR ⟨BL,fT,rfl,zN,Cz,Qb,Cu,Ra,CM⟩
 refine .ok (by omega) (by omega) ?_
 refine⟨(q+1,fT,BL),rfl,rfl,⟨Cz,by grind,cV.trans zN,Cu,LD,?_,by omega⟩,by grind⟩
 rw[Qb,aF,Pn (by omega)]
 congr 2
 have KE:=(wt.ext cV).eq
 grind
 have LD:q=w:=by omega
 subst LD
 have aY:=aY
 refine .hp (.slice A m c) (ps af7.cell rfl) ?_
 refine .ok (by omega) (by omega) ?_
 refine .mk i (i+q) rfl (by rfl) (ahG _ _) (by omega) λhz alW aAS=>?_
 rw[<-lT,amg]
 refine .cR 3 _ (iF k 0 hz q (c-i)) rfl rfl (Iy _ _ _ _ _) (by grind [c']) (by omega) λgC mg HC=>?_
 refine .mk _ (XF YB (t:=(k:Int)) (n:=0) (b:=b) af (by omega)) ?_
 rintro _ aR ⟨BL,fT,rfl,zN,Cz,Qa,P2,Cu,Ra,CM⟩
 refine .cR 4 _ [R (fT:Int)] rfl rfl (Mt [(fT:Int)]) (by grind [c']) (by omega) λo4 pY qK=>?_
 refine .ok (by omega) (by omega) ?_
 refine .ok (by omega) (by omega) ?_
 exact Qf i9 _ gC mg o4 pY _ hz (c-i) BL fT aR (axo x.sat (by omega) λ_=>alW (by omega)) (cV.trans zN) Cz (by grind) (by grind) P2 Cu (by omega) rfl
theorem ax1(gT:IR)(Q:dL)(e:bY)(x:vE H gK A D m c bu l bp)(E:Option ar)(o cM:Nat)(G:Option ar)(gc:Nat)(s4 rg:List ao)(he:[0,2,4,6,7,8].map e=[.v (hj c6),.v (R w),.p 0 0,.p 1 0,.p 2 0,.v (R i)])(h1:i<m->∀e,[0,2,4,6,7,8].map e=[.v (hj c6),.v (R w),.p 0 0,.p 1 0,.p 2 0,.v (R i)]->c7 aH 111 gT Q e (wR gK E o cM G gc s4 rg) H)(ab:m<=i->∀e,[0,2,4,6,7,8].map e=[.v (hj c6),.v (R w),.p 0 0,.p 1 0,.p 2 0,.v (R i)]->Q (.exit 0) e (wR gK E o cM G gc s4 rg) H):c7 aH 111 (.seq (.seq (.ch aaK) (.cond (.t 17) .skip (.exit 0))) gT) Q e (wR gK E o cM G gc s4 rg) H:=by
 have ec:=fr [0,2,4,6,7,8] e;rw[he]at ec;rw[<-ec];refine .hp (.slice A m c) (ps x.cell rfl) ?_;refine aW (λu=>?_) (λu=>?_);exact h1 (by omega) _ rfl;exact ab (by omega) _ rfl
theorem bz.off{h:I}{cd b9 bs size n cap:Nat}{A:Option ar}{xs:List ao}(x:bz h bs size A n cap xs)(az:∀g,A=some g->g.block≠cd/\g.block≠b9):bz (h.off cd b9) bs size A n cap xs:=by
 obtain⟨h1,ab⟩:=x;refine⟨h1,ab.imp id λ⟨g,a8,aJ,aI,ck⟩=>⟨g,a8,aJ,?_,ck⟩⟩;obtain⟨aM,aD⟩:=az _ aJ;rw[I.FL aM aD];exact aI
theorem bg.Mw{rows:List (List ao)}(x:bg h size A n rows)(az:∀g,A=some g->g.block≠cd/\g.block≠b9):bg (h.off cd b9) size A n rows:=x.at_ λg e=>by obtain⟨aM,aD⟩:=az g e;rw[I.FL aM aD]
theorem h3.LN(x:h3 h c6 cd b9 N):h c6≠none/\h cd≠none/\h b9≠none:=by
 obtain⟨_,_,az,_⟩:=x.f;obtain⟨_,_,al,_⟩:=x.l;exact⟨by simp[x.cell],by rw[az.at_];simp,by rw[al.at_];simp⟩
theorem h3.cR{h1:I}(x:h3 H c6 cd b9 M)(y:(h1.off cd b9).le (H.off cd b9)){g:Nat}(e:H g=none):h1 g=none:=by
 obtain⟨_,aM,aD⟩:=x.LN;have dF:g≠cd:=λq=>aM (by grind);have dR:g≠b9:=λq=>aD (by grind);have:=vi y (St e);rwa[I.FL dF dR]at this
theorem bw.axI(t n:Int)(B:Option ar)(m c:Nat)(b p:bw):(p.snoc t n B m c b).bn.dK=p.bn.dK++[(t,n,b.bn)]:=by
 have:=bw.M8 t n B m c b .nil p;rw[cX.Kh]at this;rw[this,W8];rfl
theorem bw.aeR{K:tc}{h:I}(t n:Int)(B:Option ar)(m c:Nat)(b:bw)(af:K h B m c b):∀{p:bw},r7 K h p->r7 K h (p.snoc t n B m c b)
 |.nil,_=>⟨af,trivial⟩
 |.cons _ _ _ _ _ _ _,⟨x,y⟩=>⟨x,bw.aeR t n B m c b af y⟩
structure UD(h h1:I)(c6 cd b9:Nat)(N:dj)(es:List fw)(m w:Nat)(U:I)(i:Nat)(E:Option ar)(cM:Nat)(G:Option ar)(gc o:Nat)(p:bw)(bp:List Nat)(M:dj):Prop where
 dD:h3 U c6 cd b9 M
 ext:N.Ext M
 aaa:i<=m
 out:p.bn.dK++io w (es.drop i)=io w es
 len:p.len=o
 aa6:o<=i
 awO:bz U 199 3 E o cM p.cl.flatten
 awP:bz U 3 1 G o gc ((jr bp).map R)
 num:nV M bp p.bn.dK
 El:r7 qA (h1.off cd b9) p
 qG:∀g,E=some g->h1 g.block=none
 PD:∀g,G=some g->h1 g.block=none
 yI:∀g b7,E=some g->G=some b7->g.block≠b7.block
 off:(h1.off cd b9).le (U.off cd b9)
 gp:M.gp<=N.gp+i
theorem MS(x:bz h bs size A n cap xs):n<=cap:=by
 rcases x.2 with⟨_,q,_⟩|⟨_,_,_,_,q,_⟩<;>omega
structure agR(h:I)(c6 cd b9:Nat)(N:dj)(J:List fw)(B:Nat)(U:I)(M:dj)(E:Option ar)(o cM:Nat)(G:Option ar)(gc:Nat)(p:bw)(bp:List Nat):Prop where
 dD:h3 U c6 cd b9 M
 ext:N.Ext M
 dK:p.bn.dK=J
 sat:hU (U.off cd b9) E o p
 ce:o<=cM
 dG:bg (U.off cd b9) 1 G o ((jr bp).map λz=>[R z])
 Wm:o<=gc
 num:nV M bp J
 off:(h.off cd b9).le (U.off cd b9)
 gp:M.gp<=N.gp+B
theorem alj(aC:h3 h c6 cd b9 N)(aj:hU (h.off cd b9) A m l)(Y1:m<=c)(av:bg (h.off cd b9) 1 D m ((jr bp).map λz=>[R z]))(Y4:m<=bu)(wt:nV N bp l.bn.dK)(aw:l.bF<=200000)(hw:1<=w)(C1:w<=16)(ht:N.gp+m+20<=4000000000):Fn aH 68 #[hj c6,.agg #[.slice A m c,.slice D m bu],R w] h λv U=>∃M E o cM G gc p pv,v= .agg #[.slice E o cM,.slice G o gc]/\agR h c6 cd b9 N (io w l.bn.dK) m U M E o cM G gc p pv:=by
 have hm:m<=200000:=by have:=aj.1;have:=l.vk;omega
 refine b5 sJ rfl ?_;refine .SU [.p 0 0] ?_;refine .mk λgK y9=>?_;obtain⟨h1,E4⟩:∃h1,h1=h.put gK (.cells [.slice A m c,.slice D m bu].toArray 203 (0,0)):=⟨_,rfl⟩;have lY:h.le h1:=by rw[E4];exact I.du y9
 have AL:=aC.mono lY;obtain⟨_,i2,i3⟩:=aC.LN;have QN:=I.IY (cd:=cd) (b9:=b9) lY;have h2:vE (h1.off cd b9) gK A D m c bu l bp:=⟨by
  rw[I.FL (λq=>i2 (by grind)) (λq=>i3 (by grind)),E4];exact I.bP _ _ _,aj.mono QN,av.mono QN,Y1,Y4,hm⟩
 have n9:=h2.len.2;refine .kU [0,1,2] (Nat×Option ar×Nat×Option ar×Nat×Nat×bw×List Nat×dj) [0,2,4,6,7,8] (λ(i,_,_,_,_,_,_,_,_)=>[.v (hj c6),.v (R w),.p 0 0,.p 1 0,.p 2 0,.v (R i)]) (λ(_,E,cM,G,gc,o,_,_,_)=>[.bV gK,.own [.v (.slice none 0 0),.v (.slice none 0 0)] 203,.own [.v (.slice E o cM),.v (.slice G o gc)] 203]) (λ(i,E,cM,G,gc,o,p,pv,M) U=>UD h h1 c6 cd b9 N l.bn.dK m w U i E cM G gc o p pv M) (λ(i,_,_,_,_,_,_,_,_)=>m-i) (0,none,0,none,0,0,.nil,[],N) (λ_=>rfl) ⟨by grind,dj.Ext.refl N,cO _,rfl,rfl,dd _,⟨rfl,.inl ⟨rfl,rfl,rfl⟩⟩,⟨rfl,.inl ⟨rfl,rfl,rfl⟩⟩,nV.nil N,trivial,(λ_ e=>by cases e),(λ_ e=>by cases e),(λ_ _ e=>by cases e),by rw[E4];exact I.le_refl _,dd _⟩ rfl rfl rfl ?_;rintro⟨i,E,cM,G,gc,o,p,pv,M⟩ e U S;have rG:=AL.del S.dD S.qG;have H1:=AL.del rG S.PD;have H4:=Ss (Ss S.off S.qG) S.PD;have x8:=h2.mono (I.le_trans H4 (I.xQ _ _ _));refine .abs 199 3 E o cM _ S.awO (.abs 3 1 G o gc _ (S.awP.del λg b7 a b q=>S.yI b7 g b a q.symm) (.done ?_));obtain⟨eC,anc⟩:∃eC,eC=ei (ei U E) G:=⟨_,rfl⟩;rw[<-anc]at H1 H4 x8⊢;have fin:∀{lH:I}{mI:dj}{sG:Nat}{gC:Option ar}{mg:Nat}{o4:Option ar}{pY:Nat}{t n:Int}{B:Option ar}{dM c8:Nat}{b:bw}{r:Nat},h3 lH c6 cd b9 mI->M.Ext mI->lH.off cd b9=eC.off cd b9->i<sG->sG<=m->io w (l.bn.dK.drop i)=(t,n,b.bn)::io w (l.bn.dK.drop sG)->hU (h1.off cd b9) B dM b->mI.aDu r=(t,n,b.bn)->1<=r->r<=mI.a'.length->mI.gp+i<=M.gp+sG->∀{aR cg:I},lH.le aR->bz aR 199 3 gC (o+1) mg (p.cl.flatten++iF t n B dM c8)->(∀g,gC=some g->lH g.block=none)->aR.le cg->bz cg 3 1 o4 (o+1) pY ((jr pv).map R++[R (r:Int)])->(∀g,o4=some g->aR g.block=none)->UD h h1 c6 cd b9 N l.bn.dK m w cg sG gC mg o4 pY (o+1) (p.snoc t n B dM c8 b) (pv++[r]) mI:=by
  intro lH mI sG gC mg o4 pY t n B dM c8 b r cP a2 a3 a4 a5 OP Vm aiv a9 aiu aAz aR cg gm jG f4 l1 ua f5;have QM:(h1.off cd b9).le (lH.off cd b9):=by grind
  have yT:=bw.axI t n B dM c8 b p;have s1:=S.gp;have s2:=S.aa6;refine⟨cP.mono (I.le_trans gm l1),S.ext.trans a2,a5,?_,by rw[bw.Ty,S.len],by omega,?_,?_,?_,bw.aeR _ _ _ _ _ _ Vm S.El,λg e=>cP.cR QM (f4 g e),λg e=>cP.cR QM (I.none_le gm (f5 g e)),λg b7 aJ aI q=>?_,I.le_trans QM (I.IY (I.le_trans gm l1)),by omega⟩;simp[yT,<-S.out,OP];rw[bw.Tx,zS,ahg];exact jG.mono l1;rw[acK,fm];exact ua;rw[yT,<-aiv];exact(S.num.ext a2).snoc a9 aiu;exact jG.mem aJ (by grind)
 show c7 aH 111 (.seq (.seq (.ch aaK) (.cond (.t 17) .skip (.exit 0))) (.block 1 (.seq (.ch Rn) (.seq (.block 2 (.loop Rm)) LU)))) _ _ _ _;refine ax1 _ _ _ x8 E o cM G gc _ _ rfl (λag e he=>?_) (λag e he=>?_);have Lz:=wt.ext S.ext;show c7 aH 111 (.seq (.ch Rn) (.seq (.block 2 (.loop Rm)) LU)) _ _ _ _;refine ax3 LU _ _ x8 H1.ok Lz hw C1 ag E o cM G gc _ _ he (λe k hk p2 he=>?_);have s1:=S.gp;have s2:=S.aa6;have hN:=S.aaa;have di:i<l.bn.dK.length:=by omega
 refine stepT _ _ h2 H4 H1 Lz hw C1 ag hk p2 (by omega) E o cM G gc _ _ (by omega) he ?_ ?_;rintro rfl bl gC mg o4 pY X t n B dM c8 b r HQ af tE;have aB:l.bn.dK.drop i=(t,n,b.bn)::l.bn.dK.drop (i+1):=by
  have aM:=KB i l;rw[HQ]at aM;have aD:l.bn.dK.drop (i+1)=(l.bn.dK.drop i).drop 1:=by simp
  rw[aD,<-aM];rfl
 have lX:=Lz.le (bp[i]'(by grind [h2.len.1])) (cS _);have al4:M.aDu (bp[i]'(by grind))=(t,n,b.bn):=by
  have aM:(l.bn.dK.drop i)[0]?=some (t,n,b.bn):=by grind
  rw[GF,<-Lz.eq,dV,bZ (by grind)]at aM
  grind
 refine .bV 3 199 3 gC (o+1) mg _ rfl λaR gm jG f4=>.bV 4 3 1 o4 (o+1) pY _ rfl λcg l1 ua f5=>.done ⟨(i+1,gC,mg,o4,pY,o+1,p.snoc t n B dM c8 b,pv++[bp[i]'(by grind)],M),tE,rfl,?_,by grind⟩;refine fin H1 (dj.Ext.refl M) rfl (ri i) ag ?_ af al4 lX.1 lX.2 (by omega) gm jG f4 l1 ua f5;rw[aB]at hk⊢;exact FU hw hk;intro i9 bl gC mg o4 pY X B c8 mI r lH bW cP a2 a3 a4 a5 OP Vm tE;have rI:=hk.room i9;rw[k1]at rI;have ant:2*w<=k*w:=pN w i9;have ZD:fp ((l.bn.dK.drop i).take w)=((l.si i).hS w).bn:=by
  rw[<-KB,<-TO,zm]
 refine .bV 3 199 3 gC (o+1) mg _ rfl λaR gm jG f4=>.bV 4 3 1 o4 (o+1) pY _ rfl λcg l1 ua f5=>.done ⟨(i+k*w,gC,mg,o4,pY,o+1,p.snoc k 0 B w c8 ((l.si i).hS w),pv++[r],mI),tE,rfl,?_,by grind⟩;refine fin a2 cP a3 (by omega) (by omega) ?_ bW (by grind) a5 OP (by omega) gm jG f4 l1 ua f5;rw[I7 hw hk i9,ZD,JW];have E5:i=m:=by have:=S.aaa;omega
 subst E5;have ec:=fr [0,2,4,6,7,8] e;rw[he]at ec;rw[<-ec];refine .bV 3 199 3 E o cM _ rfl λaR gm jG f4=>.bV 4 3 1 G o gc _ rfl λcg l1 ua f5=>.done ?_;have ZL:=I.le_trans H4 (I.IY (cd:=cd) (b9:=b9) (I.le_trans gm l1));have CQ:=S.out;rw[aCc (by omega),avw,zR]at CQ;obtain⟨_,AY,Rs⟩:=AL.LN;have acu:∀{E:Option ar},(∀g,E=some g->h1 g.block=none)->∀g,E=some g->g.block≠cd/\g.block≠b9:=λf g e=>⟨λq=>AY (by grind),λq=>Rs (by grind)⟩;refine⟨M,E,o,cM,G,gc,p,pv,rfl,H1.mono (I.le_trans gm l1),S.ext,CQ,?_,MS jG,(bz.jr ua).Mw (acu S.PD),MS ua,by rw[<-CQ];exact S.num,I.le_trans QN ZL,S.gp⟩;have:=bg.sat (l:=p) (A:=E) (n:=o) (bz.dG ((jG.mono l1).off (acu S.qG)) p.Er (by decide)) (S.El.mono qA.mono ZL);omega
theorem adj{α:Type}:∀(cR r S:List α),r.length=cR.length->over (cR++S) 0 r=some (r++S)
 |[],[],S,_=>by cases S<;>rfl
 |[],_::_,_,h=>by simp at h
 |_::_,[],_,h=>by simp at h
 |J::cR,y::r,S,h=>by
  simp only[wS,over,adj cR r S (by grind)]
theorem SD{α:Type}(cR r S:List α)(h:r.length=cR.length):∀(P:List α),over (P++(cR++S)) P.length r=some (P++(r++S))
 |[]=>adj cR r S h
 |x::P=>by
  simp only[wS,gI,over,SD cR r S h P]
def BZ(X:I):bw->Prop
 |.nil=>True
 |.cons _ _ B m c b r=>∃vX nu:I,vX.le X/\nu.le X/\(∀o,vX o≠none->nu o=none)/\(m=b.len/\(b= .nil\/∃bW,bz vX 199 3 B m c b.cl.flatten/\(∀g,B=some g->bW g.block=none)/\bW.le vX/\BZ bW b))/\BZ nu r
structure vT(X:I)(A:Option ar)(m c:Nat)(l:bw):Prop where
 len:m=l.len
 ex:∃bW,bz X 199 3 A m c l.cl.flatten/\(∀g,A=some g->bW g.block=none)/\bW.le X/\BZ bW l
theorem bz.less{aN:List ao}(x:bz h bs size A (n+k) cap (xs++aN))(al:xs.length=n*size):A≠none->bz h bs size A n cap xs:=by
 intro aO;obtain⟨h1,ab⟩:=x;rcases ab with⟨ab,_⟩|⟨g,a8,aM,aD,bj,bT,dz,j6⟩
 grind
 refine⟨al,.inr ⟨g,a8,aM,aD,by omega,bT,dz,?_⟩⟩;have:a8.toList.take (n*size)=(a8.toList.take ((n+k)*size)).take (n*size):=by
  grind
 grind
theorem TU:∀(l:bw)(X:I),BZ X l->r7 qA X l
 |.nil,_,_=>trivial
 |.cons _ _ B m _ b r,X,⟨vX,nu,cP,a2,_,⟨hm,af⟩,am⟩=>⟨by
  rcases af with af|⟨bW,aM,aD,bj,bT⟩;exact⟨hm,.inl af⟩;have:=bg.sat (l:=b) (A:=B) (n:=m) (bz.dG aM b.Er (by decide)) ((TU b bW bT).mono qA.mono bj);exact hU.mono cP this,(TU r nu am).mono qA.mono a2⟩
def Eh:tc:=λX B m c b=>m=b.len/\(b= .nil\/∃bW,bz X 199 3 B m c b.cl.flatten/\(∀g,B=some g->bW g.block=none)/\bW.le X/\BZ bW b)
theorem afC:∀(l:bw)(X:I),BZ X l↔yc Eh X l
 |.nil,_=>Iff.rfl
 |.cons _ _ _ _ _ _ r,X=>by
  simp only[BZ,yc,Eh,afC r]
theorem vT.azw{X:I}(s:vT X A m c l):Eh X A m c l:=⟨s.len,.inr s.ex⟩
theorem vT.sat{X:I}{A:Option ar}{m c:Nat}{l:bw}(s:vT X A m c l):hU X A m l:=by
 obtain⟨bW,aM,_,bj,bT⟩:=s.ex;exact bg.sat (l:=l) (A:=A) (n:=m) (bz.dG aM l.Er (by decide)) ((TU l bW bT).mono qA.mono bj)
theorem vT.mono{X Y:I}{A:Option ar}{m c:Nat}{l:bw}(x:X.le Y)(s:vT X A m c l):vT Y A m c l:=⟨s.len,let⟨bW,a,b,c,d⟩:=s.ex;⟨bW,a.mono x,b,I.le_trans c x,d⟩⟩
theorem avq{bW:I}{p:bw}(x:uk Eh h U bW A n c p):vT (U.sub h) A n c p:=⟨x.len.symm,bW,ad' x.row λg e=>(x.rv g e).1,λg e=>(x.rv g e).2,I.De x.gF x.out,(afC p bW).2 x.El⟩
theorem SH:∀(N:Nat)(l:bw),l.bF<N->l.bF<=200000->∀(A:Option ar)(m cap:Nat)(h:I),hU h A m l->Fn aH 69 #[.slice A m cap] h λv U=>h.le U/\∃bA bu b3,v= .slice bA m bu/\vT (U.sub h) bA m bu b3/\b3.bn=l.bn
 |0,l,db,_=>absurd db (BO _)
 |N+1,l,db,lU=>by
  intro A m cap h aj;have hm:m<=200000:=by have:=aj.1;have:=l.vk;omega
  refine b5 asx rfl ?_;refine .kU [] (Nat×Option ar×Nat×bw×bw) [3,6,7,8] (λ(i,D,c,_,_)=>[.v (.slice D i c),.v (.slice A m cap),.v (R m),.v (R i)]) (λ_=>[]) (λ(i,D,c,p,r) U=>∃bW,uk Eh h U bW D i c p/\o9 h A m i r/\r.bF<=l.bF/\p.bn.app r.bn=l.bn) (λ(i,_,_,_,_)=>m-i) (0,none,0,.nil,l) (λ_=>rfl) ⟨_,uk.nil Eh h,aj.cB,dd _,rfl⟩ rfl rfl rfl ?_;rintro⟨i,D,c,p,r⟩ e U ⟨bW,ts,av,ik,he⟩;refine .done ?_;refine aW (λab=>?_) (λab=>?_);cases r with
  |nil=>have:=av.fin;omega
  |cons t w B bc hQ b r=>
   obtain⟨g,aO,ag,aw,af,am⟩:=av.open;simp only[bw.bF]at ik;refine .mk g aO (by omega) (by omega) ?_;refine .hp (iF t w B bc hQ) rfl (by rw[bq];exactλo v ah=>I.kL ts.le (aw o v ah)) ?_;refine .done (.mk _ (SH N b (by omega) (by omega) B bc hQ U (af.mono ts.le)) ?_);rintro _ ab ⟨c9,dS,c2,eP,rfl,k8,Qs⟩;refine .abs 199 3 D i c _ (ts.row.mono c9) (.done (.cR 2 _ (iF t w dS bc c2) rfl rfl (Iy _ _ _ _ _) (by grind [c']) (by omega) λnr eI P8=>?_));refine .ok (by omega) (by omega) ?_;refine .bV 2 199 3 nr (i+1) eI _ rfl λan ha hg az=>.done ⟨(i+1,nr,eI,p.snoc t w dS bc c2 eP,r),rfl,rfl,⟨_,ts.step c9 t w k8.azw ha hg az,am,by omega,?_⟩,by grind⟩;rw[bw.M8,Qs];exact he
  cases r with
  |nil=>
   have:=av.fin;subst this;refine .done ⟨ts.le,D,c,p,rfl,avq ts,?_⟩;rw[<-he];exact(cX.Kh _).symm
  |cons=>obtain⟨g,aO,ag,_⟩:=av.open;omega
def vF:cX->Prop
 |.nil=>True
 |.cons t n b r=>1<=t/\(b.leaf=true->0<=n/\n<32)/\(b.leaf=false->n=0)/\vF b/\vF r
theorem vF.pos:∀{f:cX},vF f->nW f
 |.nil,_=>trivial
 |.cons _ _ _ _,⟨a,_,_,b,c⟩=>⟨a,b.pos,c.pos⟩
theorem Hn:∀(f:cX)(d k:Nat),vF f->k+pb f<=2048->d+mM f<=16->hW f d k=(0,k+pb f)
 |.nil,_,_,_,_,_=>rfl
 |.cons t n b r,d,k,⟨h1,ab,an,aR,cg⟩,hk,aB=>by
  simp only[pb,mM]at hk aB⊢;cases al:b.leaf with
  |true=>
   rw[al]at hk aB;simp only[lv]at hk aB⊢;have e:∀gK,js t n true d k gK=(0,k+1):=λgK=>by
    unfold js
    grind
   simp only[hW,al,e];rw[aX trivial,Hn r d (k+1) cg (by omega) (by omega)]
   grind
  |false=>
   rw[al]at hk aB;simp only[pR]at hk aB⊢;have af:=PM (f:=b) al;have e:js t n false d k (hW b (d+1) k)=(0,k+pb b):=by
    unfold js;rw[aE (by omega),aE (by omega),aE (by omega),aE (by simp),aE (by grind),Hn b (d+1) k aR (by omega) (by omega)]
   simp only[hW,al,e];rw[aX trivial,Hn r d _ cg (by omega) (by omega)]
   grind
theorem Hm:∀(f:cX)(d k:Nat),vF f->k+pb f<=2048->d<=16->16<d+mM f->(hW f d k).1=161
 |.nil,_,_,_,_,h,ab=>by grind [mM]
 |.cons t n b r,d,k,⟨h1,ab,an,aR,cg⟩,hk,aB,uY=>by
  simp only[pb,mM]at hk uY⊢;cases al:b.leaf with
  |true=>
   rw[al]at hk uY;simp only[lv]at hk uY;have e:∀gK,js t n true d k gK=(0,k+1):=λgK=>by
    unfold js
    grind
   simp only[hW,al,e];rw[aX trivial];exact Hm r d (k+1) cg (by omega) aB (by omega)
  |false=>
   rw[al]at hk uY;simp only[pR]at hk uY;have af:=PM (f:=b) al;by_cases alQ:16<=d;have e:js t n false d k (hW b (d+1) k)=(161,k):=by
    unfold js
    grind
   simp[hW,al,e];by_cases aA5:d+1+mM b<=16;have e:js t n false d k (hW b (d+1) k)=(0,k+pb b):=by
    unfold js;rw[aE (by omega),aE (by omega),aE (by omega),aE (by simp),aE (by grind),Hn b (d+1) k aR (by omega) (by omega)]
   simp only[hW,al,e];rw[aX trivial];exact Hm r d _ cg (by omega) aB (by omega);have ds:=Hm b (d+1) k aR (by omega) (by omega) (by omega);have e:js t n false d k (hW b (d+1) k)=hW b (d+1) k:=by
    unfold js
    grind
   simp[hW,al,e,ds]
theorem ajl{f:cX}(h:vF f)(av:fj f<=2048):qE f=if mM f<=16 then 0 else 161:=by
 have az:=PN f h.pos;unfold qE;split;rename_i h1;split;rename_i aB;rw[Hn f 0 0 h (by omega) (by omega)]at h1;omega;rename_i aB;exact Hm f 0 0 h (by omega) (by omega) (by omega);rename_i h1;rw[aE (by omega)];split;rfl;rename_i aB;rw[Hm f 0 0 h (by omega) (by omega) (by omega)]at h1;omega
def BE(x:fw):Prop:=1<=x.1/\(x.2.2.leaf=true->0<=x.2.1/\x.2.1<32)/\(x.2.2.leaf=false->x.2.1=0)/\vF x.2.2
theorem PX:∀l:List fw,vF (fp l)↔∀x∈l,BE x
 |[]=>⟨(λ_ x h=>by cases h),λ_=>trivial⟩
 |(t,n,b)::l=>by
  simp only[fp,vF,PX l,dC,forall_eq_or_imp,BE]
  grind
theorem at1(l:List fw):(fp l).leaf=decide (l=[]):=by
 cases l with
 |nil=>rfl
 |cons x l=>rfl
theorem KT(a b:List fw):hr (fp (a++b))=hr (fp a)++hr (fp b):=by rw[ab9,XZ]
theorem ad2{α:Type}(w:List α):∀k,w++rep k w=rep k w++w
 |0=>by simp[rep]
 |k+1=>by simp only[rep];rw[mb,<-ad2 w k]
theorem r'.uU{w:Nat}{l:List fw}{m:Nat}(r:r' w l m):∀o,o<=m->hr (fp (l.take (o*w)))=rep o (hr (fp (l.take w)))
 |0,_=>by simp[fp,hr,rep]
 |o+1,ae=>by
  have bE:=r.uU o (by omega);have aj:l.take ((o+1)*w)=l.take (o*w)++(l.drop (o*w)).take w:=by
   rw[BQ,List.take_add]
  rw[aj,KT,bE];simp only[rep];rw[ad2];congr 2;by_cases ai:o=0;simp_all;rw[(r.ok o (by omega) (by omega)).2]
theorem SO{w:Nat}(hw:1<=w):∀(N:Nat)(l:List fw),l.length<=N->hr (fp (io w l))=hr (fp l)/\((∀x∈l,BE x)->∀x∈io w l,BE x)
 |N,[],_=>⟨rfl,λh=>h⟩
 |0,x::l,h=>by simp at h
 |N+1,x::l,h=>by
  simp only[gI]at h;have am:=Dv hw (x::l);by_cases h1:d6 w (x::l)=1;rw[h1]at am;obtain⟨a,b⟩:=SO hw N l (by omega);rw[FU hw am];refine⟨?_,λak y aQ=>?_⟩;have aJ:=KT [x] (io w l);have aI:=KT [x] l
  grind
  grind
  have ab:2<=d6 w (x::l):=by have:=am.pos;omega
  obtain⟨m,hm⟩:∃m,m=d6 w (x::l):=⟨_,rfl⟩;rw[<-hm]at am ab;have rI:=am.room ab;have QK:2*w<=m*w:=pN w ab;rw[I7 hw am ab];obtain⟨b3,jL⟩:∃b3,b3=x::l:=⟨_,rfl⟩;rw[<-jL]at am rI⊢;have eb:b3.length=l.length+1:=by grind
  obtain⟨a,b⟩:=SO hw N (b3.drop (m*w)) (by grind);have bH:b3.take w≠[]:=by
   intro q;simp_all
  have nE:(fp (b3.take w)).leaf=false:=by rw[at1,gU bH]
  refine⟨?_,λak y aQ=>?_⟩;have aI:hr (fp b3)=hr (fp (b3.take (m*w)))++hr (fp (b3.drop (m*w))):=by
   simp[<-KT]
  rw[aI,<-a,am.uU m (dd _)];simp[fp,hr,nE];rcases dC.1 aQ with rfl|aQ;refine⟨by omega,(λq=>by simp),(λ_=>rfl),(PX _).2 λz aY=>ak z (Od aY)⟩
  grind
theorem TX(h:I):vT h none 0 0 .nil:=⟨rfl,λ_=>none,⟨rfl,.inl ⟨rfl,rfl,rfl⟩⟩,(λ_ e=>by cases e),(λ_ _ e=>by cases e),trivial⟩
theorem I.ae5{hk:I}(x:h.le hk):(U.sub hk).le (U.sub h):=I.De (I.sub_le _ _) λ_ ae=>I.none_le x (I.Gb ae)
theorem Mb(p:bw):p.bF=ng p.bn.dK:=by unfold ng;rw[zm,bw.Hq]
theorem avv(hw:1<=w){p:bw}(h:p.bn.dK=io w l.bn.dK):p.bF<=l.bF:=by
 rw[Mb,Mb,h];exact(Do hw _ _ (dd _)).1
def oS:List qz->bw
 |[]=>.nil
 |r::l=>.cons (r.2:Int) r.1 none 0 0 .nil (oS l)
def mw(l:List qz):List fw:=l.map λr=>((r.2:Int),r.1,cX.nil)
theorem RT:∀l:List qz,(oS l).bn.dK=mw l
 |[]=>rfl
 |r::l=>by simp only[oS,bw.bn,cX.dK,RT l];rfl
theorem RS:∀l:List qz,(oS l).bF=l.length
 |[]=>rfl
 |_::l=>by simp only[oS,bw.bF,RS l,gI];omega
theorem abI(h:I):∀l:List qz,r7 qA h (oS l)
 |[]=>trivial
 |_::l=>⟨⟨rfl,.inl rfl⟩,abI h l⟩
theorem abJ(r:qz):∀l:List qz,(oS (l++[r])).cl=(oS l).cl++[iF (r.2:Int) r.1 none 0 0]
 |[]=>rfl
 |x::l=>by simp only[wS,oS,bw.cl,abJ r l]
theorem MZ{P:Int->Prop}:∀l:List Int,(∀r∈fy l,P r.1)↔(∀x∈l,P x)
 |[]=>by simp[fy]
 |x::l=>by
  have bE:=MZ (P:=P) l;simp only[fy];split;rename_i y k r am;rw[am]at bE;simp only[dC,forall_eq_or_imp]at bE⊢;rw[<-bE];split;rename_i e;subst e;simp;simp;simp_all
def uH(x:Int):Prop:=x<0\/32<=x
instance (x:Int):Decidable (uH x):=inferInstanceAs (Decidable (_\/_))
def pQ(l:List Int):Int×List fw:=if 2048<l.length then(2,[])else if∃x∈l,uH x then(100,[])else(0,comp (mw (fy l)))
theorem agt{l ax:List fw}(hw:1<=w)(hk:20*l.length+17<k+w)(cG:nv k w l=ax)(aw:w<=16/\2*w<=l.length):∃e1,k=e1+1/\((io w l).length<l.length->nv e1 1 (io w l)=ax/\20*(io w l).length+17<e1+1)/\(¬(io w l).length<l.length->nv e1 (w+1) (io w l)=ax/\20*(io w l).length+17<e1+(w+1)):=by
 cases k with
 |zero=>omega
 |succ e1=>
  have hp:=(Do hw _ l (dd _)).2
  grind [nv]
theorem Up{l ax:List fw}(cG:nv k w l=ax)(aw:¬(w<=16/\2*w<=l.length)):l=ax:=by
 cases k with
 |zero=>exact cG
 |succ e1=>grind [nv]
structure ags(ab:I)(c6 cd b9:Nat)(ax:List fw)(U:I)(A:Option ar)(m c:Nat)(D:Option ar)(yB:Nat)(l:bw)(bp:List Nat)(M:dj)(w k:Nat):Prop where
 dD:h3 U c6 cd b9 M
 sat:hU (U.off cd b9) A m l
 cx:m<=c
 dG:bg (U.off cd b9) 1 D m ((jr bp).map λz=>[R z])
 Kn:m<=yB
 num:nV M bp l.bn.dK
 bF:l.bF<=2048
 cF:1<=w
 dw:w<=17
 jA:20*l.bn.dK.length+17<k+w
 eq:nv k w l.bn.dK=ax
 le:ab.le (U.off cd b9)
 gp:M.gp+2048*k<=100000000
theorem ajA(l:List Int)(D:Option ar)(n cap:Nat)(h:I)(aY:bg h 1 D n (l.map λz=>[R z])):Fn aH 25 #[.slice D n cap] h λv U=>h.le U/\∃bA bc bu b3,v= .tuple #[.slice bA bc bu,R (pQ l).1]/\vT (U.sub h) bA bc bu b3/\b3.bn.dK=(pQ l).2:=by
 have al:l.length=n:=by simpa using aY.len
 refine b5 ar4 rfl ?_;refine aW (λu=>?_) (λu=>?_);have cG:pQ l=(2,[]):=by unfold pQ;grind
 refine .done ⟨I.le_refl h,none,0,0,.nil,?_,TX _,?_⟩;rw[cG];rfl;rw[cG];rfl;have aC:n<=2048:=by omega
 refine .done (.mk _ (aej D n cap l h aY (by omega)) ?_);rintro _ h1 ⟨r9,m1,c1,rfl,mS,Jl⟩;have ik:=MY l;have qk:=Jl.dG;refine .kU [] (Nat×Option ar×Nat) [4,15,16,17] (λ(i,E,cM)=>[.v (.slice E i cM),.v (.slice r9 m1 c1),.v (R m1),.v (R i)]) (λ_=>[]) (λ(i,E,cM) U=>h1.le U/\i<=m1/\bz U 199 3 E i cM (oS ((fy l).take i)).cl.flatten/\(∀g,E=some g->h1 g.block=none)/\∀r∈(fy l).take i,¬uH r.1) (λ(i,_,_)=>m1-i) (0,none,0) (λ_=>rfl) ⟨I.le_refl _,cO _,⟨rfl,.inl ⟨rfl,rfl,rfl⟩⟩,(λ_ e=>by cases e),(λr am=>by grind)⟩ rfl rfl rfl ?_;rintro⟨i,E,cM⟩ e U ⟨cu,E5,jM,az,dk⟩;have eC:=xh cu az;refine .abs 199 3 E i cM _ jM (.done ?_);refine aW (λo0=>?_) (λo0=>?_);have ag:i<(fy l).length:=by omega
 obtain⟨r,am⟩:∃r,r=(fy l)[i]:=⟨_,rfl⟩;have oM:((fy l).map wF)[i]?=some (wF r):=by grind
 have afs:=qk.mono eC;obtain⟨g,ak⟩:=afs.cc (by omega);have bad:uH r.1->pQ l=(100,[]):=λq=>by
  unfold pQ;rw[aE (by omega),aX];refine zM λu4=>?_;have:=(MZ (P:=λx=>¬uH x) l).2 λx ad af=>u4 ⟨x,ad,af⟩
  grind
 refine .mk g ak (by omega) (by omega) ?_;refine .hp (wF r) rfl (by rw[bq];exact afs.row ak oM) ?_;refine aW (λhI=>?_) (λhI=>?_);refine .done ⟨I.le_trans Jl.le eC,none,0,0,.nil,?_,TX _,?_⟩;rw[bad (.inl hI)];rfl;rw[bad (.inl hI)];rfl;refine aW (λue=>?_) (λue=>?_);refine .done ⟨I.le_trans Jl.le eC,none,0,0,.nil,?_,TX _,?_⟩;rw[bad (.inr ue)];rfl;rw[bad (.inr ue)];rfl;refine .done (.cR 0 _ (iF (r.2:Int) r.1 none 0 0) rfl rfl (Iy _ _ _ _ _) (by grind [c']) (by omega) λgC mg HC=>?_);refine .ok (by omega) (by omega) ?_;have Fe:(fy l).take (i+1)=(fy l).take i++[r]:=by simp_all
 refine .bV 0 199 3 gC (i+1) mg _ rfl λaR gm jG f4=>.done ⟨(i+1,gC,mg),rfl,rfl,⟨I.le_trans eC gm,by omega,?_,λg e=>I.none_le eC (f4 g e),λq aq=>?_⟩,by grind⟩;rw[Fe,abJ,zS,ahg];exact jG;rw[Fe]at aq;rcases ev.1 aq with aq|aq
 grind
 rw[fx.1 aq];intro q;rcases q with q|q;omega;omega;have Lr:i=(fy l).length:=by omega
 rw[Lr,pM]at jM dk;have cG:pQ l=(0,comp (mw (fy l))):=by
  unfold pQ;rw[aE (by omega),aE];rintro⟨x,ad,af⟩;exact(MZ (P:=λx=>¬uH x) l).1 dk x ad af
 refine .bV 0 199 3 E i cM _ rfl λab c9 rY f2=>.done (.mk _ (alv ab) ?_);rw[Lr,pM]at rY;have L0:h1.le ab:=I.le_trans eC c9;have iK:hU ab E i (oS (fy l)):=by
  have:=bg.sat (l:=oS (fy l)) (A:=E) (n:=i) (by rw[Lr];exact bz.dG rY (oS (fy l)).Er (by decide)) (abI ab _);omega
 have anj:i<=cM:=by rw[Lr];exact MS rY
 rintro _ an ⟨c6,cd,b9,rfl,hZ,ha,_,_,_,l4⟩;have tD:(oS (fy l)).bF<=2048:=by rw[RS];omega
 have hN:=iK.mono l4;refine .done (.mk _ (auh (cap:=cM) hZ hN (by omega) (by grind [dj.gp,dj.fresh])) ?_);rintro _ aR ⟨M,bp,G,ai8,rfl,zN,xN,acF,S9,f4,FI,z4⟩;have z4:M.gp<=4096:=by
  have:dj.fresh.gp=0:=rfl;omega
 obtain⟨_,i2,i3⟩:=hZ.LN;have t4:=(bz.jr S9).Mw (cd:=cd) (b9:=b9) λg e=>⟨λq=>i2 (by grind),λq=>i3 (by grind)⟩;have abk:ab.le (aR.off cd b9):=I.le_trans l4 FI;have yT:=RT (fy l);have eb:(oS (fy l)).bn.dK.length<=2048:=by rw[yT];grind [mw]
 obtain⟨ax,YF⟩:∃ax,ax=comp (mw (fy l)):=⟨_,rfl⟩;have Ld:nv (20*(oS (fy l)).bn.dK.length+20) 1 (oS (fy l)).bn.dK=ax:=by rw[YF,yT];rfl
 rw[<-YF]at cG;refine .kU [1] (Option ar×Nat×Nat×Option ar×Nat×bw×List Nat×dj×Nat×Nat) [7,8,9] (λ(_,_,_,_,_,_,_,_,w,_)=>[.v (hj c6),.p 0 0,.v (R w)]) (λ(A,m,c,D,yB,_,_,_,_,_)=>[.own [.v (.slice A m c),.v (.slice D m yB)] 203]) (λ(A,m,c,D,yB,bX,bp,M,w,k) U=>ags ab c6 cd b9 ax U A m c D yB bX bp M w k) (λ(_,_,_,_,_,_,_,_,_,k)=>k) (E,i,cM,G,ai8,oS (fy l),bp,M,1,20*(oS (fy l)).bn.dK.length+20) (λ_=>rfl) ⟨xN,hN.mono FI,anj,t4,MS S9,acF,tD,dd _,by decide,by omega,Ld,abk,by omega⟩ rfl rfl rfl ?_;clear t4 xN S9 f4 acF hN hZ iK rY f2 jM dk Ld eb yT tD i2 i3 z4 FI l4 abk;rintro⟨A,m,c,D,yB,bX,bp,M,w,k⟩ e U S;have y2:bX.bn.dK.length=m:=by rw[Cj];exact S.sat.1.symm
 have aBh:m<=2048:=by have:=S.bF;have:=bX.vk;have:=S.sat.1;omega
 have cF:=S.cF;have dw:=S.dw;refine .done ?_;refine aW (λv1=>?_) (λv1=>?_);refine .ok (by omega) (by omega) ?_;refine aW (λv2=>?_) (λv2=>?_);obtain⟨e1,rfl,cP,a2⟩:=agt cF S.jA S.eq ⟨by omega,by omega⟩;have gp:=S.gp;refine .done (.mk _ (alj S.dD S.sat S.cx S.dG S.Kn S.num (by have:=S.bF;omega) cF (by omega) (by omega)) ?_);rintro _ cg ⟨UY,Uu,Fj,W3,UE,Yl,vq,acC,rfl,F⟩;have anR:vq.bn.dK.length=Fj:=by rw[Cj];exact F.sat.1.symm
 have Y5:vq.bF<=2048:=hT (avv cF F.dK) S.bF;have aBs:=F.gp;have Zy:ab.le (cg.off cd b9):=I.le_trans S.le F.off;have aA9:(io w bX.bn.dK).length=Fj:=by rw[<-F.dK,anR]
 refine aW (λv3=>?_) (λv3=>?_);obtain⟨bL,cy⟩:=cP (by omega);refine .done ⟨(Uu,Fj,W3,UE,Yl,vq,acC,UY,1,e1),rfl,rfl,⟨F.dD,F.sat,F.ce,F.dG,F.Wm,by rw[F.dK];exact F.num,Y5,dd _,by decide,by omega,by grind [F.dK],Zy,by omega⟩,ri _⟩;obtain⟨bL,cy⟩:=a2 (by omega);refine .ok (by omega) (by omega) ?_;refine .done ⟨(Uu,Fj,W3,UE,Yl,vq,acC,UY,w+1,e1),rfl,rfl,⟨F.dD,F.sat,F.ce,F.dG,F.Wm,by rw[F.dK];exact F.num,Y5,by omega,by omega,by omega,by grind [F.dK],Zy,by omega⟩,ri _⟩;have CH:=Up S.eq (by omega);refine .done (.mk _ (SH _ bX (ri _) (by have:=S.bF;omega) A m c U (S.sat.mono (I.xQ _ _ _))) ?_);rintro _ fa ⟨sN,bA,bu,b3,rfl,bf,az⟩;have rN:h.le U:=I.le_trans Jl.le (I.le_trans L0 (I.le_trans S.le (I.xQ _ _ _)));refine .done ⟨I.le_trans rN sN,bA,m,bu,b3,?_,bf.mono (I.ae5 rN),?_⟩;rw[cG];rfl
 grind
 have CH:=Up S.eq (by omega);refine .done (.mk _ (SH _ bX (ri _) (by have:=S.bF;omega) A m c U (S.sat.mono (I.xQ _ _ _))) ?_);rintro _ fa ⟨sN,bA,bu,b3,rfl,bf,az⟩;have rN:h.le U:=I.le_trans Jl.le (I.le_trans L0 (I.le_trans S.le (I.xQ _ _ _)));refine .done ⟨I.le_trans rN sN,bA,m,bu,b3,?_,bf.mono (I.ae5 rN),?_⟩;rw[cG];rfl
 grind
theorem Ks:∀(k w:Nat)(l:List fw),1<=w->ng (nv k w l)<=ng l/\hr (fp (nv k w l))=hr (fp l)/\((∀x∈l,BE x)->∀x∈nv k w l,BE x)
 |0,_,_,_=>⟨dd _,rfl,λh=>h⟩
 |k+1,w,l,hw=>by
  unfold nv;split;obtain⟨a,_⟩:=Do hw _ l (dd _);obtain⟨b,c⟩:=SO hw _ l (dd _);split;obtain⟨x,y,z⟩:=Ks k 1 (io w l) (dd _)
  grind
  obtain⟨x,y,z⟩:=Ks k (w+1) (io w l) (by omega)
  grind
  simp
theorem abH(l:List qz):ng (mw l)=l.length:=by
 rw[<-RT,<-Mb,RS]
theorem ajw(l:List Int):ng (pQ l).2<=2048:=by
 unfold pQ;split;exact cO _;split;exact cO _;have h1:=(Ks (20*(mw (fy l)).length+20) 1 (mw (fy l)) (dd _)).1;have ab:=MY l;have an:=abH (fy l);show ng (comp _)<=2048;unfold comp;omega
theorem adt{w:Nat}(hw:1<=w):∀(N:Nat)(l:List fw),l.length<=N->(io w l).length=l.length->io w l=l
 |_,[],_,_=>rfl
 |0,x::l,h,_=>by simp at h
 |N+1,x::l,h,he=>by
  simp only[gI]at h;have am:=Dv hw (x::l);by_cases h1:d6 w (x::l)=1;rw[h1]at am;rw[FU hw am]at he⊢;simp only[gI]at he;rw[adt hw N l (by omega) (by omega)];have ab:2<=d6 w (x::l):=by have:=am.pos;omega
  obtain⟨m,hm⟩:∃m,m=d6 w (x::l):=⟨_,rfl⟩;rw[<-hm]at am ab;have rI:=am.room ab;have QK:2*w<=m*w:=pN w ab;rw[I7 hw am ab]at he;have aw:=(Do hw _ ((x::l).drop (m*w)) (dd _)).2
  grind
theorem adu{w:Nat}(hw:1<=w):∀l:List fw,l.length<2*w->io w l=l
 |[],_=>rfl
 |x::l,h=>by
  have am:r' w (x::l) 1:=⟨dd _,λo h1 ab=>by omega,λq=>by have:=q.1;omega⟩;simp only[gI]at h;rw[FU hw am,adu hw l (by omega)]
theorem Pf:∀(k w:Nat)(l:List fw),1<=w->20*l.length+17<k+w->(∀v,1<=v->v<w->io v l=l)->∀v,1<=v->v<=16->io v (nv k w l)=nv k w l
 |0,w,l,_,hk,az,v,h1,ab=>az v h1 (by omega)
 |k+1,w,l,hw,hk,az,v,h1,ab=>by
  unfold nv;split;rename_i aw;split;rename_i aj;exact Pf k 1 _ (dd _) (by omega) (λv a b=>by omega) v h1 ab;rename_i aj;have hp:=(Do hw _ l (dd _)).2;have he:=adt hw _ l (dd _) (by omega);rw[he];refine Pf k (w+1) l (by omega) (by omega) (λv a b=>?_) v h1 ab
  grind
  rename_i aw;by_cases ah:v<w
  grind
  exact adu h1 l (by omega)
theorem ajy(l:List fw):∀v,1<=v->v<=16->io v (comp l)=comp l:=Pf _ 1 l (dd _) (by omega) (λv a b=>by omega)
def DT:cX->Prop
 |.nil=>True
 |.cons t _ b r=>1<=t/\(b.leaf=false->2<=t)/\DT b/\DT r
def Bv(x:fw):Prop:=1<=x.1/\(x.2.2.leaf=false->2<=x.1)/\DT x.2.2
theorem OY:∀l:List fw,DT (fp l)↔∀x∈l,Bv x
 |[]=>⟨(λ_ x h=>by cases h),λ_=>trivial⟩
 |(t,n,b)::l=>by
  simp only[fp,DT,OY l,dC,forall_eq_or_imp,Bv]
  grind
theorem Pl:∀f:cX,DT f->f.leaf=false->2^mM f<=fj f
 |.nil,_,h=>by cases h
 |.cons t n b r,⟨h1,ab,an,aR⟩,_=>by
  have am:r.leaf=false->2^mM r<=fj r:=Pl r aR;have fJ:2^mM r<=fj r+1:=by
   cases al:r.leaf with
   |true=>rw[abx al];simp[mM]
   |false=>grind
  obtain⟨T,rfl⟩:∃T:Nat,t=T:=⟨t.toNat,by omega⟩;simp only[mM,fj,bq];cases al:b.leaf with
  |true=>
   grind
  |false=>
   have af:=Pl b an al;have ab:=ab al;simp only[pR];have hm:2*fj b<=T*fj b:=pN _ (by omega);have hp:2^(mM b+1)=2*2^mM b:=by omega
   grind
theorem MG{w:Nat}(hw:1<=w):∀(N:Nat)(l:List fw),l.length<=N->(∀x∈l,Bv x)->∀x∈io w l,Bv x
 |N,[],_,_=>λx h=>by cases h
 |0,x::l,h,_=>by simp at h
 |N+1,x::l,h,ak=>by
  simp only[gI]at h;have am:=Dv hw (x::l);by_cases h1:d6 w (x::l)=1;rw[h1]at am;rw[FU hw am];intro y aQ;rcases dC.1 aQ with rfl|aQ
  grind
  exact MG hw N l (by omega) (λz aY=>ak z (iv _ aY)) y aQ;have ab:2<=d6 w (x::l):=by have:=am.pos;omega
  obtain⟨m,hm⟩:∃m,m=d6 w (x::l):=⟨_,rfl⟩;rw[<-hm]at am ab;have QK:2*w<=m*w:=pN w ab;rw[I7 hw am ab];intro y aQ;rcases dC.1 aQ with rfl|aQ;exact⟨by omega,λ_=>by omega,(OY _).2 λz aY=>ak z (Od aY)⟩;exact MG hw N _ (by grind) (λz aY=>ak z (Oc aY)) y aQ
theorem Pe:∀(k w:Nat)(l:List fw),1<=w->(∀x∈l,Bv x)->∀x∈nv k w l,Bv x
 |0,_,_,_,h=>h
 |k+1,w,l,hw,h=>by
  unfold nv;split;split;exact Pe k 1 _ (dd _) (MG hw _ l (dd _) h);exact Pe k (w+1) _ (by omega) (MG hw _ l (dd _) h);omega
theorem abK:∀l:List Int,hr (fp (mw (fy l)))=l
 |[]=>rfl
 |x::l=>by
  have bE:=abK l;simp only[fy];split;rename_i y k r h;rw[h]at bE;simp only[mw,eO,fp,hr,cX.leaf,lv,bq]at bE;split;simp_all[mw,fp,hr,cX.leaf,rep,bE];simp only[mw,eO,fp,hr,cX.leaf,lv,bq];rw[bE];rfl;rename_i h;rw[h]at bE;simp only[mw,zU,fp,hr]at bE;rw[<-bE];rfl
theorem ael:∀l:List Int,∀r∈fy l,1<=r.2
 |[],_,h=>by cases h
 |x::l,r,h=>by
  have bE:=ael l;simp only[fy]at h
  grind
structure Gs(l:List Int)(C:List fw):Prop where
 ry:vF (fp C)
 uU:hr (fp C)=l
 ly:mM (fp C)<=11
 e':qE (fp C)=0
 bF:(fp C).bF<=(fy l).length
 fix:∀v,1<=v->v<=16->io v C=C
theorem Gs.of{l:List Int}(al:l.length<=2048)(af:∀x∈l,¬uH x):Gs l (comp (mw (fy l))):=by
 have dk:∀x∈mw (fy l),BE x/\Bv x:=by
  intro x ad;obtain⟨r,am,rfl⟩:=dn.1 ad;have h1:=ael l r am;have ab:=(MZ l (P:=λx=>¬uH x)).2 af r am;unfold uH at ab;refine⟨⟨by omega,λ_=>⟨by grind,by grind⟩,(λq=>by cases q),trivial⟩,⟨by omega,(λq=>by cases q),trivial⟩⟩
 obtain⟨bJ,bB,eo⟩:=Ks (20*(mw (fy l)).length+20) 1 (mw (fy l)) (dd _);have oa:=Pe (20*(mw (fy l)).length+20) 1 (mw (fy l)) (dd _) λx ad=>(dk x ad).2;have mu:=ajy (mw (fy l));have hC:nv (20*(mw (fy l)).length+20) 1 (mw (fy l))=comp (mw (fy l)):=rfl;rw[hC]at bJ bB eo oa;generalize comp (mw (fy l))=C at bJ bB eo oa mu;have ak:=(PX C).2 (eo λx ad=>(dk x ad).1);have ab:=(OY C).2 oa;have ml:hr (fp C)=l:=bB.trans (abK l);have av:fj (fp C)<=2048:=by rw[<-KS,ml];exact al
 have aB:mM (fp C)<=11:=by
  cases nE:(fp C).leaf with
  |true=>rw[abx nE];exact cO _
  |false=>
   have an:=Pl _ ab nE;rcases Nat.lt_or_ge 11 (mM (fp C))with aR|aR;have:=Nat.pow_le_pow_right (n:=2) (by decide) (show 12<=mM (fp C)from aR);omega;omega
 refine⟨ak,ml,aB,?_,?_,mu⟩;rw[ajl ak av,aX (by omega)];rw[abH]at bJ;exact bJ
theorem WM{a b:e3}{w:bb}(hk:k<s.size):vC aH (.index 9 a b) [.string s,R k] w (.int .u8 s[k].toNat) w:=by
 intro kF q aq ah;simp only[D2,eO,zU,yp,and_true]at ah;obtain⟨h1,ab⟩:=ah;have hu:=gj (w:=w) Ef;simp[cY,aq,h1,ab,Instr.index,asIntOf,R,hu,hk]
theorem WN{a b c:e3}{w:bb}(hk:k<=m)(hm:m<=s.size):vC aH (.slice 9 a (some b) (some c) none) [.string s,R k,R m] w (.string (s.extract k m)) w:=by
 intro kF q aq ah;simp[D2]at ah;obtain⟨h1,ab,an⟩:=ah;have hu:=gj (w:=w) Ef;simp[cY,aq,h1,ab,an,Instr.sliceAt,Instr.slice,Instr.sliceBounds,Instr.sliceBound,asIntOf,R,hu,hk,hm]
abbrev bv(b:UInt8):ao:=.int .u8 b.toNat
def Dg(b:UInt8):Bool:=decide ((97:Int)<=b.toNat)&&decide ((b.toNat:Int)<=122)
def Hd(b:UInt8):Bool:=decide ((48:Int)<=b.toNat)&&decide ((b.toNat:Int)<=57)
def Fh(b:UInt8):Bool:=Dg b||Hd b||decide ((b.toNat:Int)=95)
theorem abG(b:UInt8)(h:I):Fn aH 202 #[bv b] h λv U=>v= .bool (Dg b)/\U=h:=by
 refine b5 arR rfl ?_;refine aW (λh1=>?_) (λh1=>?_);refine .done ⟨?_,rfl⟩;simp[Dg,h1,jt];refine .done ⟨?_,rfl⟩;simp[Dg,h1,jt]
theorem ajO(b:UInt8)(h:I):Fn aH 217 #[bv b] h λv U=>v= .bool (Hd b)/\U=h:=by
 refine b5 arY rfl ?_;refine aW (λh1=>?_) (λh1=>?_);refine .done ⟨?_,rfl⟩;simp[Hd,h1,jt];refine .done ⟨?_,rfl⟩;simp[Hd,h1,jt]
theorem aoI(b:UInt8)(h:I):Fn aH 205 #[bv b] h λv U=>v= .bool (Fh b)/\U=h:=by
 refine b5 arU rfl ?_;refine .done (.mk _ (abG _ _) ?_);rintro _ _ ⟨rfl,rfl⟩;cases h1:Dg b;refine .done (.mk _ (ajO _ _) ?_);rintro _ _ ⟨rfl,rfl⟩;cases ab:Hd b;refine .done ⟨?_,rfl⟩;simp[Fh,h1,ab,jt];refine .done ⟨?_,rfl⟩;simp[Fh,h1,ab,jt];refine .done ⟨?_,rfl⟩;simp[Fh,h1,jt]
def xg(s:ByteArray)(k:Nat):Obj:=.cells [.string s,R k].toArray 394 (0,0)
def Ag(s:ByteArray)(k:Nat):UInt8:=if h:k<s.size then s[k]else 0
theorem avz(c:Nat)(s:ByteArray)(k:Nat)(h:I)(aw:h c=some (xg s k))(hk:k<=4611686018427387904):Fn aH 203 #[hj c,R 0] h λv U=>v=bv (Ag s k)/\U=h:=by
 refine b5 arS rfl ?_;refine .hp (R k) (bN aw rfl) ?_;refine .ok (by omega) (by omega) ?_;refine .hp (.string s) (bN aw rfl) ?_;refine aW (λh1=>?_) (λh1=>?_);refine .done ⟨?_,rfl⟩;have:¬k<s.size:=by omega
 simp[Ag,this,jt];refine .hp (.string s) (bN aw rfl) ?_;refine .hp (R k) (bN aw rfl) ?_;refine .ok (by omega) (by omega) ?_;have br:k<s.size:=by omega
 refine .done (.mk (bv s[k]) (λw _=>?_) ?_);rw[show((k:Int)+0)=(k:Nat)from by omega];exact WM br;refine .done ⟨?_,rfl⟩;simp[Ag,br,jt]
theorem at2(c:Nat)(s:ByteArray)(k:Nat)(h:I)(aw:h c=some (xg s k)):Fn aH 216 #[hj c] h λv U=>v= .bool (decide ((k:Int)<s.size))/\U=h:=by
 refine b5 arX rfl ?_;refine .hp (R k) (bN aw rfl) ?_;refine .hp (.string s) (bN aw rfl) ?_;exact .done ⟨rfl,rfl⟩
theorem I.rW(af:h b=some J):h.put b J=h:=by
 funext o;unfold I.put
 grind
def qi(s:ByteArray):Nat->Nat->Nat
 |0,k=>k
 |n+1,k=>if k<s.size/\Fh (Ag s k)=true then qi s n (k+1)else k
theorem aea(s:ByteArray):∀n k,k<=s.size->qi s n k<=s.size/\k<=qi s n k
 |0,k,hk=>⟨hk,dd _⟩
 |n+1,k,hk=>by
  rw[qi];split;rename_i h1;have:=aea s n (k+1) h1.1;omega;omega
theorem azI(c:Nat)(s:ByteArray)(h:I)(aw:h c=some (xg s 0))(aj:s.size<=4611686018427387904):Fn aH 204 #[hj c,.func (.func 205) #[] #[]] h λv U=>v= .string (s.extract 0 (qi s s.size 0))/\U=h.put c (xg s (qi s s.size 0)):=by
 refine b5 arT rfl ?_;refine .hp (R (0:Nat)) (bN aw rfl) ?_;refine .mk Nat [0,1,5] (λk=>[.v (hj c),.v (.func (.func 205) #[] #[]),.v (R 0)]) (λ_=>[]) (λk U=>U=h.put c (xg s k)/\k<=s.size/\qi s (s.size-k) k=qi s s.size 0) (λk=>s.size-k) 0 (λ_=>rfl) ⟨(I.rW aw).symm,cO _,rfl⟩ rfl rfl ?_;rintro k e U ⟨rfl,hk,am⟩;have af:(h.put c (xg s k)) c=some (xg s k):=I.bP _ _ _;refine .mk _ (at2 c s k _ af) (λ_ _ aq=>aq.2▸I.le_refl _) ?_;rintro _ _ ⟨rfl,rfl⟩;by_cases h1:(k:Int)<s.size;rw[fo h1];have xv:k<s.size:=by omega
 refine .hp (.string s) (bN af rfl) ?_;refine .hp (R k) (bN af rfl) ?_;refine .done (.mk (bv s[k]) (λw _=>WM xv) ?_);refine .mk _ (aoI _ _) (λ_ _ aq=>aq.2▸I.le_refl _) ?_;rintro _ _ ⟨rfl,rfl⟩;have oL:Ag s k=s[k]:=by simp[Ag,xv]
 have ht:s.size-k=(s.size- (k+1))+1:=by omega
 cases ab:Fh s[k];refine .hp (.string s) (bN af rfl) ?_;refine .hp (R k) (bN af rfl) ?_;refine .done (.mk (.string (s.extract 0 k)) (λw _=>WN (cO _) hk) ?_);have:qi s s.size 0=k:=by simp_all[<-am,ht,qi]
 exact .done ⟨by rw[this];rfl,by rw[this]⟩;refine .hp (R k) (bN af rfl) ?_;refine .ok (by omega) (by omega) ?_;refine .hp c 1 394 [.string s,R k] [.string s,R ((k:Int)+1)] rfl af rfl ?_;refine⟨k+1,rfl,rfl,⟨by rw[I.sZ];rfl,xv,?_⟩,by omega⟩;rw[<-am,ht,qi,aX ⟨xv,by grind⟩];rw[gU h1];refine .hp (.string s) (bN af rfl) ?_;refine .hp (R k) (bN af rfl) ?_;refine .done (.mk (.string (s.extract 0 k)) (λw _=>WN (cO _) hk) ?_);have aY:s.size-k=0:=by omega
 have:qi s s.size 0=k:=by rw[<-am,aY];rfl
 exact .done ⟨by rw[this];rfl,by rw[this]⟩
def A4(s:ByteArray):Bool:=Dg (Ag s 0)&&decide (qi s s.size 0=s.size)&&decide (s.size<=16)
theorem acr(s:ByteArray)(h:I)(aj:s.size<=4611686018427387904):Fn aH 184 #[.string s] h λv U=>v= .bool (A4 s)/\h.le U:=by
 refine b5 arF rfl ?_;refine .mk λb af=>?_;have cu:h.le (h.put b (xg s 0)):=I.du af;have aw:(h.put b (xg s 0)) b=some (xg s 0):=I.bP _ _ _;refine .done (.mk _ (avz b s 0 _ aw (by omega)) ?_);rintro _ _ ⟨rfl,rfl⟩;refine .done (.mk _ (abG _ _) ?_);rintro _ _ ⟨rfl,rfl⟩;cases h1:Dg (Ag s 0);exact .done ⟨by simp[A4,h1,jt],cu⟩;refine .done (.mk _ (azI b s _ aw aj) ?_);rintro _ _ ⟨rfl,rfl⟩;have hw:=(aea s s.size 0 (cO _)).1;have ht:(s.extract 0 (qi s s.size 0)).size=qi s s.size 0:=by simp_all
 conv=>whnf
 refine aW (λab=>?_) (λab=>?_);rw[ht]at ab;have Hy:qi s s.size 0=s.size:=by omega
 refine .done ⟨?_,by rw[I.sZ];exact I.du af⟩;simp[A4,h1,Hy,jt];omega;rw[ht]at ab;have Hy:¬qi s s.size 0=s.size:=λe=>ab (by rw[e]);refine .done ⟨by simp[A4,h1,Hy,jt],?_⟩;rw[I.sZ];exact I.du af
def yr(h U:I)(v:ao)(l:List Int):Prop:=∃A c,v= .slice A l.length c/\bz U 3 1 A l.length c (l.map R)/\∀g,A=some g->h g.block=none
theorem kB(A:Option ar)(n c:Nat)(l:List Int)(h:I)(aO:bg h 1 A n (l.map λz=>[R z]))(aC:n*8<=140737488355328):Fn aH 104 #[.slice A n c] h λr U=>h.le U/\yr h U r l:=by
 have al:l.length=n:=by simpa using aO.len
 refine b5 aqR rfl ?_;refine .mk λb af=>?_;refine .done (.cR 1 _ _ rfl (aO.src _) (by rw[wd];exact IV _) (by simp[c'];omega) (by omega) λbA bu Yw=>?_);refine .bV 1 3 1 bA (0+n) bu _ rfl λU cu am az=>?_;have sB:bz U 3 1 bA (0+n) bu (l.map λz=>[R z]).flatten:=am;rw[dJ,wd,<-al]at sB;exact .done ⟨cu,bA,bu,by rw[dJ,al];rfl,sB,az⟩
theorem s8(n m:Int)(h:I):Fn aH 103 #[R n,R m] h λr U=>r= .bool (decide (1<=n/\n<=m))/\U=h:=by
 refine b5 aqQ rfl ?_;refine aW (λh1=>?_) (λh1=>?_);exact .done ⟨by simp[h1,jt],rfl⟩;exact .done ⟨by simp[h1,jt],rfl⟩
theorem awD{a b:ao}(hk:k<n):over (bG k a++bG (n-k) b) (k*1) [a]=some (bG (k+1) a++bG (n- (k+1)) b):=by
 rw[ib _ _ _ (by simp;omega),ew,List.set_append_right _ _ (by simp),List.length_replicate,Nat.sub_self,show n-k=(n- (k+1))+1 from by omega,GO,List.set_cons_zero,aCd (n:=k),mb];rfl
theorem M2(n:Nat)(m:Int)(h:I)(aC:n<=1000000):Fn aH 105 #[R n,R m] h λr U=>h.le U/\yr h U r (bG n m):=by
 refine b5 aqS rfl ?_;refine dN.one n (R 0) rfl rfl rfl rfl (by omega) (by omega) λg=>?_;refine .mk Nat [1,5,10,11] (λk=>[.v (R m),.v (.slice (some g) n n),.v (R n),.v (R k)]) (λk=>[.row 3 1 (some g) n n (bG k (R m)++bG (n-k) (R 0))]) (λk U=>U=h/\k<=n) (λk=>n-k) 0 (λ_=>rfl) ⟨rfl,cO _⟩ rfl rfl ?_;rintro k e U ⟨rfl,hk⟩;refine aW (λh1=>?_) (λh1=>?_);refine .mk g rfl (by omega) (by omega) ?_;have br:k<n:=by omega
 refine .row 0 3 1 g n n _ (bG (k+1) (R m)++bG (n- (k+1)) (R 0)) (k*1) rfl (by rw[bq]) (awD br) ?_;refine .ok (by omega) (by omega) ?_;exact⟨k+1,rfl,rfl,⟨rfl,br⟩,by omega⟩;have E8:k=n:=by omega
 subst E8;refine .bV 0 3 1 (some g) k k _ rfl λab cu am az=>?_;have sB:bz ab 3 1 (some g) k k (bG k (R m)++bG (k-k) (R 0)):=am;refine .done ⟨cu,some g,k,by simp[jt],?_,az⟩;simpa using sB
theorem yr.mono{ai h U Az:I}{v:ao}{l:List Int}(x:yr h U v l)(a:ai.le h)(b:U.le Az):yr ai Az v l:=by
 obtain⟨A,c,e,r,f⟩:=x;exact⟨A,c,e,r.mono b,λg ak=>I.none_le a (f g ak)⟩
theorem kD(h:I)(b:Nat)(l:List Int):bg (h.put b (.cells (l.map R).toArray 3 (0,0))) 1 (some ⟨b,0,none⟩) l.length (l.map λz=>[R z]):=bg.lit (I.bP _ _ _) (wd l) (λr am=>by obtain⟨x,_,rfl⟩:=dn.1 am;rfl) (by simp)
theorem yr.nil(h U:I):yr h U (.slice none 0 0) []:=⟨none,0,rfl,⟨rfl,.inl ⟨rfl,rfl,rfl⟩⟩,λ_ e=>by cases e⟩
def bD(tag:Int)(l:List Int):Int×List Int×List Int:=
 if tag<1\/11<tag then(60,[],[])else
 let n:=l.getD 0 0
 let m:=l.getD 1 0
 let single:=l.length=1
 let pair:=l.length=2/\(1<=n/\n<=16)/\(1<=m/\m<=64)/\n*m<=64
 if tag=1/\(1<=(l.length:Int)/\(l.length:Int)<=16)\/tag=8/\l.length=0 then(0,[1],[1])
 else if tag=2/\single/\(1<=n/\n<=64)then(0,[1],[n])
 else if tag=3/\single/\(1<=n/\n<=64)then(0,[n],[1])
 else if tag=4/\pair then(0,bG n.toNat m,[n*m])
 else if tag=5/\pair then(0,[n*m],bG n.toNat m)
 else if tag=6/\single/\(1<=n/\n<=16)then(0,bG n.toNat 1,[1])
 else if tag=7/\l.length=0 then(0,[1,1],[1])
 else if tag=9/\single/\(1<=n/\n<=16)then(0,[1],bG n.toNat 1)
 else if tag=10/\l.length=2 then(0,[],[1])
 else if tag=11/\single/\(1<=n/\n<=64)then(0,[n],[])
 else(61,[],[])
def OG(h:I)(x:Int×List Int×List Int)(v:ao)(U:I):Prop:=∃a b,v= .tuple #[a,b,R x.1]/\h.le U/\yr h U a x.2.1/\yr h U b x.2.2
theorem OG.err{k:Int}:OG h (k,[],[]) (.tuple #[.slice none 0 0,.slice none 0 0,R k]) h:=⟨_,_,rfl,I.le_refl _,.nil _ _,.nil _ _⟩
theorem FK(tag:Int)(A:Option ar)(n c:Nat)(l:List Int)(h:I)(aO:bg h 1 A n (l.map λz=>[R z]))(aC:n*8<=140737488355328):Fn aH 45 #[.int .u8 tag,.slice A n c] h (OG h (bD tag l)):=by
 have al:l.length=n:=by simpa using aO.len
 refine b5 ase rfl ?_;conv=>whnf
 refine aW (λh1=>?_) (λh1=>?_);conv=>whnf
 rw[bD,aX (.inl h1)];exact .done .err;conv=>whnf
 refine aW (λab=>?_) (λab=>?_);conv=>whnf
 rw[bD,aX (.inr ab)];exact .done .err;have CZ:tag=1\/tag=2\/tag=3\/tag=4\/tag=5\/tag=6\/tag=7\/tag=8\/tag=9\/tag=10\/tag=11:=by omega
 subst al;rcases l with _|⟨x,_|⟨y,_|⟨z,l⟩⟩⟩;conv=>whnf
 rcases CZ with rfl|rfl|rfl|rfl|rfl|rfl|rfl|rfl|rfl|rfl|rfl;conv=>whnf
 refine .done (.mk _ (s8 _ 16 _) ?_);rintro _ _ ⟨rfl,rfl⟩;conv=>whnf
 rw[show bD 1 []=(61,[],[])from by decide];exact .done .err;conv=>whnf
 rw[show bD 2 []=(61,[],[])from by decide];exact .done .err;conv=>whnf
 rw[show bD 3 []=(61,[],[])from by decide];exact .done .err;conv=>whnf
 rw[show bD 4 []=(61,[],[])from by decide];exact .done .err;conv=>whnf
 rw[show bD 5 []=(61,[],[])from by decide];exact .done .err;conv=>whnf
 rw[show bD 6 []=(61,[],[])from by decide];exact .done .err;conv=>whnf
 rw[show bD 7 []=(0,[1,1],[1])from by decide];refine .mk λbL eS=>?_;conv=>whnf
 refine .done (.mk _ (kB _ _ _ _ _ (kD _ bL [1,1]) (by decide)) ?_);rintro cP bJ ⟨cr,dF⟩;have dc:=I.du (J:=.cells (([1,1]:List Int).map R).toArray 3 (0,0)) eS;conv=>whnf
 refine .mk λcy fC=>?_;conv=>whnf
 refine .done (.mk _ (kB _ _ _ _ _ (kD _ cy [1]) (by decide)) ?_);rintro a2 bB ⟨cn,dR⟩;have c9:=I.du (J:=.cells (([1]:List Int).map R).toArray 3 (0,0)) fC;conv=>whnf
 exact .done ⟨cP,a2,rfl,(I.le_trans dc (I.le_trans cr (I.le_trans c9 cn))),dF.mono dc (I.le_trans c9 cn),dR.mono (I.le_trans dc (I.le_trans cr c9)) (I.le_refl _)⟩;conv=>whnf
 rw[show bD 8 []=(0,[1],[1])from by decide];refine .mk λbL eS=>?_;conv=>whnf
 refine .done (.mk _ (kB _ _ _ _ _ (kD _ bL [1]) (by decide)) ?_);rintro cP bJ ⟨cr,dF⟩;have dc:=I.du (J:=.cells (([1]:List Int).map R).toArray 3 (0,0)) eS;conv=>whnf
 refine .mk λcy fC=>?_;conv=>whnf
 refine .done (.mk _ (kB _ _ _ _ _ (kD _ cy [1]) (by decide)) ?_);rintro a2 bB ⟨cn,dR⟩;have c9:=I.du (J:=.cells (([1]:List Int).map R).toArray 3 (0,0)) fC;conv=>whnf
 exact .done ⟨cP,a2,rfl,(I.le_trans dc (I.le_trans cr (I.le_trans c9 cn))),dF.mono dc (I.le_trans c9 cn),dR.mono (I.le_trans dc (I.le_trans cr c9)) (I.le_refl _)⟩;conv=>whnf
 rw[show bD 9 []=(61,[],[])from by decide];exact .done .err;conv=>whnf
 rw[show bD 10 []=(61,[],[])from by decide];exact .done .err;conv=>whnf
 rw[show bD 11 []=(61,[],[])from by decide];exact .done .err;obtain⟨g,rfl⟩:=aO.cc (by simp);conv=>whnf
 refine .mk g rfl (by simp) (by simp) ?_;conv=>whnf
 refine .hp (R x) (aO.one (i:=0) rfl rfl rfl) ?_;conv=>whnf
 rcases CZ with rfl|rfl|rfl|rfl|rfl|rfl|rfl|rfl|rfl|rfl|rfl;conv=>whnf
 refine .done (.mk _ (s8 _ 16 _) ?_);rintro _ _ ⟨rfl,rfl⟩;conv=>whnf
 rw[show bD 1 [x]=(0,[1],[1])from by simp[bD]];refine .mk λbL eS=>?_;conv=>whnf
 refine .done (.mk _ (kB _ _ _ _ _ (kD _ bL [1]) (by decide)) ?_);rintro cP bJ ⟨cr,dF⟩;have dc:=I.du (J:=.cells (([1]:List Int).map R).toArray 3 (0,0)) eS;conv=>whnf
 refine .mk λcy fC=>?_;conv=>whnf
 refine .done (.mk _ (kB _ _ _ _ _ (kD _ cy [1]) (by decide)) ?_);rintro a2 bB ⟨cn,dR⟩;have c9:=I.du (J:=.cells (([1]:List Int).map R).toArray 3 (0,0)) fC;conv=>whnf
 exact .done ⟨cP,a2,rfl,(I.le_trans dc (I.le_trans cr (I.le_trans c9 cn))),dF.mono dc (I.le_trans c9 cn),dR.mono (I.le_trans dc (I.le_trans cr c9)) (I.le_refl _)⟩;conv=>whnf
 refine .done (.mk _ (s8 _ 64 _) ?_);rintro _ _ ⟨rfl,rfl⟩;by_cases hw:1<=x/\x<=64;rw[fo hw];conv=>whnf
 rw[show bD 2 [x]=(0,[1],[x])from by simp[bD];omega];refine .mk λbL eS=>?_;conv=>whnf
 refine .done (.mk _ (kB _ _ _ _ _ (kD _ bL [1]) (by decide)) ?_);rintro cP bJ ⟨cr,dF⟩;have dc:=I.du (J:=.cells (([1]:List Int).map R).toArray 3 (0,0)) eS;conv=>whnf
 refine .mk λcy fC=>?_;conv=>whnf
 refine .done (.mk _ (kB _ _ _ _ _ (kD _ cy [x]) (by decide)) ?_);rintro a2 bB ⟨cn,dR⟩;have c9:=I.du (J:=.cells (([x]:List Int).map R).toArray 3 (0,0)) fC;conv=>whnf
 exact .done ⟨cP,a2,rfl,(I.le_trans dc (I.le_trans cr (I.le_trans c9 cn))),dF.mono dc (I.le_trans c9 cn),dR.mono (I.le_trans dc (I.le_trans cr c9)) (I.le_refl _)⟩;rw[gU hw];conv=>whnf
 rw[show bD 2 [x]=(61,[],[])from by simp[bD];omega];exact .done .err;conv=>whnf
 refine .done (.mk _ (s8 _ 64 _) ?_);rintro _ _ ⟨rfl,rfl⟩;by_cases hw:1<=x/\x<=64;rw[fo hw];conv=>whnf
 rw[show bD 3 [x]=(0,[x],[1])from by simp[bD];omega];refine .mk λbL eS=>?_;conv=>whnf
 refine .done (.mk _ (kB _ _ _ _ _ (kD _ bL [x]) (by decide)) ?_);rintro cP bJ ⟨cr,dF⟩;have dc:=I.du (J:=.cells (([x]:List Int).map R).toArray 3 (0,0)) eS;conv=>whnf
 refine .mk λcy fC=>?_;conv=>whnf
 refine .done (.mk _ (kB _ _ _ _ _ (kD _ cy [1]) (by decide)) ?_);rintro a2 bB ⟨cn,dR⟩;have c9:=I.du (J:=.cells (([1]:List Int).map R).toArray 3 (0,0)) fC;conv=>whnf
 exact .done ⟨cP,a2,rfl,(I.le_trans dc (I.le_trans cr (I.le_trans c9 cn))),dF.mono dc (I.le_trans c9 cn),dR.mono (I.le_trans dc (I.le_trans cr c9)) (I.le_refl _)⟩;rw[gU hw];conv=>whnf
 rw[show bD 3 [x]=(61,[],[])from by simp[bD];omega];exact .done .err;conv=>whnf
 rw[show bD 4 [x]=(61,[],[])from by simp[bD]];exact .done .err;conv=>whnf
 rw[show bD 5 [x]=(61,[],[])from by simp[bD]];exact .done .err;conv=>whnf
 refine .done (.mk _ (s8 _ 16 _) ?_);rintro _ _ ⟨rfl,rfl⟩;by_cases hw:1<=x/\x<=16;rw[fo hw];conv=>whnf
 obtain⟨k,rfl⟩:∃k:Nat,x=k:=⟨x.toNat,by omega⟩;rw[show bD 6 [(k:Int)]=(0,bG k 1,[1])from by simp[bD];omega];refine .done (.mk _ (M2 k 1 _ (by omega)) ?_);rintro cP bJ ⟨cr,dF⟩;conv=>whnf
 refine .mk λcy fC=>?_;conv=>whnf
 refine .done (.mk _ (kB _ _ _ _ _ (kD _ cy [1]) (by decide)) ?_);rintro a2 bB ⟨cn,dR⟩;have c9:=I.du (J:=.cells (([1]:List Int).map R).toArray 3 (0,0)) fC;conv=>whnf
 exact .done ⟨cP,a2,rfl,(I.le_trans cr (I.le_trans c9 cn)),dF.mono (I.le_refl _) (I.le_trans c9 cn),dR.mono (I.le_trans cr c9) (I.le_refl _)⟩;rw[gU hw];conv=>whnf
 rw[show bD 6 [x]=(61,[],[])from by simp[bD];omega];exact .done .err;conv=>whnf
 rw[show bD 7 [x]=(61,[],[])from by simp[bD]];exact .done .err;conv=>whnf
 rw[show bD 8 [x]=(61,[],[])from by simp[bD]];exact .done .err;conv=>whnf
 refine .done (.mk _ (s8 _ 16 _) ?_);rintro _ _ ⟨rfl,rfl⟩;by_cases hw:1<=x/\x<=16;rw[fo hw];conv=>whnf
 obtain⟨k,rfl⟩:∃k:Nat,x=k:=⟨x.toNat,by omega⟩;rw[show bD 9 [(k:Int)]=(0,[1],bG k 1)from by simp[bD];omega];refine .mk λbL eS=>?_;conv=>whnf
 refine .done (.mk _ (kB _ _ _ _ _ (kD _ bL [1]) (by decide)) ?_);rintro cP bJ ⟨cr,dF⟩;have dc:=I.du (J:=.cells (([1]:List Int).map R).toArray 3 (0,0)) eS;conv=>whnf
 refine .done (.mk _ (M2 k 1 _ (by omega)) ?_);rintro a2 bB ⟨cn,dR⟩;conv=>whnf
 exact .done ⟨cP,a2,rfl,(I.le_trans dc (I.le_trans cr cn)),dF.mono dc cn,dR.mono (I.le_trans dc cr) (I.le_refl _)⟩;rw[gU hw];conv=>whnf
 rw[show bD 9 [x]=(61,[],[])from by simp[bD];omega];exact .done .err;conv=>whnf
 rw[show bD 10 [x]=(61,[],[])from by simp[bD]];exact .done .err;conv=>whnf
 refine .done (.mk _ (s8 _ 64 _) ?_);rintro _ _ ⟨rfl,rfl⟩;by_cases hw:1<=x/\x<=64;rw[fo hw];conv=>whnf
 rw[show bD 11 [x]=(0,[x],[])from by simp[bD];omega];refine .mk λbL eS=>?_;conv=>whnf
 refine .done (.mk _ (kB _ _ _ _ _ (kD _ bL [x]) (by decide)) ?_);rintro cP bJ ⟨cr,dF⟩;have dc:=I.du (J:=.cells (([x]:List Int).map R).toArray 3 (0,0)) eS;conv=>whnf
 exact .done ⟨cP,_,rfl,(I.le_trans dc cr),dF.mono dc (I.le_refl _),.nil _ _⟩;rw[gU hw];conv=>whnf
 rw[show bD 11 [x]=(61,[],[])from by simp[bD];omega];exact .done .err;obtain⟨g,rfl⟩:=aO.cc (by simp);conv=>whnf
 refine .mk g rfl (by simp) (by simp) ?_;conv=>whnf
 refine .hp (R x) (aO.one (i:=0) rfl rfl rfl) ?_;conv=>whnf
 refine .mk g rfl (by simp) (by simp) ?_;conv=>whnf
 refine .hp (R y) (aO.one (i:=1) rfl rfl rfl) ?_;conv=>whnf
 refine .done (.mk _ (s8 x 16 _) ?_);rintro _ _ ⟨rfl,rfl⟩;by_cases ie:1<=x/\x<=16;rw[fo ie];conv=>whnf
 refine .done (.mk _ (s8 y 64 _) ?_);rintro _ _ ⟨rfl,rfl⟩;by_cases hR:1<=y/\y<=64;rw[fo hR];have mr:x*y<=16*64/\0<=x*y:=⟨Int.mul_le_mul ie.2 hR.2 (by omega) (by omega),Int.mul_nonneg (by omega) (by omega)⟩;conv=>whnf
 refine .ok (by omega) (by omega) ?_;conv=>whnf
 by_cases kW:x*y<=64;rw[fo kW];rcases CZ with rfl|rfl|rfl|rfl|rfl|rfl|rfl|rfl|rfl|rfl|rfl;conv=>whnf
 refine .done (.mk _ (s8 _ 16 _) ?_);rintro _ _ ⟨rfl,rfl⟩;conv=>whnf
 rw[show bD 1 [x,y]=(0,[1],[1])from by simp[bD]];refine .mk λbL eS=>?_;conv=>whnf
 refine .done (.mk _ (kB _ _ _ _ _ (kD _ bL [1]) (by decide)) ?_);rintro cP bJ ⟨cr,dF⟩;have dc:=I.du (J:=.cells (([1]:List Int).map R).toArray 3 (0,0)) eS;conv=>whnf
 refine .mk λcy fC=>?_;conv=>whnf
 refine .done (.mk _ (kB _ _ _ _ _ (kD _ cy [1]) (by decide)) ?_);rintro a2 bB ⟨cn,dR⟩;have c9:=I.du (J:=.cells (([1]:List Int).map R).toArray 3 (0,0)) fC;conv=>whnf
 exact .done ⟨cP,a2,rfl,(I.le_trans dc (I.le_trans cr (I.le_trans c9 cn))),dF.mono dc (I.le_trans c9 cn),dR.mono (I.le_trans dc (I.le_trans cr c9)) (I.le_refl _)⟩;conv=>whnf
 rw[show bD 2 [x,y]=(61,[],[])from by simp[bD]];exact .done .err;conv=>whnf
 rw[show bD 3 [x,y]=(61,[],[])from by simp[bD]];exact .done .err;conv=>whnf
 obtain⟨k,rfl⟩:∃k:Nat,x=k:=⟨x.toNat,by omega⟩;rw[show bD 4 [(k:Int),y]=(0,bG k y,[(k:Int)*y])from by simp[bD];omega];refine .done (.mk _ (M2 k y _ (by omega)) ?_);rintro cP bJ ⟨cr,dF⟩;conv=>whnf
 refine .ok (by omega) (by omega) ?_;conv=>whnf
 refine .mk λcy fC=>?_;conv=>whnf
 refine .done (.mk _ (kB _ _ _ _ _ (kD _ cy [(k:Int)*y]) (by decide)) ?_);rintro a2 bB ⟨cn,dR⟩;have c9:=I.du (J:=.cells (([(k:Int)*y]:List Int).map R).toArray 3 (0,0)) fC;conv=>whnf
 exact .done ⟨cP,a2,rfl,(I.le_trans cr (I.le_trans c9 cn)),dF.mono (I.le_refl _) (I.le_trans c9 cn),dR.mono (I.le_trans cr c9) (I.le_refl _)⟩;conv=>whnf
 obtain⟨k,rfl⟩:∃k:Nat,x=k:=⟨x.toNat,by omega⟩;rw[show bD 5 [(k:Int),y]=(0,[(k:Int)*y],bG k y)from by simp[bD];omega];refine .ok (by omega) (by omega) ?_;conv=>whnf
 refine .mk λbL eS=>?_;conv=>whnf
 refine .done (.mk _ (kB _ _ _ _ _ (kD _ bL [(k:Int)*y]) (by decide)) ?_);rintro cP bJ ⟨cr,dF⟩;have dc:=I.du (J:=.cells (([(k:Int)*y]:List Int).map R).toArray 3 (0,0)) eS;conv=>whnf
 refine .done (.mk _ (M2 k y _ (by omega)) ?_);rintro a2 bB ⟨cn,dR⟩;conv=>whnf
 exact .done ⟨cP,a2,rfl,(I.le_trans dc (I.le_trans cr cn)),dF.mono dc cn,dR.mono (I.le_trans dc cr) (I.le_refl _)⟩;conv=>whnf
 rw[show bD 6 [x,y]=(61,[],[])from by simp[bD]];exact .done .err;conv=>whnf
 rw[show bD 7 [x,y]=(61,[],[])from by simp[bD]];exact .done .err;conv=>whnf
 rw[show bD 8 [x,y]=(61,[],[])from by simp[bD]];exact .done .err;conv=>whnf
 rw[show bD 9 [x,y]=(61,[],[])from by simp[bD]];exact .done .err;conv=>whnf
 rw[show bD 10 [x,y]=(0,[],[1])from by simp[bD]];refine .mk λbL eS=>?_;conv=>whnf
 refine .done (.mk _ (kB _ _ _ _ _ (kD _ bL [1]) (by decide)) ?_);rintro cP bJ ⟨cr,dF⟩;have dc:=I.du (J:=.cells (([1]:List Int).map R).toArray 3 (0,0)) eS;conv=>whnf
 exact .done ⟨_,cP,rfl,(I.le_trans dc cr),.nil _ _,dF.mono dc (I.le_refl _)⟩;conv=>whnf
 rw[show bD 11 [x,y]=(61,[],[])from by simp[bD]];exact .done .err;rw[gU kW];rcases CZ with rfl|rfl|rfl|rfl|rfl|rfl|rfl|rfl|rfl|rfl|rfl;conv=>whnf
 refine .done (.mk _ (s8 _ 16 _) ?_);rintro _ _ ⟨rfl,rfl⟩;conv=>whnf
 rw[show bD 1 [x,y]=(0,[1],[1])from by simp[bD]];refine .mk λbL eS=>?_;conv=>whnf
 refine .done (.mk _ (kB _ _ _ _ _ (kD _ bL [1]) (by decide)) ?_);rintro cP bJ ⟨cr,dF⟩;have dc:=I.du (J:=.cells (([1]:List Int).map R).toArray 3 (0,0)) eS;conv=>whnf
 refine .mk λcy fC=>?_;conv=>whnf
 refine .done (.mk _ (kB _ _ _ _ _ (kD _ cy [1]) (by decide)) ?_);rintro a2 bB ⟨cn,dR⟩;have c9:=I.du (J:=.cells (([1]:List Int).map R).toArray 3 (0,0)) fC;conv=>whnf
 exact .done ⟨cP,a2,rfl,(I.le_trans dc (I.le_trans cr (I.le_trans c9 cn))),dF.mono dc (I.le_trans c9 cn),dR.mono (I.le_trans dc (I.le_trans cr c9)) (I.le_refl _)⟩;conv=>whnf
 rw[show bD 2 [x,y]=(61,[],[])from by simp[bD]];exact .done .err;conv=>whnf
 rw[show bD 3 [x,y]=(61,[],[])from by simp[bD]];exact .done .err;conv=>whnf
 rw[show bD 4 [x,y]=(61,[],[])from by simp[bD];omega];exact .done .err;conv=>whnf
 rw[show bD 5 [x,y]=(61,[],[])from by simp[bD];omega];exact .done .err;conv=>whnf
 rw[show bD 6 [x,y]=(61,[],[])from by simp[bD]];exact .done .err;conv=>whnf
 rw[show bD 7 [x,y]=(61,[],[])from by simp[bD]];exact .done .err;conv=>whnf
 rw[show bD 8 [x,y]=(61,[],[])from by simp[bD]];exact .done .err;conv=>whnf
 rw[show bD 9 [x,y]=(61,[],[])from by simp[bD]];exact .done .err;conv=>whnf
 rw[show bD 10 [x,y]=(0,[],[1])from by simp[bD]];refine .mk λbL eS=>?_;conv=>whnf
 refine .done (.mk _ (kB _ _ _ _ _ (kD _ bL [1]) (by decide)) ?_);rintro cP bJ ⟨cr,dF⟩;have dc:=I.du (J:=.cells (([1]:List Int).map R).toArray 3 (0,0)) eS;conv=>whnf
 exact .done ⟨_,cP,rfl,(I.le_trans dc cr),.nil _ _,dF.mono dc (I.le_refl _)⟩;conv=>whnf
 rw[show bD 11 [x,y]=(61,[],[])from by simp[bD]];exact .done .err;rw[gU hR];conv=>whnf
 rcases CZ with rfl|rfl|rfl|rfl|rfl|rfl|rfl|rfl|rfl|rfl|rfl;conv=>whnf
 refine .done (.mk _ (s8 _ 16 _) ?_);rintro _ _ ⟨rfl,rfl⟩;conv=>whnf
 rw[show bD 1 [x,y]=(0,[1],[1])from by simp[bD]];refine .mk λbL eS=>?_;conv=>whnf
 refine .done (.mk _ (kB _ _ _ _ _ (kD _ bL [1]) (by decide)) ?_);rintro cP bJ ⟨cr,dF⟩;have dc:=I.du (J:=.cells (([1]:List Int).map R).toArray 3 (0,0)) eS;conv=>whnf
 refine .mk λcy fC=>?_;conv=>whnf
 refine .done (.mk _ (kB _ _ _ _ _ (kD _ cy [1]) (by decide)) ?_);rintro a2 bB ⟨cn,dR⟩;have c9:=I.du (J:=.cells (([1]:List Int).map R).toArray 3 (0,0)) fC;conv=>whnf
 exact .done ⟨cP,a2,rfl,(I.le_trans dc (I.le_trans cr (I.le_trans c9 cn))),dF.mono dc (I.le_trans c9 cn),dR.mono (I.le_trans dc (I.le_trans cr c9)) (I.le_refl _)⟩;conv=>whnf
 rw[show bD 2 [x,y]=(61,[],[])from by simp[bD]];exact .done .err;conv=>whnf
 rw[show bD 3 [x,y]=(61,[],[])from by simp[bD]];exact .done .err;conv=>whnf
 rw[show bD 4 [x,y]=(61,[],[])from by simp[bD];omega];exact .done .err;conv=>whnf
 rw[show bD 5 [x,y]=(61,[],[])from by simp[bD];omega];exact .done .err;conv=>whnf
 rw[show bD 6 [x,y]=(61,[],[])from by simp[bD]];exact .done .err;conv=>whnf
 rw[show bD 7 [x,y]=(61,[],[])from by simp[bD]];exact .done .err;conv=>whnf
 rw[show bD 8 [x,y]=(61,[],[])from by simp[bD]];exact .done .err;conv=>whnf
 rw[show bD 9 [x,y]=(61,[],[])from by simp[bD]];exact .done .err;conv=>whnf
 rw[show bD 10 [x,y]=(0,[],[1])from by simp[bD]];refine .mk λbL eS=>?_;conv=>whnf
 refine .done (.mk _ (kB _ _ _ _ _ (kD _ bL [1]) (by decide)) ?_);rintro cP bJ ⟨cr,dF⟩;have dc:=I.du (J:=.cells (([1]:List Int).map R).toArray 3 (0,0)) eS;conv=>whnf
 exact .done ⟨_,cP,rfl,(I.le_trans dc cr),.nil _ _,dF.mono dc (I.le_refl _)⟩;conv=>whnf
 rw[show bD 11 [x,y]=(61,[],[])from by simp[bD]];exact .done .err;rw[gU ie];conv=>whnf
 rcases CZ with rfl|rfl|rfl|rfl|rfl|rfl|rfl|rfl|rfl|rfl|rfl;conv=>whnf
 refine .done (.mk _ (s8 _ 16 _) ?_);rintro _ _ ⟨rfl,rfl⟩;conv=>whnf
 rw[show bD 1 [x,y]=(0,[1],[1])from by simp[bD]];refine .mk λbL eS=>?_;conv=>whnf
 refine .done (.mk _ (kB _ _ _ _ _ (kD _ bL [1]) (by decide)) ?_);rintro cP bJ ⟨cr,dF⟩;have dc:=I.du (J:=.cells (([1]:List Int).map R).toArray 3 (0,0)) eS;conv=>whnf
 refine .mk λcy fC=>?_;conv=>whnf
 refine .done (.mk _ (kB _ _ _ _ _ (kD _ cy [1]) (by decide)) ?_);rintro a2 bB ⟨cn,dR⟩;have c9:=I.du (J:=.cells (([1]:List Int).map R).toArray 3 (0,0)) fC;conv=>whnf
 exact .done ⟨cP,a2,rfl,(I.le_trans dc (I.le_trans cr (I.le_trans c9 cn))),dF.mono dc (I.le_trans c9 cn),dR.mono (I.le_trans dc (I.le_trans cr c9)) (I.le_refl _)⟩;conv=>whnf
 rw[show bD 2 [x,y]=(61,[],[])from by simp[bD]];exact .done .err;conv=>whnf
 rw[show bD 3 [x,y]=(61,[],[])from by simp[bD]];exact .done .err;conv=>whnf
 rw[show bD 4 [x,y]=(61,[],[])from by simp[bD];omega];exact .done .err;conv=>whnf
 rw[show bD 5 [x,y]=(61,[],[])from by simp[bD];omega];exact .done .err;conv=>whnf
 rw[show bD 6 [x,y]=(61,[],[])from by simp[bD]];exact .done .err;conv=>whnf
 rw[show bD 7 [x,y]=(61,[],[])from by simp[bD]];exact .done .err;conv=>whnf
 rw[show bD 8 [x,y]=(61,[],[])from by simp[bD]];exact .done .err;conv=>whnf
 rw[show bD 9 [x,y]=(61,[],[])from by simp[bD]];exact .done .err;conv=>whnf
 rw[show bD 10 [x,y]=(0,[],[1])from by simp[bD]];refine .mk λbL eS=>?_;conv=>whnf
 refine .done (.mk _ (kB _ _ _ _ _ (kD _ bL [1]) (by decide)) ?_);rintro cP bJ ⟨cr,dF⟩;have dc:=I.du (J:=.cells (([1]:List Int).map R).toArray 3 (0,0)) eS;conv=>whnf
 exact .done ⟨_,cP,rfl,(I.le_trans dc cr),.nil _ _,dF.mono dc (I.le_refl _)⟩;conv=>whnf
 rw[show bD 11 [x,y]=(61,[],[])from by simp[bD]];exact .done .err;obtain⟨g,rfl⟩:=aO.cc (by simp);have di:(x::y::z::l).length=l.length+3:=rfl;conv=>whnf
 refine aW (λan=>?_) (λan=>by omega);conv=>whnf
 refine .mk g rfl (by decide) (by omega) ?_;conv=>whnf
 refine .hp (R x) (aO.one (i:=0) rfl rfl rfl) ?_;conv=>whnf
 refine aW (λaR=>?_) (λaR=>by omega);conv=>whnf
 refine .mk g rfl (by decide) (by omega) ?_;conv=>whnf
 refine .hp (R y) (aO.one (i:=1) rfl rfl rfl) ?_;conv=>whnf
 rcases CZ with rfl|rfl|rfl|rfl|rfl|rfl|rfl|rfl|rfl|rfl|rfl;conv=>whnf
 refine .done (.mk _ (s8 _ 16 _) ?_);rintro _ _ ⟨rfl,rfl⟩;by_cases hw:(1:Int)<=(((x::y::z::l).length:Nat):Int)/\(((x::y::z::l).length:Nat):Int)<=16;rw[fo hw];conv=>whnf
 rw[show bD 1 (x::y::z::l)=(0,[1],[1])from by simp[bD];omega];refine .mk λbL eS=>?_;conv=>whnf
 refine .done (.mk _ (kB _ _ _ _ _ (kD _ bL [1]) (by decide)) ?_);rintro cP bJ ⟨cr,dF⟩;have dc:=I.du (J:=.cells (([1]:List Int).map R).toArray 3 (0,0)) eS;conv=>whnf
 refine .mk λcy fC=>?_;conv=>whnf
 refine .done (.mk _ (kB _ _ _ _ _ (kD _ cy [1]) (by decide)) ?_);rintro a2 bB ⟨cn,dR⟩;have c9:=I.du (J:=.cells (([1]:List Int).map R).toArray 3 (0,0)) fC;conv=>whnf
 exact .done ⟨cP,a2,rfl,(I.le_trans dc (I.le_trans cr (I.le_trans c9 cn))),dF.mono dc (I.le_trans c9 cn),dR.mono (I.le_trans dc (I.le_trans cr c9)) (I.le_refl _)⟩;rw[gU hw];conv=>whnf
 rw[show bD 1 (x::y::z::l)=(61,[],[])from by simp[bD];omega];exact .done .err;conv=>whnf
 rw[show bD 2 (x::y::z::l)=(61,[],[])from by simp[bD]];exact .done .err;conv=>whnf
 rw[show bD 3 (x::y::z::l)=(61,[],[])from by simp[bD]];exact .done .err;conv=>whnf
 rw[show bD 4 (x::y::z::l)=(61,[],[])from by simp[bD]];exact .done .err;conv=>whnf
 rw[show bD 5 (x::y::z::l)=(61,[],[])from by simp[bD]];exact .done .err;conv=>whnf
 rw[show bD 6 (x::y::z::l)=(61,[],[])from by simp[bD]];exact .done .err;conv=>whnf
 rw[show bD 7 (x::y::z::l)=(61,[],[])from by simp[bD]];exact .done .err;conv=>whnf
 rw[show bD 8 (x::y::z::l)=(61,[],[])from by simp[bD]];exact .done .err;conv=>whnf
 rw[show bD 9 (x::y::z::l)=(61,[],[])from by simp[bD]];exact .done .err;conv=>whnf
 rw[show bD 10 (x::y::z::l)=(61,[],[])from by simp[bD]];exact .done .err;conv=>whnf
 rw[show bD 11 (x::y::z::l)=(61,[],[])from by simp[bD]];exact .done .err
def F5(p:ByteArray×Nat):MapEntry:={key:=.string p.1,val:=R 1,born:=p.2}
def rR(bp:List ByteArray):Obj:=.map (bp.zipIdx.map F5).toArray bp.length
theorem V3(a b:ByteArray):(a==b)=decide (a=b):=by
 have h1:(a==b)=(a.data==b.data):=rfl;rw[h1];by_cases e:a=b;subst e;simp;rw[gU e];have:a.data≠b.data:=λh=>e (aAj h);simpa using this
theorem XU(s:ByteArray):∀(l:List (ByteArray×Nat))(i:Nat),∃r,yk .string (.string s) (l.map F5) i=some r/\((r=none/\s∉l.map kn)\/∃o,r=some (o,R 1)/\s∈l.map kn)
 |[],i=>⟨none,rfl,.inl ⟨rfl,by simp⟩⟩
 |p::l,i=>by
  simp only[eO,yk,F5,Instr.sameNow];by_cases e:s=p.1;have:(s==p.1)=true:=by rw[V3,fo e]
  rw[this];exact⟨_,rfl,.inr ⟨_,rfl,by simp[e]⟩⟩;have:(s==p.1)=false:=by rw[V3,gU e]
  rw[this];obtain⟨r,h1,ab⟩:=XU s l (i+1);refine⟨r,h1,?_⟩;rcases ab with⟨aM,aD⟩|⟨o,aM,aD⟩;exact .inl ⟨aM,by simp only[dC,not_or];exact⟨e,aD⟩⟩;exact .inr ⟨o,aM,by simp only[dC];exact .inr aD⟩
theorem zip_fst(bp:List ByteArray):bp.zipIdx.map kn=bp:=by simp
theorem XS(s:ByteArray)(bp:List ByteArray)(w:bb):∃r,(BF 9 (.string s) (bp.zipIdx.map F5)).run aH w= .ok r w/\((r=none/\s∉bp)\/∃o,r=some (o,R 1)/\s∈bp):=by
 obtain⟨r,h1,ab⟩:=XU s bp.zipIdx 0;rw[zip_fst]at ab;refine⟨r,?_,ab⟩;have hu:=gj (w:=w) Ef;simp[BF,hu,h1]
theorem Wp(em:Bool)(s:ByteArray)(w:bb):(qp em 10000 9 (.string s)).run aH w= .ok () w:=by
 have:∀d,(qp em (d+1) 9 (.string s)).run aH w= .ok () w:=λd=>by simp[qp,gj Ef]
 exact this 9999
def CB(bp:List ByteArray)(s:ByteArray):Bool:=bp.any λt=>decide (t=s)
theorem Qo{bp:List ByteArray}:CB bp s=true↔s∈bp:=by simp[CB]
theorem ajP{a b:e3}{bp:List ByteArray}{w:bb}(hm:w.heap[m]?=some (rR bp)):vC aH (.lookup 331 a b false) [.map (some m),.string s] w (R (if CB bp s=true then 1 else 0)) w:=by
 intro kF q aq ah;simp[D2]at ah;obtain⟨h1,ab⟩:=ah;have hu:=gj (w:=w) aih;obtain⟨r,f1,f2⟩:=XS s bp w;have hk:=Wp (bp.zipIdx.map F5).toArray.isEmpty s w;have ak:(Cp m).run aH w= .ok (rR bp) w:=by simp[Cp,w3,hm,rR]
 simp only[cY,aq,h1,ab,Instr.lookup,g7,hu,hd,ak,rR,jR,hk,f1];rcases f2 with⟨rfl,aC⟩|⟨o,rfl,aC⟩;rw[aE (λe=>aC (Qo.1 e))];have aY:JK aH 3=some (R 0):=by kernel_rfl
 simp[agb aY];rw[aX (Qo.2 aC)];simp[R]
theorem ajQ{a b:e3}{bp:List ByteArray}{w:bb}(hm:w.heap[m]?=some (rR bp))(aC:s∉bp):∀(kF:e3->ao)(q:Oper),q.op= .mapUpdate 331 a b (.const (.int .i64 1))->(D2 (.mapUpdate 331 a b (.const (.int .i64 1)))).toList.map kF=[.map (some m),.string s,.int .i64 1]->(cY kF q).run aH w= .ok .skip {w with heap:=w.heap.setIfInBounds m (rR (bp++[s]))}:=by
 intro kF q aq ah;simp[D2]at ah;obtain⟨h1,ab,an⟩:=ah;have hu:=gj (w:=w) aih;obtain⟨r,f1,f2⟩:=XS s bp w;have hk:=Wp false s w;have ak:(Cp m).run aH w= .ok (rR bp) w:=by simp[Cp,w3,hm,rR]
 have kQ:∀gh,(setObj m gh).run aH w= .ok () {w with heap:=w.heap.setIfInBounds m gh}:=λgh=>by simp[setObj,w3,hm,rR]
 rcases f2 with⟨rfl,_⟩|⟨o,rfl,h⟩;simp only[cY,aq,h1,ab,an,Instr.mapUpdate,g7,hu,hd,ak,rR,jR,hk,f1,kQ];rw[show(⟨.string s,.int .i64 1,bp.length⟩:MapEntry)=F5 (s,bp.length)from rfl];simp[List.zipIdx_append];exact absurd h aC
def oc(bp:List ByteArray)(s:ByteArray):Int:=if A4 s=false then 82 else if CB bp s=true then 83 else 0
def xO(e:Int)(bp:List ByteArray)(s:ByteArray):List ByteArray:=if e=0 then bp++[s]else bp
theorem Sc(c m:Nat)(cs:List ao)(bp:List ByteArray)(s:ByteArray)(h:I)(aw:h c=some (.cells cs.toArray 334 (0,0)))(cg:cs[5]?=some (.map (some m)))(hm:h m=some (rR bp))(aj:s.size<=4611686018427387904):Fn aH 185 #[hj c,.string s] h λv U=>v=R (oc bp s)/\∃h1,h.le h1/\U=h1.put m (rR (xO (oc bp s) bp s)):=by
 refine b5 arG rfl ?_;refine .done (.mk _ (acr s _ aj) ?_);rintro _ h1 ⟨rfl,cr⟩;have ks:=cr _ _ aw;have mS:=cr _ _ hm;cases aC:A4 s;refine .done ⟨by rw[oc,aX aC];rfl,h1,cr,?_⟩;rw[oc,aX aC];exact(I.rW mS).symm;refine .hp _ (bN ks cg) ?_;refine .done (.mk _ (λw hw=>ajP (bp:=bp) (hw _ _ mS)) ?_);refine aW (λab=>?_) (λab=>?_);have lX:CB bp s=true:=by
  by_cases e:CB bp s=true;exact e;rw[aE e]at ab;omega
 have kP:oc bp s=83:=by rw[oc,aE (by simp[aC]),aX lX]
 refine .done ⟨by rw[kP];rfl,h1,cr,?_⟩;rw[kP];exact(I.rW mS).symm;have lX:¬CB bp s=true:=by
  intro e;rw[aX e]at ab;omega
 have kP:oc bp s=0:=by rw[oc,aE (by simp[aC]),aE lX]
 refine .hp _ (bN ks cg) ?_;refine .done (.aeM m _ _ mS (λw hw=>ajQ (hw _ _ mS) λe=>lX (Qo.2 e)) ?_);refine .done ⟨by rw[kP];rfl,h1,cr,?_⟩;rw[kP];rfl
theorem alf(l:List ao):(l.map λv=>[v]).flatten=l:=by
 induction l with
 |nil=>rfl
 |cons a l bE=>rw[eO,List.flatten_cons,bE];rfl
theorem bz.dr{l:List ao}(x:bz h bs 1 A n c l):bg h 1 A n (l.map λv=>[v]):=bz.dG (by rw[alf];exact x) (λr am=>by obtain⟨v,_,rfl⟩:=dn.1 am;rfl) (by decide)
def xa(r:List Bool):Obj:=.cells (r.map qB).toArray 4 (0,0)
def m8(p:Nat×List Bool):ao:=.slice (some ⟨p.1,0,none⟩) p.2.length p.2.length
structure GZ(h:I)(A:Option ar)(c:Nat)(rs:List (Nat×List Bool)):Prop where
 out:bz h 193 1 A rs.length c (rs.map m8)
 gl:∀p∈rs,h p.1=some (xa p.2)
theorem GZ.row{rs:List (Nat×List Bool)}(x:GZ h A c rs){g:ar}(ak:A=some g)(ag:i<rs.length):h.cell? (g.add (i*1))=some (m8 rs[i]):=x.out.dr.one ak (i:=i) (by rw[dV,dV,bZ ag];rfl) rfl
def pC(rs:List (Nat×List Bool))(a p:Int):Int:=
 if a<0\/(rs.length:Int)<=a then 84 else
 if p<0\/((rs.getD a.toNat (0,[])).2.length:Int)<=p then 85 else
 if(rs.getD a.toNat (0,[])).2.getD p.toNat false=true then 86 else 0
def nm(rs:List (Nat×List Bool))(a p:Nat):List (Nat×List Bool):=rs.set a ((rs.getD a (0,[])).1,(rs.getD a (0,[])).2.set p true)
def pB(h:I)(rs:List (Nat×List Bool))(a p:Int):I:=if pC rs a p=0 then h.put (rs.getD a.toNat (0,[])).1 (xa ((rs.getD a.toNat (0,[])).2.set p.toNat true))else h
theorem Nc(A:Option ar)(c:Nat)(rs:List (Nat×List Bool))(a p:Int)(h:I)(x:GZ h A c rs):Fn aH 186 #[.slice A rs.length c,R a,R p] h λv U=>v=R (pC rs a p)/\U=pB h rs a p:=by
 refine b5 arH rfl ?_;have KC:(a<0\/(rs.length:Int)<=a)->pC rs a p=84:=λe=>by rw[pC,aX e]
 refine aW (λh1=>?_) (λh1=>?_);exact .done ⟨by rw[KC (.inl h1)];rfl,by simp[pB,KC (.inl h1)]⟩;refine aW (λab=>?_) (λab=>?_);exact .done ⟨by rw[KC (.inr ab)];rfl,by simp[pB,KC (.inr ab)]⟩;obtain⟨i,rfl⟩:∃i:Nat,a=i:=⟨a.toNat,by omega⟩;have ag:i<rs.length:=by omega
 have aB:rs.getD (i:Int).toNat (0,[])=rs[i]:=by simp[cN,bZ ag]
 have KD:(p<0\/(rs[i].2.length:Int)<=p)->pC rs i p=85:=λe=>by rw[pC,aE (by omega),aB,aX e]
 obtain⟨g,ak⟩:=x.out.dr.cc (by omega);have am:=x.row ak ag;refine aW (λan=>?_) (λan=>?_);exact .done ⟨by rw[KD (.inl an)];rfl,by simp[pB,KD (.inl an)]⟩;refine .mk g ak (by omega) (by omega) ?_;refine .hp _ (by rw[bq];exact am) ?_;refine aW (λaR=>?_) (λaR=>?_);exact .done ⟨by rw[KD (.inr aR)];rfl,by simp[pB,KD (.inr aR)]⟩;obtain⟨k,rfl⟩:∃k:Nat,p=k:=⟨p.toNat,by omega⟩;have hk:k<rs[i].2.length:=by omega
 have af:=x.gl rs[i] (cS ag);have Lu:rs[i].2.getD (k:Int).toNat false=rs[i].2[k]:=by simp[cN,bZ hk]
 have qF:pC rs i k=if rs[i].2[k]=true then 86 else 0:=by rw[pC,aE (by omega),aB,aE (by omega),Lu]
 have lV:h.cell? ((Addr.mk rs[i].1 0 none).add (k*1))=some (.bool rs[i].2[k]):=by
  rw[add_lit,dJ,ew];exact bN af (by rw[dV,bZ hk];rfl)
 refine .mk g ak (by omega) (by omega) ?_;refine .hp _ (by rw[bq];exact am) ?_;refine .mk _ rfl (by omega) (by omega) ?_;refine .hp _ (by rw[bq];exact lV) ?_;cases ah:rs[i].2[k];rw[ah]at qF;refine .mk g ak (by omega) (by omega) ?_;refine .hp _ (by rw[bq];exact am) ?_;refine .mk _ rfl (by omega) (by omega) ?_;refine .hp rs[i].1 (k*1) 4 (rs[i].2.map qB) ((rs[i].2.set k true).map qB) (by rw[add_lit,dJ,bq]) af (by rw[ib _ _ _ (by simp;omega),List.map_set,ew]) ?_;refine .done ⟨by rw[qF];rfl,?_⟩;rw[pB,qF,aB];simp[xa];rw[ah]at qF;exact .done ⟨by rw[qF];rfl,by rw[pB,qF];simp⟩
structure h8 where
 dD:ByteArray
 tag:Int
 A:Option ar
 n:Nat
 c:Nat
 be:List Int
def h8.cells(a:h8):List ao:=[.string a.dD,.int .u8 a.tag,.slice a.A a.n a.c]
structure h8.ok(h:I)(a:h8):Prop where
 dG:bg h 1 a.A a.n (a.be.map λz=>[R z])
 n8:a.n*8<=140737488355328
 gp:a.dD.size<=4611686018427387904
structure GE where
 src:Int
 sp:Int
 dst:Int
 ly:Int
 A:Option ar
 n:Nat
 c:Nat
 st:List Int
def GE.cells(a:GE):List ao:=[R a.src,R a.sp,R a.dst,R a.ly,.slice a.A a.n a.c]
structure GE.ok(h:I)(a:GE):Prop where
 dG:bg h 1 a.A a.n (a.st.map λz=>[R z])
 n8:a.n*8<=140737488355328
structure k0 where
 dD:ByteArray
 act:Int
 port:Int
def k0.cells(a:k0):List ao:=[.string a.dD,R a.act,R a.port]
structure eY where
 dD:ByteArray
 hf:Option ar
 ac:Nat
 bt:List h8
 gv:Option ar
 cM:Nat
 cp:List GE
 eF:Option ar
 cE:Nat
 ins:List k0
 ct:Option ar
 bO:Nat
 outs:List k0
def eY.cells(g:eY):List ao:=[.string g.dD,.slice g.hf g.bt.length g.ac,.slice g.gv g.cp.length g.cM,.slice g.eF g.ins.length g.cE,.slice g.ct g.outs.length g.bO]
structure eY.ok(h:I)(g:eY):Prop where
 dD:g.dD.size<=4611686018427387904
 bt:bg h 3 g.hf g.bt.length (g.bt.map h8.cells)
 act:∀a∈g.bt,a.ok h
 cp:bg h 5 g.gv g.cp.length (g.cp.map GE.cells)
 Ao:∀a∈g.cp,a.ok h
 ins:bg h 3 g.eF g.ins.length (g.ins.map k0.cells)
 aak:∀a∈g.ins,a.dD.size<=4611686018427387904
 outs:bg h 3 g.ct g.outs.length (g.outs.map k0.cells)
 adg:∀a∈g.outs,a.dD.size<=4611686018427387904
theorem eY.ok.mono{h U:I}{g:eY}(x:g.ok h)(le:h.le U):g.ok U:=⟨x.dD,x.bt.mono le,λa a6=>⟨(x.act a a6).dG.mono le,(x.act a a6).n8,(x.act a a6).gp⟩,x.cp.mono le,λa a6=>⟨(x.Ao a a6).dG.mono le,(x.Ao a a6).n8⟩,x.ins.mono le,x.aak,x.outs.mono le,x.adg⟩
def sr(g:eY):Int:=
 if A4 g.dD=false then 82 else if g.bt.length=0 then 80 else if 32<g.bt.length then 81 else if 96<g.cp.length then 81 else if 16<g.ins.length then 81 else if 16<g.outs.length then 81 else 0
def yF(g:eY)(m:Nat)(cm O:ao):List ao:=g.cells++[.map (some m),cm,O]
def DB(a b c:Int):ao:=.agg #[.int .u8 a,R b,R c]
theorem amW(c m:Nat)(g:eY)(cm O:ao)(h:I)(aw:h c=some (.cells (yF g m cm O).toArray 334 (0,0)))(ok:g.ok h):Fn aH 143 #[hj c] h λv U=>h.le U/\∃s1 s2 hN,v= .tuple #[R (sr g),DB s1 s2 hN]:=by
 refine b5 ark rfl ?_;refine .hp g.cells rfl (λo v ah=>?_) ?_;simp only[add_lit,dJ];exact bN aw (by rw[yF,List.getElem?_append_left (qt.1 ah).1];exact ah);refine .done (.mk _ (acr _ _ ok.dD) ?_);rintro _ h1 ⟨rfl,cr⟩;cases aC:A4 g.dD;exact .done ⟨cr,_,_,_,by rw[sr,aX aC];rfl⟩;refine aW (λaM=>?_) (λaM=>?_);exact .done ⟨cr,_,_,_,by rw[sr,aE (by simp[aC]),aX (by omega)];rfl⟩;refine aW (λaD=>?_) (λaD=>?_);exact .done ⟨cr,_,_,_,by rw[sr,aE (by simp[aC]),aE (by omega),aX (by omega)];rfl⟩;refine aW (λbj=>?_) (λbj=>?_);exact .done ⟨cr,_,_,_,by rw[sr,aE (by simp[aC]),aE (by omega),aE (by omega),aX (by omega)];rfl⟩;refine aW (λbT=>?_) (λbT=>?_);exact .done ⟨cr,_,_,_,by rw[sr,aE (by simp[aC]),aE (by omega),aE (by omega),aE (by omega),aX (by omega)];rfl⟩;refine aW (λdz=>?_) (λdz=>?_);exact .done ⟨cr,_,_,_,by rw[sr,aE (by simp[aC]),aE (by omega),aE (by omega),aE (by omega),aE (by omega),aX (by omega)];rfl⟩;exact .done ⟨cr,_,_,_,by rw[sr,aE (by simp[aC]),aE (by omega),aE (by omega),aE (by omega),aE (by omega),aE (by omega)];rfl⟩
def dP(c m:Nat)(aU ro:List (Nat×List Bool)):List Nat:=c::m::(aU.map kn++ro.map kn)
structure kj(ai h:I)(c m:Nat)(g:eY)(bp:List ByteArray)(cm O:ao)(aU ro:List (Nat×List Bool)):Prop where
 le:ai.le h
 head:h c=some (.cells (yF g m cm O).toArray 334 (0,0))
 map:h m=some (rR bp)
 gl:∀p∈aU++ro,h p.1=some (xa p.2)
 gR:(dP c m aU ro).Nodup
 new:∀b∈dP c m aU ro,ai b=none
structure kG(ai h:I)(c m:Nat)(g:eY)(bp:List ByteArray)(gH:Option ar)(cE:Nat)(aU:List (Nat×List Bool))(gy:Option ar)(bO:Nat)(ro:List (Nat×List Bool)):Prop where
 core:kj ai h c m g bp (.slice gH aU.length cE) (.slice gy ro.length bO) aU ro
 Dq:bz h 193 1 gH aU.length cE (aU.map m8)
 Dr:bz h 193 1 gy ro.length bO (ro.map m8)
 Ar:∀g,gH=some g->g.block∉dP c m aU ro/\ai g.block=none
 As:∀g,gy=some g->g.block∉dP c m aU ro/\ai g.block=none
 aDv:∀g b7,gH=some g->gy=some b7->g.block≠b7.block
section
variable {ai h U:I}{c m cE bO:Nat}{g:eY}{bp pv:List ByteArray}{cm O:ao}{gH gy:Option ar}{aU ro:List (Nat×List Bool)}
theorem I.ju(e:k≠b):h.put b J k=h k:=by simp[I.put,e]
theorem zj(le:ai.le h)(e:ai b=none):ai.le (h.put b J):=λo gh ae=>by
 have:o≠b:=λq=>by rw[q,e]at ae;cases ae
 rw[I.ju this];exact le _ _ ae
theorem kj.mono(x:kj ai h c m g bp cm O aU ro)(le:h.le U):kj ai U c m g bp cm O aU ro:=⟨I.le_trans x.le le,le _ _ x.head,le _ _ x.map,λp hp=>le _ _ (x.gl p hp),x.gR,x.new⟩
theorem kj.sf(x:kj ai h c m g bp cm O aU ro):c≠m/\(∀p∈aU++ro,p.1≠c/\p.1≠m):=by
 have gR:=x.gR;simp only[dP,k3,dC,ev,not_or]at gR;obtain⟨⟨c1,c2⟩,eI,_⟩:=gR;refine⟨c1,λp hp=>⟨λe=>?_,λe=>?_⟩⟩;rcases ev.1 hp with q|q;exact c2.1 (by rw[<-e];exact dn.2 ⟨p,q,rfl⟩);exact c2.2 (by rw[<-e];exact dn.2 ⟨p,q,rfl⟩);rcases ev.1 hp with q|q;exact eI.1 (by rw[<-e];exact dn.2 ⟨p,q,rfl⟩);exact eI.2 (by rw[<-e];exact dn.2 ⟨p,q,rfl⟩)
theorem kj.names(x:kj ai h c m g bp cm O aU ro):kj ai (h.put m (rR pv)) c m g pv cm O aU ro:=by
 obtain⟨c1,c2⟩:=x.sf;exact⟨zj x.le (x.new m (by simp[dP])),by rw[I.ju c1];exact x.head,I.bP _ _ _,λp hp=>by rw[I.ju (c2 p hp).2];exact x.gl p hp,x.gR,x.new⟩
theorem kj.aB{JS J8:ao}(x:kj ai h c m g bp cm O aU ro):kj ai (h.put c (.cells (yF g m JS J8).toArray 334 (0,0))) c m g bp JS J8 aU ro:=by
 obtain⟨c1,c2⟩:=x.sf;exact⟨zj x.le (x.new c (by simp[dP])),I.bP _ _ _,by rw[I.ju (d9 c1)];exact x.map,λp hp=>by rw[I.ju (c2 p hp).1];exact x.gl p hp,x.gR,x.new⟩
theorem WF(le:ai.le h)(f:∀g,A=some g->ai g.block=none):ai.le (ei h A):=by
 cases A with
 |none=>exact le
 |some g=>
  intro o J ae;have:o≠g.block:=λe=>by rw[e,f g rfl]at ae;cases ae
  simp only[ei,I.del];rw[aE this];exact le _ _ ae
theorem ajL(f:∀g,A=some g->g.block≠o):ei h A o=h o:=by
 cases A with
 |none=>rfl
 |some g=>simp only[ei,I.del];rw[aE (d9 (f g rfl))]
theorem kj.del(x:kj ai h c m g bp cm O aU ro)(f:∀g,A=some g->g.block∉dP c m aU ro/\ai g.block=none):kj ai (ei h A) c m g bp cm O aU ro:=by
 have ne:∀o∈dP c m aU ro,ei h A o=h o:=λo ae=>ajL λg ak e=>(f g ak).1 (by rw[e];exact ae);refine⟨WF x.le λg ak=>(f g ak).2,by rw[ne c (by simp[dP])];exact x.head,by rw[ne m (by simp[dP])];exact x.map,λp hp=>?_,x.gR,x.new⟩;rw[ne p.1];exact x.gl p hp;rcases ev.1 hp with q|q;simp only[dP,dC,ev];exact .inr (.inr (.inl (dn.2 ⟨p,q,rfl⟩)));simp only[dP,dC,ev];exact .inr (.inr (.inr (dn.2 ⟨p,q,rfl⟩)))
theorem kj.pu(x:kj ai h c m g bp cm O aU ro):∀o∈dP c m aU ro,h o≠none:=by
 intro o ae;simp only[dP,dC,ev,dn]at ae;rcases ae with rfl|rfl|⟨p,hp,rfl⟩|⟨p,hp,rfl⟩;rw[x.head];simp;rw[x.map];simp;rw[x.gl p (by simp[hp])];simp;rw[x.gl p (by simp[hp])];simp
theorem ad7{b:ar}(r:bz h 4 1 (some b) n n (bG n (.bool false))):b=⟨b.block,0,none⟩/\h b.block=some (xa (bG n false)):=by
 obtain⟨_,r⟩:=r;rcases r with⟨e,_⟩|⟨k,a8,e,aI,_,_,mf,tx⟩;cases e;injection e with e;subst e;refine⟨rfl,?_⟩;rw[aI,xa];have:a8=(List.map qB (bG n false)).toArray:=by
  rw[<-Array.toArray_toList (xs:=a8)];congr 1;rw[k4 (by simp[mf])]at tx;rw[tx];simp
 rw[this]
theorem kj.aiG{r:List Bool}(x:kj ai h c m g bp cm O aU ro)(le:h.le U)(af:h b=none)(am:U b=some (xa r)):kj ai U c m g bp cm O (aU++[(b,r)]) ro:=by
 have aC:b∉dP c m aU ro:=λae=>x.pu b ae af;have perm:(dP c m (aU++[(b,r)]) ro).Perm (b::dP c m aU ro):=by
  simp only[dP,fm,eO,zU,mb];have h1:(aU.map kn++([b]++ro.map kn)).Perm (b::(aU.map kn++ro.map kn)):=List.perm_middle;exact((h1.cons m).cons c).trans (((N1 b m _).cons c).trans (N1 b c _))
 have y:=x.mono le;refine⟨y.le,y.head,y.map,λp hp=>?_,?_,λo ae=>?_⟩;rcases ev.1 hp with q|q;rcases ev.1 q with q|q;exact y.gl p (by simp[q]);simp only[fx]at q;subst q;exact am;exact y.gl p (by simp[q]);exact perm.nodup_iff.2 (k3.2 ⟨aC,x.gR⟩);rcases dC.1 (perm.mem_iff.1 ae)with q|q;subst q;exact I.none_le x.le af;exact x.new o q
theorem kj.aiI{r:List Bool}(x:kj ai h c m g bp cm O aU ro)(le:h.le U)(af:h b=none)(am:U b=some (xa r)):kj ai U c m g bp cm O aU (ro++[(b,r)]):=by
 have aC:b∉dP c m aU ro:=λae=>x.pu b ae af;have perm:(dP c m aU (ro++[(b,r)])).Perm (b::dP c m aU ro):=by
  simp only[dP,fm,eO,zU,<-mb];have h1:(aU.map kn++ro.map kn++[b]).Perm (b::(aU.map kn++ro.map kn)):=List.perm_append_comm;exact((h1.cons m).cons c).trans (((N1 b m _).cons c).trans (N1 b c _))
 have y:=x.mono le;refine⟨y.le,y.head,y.map,λp hp=>?_,?_,λo ae=>?_⟩;rcases ev.1 hp with q|q;exact y.gl p (by simp[q]);rcases ev.1 q with q|q;exact y.gl p (by simp[q]);simp only[fx]at q;subst q;exact am;exact perm.nodup_iff.2 (k3.2 ⟨aC,x.gR⟩);rcases dC.1 (perm.mem_iff.1 ae)with q|q;subst q;exact I.none_le x.le af;exact x.new o q
end
end Go.Sx
