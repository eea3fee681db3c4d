/- A part of the proof that the statement holds. Conditions: none. -/
import Derived.Laws.BytesString
import Derived.Test.YtlbdbpaelcnfgaaGreatDoorAO
import Derived.Test.YtlbdbpaelcnfgaaGreatDoorAQ
import Derived.Test.YtlbdbpaelcnfgaaGreatDoorAR
import Derived.Test.YtlbdbpaelcnfgaaGreatDoorAS
import Derived.Test.YtlbdbpaelcnfgaaGreatDoorAT
import Derived.Test.YtlbdbpaelcnfgaaGreatDoorAU
open Go renaming Addr->aE,Value->aA,World->bD,method->kt
open Go.Made renaming depth->ko
open Go.Obj renaming cells->bb
open Go.Proofs.Tryz renaming prog->aD
open Go.Value renaming bool->dh,int->bC,slice->ab,tuple->eA
open List renaming map_replicate->p7,mem_singleton->hZ,mem_singleton_self->G',replicate->bp
open Ne renaming symm->eh
namespace Go.Sx
open Go.Proofs
set_option maxRecDepth 100000
set_option maxHeartbeats 0
set_option linter.all false
variable {l:List Int}{b bG bV tag:Nat}{w:bD}
theorem HL{t:Nat}{a:Operand}{v:aA}(d:Tryz.prog.concrete t=true):wu aD (.makeInterface t a) [v] w (.iface t v) w:=by
 intro e q c b;simp[Op.operands]at b;simp[execOp,c,b,run_makeInterface (P:=aD) (h:=d)]
abbrev bY(b:Nat):aA:=Value.pointer (some ⟨b,0,none⟩)
def En:Nat->Nat
 |1=>296
 |2=>299
 |3=>302
 |4=>304
 |5=>306
 |6=>308
 |7=>310
 |8=>312
 |9=>317
 |10=>319
 |_=>322
theorem aa8:Tryz.prog.concrete 296=true:=fl
theorem ap5:Tryz.prog.concrete 299=true:=fl
theorem ap6:Tryz.prog.concrete 312=true:=fl
theorem ap7:Tryz.prog.concrete 319=true:=fl
theorem ap8:Tryz.prog.concrete 322=true:=fl
theorem aDP:(kt (Tryz.prog.types.size+ko) 296 (bY b) "pianola/actors.rates").run aD w= .ok (244,bY b) w:=fl
theorem aDQ:(kt (Tryz.prog.types.size+ko) 299 (bY b) "pianola/actors.rates").run aD w= .ok (244,bY b) w:=fl
theorem aDR:(kt (Tryz.prog.types.size+ko) 302 (bY b) "pianola/actors.rates").run aD w= .ok (244,bY b) w:=fl
theorem aDS:(kt (Tryz.prog.types.size+ko) 304 (bY b) "pianola/actors.rates").run aD w= .ok (244,bY b) w:=fl
theorem aDT:(kt (Tryz.prog.types.size+ko) 306 (bY b) "pianola/actors.rates").run aD w= .ok (244,bY b) w:=fl
theorem aDU:(kt (Tryz.prog.types.size+ko) 308 (bY b) "pianola/actors.rates").run aD w= .ok (244,bY b) w:=fl
theorem aDV:(kt (Tryz.prog.types.size+ko) 310 (bY b) "pianola/actors.rates").run aD w= .ok (244,bY b) w:=fl
theorem aDW:(kt (Tryz.prog.types.size+ko) 312 (bY b) "pianola/actors.rates").run aD w= .ok (244,bY b) w:=fl
theorem aDX:(kt (Tryz.prog.types.size+ko) 317 (bY b) "pianola/actors.rates").run aD w= .ok (244,bY b) w:=fl
theorem aDY:(kt (Tryz.prog.types.size+ko) 319 (bY b) "pianola/actors.rates").run aD w= .ok (244,bY b) w:=fl
theorem aDZ:(kt (Tryz.prog.types.size+ko) 322 (bY b) "pianola/actors.rates").run aD w= .ok (244,bY b) w:=fl
theorem arP:(kt (Tryz.prog.types.size+ko) 296 (bY b) "pianola/actors.fired").run aD w= .ok (242,bY b) w:=fl
theorem arQ:(kt (Tryz.prog.types.size+ko) 299 (bY b) "pianola/actors.fired").run aD w= .ok (242,bY b) w:=fl
theorem arR:(kt (Tryz.prog.types.size+ko) 302 (bY b) "pianola/actors.fired").run aD w= .ok (242,bY b) w:=fl
theorem arS:(kt (Tryz.prog.types.size+ko) 304 (bY b) "pianola/actors.fired").run aD w= .ok (242,bY b) w:=fl
theorem arT:(kt (Tryz.prog.types.size+ko) 306 (bY b) "pianola/actors.fired").run aD w= .ok (242,bY b) w:=fl
theorem arU:(kt (Tryz.prog.types.size+ko) 308 (bY b) "pianola/actors.fired").run aD w= .ok (242,bY b) w:=fl
theorem arV:(kt (Tryz.prog.types.size+ko) 310 (bY b) "pianola/actors.fired").run aD w= .ok (242,bY b) w:=fl
theorem arW:(kt (Tryz.prog.types.size+ko) 312 (bY b) "pianola/actors.fired").run aD w= .ok (242,bY b) w:=fl
theorem arX:(kt (Tryz.prog.types.size+ko) 317 (bY b) "pianola/actors.fired").run aD w= .ok (242,bY b) w:=fl
theorem arY:(kt (Tryz.prog.types.size+ko) 319 (bY b) "pianola/actors.fired").run aD w= .ok (242,bY b) w:=fl
theorem arZ:(kt (Tryz.prog.types.size+ko) 322 (bY b) "pianola/actors.fired").run aD w= .ok (242,bY b) w:=fl
theorem aD8:(kt (Tryz.prog.types.size+ko) 296 (bY b) "pianola/actors.reckon").run aD w= .ok (245,bY b) w:=fl
theorem aD9:(kt (Tryz.prog.types.size+ko) 299 (bY b) "pianola/actors.reckon").run aD w= .ok (249,bY b) w:=fl
theorem aD':(kt (Tryz.prog.types.size+ko) 302 (bY b) "pianola/actors.reckon").run aD w= .ok (250,bY b) w:=fl
theorem aEa:(kt (Tryz.prog.types.size+ko) 304 (bY b) "pianola/actors.reckon").run aD w= .ok (251,bY b) w:=fl
theorem aEb:(kt (Tryz.prog.types.size+ko) 306 (bY b) "pianola/actors.reckon").run aD w= .ok (252,bY b) w:=fl
theorem aEc:(kt (Tryz.prog.types.size+ko) 308 (bY b) "pianola/actors.reckon").run aD w= .ok (253,bY b) w:=fl
theorem aEd:(kt (Tryz.prog.types.size+ko) 310 (bY b) "pianola/actors.reckon").run aD w= .ok (255,bY b) w:=fl
theorem aEe:(kt (Tryz.prog.types.size+ko) 312 (bY b) "pianola/actors.reckon").run aD w= .ok (258,bY b) w:=fl
theorem aEf:(kt (Tryz.prog.types.size+ko) 317 (bY b) "pianola/actors.reckon").run aD w= .ok (259,bY b) w:=fl
theorem aEg:(kt (Tryz.prog.types.size+ko) 319 (bY b) "pianola/actors.reckon").run aD w= .ok (260,bY b) w:=fl
theorem aEh:(kt (Tryz.prog.types.size+ko) 322 (bY b) "pianola/actors.reckon").run aD w= .ok (261,bY b) w:=fl
abbrev gi(l:List Int):List (List aA):=l.map λz=>[R z]
def x5:Nat->Nat
 |1=>298
 |2=>301
 |3=>303
 |4=>305
 |5=>307
 |6=>309
 |7=>311
 |8=>316
 |9=>318
 |10=>321
 |_=>323
def s9(B:J)(tag:Nat)(a st:List Int)(X:List aA):Prop:=
 if tag=1 then∃b d xx c,X=[ab b a.length d,ab xx st.length c]/\bg B 1 b a.length (gi a)/\bg B 1 xx st.length (gi st)
 else if tag=8 then∃x,st=[x]/\X=[R x]
 else if tag=10 then∃x,st=[x]/\X=[R x,R (a.getD 1 0)]
 else st=[]/\X=[]
def yQ(tag:Nat)(a:List Int):List Int:=
 if tag=1 then bp (a.length-1) 0
 else if tag=8 then[0]
 else if tag=10 then[a.getD 0 0]
 else[]
theorem s9.mono{B j:J}{tag:Nat}{i st:List Int}{X:List aA}(t:s9 B tag i st X)(le:B.le j):s9 j tag i st X:=by
 unfold s9 at t⊢;split at t;rename_i h;rw[aS h];obtain⟨a,b,c,d,e,f,g⟩:=t;exact⟨a,b,c,d,e,f.mono le,g.mono le⟩;rename_i h;rw[aC h];exact t
noncomputable def nr(h aa:J)(bG:Nat):J:=aa.on λo=>h o=none/\o≠bG
theorem aA'(tag:Nat) z cn t ci no co A n c d h(B:bg h 1 A n (gi d))(h1:1<=tag)(ae:tag<=11)(Z:n<=1000)(Q:tag=1->1<=n)(F:tag=10->n=2):Fn aD 86 #[bC .u8 tag,.agg #[ab z t ci,ab cn no co,R 0],ab A n c] h λv aa=>h.le aa/\∃bG X,v= .iface (En tag) (bY bG)/\h bG=none/\aa bG=some (bb (ab z t ci::ab cn no co::R 0::X).toArray (x5 tag) (0,0))/\s9 (nr h aa bG) tag d (yQ tag d) X:=by
 have al:d.length=n:=by simpa using B.len
 refine bU az2 rfl ?_;have cl:=S0 A n c d h B I;refine ay λfD V eT=>V _ _ _ (ay λfy U u=>ay λfz T eZ=>T _ _ _ (ew λfE dR m=>?_));have av:tag=1\/tag=10\/tag=8\/(tag=2\/tag=3\/tag=4\/tag=5\/tag=6\/tag=7\/tag=9)\/tag=11:=I;rcases av with rfl|rfl|rfl|av|rfl;have ti:=Q rfl;have fin:∀(ae j:J)(b c2:Nat)(f:Option aE)(g:aE)(s:Nat),h.le ae->ae b=none->bw ae 3 1 f n c2 (d.map R)->(∀g,f=some g->h g.block=none)->(ae.put b (bb #[ab z t ci,ab cn no co,R 0,ab f n c2,ab (some g) (n-1) s] 298 (0,0))).le j->bw j 3 1 (some g) (n-1) s (bp (n-1) (R 0))->(ae.put b (bb #[ab z t ci,ab cn no co,R 0,ab f n c2,ab (some g) (n-1) s] 298 (0,0))) g.block=none->h.le j/\∃bG X,(Value.iface 296 (bY b))= .iface (En 1) (bY bG)/\h bG=none/\j bG=some (bb (ab z t ci::ab cn no co::R 0::X).toArray (x5 1) (0,0))/\s9 (nr h j bG) 1 d (yQ 1 d) X:=by
  intro ae j b c2 f g s le a p f2 k r f3;have E:g.block≠b:=λe=>by rw[e,J.b8]at f3;cases f3
  have G:h g.block=none:=J.none_le le (by rwa[J.cD _ _ E]at f3);have H:=J.none_le le a;refine⟨J.le_trans le (J.le_trans (J.d' a) k),b,[ab f n c2,ab (some g) (n-1) s],rfl,H,k _ _ (J.b8 _ _ _),?_⟩;unfold s9 yQ;rw[aS rfl,aS rfl,al,List.length_replicate];refine⟨f,c2,some g,s,rfl,?_,?_⟩;have W:=p.mono (J.le_trans (J.d' a) k);refine(bw.on (S:=λo=>h o=none/\o≠b) W λD l=>⟨f2 D l,λe=>?_⟩).one;exact p.mem l (by rw[e];exact a);have Y:(bp (n-1) (R 0))=(bp (n-1) (0:Int)).map R:=by rw[p7]
  rw[Y]at r;exact(bw.on (S:=λo=>h o=none/\o≠b) r λD l=>by injection l with l;subst l;exact⟨G,E⟩).one
 refine .bl (⟨?_,?_⟩);refine .mk _ cl (λv aa q=>q.1) ?_;rintro _ ae ⟨le,f,c2,rfl,p,f2⟩;exact .one (n-1) (R 0) rfl rfl I I I I λg=>.mk λb a=>.ag (.mk _ (λw _=>HL aa8) (m _ _ _ _ nofun (u _ _ _ _ nofun (.b5 1 3 1 (some g) (n-1) (n-1) _ rfl λj k r f3=>.ag (fin _ _ _ _ _ _ _ le a p f2 k r (f3 g rfl))))));refine .one (n-1) (R 0) rfl rfl I I I I λg=>.mk _ cl (λv aa q=>q.1) ?_;rintro _ ae ⟨le,f,c2,rfl,p,f2⟩;exact .mk λb a=>.ag (.mk _ (λw _=>HL aa8) (m _ _ _ _ nofun (u _ _ _ _ nofun (.b5 1 3 1 (some g) (n-1) (n-1) _ rfl λj k r f3=>.ag (fin _ _ _ _ _ _ _ le a p f2 k r (f3 g rfl))))));obtain rfl:=F rfl;obtain⟨g,C⟩:=B.b4 I;obtain⟨x,y,rfl⟩:∃x y,d=[x,y]:=by
  rcases d with _|⟨x,_|⟨y,_|_⟩⟩;cases al;cases al;exact⟨x,y,rfl⟩;cases al
 exact .mk g C aH aH (.hp _ (B.one C (i:=0) rfl rfl) (.mk g C aH aH (.hp _ (B.one C (i:=1) rfl rfl) (.mk λb a=>.ag (.mk _ (λw _=>HL ap7) (m _ _ _ _ nofun (u _ _ _ _ nofun (.ag ⟨J.d' a,b,[R x,R y],rfl,a,J.b8 _ _ _,_,rfl,rfl⟩))))))));exact .mk λb a=>.ag (.mk _ (λw _=>HL ap6) (m _ _ _ _ nofun (u _ _ _ _ nofun (.ag ⟨J.d' a,b,[R 0],rfl,a,J.b8 _ _ _,_,rfl,rfl⟩))))
 .rcases av with rfl|rfl|rfl|rfl|rfl|rfl|rfl;all_goals
   exact .mk λb a=>.ag (.mk _ (λw _=>HL (by first|exact ap5|exact K|exact L|exact M|exact N|exact O|exact P)) (m _ _ _ _ nofun (u _ _ _ _ nofun (.ag ⟨J.d' a,b,[],rfl,a,J.b8 _ _ _,rfl,rfl⟩))))
 exact m _ _ _ _ nofun (U _ _ _ (.mk λb a=>.ag (.mk _ (λw _=>HL ap8) (.ag ⟨J.d' a,b,[],rfl,a,J.b8 _ _ _,rfl,rfl⟩))))
structure gK where
 tag:Nat
 a8:List Int
 st:List Int
 n:Int
 ins:List Int
 outs:List Int
variable {x:gK}
structure iE(B h:J)(bV bG:Nat)(x:gK):Prop where
 box:B bV=some (bb #[.iface (En x.tag) (bY bG)] 230 (0,0))
 nN:B bG=none
 ex:∃eg cf cn bT X,h bG=some (bb (ab eg x.ins.length cf::ab cn x.outs.length bT::R x.n::X).toArray (x5 x.tag) (0,0))/\bg B 1 eg x.ins.length (gi x.ins)/\bg B 1 cn x.outs.length (gi x.outs)/\s9 B x.tag x.a8 x.st X
theorem QZ{tag:Int}(h:(b6 tag l).1=0):(∃t:Nat,tag=t/\1<=t/\t<=11)/\(tag=1->1<=l.length)/\(tag=10->l.length=2):=by
 unfold b6 at h;split at h;cases h;rename_i a;refine⟨⟨tag.toNat,I,I,I⟩,?_,?_⟩;rintro rfl;dsimp only at h;by_cases q:1<=l.length;exact q;rw[aC I,aC I,aC I,aC I,aC I,aC I,aC I,aC I,aC I,aC I]at h;cases h;rintro rfl;dsimp only at h;by_cases q:l.length=2;exact q;rw[aC I,aC I,aC I,aC I,aC I,aC I,aC I,aC I,aC I,aC I]at h;cases h
theorem ahy(tag:Nat) A n c a h(p:bg h 1 A n (gi a))(C:n<=1000)(s:(b6 tag a).1=0):Fn aD 32 #[bC .u8 tag,ab A n c] h λv aa=>h.le aa/\∃bV bG,v=eA #[bY bV,R 0]/\h bG=none/\iE (nr h aa bG) aa bV bG ⟨tag,a,yQ tag a,0,(b6 tag a).2.1,(b6 tag a).2.2⟩:=by
 obtain⟨⟨t,P,t1,t2⟩,D,z⟩:=QZ s;obtain rfl:tag=t:=by omega
 have al:a.length=n:=by simpa using p.len
 refine bU azp rfl (ay λW L T=>L _ _ _ (ay λY K Q=>.ag (.mk _ (IW tag A n c a h p I) ?_)));rintro _ ae ⟨_,_,rfl,i,⟨x,w,rfl,a6,M⟩,cn,bT,rfl,ro,F⟩;rw[s];refine K _ _ _ (ay λZ H V=>H _ _ _ (.ag (.mk _ (aA' tag x cn _ w _ bT A n c a ae (p.mono i) t1 t2 C (λq=>by have:=D I;omega) (λq=>by have:=z I;omega)) ?_)));rintro _ E ⟨k,bG,X,rfl,y,hk,O⟩;refine .mk λbV j=>?_;have B:=J.none_le i y;have d:bG≠bV:=λe=>by rw[e,j]at hk;cases hk
 have et:∀{bo:Option aE}{m bj:Nat}{l:List Int},bw ae 3 1 bo m bj (l.map R)->(∀g,bo=some g->h g.block=none)->bg (nr h (E.put bV (bb #[.iface (En tag) (bY bG)] 230 (0,0))) bG) 1 bo m (gi l):=by
  intro bo m bj l r f;have N:=r.mono (J.le_trans k (J.d' (U:=bb #[.iface (En tag) (bY bG)] 230 (0,0)) j));refine(bw.on (S:=λo=>h o=none/\o≠bG) N λG u=>⟨f G u,λe=>?_⟩).one;exact r.mem u (by rw[e];exact y)
 refine .ag ⟨J.le_trans i (J.le_trans k (J.d' j)),bV,bG,rfl,B,?_,?_,x,w,cn,bT,X,?_,et a6 M,et ro F,O.mono λo U b=>?_⟩;exact(J.mQ (S:=λo=>h o=none/\o≠bG) ⟨J.none_le i (J.none_le k j),eh d⟩).trans (J.b8 _ _ _);unfold nr J.on;rw[aC (λq=>q.2 rfl)];rw[J.cD _ _ d];exact hk;unfold nr at b⊢;have q:=J.vY (by rw[b];nofun);rw[J.mQ q]at b;rw[J.mQ (S:=λo=>h o=none/\o≠bG) ⟨J.none_le i q.1,q.2⟩,J.cD _ _ (λe=>by rw[e,j]at b;cases b)];exact b
def ZE(x:gK)(h:J)(v:aA)(aa:J):Prop:=h.le aa/\∃a b cn bT,v=eA #[ab a x.ins.length b,ab cn x.outs.length bT]/\bg aa 1 a x.ins.length (gi x.ins)/\bg aa 1 cn x.outs.length (gi x.outs)
theorem aiS{B h:J}(a':iE B h bV bG x)(le:B.le h)(h1:x.ins.length<=1000)(ae:x.outs.length<=1000):Fn aD 244 #[bY bG] h (ZE x h):=by
 obtain⟨c,b,cn,bT,X,hk,f,to,_⟩:=a'.ex;refine bU ay6 rfl (.hp (ab c x.ins.length b) (b1 hk rfl) (.hp (ab cn x.outs.length bT) (b1 hk rfl) (.mk _ (S0 c _ b x.ins h (f.mono le) I) (λv h q=>q.1) ?_)));rintro _ ae ⟨a,j,c2,rfl,e,_⟩;refine .mk _ (S0 cn _ bT x.outs ae ((to.mono le).mono a) I) (λv h q=>q.1) ?_;rintro _ i ⟨d,l,k,rfl,g,_⟩;exact .ag ⟨J.le_trans a d,_,_,_,_,rfl,e.one.mono d,g.one⟩
theorem arO{B h:J}(a':iE B h bV bG x)(e:0<=x.n/\x.n<=1000000000000):Fn aD 242 #[bY bG] h λ_ aa=>(∃U,aa=h.put bG U)/\iE B aa bV bG {x with n:=x.n+1}:=by
 obtain⟨b,a,cn,bT,X,hk,c,to,d⟩:=a'.ex;exact bU ay5 rfl (.hp (R x.n) (b1 hk rfl) (.bl (.hp bG 2 (x5 x.tag) (ab b x.ins.length a::ab cn x.outs.length bT::R x.n::X) (ab b x.ins.length a::ab cn x.outs.length bT::R (x.n+1)::X) rfl hk (by rw[io _ _ _ bc];rfl) (.ag ⟨⟨_,rfl⟩,a'.box,a'.nN,b,a,cn,bT,X,J.b8 _ _ _,c,to,d⟩))))
theorem ae8(h1:1<=tag)(ae:tag<=11):(kt (Tryz.prog.types.size+ko) (En tag) (bY b) "pianola/actors.rates").run aD w= .ok (244,bY b) w:=by
 have:tag=1\/tag=2\/tag=3\/tag=4\/tag=5\/tag=6\/tag=7\/tag=8\/tag=9\/tag=10\/tag=11:=I;rcases this with rfl|rfl|rfl|rfl|rfl|rfl|rfl|rfl|rfl|rfl|rfl;exact aDP;exact aDQ;exact aDR;exact aDS;exact aDT;exact aDU;exact aDV;exact aDW;exact aDX;exact aDY;exact aDZ
theorem avY(h1:1<=tag)(ae:tag<=11):(kt (Tryz.prog.types.size+ko) (En tag) (bY b) "pianola/actors.fired").run aD w= .ok (242,bY b) w:=by
 have:tag=1\/tag=2\/tag=3\/tag=4\/tag=5\/tag=6\/tag=7\/tag=8\/tag=9\/tag=10\/tag=11:=I;rcases this with rfl|rfl|rfl|rfl|rfl|rfl|rfl|rfl|rfl|rfl|rfl;exact arP;exact arQ;exact arR;exact arS;exact arT;exact arU;exact arV;exact arW;exact arX;exact arY;exact arZ
def QA:Nat->Nat
 |1=>245
 |2=>249
 |3=>250
 |4=>251
 |5=>252
 |6=>253
 |7=>255
 |8=>258
 |9=>259
 |10=>260
 |_=>261
theorem avZ(h1:1<=tag)(ae:tag<=11):(kt (Tryz.prog.types.size+ko) (En tag) (bY b) "pianola/actors.reckon").run aD w= .ok (QA tag,bY b) w:=by
 have:tag=1\/tag=2\/tag=3\/tag=4\/tag=5\/tag=6\/tag=7\/tag=8\/tag=9\/tag=10\/tag=11:=I;rcases this with rfl|rfl|rfl|rfl|rfl|rfl|rfl|rfl|rfl|rfl|rfl;exact aD8;exact aD9;exact aD';exact aEa;exact aEb;exact aEc;exact aEd;exact aEe;exact aEf;exact aEg;exact aEh
theorem ajI{B h:J}(a':iE B h bV bG x)(le:B.le h)(h1:x.ins.length<=1000)(ae:x.outs.length<=1000)(t1:1<=x.tag)(t2:x.tag<=11):Fn aD 76 #[bY bV] h (ZE x h):=by
 refine bU azU rfl (.hp _ (b1 (le _ _ a'.box) rfl) (.mk 244 (bY bG) (λw=>ae8 t1 t2) (.ag (.mk _ (aiS a' le h1 ae) ?_))));rintro _ ae ⟨c,e,d,cn,bT,rfl,a,b⟩;exact .ag ⟨c,e,d,cn,bT,rfl,a,b⟩
structure bM where
 A:Option aE
 c:Nat
 l:List Int
def bM.val(x:bM):aA:=ab x.A x.l.length x.c
def bM.ok(h:J)(x:bM):Prop:=bg h 1 x.A x.l.length (gi x.l)
theorem bM.ok.mono{h aa:J}{x:bM}(U:x.ok h)(le:h.le aa):x.ok aa:=bg.mono U le
def D4(D:List bM):List (List aA):=D.map λd=>[d.val]
structure RowsIn(h:J)(A:Option aE)(D:List bM):Prop where
 dK:bg h 1 A D.length (D4 D)
 row:∀d∈D,d.ok h
theorem RowsIn.mono{h aa:J}{A:Option aE}{D:List bM}(x:RowsIn h A D)(le:h.le aa):RowsIn aa A D:=⟨x.dK.mono le,λd a=>(x.row d a).mono le⟩
noncomputable def J.grow(B h aa:J):J:=aa.on λo=>B o≠none\/h o=none
variable {B aa h:J}
theorem By(c:B.le h)(b:h.le aa):B.le (B.grow h aa):=λo U a=>by
 unfold J.grow;rw[J.mQ (S:=λo=>B o≠none\/h o=none) (Or.inl (by rw[a];nofun))];exact b _ _ (c _ _ a)
theorem rK{o:Nat}(h1:B o=none)(ae:h o≠none):B.grow h aa o=none:=by
 unfold J.grow J.on;rw[aC];rintro(q|q);exact q h1;exact ae q
theorem iE.to{g:J}(k:iE B h bV bG x)(le:B.le g)(e:h bG=aa bG)(z:g bG=none):iE g aa bV bG x:=by
 obtain⟨a,b,c,d,i,f,g1,g2,g3,g4⟩:=k;exact⟨le _ _ a,z,c,d,i,f,g1,by rw[<-e];exact g2,g3.mono le,g4.1.mono le,g4.2.mono le⟩
theorem iE.some_(k:iE B h bV bG x):h bG≠none:=by
 obtain⟨_,_,_,_,_,_,_,g2,_⟩:=k;rw[g2];nofun
theorem iE.up(k:iE B h bV bG x)(le:h.le aa):iE B aa bV bG x:=by
 obtain⟨a,b,c,d,e,f,g1,g2⟩:=k;exact⟨a,b,c,d,e,f,g1,le _ _ g2.1,g2.2⟩
def J.h6(bG:Nat)(h aa:J):Prop:=∀o U,o≠bG->h o=some U->aa o=some U
theorem J.le.h6{bG:Nat}{h aa:J}(l:h.le aa):J.h6 bG h aa:=λo U _ a=>l o U a
theorem iE.pure(k:iE B h bV bG x)(le:B.le h)(l:h.le aa):iE (B.grow h aa) aa bV bG x:=by
 refine k.to (By le l) ?_ (rK k.nN k.some_);have a:=k.some_;cases q:h bG with
 |none=>exact absurd q a
 |some U=>exact(l _ _ q).symm
def uf(B h:J)(bV bG:Nat)(x:gK)(r:Option (List (List Int)))(v:aA)(aa:J):Prop:=J.h6 bG h aa/\iE (B.grow h aa) aa bV bG x/\match r with
 |some outs=>∃A c D,v=eA #[ab A D.length c,dh true]/\D.map bM.l=outs/\RowsIn (nr h aa bG) A D
 |none=>∃u,v=eA #[u,dh false]
theorem Gk{a:Nat}{c:Nat}(hk:h bG≠none)(g:h b=none) U(n:U=l.map R)(f:(h.put b (bb U.toArray 3 (0,0))) a=none){aa:J}(le:((h.put b (bb U.toArray 3 (0,0))).put a (bb #[ab (some ⟨b,0,none⟩) l.length c] 27 (0,0))).le aa):h.le aa/\RowsIn (nr h aa bG) (some ⟨a,0,none⟩) [⟨some ⟨b,0,none⟩,c,l⟩]:=by
 subst n;have bV:b≠a:=λe=>by rw[<-e,J.b8]at f;cases f
 have j:h a=none:=by rwa[J.cD _ _ (eh bV)]at f
 have s:b≠bG:=λe=>hk (by rw[<-e];exact g);have q:a≠bG:=λe=>hk (by rw[<-e];exact j);have k:nr h aa bG a=some (bb #[ab (some ⟨b,0,none⟩) l.length c] 27 (0,0)):=(J.mQ (S:=λo=>h o=none/\o≠bG) ⟨j,q⟩).trans (le _ _ (J.b8 _ _ _));have m:nr h aa bG b=some (bb (l.map R).toArray 3 (0,0)):=(J.mQ (S:=λo=>h o=none/\o≠bG) ⟨g,s⟩).trans (le _ _ (by rw[J.cD _ _ bV];exact J.b8 _ _ _));refine⟨J.le_trans (J.d' g) (J.le_trans (J.d' f) le),?_,λd i=>?_⟩;exact bg.lit (cs:=[ab (some ⟨b,0,none⟩) l.length c]) k rfl (by simp[D4]) rfl;rw[hZ]at i;subst i;exact bg.lit (cs:=l.map R) m (yd l) (λr p=>by obtain⟨z,_,rfl⟩:=List.mem_map.1 p;rfl) (by simp[gi])
theorem ah4{a:Nat}{A:Option aE}{c m:Nat}(hk:h bG≠none)(b:h a=none)(le:(h.put a (bb #[ab A m c] 27 (0,0))).le aa)(hm:l.length=m)(r:bw aa 3 1 A m c (l.map R))(f:∀g,A=some g->(h.put a (bb #[ab A m c] 27 (0,0))) g.block=none):h.le aa/\RowsIn (nr h aa bG) (some ⟨a,0,none⟩) [⟨A,c,l⟩]:=by
 subst hm;have n:a≠bG:=λe=>hk (by rw[<-e];exact b);have j:nr h aa bG a=some (bb #[ab A l.length c] 27 (0,0)):=(J.mQ (S:=λo=>h o=none/\o≠bG) ⟨b,n⟩).trans (le _ _ (J.b8 _ _ _));refine⟨J.le_trans (J.d' b) le,?_,λd i=>?_⟩;exact bg.lit (cs:=[ab A l.length c]) j rfl (by simp[D4]) rfl;rw[hZ]at i;subst i;refine(bw.on (S:=λo=>h o=none/\o≠bG) r λg k=>?_).one;have f1:=f g k;have ne:g.block≠a:=λe=>by rw[e,J.b8]at f1;cases f1
 rw[J.cD _ _ ne]at f1;exact⟨f1,λe=>hk (by rw[<-e];exact f1)⟩
theorem aqu{y:gK}{r:aA}(a':iE B h bV bG y)(le:B.le h) k q d x l(p:d.l=x::l)(a:RowsIn h k [d]):Fn aD 250 #[r,ab k 1 q] h (uf B h bV bG y (some [[x]])):=by
 obtain⟨g,f⟩:=a.dK.b4 bc;obtain⟨A,c,_⟩:=d;subst p;have j:=a.row _ (G' _);obtain⟨g2,m⟩:=j.b4 bc;refine bU azb rfl (.mk g f aH aH (.hp (ab A (l.length+1) c) (a.dK.one f (i:=0) rfl rfl) (.mk g2 m aH I (.hp (R x) (j.one m (i:=0) rfl rfl) (.mk λb o=>.mk λt s=>?_)))));obtain⟨e,n⟩:=Gk (l:=[x]) (c:=1) a'.some_ o [R x] rfl s (J.le_refl _);exact .ag ⟨e.h6,a'.pure le e,_,_,_,rfl,rfl,n⟩
theorem aHC(a':iE B h bV bG x)(le:B.le h)(N:Nat)(s:x.outs=[(N:Int)])(w:1<=N)(y:N<=64) k q d z l(p:d.l=z::l)(a:RowsIn h k [d]):Fn aD 249 #[bY bG,ab k 1 q] h (uf B h bV bG x (some [z::bp (N-1) 0])):=by
 have G:=a';obtain⟨E,F,cn,bT,X,hk,D,to,_⟩:=a'.ex;rw[s]at to hk;obtain⟨g0,n⟩:=to.b4 bc;obtain⟨g,f⟩:=a.dK.b4 bc;obtain⟨A,c,_⟩:=d;subst p;have j:=a.row _ (G' _);obtain⟨g2,m⟩:=j.b4 bc;refine bU ay' rfl (.hp (ab cn 1 bT) (b1 hk rfl) (.mk g0 n aH aH (.hp (R N) ((to.mono le).one n (i:=0) rfl rfl) (.one N (R 0) rfl rfl rfl rfl I I λb=>.mk g f aH aH (.hp (ab A (l.length+1) c) (a.dK.one f (i:=0) rfl rfl) (.mk g2 m aH I (.hp (R z) (j.one m (i:=0) rfl rfl) (.mk b rfl aH I ?_))))))));obtain⟨N,rfl⟩:∃M,N=M+1:=⟨N-1,I⟩;refine .row 0 3 1 b (N+1) (N+1) _ (R z::bp N (R 0)) 0 rfl rfl (by rw[io _ _ _ bc];rfl) (.mk λC u=>.b5 0 3 1 (some b) (N+1) (N+1) _ rfl λv r t f3=>.ag ?_);obtain⟨e,o⟩:=ah4 (l:=z::bp N 0) (by rw[hk];nofun) u r bc (by rw[List.map_cons,p7];exact t) f3;exact⟨e.h6,a'.pure le e,_,_,_,rfl,rfl,o⟩
def EP(z:Int):Prop:= -9223372036854775808<=z/\z<=9223372036854775807
section
variable {P:Program}{w:bD}{t:Nat}
end
section
variable {P:Program}{w:bD}{t:Nat}
end
end Go.Sx
