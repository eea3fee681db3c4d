/- A part of the proof that the statement holds. Conditions: none. -/
import Derived.Laws.BytesString
import Derived.Test.YtlbdbpaelcnfgaaGreatDoorAO
import Derived.Test.YtlbdbpaelcnfgaaGreatDoorAQ
import Derived.Test.YtlbdbpaelcnfgaaGreatDoorAS
import Derived.Test.YtlbdbpaelcnfgaaGreatDoorAT
import Derived.Test.YtlbdbpaelcnfgaaGreatDoorAU
open Go renaming Addr->aI,Value->ax,World->bw,method->jQ
open Go.Made renaming depth->jN
open Go.Obj renaming cells->bb
open Go.Proofs.Tryz renaming prog->aB
open Go.Value renaming bool->c5,int->bA,slice->ab,tuple->ey
open List renaming map_replicate->s9,mem_singleton->hV,mem_singleton_self->FT,replicate->bh
open Ne renaming symm->d'
namespace Go.Sx
open Go.Proofs
set_option maxRecDepth 100000
set_option maxHeartbeats 0
set_option linter.all false
variable {l:List Int}{b bE bU tag:Nat}{w:bw}
theorem Gq{t:Nat}{a:Operand}{v:ax}(c:Tryz.prog.concrete t=true):vm aB (.makeInterface t a) [v] w (.iface t v) w:=by
 intro e q d b;simp[Op.operands]at b;simp[execOp,d,b,run_makeInterface (P:=aB) (h:=c)]
abbrev bY(b:Nat):ax:=Value.pointer (some ⟨b,0,none⟩)
def C6:Nat->Nat
 |1=>296
 |2=>299
 |3=>302
 |4=>304
 |5=>306
 |6=>308
 |7=>310
 |8=>312
 |9=>317
 |10=>319
 |_=>322
theorem ZG:Tryz.prog.concrete 296=true:=e2
theorem aop:Tryz.prog.concrete 299=true:=e2
theorem aoq:Tryz.prog.concrete 312=true:=e2
theorem aor:Tryz.prog.concrete 319=true:=e2
theorem aos:Tryz.prog.concrete 322=true:=e2
theorem aBQ:(jQ (Tryz.prog.types.size+jN) 296 (bY b) "pianola/actors.rates").run aB w= .ok (244,bY b) w:=e2
theorem aBR:(jQ (Tryz.prog.types.size+jN) 299 (bY b) "pianola/actors.rates").run aB w= .ok (244,bY b) w:=e2
theorem aBS:(jQ (Tryz.prog.types.size+jN) 302 (bY b) "pianola/actors.rates").run aB w= .ok (244,bY b) w:=e2
theorem aBT:(jQ (Tryz.prog.types.size+jN) 304 (bY b) "pianola/actors.rates").run aB w= .ok (244,bY b) w:=e2
theorem aBU:(jQ (Tryz.prog.types.size+jN) 306 (bY b) "pianola/actors.rates").run aB w= .ok (244,bY b) w:=e2
theorem aBV:(jQ (Tryz.prog.types.size+jN) 308 (bY b) "pianola/actors.rates").run aB w= .ok (244,bY b) w:=e2
theorem aBW:(jQ (Tryz.prog.types.size+jN) 310 (bY b) "pianola/actors.rates").run aB w= .ok (244,bY b) w:=e2
theorem aBX:(jQ (Tryz.prog.types.size+jN) 312 (bY b) "pianola/actors.rates").run aB w= .ok (244,bY b) w:=e2
theorem aBY:(jQ (Tryz.prog.types.size+jN) 317 (bY b) "pianola/actors.rates").run aB w= .ok (244,bY b) w:=e2
theorem aBZ:(jQ (Tryz.prog.types.size+jN) 319 (bY b) "pianola/actors.rates").run aB w= .ok (244,bY b) w:=e2
theorem aB0:(jQ (Tryz.prog.types.size+jN) 322 (bY b) "pianola/actors.rates").run aB w= .ok (244,bY b) w:=e2
theorem ap8:(jQ (Tryz.prog.types.size+jN) 296 (bY b) "pianola/actors.fired").run aB w= .ok (242,bY b) w:=e2
theorem ap9:(jQ (Tryz.prog.types.size+jN) 299 (bY b) "pianola/actors.fired").run aB w= .ok (242,bY b) w:=e2
theorem ap':(jQ (Tryz.prog.types.size+jN) 302 (bY b) "pianola/actors.fired").run aB w= .ok (242,bY b) w:=e2
theorem aqa:(jQ (Tryz.prog.types.size+jN) 304 (bY b) "pianola/actors.fired").run aB w= .ok (242,bY b) w:=e2
theorem aqb:(jQ (Tryz.prog.types.size+jN) 306 (bY b) "pianola/actors.fired").run aB w= .ok (242,bY b) w:=e2
theorem aqc:(jQ (Tryz.prog.types.size+jN) 308 (bY b) "pianola/actors.fired").run aB w= .ok (242,bY b) w:=e2
theorem aqd:(jQ (Tryz.prog.types.size+jN) 310 (bY b) "pianola/actors.fired").run aB w= .ok (242,bY b) w:=e2
theorem aqe:(jQ (Tryz.prog.types.size+jN) 312 (bY b) "pianola/actors.fired").run aB w= .ok (242,bY b) w:=e2
theorem aqf:(jQ (Tryz.prog.types.size+jN) 317 (bY b) "pianola/actors.fired").run aB w= .ok (242,bY b) w:=e2
theorem aqg:(jQ (Tryz.prog.types.size+jN) 319 (bY b) "pianola/actors.fired").run aB w= .ok (242,bY b) w:=e2
theorem aqh:(jQ (Tryz.prog.types.size+jN) 322 (bY b) "pianola/actors.fired").run aB w= .ok (242,bY b) w:=e2
theorem aB8:(jQ (Tryz.prog.types.size+jN) 296 (bY b) "pianola/actors.reckon").run aB w= .ok (245,bY b) w:=e2
theorem aB9:(jQ (Tryz.prog.types.size+jN) 299 (bY b) "pianola/actors.reckon").run aB w= .ok (249,bY b) w:=e2
theorem aB':(jQ (Tryz.prog.types.size+jN) 302 (bY b) "pianola/actors.reckon").run aB w= .ok (250,bY b) w:=e2
theorem aCa:(jQ (Tryz.prog.types.size+jN) 304 (bY b) "pianola/actors.reckon").run aB w= .ok (251,bY b) w:=e2
theorem aCb:(jQ (Tryz.prog.types.size+jN) 306 (bY b) "pianola/actors.reckon").run aB w= .ok (252,bY b) w:=e2
theorem aCc:(jQ (Tryz.prog.types.size+jN) 308 (bY b) "pianola/actors.reckon").run aB w= .ok (253,bY b) w:=e2
theorem aCd:(jQ (Tryz.prog.types.size+jN) 310 (bY b) "pianola/actors.reckon").run aB w= .ok (255,bY b) w:=e2
theorem aCe:(jQ (Tryz.prog.types.size+jN) 312 (bY b) "pianola/actors.reckon").run aB w= .ok (258,bY b) w:=e2
theorem aCf:(jQ (Tryz.prog.types.size+jN) 317 (bY b) "pianola/actors.reckon").run aB w= .ok (259,bY b) w:=e2
theorem aCg:(jQ (Tryz.prog.types.size+jN) 319 (bY b) "pianola/actors.reckon").run aB w= .ok (260,bY b) w:=e2
theorem aCh:(jQ (Tryz.prog.types.size+jN) 322 (bY b) "pianola/actors.reckon").run aB w= .ok (261,bY b) w:=e2
abbrev gT(l:List Int):List (List ax):=l.map λz=>[R z]
def w9:Nat->Nat
 |1=>298
 |2=>301
 |3=>303
 |4=>305
 |5=>307
 |6=>309
 |7=>311
 |8=>316
 |9=>318
 |10=>321
 |_=>323
def r'(B:J)(tag:Nat)(a st:List Int)(X:List ax):Prop:=
 if tag=1 then∃b d wz c,X=[ab b a.length d,ab wz st.length c]/\bf B 1 b a.length (gT a)/\bf B 1 wz st.length (gT st)
 else if tag=8 then∃x,st=[x]/\X=[R x]
 else if tag=10 then∃x,st=[x]/\X=[R x,R (a.getD 1 0)]
 else st=[]/\X=[]
def zo(tag:Nat)(a:List Int):List Int:=
 if tag=1 then bh (a.length-1) 0
 else if tag=8 then[0]
 else if tag=10 then[a.getD 0 0]
 else[]
theorem r'.mono{B j:J}{tag:Nat}{i st:List Int}{X:List ax}(t:r' B tag i st X)(le:B.le j):r' j tag i st X:=by
 unfold r' at t⊢;split at t;rename_i h;rw[aP h];obtain⟨a,b,c,d,e,f,g⟩:=t;exact⟨a,b,c,d,e,f.mono le,g.mono le⟩;rename_i h;rw[aD h];exact t
noncomputable def mv(h aa:J)(bE:Nat):J:=aa.on λo=>h o=none/\o≠bE
theorem azd(tag:Nat) u cj t ci no co A n c d h(B:bf h 1 A n (gT d))(h1:1<=tag)(ae:tag<=11)(Z:n<=1000)(Q:tag=1->1<=n)(F:tag=10->n=2):Fn aB 86 #[bA .u8 tag,.agg #[ab u t ci,ab cj no co,R 0],ab A n c] h λv aa=>h.le aa/\∃bE X,v= .iface (C6 tag) (bY bE)/\h bE=none/\aa bE=some (bb (ab u t ci::ab cj no co::R 0::X).toArray (w9 tag) (0,0))/\r' (mv h aa bE) tag d (zo tag d) X:=by
 have ak:d.length=n:=by simpa using B.len
 refine b6 aya rfl ?_;have cl:=Ri A n c d h B I;refine az λgE V gm=>V _ _ _ (az λgA U z=>az λgj T fD=>T _ _ _ (fb λgk dZ s=>?_));have ay:tag=1\/tag=10\/tag=8\/(tag=2\/tag=3\/tag=4\/tag=5\/tag=6\/tag=7\/tag=9)\/tag=11:=I;rcases ay with rfl|rfl|rfl|ay|rfl;have sg:=Q rfl;have fin:∀(ae j:J)(b c2:Nat)(f:Option aI)(g:aI)(r:Nat),h.le ae->ae b=none->bJ ae 3 1 f n c2 (d.map R)->(∀g,f=some g->h g.block=none)->(ae.put b (bb #[ab u t ci,ab cj no co,R 0,ab f n c2,ab (some g) (n-1) r] 298 (0,0))).le j->bJ j 3 1 (some g) (n-1) r (bh (n-1) (R 0))->(ae.put b (bb #[ab u t ci,ab cj no co,R 0,ab f n c2,ab (some g) (n-1) r] 298 (0,0))) g.block=none->h.le j/\∃bE X,(Value.iface 296 (bY b))= .iface (C6 1) (bY bE)/\h bE=none/\j bE=some (bb (ab u t ci::ab cj no co::R 0::X).toArray (w9 1) (0,0))/\r' (mv h j bE) 1 d (zo 1 d) X:=by
  intro ae j b c2 f g r le a p f2 k m f3;have E:g.block≠b:=λe=>by rw[e,J.b1]at f3;cases f3
  have G:h g.block=none:=J.none_le le (by rwa[J.cB _ _ E]at f3);have H:=J.none_le le a;refine⟨J.le_trans le (J.le_trans (J.dI a) k),b,[ab f n c2,ab (some g) (n-1) r],rfl,H,k _ _ (J.b1 _ _ _),?_⟩;unfold r' zo;rw[aP rfl,aP rfl,ak,List.length_replicate];refine⟨f,c2,some g,r,rfl,?_,?_⟩;have W:=p.mono (J.le_trans (J.dI a) k);refine(bJ.on (S:=λo=>h o=none/\o≠b) W λD l=>⟨f2 D l,λe=>?_⟩).one;exact p.mem l (by rw[e];exact a);have Y:(bh (n-1) (R 0))=(bh (n-1) (0:Int)).map R:=by rw[s9]
  rw[Y]at m;exact(bJ.on (S:=λo=>h o=none/\o≠b) m λD l=>by injection l with l;subst l;exact⟨G,E⟩).one
 refine .bg (⟨?_,?_⟩);refine .mk _ cl (λv aa q=>q.1) ?_;rintro _ ae ⟨le,f,c2,rfl,p,f2⟩;exact .one (n-1) (R 0) rfl rfl I I I I λg=>.mk λb a=>.ah (.mk _ (λw _=>Gq ZG) (s _ _ _ _ nofun (z _ _ _ _ nofun (.b4 1 3 1 (some g) (n-1) (n-1) _ rfl λj k m f3=>.ah (fin _ _ _ _ _ _ _ le a p f2 k m (f3 g rfl))))));refine .one (n-1) (R 0) rfl rfl I I I I λg=>.mk _ cl (λv aa q=>q.1) ?_;rintro _ ae ⟨le,f,c2,rfl,p,f2⟩;exact .mk λb a=>.ah (.mk _ (λw _=>Gq ZG) (s _ _ _ _ nofun (z _ _ _ _ nofun (.b4 1 3 1 (some g) (n-1) (n-1) _ rfl λj k m f3=>.ah (fin _ _ _ _ _ _ _ le a p f2 k m (f3 g rfl))))));obtain rfl:=F rfl;obtain⟨g,C⟩:=B.cg I;obtain⟨x,y,rfl⟩:∃x y,d=[x,y]:=by
  rcases d with _|⟨x,_|⟨y,_|_⟩⟩;cases ak;cases ak;exact⟨x,y,rfl⟩;cases ak
 exact .mk g C aM aM (.hp _ (B.one C (i:=0) rfl rfl) (.mk g C aM aM (.hp _ (B.one C (i:=1) rfl rfl) (.mk λb a=>.ah (.mk _ (λw _=>Gq aor) (s _ _ _ _ nofun (z _ _ _ _ nofun (.ah ⟨J.dI a,b,[R x,R y],rfl,a,J.b1 _ _ _,_,rfl,rfl⟩))))))));exact .mk λb a=>.ah (.mk _ (λw _=>Gq aoq) (s _ _ _ _ nofun (z _ _ _ _ nofun (.ah ⟨J.dI a,b,[R 0],rfl,a,J.b1 _ _ _,_,rfl,rfl⟩))))
 .rcases ay with rfl|rfl|rfl|rfl|rfl|rfl|rfl;all_goals
   exact .mk λb a=>.ah (.mk _ (λw _=>Gq (by first|exact aop|exact K|exact L|exact M|exact N|exact O|exact P)) (s _ _ _ _ nofun (z _ _ _ _ nofun (.ah ⟨J.dI a,b,[],rfl,a,J.b1 _ _ _,rfl,rfl⟩))))
 exact s _ _ _ _ nofun (U _ _ _ (.mk λb a=>.ah (.mk _ (λw _=>Gq aos) (.ah ⟨J.dI a,b,[],rfl,a,J.b1 _ _ _,rfl,rfl⟩))))
structure gy where
 tag:Nat
 a6:List Int
 st:List Int
 n:Int
 ins:List Int
 outs:List Int
variable {x:gy}
structure ib(B h:J)(bU bE:Nat)(x:gy):Prop where
 box:B bU=some (bb #[.iface (C6 x.tag) (bY bE)] 230 (0,0))
 o9:B bE=none
 ex:∃dR cb cj bO X,h bE=some (bb (ab dR x.ins.length cb::ab cj x.outs.length bO::R x.n::X).toArray (w9 x.tag) (0,0))/\bf B 1 dR x.ins.length (gT x.ins)/\bf B 1 cj x.outs.length (gT x.outs)/\r' B x.tag x.a6 x.st X
theorem Wl{tag:Int}(h:(b3 tag l).1=0):(∃t:Nat,tag=t/\1<=t/\t<=11)/\(tag=1->1<=l.length)/\(tag=10->l.length=2):=by
 unfold b3 at h;split at h;cases h;rename_i a;refine⟨⟨tag.toNat,I,I,I⟩,?_,?_⟩;rintro rfl;dsimp only at h;by_cases q:1<=l.length;exact q;rw[aD I,aD I,aD I,aD I,aD I,aD I,aD I,aD I,aD I,aD I]at h;cases h;rintro rfl;dsimp only at h;by_cases q:l.length=2;exact q;rw[aD I,aD I,aD I,aD I,aD I,aD I,aD I,aD I,aD I,aD I]at h;cases h
theorem az3(tag:Nat) A n c a h(s:bf h 1 A n (gT a))(E:n<=1000)(u:(b3 tag a).1=0):Fn aB 32 #[bA .u8 tag,ab A n c] h λv aa=>h.le aa/\∃bU bE,v=ey #[bY bU,R 0]/\h bE=none/\ib (mv h aa bE) aa bU bE ⟨tag,a,zo tag a,0,(b3 tag a).2.1,(b3 tag a).2.2⟩:=by
 obtain⟨⟨t,T,t1,t2⟩,F,C⟩:=Wl u;obtain rfl:tag=t:=by omega
 have ak:a.length=n:=by simpa using s.len
 refine b6 axy rfl (az λZ N gm=>N _ _ _ (az λY M V=>.ah (.mk _ (Hq tag A n c a h s I) ?_)));rintro _ ae ⟨_,_,rfl,i,⟨z,x,rfl,aZ,O⟩,cj,bO,rfl,ro,H⟩;rw[u];refine M _ _ _ (az λgj K W=>K _ _ _ (.ah (.mk _ (azd tag z cj _ x _ bO A n c a ae (s.mono i) t1 t2 E (λq=>by have:=F I;omega) (λq=>by have:=C I;omega)) ?_)));rintro _ G ⟨m,bE,X,rfl,B,hk,P⟩;refine .mk λbU j=>?_;have D:=J.none_le i B;have d:bE≠bU:=λe=>by rw[e,j]at hk;cases hk
 have dY:∀{k:Option aI}{p w:Nat}{l:List Int},bJ ae 3 1 k p w (l.map R)->(∀g,k=some g->h g.block=none)->bf (mv h (G.put bU (bb #[.iface (C6 tag) (bY bE)] 230 (0,0))) bE) 1 k p (gT l):=by
  intro k p w l r f;have Q:=r.mono (J.le_trans m (J.dI (U:=bb #[.iface (C6 tag) (bY bE)] 230 (0,0)) j));refine(bJ.on (S:=λo=>h o=none/\o≠bE) Q λL y=>⟨f L y,λe=>?_⟩).one;exact r.mem y (by rw[e];exact B)
 refine .ah ⟨J.le_trans i (J.le_trans m (J.dI j)),bU,bE,rfl,D,?_,?_,z,x,cj,bO,X,?_,dY aZ O,dY ro H,P.mono λo U b=>?_⟩;exact(J.mw (S:=λo=>h o=none/\o≠bE) ⟨J.none_le i (J.none_le m j),d' d⟩).trans (J.b1 _ _ _);unfold mv J.on;rw[aD (λq=>q.2 rfl)];rw[J.cB _ _ d];exact hk;unfold mv at b⊢;have q:=J.u2 (by rw[b];nofun);rw[J.mw q]at b;rw[J.mw (S:=λo=>h o=none/\o≠bE) ⟨J.none_le i q.1,q.2⟩,J.cB _ _ (λe=>by rw[e,j]at b;cases b)];exact b
def Yc(x:gy)(h:J)(v:ax)(aa:J):Prop:=h.le aa/\∃a b cj bO,v=ey #[ab a x.ins.length b,ab cj x.outs.length bO]/\bf aa 1 a x.ins.length (gT x.ins)/\bf aa 1 cj x.outs.length (gT x.outs)
theorem ahg{B h:J}(bx:ib B h bU bE x)(le:B.le h)(h1:x.ins.length<=1000)(ae:x.outs.length<=1000):Fn aB 244 #[bY bE] h (Yc x h):=by
 obtain⟨b,a,cj,bO,X,hk,g,to,_⟩:=bx.ex;refine b6 axf rfl (.hp (ab b x.ins.length a) (bV hk rfl) (.hp (ab cj x.outs.length bO) (bV hk rfl) (.mk _ (Ri b _ a x.ins h (g.mono le) I) (λv h q=>q.1) ?_)));rintro _ ae ⟨c,j,c2,rfl,f,_⟩;refine .mk _ (Ri cj _ bO x.outs ae ((to.mono le).mono c) I) (λv h q=>q.1) ?_;rintro _ i ⟨d,l,k,rfl,e,_⟩;exact .ah ⟨J.le_trans c d,_,_,_,_,rfl,f.one.mono d,e.one⟩
theorem ap7{B h:J}(bx:ib B h bU bE x)(e:0<=x.n/\x.n<=1000000000000):Fn aB 242 #[bY bE] h λ_ aa=>(∃U,aa=h.put bE U)/\ib B aa bU bE {x with n:=x.n+1}:=by
 obtain⟨b,a,cj,bO,X,hk,c,to,d⟩:=bx.ex;exact b6 axe rfl (.hp (R x.n) (bV hk rfl) (.bg (.hp bE 2 (w9 x.tag) (ab b x.ins.length a::ab cj x.outs.length bO::R x.n::X) (ab b x.ins.length a::ab cj x.outs.length bO::R (x.n+1)::X) rfl hk (by rw[ih _ _ _ bd];rfl) (.ah ⟨⟨_,rfl⟩,bx.box,bx.o9,b,a,cj,bO,X,J.b1 _ _ _,c,to,d⟩))))
theorem adG(h1:1<=tag)(ae:tag<=11):(jQ (Tryz.prog.types.size+jN) (C6 tag) (bY b) "pianola/actors.rates").run aB w= .ok (244,bY b) w:=by
 have:tag=1\/tag=2\/tag=3\/tag=4\/tag=5\/tag=6\/tag=7\/tag=8\/tag=9\/tag=10\/tag=11:=I;rcases this with rfl|rfl|rfl|rfl|rfl|rfl|rfl|rfl|rfl|rfl|rfl;exact aBQ;exact aBR;exact aBS;exact aBT;exact aBU;exact aBV;exact aBW;exact aBX;exact aBY;exact aBZ;exact aB0
theorem auj(h1:1<=tag)(ae:tag<=11):(jQ (Tryz.prog.types.size+jN) (C6 tag) (bY b) "pianola/actors.fired").run aB w= .ok (242,bY b) w:=by
 have:tag=1\/tag=2\/tag=3\/tag=4\/tag=5\/tag=6\/tag=7\/tag=8\/tag=9\/tag=10\/tag=11:=I;rcases this with rfl|rfl|rfl|rfl|rfl|rfl|rfl|rfl|rfl|rfl|rfl;exact ap8;exact ap9;exact ap';exact aqa;exact aqb;exact aqc;exact aqd;exact aqe;exact aqf;exact aqg;exact aqh
def O3:Nat->Nat
 |1=>245
 |2=>249
 |3=>250
 |4=>251
 |5=>252
 |6=>253
 |7=>255
 |8=>258
 |9=>259
 |10=>260
 |_=>261
theorem auk(h1:1<=tag)(ae:tag<=11):(jQ (Tryz.prog.types.size+jN) (C6 tag) (bY b) "pianola/actors.reckon").run aB w= .ok (O3 tag,bY b) w:=by
 have:tag=1\/tag=2\/tag=3\/tag=4\/tag=5\/tag=6\/tag=7\/tag=8\/tag=9\/tag=10\/tag=11:=I;rcases this with rfl|rfl|rfl|rfl|rfl|rfl|rfl|rfl|rfl|rfl|rfl;exact aB8;exact aB9;exact aB';exact aCa;exact aCb;exact aCc;exact aCd;exact aCe;exact aCf;exact aCg;exact aCh
theorem ah2{B h:J}(bx:ib B h bU bE x)(le:B.le h)(h1:x.ins.length<=1000)(ae:x.outs.length<=1000)(t1:1<=x.tag)(t2:x.tag<=11):Fn aB 76 #[bY bU] h (Yc x h):=by
 refine b6 ax3 rfl (.hp _ (bV (le _ _ bx.box) rfl) (.mk 244 (bY bE) (λw=>adG t1 t2) (.ah (.mk _ (ahg bx le h1 ae) ?_))));rintro _ ae ⟨e,d,c,cj,bO,rfl,a,b⟩;exact .ah ⟨e,d,c,cj,bO,rfl,a,b⟩
structure cY where
 A:Option aI
 c:Nat
 l:List Int
def cY.val(x:cY):ax:=ab x.A x.l.length x.c
def cY.ok(h:J)(x:cY):Prop:=bf h 1 x.A x.l.length (gT x.l)
theorem cY.ok.mono{h aa:J}{x:cY}(U:x.ok h)(le:h.le aa):x.ok aa:=bf.mono U le
def HL(D:List cY):List (List ax):=D.map λd=>[d.val]
structure RowsIn(h:J)(A:Option aI)(D:List cY):Prop where
 dV:bf h 1 A D.length (HL D)
 row:∀d∈D,d.ok h
theorem RowsIn.mono{h aa:J}{A:Option aI}{D:List cY}(x:RowsIn h A D)(le:h.le aa):RowsIn aa A D:=⟨x.dV.mono le,λd a=>(x.row d a).mono le⟩
noncomputable def J.grow(B h aa:J):J:=aa.on λo=>B o≠none\/h o=none
variable {B aa h:J}
theorem Cj(b:B.le h)(c:h.le aa):B.le (B.grow h aa):=λo U a=>by
 unfold J.grow;rw[J.mw (S:=λo=>B o≠none\/h o=none) (Or.inl (by rw[a];nofun))];exact c _ _ (b _ _ a)
theorem tp{o:Nat}(h1:B o=none)(ae:h o≠none):B.grow h aa o=none:=by
 unfold J.grow J.on;rw[aD];rintro(q|q);exact q h1;exact ae q
theorem ib.to{g:J}(k:ib B h bU bE x)(le:B.le g)(e:h bE=aa bE)(z:g bE=none):ib g aa bU bE x:=by
 obtain⟨a,b,c,d,i,f,g1,g2,g3,g4⟩:=k;exact⟨le _ _ a,z,c,d,i,f,g1,by rw[<-e];exact g2,g3.mono le,g4.1.mono le,g4.2.mono le⟩
theorem ib.some_(k:ib B h bU bE x):h bE≠none:=by
 obtain⟨_,_,_,_,_,_,_,g2,_⟩:=k;rw[g2];nofun
theorem ib.up(k:ib B h bU bE x)(le:h.le aa):ib B aa bU bE x:=by
 obtain⟨a,b,c,d,e,f,g1,g2⟩:=k;exact⟨a,b,c,d,e,f,g1,le _ _ g2.1,g2.2⟩
def J.lA(bE:Nat)(h aa:J):Prop:=∀o U,o≠bE->h o=some U->aa o=some U
theorem J.le.lA{bE:Nat}{h aa:J}(l:h.le aa):J.lA bE h aa:=λo U _ a=>l o U a
theorem ib.pure(k:ib B h bU bE x)(le:B.le h)(l:h.le aa):ib (B.grow h aa) aa bU bE x:=by
 refine k.to (Cj le l) ?_ (tp k.o9 k.some_);have a:=k.some_;cases q:h bE with
 |none=>exact absurd q a
 |some U=>exact(l _ _ q).symm
def tc(B h:J)(bU bE:Nat)(x:gy)(r:Option (List (List Int)))(v:ax)(aa:J):Prop:=J.lA bE h aa/\ib (B.grow h aa) aa bU bE x/\match r with
 |some outs=>∃A c D,v=ey #[ab A D.length c,c5 true]/\D.map cY.l=outs/\RowsIn (mv h aa bE) A D
 |none=>∃u,v=ey #[u,c5 false]
theorem E4{a:Nat}{c:Nat}(hk:h bE≠none)(g:h b=none) U(n:U=l.map R)(f:(h.put b (bb U.toArray 3 (0,0))) a=none){aa:J}(le:((h.put b (bb U.toArray 3 (0,0))).put a (bb #[ab (some ⟨b,0,none⟩) l.length c] 27 (0,0))).le aa):h.le aa/\RowsIn (mv h aa bE) (some ⟨a,0,none⟩) [⟨some ⟨b,0,none⟩,c,l⟩]:=by
 subst n;have bU:b≠a:=λe=>by rw[<-e,J.b1]at f;cases f
 have j:h a=none:=by rwa[J.cB _ _ (d' bU)]at f
 have q:b≠bE:=λe=>hk (by rw[<-e];exact g);have s:a≠bE:=λe=>hk (by rw[<-e];exact j);have m:mv h aa bE a=some (bb #[ab (some ⟨b,0,none⟩) l.length c] 27 (0,0)):=(J.mw (S:=λo=>h o=none/\o≠bE) ⟨j,s⟩).trans (le _ _ (J.b1 _ _ _));have k:mv h aa bE b=some (bb (l.map R).toArray 3 (0,0)):=(J.mw (S:=λo=>h o=none/\o≠bE) ⟨g,q⟩).trans (le _ _ (by rw[J.cB _ _ bU];exact J.b1 _ _ _));refine⟨J.le_trans (J.dI g) (J.le_trans (J.dI f) le),?_,λd i=>?_⟩;exact bf.lit (cs:=[ab (some ⟨b,0,none⟩) l.length c]) m rfl (by simp[HL]) rfl;rw[hV]at i;subst i;exact bf.lit (cs:=l.map R) k (yz l) (λr p=>by obtain⟨z,_,rfl⟩:=List.mem_map.1 p;rfl) (by simp[gT])
theorem agt{a:Nat}{A:Option aI}{c m:Nat}(hk:h bE≠none)(b:h a=none)(le:(h.put a (bb #[ab A m c] 27 (0,0))).le aa)(hm:l.length=m)(r:bJ aa 3 1 A m c (l.map R))(f:∀g,A=some g->(h.put a (bb #[ab A m c] 27 (0,0))) g.block=none):h.le aa/\RowsIn (mv h aa bE) (some ⟨a,0,none⟩) [⟨A,c,l⟩]:=by
 subst hm;have n:a≠bE:=λe=>hk (by rw[<-e];exact b);have j:mv h aa bE a=some (bb #[ab A l.length c] 27 (0,0)):=(J.mw (S:=λo=>h o=none/\o≠bE) ⟨b,n⟩).trans (le _ _ (J.b1 _ _ _));refine⟨J.le_trans (J.dI b) le,?_,λd i=>?_⟩;exact bf.lit (cs:=[ab A l.length c]) j rfl (by simp[HL]) rfl;rw[hV]at i;subst i;refine(bJ.on (S:=λo=>h o=none/\o≠bE) r λg k=>?_).one;have f1:=f g k;have ne:g.block≠a:=λe=>by rw[e,J.b1]at f1;cases f1
 rw[J.cB _ _ ne]at f1;exact⟨f1,λe=>hk (by rw[<-e];exact f1)⟩
theorem aoQ{y:gy}{r:ax}(bx:ib B h bU bE y)(le:B.le h) k q d x l(n:d.l=x::l)(a:RowsIn h k [d]):Fn aB 250 #[r,ab k 1 q] h (tc B h bU bE y (some [[x]])):=by
 obtain⟨g,f⟩:=a.dV.cg bd;obtain⟨A,c,_⟩:=d;subst n;have j:=a.row _ (FT _);obtain⟨g2,m⟩:=j.cg bd;refine b6 axl rfl (.mk g f aM aM (.hp (ab A (l.length+1) c) (a.dV.one f (i:=0) rfl rfl) (.mk g2 m aM I (.hp (R x) (j.one m (i:=0) rfl rfl) (.mk λb p=>.mk λt s=>?_)))));obtain⟨e,o⟩:=E4 (l:=[x]) (c:=1) bx.some_ p [R x] rfl s (J.le_refl _);exact .ah ⟨e.lA,bx.pure le e,_,_,_,rfl,rfl,o⟩
theorem aFE(bx:ib B h bU bE x)(le:B.le h)(N:Nat)(r:x.outs=[(N:Int)])(D:1<=N)(w:N<=64) m q d z l(o:d.l=z::l)(a:RowsIn h m [d]):Fn aB 249 #[bY bE,ab m 1 q] h (tc B h bU bE x (some [z::bh (N-1) 0])):=by
 have G:=bx;obtain⟨C,F,cj,bO,X,hk,E,to,_⟩:=bx.ex;rw[r]at to hk;obtain⟨g0,e⟩:=to.cg bd;obtain⟨g,j⟩:=a.dV.cg bd;obtain⟨A,c,_⟩:=d;subst o;have k:=a.row _ (FT _);obtain⟨g2,n⟩:=k.cg bd;refine b6 axj rfl (.hp (ab cj 1 bO) (bV hk rfl) (.mk g0 e aM aM (.hp (R N) ((to.mono le).one e (i:=0) rfl rfl) (.one N (R 0) rfl rfl rfl rfl I I λb=>.mk g j aM aM (.hp (ab A (l.length+1) c) (a.dV.one j (i:=0) rfl rfl) (.mk g2 n aM I (.hp (R z) (k.one n (i:=0) rfl rfl) (.mk b rfl aM I ?_))))))));obtain⟨N,rfl⟩:∃M,N=M+1:=⟨N-1,I⟩;refine .row 0 3 1 b (N+1) (N+1) _ (R z::bh N (R 0)) 0 rfl rfl (by rw[ih _ _ _ bd];rfl) (.mk λy u=>.b4 0 3 1 (some b) (N+1) (N+1) _ rfl λv t s f3=>.ah ?_);obtain⟨f,p⟩:=agt (l:=z::bh N 0) (by rw[hk];nofun) u t bd (by rw[List.map_cons,s9];exact s) f3;exact⟨f.lA,bx.pure le f,_,_,_,rfl,rfl,p⟩
def Dv(z:Int):Prop:= -9223372036854775808<=z/\z<=9223372036854775807
section
variable {P:Program}{w:bw}{t:Nat}
end
section
variable {P:Program}{w:bw}{t:Nat}
end
end Go.Sx
