/- A part of the proof that the statement holds. Conditions: none. -/
import Derived.Test.YtlbdbpaelcnfgaaGreatDoorAP
import Derived.Test.YtlbdbpaelcnfgaaGreatDoorAS
import Derived.Test.YtlbdbpaelcnfgaaGreatDoorAY
import Derived.Test.YtlbdbpaelcnfgaaGreatDoorBA
import Derived.Test.YtlbdbpaelcnfgaaGreatDoorBB
open Go.Proofs.Tryz renaming prog->aB
open Go.Value renaming bool->c5,int->bA,slice->ab
open Int renaming le_refl->vp,toNat_natCast->bz
open List renaming getElem_mem->cG,replicate->bh
open Nat renaming mul_le_mul->lP,zero_le->cW
namespace Go.Sx
open Go.Proofs
set_option maxRecDepth 100000
set_option maxHeartbeats 0
set_option linter.all false
theorem aC7{a b:List Int}(h:a<+:b\/b<+:a){k:Nat}(d:k<a.length)(e:k<b.length):a[k]=b[k]:=by
 rcases h with⟨c,rfl⟩|⟨c,rfl⟩<;>simp[*]
theorem anl(A B:Option Addr)(n m j l:Nat)(a b:List Int)(h:J)(aT:bf h 1 A n (a.map λz=>[R z]))(d:bf h 1 B m (b.map λz=>[R z]))(E:n<=9223372036854775806)(hm:m<=9223372036854775806)(hp:a<+:b\/b<+:a):Fn aB 14 #[ab A n j,ab B m l] h λr c=>r=c5 true/\c=h:=by
 have S:a.length=n:=by simpa using aT.len
 have T:b.length=m:=by simpa using d.len
 refine b6 awB rfl ?_;refine .mk Nat [0,1,5] (λk=>[.v (ab A n j),.v (ab B m l),.v (R k)]) (λ_=>[]) (λk c=>c=h/\k<=n/\k<=m) (λk=>n-k) 0 (λ_=>rfl) ⟨rfl,cW _,cW _⟩ rfl rfl ?_;rintro k e c ⟨rfl,hk,Q⟩;refine az λL C s=>?_;refine az λK o G=>?_;conv=>whnf
 by_cases w:k<n;rw[gG I];refine o _ _ _ ?_;refine nd rfl (λq=>?_) (λq=>?_);have u:k<m:=by have:=q2 q;omega
 refine C _ _ _ ?_;obtain⟨g,f⟩:=aT.cg I;obtain⟨g2,p⟩:=d.cg I;refine az λM x H=>?_;refine fb λN F D=>?_;refine az λP y O=>?_;refine .m g f ?_;refine .hp (R (a[k]'I)) (by rw[bz];exact aT.one f (r:=[R (a[k]'I)]) aJ rfl) ?_;refine .m g2 p ?_;refine .hp (R (b[k]'I)) (by rw[bz];exact d.one p (r:=[R (b[k]'I)]) aJ rfl) ?_;have t:a[k]'I=b[k]'I:=aC7 hp I I;refine y _ _ _ ?_;refine aY (λi=>absurd t i) (λi=>?_);refine D _ _ _ _ nofun (x _ _ _ ?_);refine .bg ?_;exact⟨k+1,rfl,rfl,⟨rfl,w,u⟩,by show n- (k+1)<n-k;omega⟩;refine s _ _ _ _ nofun ?_;exact .ah ⟨rfl,rfl⟩;rw[io I];refine o _ _ _ ?_;refine nd rfl nofun (λq=>?_);refine s _ _ _ _ nofun ?_;exact .ah ⟨rfl,rfl⟩
structure IB(p q:iw)(h:J)(aX nN:Nat)(x y:e1):Prop where
 a:∃B m,c4 B h aX m/\m.x=x
 b:∃B m,c4 B h nN m/\m.x=y
 w:qB p 0 x
 bk:qB q 0 y
theorem IB.up{p q:iw}{h b:J}{a c:Nat}{x y:e1}(t:IB p q h a c x y)(le:h.le b):IB p q b a c x y:=by
 obtain⟨⟨B,m,k,d⟩,⟨f,e,g,i⟩,w,bk⟩:=t;exact⟨⟨B,m,k.up le,d⟩,⟨f,e,g.up le,i⟩,w,bk⟩
noncomputable def avH:IR:=J'.o.1.r.r.r.r.r.r.r.r.r.r.r.r.r.l.r.l.l
theorem aAX(Q:k7)(e:cy)(g:c8)(p q:iw){al:J}{n u:Nat}{x y:e1}(t:IB p q al n u x y)(a:Nat)(aS:g.outs.length=p.outs.toNat)(Z:g.outs.length=q.outs.toNat)(hp:p.outs<=16)(aw:q.outs<=16)(pre:∀k,x.wr.getD k []<+:y.wr.getD k []\/y.wr.getD k []<+:x.wr.getD k [])(same:a=1->x.wr=y.wr)(C:List LE)(he:[5,12,13,14,18].map e=([.p 0 0,.v (bY n),.v (bY u),.v (bA .u8 a),.v (R (0:Nat))]:List aK).map (tY [1]))(N:sR C [1]=some (([.own (([.string g.dK,ab g.hA g.a8.length g.ac,ab g.gF g.be.length g.cD,ab g.dR g.ins.length g.cb,ab g.cj g.outs.length g.bO]:List Value).map .v) 26]:List LE).map (pR [1])))(O:∀e L c,al.le c->Q (.exit 0) e L c):kB (λQ e L h=>di aB 123 avH Q e L h) Q e C al:=by
 refine .AV [1] Nat [5,12,13,14,18] (λi=>[.p 0 0,.v (bY n),.v (bY u),.v (bA .u8 a),.v (R i)]) (λ_=>[.own (([.string g.dK,ab g.hA g.a8.length g.ac,ab g.gF g.be.length g.cD,ab g.dR g.ins.length g.cb,ab g.cj g.outs.length g.bO]:List Value).map .v) 26]) (λi c=>al.le c/\i<=g.outs.length) (λi=>g.outs.length-i) 0 (λ_=>rfl) ⟨J.le_refl _,cW _⟩ he rfl N ?_;rintro i e h ⟨le,ai⟩;have t2:=t.up le;refine az λgE U X=>?_;refine az λgA T ev=>?_;refine T _ _ _ ?_;refine aY (λq=>?_) (λq=>?_);refine U _ _ _ ?_;refine az λgj D fD=>?_;refine fb λgk dZ G=>?_;obtain⟨⟨B,m,k,o⟩,⟨d6,bt,W,A⟩,w,bk⟩:=t2;have wl:=w.wr;have M:=bk.wr;have d:i<x.wr.length:=I;have b:i<y.wr.length:=I;have gC:=w.l3 _ (cG d);have K:=bk.l3 _ (cG b);have H:=Vi k i (by rw[o];exact d) (by rw[o,Gy d];omega);rw[o]at H;refine az λhs P hE=>?_;refine .ah (.mk _ H ?_);rintro v1 h1 f;obtain⟨s,Y,c1,rfl,t1⟩:=f.dV;have F:=Vi (W.up s) i (by rw[A];exact b) (by rw[A,Gy b];omega);rw[A]at F;refine P _ _ _ ?_;refine az λgZ V g6=>?_;refine .ah (.mk _ F ?_);rintro v2 ae j;obtain⟨r,S,c2,rfl,t2⟩:=j.dV;refine V _ _ _ ?_;have l:=anl Y S _ _ c1 c2 _ _ ae (t1.mono r) t2 (by rw[Gy d];omega) (by rw[Gy b];omega) (pre i);refine az λiK E hg=>?_;refine .ah (.mk _ l ?_);rintro _ _ ⟨rfl,rfl⟩;conv=>whnf
 by_cases z:a=1;rw[gG (show(a:Int)=1 by omega)];refine E _ _ _ ?_;refine nd rfl (λq=>?_) (λq=>?_);exact absurd (by rw[same z]) (q2 q);refine G _ _ _ _ nofun (D _ _ _ ?_);refine .bg ?_;exact⟨i+1,rfl,rfl,⟨J.le_trans le (J.le_trans s r),I⟩,by show g.outs.length- (i+1)<g.outs.length-i;omega⟩;rw[io (show¬(a:Int)=1 by omega)];refine E _ _ _ ?_;refine nd rfl nofun (λq=>?_);refine G _ _ _ _ nofun (D _ _ _ ?_);refine .bg ?_;exact⟨i+1,rfl,rfl,⟨J.le_trans le (J.le_trans s r),I⟩,by show g.outs.length- (i+1)<g.outs.length-i;omega⟩;refine X _ _ _ _ nofun ?_;exact O _ _ h le
theorem aAU(g:c8)(h:J)(ok:g.ok h)(u:vz h)(P:Option Addr)(k c2:Nat)(aE:List Int)(oM:bf h 1 P k (gT aE))(hk:k<=70368744177664)(FX:Option Addr)(fO IS:Nat)(re:List Int)(WE:bf h 1 FX fO (gT re))(bP:fO<=70368744177664)(r2:Option Addr)(lv:Nat)(F:List cY)(sY:bf h 1 r2 F.length (F.map λd=>[d.val]))(bn:∀d∈F,d.ok h/\d.l.length<=17592186044416)(eE:Int):Fn aB 4 #[.agg #[.string g.dK,ab g.hA g.a8.length g.ac,ab g.gF g.be.length g.cD,ab g.dR g.ins.length g.cb,ab g.cj g.outs.length g.bO,ab P k c2,ab r2 F.length lv,R eE],ab FX fO IS] h λv aa=>v=c5 true/\h.le aa:=by
 have m7:=UF g h ok u P k c2 aE oM hk;have n7:=λh1(le:h.le h1)=>UF g h1 (ok.mono le) (u.mono le) FX fO IS re (WE.mono le) bP;have gc:g.cells=[.string g.dK,ab g.hA g.a8.length g.ac,ab g.gF g.be.length g.cD,ab g.dR g.ins.length g.cb,ab g.cj g.outs.length g.bO]:=rfl;rw[gc]at m7 n7;refine b6 J' rfl ?_;refine az λgE de gm=>?_;refine de _ _ _ ?_;refine az λgA db ev=>?_;refine db _ _ _ ?_;refine az λgj c6 fD=>?_;refine c6 _ _ _ ?_;refine az λgk dZ ez=>?_;refine dZ _ _ _ ?_;refine az λhs dG hE=>?_;refine .ah (.mk _ m7 ?_);rintro _ h1 ⟨b,⟨rfl,bad⟩|⟨x,rfl,mk⟩⟩;refine dG _ _ _ ?_;refine az λgZ ea g6=>?_;refine .ah (.mk _ (n7 h1 b) ?_);rintro _ ae ⟨a,⟨rfl,anG⟩|⟨y,rfl,D⟩⟩;refine ea _ _ _ ?_;refine az λiK eT G=>?_;refine az λjl j jc=>?_;refine j _ _ _ ?_;refine .ah (.mk _ (IH ae ((u.mono b).mono a)) ?_);rintro _ au ⟨rfl,E⟩;refine G _ _ _ _ nofun ?_;exact .ah ⟨rfl,J.le_trans b (J.le_trans a E)⟩;refine ea _ _ _ ?_;refine az λiK eT G=>?_;refine az λjl j jc=>?_;refine j _ _ _ ?_;refine .ah (.mk _ (IH ae ((u.mono b).mono a)) ?_);rintro _ au ⟨rfl,E⟩;refine G _ _ _ _ nofun ?_;exact .ah ⟨rfl,J.le_trans b (J.le_trans a E)⟩;refine dG _ _ _ ?_;refine az λgZ ea g6=>?_;refine .ah (.mk _ (n7 h1 b) ?_);rintro _ ae ⟨a,⟨rfl,anG⟩|⟨y,rfl,D⟩⟩;refine ea _ _ _ ?_;refine az λiK eT G=>?_;refine az λjl j jc=>?_;refine j _ _ _ ?_;refine .ah (.mk _ (IH ae ((u.mono b).mono a)) ?_);rintro _ au ⟨rfl,E⟩;refine G _ _ _ _ nofun ?_;exact .ah ⟨rfl,J.le_trans b (J.le_trans a E)⟩;refine ea _ _ _ ?_;refine az λiK eT G=>?_;refine az λjl j jc=>?_;have out:∀e L,di aB 123 (.seq (.cd [⟨some 54,none,.call 8 []⟩,⟨some 4,none,.set (.t 54)⟩]) .ret) iK e L ae:=by
  intro e L;refine .ah (.mk _ (IH ae ((u.mono b).mono a)) ?_);rintro _ au ⟨rfl,E⟩;refine G _ _ _ _ nofun ?_;exact .ah ⟨rfl,J.le_trans b (J.le_trans a E)⟩
 refine aY (λq=>?_) (λaL=>?_);refine j _ _ _ ?_;exact out _ _;refine j _ _ _ ?_;refine aY (c:=8<eE) (λq=>out _ _) (λaH=>?_);clear out;refine eT _ _ _ ?_;obtain⟨n,rfl⟩:∃n:Nat,eE=n:=⟨eE.toNat,I⟩;have H:n<=8:=I;have M:=mk.DR;have N:=D.DR;have yJ:g.outs.length=x.p.outs.toNat:=by
  obtain⟨_,_,_,_,_,_,_,_,_,_,md,_⟩:=mk.ex;rw[md.2.2.2.1];omega
 have asD:g.outs.length=y.p.outs.toNat:=by
  obtain⟨_,_,_,_,_,_,_,_,_,_,md,_⟩:=D.ex;rw[md.2.2.2.1];omega
 have sP:x.p.cells=[R x.p.mem,R x.p.bj,R x.p.ins,R x.p.outs,ab x.p.jf x.p.parts.length x.p.cN,ab x.p.eU x.p.lines.length x.p.lc,ab x.p.cj x.p.ops.length x.p.bO]:=rfl;have aBF:y.p.cells=[R y.p.mem,R y.p.bj,R y.p.ins,R y.p.outs,ab y.p.jf y.p.parts.length y.p.cN,ab y.p.eU y.p.lines.length y.p.lc,ab y.p.cj y.p.ops.length y.p.bO]:=rfl;have S:=J.le_trans b a;have m9:=UE x.p _ ae (mk.ok.mono a) M r2 lv F (sY.mono S) (λd T=>⟨(bn d T).1.mono S,(bn d T).2⟩);rw[sP]at m9;refine az λjV hf h6=>?_;refine .ah (.mk _ m9 ?_);rintro _ aU ⟨aX,B,m,rfl,g7,N0,JN⟩;refine hf _ _ _ ?_;have Ug:=J.le_trans S g7;have UN:=UE y.p _ B (D.ok.mono g7) N r2 lv F (sY.mono Ug) (λd T=>⟨(bn d T).1.mono Ug,(bn d T).2⟩);rw[aBF]at UN;refine az λkD gK kl=>?_;refine .ah (.mk _ (UN.frame N0.le) ?_);rintro _ cE ⟨g1,⟨nN,aGt,qh,rfl,Ul,dp,o4⟩,N',AO,fresh⟩;refine gK _ _ _ ?_;have aeW:aU.le cE:=λo U f=>by
  cases i:B o with
  |none=>exact AO o U i f
  |some gq=>
   have e:=N0.le _ _ i;rw[f]at e;injection e with e;rw[e];exact N' _ _ (dp.le _ _ (Ul _ _ i))
 have kk:∀e∈g.be,e.st.length=e.n:=λe he=>by simpa using(ok.qI e he).dV.len
 have aql:((F.map cY.l).take x.p.ins.toNat++bh (x.p.ins.toNat-F.length) []).length=x.p.ins.toNat:=by simp;omega
 have aqm:((F.map cY.l).take y.p.ins.toNat++bh (y.p.ins.toNat-F.length) []).length=y.p.ins.toNat:=by simp;omega
 obtain⟨r,Mx,aq,ay,RG⟩:=mk.ends kk (F.map cY.l) H;obtain⟨K,Rr,pH,e7,RH⟩:=D.ends kk (F.map cY.l) H;obtain⟨bp,ch,e0⟩:=mk.aAT D RG RH;have aG2:=M.rA;have aG3:=N.rA;have qS:n*(h' (gd g) x.cQ.bM+1)<=8*131072:=lP H I;have o2:n*(h' (gd g) y.cQ.bM+1)<=8*131072:=lP H I;have Bc:=ru.start M aql (C:=n*(h' (gd g) x.cQ.bM+1)+1) I;have ajo:=ru.start N aqm (C:=n*(h' (gd g) y.cQ.bM+1)+1) I;rw[List.length_map]at aq pH;have O':=V0 N0 n H (by rw[JN];exact⟨vp 0,(by decide:(0:Int)<=1000000000)⟩) M _ (by rw[JN];exact Bc) r.1 r.2 (by rw[JN];exact aq);have Ff:=V0 dp n H (by rw[o4];exact⟨vp 0,(by decide:(0:Int)<=1000000000)⟩) N _ (by rw[o4];exact ajo) K.1 K.2 (by rw[o4];exact pH);refine az λpt kx oD=>?_;refine az λtb mn wi=>?_;refine mn _ _ _ ?_;refine kx _ _ _ ?_;refine az λBG sG CC=>?_;refine .ah (.mk _ (O'.frame aeW) ?_);rintro _ e6 ⟨g2,⟨d6,bt,rfl,Uj,Q,rG,Ln⟩,Up,aey,W⟩;refine sG _ _ _ ?_;have aeV:g1.le e6:=λo U f=>by
  cases O:aU o with
  |none=>exact aey o U O (N' _ _ f)
  |some y8=>
   rcases fresh o (by rw[f];nofun)with i|i;cases A:B o with
   |none=>exact absurd A i
   |some nz=>
    have e:=dp.le _ _ (Ul _ _ A);rw[f]at e;injection e with e;rw[e];exact Up _ _ (Q.le _ _ (Uj _ _ A))
   rw[i]at O;cases O
 refine az λDu xH Ke=>?_;refine .ah (.mk _ (Ff.frame aeV) ?_);rintro _ nT ⟨g3,⟨ajY,f',rfl,ayz,T8,uR,aFJ⟩,Uq,aez,aqF⟩;refine xH _ _ _ ?_;have Uh:g2.le nT:=λo U f=>by
  cases Sb:g1 o with
  |none=>exact aez o U Sb (Up _ _ f)
  |some iI=>
   have V:=N' _ _ Sb;rcases W o (by rw[f];nofun)with O|ard;rcases fresh o (by rw[Sb];nofun)with i|arc;cases A:B o with
   |none=>exact absurd A i
   |some nz=>
    have e:=Q.le _ _ (Uj _ _ A);rw[f]at e;injection e with e;rw[e];exact Uq _ _ (T8.le _ _ (ayz _ _ (Ul _ _ A)))
   exact absurd arc O;rw[ard]at V;cases V
 have Y:h.le nT:=J.le_trans S (J.le_trans g7 (J.le_trans Uj (J.le_trans Q.le Uh)));have two:IB x.p y.p nT aX nN r.1 K.1:=⟨⟨d6,bt,Q.up Uh,rG⟩,⟨ajY,f',T8.up Uq,uR⟩,Ln,aFJ⟩;clear Uh aeV AO aey aez fresh W aqF N' Up Uq N0 dp Q T8 O' Ff Bc ajo aq pH aeW;have aFq:=u.mono Y;have B6:∀{c t:Nat},t=(if c=0 then 1 else c)->(c=0\/2<=c)->(t=1↔c=0):=λh1 ae=>by subst h1;split<;>omega
 have cD:∀{full:List Nat}{s:fx}{w:List (List Int)}{c:Nat},s5 g full s w c->c=0\/2<=c:=λ⟨_,_,_,_,k⟩=>k.elim (λk=>Or.inl k.1) λk=>Or.inr k.1;have d1:=B6 ay (cD RG);have d2:=B6 e7 (cD RH);have atB:r.2=1->r.1.wr=K.1.wr:=λz=>ch (d1.1 z);have X:r.2=1↔K.2=1:=d1.trans (bp.trans d2.symm);clear g7 Ug S sY oM bn u ok mk D m9 UN RG RH bp ch B6 cD d1 d2 ay e7 n7 m7;have aqs:=M.iI;have aqt:=N.iI;refine az λL9 G7 NX=>?_;refine az λQB CB T5=>?_;refine CB _ _ _ ?_;have cO:decide ((r.2:Int)=1)=decide ((K.2:Int)=1):=decide_eq_decide.2 ⟨λz=>by have:=X.1 I;omega,λz=>by have:=X.2 I;omega⟩;refine nd rfl (λq=>?_) (λq=>?_);rw[cO,beq_self_eq_true]at q;cases q;refine G7 _ _ _ ?_;refine az λX9 Kc aeu=>?_;refine az λQC Kd aev=>?_;refine Kd _ _ _ ?_;refine fb λX' T4 ayf=>?_;refine .kY (.ah (aAX X' _ g x.p y.p two r.2 yJ asD aqs aqt e0 atB _ rfl rfl λe L aq' Z=>?_));refine T4 _ _ _ (Kc _ _ _ ?_);refine .ah (.mk _ (IH aq' (aFq.mono Z)) ?_);rintro _ aG6 ⟨rfl,ayy⟩;exact .ah ⟨rfl,J.le_trans Y (J.le_trans Z ayy)⟩
end Go.Sx
