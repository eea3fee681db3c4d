/- A part of the proof that the statement holds. Conditions: none. -/
import Derived.Test.YtlbdbpaelcnfgaaGreatDoorAP
import Derived.Test.YtlbdbpaelcnfgaaGreatDoorAS
import Derived.Test.YtlbdbpaelcnfgaaGreatDoorAX
import Derived.Test.YtlbdbpaelcnfgaaGreatDoorAY
import Derived.Test.YtlbdbpaelcnfgaaGreatDoorBB
open Classical renaming not_not->kc
open Go renaming Addr->aE,maxLen->eQ
open Go.Addr renaming mk->oA
open Go.Obj renaming cells->bb
open Go.Proofs.Tryz renaming prog->aD
open Go.Value renaming int->bC,slice->ab,tuple->eA
open Int renaming toNat_natCast->bn
open List renaming append_nil->sf,drop_eq_getElem_cons->l1,drop_eq_nil_of_le->py,getD_eq_getElem?_getD->cc,getElem?_eq_getElem->bK,getElem?_eq_none->l2,getElem?_map->de,getElem_mem->b3,length->fv,length_append->fb,length_map->fj,length_set->fI,map_append->fw,map_congr_left->ny,map_cons->er,map_map->ig,map_replicate->p7,map_set->kB,mem_append->eI,mem_append_left->wz,mem_append_right->xN,mem_cons->ez,mem_flatMap->sg,mem_map->cO,mem_or_eq_of_mem_set->wA,mem_replicate->ud,mem_singleton->hZ,range->fJ,replicate->bp,take_add_one->amU,take_length->rv
open Nat renaming le_refl->dM,le_trans->lf,mul_le_mul->mh,mul_le_mul_left->Sc,mul_one->e4,zero_add->dZ,zero_le->cU
open Or renaming inl->bQ,inr->ba
open Prod renaming snd->dV
open Prod.mk renaming inj->ry
namespace Go.Sx
open Go.Proofs
set_option maxRecDepth 100000
set_option maxHeartbeats 0
set_option linter.all false
variable {B h:J}{g:dd}{q:oD}
theorem bw.aAw{bF size n c:Nat}{A:Option aE}{xs:List Value}(r:bw h bF size A n c xs):n<=c:=by
 obtain⟨_,⟨_,a,b⟩|⟨_,_,_,_,a,_⟩⟩:=r;omega;exact a
theorem aqF Q(e:cg){g:dd}{B am:J}{j:oD}{s:fq}{M:Nat}(iH:M<=1000000000)(Y:g.ok B)(k:h0 B am j s M)(v:Nat) bv VC yJ Fl{X:Option aE}{g5:Nat}{rs:List Int}(ft:bg B 1 X rs.length (gi rs))(kk:∀r∈rs,1<=r/\r<=64)(hp:∀x∈g.aP,x.dst=v->0<=x.hF/\x.hF<rs.length) o{D:List bM}(aq:D.length=rs.length)(DB:∀d∈D,zg B am d)(el:j.es.length=g.aP.length)(o6:g.aP.length<=96)(he:[1,2,3,4,5,6,13,14,16,20].map e=[.v (R v),.v bv,.v (ab j.c8 g.aP.length j.b0),.v VC,.v yJ,.p 0 0,.v (ab X rs.length g5),.v Fl,.v (ab (some o) rs.length rs.length),.v (R (0:Nat))])(cF:∀(e:cg) y a f(K:List bM),rE v rs 0 g.aP (s,D.map bM.l)=(f,K.map bM.l)->h0 B y {j with es:=a} f M->f.outs=s.outs->f.cV=s.cV->a.length=g.aP.length->K.length=rs.length->(∀d∈K,zg B y d)->[1,2,3,4,5,6,13,14,16].map e=[.v (R v),.v bv,.v (ab j.c8 g.aP.length j.b0),.v VC,.v yJ,.p 0 0,.v (ab X rs.length g5),.v Fl,.v (ab (some o) rs.length rs.length)]->Q (.exit 2) e [ll g,.row 27 1 (some o) rs.length rs.length (K.map bM.val)] y):jk (λQ e L h=>dq aD 208 axq Q e L h) Q e [ll g,.row 27 1 (some o) rs.length rs.length (D.map bM.val)] am:=by
 refine .mk (Nat×List js×fq×List bM) [1,2,3,4,5,6,13,14,16,20] (λ(i,_,_,_)=>[.v (R (v:Int)),.v bv,.v (ab j.c8 g.aP.length j.b0),.v VC,.v yJ,.p 0 0,.v (ab X rs.length g5),.v Fl,.v (ab (some o) rs.length rs.length),.v (R (i:Int))]) (λ(_,_,_,row)=>[ll g,.row 27 1 (some o) rs.length rs.length (row.map bM.val)]) (λ(i,a,f,row) y=>rE v rs 0 g.aP (s,D.map bM.l)=rE v rs i (g.aP.drop i) (f,row.map bM.l)/\h0 B y {j with es:=a} f M/\f.outs=s.outs/\f.cV=s.cV/\a.length=g.aP.length/\row.length=rs.length/\(∀d∈row,zg B y d)/\i<=g.aP.length) (λ(i,_,_,_)=>g.aP.length-i) (0,j.es,s,D) (λ_=>rfl) ⟨rfl,k,rfl,rfl,el,aq,DB,cU _⟩ he rfl ?_;refineλ⟨i,a,f,row⟩ e h⟨inv,k,S,pK,G,Z,O,ai⟩=>ay λfD cQ eT=>ay λfy cM d9=>cM _ _ _ (aW (λh1=>?_) (λh1=>?_));have C:i<g.aP.length:=I;refine cQ _ _ _ ?_;obtain⟨V,w⟩:=Y.aP.b4 I;have lx:(g.aP.map GE.cells)[i]?=some (GE.cells g.aP[i]):=by rw[de,bK C];rfl
 have apx:=(Y.aP.mono k.le).row w lx 2 (R g.aP[i].dst) rfl;have C5:=(Y.aP.mono k.le).row w lx 3 (R g.aP[i].hF) rfl;have qj:g.aP.drop i=g.aP[i]::g.aP.drop (i+1):=l1 C;rw[qj,rE]at inv;refine ay λfz cL eZ=>ew λfE dR dH=>ay λgF du gN=>.m V w (.hp (R g.aP[i].dst) (by rw[bn];exact apx) (du _ _ _ (aW (λq=>?_) (λq=>?_))));have q:g.aP[i].dst=v:=q;rw[aS q]at inv;obtain⟨DX,iQ⟩:=hp _ (b3 C) q;obtain⟨p,E⟩:∃p:Nat,g.aP[i].hF=p:=⟨g.aP[i].hF.toNat,I⟩;have lH:p<rs.length:=I;obtain⟨fB,hs⟩:=ft.b4 I;have kS:=WE (ft.mono k.le) hs lH;have aEC:=kk _ (b3 lH);obtain⟨n,iU⟩:∃n:Nat,rs[p]=n:=⟨rs[p].toNat,I⟩;have Tl:gH rs g.aP[i].hF.toNat=n:=by
  unfold gH;rw[E,bn,cc,bK lH,Option.getD_some,iU,bn]
 rw[Tl]at inv;have t:i<a.length:=I;have z6:=k.c4.r _ (b3 t);have F5:=k.x3 _ (b3 t);have aAa:=k.vB _ (b3 t);have N:=k.c4.row;have c8:∃F,j.c8=some F:=by
  cases aK:j.c8 with
  |none=>
   rw[show({j with es:=a}:oD).c8=none from aK]at N;obtain⟨_,⟨_,z,_⟩|⟨_,_,z,_⟩⟩:=N;have z:a.length=0:=z;omega;cases z
  |some F=>exact⟨F,rfl⟩
 obtain⟨F,aK⟩:=c8;rw[show({j with es:=a}:oD).c8=some F from aK]at N;obtain⟨b,au,rfl,U,sO,B6,_,_⟩:=N.split;have P:tape f (3,(i:Int))=⟨a[i].l,a[i].k⟩:=by
  show f.c4.getD (i:Int).toNat fR=_;rw[bn,<-k.Bs,cc,de,bK t];rfl
 have Kq:=abf (h:=h) (b:=b) (T:=a) (au:=au) j.b0 U (n:=n) t z6.j7 aAa z6.aAw I I (λvE ak al e=>by
  obtain⟨be,av⟩:=z6.jP ak;exact eN av U aH e)
 rw[G,<-aK]at Kq;refine ay λgL ed gG=>.m V w (.hp (R g.aP[i].hF) (by rw[bn];exact C5) (.m fB hs (.hp (R (n:Int)) (by rw[E,bn,<-iU];exact kS) (.ag (.mk _ Kq (λr ae W=>?_))))));by_cases lv:a[i].l.length<a[i].k+n;rw[aS lv]at W;obtain⟨rfl,rfl⟩:=W;rw[aS (by unfold short;rw[P];exact lv)]at inv;refine ed _ _ _ (.m V w (.hp (R g.aP[i].hF) (by rw[bn];exact C5) (.m o rfl (.row 1 27 1 o rs.length rs.length (row.map bM.val) ((row.set p ⟨none,0,[]⟩).map bM.val) (p*1) rfl (by rw[E,bn]) (QX I ⟨none,0,[]⟩) (dH _ _ _ _ nofun (cL _ _ _ (.bl (⟨(i+1,a,f,row.set p ⟨none,0,[]⟩),rfl,rfl,⟨?_,k,S,pK,G,by rw[fI];exact Z,λd u=>?_,C⟩,by show g.aP.length- (i+1)<g.aP.length-i;omega⟩))))))));rw[inv,kB,E,bn];rcases wA u with u|rfl;exact O d u;exact⟨bg.nil _ _ _,nofun⟩;rw[aC lv]at W;obtain⟨rfl,H,pF,rfl,X9,SK⟩:=W;rw[aC (by unfold short;rw[P];exact lv)]at inv;have bS:=k.aFc (i:=i) t aK U ⟨a[i].A,a[i].c,a[i].l,a[i].k+n⟩ z6 (λg1 kG=>k.c4.n a[i] (b3 t) g1 kG) rfl (by show a[i].k+n<=a[i].l.length;omega) (dM _) F5;have b0:iA f (3,(i:Int)) n={f with c4:=f.c4.set i ⟨a[i].l,a[i].k+n⟩}:=by
  show{f with c4:=f.c4.set (i:Int).toNat ((tape f (3,(i:Int))).x2 n)}=_;rw[bn,P];rfl
 refine ed _ _ _ (.m V w (.hp (R g.aP[i].hF) (by rw[bn];exact(Y.aP.mono bS.le).row w lx 3 (R g.aP[i].hF) rfl) (.m o rfl ?_)));have cK:((a[i].l.drop a[i].k).take n).length=n:=by rw[List.length_take,List.length_drop];omega
 have KB:(⟨H,pF,(a[i].l.drop a[i].k).take n⟩:bM).val=ab H n pF:=by unfold bM.val;rw[cK]
 refine .row 1 27 1 o rs.length rs.length (row.map bM.val) ((row.set p ⟨H,pF,(a[i].l.drop a[i].k).take n⟩).map bM.val) (p*1) rfl (by rw[E,bn]) (by rw[<-KB];exact QX I _) (dH _ _ _ _ nofun (cL _ _ _ (.bl (⟨(i+1,a.set i ⟨a[i].A,a[i].c,a[i].l,a[i].k+n⟩,iA f (3,(i:Int)) n,row.set p ⟨H,pF,(a[i].l.drop a[i].k).take n⟩),rfl,rfl,⟨?_,by rw[b0];exact bS,S,pK,by rw[fI];exact G,by rw[fI];exact Z,λd u=>?_,C⟩,by show g.aP.length- (i+1)<g.aP.length-i;omega⟩))));rw[inv,kB,P,E,bn];rfl;rcases wA u with u|rfl;exact(O d u).put (k.c4.hi _ aK) U aH;refine⟨?_,λvE ak al=>ba ?_⟩;show bg _ 1 H ((a[i].l.drop a[i].k).take n).length _;rw[cK];exact X9;have al:(a[i].l.drop a[i].k).take n≠[]:=al;have Ih:0<n:=I;obtain⟨g0,dG,aQ⟩:=SK vE ak Ih;rw[aQ];have dS:=bS.c4.r ⟨a[i].A,a[i].c,a[i].l,a[i].k+n⟩ (List.mem_iff_getElem.2 ⟨i,by rw[fI];exact t,bc⟩);exact dS.jP dG;have q:¬g.aP[i].dst=v:=q;rw[aC q]at inv;exact dH _ _ _ _ nofun (cL _ _ _ (.bl (⟨(i+1,a,f,row),rfl,rfl,⟨inv,k,S,pK,G,Z,O,C⟩,by show g.aP.length- (i+1)<g.aP.length-i;omega⟩)));refine eT _ _ _ _ nofun ?_;rw[py I,rE]at inv;exact cF _ _ _ _ _ inv k S pK G Z O rfl
theorem Aa{A:Option aE}(le:B.le h)(n:∀g,A=some g->B g.block=none):B.le (en h A):=λo U e=>by
 rw[mm λg a q=>by rw[q,n g a]at e;cases e];exact le _ _ e
theorem aj1{d:bM}(ok:d.ok h) L:Src L h 1 d.A d.l.length (d.l.map R):=by
 have:=ok.src L;unfold gi at this;rw[yd]at this;exact this
theorem h0.more{s:fq}{M jI:Nat}(k:h0 B h q s M)(b:M<=jI):h0 B h q s jI:={k with x3:=λd a=>lf (k.x3 d a) b,xo:=λd a=>lf (k.xo d a) b}
theorem aDB Q(e:cg){sd:List LE}{g:dd}{B am:J}{f:oD}{P:fq}{M:Nat}(iH:M<=900000000)(F:g.ok B)(k:h0 B am f P M)(v:Nat) yJ{hh:Option aE}{gc:Nat}{D:List bM}(t6:RowsIn B hh D)(d64:∀d∈D,d.l.length<=64)(hp:∀x∈g.aP,x.src=v->0<=x.sp/\x.sp<D.length)(el:f.es.length=g.aP.length)(o6:g.aP.length<=96)(he:[1,3,5,6,23,25].map e=[.v (R v),.v (ab f.c8 g.aP.length f.b0),.v yJ,.p 0 0,.v (ab hh D.length gc),.v (R (0:Nat))])(aX:rf sd [0]=some (([ll g]:List LE).map (oS [0])))(cF:∀(e:cg) K a j,nT v (D.map bM.l) 0 g.aP P=j->h0 B K {f with es:=a} j (M+64*g.aP.length)->a.length=g.aP.length->[1,3,5,6,23].map e=[.v (R v),.v (ab f.c8 g.aP.length f.b0),.v yJ,.p 0 0,.v (ab hh D.length gc)]->Q (.exit 4) e [ll g] K):jk (λQ e L h=>dq aD 208 axr Q e L h) Q e sd am:=by
 refine .mb [0] (Nat×List js×fq) [1,3,5,6,23,25] (λ(i,_,_)=>[.v (R (v:Int)),.v (ab f.c8 g.aP.length f.b0),.v yJ,.p 0 0,.v (ab hh D.length gc),.v (R (i:Int))]) (λ_=>[ll g]) (λ(i,a,j) K=>nT v (D.map bM.l) 0 g.aP P=nT v (D.map bM.l) i (g.aP.drop i) j/\h0 B K {f with es:=a} j (M+64*i)/\a.length=g.aP.length/\i<=g.aP.length) (λ(i,_,_)=>g.aP.length-i) (0,f.es,P) (λ_=>rfl) ⟨rfl,k,el,cU _⟩ he rfl aX ?_;rintro⟨i,a,j⟩ e h ⟨inv,k,k6,ai⟩;by_cases t:i<g.aP.length;have qj:g.aP.drop i=g.aP[i]::g.aP.drop (i+1):=l1 t;rw[qj,nT]at inv;have MQ:M+64*i<=M+64*(i+1):=I;by_cases q:g.aP[i].src=v;rw[aS q]at inv;obtain⟨DX,iQ⟩:=hp _ (b3 t) q;obtain⟨p,rF⟩:∃p:Nat,g.aP[i].sp=p:=⟨g.aP[i].sp.toNat,I⟩;have S:p<D.length:=I;have s:i<a.length:=I;have z6:=k.c4.r _ (b3 s);have VK:=k.c4.n _ (b3 s);have F5:=k.x3 _ (b3 s);have H:=k.c4.row;have c8:∃C,f.c8=some C:=by
  cases aK:f.c8 with
  |none=>
   rw[show({f with es:=a}:oD).c8=none from aK]at H;obtain⟨_,⟨_,z,_⟩|⟨_,_,z,_⟩⟩:=H;have z:a.length=0:=z;omega;cases z
  |some C=>exact⟨C,rfl⟩
 obtain⟨C,aK⟩:=c8;rw[show({f with es:=a}:oD).c8=some C from aK]at H;obtain⟨b,au,rfl,V,sO,B6,_,_⟩:=H.split;have c':∀W,a[i].A=some W->b≠W.block:=λW c9=>by
  obtain⟨be,av⟩:=z6.jP c9;exact eN V av aH
 obtain⟨w,E⟩:∃w,w=en h a[i].A:=⟨_,rfl⟩;have G:B.le w:=by rw[E];exact Aa k.le VK
 have K2:w b=some (bb (hQ a++au).toArray 120 (0,0)):=by rw[E,mm c'];exact V
 refine .abs 3 1 a[i].A a[i].l.length a[i].c (a[i].l.map R) z6 (.ag ?_);rw[<-E];refine ay λfD O eT=>ay λfy y d9=>y _ _ _ (aW (λ_=>?_) (λh1=>absurd h1 I));refine O _ _ _ ?_;obtain⟨N,o⟩:=F.aP.b4 I;have T:(g.aP.map GE.cells)[i]?=some (GE.cells g.aP[i]):=by rw[de,bK t];rfl
 have U:=(F.aP.mono G).row o T 0 (R g.aP[i].src) rfl;have C5:=(F.aP.mono G).row o T 1 (R g.aP[i].sp) rfl;obtain⟨TT,cE⟩:=t6.dK.b4 I;have SQ:=(t6.dK.mono G).one cE (i:=p) (r:=[D[p].val]) (by unfold D4;rw[de,bK S];rfl) rfl;obtain⟨e5,c1⟩:=Yb a au i s;refine ay λfz X eZ=>ew λfE dR Y=>ay λgF Z gN=>.m N o (.hp (R g.aP[i].src) (by rw[bn];exact U) (Z _ _ _ (aW (λ_=>?_) (λda=>absurd q da))));have CZ:(oA b 0 none).add ((i:Int).toNat*2)=⟨b,i*2,none⟩:=by rw[bn,add_lit,dZ]
 refine .m ⟨b,0,none⟩ aK (.hp (ab a[i].A a[i].l.length a[i].c) (by rw[CZ];exact cell_of K2 e5) (.m N o (.hp (R g.aP[i].sp) (by rw[bn];exact C5) (.m TT cE (.hp D[p].val (by rw[rF,bn];exact SQ) ?_)))));have d6:=d64 _ (b3 S);have tC:(a[i].l++D[p].l).length=a[i].l.length+D[p].l.length:=fb;refine .c0 1 (a[i].l.map R) (D[p].l.map R) rfl (aj1 ((t6.row _ (b3 S)).mono G) _) (λu hu=>by obtain⟨x,_,rfl⟩:=cO.1 hu;rfl) (by unfold eQ;omega) I λbo bj _=>.m ⟨b,0,none⟩ aK ?_;have ev:i*2<(hQ a++au).length:=by rw[fb,Ek];omega
 refine .hp b (i*2) 120 (hQ a++au) (hQ (a.set i ⟨bo,bj,a[i].l++D[p].l,a[i].k⟩)++au) (by rw[CZ];rfl) K2 (by rw[io _ _ _ ev,<-Yc a au i s,tC]) (Y _ _ _ _ nofun (X _ _ _ (.bl (.b5 1 3 1 bo (a[i].l.length+D[p].l.length) bj _ rfl λaT c3 fC f4=>.ag ?_))));have lP:bw aT 3 1 bo (a[i].l++D[p].l).length bj ((a[i].l++D[p].l).map R):=by rw[tC,fw];exact fC
 have bS:=k.aBt (i:=i) s aK V (bo:=bo) (bj:=bj) (xs:=D[p].l) (aT:=aT) (by rw[<-show w=en h a[i].A from E];exact c3) lP (by rw[<-show w=en h a[i].A from E];exact f4) MQ (by show(a[i].l++D[p].l).length<=_;rw[tC];have F5:a[i].l.length<=M+64*i:=F5;omega);refine⟨(i+1,a.set i ⟨bo,bj,a[i].l++D[p].l,a[i].k⟩,{j with c4:=j.c4.set i ⟨a[i].l++D[p].l,a[i].k⟩}),rfl,rfl,⟨?_,bS,by rw[fI];exact k6,t⟩,by show g.aP.length- (i+1)<g.aP.length-i;omega⟩;rw[inv,rF];congr 1;have T2:(D.map bM.l).getD (p:Int).toNat []=D[p].l:=by rw[bn,cc,de,bK S];rfl
 rw[T2];show{j with c4:=j.c4.set (i:Int).toNat ((j.c4.getD (i:Int).toNat fR).put D[p].l)}=_;have Yf:j.c4.getD i fR=⟨a[i].l,a[i].k⟩:=by
  rw[<-k.Bs,cc,de,bK s];rfl
 rw[bn,Yf];rfl;rw[aC q]at inv;refine .ag (ay λfD O eT=>ay λfy y d9=>y _ _ _ (aW (λ_=>?_) (λh1=>absurd h1 I)));refine O _ _ _ ?_;obtain⟨N,o⟩:=F.aP.b4 I;have T:(g.aP.map GE.cells)[i]?=some (GE.cells g.aP[i]):=by rw[de,bK t];rfl
 have U:=(F.aP.mono k.le).row o T 0 (R g.aP[i].src) rfl;exact ay λfz X eZ=>ew λfE dR Y=>ay λgF Z gN=>.m N o (.hp (R g.aP[i].src) (by rw[bn];exact U) (Z _ _ _ (aW (λda=>absurd da q) (λ_=>Y _ _ _ _ nofun (X _ _ _ (.bl (.ag ⟨(i+1,a,j),rfl,rfl,⟨inv,k.more MQ,k6,t⟩,by show g.aP.length- (i+1)<g.aP.length-i;omega⟩)))))));refine .ag (ay λfD O eT=>ay λfy y d9=>y _ _ _ (aW (λh1=>absurd h1 I) (λ_=>eT _ _ _ _ nofun ?_)));rw[py I,nT]at inv;have ob:i=g.aP.length:=I;rw[ob]at k;exact cF _ _ _ _ inv k k6 rfl
theorem aDC Q(e:cg){sd:List LE}{g:dd}{B am:J}{b:oD}{H:fq}{M:Nat}(iH:M<=900000000)(z:g.ok B)(k:h0 B am b H M)(v:Nat){hh:Option aE}{gc:Nat}{D:List bM}(X:RowsIn B hh D)(d64:∀d∈D,d.l.length<=64)(hp:∀x∈g.outs,x.act=v->0<=x.port/\x.port<D.length)(ol:b.os.length=g.outs.length)(r2:g.outs.length<=16)(he:[1,5,6,23,26].map e=[.v (R v),.v (hM b.ef g.outs.length),.p 0 0,.v (ab hh D.length gc),.v (R (0:Nat))])(aX:rf sd [0]=some (([ll g]:List LE).map (oS [0])))(cF:∀e E a f,xu v (D.map bM.l) 0 g.outs H=f->h0 B E {b with os:=a} f (M+64*g.outs.length)->a.length=g.outs.length->Q (.exit 6) e [ll g] E):jk (λQ e L h=>dq aD 208 axs Q e L h) Q e sd am:=by
 refine .mb [0] (Nat×List bM×fq) [1,5,6,23,26] (λ(i,_,_)=>[.v (R (v:Int)),.v (hM b.ef g.outs.length),.p 0 0,.v (ab hh D.length gc),.v (R (i:Int))]) (λ_=>[ll g]) (λ(i,a,f) E=>xu v (D.map bM.l) 0 g.outs H=xu v (D.map bM.l) i (g.outs.drop i) f/\h0 B E {b with os:=a} f (M+64*i)/\a.length=g.outs.length/\i<=g.outs.length) (λ(i,_,_)=>g.outs.length-i) (0,b.os,H) (λ_=>rfl) ⟨rfl,k,ol,cU _⟩ he rfl aX ?_;rintro⟨i,a,f⟩ e h ⟨inv,k,W,ai⟩;by_cases t:i<g.outs.length;have qj:g.outs.drop i=g.outs[i]::g.outs.drop (i+1):=l1 t;rw[qj,xu]at inv;have MQ:M+64*i<=M+64*(i+1):=I;by_cases q:g.outs[i].act=v;rw[aS q]at inv;obtain⟨DX,iQ⟩:=hp _ (b3 t) q;obtain⟨p,rF⟩:∃p:Nat,g.outs[i].port=p:=⟨g.outs[i].port.toNat,I⟩;have K:p<D.length:=I;have s:i<a.length:=I;have z6:=k.h8.r _ (b3 s);have VK:=k.h8.n _ (b3 s);have F5:=k.xo _ (b3 s);have aj:h b.ef=some (bb (a.map bM.val).toArray 27 (0,0)):=k.h8.box;have c':∀P,a[i].A=some P->b.ef≠P.block:=λP c9=>by
  obtain⟨be,av⟩:=z6.jP c9;exact eN aj av aH
 obtain⟨o,y⟩:∃o,o=en h a[i].A:=⟨_,rfl⟩;have C:B.le o:=by rw[y];exact Aa k.le VK
 have K2:o b.ef=some (bb (a.map bM.val).toArray 27 (0,0)):=by rw[y,mm c'];exact aj
 have e5:o.cell? ⟨b.ef,i*1,none⟩=some (ab a[i].A a[i].l.length a[i].c):=cell_of K2 (by rw[e4,de,bK s];rfl);refine .abs 3 1 a[i].A a[i].l.length a[i].c (a[i].l.map R) z6 (.ag ?_);rw[<-y];refine ay λfD G V=>ay λfy w d9=>w _ _ _ (aW (λ_=>?_) (λh1=>absurd h1 I));refine G _ _ _ ?_;obtain⟨F,j⟩:=z.outs.b4 I;have N:(g.outs.map kO.cells)[i]?=some (kO.cells g.outs[i]):=by rw[de,bK t];rfl
 have O:=(z.outs.mono C).row j N 1 (R g.outs[i].act) rfl;have C5:=(z.outs.mono C).row j N 2 (R g.outs[i].port) rfl;obtain⟨TT,cE⟩:=X.dK.b4 I;have SQ:=(X.dK.mono C).one cE (i:=p) (r:=[D[p].val]) (by unfold D4;rw[de,bK K];rfl) rfl;refine ay λfz S eZ=>ew λfE dR T=>ay λgF U gN=>.m F j (.hp (R g.outs[i].act) (by rw[bn];exact O) (U _ _ _ (aW (λ_=>?_) (λda=>absurd q da))));have Z:(oA b.ef 0 none).add ((i:Int).toNat*1)=⟨b.ef,i*1,none⟩:=by rw[bn,add_lit,dZ]
 refine .m ⟨b.ef,0,none⟩ rfl (.hp (ab a[i].A a[i].l.length a[i].c) (by rw[Z];exact e5) (.m F j (.hp (R g.outs[i].port) (by rw[bn];exact C5) (.m TT cE (.hp D[p].val (by rw[rF,bn];exact SQ) ?_)))));have d6:=d64 _ (b3 K);have Y:(a[i].l++D[p].l).length=a[i].l.length+D[p].l.length:=fb;refine .c0 1 (a[i].l.map R) (D[p].l.map R) rfl (aj1 ((X.row _ (b3 K)).mono C) _) (λu hu=>by obtain⟨x,_,rfl⟩:=cO.1 hu;rfl) (by unfold eQ;omega) I λbo bj _=>.m ⟨b.ef,0,none⟩ rfl ?_;have KB:(⟨bo,bj,a[i].l++D[p].l⟩:bM).val=ab bo (a[i].l.length+D[p].l.length) bj:=by unfold bM.val;rw[Y]
 refine .hp b.ef (i*1) 27 (a.map bM.val) ((a.set i ⟨bo,bj,a[i].l++D[p].l⟩).map bM.val) (by rw[Z]) K2 (by rw[<-KB];exact QX s _) (T _ _ _ _ nofun (S _ _ _ (.bl (.b5 1 3 1 bo (a[i].l.length+D[p].l.length) bj _ rfl λaT c3 fC f4=>.ag ?_))));have lP:bw aT 3 1 bo (a[i].l++D[p].l).length bj ((a[i].l++D[p].l).map R):=by rw[Y,fw];exact fC
 have bS:=k.aBu (i:=i) s (bo:=bo) (bj:=bj) (xs:=D[p].l) (aT:=aT) (by rw[<-show o=en h a[i].A from y];exact c3) lP (by rw[<-show o=en h a[i].A from y];exact f4) MQ (by show(a[i].l++D[p].l).length<=_;rw[Y];have F5:a[i].l.length<=M+64*i:=F5;omega);refine⟨(i+1,a.set i ⟨bo,bj,a[i].l++D[p].l⟩,{f with outs:=f.outs.set i (a[i].l++D[p].l)}),rfl,rfl,⟨?_,bS,by rw[fI];exact W,t⟩,by show g.outs.length- (i+1)<g.outs.length-i;omega⟩;rw[inv,rF];congr 1;have T2:(D.map bM.l).getD (p:Int).toNat []=D[p].l:=by rw[bn,cc,de,bK K];rfl
 rw[T2];show{f with outs:=f.outs.set (i:Int).toNat (f.outs.getD (i:Int).toNat []++D[p].l)}=_;have Yf:f.outs.getD i []=a[i].l:=by
  rw[<-k.Aj,cc,de,bK s];rfl
 rw[bn,Yf];rw[aC q]at inv;refine .ag (ay λfD G V=>ay λfy w d9=>w _ _ _ (aW (λ_=>?_) (λh1=>absurd h1 I)));refine G _ _ _ ?_;obtain⟨F,j⟩:=z.outs.b4 I;have N:(g.outs.map kO.cells)[i]?=some (kO.cells g.outs[i]):=by rw[de,bK t];rfl
 have O:=(z.outs.mono k.le).row j N 1 (R g.outs[i].act) rfl;exact ay λfz S eZ=>ew λfE dR T=>ay λgF U gN=>.m F j (.hp (R g.outs[i].act) (by rw[bn];exact O) (U _ _ _ (aW (λda=>absurd da q) (λ_=>T _ _ _ _ nofun (S _ _ _ (.bl (.ag ⟨(i+1,a,f),rfl,rfl,⟨inv,k.more MQ,W,t⟩,by show g.outs.length- (i+1)<g.outs.length-i;omega⟩)))))));refine .ag (ay λfD G V=>ay λfy w d9=>w _ _ _ (aW (λh1=>absurd h1 I) (λ_=>V _ _ _ _ nofun ?_)));rw[py I,xu]at inv;have ob:i=g.outs.length:=I;rw[ob]at k;exact cF _ _ _ _ inv k W
theorem h0.pure{B h h1:J}{q:oD}{s:fq}{M:Nat}(k:h0 B h q s M)(le:h.le h1):B.le (B.grow h h1)/\h0 (B.grow h h1) h1 q s M:=by
 have jM:=By k.le le;have e:∀{o:Nat}{x:Obj},B o=none->h o=some x->B.grow h h1 o=none:=λf j=>rK f (by rw[j];nofun);have u:=k.up le;refine⟨jM,⟨J.xr _ _,⟨u.c4.row,λg b=>?_,u.c4.r,λd a g b=>?_⟩,⟨u.kr.box,e k.kr.hi k.kr.box,λd a=>⟨(u.kr.r d a).1,(u.kr.r d a).2.1,(u.kr.r d a).2.2.mono jM⟩⟩,⟨u.h8.box,e k.h8.hi k.h8.box,u.h8.r,λd a g b=>?_⟩,⟨u.gp.len,λi h1 ae=>?_,u.gp.dE⟩,k.Bs,k.inl,k.Aj,k.ob,k.D7,k.D8,k.Au,k.x3,k.xo,k.vB,k.zW⟩⟩;obtain⟨c,av⟩:=k.N8 b;exact e (k.c4.hi g b) av;obtain⟨c,av⟩:=(k.c4.r d a).jP b;exact e (k.c4.n d a g b) av;obtain⟨c,av⟩:=(k.h8.r d a).jP b;exact e (k.h8.n d a g b) av;exact(k.gp.at_ i h1 ae).pure k.le le
structure sb(q da:oD):Prop where
 c8:da.c8=q.c8
 b0:da.b0=q.b0
 kq:da.kq=q.kq
 ef:da.ef=q.ef
 a':da.a'=q.a'
 el:da.es.length=q.es.length
 k7:da.is.length=q.is.length
 ol:da.os.length=q.os.length
theorem arI(dG:iV g=0){s:fq}{M C v:Nat}(N:g.ok B)(k:h0 B h q s M)(iH:M<=800000000)(H:v<g.aY.length)(bv:la (C+1) (s.cV.getD v gl))(sA:(s.cV.getD v gl).ins=eo g v)(pK:(s.cV.getD v gl).outs=jp g v)(sB:s.cV.length=g.aY.length)(el:q.es.length=g.aP.length)(Y:q.is.length=g.ins.length)(ol:q.os.length=g.outs.length){Gm:List cm}{U:List gX}(S:oF (ph g) v (eo g v) Gm U)(ax:∀x∈gk g v U,x.1.1=3->¬short s x.1 x.2) O':
 Fn aD 33 #[.agg #[.string g.ea,ab g.h2 g.aY.length g.ac,ab g.c8 g.aP.length g.b0,ab g.eg g.ins.length g.cf,ab g.cn g.outs.length g.bT],R v,bY q.a'[v].1,ab q.c8 g.aP.length q.b0,hM q.kq g.ins.length,hM q.ef g.outs.length] h λr aa=>
  ∃dC da dx,r=bC .u8 (nF g v s).2/\B.le dC/\h0 dC aa da dx (M+7168)/\sb q da/\dx.outs=(nF g v s).1.outs/\((nF g v s).2=0->dx=(nF g v s).1):=by
 have f:=ts dG
 have o6:=f.o6
 have i16:=f.i16
 have r2:=f.r2
 have lv:=f.sX _ (b3 H)
 have u:eo g v=(b6 g.aY[v].tag g.aY[v].a8).2.1/\jp g v=(b6 g.aY[v].tag g.aY[v].a8).2.2:=by
  simp[eo,jp,bK H]
 have oT:=bv.oT
 rw[sA]at oT
 obtain⟨aGO,aGP⟩:=aku dG H S ax
 obtain⟨e6,aK⟩:=N.aY.b4 I
 have ou:(g.aY.map hh.cells)[v]?=some (hh.cells g.aY[v]):=by rw[de,bK H];rfl
 have NP:=(N.aY.mono k.le).row aK ou 1 (bC .u8 g.aY[v].tag) rfl
 have SS:=(N.aY.mono k.le).row aK ou 2 (ab g.aY[v].A g.aY[v].n g.aY[v].c) rfl
 have g':=(N.act _ (b3 H)).dK.mono k.le
 have uu:Nz g.aY[v].tag g.aY[v].a8 (eo g v,jp g v):=by rw[u.1,u.2];exact aFi lv
 refine bU LH rfl (ay λfD cQ eT=>cQ _ _ _ (ay λfy cM d9=>.m e6 aK (.hp (bC .u8 g.aY[v].tag) (by rw[bn];exact NP) (.m e6 aK (.hp (ab g.aY[v].A g.aY[v].n g.aY[v].c) (by rw[bn];exact SS) (.mk _ (aCo (c:=g.aY[v].c) g' uu) (λ_ _⟨_,_,_,l,_⟩=>l) ?_))))))
 rintro _ h1 ⟨_,_,rfl,ct,⟨hB,g5,rfl,u3,nb⟩,⟨Ym,G,rfl,hj,fA⟩⟩
 refine cM _ _ _ (ay λfz cL eZ=>?_)
 have aKl:(eo g v).length<=16:=by rw[<-sA];exact bv.rI.1
 refine .one (eo g v).length (ab none 0 0) rfl rfl rfl rfl I I λW=>cL _ _ _ ?_
 obtain⟨p,cz⟩:=k.pure ct
 have P:g.ok (B.grow h h1):=N.mono p
 have ft:bg (B.grow h h1) 1 hB (eo g v).length (gi (eo g v)):=(u3.grown nb).j7
 have aHm:bg (B.grow h h1) 1 Ym (jp g v).length (gi (jp g v)):=(hj.grown fA).j7
 generalize mo:B.grow h h1=o1 at p cz P ft aHm
 have aB':∀d∈bp (eo g v).length (⟨none,0,[]⟩:bM),zg o1 h1 d:=λd K=>by
  rw[(ud.1 K).2];exact⟨bg.nil _ _ _,nofun⟩
 have E:(bp (eo g v).length (⟨none,0,[]⟩:bM)).map bM.l=bp (eo g v).length []:=by rw[p7]
 have aEk:(bp (eo g v).length (⟨none,0,[]⟩:bM)).map bM.val=bp (eo g v).length (ab none 0 0):=by rw[p7];rfl
 refine ay λgF du gN=>ay λgL ed gG=>ed _ _ _ (ew λjl eY hU=>?_)
 rw[<-aEk]
 refine .jG (.ag (avR jl _ P cz v (bY q.a'[v].1) (ab q.c8 g.aP.length q.b0) (hM q.ef g.outs.length) (ab Ym (jp g v).length G) ft oT (λx b j=>?_) W (List.length_replicate ..) aB' Y i16 rfl (λe ae axT s2 aKk m2 bS eR V aA1 dS gg=>?_) (λe L ae axT s2 m2 bS eR V gg=>?_)))
 have:=f.Ir x b
 rw[j]at this
 exact⟨this.2.2.1,this.2.2.2⟩
 refine eY _ _ _ (du _ _ _ ?_)
 rw[E]at m2
 rw[<-fi [1,2,3,4,5,6,13,14,16] e,gg]
 refine ay λkd fO j3=>ay λjU hc iD=>hc _ _ _ (ew λkQ gM kH=>.jG (.ag (aqF kQ _ I P bS v (bY q.a'[v].1) (hM q.kq g.ins.length) (hM q.ef g.outs.length) (ab Ym (jp g v).length G) ft oT (λx b j=>?_) W aA1 dS el o6 rfl (λe ax aIX O i m3 fs lL g7 hG y eb q2=>?_))))
 have:=(f.nD x b).2.1
 rw[j]at this
 exact⟨this.2.2.1,this.2.2.2⟩
 refine gM _ _ _ (fO _ _ _ ?_)
 rw[<-fi [1,2,3,4,5,6,13,14,16] e,q2]
 have T:¬∃x∈gk g v U,short s x.1 x.2:=λT=>by rw[aGO T]at m2;cases m2
 obtain⟨a,Jn,ie⟩:=aGP T
 rw[Jn]at m2
 injection m2 with m2
 subst m2
 rw[ie]at m3
 obtain⟨z,D⟩:=ry m3
 have bA:∀x∈gk g v U,¬short s x.1 x.2:=λx b h=>T ⟨x,b,h⟩
 have lens:=agQ S oT bA
 rw[D]at lens
 have t:O.cV=s.cV:=by rw[<-z];exact(MN _ _).1
 have w:v<O.cV.length:=by rw[t];omega
 have gp:=fs.gp.at_ v O' w
 have c6:O.cV[v]=s.cV.getD v gl:=by rw[HY I];simp[t]
 rw[c6]at gp
 have DF:((i.map bM.l).flatten.length:Int)=hz (s.cV.getD v gl).ins:=by rw[ML,lens,sA]
 have Dn:=Kx (i.map bM.l) _ (lens.trans sA.symm)
 have qX:=HV bv (i.map bM.l).flatten DF
 rw[Dn]at qX
 have TN:nF g v s=match nc (s.cV.getD v gl) (i.map bM.l)with
  |(none,_)=>(O,3)
  |(some X,x)=>(xu v X 0 g.outs (nT v X 0 g.aP {O with cV:=s.cV.set v x}),0):=by
  unfold nF
  rw[Jn]
  dsimp only
  rw[ie,z,D]
  dsimp only
  rw[t]
  generalize nc (s.cV.getD v gl) (i.map bM.l)=F
  obtain⟨_|_,_⟩:=F<;>rfl
 refine ay λqS kh qs=>.b5 1 27 1 (some W) (eo g v).length (eo g v).length _ rfl λaT c3 fC f4=>.ag (.mk _ (acB gp fs.le bv DF aT (some W) (eo g v).length i (eo g v).length c3 ⟨?_,λd K=>(eb d K).1.mono c3⟩ y Dn.symm) ?_)
 have:=fC.e2
 rw[ig]at this
 rw[y]
 exact this
 rintro _ cr ⟨iX,SF,o⟩
 rw[Dn]at SF o
 obtain⟨Q,Z⟩:=(fs.up c3).uv O' w iX SF
 generalize nc (s.cV.getD v gl) (i.map bM.l)=F at qX TN SF o Z
 obtain⟨r,dQ⟩:=F
 cases r with
 |none=>
  have o:_=eA #[ab none 0 0,R 70]:=o;subst o;refine kh _ _ _ (ay λoE ki nn=>nn _ _ _ _ nofun ?_);rw[TN];exact .ag ⟨_,_,_,rfl,J.le_trans p Q,Z.more I,⟨rfl,rfl,rfl,rfl,rfl,hG.trans el.symm,V.trans Y.symm,rfl⟩,rfl,nofun⟩
 |some X=>
  obtain⟨hh,gc,EA,rfl,ge,asF⟩:=o;have Tx:=qX.2.2 X rfl;rw[pK]at Tx;have jM:EA.length=(jp g v).length:=by rw[<-Tx,<-ge,fj,fj]
  have Gy:=bv.Gy;rw[pK]at Gy;have d64:∀d∈EA,d.l.length<=64:=λd K=>by
   have:(d.l.length:Int)∈jp g v:=by rw[<-Tx,<-ge];exact cO.2 ⟨_,cO.2 ⟨d,K,rfl⟩,rfl⟩
   have:=Gy _ this;omega
  have t6:=asF.mono (ahz (B:=o1));have T0:g.ok (o1.grow aT cr):=P.mono Q;generalize o1.grow aT cr=aIo at Q Z t6 T0;refine kh _ _ _ (ay λoE ki nn=>ay λsk lJ uI=>lJ _ _ _ (aW (λaDE=>absurd (by rw[jM]:((EA.length:Nat):Int)=((jp g v).length:Nat)) aDE) (λ_=>ki _ _ _ (ay λxT qr z1=>ay λA' tI DJ=>tI _ _ _ (ew λEN zZ Iw=>.jG (.ag (aDB EN _ I T0 Z v (hM q.ef g.outs.length) t6 d64 (λx b j=>?_) hG o6 rfl rfl (λe eX aIY aKn m6 F4 z8 Uz=>?_))))))));have:=(f.nD x b).1;rw[j]at this;rw[jM];exact⟨this.2.2.1,this.2.2.2⟩;refine zZ _ _ _ (qr _ _ _ ?_);rw[<-fi [1,3,5,6,23] e,Uz];refine ay λEO xi Ix=>ay λZB LK afX=>LK _ _ _ (ew λNw LL afY=>.jG (.ag (aDC Nw _ I T0 F4 v t6 d64 (λx b j=>?_) ol r2 rfl rfl (λe o' aKh aE0 m7 sN Px=>?_))));have:=f.I6 x b;rw[j]at this;rw[jM];exact⟨this.2.2.1,this.2.2.2⟩;refine LL _ _ _ (xi _ _ _ ?_);rw[ge]at m6 m7;rw[TN];refine .ag ⟨_,_,aE0,rfl,J.le_trans p Q,sN.more I,⟨rfl,rfl,rfl,rfl,rfl,z8.trans el.symm,V.trans Y.symm,Px.trans ol.symm⟩,?_,λ_=>?_⟩;rw[<-m7,<-m6,t];rw[<-m7,<-m6,t]
 refine hU _ _ _ _ nofun (gN _ _ _ _ nofun ?_)
 rw[E]at m2
 have asb:nF g v s=(s,2):=by unfold nF;rw[m2]
 rw[asb]
 rw[<-fi [12] e,show([12]:List Nat).map e=[.v (bC .u8 2)]from by rw[er,gg];rfl]
 exact .ag ⟨_,_,_,rfl,p,bS.more I,⟨rfl,rfl,rfl,rfl,rfl,rfl,V.trans Y.symm,rfl⟩,eR.1,nofun⟩
noncomputable def awj:IR:=LG.o.1.r.r.l.r.l.l
noncomputable def awk:IR:=LG.o.1.r.r.r.r.l.r.l.l
noncomputable def awl:IR:=LG.o.1.r.r.r.r.r.r.r.l.r.l.l
noncomputable def aff:IR:=LG.o.1.r.r.r.r.r.r.r.r.l.r.l.l
noncomputable def awm:IR:=aff.r.l.l.r.l.l
theorem aGv T a:hQ (T++a)=hQ T++hQ a:=by unfold hQ;rw[fw,List.flatten_append]
theorem aqG Q(e:cg){g:dd}{am:J}(D:g.ok am)(o6:g.aP.length<=96) v1 v2 v3(he:[1,2,3,4,10,11].map e=[.v v1,.v v2,.v v3,.p 0 0,.v (ab none 0 0),.v (R (0:Nat))])(P:∀(e:cg) s j f es,am.le s->es.map js.oY=g.aP.map (λx=>(⟨x.st,0⟩:iy))->(∀d∈es,bw s 3 1 d.A d.l.length d.c (d.l.map R)/\∀a,d.A=some a->am a.block=none)->(∀i o z(y:o<es.length),i≠o->∀g a,es[i].A=some g->es[o].A=some a->g.block≠a.block)->[1,2,3,4,10].map e=[.v v1,.v v2,.v v3,.p 0 0,.v (ab j g.aP.length f)]->Q (.exit 0) e [ll g,.row 120 2 j g.aP.length f (hQ es)] s):jk (λQ e L h=>dq aD 128 awj Q e L h) Q e [ll g,.row 120 2 none 0 0 []] am:=by
 refine .mk (Nat×Option aE×Nat×List js) [1,2,3,4,10,11] (λ(k,j,f,_)=>[.v v1,.v v2,.v v3,.p 0 0,.v (ab j k f),.v (R (k:Int))]) (λ(k,j,f,es)=>[ll g,.row 120 2 j k f (hQ es)]) (λ(k,_,_,es) s=>am.le s/\es.map js.oY=(g.aP.take k).map (λx=>(⟨x.st,0⟩:iy))/\(∀d∈es,bw s 3 1 d.A d.l.length d.c (d.l.map R)/\∀a,d.A=some a->am a.block=none)/\(∀i o(z:i<es.length)(y:o<es.length),i≠o->∀g a,es[i].A=some g->es[o].A=some a->g.block≠a.block)/\k<=g.aP.length) (λ(k,_)=>g.aP.length-k) (0,none,0,[]) (λ_=>rfl) ⟨J.le_refl _,rfl,nofun,nofun,cU _⟩ he rfl ?_;refineλ⟨k,j,f,es⟩ e h⟨le,em,w,E,hk⟩=>ay λfD U W=>ay λfy T Z=>T _ _ _ (aW (λh1=>?_) (λh1=>?_));have t:k<g.aP.length:=I;refine U _ _ _ ?_;obtain⟨N,K⟩:=D.aP.b4 I;have X:(g.aP.map GE.cells)[k]?=some (GE.cells g.aP[k]):=by rw[de,bK t];rfl
 have B:=(D.aP.mono le).row K X 4 (ab g.aP[k].A g.aP[k].n g.aP[k].c) rfl;have ge:=D.nD _ (b3 t);have F:g.aP[k].st.length=g.aP[k].n:=by simpa using ge.dK.len
 have n8:=ge.n8;refine ay λfz S eZ=>ew λfE dR V=>.m N K (.hp (ab g.aP[k].A g.aP[k].n g.aP[k].c) (by rw[bn];exact B) (.ag (.mk _ (avX g.aP[k].A g.aP[k].n g.aP[k].c g.aP[k].st h (ge.dK.mono le) n8) ?_)));rintro _ ae ⟨G,bo,bj,rfl,H,f2⟩;rw[<-F]at H;refine .ag (.c0 1 (hQ es) [ab bo g.aP[k].n bj,R (0:Nat)] rfl rfl (by intro u hu;rcases ez.1 hu with rfl|hu;rfl;rw[hZ]at hu;subst hu;rfl) (by unfold eQ;omega) I λC c2 _=>V _ _ _ _ nofun (S _ _ _ (.bl (⟨(k+1,C,c2,es++[⟨bo,bj,g.aP[k].st,0⟩]),rfl,?_,⟨J.le_trans le G,?_,λd b=>?_,?_,t⟩,by show g.aP.length- (k+1)<g.aP.length-k;omega⟩))));show[ll g,LE.row 120 2 C (k+1) c2 (hQ es++[ab bo g.aP[k].n bj,R ((0:Nat):Int)])]=[ll g,LE.row 120 2 C (k+1) c2 (hQ (es++[⟨bo,bj,g.aP[k].st,0⟩]))];rw[aGv,<-F];rfl;rw[fw,em,amU,bK t,fw];rfl;rcases eI.1 b with b|b;exact⟨(w d b).1.mono G,(w d b).2⟩;rw[hZ]at b;subst b;exact⟨H,λa O=>J.none_le le (f2 a O)⟩;have c0:∀d∈es,∀g1 g2,d.A=some g1->bo=some g2->g1.block≠g2.block:=λd b g1 g2 q r e=>by
  obtain⟨Y,av⟩:=(w d b).1.jP q;rw[e,f2 g2 r]at av;cases av
 intro i o z y M g1 g2 q r;rw[fb,List.length_singleton]at z y;rw[List.getElem_append]at q r;split at q<;>split at r;exact E i o _ _ M g1 g2 q r;exact c0 _ (b3 _) g1 g2 q (by simpa using r);exact Ne.symm (c0 _ (b3 _) g2 g1 r (by simpa using q));omega;refine W _ _ _ _ nofun ?_;obtain rfl:k=g.aP.length:=by omega
 rw[rv]at em;exact P _ _ j f es le em w E rfl
def Ej(d:bM):js:=⟨d.A,d.c,d.l,0⟩
def qp(F:List bM)(m k:Nat):List js:=(fJ m).map λi=>if i<k then Ej (F.getD i nE)else Ej nE
theorem Pp F m k:(qp F m k).length=m:=by unfold qp;rw[fj,List.length_range]
theorem axU F{m k:Nat}(hk:k<m) bs(a:k<(qp F m k).length):(qp F m k).set k ⟨F[k].A,F[k].c,F[k].l,(qp F m k)[k].k⟩=qp F m (k+1):=by
 apply List.ext_getElem (by rw[fI,Pp,Pp]);intro i h1 ae;by_cases q:k=i;subst q;simp[qp,Ej,nE,cc,bs];rw[List.getElem_set_ne q];simp only[qp,List.getElem_map,List.getElem_range];by_cases q:i<k;rw[aS q,aS I];rw[aC q,aC I]
theorem afA F{m k:Nat}(h:m<=k\/F.length<=k):qp F m k=(fJ m).map λi=>Ej (F.getD i nE):=by
 unfold qp;refine ny λi a=>?_;have a:=List.mem_range.1 a;by_cases q:i<k;rw[aS q];rw[aC q,cc,l2 I];rfl
theorem avS Q(e:cg){g:dd}{h:J}(i16:g.ins.length<=16) v1 v3 v10{b:Option aE}{jE:Nat}{F:List bM}(z:bg h 1 b F.length (F.map λd=>[d.val])) o q j f a(he:[1,2,3,4,10,12,13].map e=[.v v1,.v (ab b F.length jE),.v v3,.p 0 0,.v v10,.v (ab (some a) g.ins.length g.ins.length),.v (R (0:Nat))])(w:∀(e:cg),[1,2,3,4,10,12].map e=[.v v1,.v (ab b F.length jE),.v v3,.p 0 0,.v v10,.v (ab (some a) g.ins.length g.ins.length)]->Q (.exit 2) e [ll g,.row 120 2 o q j f,.row 120 2 (some a) g.ins.length g.ins.length (hQ ((fJ g.ins.length).map λi=>Ej (F.getD i nE)))] h):jk (λQ e L h=>dq aD 128 awk Q e L h) Q e [ll g,.row 120 2 o q j f,.row 120 2 (some a) g.ins.length g.ins.length (hQ (qp F g.ins.length 0))] h:=by
 refine .mk Nat [1,2,3,4,10,12,13] (λk=>[.v v1,.v (ab b F.length jE),.v v3,.p 0 0,.v v10,.v (ab (some a) g.ins.length g.ins.length),.v (R (k:Int))]) (λk=>[ll g,.row 120 2 o q j f,.row 120 2 (some a) g.ins.length g.ins.length (hQ (qp F g.ins.length k))]) (λk t=>t=h/\k<=g.ins.length) (λk=>g.ins.length-k) 0 (λ_=>rfl) ⟨rfl,cU _⟩ he rfl ?_;refineλk e t⟨rfl,hk⟩=>ay λO D y=>ay λS x K=>aW (λh1=>?_) (λh1=>?_);refine x _ _ _ (aW (λae=>?_) (λae=>?_));have n:k<g.ins.length:=I;have bs:k<F.length:=I;refine D _ _ _ ?_;obtain⟨H,s⟩:=z.b4 I;have B:=z.one s (i:=k) (r:=[F[k].val]) (by rw[de,bK bs];rfl) rfl;refine ay λT C N=>ew λP M E=>.m H s (.hp F[k].val (by rw[bn];exact B) (.m a rfl ?_));have u:k<(qp F g.ins.length k).length:=by rw[Pp];exact n
 have G:k*2<(hQ (qp F g.ins.length k)).length:=by rw[Ek];omega
 refine .row 2 120 2 a g.ins.length g.ins.length (hQ (qp F g.ins.length k)) (hQ (qp F g.ins.length (k+1))) (k*2) rfl (by rw[bn];rfl) (by
  have:=Yc (qp F g.ins.length k) [] k u F[k].A F[k].c F[k].l;rw[sf,sf,axU F n bs u]at this;rw[io _ _ _ G,<-this];rfl) ?_
 exact E _ _ _ _ nofun (C _ _ _ (.bl (⟨k+1,rfl,rfl,⟨rfl,n⟩,by show g.ins.length- (k+1)<g.ins.length-k;omega⟩)));refine y _ _ _ _ nofun ?_;rw[afA F I];exact w _ rfl;refine x _ _ _ (y _ _ _ _ nofun ?_);rw[afA F I];exact w _ rfl
theorem apq Q(e:cg){H:List LE}{g:dd}{am:J}(r:g.ok am)(Z:∀a∈g.aY,(b6 a.tag a.a8).1=0)(a32:g.aY.length<=32) y(M:∀b∈y,am b≠none) v1 v3 v10 v12 s(he:[1,3,4,10,12,14,15,16].map e=([.v v1,.v v3,.p 0 0,.v v10,.v v12,.v s,.v (ab none 0 0),.v (R (0:Nat))]:List aN).map (sW [0,4]))(N:rf H [0,4]=some (([ll g,.row 121 1 none 0 0 []]:List LE).map (oS [0,4])))(O:∀(e:cg) i d f a',am.le i->wo am i y a' (g.aY.map te)->[1,3,4,10,12,14,15].map e=[.v v1,.v v3,.p 0 0,.v v10,.v v12,.v s,.v (ab d g.aY.length f)]->Q (.exit 4) e [ll g,.row 121 1 d g.aY.length f (a'.map λp=>bY p.1)] i):jk (λQ e L h=>dq aD 128 awl Q e L h) Q e H am:=by
 refine .yG [0,4] (Nat×Option aE×Nat×List (Nat×Nat)) [1,3,4,10,12,14,15,16] (λ(k,d,f,_)=>[.v v1,.v v3,.p 0 0,.v v10,.v v12,.v s,.v (ab d k f),.v (R (k:Int))]) (λ(k,d,f,a')=>[ll g,.row 121 1 d k f (a'.map λp=>bY p.1)]) (λ(k,_,_,a') i=>am.le i/\wo am i y a' ((g.aY.take k).map te)/\k<=g.aY.length) (λ(k,_)=>g.aY.length-k) (0,none,0,[]) (λ_=>rfl) ⟨J.le_refl _,⟨rfl,bc,.nil,bc⟩,cU _⟩ he rfl N ?_;refineλ⟨k,d,f,a'⟩ e h⟨le,z,hk⟩=>ay λfD T W=>ay λfy S d9=>S _ _ _ (aW (λh1=>?_) (λh1=>?_));have j:k<g.aY.length:=I;refine T _ _ _ ?_;obtain⟨D,o⟩:=r.aY.b4 I;have G:(g.aY.map hh.cells)[k]?=some (hh.cells g.aY[k]):=by rw[de,bK j];rfl
 have B:=(r.aY.mono le).row o G 1 (bC .u8 g.aY[k].tag) rfl;have K:=(r.aY.mono le).row o G 2 (ab g.aY[k].A g.aY[k].n g.aY[k].c) rfl;have F:=r.act _ (b3 j);have s1:=Z _ (b3 j);obtain⟨⟨t,C,t1,t2⟩,_⟩:=QZ s1;have DA:=QY s1;have lH:g.aY[k].a8.length=g.aY[k].n:=by simpa using F.dK.len
 rw[C]at s1 B;refine ay λfz P eZ=>ew λfE dR U=>ay λgF V gN=>.m D o (.hp (bC .u8 (t:Int)) (by rw[bn];exact B) (.m D o (.hp (ab g.aY[k].A g.aY[k].n g.aY[k].c) (by rw[bn];exact K) (.mk _ (ahy t g.aY[k].A g.aY[k].n g.aY[k].c g.aY[k].a8 h (F.dK.mono le) I s1) (λ_ _ q=>q.1) ?_))));rintro _ ae ⟨E,l,bG,rfl,rQ,Y⟩;have w:=z.add le E M rQ Y;refine V _ _ _ (.ag (.c0 1 (a'.map λp=>bY p.1) [bY l] rfl rfl (by intro u hu;rw[hZ]at hu;subst hu;rfl) (by unfold eQ;omega) I λx c2 _=>U _ _ _ _ nofun (P _ _ _ (.bl (⟨(k+1,x,c2,a'++[(l,bG)]),rfl,?_,⟨J.le_trans le E,?_,j⟩,by show g.aY.length- (k+1)<g.aY.length-k;omega⟩)))));show[ll g,LE.row 121 1 x (k+1) c2 ((a'.map λp=>bY p.1)++[bY l])]=[ll g,LE.row 121 1 x (k+1) c2 ((a'++[(l,bG)]).map λp=>bY p.1)];rw[fw];rfl;have X:(g.aY.take (k+1)).map te=(g.aY.take k).map te++[⟨t,g.aY[k].a8,yQ t g.aY[k].a8,0,(b6 t g.aY[k].a8).2.1,(b6 t g.aY[k].a8).2.2⟩]:=by
  rw[amU,bK j,fw];show _++[te g.aY[k]]=_;unfold te;rw[C,bn]
 rw[X];exact w;refine W _ _ _ _ nofun ?_;obtain rfl:k=g.aY.length:=by omega
 rw[rv]at z;exact O _ _ d f a' le z rfl
theorem sb.trans{q da c:oD}(a:sb q da)(b:sb da c):sb q c:=⟨b.c8.trans a.c8,b.b0.trans a.b0,b.kq.trans a.kq,b.ef.trans a.ef,b.a'.trans a.a',b.el.trans a.el,b.k7.trans a.k7,b.ol.trans a.ol⟩
theorem sb.refl q:sb q q:=⟨rfl,rfl,rfl,rfl,rfl,rfl,rfl,rfl⟩
structure JO(g:dd)(q:oD):Prop where
 e:q.es.length=g.aP.length
 i:q.is.length=g.ins.length
 U:q.os.length=g.outs.length
 b:q.a'.length=g.aY.length
theorem JO.ar{da:oD}(l:JO g q)(a:sb q da):JO g da:=⟨a.el.trans l.e,a.k7.trans l.i,a.ol.trans l.U,by rw[a.a'];exact l.b⟩
theorem aEG Q(e:cg){g:dd}(dG:iV g=0){l am:J}{a:oD}{j:fq}{M:Nat}(ib:g.ok l)(k:h0 l am a j M)(ds:JO g a){az:List Int}(iH:M+7168*az.length<=800000000)(z2:az.length<=2048)(ok:Ka g az j){ho:Option aE}{lc:Nat}(H:bg l 1 ho az.length (gi az)){w:Option aE}{E:Nat}(G:bg l 1 w g.aY.length (a.a'.map λp=>[bY p.1])) v3 x(he:[1,3,4,10,12,14,15,19,20].map e=[.v (ab ho az.length lc),.v v3,.p 0 0,.v (ab a.c8 g.aP.length a.b0),.v (hM a.kq g.ins.length),.v (hM a.ef g.outs.length),.v (ab w g.aY.length E),.v x,.v (R (0:Nat))])(cF:∀(e:cg) n d da c,q7 g az j=(c,0)->l.le d->h0 d n da c (M+7168*az.length)->sb a da->[1,3,4,10,12,14,15,19].map e=[.v (ab ho az.length lc),.v v3,.p 0 0,.v (ab a.c8 g.aP.length a.b0),.v (hM a.kq g.ins.length),.v (hM a.ef g.outs.length),.v (ab w g.aY.length E),.v x]->Q (.exit 8) e [ll g] n)(dy:∀(e:cg) n d da c,(q7 g az j).2≠0->l.le d->h0 d n da c (M+7168*az.length)->sb a da->c.outs=(q7 g az j).1.outs->[8,9].map e=[.v (hM a.ef g.outs.length),.v (bC .u8 ((q7 g az j).2:Nat))]->Q .ret e [ll g] n):jk (λQ e L h=>dq aD 128 awm Q e L h) Q e [ll g] am:=by
 refine .mk (Nat×oD×fq×J) [1,3,4,10,12,14,15,19,20] (λ(i,_)=>[.v (ab ho az.length lc),.v v3,.p 0 0,.v (ab a.c8 g.aP.length a.b0),.v (hM a.kq g.ins.length),.v (hM a.ef g.outs.length),.v (ab w g.aY.length E),.v x,.v (R (i:Int))]) (λ_=>[ll g]) (λ(i,da,c,d) n=>q7 g az j=q7 g (az.drop i) c/\Ka g (az.drop i) c/\l.le d/\h0 d n da c (M+7168*i)/\sb a da/\i<=az.length) (λ(i,_)=>az.length-i) (0,a,j,l) (λ_=>rfl) ⟨rfl,ok,J.le_refl _,k,sb.refl _,cU _⟩ he rfl ?_;refineλ⟨i,da,c,d⟩ e h⟨inv,ok,o,k,f,ai⟩=>ay λfD cQ eT=>ay λfy cM d9=>cM _ _ _ (aW (λh1=>?_) (λh1=>?_));have D:i<az.length:=I;refine cQ _ _ _ ?_;have qj:az.drop i=az[i]::az.drop (i+1):=l1 D;rw[qj]at inv ok;rw[q7]at inv;obtain⟨v0,⟨u,⟨C,bv⟩,sA,pK,sB,ops,c5,S,O⟩,s⟩:=ok;obtain⟨v,F⟩:∃v:Nat,az[i]=v:=⟨az[i].toNat,I⟩;rw[F,bn]at u bv sA pK O inv s S;have t:=ds.ar f;obtain⟨X,y⟩:=H.b4 I;have Z:=WE (H.mono (J.le_trans o k.le)) y D;obtain⟨TS,T⟩:=G.b4 I;have O':v<a.a'.length:=by rw[ds.b];exact u
 have ey:=(G.mono (J.le_trans o k.le)).one T (i:=v) (r:=[bY a.a'[v].1]) (by rw[de,bK O'];rfl) rfl;have B:v<da.a'.length:=by rw[t.b];exact u
 have z:da.a'[v]=a.a'[v]:=by simp[f.a']
 have f33:=arI dG (ib.mono o) k I u bv sA pK sB t.e t.i t.U S O B;rw[z,f.c8,f.b0,f.kq,f.ef]at f33;refine ay λfz cL eZ=>ew λfE dR V=>ay λgF du gN=>.m X y (.hp (R (v:Int)) (by rw[bn,<-F];exact Z) (.m X y (.hp (R (v:Int)) (by rw[bn,<-F];exact Z) (.m TS T (.hp (bY a.a'[v].1) (by rw[bn];exact ey) (.ag (.mk _ f33 ?_)))))));rintro _ ae ⟨W,N,s2,rfl,K,P,Y,vP,mu⟩;have A:M+7168*i+7168<=M+7168*az.length:=I;have fs:=P.more (jI:=M+7168*(i+1)) I;refine du _ _ _ (ay λgL ed gG=>ed _ _ _ (aW (λq=>?_) (λq=>?_)));have q:(nF g v c).2≠0:=λe=>q (by rw[e];rfl);rw[aC q]at inv;exact V _ _ _ _ nofun (eZ _ _ _ _ nofun (dy _ _ W N s2 (by rw[inv];exact q) (J.le_trans o K) (P.more A) (f.trans Y) (by rw[inv];exact vP) (by rw[inv];rfl)));have q:(nF g v c).2=0:=by have:=kc.1 q;exact_mod_cast this
 rw[aS q]at inv;have aR:=mu q;subst aR;exact V _ _ _ _ nofun (cL _ _ _ (.bl (⟨(i+1,N,(nF g v c).1,W),rfl,rfl,⟨inv,s q,J.le_trans o K,fs,f.trans Y,D⟩,by show az.length- (i+1)<az.length-i;omega⟩)));refine eT _ _ _ _ nofun ?_;obtain rfl:i=az.length:=by omega
 rw[py (dM _),q7]at inv;exact cF _ _ d da c inv o k f rfl
theorem aDg Q(e:cg){g:dd}(T:iV g=0){l am:J}{a:oD}{j:fq}{M:Nat}(ib:g.ok l)(k:h0 l am a j M)(ds:JO g a){az:List Int}{n:Nat}(iH:M+7168*az.length*n<=800000000)(aF:n<=8)(z2:az.length<=2048)(ok:Hh g az n j){ho:Option aE}{lc:Nat}(G:bg l 1 ho az.length (gi az)){y:Option aE}{D:Nat}(F:bg l 1 y g.aY.length (a.a'.map λp=>[bY p.1])){E:List LE}(he:[1,3,4,10,12,14,15,19].map e=([.v (ab ho az.length lc),.v (R n),.p 0 0,.v (ab a.c8 g.aP.length a.b0),.v (hM a.kq g.ins.length),.v (hM a.ef g.outs.length),.v (ab y g.aY.length D),.v (R (0:Nat))]:List aN).map (sW [0]))(H:rf E [0]=some (([ll g]:List LE).map (oS [0])))(N:∀e L f d da c,(qA g az n j).2=0->l.le d->h0 d f da c (M+7168*az.length*n)->sb a da->c.outs=(qA g az n j).1.outs->e 14= .v (hM a.ef g.outs.length)->Q (.exit 6) e L f)(dy:∀(e:cg) L f d da c,(qA g az n j).2≠0->l.le d->h0 d f da c (M+7168*az.length*n)->sb a da->c.outs=(qA g az n j).1.outs->[8,9].map e=[.v (hM a.ef g.outs.length),.v (bC .u8 ((qA g az n j).2:Nat))]->Q .ret e L f):jk (λQ e L h=>dq aD 128 aff Q e L h) Q e E am:=by
 refine .yG [0] (Nat×oD×fq×J) [1,3,4,10,12,14,15,19] (λ(i,_)=>[.v (ab ho az.length lc),.v (R (n:Int)),.p 0 0,.v (ab a.c8 g.aP.length a.b0),.v (hM a.kq g.ins.length),.v (hM a.ef g.outs.length),.v (ab y g.aY.length D),.v (R (i:Int))]) (λ_=>[ll g]) (λ(i,da,c,d) f=>qA g az n j=qA g az (n-i) c/\Hh g az (n-i) c/\l.le d/\h0 d f da c (M+7168*az.length*i)/\sb a da/\i<=n) (λ(i,_)=>n-i) (0,a,j,l) (λ_=>rfl) ⟨rfl,ok,J.le_refl _,k,sb.refl _,cU _⟩ he rfl H ?_;rintro⟨i,da,c,d⟩ e h ⟨inv,ok,q,k,b,ai⟩;have mono:∀o,o<=n->7168*az.length*o<=7168*az.length*n:=λo K=>Sc _ K;refine ay λfD S V=>ay λfy P d9=>P _ _ _ (aW (λh1=>?_) (λh1=>?_));have B:i<n:=I;refine S _ _ _ ?_;have iU:n-i=(n- (i+1))+1:=I;rw[iU]at inv ok;rw[qA]at inv;obtain⟨ji,u⟩:=ok;have ms:7168*az.length*(i+1)=7168*az.length*i+7168*az.length:=by rw[Nat.mul_add,e4]
 have m1:=mono (i+1) B;refine ay λfz O W=>ew λfE dR C=>ay λgF U gN=>U _ _ _ (ew λZ X Y=>.jG (.ag (aEG Z _ T (ib.mono q) k (ds.ar b) I z2 ji (G.mono q) (by rw[b.a'];exact F.mono q) (R (n:Int)) (R (i:Int)) (by rw[b.c8,b.b0,b.kq,b.ef];rfl) (λe f z w s2 m t x A s=>?_) (λe f z w s2 m t x A vP s=>?_))));refine X _ _ _ (C _ _ _ _ nofun (O _ _ _ ?_));rw[b.c8,b.b0,b.kq,b.ef]at s;rw[<-fi [1,3,4,10,12,14,15,19] e,s];refine .bl ?_;rw[m,aS rfl]at inv;have r:=u (by rw[m]);rw[m]at r;exact⟨(i+1,w,s2,z),rfl,rfl,⟨inv,r,J.le_trans q t,x.more I,b.trans A,B⟩,by show n- (i+1)<n-i;omega⟩;refine Y _ _ _ _ nofun (C _ _ _ _ nofun (W _ _ _ _ nofun ?_));rw[aC m]at inv;rw[b.ef]at s;exact dy _ _ _ z w s2 (by rw[inv];exact m) (J.le_trans q t) (x.more I) (b.trans A) (by rw[inv];exact vP) (by rw[inv];exact s);refine V _ _ _ _ nofun ?_;obtain rfl:i=n:=by omega
 rw[Nat.sub_self,qA]at inv;exact N _ _ _ d da c (by rw[inv]) q k b (by rw[inv]) rfl
theorem aA8 F m:(madeCells (#[ab none 0 0,bC .i64 0]:Array Value) (m*2)).toList=hQ (qp F m 0):=by
 rw[PT (s:=2) rfl];have:qp F m 0=bp m (Ej nE):=by
  refine List.eq_replicate_iff.2 ⟨Pp F m 0,λb a=>?_⟩;obtain⟨i,_,rfl⟩:=cO.1 a;rw[aC (Nat.not_lt_zero _)]
 rw[this];unfold hQ;rw[p7];rfl
theorem aDq(dG:iV g=0)(ib:g.ok h){az:List Int}(z2:az.length<=2048){ho:Option aE}{lc:Nat}(Ei:bg h 1 ho az.length (gi az)){n1:Option aE}{jE:Nat}{F:List bM}(qF:bg h 1 n1 F.length (F.map λd=>[d.val]))(bs:∀d∈F,d.ok h/\d.l.length<=17592186044416/\d.l.length<=d.c){n:Nat}(aF:n<=8)(ok:Hh g az n (Al g (F.map bM.l))):Fn aD 11 #[.agg #[.string g.ea,ab g.h2 g.aY.length g.ac,ab g.c8 g.aP.length g.b0,ab g.eg g.ins.length g.cf,ab g.cn g.outs.length g.bT],ab ho az.length lc,ab n1 F.length jE,R n] h λv H=>∃(t:Nat)(os:List bM),v=eA #[hM t g.outs.length,bC .u8 ((if(qA g az n (Al g (F.map bM.l))).2=0 then 1 else(qA g az n (Al g (F.map bM.l))).2:Nat):Int)]/\h.le H/\H t=some (bb (os.map bM.val).toArray 27 (0,0))/\os.map bM.l=(qA g az n (Al g (F.map bM.l))).1.outs/\(∀d∈os,bw H 3 1 d.A d.l.length d.c (d.l.map R)/\d.l.length<=1000000000)/\os.length=g.outs.length:=by
 have B:=ts dG;have o6:=B.o6;have i16:=B.i16;have r2:=B.r2;have a32:=B.a32;refine bU LG rfl (ay λfD cQ eT=>cQ _ _ _ (ay λfy cM d9=>cM _ _ _ (ay λfz cL eZ=>ay λfE dR dH=>dR _ _ _ (ew λgF du gN=>.jG (.abs 120 2 none 0 0 [] ⟨rfl,bQ ⟨rfl,rfl,rfl⟩⟩ (.ag ?_))))));show jk _ _ _ _ h;refine aqG gF _ ib o6 (ab ho az.length lc) (ab n1 F.length jE) (R (n:Int)) rfl λe h1 w O es P em pI Bt pL=>du _ _ _ (cL _ _ _ ?_);rw[<-fi [1,2,3,4,10] e,pL];refine ay λgL ed gG=>.mk g.ins.length rfl rfl I I λhS=>ed _ _ _ ?_;rw[aA8 F];refine ay λjl eY hU=>ay λkd fO j3=>fO _ _ _ (ew λjU hc iD=>.jG (.ag (avS jU _ i16 (ab ho az.length lc) (R (n:Int)) (ab w g.aP.length O) (qF.mono P) w g.aP.length O (hQ es) hS rfl λe gg=>hc _ _ _ (eY _ _ _ ?_))));rw[<-fi [1,2,3,4,10,12] e,gg];refine ay λkQ gM kH=>.one g.outs.length (ab none 0 0) rfl rfl rfl rfl I I λgo=>gM _ _ _ (ay λqS kh qs=>kh _ _ _ (ay λoE ki nn=>ay λsk lJ uI=>lJ _ _ _ (ew λxT qr z1=>.jG (.b5 1 120 2 w g.aP.length O _ rfl λaZ T u3 nb=>.b5 2 120 2 (some hS) g.ins.length g.ins.length _ rfl λf V hj fA=>.b5 3 27 1 (some go) g.outs.length g.outs.length _ rfl λav X rc jE=>.abs 121 1 none 0 0 [] ⟨rfl,bQ ⟨rfl,rfl,rfl⟩⟩ (.ag ?_)))));show jk _ _ _ _ av;have fA:=fA hS rfl;have jE:=jE go rfl;have VZ:h.le av:=J.le_trans P (J.le_trans T (J.le_trans V X));have M:h1.le av:=J.le_trans T (J.le_trans V X);have N:=u3.mono (J.le_trans V X);have aD1:=hj.mono X;obtain⟨kq,rfl,K⟩:=aD1.whole;obtain⟨t,rfl,Ij⟩:=rc.whole;generalize lG:jm w++(es.flatMap (λd=>jm d.A)++[kq,t])=z;have own:∀b∈z,av b≠none/\h b=none:=λb f=>by
  rw[<-lG]at f;rcases eI.1 f with f|f;obtain⟨m,j,rfl⟩:=nR f;exact⟨N.mem j,J.none_le P (nb m j)⟩;rcases eI.1 f with f|f;obtain⟨d,a,f⟩:=sg.1 f;obtain⟨m,j,rfl⟩:=nR f;exact⟨((pI d a).1.mono M).mem j,(pI d a).2 m j⟩;simp only[ez,List.not_mem_nil,or_false]at f;rcases f with rfl|rfl;exact⟨by rw[K];nofun,J.none_le (J.le_trans P T) fA⟩;exact⟨by rw[Ij];nofun,J.none_le (J.le_trans P (J.le_trans T V)) jE⟩
 refine apq xT _ (ib.mono VZ) B.sX a32 z (λb f=>(own b f).1) (ab ho az.length lc) (R (n:Int)) (ab w g.aP.length O) (hM kq g.ins.length) (hM t g.outs.length) rfl rfl λe cr h3 iK a' gh qb OK=>qr _ _ _ (ki _ _ _ ?_);rw[<-fi [1,3,4,10,12,14,15] e,OK];refine ay λA' tI DJ=>ay λEN zZ Iw=>zZ _ _ _ (ew λEO xi Ix=>.jG (.b5 1 121 1 h3 g.aY.length iK _ rfl λQ im pW f6=>.ag ?_));have E:=qb.up im;have aAt:h.le Q:=J.le_trans VZ (J.le_trans gh im);have Y:av.le Q:=J.le_trans gh im;generalize D:(Q.on λo=>o∉z/\o∉a'.map dV)=C;have alE:C.le Q:=by rw[<-D];exact J.xr _ _
 have W:∀o∈z,C o=none:=λo ah=>by
  rw[<-D];unfold J.on;rw[aC λq=>q.1 ah]
 have G:h.le C:=λo U e=>by
  rw[<-D,J.mQ (S:=λo=>o∉z/\o∉a'.map dV) ⟨λq=>(by rw[(own o q).2]at e;cases e),λq=>?_⟩];exact aAt _ _ e;obtain⟨p,hp,rfl⟩:=cO.1 q;rw[J.none_le VZ (E.new p hp)]at e;cases e
 have AA:bg C 1 h3 g.aY.length (a'.map λp=>[bY p.1]):=by
  have Gs:bw C 121 1 h3 g.aY.length iK (a'.map λp=>bY p.1):=by
   rw[<-D];refine bw.on (S:=λo=>o∉z/\o∉a'.map dV) pW λm j=>⟨λq=>?_,λq=>?_⟩;have:=(own _ q).1;exact this (J.none_le gh (f6 m j));obtain⟨p,hp,e⟩:=cO.1 q;obtain⟨i,ai,rfl⟩:=List.getElem_of_mem hp;have:=(qb.cV i ai (by rw[<-qb.len];exact ai)).some_;rw[e,f6 m j]at this;exact this rfl
  have:=Gs.e2;rwa[ig]at this
 have Z:∀x,x∈jm w\/(∃d∈es,x∈jm d.A)\/x=kq\/x=t->x∈z:=λx s=>by
  rw[<-lG];rcases s with s|⟨d,a,s⟩|s|s;exact wz _ s;exact xN _ (wz _ (sg.2 ⟨d,a,s⟩));exact xN _ (xN _ (by simp[s]));exact xN _ (xN _ (by simp[s]))
 have uB:∀d:bM,d=nE->∀m,d.A≠some m:=λd e m q=>by rw[e]at q;cases q
 have F4:h0 C Q ⟨w,O,es,kq,(fJ g.ins.length).map (λi=>Ej (F.getD i nE)),t,bp g.outs.length nE,a'⟩ (Al g (F.map bM.l)) 256:=by
  have V0:es.length=g.aP.length:=by have:=eu fv em;rwa[fj,fj]at this
  refine⟨alE,⟨by rw[V0];exact N.mono Y,λm j=>W _ (Z _ (bQ (om j))),λd a=>(pI d a).1.mono (J.le_trans M Y),λd a m j=>W _ (Z _ (ba (bQ ⟨d,a,om j⟩)))⟩,⟨Y _ _ K,W _ (Z _ (ba (ba (bQ rfl)))),λd a=>?_⟩,⟨?_,W _ (Z _ (ba (ba (ba rfl)))),λd a=>?_,λd a m j=>?_⟩,⟨E.len,λi h1 ae=>by rw[<-D];exact E.cV i h1 ae,E.dE⟩,em,?_,?_,λm j=>?_,Bt,?_,?_,λd a=>?_,λd a=>?_,λd a=>?_,λd a=>?_⟩;obtain⟨i,_,rfl⟩:=cO.1 a;by_cases q:i<F.length;have e:F.getD i nE=F[i]:=by rw[cc,bK q];rfl
  rw[e];obtain⟨f1,f2,f3⟩:=bs _ (b3 q);exact⟨f3,f2,f1.mono G⟩;have e:F.getD i nE=nE:=by rw[cc,l2 I];rfl
  rw[e];exact⟨dM _,cU _,bg.nil _ _ _⟩;rw[p7];exact Y _ _ Ij;rw[(ud.1 a).2];exact⟨rfl,bQ ⟨rfl,rfl,rfl⟩⟩;exact absurd j (uB d (ud.1 a).2 m);show((fJ g.ins.length).map λi=>Ej (F.getD i nE)).map js.oY=(fJ g.ins.length).map λi=>(⟨(F.map bM.l).getD i [],0⟩:iy);rw[ig];refine ny λi _=>?_;show(⟨(F.getD i nE).l,0⟩:iy)=_;rw[cc,cc,de];cases F[i]? <;>rfl;show(bp g.outs.length nE).map bM.l=bp g.outs.length [];rw[p7];rfl;have:=u3.mem j;intro e;rw[e]at this;exact this fA;exactλi o ai ah _ g1 g2 aQ _=>absurd aQ (uB _ (ud.1 (b3 ai)).2 g1);exactλd _ ii y g1 g2 _ aR=>absurd aR (uB ii (ud.1 y).2 g2);have:d.oY∈g.aP.map (λx=>(⟨x.st,0⟩:iy)):=by rw[<-em];exact cO.2 ⟨d,a,rfl⟩
  obtain⟨x,s,e⟩:=cO.1 this;have ae:=(B.nD x s).2.2;have ax:x.st.length=x.n:=by simpa using(ib.nD x s).dK.len
  have aT:d.l=x.st:=(eu iy.l e).symm;rw[aT];omega;rw[(ud.1 a).2];exact cU _;have:d.oY∈g.aP.map (λx=>(⟨x.st,0⟩:iy)):=by rw[<-em];exact cO.2 ⟨d,a,rfl⟩
  obtain⟨x,s,e⟩:=cO.1 this;have aT:d.k=0:=(eu iy.k e).symm;rw[aT];exact cU _;obtain⟨i,_,rfl⟩:=cO.1 a;exact cU _
 have V0:es.length=g.aP.length:=by have:=eu fv em;rwa[fj,fj]at this
 have hmul:7168*az.length*n<=7168*2048*8:=mh (Sc _ z2) aF;refine aDg EO _ dG (ib.mono G) F4 ⟨V0,bc,bc,by rw[E.len,fj]⟩ I aF z2 ok (Ei.mono G) AA rfl rfl (λe L H dC da dx Xi rZ u a aU rO=>?_) (λe L H dC da dx Xi rZ u a aU rO=>?_);refine xi _ _ _ (tI _ _ _ ?_);rw[aS Xi,<-fi [14] e,show([14]:List Nat).map e=[.v (hM t g.outs.length)]from by rw[er,rO];rfl];refine .ag ⟨t,da.os,rfl,J.le_trans G (J.le_trans rZ u.le),?_,u.Aj.trans aU,λd y=>⟨u.h8.r d y,lf (u.xo d y) I⟩,a.ol.trans bc⟩;rw[<-show da.ef=t from a.ef];exact u.h8.box;refine Ix _ _ _ _ nofun (DJ _ _ _ _ nofun ?_);rw[aC Xi,<-fi [8,9] e,rO];refine .ag ⟨t,da.os,rfl,J.le_trans G (J.le_trans rZ u.le),?_,u.Aj.trans aU,λd y=>⟨u.h8.r d y,lf (u.xo d y) I⟩,a.ol.trans bc⟩;rw[<-show da.ef=t from a.ef];exact u.h8.box
noncomputable def axt:IR:=BY.o.1.r.r.r.r.r.r.r.r.r.r.r.l.r.l.l
theorem aCU Q(e:cg){N:List LE}{am B:J}{j f:Nat}{m:fx}{os:List bM}(k:dr B am j m)(s:am f=some (bb (os.map bM.val).toArray 27 (0,0)))(o:os.map bM.l=m.x.wr)(u:∀d∈os,bw am 3 1 d.A d.l.length d.c (d.l.map R)/\d.l.length<=1000000000)(r2:os.length<=16)(he:[8,11,13].map e=([.v (bY j),.v (hM f os.length),.v (R (0:Nat))]:List aN).map (sW []))(w:∀e L g,am.le g->Q (.exit 0) e L g):jk (λQ e L h=>dq aD 82 axt Q e L h) Q e N am:=by
 refine .yG [] Nat [8,11,13] (λi=>[.v (bY j),.v (hM f os.length),.v (R (i:Int))]) (λ_=>[]) (λi g=>am.le g/\i<=os.length) (λi=>os.length-i) 0 (λ_=>rfl) ⟨J.le_refl _,cU _⟩ he rfl rfl ?_;refineλi e h⟨le,O⟩=>ay λU C K=>ay λW z P=>z _ _ _ (aW (λq=>?_) (λq=>?_));have b:i<os.length:=I;have t:i<m.x.wr.length:=by rw[<-o,fj];exact b
 have hw:m.x.wr.getD i []=os[i].l:=by rw[<-o,cc,de,bK b];rfl
 obtain⟨G,E⟩:=u _ (b3 b);refine C _ _ _ ?_;have H:h.cell? ((⟨f,0,none⟩:aE).add ((i:Int).toNat*1))=some os[i].val:=by
  rw[bn,add_lit,dZ,e4];exact cell_of (le _ _ s) (by rw[de,bK b];rfl)
 have r:=aif (k.up le) i t (by rw[hw];exact E);rw[hw]at r;refine ay λX y T=>ew λV S D=>ay λY F Z=>.m ⟨f,0,none⟩ rfl (.hp os[i].val H (.mk _ r (λ_ _ q=>q.1) (λv1 h1 n=>?_)));obtain⟨p,M,c1,rfl,t1⟩:=n.dK;have a:=ajx M os[i].A _ _ c1 os[i].c _ _ h1 t1 ((G.mono (J.le_trans le p)).j7) I;rw[hr rfl]at a;refine .mk _ a (λ_ _ q=>by rw[q.2];exact J.le_refl _) ?_;rintro _ _ ⟨rfl,rfl⟩;exact F _ _ _ (D _ _ _ _ nofun (y _ _ _ (.bl (⟨i+1,rfl,rfl,⟨J.le_trans le p,b⟩,by show os.length- (i+1)<os.length-i;omega⟩))));exact K _ _ _ _ nofun (w _ _ h le)
theorem aFN(g:dd) h(ok:g.ok h)(z:wK h) P k c2 az(p2:bg h 1 P k (gi az))(hk:k<=70368744177664) K jE(F:List bM)(V:bg h 1 K F.length (F.map λd=>[d.val]))(bs:∀d∈F,d.ok h/\d.l.length<=17592186044416/\d.l.length<=d.c) eU:Fn aD 3 #[.agg #[.string g.ea,ab g.h2 g.aY.length g.ac,ab g.c8 g.aP.length g.b0,ab g.eg g.ins.length g.cf,ab g.cn g.outs.length g.bT,ab P k c2,ab K F.length jE,R eU]] h λv aa=>v=Value.bool true/\h.le aa:=by
 have m7:=agV g h ok z P k c2 az p2 hk;have gc:g.cells=[.string g.ea,ab g.h2 g.aY.length g.ac,ab g.c8 g.aP.length g.b0,ab g.eg g.ins.length g.cf,ab g.cn g.outs.length g.bT]:=rfl;rw[gc]at m7;refine bU BY rfl (ay λfD cQ eT=>cQ _ _ _ (ay λfy cM d9=>cM _ _ _ (ay λfz cL eZ=>cL _ _ _ (ay λfE dR dH=>dR _ _ _ (ay λgF O gN=>.ag (.mk _ m7 ?_))))));rintro _ h1 ⟨a,⟨rfl,bad⟩|⟨x,rfl,mk⟩⟩;refine O _ _ _ (ay λT Q H=>ay λjl y hU=>y _ _ _ (.ag (.mk _ (SE h1 (z.mono a)) ?_)));rintro _ ae ⟨rfl,G⟩;exact H _ _ _ _ nofun (.ag ⟨rfl,J.le_trans a G⟩);refine O _ _ _ (ay λT Q H=>ay λjl y hU=>?_);have out:∀e L,dq aD 82 (.seq (.ck [⟨some 37,none,.call 8 []⟩,⟨some 2,none,.set (.t 37)⟩]) .ret) T e L h1:=by
  intro e L;refine .ag (.mk _ (SE h1 (z.mono a)) ?_);rintro _ ae ⟨rfl,G⟩;exact H _ _ _ _ nofun (.ag ⟨rfl,J.le_trans a G⟩)
 refine aW (λq=>?_) (λaO=>?_);exact y _ _ _ (out _ _);refine y _ _ _ (aW (c:=8<eU) (λq=>out _ _) (λaG=>?_));clear out;refine Q _ _ _ ?_;obtain⟨n,rfl⟩:∃n:Nat,eU=n:=⟨eU.toNat,I⟩;have w:n<=8:=I;have s:=mk.HT;have BE:g.outs.length=x.p.outs.toNat:=by
  obtain⟨_,_,_,_,_,_,_,_,_,_,md,_⟩:=mk.ex;rw[md.2.2.2.1];omega
 have tQ:x.p.cells=[R x.p.mem,R x.p.br,R x.p.ins,R x.p.outs,ab x.p.j' x.p.parts.length x.p.c7,ab x.p.fg x.p.lines.length x.p.lc,ab x.p.cn x.p.ops.length x.p.bT]:=rfl;have m9:=agU x.p _ h1 mk.ok s K jE F (V.mono a) (λd o=>⟨(bs d o).1.mono a,(bs d o).2.1⟩);rw[tQ]at m9;refine ay λkd fO j3=>.ag (.mk _ m9 ?_);rintro _ ae ⟨a1,B,m,rfl,hd,D,A⟩;refine fO _ _ _ ?_;have sD:((F.map bM.l).take x.p.ins.toNat++bp (x.p.ins.toNat-F.length) []).length=x.p.ins.toNat:=by simp;omega
 have lm:∀e∈g.aP,e.st.length=e.n:=λe he=>by simpa using(ok.nD e he).dK.len
 obtain⟨r,S,Lu,OR,W7,vd⟩:=mk.static lm (F.map bM.l) w;have rI:=s.rI;have hmul:n*(jf (gU g) x.df.bR+1)<=8*131072:=mh w I;have X:=tb.start s sD (C:=n*(jf (gU g) x.df.bR+1)+1) I;rw[fj]at S;have Xq:=ajf D n w (by rw[A];exact⟨Int.le_refl 0,(by decide:(0:Int)<=1000000000)⟩) s _ (by rw[A];exact X) r.1 r.2 (by rw[A];exact S);refine ay λjU hc iD=>ay λkQ gM kH=>gM _ _ _ (hc _ _ _ (ay λqS kh qs=>.ag (.mk _ Xq ?_)));rintro _ ax ⟨dC,bE,rfl,E,b,pM,Rj⟩;refine kh _ _ _ ?_;have i:h1.le ax:=J.le_trans hd (J.le_trans E b.le);have u:=J.le_trans a i;have N:=mk.cK.mono i;have nl:(jy x.l).length=x.l.length:=fj ..;rw[<-nl]at N;have j:=aDq mk.g0 (ok.mono u) vd (lc:=x.lc) N (jE:=jE) (V.mono u) (λd o=>⟨(bs d o).1.mono u,(bs d o).2⟩) w W7;rw[nl]at j;refine ay λoE ki nn=>.ag (.mk _ j ?_);rintro _ aT ⟨ef,os,rfl,M,Y,hT,Z,U⟩;rw[<-OR];refine ki _ _ _ (ay λsk lJ uI=>ay λxT qr z1=>qr _ _ _ (aW (λq=>absurd rfl q) (λ_=>lJ _ _ _ ?_)));rw[<-U];refine ay λA' tI DJ=>ay λEN zZ Iw=>zZ _ _ _ (ew λW xi Ix=>?_);have r2:os.length<=16:=by rw[U];exact(ts mk.g0).r2
 refine .jG (.ag (aCU W _ (b.up M) Y (by rw[hT,pM,Lu]) Z r2 rfl λe L cr gh=>xi _ _ _ (tI _ _ _ ?_)));have f:=J.le_trans u (J.le_trans M gh);exact .ag (.mk _ (SE cr (z.mono f)) (λ_ eX⟨rfl,im⟩=>.ag ⟨rfl,J.le_trans f im⟩))
end Go.Sx
