/- A part of the proof that the statement holds. Conditions: none. -/
import Derived.Test.YtlbdbpaelcnfgaaGreatDoorRows
import Derived.Test.YtlbdbpaelcnfgaaGreatDoorAC
import Derived.Test.YtlbdbpaelcnfgaaGreatDoorAP
import Derived.Test.YtlbdbpaelcnfgaaGreatDoorAQ
import Derived.Test.YtlbdbpaelcnfgaaGreatDoorAT
import Derived.Test.YtlbdbpaelcnfgaaGreatDoorAU
import Derived.Test.YtlbdbpaelcnfgaaGreatDoorAX
open Decidable renaming byContradiction->wJ
open Go renaming Addr->aI,DataW->qx,MemPlace->vs,Program->eN,TypeId->fR,Value->ax,World->bw,maxLen->eD
open Go.DataW renaming trod->x3,trod_int->Bm,trod_slice->P5,trod_string->Xu,trod_struct->LI,weights->zD,weightsAll->aka,weightsEach->H4
open Go.Obj renaming cells->bb
open Go.Proofs.Tryz renaming prog->aB,underlying100->amu,underlying24->amv,underlying26->amy,underlying27->Me,underlying3->vy,underlying30->Yo,underlying9->BO,underlying96->amJ,underlying98->amK
open Go.Value renaming bool->c5,int->bA,pointer->gv,slice->ab,tuple->ey
open Go.World renaming cells?_some->am0
open Int renaming le_refl->vp,toNat_natCast->bz
open List renaming append_assoc->kC,append_nil->s7,foldl_cons->Dk,getD_eq_getElem?_getD->cx,getElem?_eq_getElem->bZ,getElem?_eq_none->l6,getElem?_map->dH,getElem?_replicate->zO,getElem?_set_ne->Qo,getElem?_set_self->Ig,getElem_map->Dn,getElem_mem->cG,getElem_of_mem->oe,length->fi,length_append->fc,length_cons->iv,length_drop->mF,length_eq_one_iff->XV,length_map->gz,length_replicate->wR,length_set->h2,length_singleton->ak4,length_take->ni,map_append->fF,map_cons->ec,map_map->iD,map_nil->x',map_replicate->s9,map_set->lM,mem_append_left->Bv,mem_cons->ek,mem_cons_of_mem->gX,mem_cons_self->hU,mem_map->cU,mem_or_eq_of_mem_set->XZ,mem_replicate->Bx,mem_singleton->hV,mem_singleton_self->FT,not_mem_nil->ya,range->fL,replicate->bh,replicate_succ->wS,set_append_right->uq,take_of_length_le->lN
open List.cons renaming injEq->zN
open Nat renaming add_comm->vt,div_eq_of_lt->L3,div_eq_of_lt_le->X4,le_refl->dz,mod_lt->alw,mul_add_div->aly,mul_comm->L4,mul_le_mul->lP,mul_one->eV,sub_self->wU,succ_mul->zS,zero_add->dM,zero_le->cW,zero_mul->FV
open Option renaming bind_eq_some_iff->wW,getD_some->ps,map_eq_some_iff->ye,map_some->rp
open Option.some renaming inj->wX
open Or renaming inl->bW,inr->bl
open Prod.mk renaming inj->r7,injEq->wZ
namespace Go.Sx
open Go.Proofs
set_option maxRecDepth 100000
set_option maxHeartbeats 0
set_option linter.all false
variable {z:Int}{B h:J}{l:List Int}{bE bU:Nat}{r:ax}{x:gy}
theorem Q6{a:J}(bx:ib B h bU bE x)(le:B.le h)(e:J.lA bE h a){dR cj:Option aI}{cb bO:Nat}{X:List ax}(c:bf B 1 dR x.ins.length (gT x.ins))(to:bf B 1 cj x.outs.length (gT x.outs))(hk:a bE=some (bb (ab dR x.ins.length cb::ab cj x.outs.length bO::R x.n::X).toArray (w9 x.tag) (0,0))){b:List Int}(d:r' (B.grow h a) x.tag x.a6 b X):ib (B.grow h a) a bU bE {x with st:=b}:=by
 have mN:=Sn le bx.o9 e;exact⟨mN _ _ bx.box,tp bx.o9 bx.some_,dR,cb,cj,bO,X,hk,c.mono mN,to.mono mN,d⟩
theorem UY h a bE U:mv (h.put bE U) a bE=mv h a bE:=by
 funext o;unfold mv J.on;by_cases q:o=bE;rw[aD (λp=>p.2 q),aD (λp=>p.2 q)];simp only[J.cB _ _ q];by_cases p:h o=none/\o≠bE;rw[aP p,aP p];rw[aD p,aD p]
theorem II(bx:ib B h bU bE x)(le:B.le h){ae:J}(f:h.le ae){a b:Nat}{e d:Obj}(g:ae a=none)(i:(ae.put a e) b=none) u:tc B h bU bE x none (ey #[u,c5 false]) ((ae.put a e).put b d):=by
 have c:=J.le_trans f (J.le_trans (J.dI g) (J.dI (U:=d) i));exact⟨c.lA,bx.pure le c,_,rfl⟩
theorem Un{a:J}{U:Obj}(le:(h.put bE U).le a):J.lA bE h a:=λo x c b=>le _ _ (by rw[J.cB _ _ c];exact b)
theorem RowsIn.get{b:Option aI}{D:List cY}(c:RowsIn h b D){i:Nat} d:∃g,b=some g/\h.cell? (g.add (i*1))=some D[i].val:=by
 obtain⟨g,a⟩:=c.dV.cg I;exact⟨g,a,c.dV.one a (i:=i) (r:=[D[i].val]) (by unfold HL;rw[dH,bZ d];rfl) rfl⟩
theorem cY.get{d:cY}(ok:d.ok h){o:Nat} b:∃g,d.A=some g/\h.cell? (g.add (o*1))=some (R d.l[o]):=by
 obtain⟨g,a⟩:=bf.cg ok I;exact⟨g,a,bf.one ok a (i:=o) (iP b) rfl⟩
variable {D:List cY}
theorem RowsIn.first{e:Option aI}(f:RowsIn h e D){i:Nat}(a:(D.map cY.l)[i]?=some (z::l)):i<D.length/\∃g A n c g2,e=some g/\h.cell? (g.add (i*1))=some (ab A n c)/\A=some g2/\0<n/\h.cell? (g2.add (0*1))=some (R z):=by
 have b:i<D.length:=by
  refine wJ λq=>?_;rw[l6 (by simpa using q)]at a;cases a
 rw[dH,bZ b,rp]at a;have a:=wX a;obtain⟨g,j,c⟩:=f.get b;have d:0<D[i].l.length:=by rw[a];simp
 obtain⟨g2,k,c2⟩:=cY.get (f.row _ (cG b)) d;refine⟨b,g,D[i].A,D[i].l.length,D[i].c,g2,j,c,k,d,?_⟩;rw[c2];congr 2;rw[List.getElem_of_eq a (by simpa using d)];rfl
def Hv(U:Option Int):Option (List (List Int)):=U.map λy=>[[y]]
theorem aBG(bx:ib B h bU bE x)(le:B.le h) s cb D n(M:D.length=n)(u:RowsIn h s D){a b:Int}{l H:List Int}(al:(D.map cY.l)[0]?=some (a::l))(h1:(D.map cY.l)[1]?=some (b::H)):Fn aB 255 #[r,ab s n cb] h (tc B h bU bE x (Hv (KW a b))):=by
 obtain⟨i0,g,A,k,c,g2,z,c1,aT,hk,c2⟩:=u.first al;obtain⟨i1,F,C,K,E,m,G,j,w,L,v⟩:=u.first h1;refine b6 axq rfl (.mk g z aM I (.hp (ab A k c) c1 (.mk g2 aT aM I (.hp (R a) c2 (.mk F G aM I (.hp (ab C K E) j (.mk m w aM I (.hp (R b) v (aY (λq=>?_) (λq=>?_))))))))));refine .ah ?_;rw[KW,aP q];exact⟨(J.le_refl _).lA,bx.pure le (J.le_refl _),_,rfl⟩;refine aY (λd=>?_) (λd=>?_);rw[KW,aD q,aP d];have cs:=aDW 0 a h;cases o:C1 0 a with
 |none=>
  rw[o]at cs;refine .ah (.mk _ cs ?_);rintro _ _ ⟨rfl,rfl⟩;exact .mk λp f=>.mk λt i=>.ah (II bx le (J.le_refl _) f i _)
 |some y=>
  rw[o]at cs;refine .ah (.mk _ cs ?_);rintro _ _ ⟨rfl,rfl⟩;refine .mk λp f=>.mk λt i=>?_;obtain⟨e,d⟩:=E4 (l:=[y]) (c:=1) bx.some_ f [R y] rfl i (J.le_refl _);exact .ah ⟨e.lA,bx.pure le e,_,_,_,rfl,rfl,d⟩
 rw[KW,aD q,aD d];refine .mk q (.wrap (.mk λp f=>.mk λt i=>?_));obtain⟨e,d⟩:=E4 (l:=[nH (a.tdiv b)]) (c:=1) bx.some_ f [R (nH (a.tdiv b))] rfl i (J.le_refl _);exact .ah ⟨e.lA,bx.pure le e,_,_,_,rfl,rfl,d⟩
theorem aoS{i:ax}(bx:ib B h bU bE x)(le:B.le h):Fn aB 261 #[r,i] h (tc B h bU bE x (some [])):=by
 exact b6 axv rfl (.ah ⟨(J.le_refl _).lA,bx.pure le (J.le_refl _),none,0,[],rfl,rfl,bf.nil _ _ _,nofun⟩)
theorem aDZ(bx:ib B h bU bE x)(le:B.le h)(m:x.tag=8)(o:Option aI)(cb:Nat)(D:List cY)(n:Nat)(P:D.length=n)(M:RowsIn h o D)(al:(D.map cY.l)[0]?=some (z::l)):Fn aB 258 #[bY bE,ab o n cb] h (tc B h bU bE {x with st:=match oV (x.st.getD 0 0) z with|some y=>[y]|none=>x.st} (Hv (oV (x.st.getD 0 0) z))):=by
 obtain⟨i0,g,A,k,c,g2,C,c1,aT,hk,c2⟩:=M.first al;obtain⟨dR,r,cj,bO,X,u,L,to,N⟩:=bx.ex;have f:=N;unfold r' at f;rw[aD I,aP m]at f;obtain⟨s,E,rfl⟩:=f;have H:x.st.getD 0 0=s:=by rw[E];rfl
 rw[H];have b:=Mg s z h;refine b6 axs rfl (az λS K T=>K _ _ _ (az λQ p O=>.hp (R s) (bV u rfl) (.mk g C aM I (.hp (ab A k c) c1 (.mk g2 aT aM I (.hp (R z) c2 ?_))))));cases a:oV s z with
 |none=>
  rw[a]at b;refine .mk _ b (λv w q=>by rw[q.2];exact J.le_refl _) ?_;rintro _ _ ⟨rfl,rfl⟩;refine p _ _ _ (.mk λF d=>.mk λG e=>.ah ?_);rw[a];exact II bx le (J.le_refl _) d e _
 |some y=>
  rw[a]at b;refine .mk _ b (λv w q=>by rw[q.2];exact J.le_refl _) ?_;rintro _ _ ⟨rfl,rfl⟩;refine p _ _ _ (.hp bE 3 (w9 x.tag) (ab dR x.ins.length r::ab cj x.outs.length bO::R x.n::[R s]) (ab dR x.ins.length r::ab cj x.outs.length bO::R x.n::[R y]) rfl u (by rw[ih _ _ _ bd];rfl) (.mk λF d=>.mk λG e=>?_));obtain⟨j,i⟩:=E4 (bE:=bE) (l:=[y]) (c:=1) (by rw[J.b1];nofun) d [R y] rfl e (J.le_refl _);rw[UY]at i;have t:=Un j;refine .ah ?_;rw[a];refine⟨t,Q6 bx le t L to (j _ _ (J.b1 _ _ _)) ?_,_,_,_,rfl,rfl,i⟩;unfold r';rw[aD I,aP m];exact⟨y,rfl,rfl⟩
theorem aEC{i:ax}(bx:ib B h bU bE x)(le:B.le h)(p:x.tag=10):Fn aB 260 #[bY bE,i] h (tc B h bU bE {x with st:=match oV (x.st.getD 0 0) (x.a6.getD 1 0)with|some y=>[y]|none=>x.st} ((oV (x.st.getD 0 0) (x.a6.getD 1 0)).map λ_=>[[x.st.getD 0 0]])):=by
 obtain⟨dR,t,cj,bO,X,a,F,to,G⟩:=bx.ex;have j:=G;unfold r' at j;rw[aD I,aD I,aP p]at j;obtain⟨s,z,rfl⟩:=j;have D:x.st.getD 0 0=s:=by rw[z];rfl
 rw[D];obtain⟨b,o⟩:∃b,b=x.a6.getD 1 0:=⟨_,rfl⟩;rw[<-o]at a⊢;have e:=Mg s b h;refine b6 axu rfl (az λL E M=>E _ _ _ (az λK r H=>.hp (R s) (bV a rfl) (.hp (R b) (bV a rfl) ?_)));cases d:oV s b with
 |none=>
  rw[d]at e;refine .mk _ e (λv w q=>by rw[q.2];exact J.le_refl _) ?_;rintro _ _ ⟨rfl,rfl⟩;refine r _ _ _ (.hp (R s) (bV a rfl) (.mk λA f=>.mk λC g=>.ah ?_));rw[d];exact II bx le (J.le_refl _) f g _
 |some y=>
  rw[d]at e;refine .mk _ e (λv w q=>by rw[q.2];exact J.le_refl _) ?_;rintro _ _ ⟨rfl,rfl⟩;refine r _ _ _ (.hp (R s) (bV a rfl) (.hp bE 3 (w9 x.tag) (ab dR x.ins.length t::ab cj x.outs.length bO::R x.n::[R s,R b]) (ab dR x.ins.length t::ab cj x.outs.length bO::R x.n::[R y,R b]) rfl a (by rw[ih _ _ _ bd];rfl) (.mk λA f=>.mk λC g=>?_)));obtain⟨m,k⟩:=E4 (bE:=bE) (l:=[s]) (c:=1) (by rw[J.b1];nofun) f [R s] rfl g (J.le_refl _);rw[UY]at k;have u:=Un m;refine .ah ?_;rw[d];refine⟨u,Q6 bx le u F to (m _ _ (J.b1 _ _ _)) ?_,_,_,_,rfl,rfl,k⟩;unfold r';rw[aD I,aD I,aP p];exact⟨y,rfl,by rw[<-o]⟩
theorem anf(bx:ib B h bU bE x)(le:B.le h) p cb D n(fU:D.length=n)(aA:n<=1000)(L:RowsIn h p D)(f:∀d∈D,0<d.l.length):Fn aB 253 #[r,ab p n cb] h (tc B h bU bE x (Hv (C3 0 ((D.map cY.l).map λl=>l.getD 0 0)))):=by
 obtain⟨a,C⟩:∃a,a=(D.map cY.l).map λl=>l.getD 0 0:=⟨_,rfl⟩;rw[<-C];have kv:a.length=n:=by rw[C];simp[fU]
 refine b6 axo rfl ?_;refine az λgE de gm=>?_;refine de _ _ _ ?_;refine az λgA db ev=>?_;refine db _ _ _ ?_;refine az λgj X fD=>?_;refine az λgk dZ ez=>?_;refine dZ _ _ _ ?_;refine fb λhs Z hE=>?_;refine .kY (.abs 3 1 none 0 0 [] ⟨rfl,bW ⟨rfl,rfl,rfl⟩⟩ (.ah ?_));show kB _ _ _ _ h;refine .mk (Nat×Option aI×Nat) [6,11,12,13] (λ(k,A,c)=>[.v (ab A k c),.v (ab p n cb),.v (R n),.v (R k)]) (λ(k,A,c)=>[.row 3 1 A k c ((a.take k).map R)]) (λ(k,_,_) S=>S=h/\k<=n) (λ(k,_,_)=>n-k) (0,none,0) (λ_=>rfl) ⟨rfl,cW _⟩ rfl rfl ?_;rintro⟨k,A,c⟩ e _ ⟨rfl,hk⟩;refine az λgZ ea g6=>?_;refine ea _ _ _ ?_;refine az λiK eT hg=>?_;refine aY (λq=>?_) (λq=>?_);have b:k<D.length:=I;obtain⟨g,V,N⟩:=L.get b;obtain⟨g2,M,c2⟩:=cY.get (L.row _ (cG b)) (f _ (cG b));have i:a.take (k+1)=a.take k++[D[k].l[0]'(f _ (cG b))]:=by
  have w:k<a.length:=I;rw[kJ w];congr 2;subst C;rw[Dn,Dn,cx,bZ (f _ (cG b))];rfl
 have O:=f _ (cG b);generalize D[k].l[0]'(f _ (cG b))=z at c2 i;generalize D[k]=d at N M O;refine eT _ _ _ ?_;refine az λjl fa jc=>?_;refine fb λjV hf h6=>?_;refine az λkD gK kl=>?_;refine .m g V ?_;refine .hp (ab d.A d.l.length d.c) (by rw[bz];exact N) ?_;refine gK _ _ _ ?_;refine .mk g2 M aM I ?_;refine .hp (R z) c2 ?_;refine .ah (.c3 0 _ [R z] rfl rfl (by intro u hu;rw[hV]at hu;subst hu;rfl) (by unfold eD;omega) I λF G _=>?_);refine h6 _ _ _ _ nofun (fa _ _ _ ?_);refine .bg ?_;refine⟨(k+1,F,G),rfl,?_,⟨rfl,I⟩,by show n- (k+1)<n-k;omega⟩;show _=[LE.row 3 1 F (k+1) G ((a.take (k+1)).map R)];rw[i,fF];rfl;refine hg _ _ _ _ nofun (Z _ _ _ (X _ _ _ ?_));obtain rfl:k=n:=by omega
 refine .b4 0 3 1 A k c _ rfl λae j H f2=>.ah ?_;rw[lN I]at H;have cs:=aDY A k c a ae H.one I;cases E:C3 0 a with
 |none=>
  rw[E]at cs;refine .mk _ cs ?_;rintro _ _ ⟨rfl,rfl⟩;refine .mk λW s=>?_;refine .mk λY t=>?_;exact .ah (II bx le j s t _)
 |some y=>
  rw[E]at cs;refine .mk _ cs ?_;rintro _ _ ⟨rfl,rfl⟩;refine .mk λW s=>?_;refine .mk λY t=>?_;have w:=(bx.up j).some_;obtain⟨Q,P⟩:=E4 (l:=[y]) (c:=1) w s [R y] rfl t (J.le_refl _);have K:=J.le_trans j Q;exact .ah ⟨K.lA,bx.pure le K,_,_,_,rfl,rfl,P.mono (UX j λo U _ T=>T)⟩
theorem aFO(ins:List (List Int)) o i a:(ins.take (i+1)).map (λl=>l.getD o 0)=(ins.take i).map (λl=>l.getD o 0)++[ins[i].getD o 0]:=by
 rw[kJ a,fF];rfl
theorem aFP(bx:ib B h bU bE x)(le:B.le h)(n m:Nat)(r:x.ins=bh n (m:Int))(W:x.outs=[((n*m:Nat):Int)])(mr:0<n)(aA:n<=16)(Nu:n*m<=64) f cb D(fU:D.length=n)(H:RowsIn h f D)(Q:∀d∈D,d.l.length=m):Fn aB 251 #[bY bE,ab f n cb] h (tc B h bU bE x (some [pU (D.map cY.l) m])):=by
 have M:=bx;obtain⟨dR,n0,cj,bO,X,hk,s,to,_⟩:=bx.ex;have T:m<=64:=by
  have:1*m<=n*m:=lP I (dz _);omega
 have oB:x.ins.length=n:=by rw[r];simp
 rw[W]at to hk;rw[oB]at hk s;obtain⟨g0,C⟩:=to.cg bd;obtain⟨g1,K⟩:=s.cg I;have ci:h.cell? (g1.add (0*1))=some (R m):=(s.mono le).one K (i:=0) (by rw[r];unfold gT;rw[dH,zO,aP mr];rfl) rfl;obtain⟨a,w⟩:∃a,a=D.map cY.l:=⟨_,rfl⟩;have dl:a.length=n:=by rw[w];simp[fU]
 rw[<-w];refine b6 axm rfl ?_;refine az λgE de gm=>?_;refine de _ _ _ ?_;refine az λgA db ev=>?_;refine .hp (ab cj 1 bO) (bV hk rfl) ?_;refine .mk g0 C aM aM ?_;refine .hp (R (n*m:Nat)) ((to.mono le).one C (i:=0) rfl rfl) ?_;refine .room (n*m) rfl rfl I I λmf=>?_;refine db _ _ _ ?_;refine az λgj c6 fD=>?_;refine az λgk dZ ez=>?_;refine .hp (ab dR n n0) (bV hk rfl) ?_;refine .mk g1 K aM I ?_;refine .hp (R m) ci ?_;refine dZ _ _ _ ?_;refine fb λhs dG hE=>?_;refine .mk (Nat×Option aI×Nat) [1,6,23,24] (λ(o,A,c)=>[.v (ab f n cb),.v (ab A (n*o) c),.v (R m),.v (R o)]) (λ(o,A,c)=>[.row 3 1 A (n*o) c ((pU a o).map R)]) (λ(o,_,_) p=>p=h/\o<=m) (λ(o,_,_)=>m-o) (0,some mf,n*m) (λ_=>rfl) ⟨rfl,cW _⟩ rfl rfl ?_;rintro⟨o,A,c⟩ e ae ⟨rfl,Y⟩;refine az λgZ ea g6=>?_;refine ea _ _ _ ?_;refine az λiK eT hg=>?_;have S:n*o<=64:=by
  have:n*o<=n*m:=Nat.mul_le_mul_left _ Y;omega
 refine aY (λq=>?_) (λq=>?_);refine eT _ _ _ ?_;refine az λjl fa jc=>?_;refine fb λjV hf h6=>?_;refine az λkD gK kl=>?_;refine gK _ _ _ ?_;refine az λr8 kS rO=>?_;refine kS _ _ _ ?_;refine fb λpt kx oD=>?_;refine .mk (Nat×Option aI×Nat) [1,6,7,23,24,27,28,29] (λ(i,A,c)=>[.v (ab f n cb),.v (ab A (n*o+i) c),.v (R o),.v (R m),.v (R o),.v (ab f n cb),.v (R n),.v (R i)]) (λ(i,A,c)=>[.row 3 1 A (n*o+i) c ((pU a o++(a.take i).map λl=>l.getD o 0).map R)])
  (λ(i,_,_) p=>p=ae/\i<=n) (λ(i,_,_)=>n-i) (0,A,c) (λ_=>rfl) ⟨rfl,cW _⟩ rfl (by
   show[LE.row 3 1 A (n*o) c ((pU a o).map R)]=[LE.row 3 1 A (n*o+0) c ((pU a o++(a.take 0).map λl=>l.getD o 0).map R)];rw[List.take_zero,x',s7];rfl) ?_
 rintro⟨i,A,c⟩ e au ⟨rfl,r⟩;refine az λtb mn wi=>?_;refine mn _ _ _ ?_;refine az λBG sG O=>?_;refine aY (λk=>?_) (λk=>?_);have j:i<D.length:=I;have sz:i<a.length:=I;obtain⟨g,Z,L⟩:=H.get j;have eH:=Q _ (cG j);have y:o<D[i].l.length:=I;obtain⟨g2,J,c2⟩:=cY.get (H.row _ (cG j)) y;have b:a[i].getD o 0=D[i].l[o]:=by
  subst w;rw[Dn,cx,bZ y];rfl
 have t:=aFO a o i sz;rw[b]at t;clear b;generalize D[i].l[o]=z at c2 t;generalize D[i]=d at L J eH;refine sG _ _ _ ?_;refine az λDu xH Ke=>?_;refine fb λL9 G7 P=>?_;refine az λQB N T5=>?_;refine N _ _ _ ?_;refine .m g Z ?_;refine .hp (ab d.A d.l.length d.c) (by rw[bz];exact L) ?_;refine .m g2 J ?_;refine .hp (R z) (by rw[bz];exact c2) ?_;refine .ah (.c3 0 _ [R z] rfl rfl (by intro u hu;rw[hV]at hu;subst hu;rfl) (by unfold eD;omega) I λF G _=>?_);refine P _ _ _ _ nofun (xH _ _ _ ?_);refine .bg ?_;refine⟨(i+1,F,G),rfl,?_,⟨rfl,I⟩,by show n- (i+1)<n-i;omega⟩;show _=[LE.row 3 1 F (n*o+(i+1)) G ((pU a o++(a.take (i+1)).map λl=>l.getD o 0).map R)];have V:(pU a o++(a.take (i+1)).map λl=>l.getD o 0).map R=(pU a o++(a.take i).map λl=>l.getD o 0).map R++[R z]:=by rw[t,<-kC,fF];rfl
 rw[V];rfl;obtain rfl:i=n:=by omega
 refine O _ _ _ _ nofun (kx _ _ _ ?_);refine h6 _ _ _ _ nofun (fa _ _ _ ?_);refine .bg ?_;refine⟨(o+1,A,c),rfl,?_,⟨rfl,I⟩,by show m- (o+1)<m-o;omega⟩;show _=[LE.row 3 1 A (i*(o+1)) c ((pU a (o+1)).map R)];have U:(pU a o++(a.take i).map λl=>l.getD o 0)=pU a (o+1):=by rw[ajt,lN I]
 rw[<-U];rfl;obtain rfl:o=m:=by omega
 refine hg _ _ _ _ nofun (dG _ _ _ (c6 _ _ _ ?_));refine .mk λdA j'=>?_;refine .b4 0 3 1 A (n*o) c _ rfl λau ds dU f3=>.ah ?_;obtain⟨E,k⟩:=agt (l:=pU a o) M.some_ j' ds (by rw[aju,dl,L4]) dU f3;refine⟨E.lA,M.pure le E,some ⟨dA,0,none⟩,1,[⟨A,c,pU a o⟩],?_,rfl,k⟩;rfl
theorem ahC{a:J}{A:Option aI}{c:Nat}(hk:h bE≠none)(r:bJ a 27 1 A D.length c (D.map cY.val))(f:∀g,A=some g->h g.block=none)(m:∀d∈D,bJ a 3 1 d.A d.l.length d.c (d.l.map R)/\∀g,d.A=some g->h g.block=none):RowsIn (mv h a bE) A D:=by
 have on:∀{bK k j:Nat}{b:Option aI}{xs:List ax},bJ a bK 1 b k j xs->(∀g,b=some g->h g.block=none)->bJ (mv h a bE) bK 1 b k j xs:=λr f=>bJ.on (S:=λo=>h o=none/\o≠bE) r λg n=>⟨f g n,λe=>hk aJ⟩;refine⟨?_,λd i=>(on (m d i).1 (m d i).2).one⟩;have:=(on r f).eQ;rw[iD]at this;exact this
theorem ayU{b:Nat}(a:h b=some (bb (l.map R).toArray 3 (0,0)))(hm:l.length<=1000):bJ h 3 1 (some ⟨b,0,none⟩) l.length l.length (l.map R):=⟨bd,bl ⟨b,_,rfl,a,dz _,by unfold eD;omega,bd,by rw[eV];exact lN bd⟩⟩
theorem apO{α:Type}(a:List α) z x n(h:a.length<n):(a++bh (n-a.length) z).set a.length x=(a++[x])++bh (n- (a.length+1)) z:=by
 rw[uq _ _ (dz _),wU,show n-a.length=(n- (a.length+1))+1 by omega,wS,kC];rfl
def ES(b:Nat):ax:=ab (some ⟨b,0,none⟩) 1 1
theorem aou(bx:ib B h bU bE x)(le:B.le h) n(F:x.outs.length=n)(Y:n<=16) r cb D k(fU:D.length=k)(S:RowsIn h r D){z:Int}{l:List Int}(al:(D.map cY.l)[0]?=some (z::l)):Fn aB 259 #[bY bE,ab r k cb] h (tc B h bU bE x (some (bh n [z]))):=by
 obtain⟨i0,g,A,m,c,g2,f,c1,aT,hm,c2⟩:=S.first al;have C:=bx;obtain⟨dR,n0,cj,bO,X,hk,eC,to,_⟩:=bx.ex;rw[F]at hk;refine b6 axt rfl (az λgE O gm=>O _ _ _ (az λgA N ev=>.hp (ab cj n bO) (bV hk rfl) (.one n (ab none 0 0) rfl rfl rfl rfl I I λj=>N _ _ _ (az λgj H fD=>az λgk M ez=>M _ _ _ (fb λhs L hE=>?_)))));refine .mk (List Nat) [1,6,16,17] (λa=>[.v (ab r k cb),.v (ab (some j) n n),.v (R n),.v (R a.length)]) (λa=>[.row 27 1 (some j) n n (a.map ES++bh (n- (a.map ES).length) (ab none 0 0))]) (λa s=>h.le s/\a.length<=n/\∀b∈a,s b=some (bb #[R z] 3 (0,0))/\h b=none) (λa=>n-a.length) [] (λ_=>rfl) ⟨J.le_refl _,cW _,nofun⟩ rfl rfl ?_;refineλa e ae⟨i,tr,y⟩=>az λgZ Q g6=>Q _ _ _ (az λiK P W=>aY (λq=>?_) (λq=>?_));refine P _ _ _ (az λjl T jc=>fb λjV hf V=>az λkD U kl=>U _ _ _ (.mk g f aM I (.hp (ab A m c) (J.la i c1) (.mk g2 aT aM I (.hp (R z) (J.la i c2) (.m j rfl (.mk λb o=>?_)))))));refine .row 0 27 1 j n n _ (((a++[b]).map ES)++bh (n- ((a++[b]).map ES).length) (ab none 0 0)) a.length rfl bd (by
  rw[ih _ _ _ aJ];have:=apO (a.map ES) (ab none 0 0) (ES b) n aJ;simp only[gz]at this;simp only[fF,fc,gz,ec,x',ak4];exact ee some this) ?_
 refine V _ _ _ _ nofun (T _ _ _ (.bg (⟨a++[b],by rw[fc];rfl,rfl,⟨J.le_trans i (J.dI o),aJ,λK p=>?_⟩,aJ⟩)));rcases List.mem_append.1 p with p|p;have:=y K p;exact⟨J.dI o _ _ this.1,this.2⟩;rw[hV.1 p];exact⟨J.b1 _ _ _,J.none_le i o⟩;have e:a.length=n:=I;refine W _ _ _ _ nofun (L _ _ _ (H _ _ _ (.b4 0 27 1 (some j) n n _ rfl λZ u t f3=>.ah ?_)));have w:=J.le_trans i u;rw[gz,e,wU,List.replicate_zero,s7]at t;have G:(a.map λb=>(⟨some ⟨b,0,none⟩,1,[z]⟩:cY)).map cY.val=a.map ES:=by rw[iD];rfl
 refine⟨w.lA,C.pure le w,some j,n,a.map λb=>⟨some ⟨b,0,none⟩,1,[z]⟩,by rw[gz,e];rfl,?_,ahC C.some_ (by rw[G,gz,e];exact t) (λg f=>J.none_le i (f3 g f)) λd E=>?_⟩;rw[iD,<-e];exact List.map_const' ..;obtain⟨b,o,rfl⟩:=cU.1 E;have:=y b o;exact⟨ayU (l:=[z]) (u _ _ this.1) bd,λg f=>by injection f with f;subst f;exact this.2⟩
theorem ayB{ae:J}{A:Option aI}(le:h.le ae)(aT:∀g,A=some g->h g.block=none):h.le (eP ae A):=λo U a=>by
 rw[oo λg b e=>by rw[e,aT g b]at a;cases a];exact le _ _ a
theorem aFD(bx:ib B h bU bE x)(le:B.le h) n(aS:x.outs.length=n)(dm:1<=n)(aA:n<=16) V cb d(en:RowsIn h V [d])(C:d.l.length<=64):Fn aB 252 #[bY bE,ab V 1 cb] h (tc B h bU bE x (some (xT n 0 d.l (bh n [])))):=by
 obtain⟨g,b,c1⟩:=en.get (i:=0) bd;have P:=en.row _ (FT _);obtain⟨A,c,l⟩:=d;simp only at C P;have td:=bx;obtain⟨dR,n0,cj,bO,X,hk,eC,to,_⟩:=bx.ex;rw[aS]at hk;obtain⟨G,p⟩:∃G,G=xT n 0 l (bh n []):=⟨_,rfl⟩;simp only;rw[<-p];refine b6 axn rfl (az λgE de gm=>de _ _ _ (az λgA db ev=>.hp (ab cj n bO) (bV hk rfl) (.one n (ab none 0 0) rfl rfl rfl rfl I I λf=>db _ _ _ (az λgj c6 fD=>az λgk dZ ez=>.mk g b aM aM (.hp (ab A l.length c) c1 (dZ _ _ _ (fb λhs dG hE=>.kY (.ah ?_))))))));refine .mq [0] (Nat×List cY) [6,19,20,21] (λ(k,_)=>[.v (ab (some f) n n),.v (ab A l.length c),.v (R l.length),.v (R k)]) (λ(_,D)=>[.row 27 1 (some f) n n (D.map cY.val)]) (λ(k,D) U=>h.le U/\k<=l.length/\D.length=n/\xT n k (l.drop k) (D.map cY.l)=G/\(∀q∈D,bJ U 3 1 q.A q.l.length q.c (q.l.map R)/\q.l.length<=k/\∀g,q.A=some g->h g.block=none)/\(D.flatMap λq=>jm q.A).Nodup) (λ(k,_)=>l.length-k) (0,bh n Ah) (λ_=>rfl)
  ⟨J.le_refl _,cW _,bd,by rw[s9];exact p.symm,λq aw=>by rw[(Bx.1 aw).2];exact⟨⟨rfl,bW ⟨rfl,rfl,rfl⟩⟩,dz _,nofun⟩,by
   rw[List.flatMap_replicate];simp[Ah,jm]⟩ rfl rfl (by
   show some [LE.row 27 1 (some f) n n (bh n (ab none 0 0))]=some [LE.row 27 1 (some f) n n ((bh n Ah).map cY.val)];rw[s9];rfl) ?_
 rintro⟨k,D⟩ e ae ⟨L,GO,O,hu,t,nZ⟩;by_cases q:k<l.length;have Ej:=alw k dm;have o:k%n<D.length:=I;have sv:=cG o;obtain⟨sf,H,T⟩:=t _ sv;obtain⟨d,w⟩:∃d,d=D[k%n]:=⟨_,rfl⟩;rw[<-w]at sf H T sv;have F:=ayB L T;obtain⟨g3,S⟩:=bf.cg P (by simp only;omega);have eW:=J.la F (bf.one P S (i:=k) (iP q) rfl);rw[List.drop_eq_getElem_cons q,xT]at hu;obtain⟨z,a1⟩:∃z,z=l[k]:=⟨_,rfl⟩;rw[<-a1]at eW hu;refine .abs 3 1 d.A d.l.length d.c (d.l.map R) sf (.ah (az λgZ N g6=>N _ _ _ (az λiK Z hg=>aY (λ_=>?_) (λaH=>I))));refine Z _ _ _ (az λjl fa jc=>fb λjV hf h6=>az λkD gK kl=>.m g3 S (.hp (R z) (by rw[bz];exact eW) (gK _ _ _ (az λr8 kS rO=>?_))));have em:(k:Int).tmod (n:Int)=((k%n:Nat):Int):=by rw[Int.tmod_eq_emod_of_nonneg I];rfl
 conv=>whnf
 rw[em];refine .mk I (kS _ _ _ (.m f rfl (.row 0 27 1 f n n (D.map cY.val) (k%n) d.val rfl (by rw[bz,eV]) (by rw[dH,bZ o,<-w];rfl) ?_)));refine .ah (.c3 1 _ [R z] rfl rfl (by intro u hu;rw[hV]at hu;subst hu;rfl) (by unfold eD;omega) I λE M _=>.m f rfl ?_);refine .row 0 27 1 f n n _ ((D.set (k%n) ⟨E,M,d.l++[z]⟩).map cY.val) (k%n) rfl (by rw[bz,eV]) (by
  rw[ih _ _ _ (by simpa using o),lM];simp only[cY.val,fc];rfl) ?_
 refine h6 _ _ _ _ nofun (fa _ _ _ (.bg (.b4 1 3 1 E (d.l.length+1) M _ rfl λaU W ga f4=>.ah ?_)));have gn:=J.le_trans F W;have ap:∀(i:Nat)(a:i<D.length),i≠k%n->∀g,D[i].A=some g->∀j,d.A=some j->g.block≠j.block:=λi a ne g b j s q=>R5 _ _ nZ i (k%n) a o ne g.block (oF b) (by rw[q,<-w];exact oF s);have Q:∀(i:Nat)(a:i<D.length),i≠k%n->bJ (eP ae d.A) 3 1 D[i].A D[i].l.length D[i].c (D[i].l.map R):=λi a ne=>by
  exact(t _ (cG a)).1.del λg j b s=>ap i a ne g b j s
 refine⟨(k+1,D.set (k%n) ⟨E,M,d.l++[z]⟩),rfl,rfl,⟨gn,I,by simpa using O,?_,λy aN=>?_,R6 _ _ _ _ nZ (by cases E<;>simp[jm]) λi a ne u hu K=>?_⟩,by show l.length- (k+1)<l.length-k;omega⟩;rw[lM];have lu:(D.map cY.l).getD (k%n) []=d.l:=by rw[cx,dH,bZ o,<-w];rfl
 rw[lu]at hu;exact hu;obtain⟨i,a,rfl⟩:=oe aN;rw[h2]at a;by_cases e:i=k%n;subst e;simp only[List.getElem_set_self];refine⟨?_,by simp only[fc,ak4];omega,λg b=>J.none_le F (f4 g b)⟩;rw[fc,fF];exact ga;simp only[List.getElem_set_ne (Ne.symm e)];have:=t _ (cG a);exact⟨(Q i a e).mono W,I,this.2.2⟩;obtain⟨g,b,e⟩:=n2 hu;obtain⟨j,s,bD⟩:=n2 K;have r:=Q i a ne;have:=r.mem s;rw[bD,<-e]at this;exact this (f4 g b);have e:k=l.length:=I;rw[List.drop_eq_nil_of_le I,xT]at hu;refine .ah (az λgZ N g6=>N _ _ _ (az λiK Z hg=>aY (λaH=>I) (λ_=>hg _ _ _ _ nofun (dG _ _ _ (c6 _ _ _ (.b4 0 27 1 (some f) n n _ rfl λau Y dU f3=>.ah ?_))))));have hv:=J.le_trans L Y;exact⟨hv.lA,td.pure le hv,some f,n,D,by rw[O];rfl,hu,ahC td.some_ (by rw[O];exact dU) (λg b=>J.none_le L (f3 g b)) λd C=>⟨(t d C).1.mono Y,(t d C).2.2⟩⟩
theorem apP(bx:ib B h bU bE x)(le:B.le h)(S:x.tag=1)(W:x.st.length+1=x.a6.length)(hp:x.a6.length<=16)(T:Option aI)(cb:Nat)(D:List cY)(k:Nat)(fU:D.length=k)(en:RowsIn h T D)(al:(D.map cY.l)[0]?=some (z::l)):Fn aB 245 #[bY bE,ab T k cb] h (tc B h bU bE {x with st:=match yx 0 x.a6 (z::x.st)with|some _=>(z::x.st).take x.st.length|none=>x.st} (Hv (yx 0 x.a6 (z::x.st)))):=by
 obtain⟨i0,g,A,m,c,g2,H,c1,aT,hm,c2⟩:=en.first al;have w:=bx;obtain⟨dR,Y,cj,bO,X,hk,eC,to,fB⟩:=bx.ex;have O:=fB;unfold r' at O;rw[aP S]at O;obtain⟨s,r,wz,C,rfl,t,dX⟩:=O;obtain⟨st,j⟩:∃st,st=x.st:=⟨_,rfl⟩;obtain⟨i,E⟩:∃i,i=x.a6:=⟨_,rfl⟩;rw[<-j]at W hk dX⊢;rw[<-E]at W hp hk t⊢;rw[show i.length=1+st.length by omega]at hk t;refine b6 axg rfl (az λgE de gm=>de _ _ _ (az λgA db ev=>.mk g H aM I (.hp (ab A m c) c1 (.mk g2 aT aM I (.hp (R z) c2 (.hp (ab wz st.length C) (bV hk rfl) (.mk λb aj=>.c3 1 _ (st.map R) rfl (by rw[<-yz];exact((dX.mono le).mono (J.le_refl _)).src _) (λu hu=>by obtain⟨y,_,rfl⟩:=cU.1 hu;rfl) (by unfold eD;omega) I λd a _=>db _ _ _ (az λgj V fD=>.hp (ab s (1+st.length) r) (bV hk rfl) (.b4 1 3 1 d (1+st.length) a _ rfl λQ f p f3=>.ah ?_)))))))));have p:bJ Q 3 1 d (1+st.length) a ((z::st).map R):=p;have e7:st.length<=a:=by
  rcases p.2 with⟨_,q,_⟩|⟨_,_,_,_,q,_⟩<;>omega
 have se:=aoP s d (1+st.length) r a i (z::st) Q ((t.mono le).mono f) p.one I;cases v:yx 0 i (z::st)with
 |none=>
  rw[v]at se;refine .mk _ se ?_;rintro _ _ ⟨rfl,rfl⟩;refine V _ _ _ (.mk λbI L=>.mk λcu M=>?_);subst j E;refine .ah ?_;rw[v];exact II w le f L M _
 |some y=>
  rw[v]at se;refine .mk _ se ?_;rintro _ _ ⟨rfl,rfl⟩;refine V _ _ _ (.hp (ab wz st.length C) (bV (f _ _ hk) rfl) (.mk 0 st.length rfl rfl (cW _) e7 λrf nU o0=>?_));rw[Lf nU o0];have K:=f _ _ hk;refine .hp bE 4 (w9 x.tag) (ab dR x.ins.length Y::ab cj x.outs.length bO::R x.n::[ab s (1+st.length) r,ab wz st.length C]) (ab dR x.ins.length Y::ab cj x.outs.length bO::R x.n::[ab s (1+st.length) r,ab d st.length a]) rfl K (by rw[ih _ _ _ bd];rfl) (.mk λbI L=>.mk λcu M=>?_);obtain⟨F,P⟩:=E4 (bE:=bE) (l:=[y]) (c:=1) (by rw[J.b1];nofun) L [R y] rfl M (J.le_refl _);rw[UY]at P;have N:J.lA bE h _:=λo U G aS=>Un F o U G (f _ _ aS);have bp:=P.mono (UX f λo U _ G=>G);subst E;refine .ah ?_;rw[v];refine⟨N,Q6 w le N eC to (F _ _ (J.b1 _ _ _)) ?_,_,_,_,rfl,rfl,bp⟩;unfold r';rw[aP S];have el:((z::st).take st.length).length=st.length:=bd;have mN:=Sn le w.o9 N;have Z:bJ (B.grow h _) 3 1 d (1+st.length) a ((z::st).map R):=((p.jS λg H e=>w.some_ (by rw[<-e];exact f3 g H)).mono F).grown f3;refine⟨s,r,d,a,?_,?_,?_⟩;simp only;rw[el,show x.a6.length=1+st.length by omega];rw[show x.a6.length=1+st.length by omega];exact t.mono mN;simp only;rw[el];have:=(Z.one).take (k:=st.length) I;rw[<-List.map_take]at this;exact this
end Go.Sx
namespace Go.Sx
set_option maxRecDepth 100000
set_option maxHeartbeats 0
set_option linter.all false
variable {C:Nat}{b:gy}
def Yf(tag:Int)(l a b:List Int):Prop:=(tag=1/\1<=l.length/\l.length<=16/\a=[1]/\b=[1])\/(tag=8/\a=[1]/\b=[1])\/(tag=2/\∃n:Nat,1<=n/\n<=64/\a=[1]/\b=[(n:Int)])\/(tag=3/\∃n:Nat,1<=n/\n<=64/\a=[(n:Int)]/\b=[1])\/(tag=4/\∃n m:Nat,1<=n/\n<=16/\1<=m/\n*m<=64/\a=bh n (m:Int)/\b=[((n*m:Nat):Int)])\/(tag=5/\∃n m:Nat,1<=n/\n<=16/\1<=m/\n*m<=64/\a=[((n*m:Nat):Int)]/\b=bh n (m:Int))\/(tag=6/\∃n:Nat,1<=n/\n<=16/\a=bh n 1/\b=[1])\/(tag=7/\a=[1,1]/\b=[1])\/(tag=9/\∃n:Nat,1<=n/\n<=16/\a=[1]/\b=bh n 1)\/(tag=10/\l.length=2/\a=[]/\b=[1])\/(tag=11/\∃n:Nat,1<=n/\n<=64/\a=[(n:Int)]/\b=[])
theorem aDi{tag:Int}{l:List Int}(h:(b3 tag l).1=0):Yf tag l (b3 tag l).2.1 (b3 tag l).2.2:=by
 have two:∀{n m:Int},(1<=n/\n<=16)->(1<=m/\m<=64)->n*m<=64->∃a b:Nat,n=a/\m=b/\1<=a/\a<=16/\1<=b/\a*b<=64:=λ{n m} h1 ae f=>by
  obtain⟨a,rfl⟩:∃a:Nat,n=a:=⟨n.toNat,I⟩;obtain⟨b,rfl⟩:∃b:Nat,m=b:=⟨m.toNat,I⟩;exact⟨a,b,rfl,rfl,I,I,I,by exact_mod_cast f⟩
 have one:∀{n:Int}{k:Nat},(1<=n/\n<=k)->∃a:Nat,n=a/\1<=a/\a<=k:=λ{n k} h1=>⟨n.toNat,I,I,I⟩;unfold b3 at h⊢;dsimp only at h⊢;by_cases q:tag<1\/11<tag;rw[aP q]at h;cases h;rw[aD q]at h⊢;clear q;by_cases q:tag=1/\(1<=(l.length:Int)/\(l.length:Int)<=16)\/tag=8/\l.length=0;rw[aP q];rcases q with q|q;exact bW ⟨q.1,I,I,rfl,rfl⟩;exact bl (bW ⟨q.1,rfl,rfl⟩);rw[aD q]at h⊢;clear q;by_cases q:tag=2/\l.length=1/\(1<=l.getD 0 0/\l.getD 0 0<=64);rw[aP q];obtain⟨a,e,h1,ae⟩:=one (k:=64) q.2.2;exact bl (bl (bW ⟨q.1,a,h1,ae,rfl,by rw[e]⟩));rw[aD q]at h⊢;clear q;by_cases q:tag=3/\l.length=1/\(1<=l.getD 0 0/\l.getD 0 0<=64);rw[aP q];obtain⟨a,e,h1,ae⟩:=one (k:=64) q.2.2;exact bl (bl (bl (bW ⟨q.1,a,h1,ae,by rw[e],rfl⟩)));rw[aD q]at h⊢;clear q;by_cases q:tag=4/\l.length=2/\(1<=l.getD 0 0/\l.getD 0 0<=16)/\(1<=l.getD 1 0/\l.getD 1 0<=64)/\l.getD 0 0*l.getD 1 0<=64;rw[aP q];obtain⟨a,b,d,c,h1,ae,f,g⟩:=two q.2.2.1 q.2.2.2.1 q.2.2.2.2;refine bl (bl (bl (bl (bW ⟨q.1,a,b,h1,ae,f,g,?_,?_⟩))));rw[d,c,bz];rw[d,c];simp;rw[aD q]at h⊢;clear q;by_cases q:tag=5/\l.length=2/\(1<=l.getD 0 0/\l.getD 0 0<=16)/\(1<=l.getD 1 0/\l.getD 1 0<=64)/\l.getD 0 0*l.getD 1 0<=64;rw[aP q];obtain⟨a,b,d,c,h1,ae,f,g⟩:=two q.2.2.1 q.2.2.2.1 q.2.2.2.2;refine bl (bl (bl (bl (bl (bW ⟨q.1,a,b,h1,ae,f,g,?_,?_⟩)))));rw[d,c];simp;rw[d,c,bz];rw[aD q]at h⊢;clear q;by_cases q:tag=6/\l.length=1/\(1<=l.getD 0 0/\l.getD 0 0<=16);rw[aP q];obtain⟨a,e,h1,ae⟩:=one (k:=16) q.2.2;exact bl (bl (bl (bl (bl (bl (bW ⟨q.1,a,h1,ae,by rw[e,bz],rfl⟩))))));rw[aD q]at h⊢;clear q;by_cases q:tag=7/\l.length=0;rw[aP q];exact bl (bl (bl (bl (bl (bl (bl (bW ⟨q.1,rfl,rfl⟩)))))));rw[aD q]at h⊢;clear q;by_cases q:tag=9/\l.length=1/\(1<=l.getD 0 0/\l.getD 0 0<=16);rw[aP q];obtain⟨a,e,h1,ae⟩:=one (k:=16) q.2.2;exact bl (bl (bl (bl (bl (bl (bl (bl (bW ⟨q.1,a,h1,ae,rfl,by rw[e,bz]⟩))))))));rw[aD q]at h⊢;clear q;by_cases q:tag=10/\l.length=2;rw[aP q];exact bl (bl (bl (bl (bl (bl (bl (bl (bl (bW ⟨q.1,q.2,rfl,rfl⟩)))))))));rw[aD q]at h⊢;clear q;by_cases q:tag=11/\l.length=1/\(1<=l.getD 0 0/\l.getD 0 0<=64);rw[aP q];obtain⟨a,e,h1,ae⟩:=one (k:=64) q.2.2;exact bl (bl (bl (bl (bl (bl (bl (bl (bl (bl ⟨q.1,a,h1,ae,by rw[e],rfl⟩)))))))));rw[aD q]at h;cases h
theorem foldl_add(a:Int):∀l:List Int,l.foldl (·+·) a=a+g9 l
 |[]=>by simp[g9]
 |x::l=>by
  have h1:=foldl_add (a+x) l;have ae:g9 (x::l)=0+x+g9 l:=foldl_add (0+x) l;rw[Dk,h1,ae];omega
theorem C2 x l:g9 (x::l)=x+g9 l:=by
 rw[g9,Dk,foldl_add];omega
theorem aD0{l:List Int}(h:∀r∈l,0<=r):0<=g9 l:=by
 induction l with
 |nil=>exact vp _
 |cons x l b=>
  rw[C2];have:=h x (hU ..);have:=b λr a=>h r (gX _ a);omega
theorem My:∀ins hand,(∀r∈ins,0<=r)->(hand.length:Int)=g9 ins->(jO hand ins).map (λl=>(l.length:Int))=ins/\IZ hand ins
 |[],_,_,_=>⟨rfl,trivial⟩
 |r::ins,hand,h,b=>by
  rw[C2]at b;have al:=h r (hU ..);have hp:=aD0 λr a=>h r (gX _ a);obtain⟨i1,i2⟩:=My ins (hand.drop r.toNat) (λr a=>h r (gX _ a)) (by rw[mF];omega);refine⟨?_,al,I,i2⟩;rw[jO,ec,i1,ni];congr 1;omega
structure k3(C:Nat)(b:gy):Prop where
 t8:(b3 b.tag b.a6).1=0
 ins:b.ins=(b3 b.tag b.a6).2.1
 outs:b.outs=(b3 b.tag b.a6).2.2
 st1:b.tag=1->b.st.length+1=b.a6.length
 Lg:b.tag=8\/b.tag=10->b.st.length=1
 mr:0<=b.n
 dm:b.n+C<=1000000000000
theorem k3.inv(v:k3 C b):Yf b.tag b.a6 b.ins b.outs:=by rw[v.ins,v.outs];exact aDi v.t8
theorem k3.tag{C:Nat}{b:gy}(v:k3 C b):1<=b.tag/\b.tag<=11:=by
 rcases v.inv with q|q|q|q|q|q|q|q|q|q|q<;>have:=q.1<;>omega
theorem k3.zi(v:k3 C b):∀r∈b.ins,1<=r/\r<=64:=by rw[v.ins];exact(Ld b.tag b.a6).1
theorem k3.VU(v:k3 C b):∀r∈b.outs,1<=r/\r<=64:=by rw[v.outs];exact(Ld b.tag b.a6).2
theorem aiy n m:g9 (bh n m)=n*m:=by
 induction n with
 |zero=>simp[g9]
 |succ n a=>rw[wS,C2,a];push_cast;rw[Int.add_mul];omega
theorem k3.rA(v:k3 C b):b.ins.length<=16/\b.outs.length<=16/\g9 b.outs<=64:=by
 rcases v.inv with⟨_,_,_,h1,ae⟩|⟨_,h1,ae⟩|⟨_,n,_,_,h1,ae⟩|⟨_,n,_,_,h1,ae⟩|⟨_,n,m,_,_,_,_,h1,ae⟩|⟨_,n,m,_,_,_,h,h1,ae⟩|⟨_,n,_,_,h1,ae⟩|⟨_,h1,ae⟩|⟨_,n,_,_,h1,ae⟩|⟨_,_,h1,ae⟩|⟨_,n,_,_,h1,ae⟩<;>rw[h1,ae]<;>simp[C2,aiy,show g9 []=0 from rfl];all_goals first|omega|skip
 all_goals(refine⟨I,?_⟩;exact_mod_cast h)
theorem aoE hand:∀ins,(jO hand ins).length=ins.length:=by
 intro ins;induction ins generalizing hand with
 |nil=>rfl
 |cons r ins a=>rw[jO,iv,a,iv]
theorem ajj n:∀l k U,(xT n k l U).length=U.length
 |[],_,_=>rfl
 |x::l,k,U=>by rw[xT,ajj n l];simp
theorem aji{n:Nat}(c:1<=n):∀l k U,U.length=n->(∀i,i<n->(U.getD i []).length=(k+n-1-i)/n)->∀i,i<n->((xT n k l U).getD i []).length=(k+l.length+n-1-i)/n
 |[],k,U,_,h,i,b=>h i b
 |x::l,k,U,ak,h,i,b=>by
  rw[xT,aji c l (k+1) _ (by simpa using ak) ?_ i b];rw[iv,show k+1+l.length=k+(l.length+1) by omega];intro i b;have step:(k+1+n-1-i)/n=(k+n-1-i)/n+if k%n=i then 1 else 0:=by
   obtain⟨a,r,d,rfl⟩:∃a r,r<n/\k=n*a+r:=⟨k/n,k%n,alw k c,(Nat.div_add_mod k n).symm⟩;rw[Nat.mul_add_mod,Nat.mod_eq_of_lt d,show n*a+r+1+n-1-i=n*a+(r+n-i) by omega,show n*a+r+n-1-i=n*a+(r+n-1-i) by omega,aly I,aly I];have d1:(r+n-i)/n=if i<=r then 1 else 0:=by
    split;exact X4 I I;exact L3 I
   have d2:(r+n-1-i)/n=if i+1<=r then 1 else 0:=by
    split;exact X4 I I;exact L3 I
   rw[d1,d2];split<;>split<;>split<;>omega
  rw[step];by_cases q:k%n=i;rw[aP q,cx,q,Ig I,ps,fc,h i b];rfl;rw[aD q,cx,Qo q,<-cx,h i b];rfl
theorem MT(v:k3 (C+1) b) hand(k:(hand.length:Int)=g9 b.ins):k3 C (nQ b (jO hand b.ins)).2/\(nQ b (jO hand b.ins)).2.ins=b.ins/\∀outs,(nQ b (jO hand b.ins)).1=some outs->outs.map (λl=>(l.length:Int))=b.outs:=by
 have key:((oK b (jO hand b.ins)).2.length=b.st.length)/\∀outs,(oK b (jO hand b.ins)).1=some outs->outs.map (λl=>(l.length:Int))=b.outs:=by
  obtain⟨dl,_⟩:=My b.ins hand (λr j=>by have:=v.zi r j;omega) k;have e:=aoE hand b.ins;generalize jO hand b.ins=D at dl e;have f:=v.Lg;have inv:=v.inv;obtain⟨tag,o,st,n,ins,outs⟩:=b;simp only at dl e f inv⊢;rcases inv with⟨c,_,_,h1,ae⟩|⟨c,h1,ae⟩|⟨c,n,h,_,h1,ae⟩|⟨c,n,_,_,h1,ae⟩|⟨c,n,m,_,_,_,_,h1,ae⟩|⟨c,n,m,h,_,_,_,h1,ae⟩|⟨c,n,_,_,h1,ae⟩|⟨c,h1,ae⟩|⟨c,n,_,_,h1,ae⟩|⟨c,_,h1,ae⟩|⟨c,n,_,_,h1,ae⟩;obtain rfl:tag=1:=by omega
  subst h1 ae;unfold oK;simp only;split;exact⟨bd,λU a=>by cases a;rfl⟩;exact⟨rfl,λU a=>by cases a⟩;obtain rfl:tag=8:=by omega
  subst h1 ae;unfold oK;simp only;split;exact⟨by rw[f (bW rfl)];rfl,λU a=>by cases a;rfl⟩;exact⟨rfl,λU a=>by cases a⟩;obtain rfl:tag=2:=by omega
  subst h1 ae;exact⟨rfl,λU a=>by cases a;simp;omega⟩;obtain rfl:tag=3:=by omega
  subst h1 ae;exact⟨rfl,λU a=>by cases a;rfl⟩;obtain rfl:tag=4:=by omega
  subst h1 ae;refine⟨rfl,λU a=>?_⟩;cases a;simp only[ec,x',aju,e,wR,cx];rw[zO,aP I,ps,bz,L4];obtain rfl:tag=5:=by omega
  subst h1 ae;refine⟨rfl,λU a=>?_⟩;cases a;simp only[wR];have ak:(D.getD 0 []).length=n*m:=by
   rcases D with _|⟨d,D⟩;cases dl;rw[ec]at dl;injection dl with d1 d2;show d.length=_;omega
  have each:=aji h (D.getD 0 []) 0 (bh n []) bd (λi g=>by
   rw[cx,zO,aP g,L3 I];rfl)
  have ul:=ajj n (D.getD 0 []) 0 (bh n []);rw[wR]at ul;apply List.ext_getElem (by rw[gz,ul,wR]);intro i h1 ae;have g:i<n:=by simpa using ae
  have:=each i g;rw[cx,bZ I,ps,ak]at this;rw[Dn,this,List.getElem_replicate];congr 1;rw[dM,L4];exact X4 (by rw[L4];omega) (by rw[Nat.add_mul,L4];omega);obtain rfl:tag=6:=by omega
  subst h1 ae;refine⟨rfl,λU a=>?_⟩;obtain⟨y,_,rfl⟩:=ye.1 a;rfl;obtain rfl:tag=7:=by omega
  subst h1 ae;refine⟨rfl,λU a=>?_⟩;obtain⟨y,_,rfl⟩:=ye.1 a;rfl;obtain rfl:tag=9:=by omega
  subst h1 ae;exact⟨rfl,λU a=>by cases a;simp⟩;obtain rfl:tag=10:=by omega
  subst h1 ae;unfold oK;simp only;split;exact⟨by rw[f (bl rfl)];rfl,λU a=>by cases a;rfl⟩;exact⟨rfl,λU a=>by cases a⟩;obtain rfl:tag=11:=by omega
  subst h1 ae;exact⟨rfl,λU a=>by cases a;rfl⟩
 have base:k3 (C+1) {b with st:=(oK b (jO hand b.ins)).2}:=⟨v.t8,v.ins,v.outs,λq=>by rw[<-v.st1 q];simp only[key.1],λq=>by simp only[key.1];exact v.Lg q,v.mr,v.dm⟩;unfold nQ;refine⟨?_,?_,key.2⟩;cases(oK b (jO hand b.ins)).1 with
 |none=>exact⟨base.t8,base.ins,base.outs,base.st1,base.Lg,base.mr,by have:=base.dm;simp only[IN]at this⊢;omega⟩
 |some U=>exact⟨base.t8,base.ins,base.outs,base.st1,base.Lg,by have:=base.mr;simp only[IN]at this⊢;omega,by have:=base.dm;simp only[IN]at this⊢;omega⟩
 cases(oK b (jO hand b.ins)).1<;>rfl
end Go.Sx
namespace Go.Sx
open Go.Proofs
set_option maxRecDepth 100000
set_option maxHeartbeats 0
set_option linter.all false
theorem aa7{ins:List (List Int)}{rs:List Int}(dl:ins.map (λl=>(l.length:Int))=rs){i:Nat}{r:Int}(a:rs[i]?=some r)(h1:1<=r):∃l,ins[i]?=some (oy ins i::l):=by
 subst dl;rw[dH]at a;cases b:ins[i]?with
 |none=>rw[b]at a;cases a
 |some q=>
  rw[b]at a;have a:(q.length:Int)=r:=wX a;cases q with
  |nil=>simp only[List.length_nil]at a;omega
  |cons z l=>
   refine⟨l,?_⟩;have e:ins.getD i []=z::l:=by rw[cx,b];rfl
   rw[oy,e];rfl
theorem aB7{B h:J}{bU bE:Nat}{x:gy}{C:Nat}(bx:ib B h bU bE x)(le:B.le h)(v:k3 C x) a cb D n(j:D.length=n)(g:RowsIn h a D) ins(f:D.map cY.l=ins)(dl:ins.map (λl=>(l.length:Int))=x.ins):Fn aB (O3 x.tag) #[bY bE,ab a n cb] h (tc B h bU bE {x with st:=(oK x ins).2} (oK x ins).1):=by
 have b:D.length=x.ins.length:=by
  have h1:=ee fi dl;have ae:=ee fi f;simp only[gz]at h1 ae;omega
 have s1:=v.st1;have M:=v.rA;have inv:=v.inv;obtain⟨tag,z,st,O,y,o⟩:=x;simp only at dl b s1 M inv⊢;have one:∀{r:Int}{E:List Int},y=r::E->1<=r->∃l,(D.map cY.l)[0]?=some (oy ins 0::l):=λ{r E} e K=>by
  rw[f];exact aa7 dl (i:=0) (r:=r) (by rw[e];rfl) K
 rcases inv with⟨c,_,s,h1,ae⟩|⟨c,h1,ae⟩|⟨c,m,m1,m2,h1,ae⟩|⟨c,m,m1,m2,h1,ae⟩|⟨c,m,w,m1,m2,L,F,h1,ae⟩|⟨c,m,w,m1,m2,L,F,h1,ae⟩|⟨c,m,m1,m2,h1,ae⟩|⟨c,h1,ae⟩|⟨c,m,m1,m2,h1,ae⟩|⟨c,_,h1,ae⟩|⟨c,m,m1,m2,h1,ae⟩;obtain rfl:tag=1:=by omega
 obtain⟨l,ak⟩:=one h1 aM;refine(apP bx le rfl (s1 rfl) s a cb D n j g ak).mono λv A q=>?_;unfold oK Hv at*;simp only at q⊢;cases k:yx 0 z (oy ins 0::st)<;>rw[k]at q<;>exact q;obtain rfl:tag=8:=by omega
 obtain⟨l,ak⟩:=one h1 aM;refine(aDZ bx le rfl a cb D n j g ak).mono λv A q=>?_;unfold oK Hv at*;simp only at q⊢;cases k:oV (st.getD 0 0) (oy ins 0)<;>rw[k]at q<;>exact q;obtain rfl:tag=2:=by omega
 obtain⟨l,ak⟩:=one h1 aM;have p:n=1:=by rw[h1]at b;simp at b;omega
 subst p;obtain⟨d,rfl⟩:∃d,D=[d]:=XV.1 j;have ak:d.l=oy ins 0::l:=by simpa using ak
 have:=aFE bx le m ae m1 m2 a cb d (oy ins 0) l ak g;subst ae;exact this;obtain rfl:tag=3:=by omega
 obtain⟨l,ak⟩:=one h1 I;have p:n=1:=by rw[h1]at b;simp at b;omega
 subst p;obtain⟨d,rfl⟩:∃d,D=[d]:=XV.1 j;have ak:d.l=oy ins 0::l:=by simpa using ak
 exact aoQ bx le a cb d (oy ins 0) l ak g;obtain rfl:tag=4:=by omega
 have u:∀d∈D,d.l.length=w:=λd t=>by
  have:((d.l.length:Nat):Int)∈ins.map λl=>(l.length:Int):=cU.2 ⟨d.l,by rw[<-f];exact cU.2 ⟨d,t,rfl⟩,rfl⟩;rw[dl,h1]at this;have:=(Bx.1 this).2;omega
 have H:n=m:=by rw[h1]at b;simp at b;omega
 subst H;have:=aFP bx le n w h1 ae I m2 F a cb D j g u;rw[f]at this;have e:(y.getD 0 0).toNat=w:=by rw[h1,cx,zO,aP I];simp
 unfold oK;simp only;rw[e];exact this;obtain rfl:tag=5:=by omega
 have p:n=1:=by rw[h1]at b;simp at b;omega
 subst p;obtain⟨d,rfl⟩:∃d,D=[d]:=XV.1 j;have P:d.l.length=m*w:=by
  rw[<-f,h1]at dl;have:=List.head_eq_of_cons_eq dl;simp only at this;exact_mod_cast this
 have:=aFD bx le m (by rw[ae];simp) m1 m2 a cb d g I;unfold oK;simp only;rw[<-f];have e:o.length=m:=by rw[ae];simp
 rw[e];exact this;obtain rfl:tag=6:=by omega
 have u:∀d∈D,0<d.l.length:=λd t=>by
  have:((d.l.length:Nat):Int)∈ins.map λl=>(l.length:Int):=cU.2 ⟨d.l,by rw[<-f];exact cU.2 ⟨d,t,rfl⟩,rfl⟩;rw[dl,h1]at this;have:=(Bx.1 this).2;omega
 have:=anf (r:=bY bE) bx le a cb D n j (by rw[h1]at b;simp at b;omega) g u;rw[f]at this;exact this;obtain rfl:tag=7:=by omega
 obtain⟨l,ak⟩:=one h1 aM;obtain⟨N,G⟩:=aa7 dl (i:=1) (r:=1) (by rw[h1];rfl) aM;rw[<-f]at G;have:=aBG (r:=bY bE) bx le a cb D n j g ak G;subst f;exact this;obtain rfl:tag=9:=by omega
 obtain⟨l,ak⟩:=one h1 aM;have e:o.length=m:=by rw[ae];simp
 have:=aou bx le m e m2 a cb D n j g ak;unfold oK;simp only;rw[e];exact this;obtain rfl:tag=10:=by omega
 refine(aEC (i:=ab a n cb) bx le rfl).mono λv A q=>?_;unfold oK at*;simp only at q⊢;cases k:oV (st.getD 0 0) (z.getD 1 0)<;>rw[k]at q<;>exact q;obtain rfl:tag=11:=by omega
 exact aoS bx le
end Go.Sx
namespace Go.Sx
set_option maxRecDepth 100000
set_option maxHeartbeats 0
set_option linter.all false
variable {C:Nat}{x:e1}{p:iw}
def alj(p:iw)(l:kp):Prop:=(0<=l.base/\0<=l.size/\l.base+l.size<=p.mem)/\(0<=l.at_/\l.at_<=1024)/\0<=l.bj/\l.bj<=l.size
structure qB(p:iw)(C:Nat)(x:e1):Prop where
 mem:x.mem.length=p.mem.toNat
 dc:x.lines.length=p.lines.length
 line:∀l∈x.lines,alj p l
 cL:x.cL.length=p.ins.toNat
 wr:x.wr.length=p.outs.toNat
 l3:∀w∈x.wr,w.length+64*C<=1000000000
 b7:x.fy.length=p.parts.length
 cF:x.hP.length=p.parts.length
 kt:∀b∈x.fy,k3 C b
 mB:∀i,i<x.fy.length->x.hP.getD i 0=g9 (x.fy.getD i g5).ins
 cS:x.cS.length=p.bj.toNat
 hand:x.hand.length<=64
 eE:0<=x.eE/\x.eE+C<=1000000000
structure ru(p:iw)(C:Nat)(x:e1):Prop where
 w:qB p C x
 ops:x.ops=p.ops
 st:x.nF=false
 ig:0<=x.next/\x.next<p.ops.length
theorem k3.less{b:gy}(v:k3 (C+1) b):k3 C b:=⟨v.t8,v.ins,v.outs,v.st1,v.Lg,v.mr,by have:=v.dm;omega⟩
theorem qB.less{p:iw}{C:Nat}{x:e1}(v:qB p (C+1) x):qB p C x:=⟨v.mem,v.dc,v.line,v.cL,v.wr,λw hw=>by have:=v.l3 w hw;omega,v.b7,v.cF,λb a=>(v.kt b a).less,v.mB,v.cS,v.hand,by have:=v.eE;omega⟩
theorem qB.down{p:iw}{x:e1}:∀{C:Nat},qB p C x->qB p 0 x
 |0,v=>v
 |_+1,v=>v.less.down
theorem abd:∀{outs:List (List Int)}{rs:List Int},outs.map (λl=>(l.length:Int))=rs->(outs.flatten.length:Int)=g9 rs
 |[],_,h=>by subst h;rfl
 |U::outs,_,h=>by
  subst h;rw[ec,C2,<-abd (outs:=outs) rfl,List.flatten_cons,fc];omega
theorem Jj{l:List gy}{i:Nat} h:l.getD i g5=l[i]:=by
 rw[cx,bZ h];rfl
theorem MZ{l:List kp}{i:Nat} h:l.getD i je=l[i]:=by
 rw[cx,bZ h];rfl
theorem Oo{α:Type}{l:List α}{i:Nat}{x y:α}(h:y∈l.set i x):y∈l\/y=x:=XZ h
theorem Gy{α:Type}{l:List (List α)}{a:Nat} h:l.getD a []=l[a]:=by
 rw[cx,bZ h];rfl
theorem anC{T:Int}(t:p.qy T)(v:qB p (C+1) x){i:Nat}{U:cr}(A:BL p i U):qB p C (cP x U).1:=by
 have c:=v.less;have m0:=t.m0;have m1:=t.m1;rcases A with⟨rfl,_⟩|⟨hk,a0,j,_⟩|⟨hk,a0,j,_⟩|⟨hk,a0,j,g,m⟩|⟨hk,a0,j,g,m⟩|⟨hk,a0,j,g,m⟩|⟨hk,a0,j,g,m⟩|⟨hk,a0,j,D⟩;simp only[cP];split;exact{c with eE:=by have:=v.eE;simp only;omega};exact c;all_goals
  obtain⟨k,a,b⟩:=U
  simp only at hk a0 j
  subst hk
  simp only[cP]
 exact{c with cS:=by simp only[h2];exact c.cS};exact{c with cS:=by simp only[h2];exact c.cS};simp only at g m;have d:a.toNat<x.lines.length:=by rw[v.dc];omega
 rw[MZ d];have z:=v.line _ (cG d);split;exact c;rename_i q;obtain⟨n,y,lc⟩:=z;have B:1<=x.lines[a.toNat].size:=I;refine{c with dc:=by simp only[ua,h2];exact v.dc,line:=λl ak=>?_,hand:=by simp only[ua,fc,HT];omega};rcases Oo ak with ak|rfl;exact v.line l ak;refine⟨n,⟨Int.emod_nonneg _ I,?_⟩,by simp only;omega,by simp only;omega⟩;have:=Int.emod_lt_of_pos (x.lines[a.toNat].at_+(b.toNat:Int)) (show 0<x.lines[a.toNat].size by omega);simp only;omega;simp only at g m;have d:a.toNat<x.lines.length:=by rw[v.dc];omega
 rw[MZ d];obtain⟨n,y,lc⟩:=v.line _ (cG d);split;exact c;rename_i q;refine{c with mem:=by simp only[vV,Kk];exact v.mem,dc:=by simp only[vV,h2];exact v.dc,line:=λl ak=>?_,hand:=by have:=v.hand;simp only[vV,mF];omega};rcases Oo ak with ak|rfl;exact v.line l ak;exact⟨n,y,by simp only;omega,by simp only;omega⟩;simp only at g m;split;exact c;split;exact c;refine{c with cL:=by simp only[zh,h2];exact v.cL,hand:=by simp only[zh,fc,ni];omega};simp only at g m;split;exact c;refine{c with wr:=by simp only[zt,h2];exact v.wr,l3:=λw hw=>?_,hand:=by have:=v.hand;simp only[zt,mF];omega};rcases Oo hw with hw|rfl;exact c.l3 w hw;have d:a.toNat<x.wr.length:=by rw[v.wr];omega
 have:=v.l3 _ (cG d);rw[Gy d,fc,ni];omega;have d:a.toNat<x.fy.length:=by rw[v.b7];omega
 have bv:=v.kt _ (cG d);split;rename_i q;rw[v.mB _ d]at q;rw[Jj d]at q⊢;obtain⟨f1,f2,f3⟩:=MT bv x.hand q;have u:∀f,f.ins=x.fy[a.toNat].ins->∀i,i<(x.fy.set a.toNat f).length->x.hP.getD i 0=g9 ((x.fy.set a.toNat f).getD i g5).ins:=λf o i r=>by
  have s:i<x.fy.length:=by simpa using r
  rw[v.mB i s,Jj r,Jj s,List.getElem_set];split;rename_i e;subst e;rw[o];rfl
 have aX:∀f,k3 C f->∀b∈x.fy.set a.toNat f,k3 C b:=λf o b h=>by
  rcases Oo h with h|rfl;exact c.kt b h;exact o
 split;rename_i outs f e;rw[e]at f1 f2 f3;have E:=bv.rA.2.2;have:=abd (f3 outs rfl);exact{c with b7:=by simp only[uy,h2];exact v.b7,kt:=aX _ f1,mB:=u _ f2,hand:=by simp only[uy];omega};rename_i f e;rw[e]at f1 f2;exact{c with b7:=by simp only[h2];exact v.b7,kt:=aX _ f1,mB:=u _ f2};exact c
theorem ako{T:Int}(b:p.qy T){i:Nat} a(h:p.ops[i].k≠0):i+1<p.ops.length:=by
 obtain⟨l,ak⟩:=b.last;refine wJ λq=>h ?_;have e:i=l.length:=by have:=ee fi ak;simp at this;omega
 have:p.ops[i]?=some ⟨0,0,0⟩:=by rw[ak,e,List.getElem?_append_right (dz _),wU];rfl
 rw[bZ a]at this;rw[wX this]
theorem aqS{l:List cr}{i:Nat} h:l.getD i AX=l[i]:=by
 rw[cx,bZ h];rfl
theorem ru.op(v:ru p C x):∃h,x.ops.getD x.next.toNat AX=p.ops[x.next.toNat]:=by
 have:=v.ig;have h:x.next.toNat<p.ops.length:=I;exact⟨h,by rw[v.ops];exact aqS h⟩
theorem YR{U:cr}:(cP x U).1.ops=x.ops/\(cP x U).1.nF=x.nF/\((cP x U).1.next=x.next\/(U.k=0/\(cP x U).1.next= -1)\/(U.k=2/\(cP x U).1.next=U.b-1))/\((cP x U).2=1->U.k=0)/\(U.k=0->(cP x U).2=0\/(cP x U).2=1->(cP x U).1.next= -1):=by
 obtain⟨k,a,b⟩:=U;match k with
 |0=>simp only[cP];split<;>simp
 |1=>simp[cP]
 |2=>simp only[cP];split<;>simp
 |3=>simp only[cP];split<;>simp[ua]
 |4=>simp only[cP];split<;>(try split)<;>simp[zh]
 |5=>simp only[cP];split<;>(try split)<;>simp[uy]
 |6=>simp only[cP];split<;>simp[vV]
 |n+7=>simp only[cP];split<;>simp[zt]
theorem YQ x U:(cP x U).2<=4:=by
 obtain⟨k,a,b⟩:=U;match k with
 |0=>simp only[cP];split<;>simp
 |1=>simp[cP]
 |2=>simp[cP]
 |3=>simp only[cP];split<;>simp
 |4=>simp only[cP];split<;>(try split)<;>simp
 |5=>simp only[cP];split<;>(try split)<;>simp
 |6=>simp only[cP];split<;>simp
 |n+7=>simp only[cP];split<;>simp
theorem aDS x:(iY x).2<=4:=by
 have:=YQ x (x.ops.getD x.next.toNat AX);unfold iY;simp only;split;exact this;split<;>exact this
theorem ru.step{p:iw}{T:Int}(b:p.qy T){C:Nat}{x:e1}(v:ru p (C+1) x):qB p C (iY x).1/\((iY x).2=0\/(iY x).2=1->ru p C (iY x).1):=by
 obtain⟨c,i⟩:=v.op;have f:=b.snd _ c;have a:=anC b v.w f;obtain⟨k,j,l,r,g⟩:=YR (x:=x) (U:=p.ops[x.next.toNat]);have o:=v.ig;unfold iY;rw[i];simp only;by_cases q:(cP x p.ops[x.next.toNat]).2=0\/(cP x p.ops[x.next.toNat]).2=1
 .rw[aP q];have w:qB p C {(cP x p.ops[x.next.toNat]).1 with next:=(cP x p.ops[x.next.toNat]).1.next+1}:={a with};refine⟨w,λ_=>⟨w,k.trans v.ops,j.trans v.st,?_⟩⟩;simp only;rcases l with e|⟨_,e⟩|⟨d,e⟩;rw[e];have:=ako b c (λm=>by have:=g m q;omega);omega;rw[e];omega;rw[e];rcases f with⟨h,_⟩|h|h|h|h|h|h|h;rw[h]at d;cases d;all_goals(have:=h.1;have:=h.2;omega)
 rw[aD q];split;rename_i n;exact⟨a,λh=>I⟩;exact⟨{a with},λh=>by simp only at h;omega⟩
end Go.Sx
namespace Go.Sx
open Go.Proofs
set_option maxRecDepth 100000
set_option maxHeartbeats 0
set_option linter.all false
theorem ap4{B h:J}{bU bE:Nat}{x:gy}{C:Nat}{hand:List Int}(m:ib B h bU bE x)(le:B.le h)(v:k3 (C+1) x)(k:(hand.length:Int)=g9 x.ins) ae a cb D n(b:h.le ae)(e:RowsIn ae a D)(f:D.length=n)(g:D.map cY.l=jO hand x.ins):Fn aB 89 #[bY bU,ab a n cb] ae (P' B ae bU bE (nQ x (jO hand x.ins)).2 (nQ x (jO hand x.ins)).1):=by
 obtain⟨dl,_⟩:=My x.ins hand (λr j=>by have:=v.zi r j;omega) k;have ak:D.map (λd=>(d.l.length:Int))=x.ins:=by
  refine Eq.trans ?_ dl;rw[<-g,iD];rfl
 have mr:=v.mr;have p:=v.dm;exact ap1 (m.up b) (J.le_trans le b) v.tag.1 v.tag.2 v.rA.1 v.rA.2.1 a cb D n f e ak {x with st:=(oK x (jO hand x.ins)).2} ⟨mr,by simp only;omega⟩ rfl _ λo c i=>aB7 i (J.le_trans le (J.le_trans b c)) v a cb D n f (e.mono c) _ g dl
theorem anB{p:iw}{T:Int}(G:p.qy T){B h:J}{aX:Nat}{m:fe}{C:Nat}(k:c4 B h aX m)(v:qB p (C+1) m.x){cO:Nat}{op:Int}{da:Nat}{dc:Int}(he:h cO=some (mc op da dc (ab none 0 0) 0))(s:B cO=none){i:Nat}{U:cr}(Y:BL p i U):U.k<8/\Fn aB (78+U.k) #[bY aX,.agg #[bA .u8 U.k,R U.a,R U.b],bY cO] h λ_ l=>nJ B aX cO op da dc (cP m.x U).1 (cP m.x U).2 l:=by
 have m0:=G.m0;have m1:=G.m1;have Z:=v.mem;have bL:=v.hand;have z:=v.eE;rcases Y with⟨rfl,_⟩|⟨hk,a0,o,g,f⟩|⟨hk,a0,o,g,f⟩|⟨hk,a0,o,g,f⟩|⟨hk,a0,o,g,f⟩|⟨hk,a0,o,g,f⟩|⟨hk,a0,o,g,f⟩|⟨hk,a0,o,g⟩;refine⟨bd,(ao6 k (w:=bA .u8 (0:Nat)) he s ⟨z.1,I⟩).mono λ_ l q=>?_⟩;simp only[cP];split;rename_i c;rw[aP c]at q;exact q;rename_i c;rw[aD c]at q;exact q;all_goals
  obtain⟨b0,a,b⟩:=U
  simp only at hk a0 o g
  subst hk
  obtain⟨a,rfl⟩:∃n:Nat,a=n:=⟨a.toNat,I⟩
  refine⟨bd,?_⟩
  simp only[cP,bz]
 have ay:=v.cS;exact aso k he a b a0 I;simp only at f;have ay:=v.cS;have ol:=G.op;have d:a<m.x.cS.length:=I;have e:m.x.cS.getD a 0=m.x.cS[a]:=by rw[cx,bZ d];rfl
 rw[e];exact anF k he a b a0 (by simpa using d) ⟨g,I⟩;simp only at f;have ay:=v.dc;have d:a<m.x.lines.length:=I;obtain⟨b,rfl⟩:∃n:Nat,b=n:=⟨b.toNat,I⟩;rw[MZ d,bz];obtain⟨A,E,u⟩:=v.line _ (cG d);refine(aEt k (w:=bA .u8 (3:Nat)) he s a b _ d rfl A.1 u.2 I I ⟨E.1,I⟩ ⟨u.1,I⟩ I I I).mono λ_ l q=>?_;split;rename_i c;rw[aP c]at q;exact q;rename_i c;rw[aD c]at q;exact q;simp only at f;have ay:=v.dc;have d:a<m.x.lines.length:=I;obtain⟨b,rfl⟩:∃n:Nat,b=n:=⟨b.toNat,I⟩;rw[MZ d,bz];obtain⟨A,E,u⟩:=v.line _ (cG d);refine(aqV k (w:=bA .u8 (6:Nat)) he s a b _ d rfl A.1 I I ⟨E.1,I⟩ ⟨u.1,I⟩ I I I).mono λ_ l q=>?_;split;rename_i c;rw[aP c]at q;exact q;rename_i c;rw[aD c]at q;exact q;simp only at f;have ay:=v.cL;obtain⟨b,rfl⟩:∃n:Nat,b=n:=⟨b.toNat,I⟩;rw[bz];refine(aB5 k (w:=bA .u8 (4:Nat)) he s a b I I I I).mono λ_ l q=>?_;split;rename_i c;rw[aP c]at q;exact q;rename_i c;rw[aD c]at q;split;rename_i y;rw[aP y]at q;exact q;rename_i y;rw[aD y]at q;exact q;simp only at f;have ay:=v.wr;have d:a<m.x.wr.length:=I;obtain⟨b,rfl⟩:∃n:Nat,b=n:=⟨b.toNat,I⟩;rw[bz];have O:=v.l3 _ (cG d);refine(aF7 k (w:=bA .u8 (7:Nat)) he s a b d I I I (by rw[Gy d];omega)).mono λ_ l q=>?_;split;rename_i c;rw[aP c]at q;exact q;rename_i c;rw[aD c]at q;exact q;have aj:=v.b7;have av:=v.cF;have d:a<m.x.fy.length:=I;have K:a<m.x.hP.length:=I;have bv:=v.kt _ (cG d);have t:=v.mB a d;have L:m.x.hP.getD a 0=m.x.hP[a]:=by rw[cx,bZ K];rfl
 rw[Jj d]at t⊢;rw[L]at t⊢;subst g;have go:=λj:(m.x.hand.length:Int)=m.x.hP[a]=>(My m.x.fy[a].ins m.x.hand (λr N=>by have:=bv.zi r N;omega) (j.trans t)).2;refine(call83 k (w:=bA .u8 (5:Nat)) (on:=R 0) he s a d K _ rfl I bv.tag.1 bv.tag.2 bv.rA.1 bv.rA.2.1 go (nQ m.x.fy[a] (jO m.x.hand m.x.fy[a].ins)).2 (nQ m.x.fy[a] (jO m.x.hand m.x.fy[a].ins)).1 (λj outs e=>?_) λj bU bE X ae Q cb D n P S V W=>?_).mono λ_ l q=>?_;have H:=(MT bv m.x.hand (j.trans t)).2.2 outs e;have rA:=bv.rA.2.1;refine⟨λU M=>?_,by have:=ee fi H;simp at this;omega⟩;have:=bv.VU (U.length:Int) (by rw[<-H];exact cU.2 ⟨U,M,rfl⟩);omega;exact ap4 X k.le bv (j.trans t) ae Q cb D n P S V W;by_cases j:(m.x.hand.length:Int)=m.x.hP[a];rw[aP j]at q⊢;generalize nQ m.x.fy[a] (jO m.x.hand m.x.fy[a].ins)=F at q⊢;obtain⟨r,dA⟩:=F;cases r with
 |some outs=>exact q
 |none=>exact q
 rw[aD j]at q⊢;exact q
end Go.Sx
namespace Go.Sx
set_option maxRecDepth 100000
set_option maxHeartbeats 0
set_option linter.all false
theorem Y8{x:nj}{C:Nat}(b:(b3 x.tag x.a6).1=0)(hC:C<=100000000):k3 C (z7 x):=by
 obtain⟨⟨t,e,t1,t2⟩,c,d⟩:=Wl b;have a:((x.tag.toNat:Nat):Int)=x.tag:=I;refine⟨by show(b3 (x.tag.toNat:Nat) x.a6).1=0;rw[a];exact b,by show _=(b3 (x.tag.toNat:Nat) x.a6).2.1;rw[a];rfl,by show _=(b3 (x.tag.toNat:Nat) x.a6).2.2;rw[a];rfl,λq=>?_,λq=>?_,vp _,?_⟩;have q:x.tag.toNat=1:=q;show(zo x.tag.toNat x.a6).length+1=x.a6.length;rw[q];have:=c I;simp[zo];omega;have q:x.tag.toNat=8\/x.tag.toNat=10:=q;show(zo x.tag.toNat x.a6).length=1;rcases q with q|q<;>rw[q]<;>rfl;show(0:Int)+C<=_;omega
theorem ru.start{p:iw}{T:Int}(c:p.qy T){cL:List (List Int)}(g:cL.length=p.ins.toNat){C:Nat}(hC:C<=10000000):ru p C {h8 p with cL:=cL}:=by
 have ak:(h8 p).mem.length=p.mem.toNat:=On _ _ _ bd λy a=>by have:=c.cd y a;have:=c.m0;omega
 obtain⟨l,f⟩:=c.last;refine⟨⟨ak,by simp[h8],λl ak=>?_,g,by simp[h8],λw hw=>?_,by simp[h8],by simp[h8],λb e=>?_,λi d=>?_,by simp[h8],by simp[h8],by show(0:Int)<=0;omega,by show(0:Int)+C<=_;omega⟩,rfl,rfl,vp _,by rw[f];simp[h8]⟩;simp only[h8,cU]at ak;obtain⟨y,a,rfl⟩:=ak;have:=c.cd y a;exact⟨⟨this.1,this.2.1,this.2.2.1⟩,⟨vp _,bd⟩,bd,this.2.2.2⟩;simp only[h8]at hw;rw[(Bx.1 hw).2];simp;omega;simp only[h8,cU]at e;obtain⟨y,a,rfl⟩:=e;exact Y8 (c.t8 y a) I;simp only[h8,gz]at d⊢;rw[Jj (by simpa using d),Dn,cx,dH,bZ d];rfl
end Go.Sx
namespace Go.Sx
open Go.Proofs
set_option maxRecDepth 100000
set_option maxHeartbeats 0
set_option linter.all false
abbrev tn(n:Nat):ax:=.func (.func n) #[] #[]
def aiR:List ax:=[tn 78,tn 79,tn 80,tn 81,tn 82,tn 83,tn 84,tn 85]
def Pz:Obj:=bb aiR.toArray 221 (0,0)
theorem aEB{k:Nat}(h:k<8):aiR[k]?=some (tn (78+k)):=by
 have:k=0\/k=1\/k=2\/k=3\/k=4\/k=5\/k=6\/k=7:=I;rcases this with rfl|rfl|rfl|rfl|rfl|rfl|rfl|rfl<;>rfl
theorem aEr h:Fn aB 29 #[] h λv c=>h.le c/\∃a,v=ab (some ⟨a,0,none⟩) 8 8/\h a=none/\c a=some Pz:=by
 exact b6 axx rfl (.mk λb d=>.ah ⟨J.dI d,b,rfl,d,J.b1 _ _ _⟩)
section
variable {B h:J}{aX:Nat}{m:fe}
theorem c4.aDd(k:c4 B h aX m)(oE:Int)(a:Nat)(c:Int)(b:Nat):c4 B (h.put aX (bb ({m with x:={m.x with nF:=true,oE:=oE,tL:=a,tM:=c,tI:=b}}:fe).cells.toArray 115 (0,0))) aX {m with x:={m.x with nF:=true,oE:=oE,tL:=a,tM:=c,tI:=b}}:=k.Wj m.x.hand m.aT m.ay m.x.next m.x.eE true oE a c b k.hand k.pB k.sep rfl
theorem aDP{p:iw}{T:Int}(W:p.qy T){C:Nat}(k:c4 B h aX m)(v:ru p (C+1) m.x){M:Nat}(b9:B M=some Pz):Fn aB 30 #[bY aX,ab (some ⟨M,0,none⟩) 8 8] h λv s=>∃K bt gl c1 c2 eW,v= .agg #[gl,c1,c2,eW,bA .u8 (iY m.x).2]/\B.le K/\c4 K s aX bt/\bt.x=(iY m.x).1:=by
 have kk:=v.st;have aA:=v.ig;have ol:=W.op;obtain⟨f,S⟩:∃n:Nat,m.x.next=n:=⟨m.x.next.toNat,I⟩;obtain⟨y,mQ⟩:=v.op;have X:=W.snd _ y;rw[S,bz]at y;have g:iY m.x=iY m.x:=rfl;conv at g=>rhs;unfold iY
 rw[mQ]at g;obtain⟨U,aF⟩:∃U,U=p.ops[m.x.next.toNat]'(by rw[S];exact y):=⟨_,rfl⟩;rw[<-aF]at X g;have D:p.ops[f]?=some U:=by rw[bZ y,aF];congr 2;omega
 rw[<-v.ops]at D ol;have y:f<m.x.ops.length:=by rw[v.ops];exact y
 obtain⟨l,ak,V⟩:∃l ak,cP m.x U=(l,ak):=⟨_,_,rfl⟩;dsimp only at g;rw[V]at g;dsimp only at g;have wd:((ak=0\/ak=1)/\iY m.x=({l with next:=l.next+1},ak))\/(ak=2/\iY m.x=(l,ak))\/(3<=ak/\ak<=4/\iY m.x=({l with nF:=true,oE:=f,tL:=U.k,tM:=if U.k=3\/U.k=6 then U.a else-1,tI:=ak},ak)):=by
  have aU:ak<=4:=by
   have:=YQ m.x U;rw[V]at this;exact this
  by_cases q:ak=0\/ak=1;rw[aP q]at g;exact bW ⟨q,g⟩;rw[aD q]at g;by_cases aH:ak=2;rw[aP aH]at g;exact bl (bW ⟨aH,g⟩);rw[aD aH,S]at g;exact bl (bl ⟨I,aU,g⟩)
 have Z: -1<=l.next/\l.next<=1000000:=by
  obtain⟨_,_,iB,_⟩:=YR (x:=m.x) (U:=U);rw[V]at iB;simp only at iB;rcases iB with e|⟨_,e⟩|⟨z,e⟩;omega;omega;have:0<=U.b/\U.b<=1000000:=by
   rcases X with⟨h,_⟩|h|h|h|h|h|h|h;rw[h]at z;cases z;all_goals(have:=h.1;have:=h.2;have:=W.op;omega)
  omega
 obtain⟨bR,E⟩:=k.ops.cg I;have ma:=(k.ops.mono k.le).row E (i:=f) (r:=cr.cells U) (by rw[dH,D];rfl);have F:U.k<8:=by rcases X with⟨h,_⟩|h|h|h|h|h|h|h<;>first|(rw[h];decide)|(have:=h.1;omega)
 refine b6 TZ rfl (az λgE de gm=>de _ _ _ (az λgA db ev=>az λgj c6 fD=>.hp (c5 m.x.nF) (bV k.box rfl) ?_));rw[kk];refine c6 _ _ _ (db _ _ _ (az λgk dZ ez=>.hp (ab m.cj m.x.ops.length m.bO) (bV k.box rfl) (.hp (R m.x.next) (bV k.box rfl) ?_)));rw[S];refine .m bR E (.hp [bA .u8 U.k,R U.a,R U.b] rfl (by rw[bz];exact ma) (dZ _ _ _ (az λhs dG hE=>.hp (R m.x.next) (bV k.box rfl) ?_)));rw[S];refine dG _ _ _ ?_;obtain⟨d,u,P⟩:=U;have gb:∀(e:cy)(dc:Int)(Q:k7),[0,1,4,6,7].map e=[.v (bY aX),.v (ab (some ⟨M,0,none⟩) 8 8),.p 0 0,.p 1 0,.p 2 0]->(∀e s cO,[0,4,6,7].map e=[.v (bY aX),.p 0 0,.p 1 0,.p 2 0]->nJ B aX cO f d dc l ak s->Q .normal e [.own [.v (R 0),.v (bA .u8 0),.v (R 0),.v (ab none 0 0),.v (bA .u8 0)] 113,.own [.v (bA .u8 d),.v (R u),.v (R P)] 66,.b4 cO] s)->di aB 77 (.y9 avF) Q e [.own [.v (R 0),.v (bA .u8 0),.v (R 0),.v (ab none 0 0),.v (bA .u8 0)] 113,.own [.v (bA .u8 d),.v (R u),.v (R P)] 66,.own [.v (R f),.v (bA .u8 d),.v (R dc),.v (ab none 0 0),.v (bA .u8 0)] 113] h:=by
  intro e dc Q L cM;rw[<-fK [0,1,4,6,7] e,L];refine .mk ⟨M,0,none⟩ rfl I (by simp only at F;omega) (.hp (tn (78+d)) (by rw[bz,add_lit,dM,eV];exact bV (k.le _ _ b9) (aEB F)) (.mk λcO G=>?_));obtain⟨_,arm⟩:=anB W (k.up (J.dI (U:=mc f d dc (ab none 0 0) 0) G)) v.w (cO:=cO) (op:=f) (da:=d) (dc:=dc) (J.b1 _ _ _) (J.none_le k.le G) X;rw[V]at arm;exact .ah (.mk _ arm (λv s q=>cM _ s cO rfl q))
 refine az λgZ ea g6=>?_;have last:∀(e:cy)(dc:Int),dc=(if d=3\/d=6 then u else-1)->[0,1,4,6,7].map e=[.v (bY aX),.v (ab (some ⟨M,0,none⟩) 8 8),.p 0 0,.p 1 0,.p 2 0]->gZ .normal e [.own [.v (R 0),.v (bA .u8 0),.v (R 0),.v (ab none 0 0),.v (bA .u8 0)] 113,.own [.v (bA .u8 d),.v (R u),.v (R P)] 66,.own [.v (R f),.v (bA .u8 d),.v (R dc),.v (ab none 0 0),.v (bA .u8 0)] 113] h:=by
  refineλe dc Nt L=>ea _ _ _ (az λjl fa jc=>gb e dc jl L λe s cO rE ant=>fa _ _ _ ?_);rw[<-fK [0,4,6,7] e,rE];obtain⟨K,m1,A,n,c,arb,g7,t,xC,O⟩:=ant;refine az λjV hf h6=>az λkD gK kl=>.hp (bA .u8 ak) (bV O rfl) (gK _ _ _ (fb λr8 kS rO=>?_));have fin:∀(e:cy)(ae:J)(m2:fe),[4,7].map e=[.p 0 0,.p 2 0]->c4 K ae aX m2->m2.x=(iY m.x).1->(iY m.x).2=ak->ae cO=some (mc f d dc (ab A n c) ak)->jV .normal e [.own [.v (R 0),.v (bA .u8 0),.v (R 0),.v (ab none 0 0),.v (bA .u8 0)] 113,.own [.v (bA .u8 d),.v (R u),.v (R P)] 66,.b4 cO] ae:=by
   refineλe ae m2 Y z jv asH acn=>hf _ _ _ ?_;rw[<-fK [4,7] e,Y];refine .hp [R f,bA .u8 d,R dc,ab A n c,bA .u8 ak] rfl (λo v an=>by rw[add_lit,dM];exact bV acn an) (.ah ⟨K,m2,R f,bA .u8 d,R dc,ab A n c,?_,g7,z,jv⟩);rw[asH];rfl
  rcases wd with⟨asX,j⟩|⟨rfl,j⟩|⟨Ta,aHJ,j⟩;rw[<-xC]at Z j;have H:∀(e:cy),[0,4,7].map e=[.v (bY aX),.p 0 0,.p 2 0]->di aB 77 (.cd avG) r8 e [.own [.v (R 0),.v (bA .u8 0),.v (R 0),.v (ab none 0 0),.v (bA .u8 0)] 113,.own [.v (bA .u8 d),.v (R u),.v (R P)] 66,.b4 cO] s:=by
   intro e Y;rw[<-fK [0,4,7] e,Y];exact .hp (R m1.x.next) (bV t.box rfl) (.bg (.hp aX 9 115 _ ({m1 with x:={m1.x with next:=m1.x.next+1}}:fe).cells rfl t.box rfl (rO _ _ _ _ nofun (fin _ _ _ rfl (t.Pp (m1.x.next+1) m1.x.eE) (by rw[j]) (by rw[j]) (jU.AY t _ _ _ O)))))
  rcases asX with rfl|rfl;refine az λpt N oD=>N _ _ _ (nd rfl (λ_=>?_) nofun);exact H _ rfl;refine az λpt N oD=>N _ _ _ (nd rfl (λ_=>?_) nofun);exact H _ rfl;exact rO _ _ _ _ nofun (fin _ _ m1 rfl t (by rw[j];exact xC) (by rw[j]) O);obtain⟨rfl,rfl,rfl⟩:=arb Ta;rw[<-xC]at j;have z:=t.aDd f d dc ak;have L:=jU.AY t (bb ({m1 with x:={m1.x with nF:=true,oE:=f,tL:=d,tM:=dc,tI:=ak}}:fe).cells.toArray 115 (0,0)) _ _ O;rcases(show ak=3\/ak=4 by omega)with rfl|rfl;all_goals
   refine az λpt N oD=>N _ _ _ (nd rfl (λq=>absurd q aM) (λ_=>az λtb mn wi=>mn _ _ _ (nd rfl (λ_=>?_) (λq=>absurd q aM))))
   refine .hp [R f,bA .u8 d,R dc,ab none 0 0,bA .u8 _] rfl (λo v an=>by rw[add_lit,dM];exact bV O an) (.hp aX 11 115 _ ({m1 with x:={m1.x with nF:=true}}:fe).cells rfl t.box rfl (.hp aX 12 115 _ ({m1 with x:={m1.x with nF:=true,oE:=f,tL:=d,tM:=dc,tI:=_}}:fe).cells rfl (J.b1 _ _ _) rfl (rO _ _ _ _ nofun ?_)))
   rw[sS]
   refine fin _ _ _ rfl z (by rw[j,Nt]) (by rw[j]) L
 refine az λiK eT hg=>?_;conv=>whnf
 by_cases au:d=3;rw[gG (by simp only;omega)];refine eT _ _ _ ?_;conv=>whnf
 exact last _ u (by rw[aP (bW au)]) rfl;rw[io (by simp only;omega)];refine eT _ _ _ (nd rfl (λq=>?_) (λq=>?_));have q:=q2 q;exact last _ u (by rw[aP (bl (by simp only at q;omega))]) rfl;have q:=y' q;exact last _ (-1) (by rw[aD (by rintro(e|e);exact au e;simp only at q;omega)]) rfl
end
section
variable {aX:Nat}
theorem aCG Q(e:cy) i al m0(X:c4 i al aX m0){A:Nat}(P:i A=some Pz) to{p:iw}{T:Int}(G:p.qy T) F(v0:ru p F m0.x) g halt(a:runM F m0.x to=some (g,halt))(he:[0,6,7].map e=[.v (bY aX),.v (ab (some ⟨A,0,none⟩) 8 8),.v (R to)])(M:∀d c b,halt=1->i.le c->c4 c d aX b->b.x=g->qB p 0 g->∀e,Q (.exit 0) e [] d)(N:∀e d c b,i.le c->c4 c d aX b->b.x=g->qB p 0 g->[4,5].map e=[.v (bA .u8 halt),.v (R 0)]->Q .ret e [] d):kB (λQ e L h=>di aB 41 aul Q e L h) Q e [] al:=by
 refine .mk (Nat×J×fe) [0,6,7] (λ_=>[.v (bY aX),.v (ab (some ⟨A,0,none⟩) 8 8),.v (R to)]) (λ_=>[]) (λ(f,c,b) d=>c4 c d aX b/\i.le c/\ru p f b.x/\runM f b.x to=some (g,halt)) (λ(f,_)=>f) (F,i,m0) (λ_=>rfl) ⟨X,J.le_refl _,v0,a⟩ he rfl ?_;rintro⟨f,c,b⟩ e h ⟨k,m,v,a⟩;cases f with
 |zero=>cases a
 |succ f=>
  rw[runM]at a;refine az λgZ U V=>az λiK S hg=>.hp (R b.x.eE) (bV k.box rfl) (S _ _ _ (nd rfl (λq=>?_) (λq=>?_)))
  .rw[aP (q2 q)]at a;obtain⟨o,n⟩:=v.step G;have r:=aDP G k v (m _ _ P);refine U _ _ _ (fb λjl Z B=>az λjV W h6=>.ah (.mk _ r ?_));rintro _ ae ⟨H,m2,gl,c1,c2,Y,rfl,D,E,l⟩;refine W _ _ _ ?_;have C:=aDS b.x;obtain⟨K,ak,O⟩:∃K ak,iY b.x=(K,ak):=⟨_,_,rfl⟩;rw[O]at a o n l C⊢;simp only at a o n l C⊢;have go:ak=0\/ak=1->∃y:Nat×J×fe,y.1<f+1/\c4 y.2.1 ae aX y.2.2/\i.le y.2.1/\ru p y.1 y.2.2.x/\runM y.1 y.2.2.x to=some (g,halt):=λq=>by
    rw[aP q]at a;exact⟨(f,H,m2),Nat.lt_succ_self _,E,J.le_trans m D,by rw[l];exact n q,by rw[l];exact a⟩
   rcases(show ak=0\/ak=1\/ak=2\/ak=3\/ak=4 by omega)with rfl|rfl|rfl|rfl|rfl;obtain⟨z,t,u⟩:=go (bW rfl);exact B _ _ _ _ nofun (⟨z,rfl,rfl,u,t⟩);obtain⟨z,t,u⟩:=go (bl rfl);exact B _ _ _ _ nofun (⟨z,rfl,rfl,u,t⟩);all_goals
    rw[aD I]at a
    have a:=wX a
    injection a with j s
    exact B _ _ _ _ nofun (N _ _ H m2 (J.le_trans m D) E (l.trans j) (by rw[<-j];exact o.down) (by rw[<-s];rfl))
  rw[aD (y' q)]at a;have a:=wX a;injection a with j s;exact V _ _ _ _ nofun (M _ c b s.symm m k j (by rw[<-j];exact v.w.down) _)
theorem V0{B h:J}{m:fe}(k:c4 B h aX m)(n:Nat)(Q:n<=8)(hp:0<=m.x.eE/\m.x.eE<=1000000000){p:iw}{T:Int}(G:p.qy T) F(v:ru p F m.x) d halt(u:runM F m.x (m.x.eE+n)=some (d,halt)):Fn aB 10 #[bY aX,R n] h λv g=>∃b a,v=ey #[bA .u8 halt,R 0]/\B.le b/\c4 b g aX a/\a.x=d/\qB p 0 d:=by
 refine b6 ad9 rfl (az λY E gm=>E _ _ _ (az λX D U=>D _ _ _ (az λgj z W=>az λgk C V=>?_)));conv=>whnf
 rw[io I];refine C _ _ _ (aY (λq=>I) (λ_=>z _ _ _ (az λhs A hE=>.ah (.mk _ (aEr h) ?_))));rintro _ h1 ⟨c,N,rfl,f,s⟩;refine A _ _ _ (az λZ K M=>az λiK H hg=>.hp (R m.x.eE) (bV (c _ _ k.box) rfl) (.bg (H _ _ _ (fb λP L O=>?_))));have w:=k.grow c;have y:(B.grow h h1) N=some Pz:=by
  unfold J.grow;rw[J.mw (S:=λo=>B o≠none\/h o=none) (bl f)];exact s
 refine .kY (.ah (aCG P _ (B.grow h h1) h1 m w y (m.x.eE+n) G F v d halt u rfl (λg b a t l j r i e=>?_) (λe g b a l j r i he=>?_)));refine L _ _ _ (K _ _ _ (.ah ⟨b,a,?_,J.le_trans (Cj k.le c) l,j,r,i⟩));rw[t];rfl;refine O _ _ _ _ nofun (M _ _ _ _ nofun ?_);rw[<-fK [4,5] e,he];exact .ah ⟨b,a,rfl,J.le_trans (Cj k.le c) l,j,r,i⟩
end
section
variable {B h:J}{aX:Nat}{m:fe}
theorem aAV(k:c4 B h aX m) a(i:a<m.x.wr.length)(ak:(m.x.wr.getD a []).length<=1000000000):Fn aB 34 #[gv (some ⟨aX,2,none⟩),R a] h (Dt h (m.x.wr.getD a []).length ((m.x.wr.getD a []).map R)):=by
 have g:a<m.wr.length:=by rw[<-gz (f:=cY.l),k.l3];exact i
 obtain⟨d,e⟩:∃d,m.wr[a]=d:=⟨_,rfl⟩;have s:d∈m.wr:=by rw[<-e];exact cG g
 have t:m.x.wr.getD a []=d.l:=by
  rw[<-k.l3,cx,dH,bZ g,e];rfl
 rw[t]at ak⊢;have b:=aA8 d.A d.l.length d.c d.l h (k.jT d s).one I;have p:h.cell? ((⟨m.gC,0,none⟩:aI).add (a*1))=some d.val:=by
  rw[add_lit,dM,eV];exact bV k.wr (by simp[g,e])
 refine b6 axz rfl (az λz o D=>o _ _ _ (az λy n v=>az λC j w=>?_));conv=>whnf
 rw[io I];refine .hp (nO m.gC m.wr.length) (bV k.box rfl) (j _ _ _ (aY (λq=>I) (λ_=>n _ _ _ (.hp (nO m.gC m.wr.length) (bV k.box rfl) (.mk ⟨m.gC,0,none⟩ rfl I I (.hp (ab d.A d.l.length d.c) (by rw[bz];exact p) (.ah (.mk _ b ?_))))))));rintro _ u ⟨le,A,c,rfl,r,f⟩;exact .ah ⟨le,A,c,rfl,r,f⟩
theorem Vi(k:c4 B h aX m) a(d:a<m.x.wr.length)(ak:(m.x.wr.getD a []).length<=1000000000):Fn aB 13 #[bY aX,R a] h (Dt h (m.x.wr.getD a []).length ((m.x.wr.getD a []).map R)):=by
 have b:=aAV k a d ak;refine b6 awv rfl (.ah (.mk _ b ?_));rintro _ e ⟨le,A,c,rfl,r,f⟩;exact .ah ⟨le,A,c,rfl,r,f⟩
theorem apL(k:c4 B h aX m)(a:Nat)(z:a<m.cL.length)(al:m.cL[a]=⟨none,0,[]⟩)(A:Option aI)(n c:Nat)(l:List Int)(t:bf h 1 A n (gT l))(S:n<=17592186044416):Fn aB 77 #[gv (some ⟨aX,2,none⟩),R a,ab A n c] h λv K=>v=R 0/\∃E r,B.le E/\c4 E K aX r/\r.x={m.x with cL:=m.x.cL.set a l}/\∃d,r.cL=m.cL.set a d:=by
 have ak:l.length=n:=by simpa using t.len
 refine b6 ax4 rfl ?_;have H:=k.apI z;rw[al]at H;refine az λY O gm=>O _ _ _ (az λX N T=>az λZ L W=>?_);conv=>whnf
 rw[io I];refine .hp (nO m.fG m.cL.length) (bV k.box rfl) (L _ _ _ (aY (λq=>I) (λ_=>N _ _ _ (az λgk M V=>.hp (nO m.fG m.cL.length) (bV k.box rfl) (.hp (nO m.fG m.cL.length) (bV k.box rfl) (.mk ⟨m.fG,0,none⟩ rfl I I (.hp (ab none 0 0) (by rw[bz];exact H) (.fresh (l.map R) rfl rfl rfl (by rw[<-yz];exact t.src _) (λu hu=>by obtain⟨x,_,rfl⟩:=cU.1 hu;rfl) (by unfold eD;omega) I λb f aT=>.mk ⟨m.fG,0,none⟩ rfl I I (.hp m.fG (0+a*1) 27 (m.cL.map cY.val) ((m.cL.set a ⟨b,f,l⟩).map cY.val) (by rw[add_lit,bz]) k.cL ?_ ?_)))))))));rw[dM,eV,ih _ _ _ (by rw[gz];exact z),lM];show some ((m.cL.map cY.val).set a (ab b n f))=some ((m.cL.map cY.val).set a (ab b l.length f));rw[ak];refine M _ _ _ (.b4 0 3 1 b n f (l.map R) rfl λw F P f4=>.ah ⟨rfl,?_⟩);have s:∀g,b=some g->g.block≠m.fG/\h g.block=none:=λg i=>by
  have q:=f4 g i;have ne:g.block≠m.fG:=λe=>by rw[e,J.b1]at q;cases q
  rw[J.cB _ _ ne]at q;exact⟨ne,q⟩
 have G:h.le (w.put m.fG (bb (m.cL.map cY.val).toArray 27 (0,0))):=λo U p=>by
  by_cases e:o=m.fG;subst e;rw[k.cL]at p;rw[J.b1];exact p;rw[J.cB _ _ e];exact F _ _ (by rw[J.cB _ _ e];exact p)
 have C:=k.grow G;have Q:bJ (B.grow h (w.put m.fG (bb (m.cL.map cY.val).toArray 27 (0,0)))) 3 1 b n f (l.map R):=(bJ.jS P λg i=>(s g i).1).grown λg i=>(s g i).2;have D:=C.ahY (m.cL.set a ⟨b,f,l⟩) bd (λy j=>by
  rcases XZ j with j|rfl;exact C.qK y j;refine⟨?_,?_⟩;show bf _ 1 b l.length (gT l);rw[ak];exact Q.one;show l.length<=f;rw[ak];exact aT.2)
 rw[sS,sT (F _ _ (J.b1 _ _ _))]at D;refine⟨_,_,Cj k.le G,D,?_,_,rfl⟩;simp only;rw[lM,k.rz]
theorem apK(k:c4 B h aX m)(a:Nat)(i:a<m.cL.length)(al:m.cL[a]=⟨none,0,[]⟩)(A:Option aI)(n c:Nat)(l:List Int)(t:bf h 1 A n (gT l))(g:n<=17592186044416):Fn aB 28 #[bY aX,R a,ab A n c] h λv e=>v=R 0/\∃f b,B.le f/\c4 f e aX b/\b.x={m.x with cL:=m.x.cL.set a l}/\∃d,b.cL=m.cL.set a d:=by
 have f77:=apL k a i al A n c l t g;exact b6 axw rfl (.ah (.mk _ f77 (λ_ e⟨rfl,q⟩=>.ah ⟨rfl,q⟩)))
end
end Go.Sx
namespace Go.Sx
set_option maxRecDepth 100000
set_option maxHeartbeats 0
set_option linter.all false
def core(x:e1):e1:={x with ops:=[],cS:=[],next:=0,eE:=0,nF:=false,oE:=0,tL:=0,tM:=0,tI:=0}
def fI:List cr->e1->e1×Nat
 |[],x=>(x,0)
 |U::l,x=>if(cP x U).2=0 then fI l (cP x U).1 else cP x U
def h7(ar:List (List cr)):List Int->e1->e1×Nat
 |[],x=>(x,0)
 |v::l,x=>if(fI (ar.getD v.toNat []) x).2=0 then h7 ar l (fI (ar.getD v.toNat []) x).1 else fI (ar.getD v.toNat []) x
theorem Uv ar:∀l m x,h7 ar (l++m) x=if(h7 ar l x).2=0 then h7 ar m (h7 ar l x).1 else h7 ar l x
 |[],m,x=>rfl
 |v::l,m,x=>by
  rw[List.cons_append,h7,h7];by_cases h:(fI (ar.getD v.toNat []) x).2=0;rw[aP h,aP h];exact Uv ar l m _
  grind
theorem ayT ar v x:h7 ar [v] x=fI (ar.getD v.toNat []) x:=by
 grind [h7]
def lp(to:Int):Nat->e1->(e1->Prop)->(e1×Nat->Prop)->Prop
 |0,x,E,_=>E x
 |n+1,x,E,H=>E x\/(x.eE<to/\if(iY x).2=0\/(iY x).2=1 then lp to n (iY x).1 E H else H (iY x))
section
variable {to:Int}{E x4:e1->Prop}{H k5:e1×Nat->Prop}
theorem lp.imp(a:∀y,E y->x4 y)(hH:∀r,H r->k5 r):∀{n:Nat}{x:e1},lp to n x E H->lp to n x x4 k5
 |0,_,g=>a _ g
 |n+1,x,g=>by
  rcases g with g|⟨h,g⟩;exact bW (a _ g);refine bl ⟨h,?_⟩;split at g;rename_i q;rw[aP q];exact lp.imp a hH g
  grind
theorem lp.up:∀{n m:Nat}{x:e1},lp to n x E H->n<=m->lp to m x E H
 |0,0,_,g,_=>g
 |0,m+1,_,g,_=>bW g
 |n+1,0,_,_,h=>absurd h (Nat.not_succ_le_zero _)
 |n+1,m+1,x,g,h=>by
  rcases g with g|⟨ae,g⟩;exact bW g;refine bl ⟨ae,?_⟩;split at g;rename_i q;rw[aP q];exact lp.up g (Nat.le_of_succ_le_succ h)
  grind
theorem lp.bind{m:Nat}(k:∀y,E y->lp to m y x4 H):∀{n:Nat}{x:e1},lp to n x E H->lp to (n+m) x x4 H
 |0,x,g=>by rw[dM];exact k _ g
 |n+1,x,g=>by
  rcases g with g|⟨ae,g⟩;exact(k _ g).up I;rw[Nat.add_right_comm];refine bl ⟨ae,?_⟩;split at g;rename_i q;rw[aP q];exact lp.bind k g
  grind
theorem lp.run(a:∀y,E y->¬y.eE<to):∀{n:Nat}{x:e1},lp to n x E H->∃r,runM (n+1) x to=some r/\((r.2=1/\E r.1)\/H r)
 |0,x,g=>⟨(x,1),by rw[runM,aD (a _ g)],bW ⟨rfl,g⟩⟩
 |n+1,x,g=>by
  rcases g with g|⟨ae,g⟩;exact⟨(x,1),by grind [runM],bW ⟨rfl,g⟩⟩;rw[runM,aP ae];split at g;rename_i q;rw[aP q];exact lp.run a g
  grind
theorem lp.step{n:Nat}{x:e1}(h:x.eE<to)(al:(iY x).2=0\/(iY x).2=1)(g:lp to n (iY x).1 E H):lp to (1+n) x E H:=by
 rw[vt];refine bl ⟨h,?_⟩
 grind
end
theorem anA x U(hk:3<=U.k):(cP (core x) U).2=(cP x U).2/\core (cP x U).1=(cP (core x) U).1/\((cP x U).1.ops=x.ops/\(cP x U).1.cS=x.cS/\(cP x U).1.next=x.next/\(cP x U).1.eE=x.eE/\(cP x U).1.nF=x.nF)/\((cP x U).2=0\/2<=(cP x U).2):=by
 obtain⟨k,a,b⟩:=U;have ay:k=3\/k=4\/k=5\/k=6\/∃n,k=n+7:=by
  by_cases q:7<=k;exact bl (bl (bl (bl ⟨k-7,I⟩)))
  grind
 rcases ay with rfl|rfl|rfl|rfl|⟨n,rfl⟩;by_cases q:(x.lines.getD a.toNat je).bj<b.toNat\/64<x.hand.length+b.toNat;rw[show cP x ⟨3,a,b⟩=(x,4)from aP q,show cP (core x) ⟨3,a,b⟩=(core x,4)from aP q];simp;rw[show cP x ⟨3,a,b⟩=(ua x a.toNat (x.lines.getD a.toNat je) b.toNat,0)from aD q,show cP (core x) ⟨3,a,b⟩=(ua (core x) a.toNat (x.lines.getD a.toNat je) b.toNat,0)from aD q];exact⟨rfl,rfl,⟨rfl,rfl,rfl,rfl,rfl⟩,bW rfl⟩;by_cases q:64<x.hand.length+b.toNat;rw[show cP x ⟨4,a,b⟩=(x,4)from aP q,show cP (core x) ⟨4,a,b⟩=(core x,4)from aP q];simp;by_cases c:(x.cL.getD a.toNat []).length<b.toNat;rw[show cP x ⟨4,a,b⟩=(x,2)from(aD q).trans (aP c),show cP (core x) ⟨4,a,b⟩=(core x,2)from(aD q).trans (aP c)];simp;rw[show cP x ⟨4,a,b⟩=(zh x a.toNat b.toNat,0)from(aD q).trans (aD c),show cP (core x) ⟨4,a,b⟩=(zh (core x) a.toNat b.toNat,0)from(aD q).trans (aD c)];exact⟨rfl,rfl,⟨rfl,rfl,rfl,rfl,rfl⟩,bW rfl⟩;by_cases q:(x.hand.length:Int)=x.hP.getD a.toNat 0;obtain⟨r,g,e⟩:∃r g,nQ (x.fy.getD a.toNat g5) (jO x.hand (x.fy.getD a.toNat g5).ins)=(r,g):=⟨_,_,rfl⟩;have f:cP x ⟨5,a,b⟩=match nQ (x.fy.getD a.toNat g5) (jO x.hand (x.fy.getD a.toNat g5).ins)with
  |(some outs,b)=>(uy x a.toNat b outs,0)
  |(none,b)=>({x with fy:=x.fy.set a.toNat b},3):=aP q
 have d:cP (core x) ⟨5,a,b⟩=match nQ (x.fy.getD a.toNat g5) (jO x.hand (x.fy.getD a.toNat g5).ins)with
  |(some outs,b)=>(uy (core x) a.toNat b outs,0)
  |(none,b)=>({core x with fy:=x.fy.set a.toNat b},3):=aP q
 rw[e]at f d;rw[f,d];cases r with
 |some outs=>exact⟨rfl,rfl,⟨rfl,rfl,rfl,rfl,rfl⟩,bW rfl⟩
 |none=>exact⟨rfl,rfl,⟨rfl,rfl,rfl,rfl,rfl⟩,bl (show 2<=3 by decide)⟩
 rw[show cP x ⟨5,a,b⟩=(x,4)from aD q,show cP (core x) ⟨5,a,b⟩=(core x,4)from aD q];simp;by_cases q:x.hand.length<b.toNat\/(x.lines.getD a.toNat je).size<(x.lines.getD a.toNat je).bj+b.toNat;rw[show cP x ⟨6,a,b⟩=(x,4)from aP q,show cP (core x) ⟨6,a,b⟩=(core x,4)from aP q];simp;rw[show cP x ⟨6,a,b⟩=(vV x a.toNat (x.lines.getD a.toNat je) b.toNat,0)from aD q,show cP (core x) ⟨6,a,b⟩=(vV (core x) a.toNat (x.lines.getD a.toNat je) b.toNat,0)from aD q];exact⟨rfl,rfl,⟨rfl,rfl,rfl,rfl,rfl⟩,bW rfl⟩;by_cases q:x.hand.length<b.toNat;rw[show cP x ⟨n+7,a,b⟩=(x,4)from aP q,show cP (core x) ⟨n+7,a,b⟩=(core x,4)from aP q];simp;rw[show cP x ⟨n+7,a,b⟩=(zt x a.toNat b.toNat,0)from aD q,show cP (core x) ⟨n+7,a,b⟩=(zt (core x) a.toNat b.toNat,0)from aD q];exact⟨rfl,rfl,⟨rfl,rfl,rfl,rfl,rfl⟩,bW rfl⟩
theorem aqR{pre post:List cr}{U:cr}{n:Int}(h:n=pre.length):(pre++U::post).getD n.toNat AX=U:=by
 grind
structure wO(op:Nat)(x y:e1):Prop where
 ops:y.ops=x.ops
 eE:y.eE=x.eE
 st:y.nF=x.nF
 len:y.cS.length=x.cS.length
 cS:∀i,i<op->y.cS.getD i 0=x.cS.getD i 0
theorem wO.refl op x:wO op x x:=⟨rfl,rfl,rfl,rfl,λ_ _=>rfl⟩
theorem wO.trans{op:Nat}{x y z:e1}(a:wO op x y)(b:wO op y z):wO op x z:=⟨b.ops.trans a.ops,b.eE.trans a.eE,b.st.trans a.st,b.len.trans a.len,λi c=>(b.cS i c).trans (a.cS i c)⟩
def Bo(op:Nat)(x:e1)(a:Nat)(r:e1×Nat)(y:e1):Prop:=r.2=0/\core y=r.1/\y.next=(a:Nat)/\wO op x y
def wK(r:e1×Nat)(s:e1×Nat):Prop:=s.2=r.2/\2<=s.2/\core s.1=r.1
theorem ahy to op:∀l(x:e1) pre post,(∀U∈l,3<=U.k)->x.ops=pre++(l++post)->x.next=pre.length->x.eE<to->lp to l.length x (Bo op x (pre.length+l.length) (fI l (core x))) (wK (fI l (core x)))
 |[],x,pre,post,_,_,h,_=>⟨rfl,rfl,I,wO.refl _ _⟩
 |U::l,x,pre,post,hk,e,h,hp=>by
  have o:x.ops.getD x.next.toNat AX=U:=aJ;obtain⟨g,a2,⟨p,v,w,t,s⟩,a3⟩:=anA x U (hk U (hU ..));have b:iY x=if(cP x U).2=0\/(cP x U).2=1 then({(cP x U).1 with next:=(cP x U).1.next+1},(cP x U).2)else if(cP x U).2=2 then cP x U else({(cP x U).1 with nF:=true,oE:=x.next,tL:=U.k,tM:=if U.k=3\/U.k=6 then U.a else-1,tI:=(cP x U).2},(cP x U).2):=by
   unfold iY;rw[o]
  rw[iv,vt l.length 1];rcases a3 with a3|a3;rw[aP (bW a3)]at b;refine .step hp aJ ?_;rw[b];have f:=ahy to op l {(cP x U).1 with next:=(cP x U).1.next+1} (pre++[U]) post (λU e=>hk U (gX _ e)) aJ aJ aJ;have cD:core ({(cP x U).1 with next:=(cP x U).1.next+1}:e1)=(cP (core x) U).1:=a2;rw[cD]at f;have d:fI (U::l) (core x)=fI l (cP (core x) U).1:=by grind [fI]
  rw[d];refine f.imp (λy q=>?_) λr q=>q;obtain⟨m,j,u,c⟩:=q;refine⟨m,j,aJ,⟨c.ops.trans p,c.eE.trans t,c.st.trans s,c.len.trans aJ,λi n=>(c.cS i n).trans aJ⟩⟩;have d:fI (U::l) (core x)=cP (core x) U:=by grind [fI]
  rw[d,vt];refine bl ⟨hp,?_⟩;rw[aD I]at b;by_cases ae:(cP x U).2=2;rw[aP ae]at b;rw[b,aD I];exact⟨g.symm,a3,a2⟩;rw[aD ae]at b;rw[b,aD I];exact⟨g.symm,a3,a2⟩
def F7:eJ->Prop
 |.nil=>True
 |.cons t _ b r=>t<=2048/\F7 b/\F7 r
theorem ai0:∀f,oh f->f.leaf=false->1<=fJ f
 |.nil,_,h=>by cases h
 |.cons t n b r,⟨h1,ae,c⟩,_=>by
  rw[fJ];have a:1<=(bif b.leaf then 1 else fJ b):=by
   cases ak:b.leaf with
   |true=>simp
   |false=>exact ai0 b ae ak
  have:1*1<=t.toNat*(bif b.leaf then 1 else fJ b):=lP I a;omega
theorem WL:∀f,oh f->fJ f<=2048->F7 f
 |.nil,_,_=>trivial
 |.cons t n b r,⟨h1,ae,d⟩,h=>by
  rw[fJ]at h;have c:1<=(bif b.leaf then 1 else fJ b):=by
   cases ak:b.leaf with
   |true=>simp
   |false=>exact ai0 b ae ak
  have e:t.toNat*1<=t.toNat*(bif b.leaf then 1 else fJ b):=lP (dz _) c;have a:1*(bif b.leaf then 1 else fJ b)<=t.toNat*(bif b.leaf then 1 else fJ b):=lP I (dz _);refine⟨I,?_,WL r d I⟩;cases ak:b.leaf with
  |true=>cases b with
   |nil=>trivial
   |cons=>cases ak
  |false=>
   rw[ak]at a;simp only[uA]at a;exact WL b ae aJ
theorem aFK{z:Int}(al: -9223372036854775808<=z)(h1:z<=9223372036854775807):nH z=z:=IntWalk.i64_in z ⟨al,h1⟩
theorem az0 ar(c':∀r∈ar,∀U∈r,3<=U.k) to:∀f len op cZ(x:e1) pre post,oh f->F7 f->pre.length=len->x.ops=pre++(fC ar f len op++post)->x.next=len->x.eE<to->iy f op cZ<=x.cS.length->lp to (h' ar f) x (Bo op x (len+(fC ar f len op).length) (h7 ar (gw f) (core x))) (wK (h7 ar (gw f) (core x))):=by
 intro f;induction f with
 |nil=>intro len op cZ x pre post _ _ ak e D hp ay;exact⟨rfl,rfl,by rw[D];rfl,wO.refl _ _⟩
 |cons t n b r adp TJ=>
  rintro len op cZ x pre post ⟨h1,ae,au⟩ ⟨t1,t2,t3⟩ ak e D hp ay;obtain⟨u,hu⟩:∃u,u=(bif b.leaf then(ar.getD n.toNat []).length else h' ar b):=⟨_,rfl⟩;obtain⟨w,hw⟩:∃w,w=(bif b.leaf then[n]else gw b):=⟨_,rfl⟩;have inner:∀(L h W:Nat)(y:e1)(v C:List cr),v.length=L->y.ops=v++((bif b.leaf then ar.getD n.toNat []else fC ar b L h)++C)->y.next=L->y.eE<to->iy b h W<=y.cS.length->lp to u y (Bo h y (L+(bif b.leaf then ar.getD n.toNat []else fC ar b L h).length) (h7 ar w (core y))) (wK (h7 ar w (core y))):=by
   intro L h W y v C mi A uR mR e7;cases tw:b.leaf with
   |true=>
    rw[tw]at A hu hw;rw[hu,hw];simp only[oY]at A⊢;rw[ayT];have:=ahy to h (ar.getD n.toNat []) y v C (Sf c' n.toNat) A I mR
    grind
   |false=>
    grind
  rw[iy]at ay;have g1:=Gl r op (iy b (op+fk t) (if 1<t then max cZ (op+1)else cZ));have g2:=Gl b (op+fk t) (if 1<t then max cZ (op+1)else cZ);have kv:gw (.cons t n b r)=rep t.toNat w++gw r:=by rw[gw,hw]
  have one:lp to (if 1<t then 1+t.toNat*(u+1)else u) x (Bo op x (len+(jR t op len (bif b.leaf then ar.getD n.toNat []else fC ar b (len+fk t) (op+fk t))).length) (h7 ar (rep t.toNat w) (core x))) (wK (h7 ar (rep t.toNat w) (core x))):=by
   rw[fC,kC]at e;obtain⟨g,j⟩:∃g,g=fC ar r (len+(jR t op len (bif b.leaf then ar.getD n.toNat []else fC ar b (len+fk t) (op+fk t))).length) op++post:=⟨_,rfl⟩;rw[<-j]at e;clear j;by_cases q:1<t;rw[aP q];have E:fk t=1:=by unfold fk;grind
   rw[E]at e g1 g2 ay⊢;rw[aP q]at g1 g2 ay;obtain⟨Q,X⟩:∃Q,Q=(bif b.leaf then ar.getD n.toNat []else fC ar b (len+1) (op+1)):=⟨_,rfl⟩;have Y:jR t op len Q=⟨1,op,t⟩::(Q++[⟨2,op,(len:Int)+1⟩]):=by unfold jR;grind
   rw[<-X]at e⊢;rw[Y]at e⊢;have rounds:∀(o:Nat),1<=o->o<=2048->∀y:e1,y.ops=x.ops->y.next=(len+1:Nat)->y.eE<to->y.cS.length=x.cS.length->y.cS.getD op 0=o->lp to (o*(u+1)) y (Bo op y (len+(Q.length+2)) (h7 ar (rep o w) (core y))) (wK (h7 ar (rep o w) (core y))):=by
    intro o;induction o with
    |zero=>omega
    |succ o N=>
     intro _ ag y m G J l F;have H:y.ops=(pre++[⟨1,op,t⟩])++(Q++(⟨2,op,(len:Int)+1⟩::g)):=by simp[m,e]
     have i1:=inner (len+1) (op+1) (max cZ (op+1)) y (pre++[⟨1,op,t⟩]) (⟨2,op,(len:Int)+1⟩::g) (by simp[ak]) aJ G J I;rw[<-X]at i1;have B:rep (o+1) w=w++rep o w:=rfl;rw[B,Uv,zS,vt (o*(u+1)),Nat.add_assoc];have i2:=i1.imp (x4:=Bo (op+1) y (len+1+Q.length) (h7 ar w (core y))) (k5:=wK (if(h7 ar w (core y)).2=0 then h7 ar (rep o w) (h7 ar w (core y)).1 else h7 ar w (core y))) (λy q=>q) (λs q=>by
      rw[aD (by have:=q.1;have:=q.2.1;omega)];exact q)
     refine i2.bind λc aL=>?_;obtain⟨S,P,O,a⟩:=aL;rw[aP S,<-P];have K:c.ops.getD c.next.toNat AX=⟨2,op,(len:Int)+1⟩:=by
      rw[a.ops,H,show(pre++[⟨1,op,t⟩])++(Q++(⟨2,op,(len:Int)+1⟩::g))=(pre++[⟨1,op,t⟩]++Q)++(⟨2,op,(len:Int)+1⟩::g) by simp];exact aqR (by rw[O];simp[ak];omega)
     have M:nH (c.cS.getD op 0-1)=o:=by
      rw[a.cS op I,F];rw[aFK I I];omega
     have T:op<c.cS.length:=by rw[a.len,l];omega
     have R:iY c=({c with cS:=c.cS.set op o,next:=(if(0:Int)<o then(len:Int)+1-1 else c.next)+1},0):=by
      unfold iY;rw[K];simp only[cP,bz,M];rfl
     refine .step (by grind [a.eE]) aJ ?_;rw[R];have bY:wO op y {c with cS:=c.cS.set op o,next:=(if(0:Int)<o then(len:Int)+1-1 else c.next)+1}:=⟨a.ops,a.eE,a.st,by simp[a.len],λi ai=>by
      rw[<-a.cS i I];simp only[cx,Qo (show op≠i by omega)]⟩
     by_cases Z:o=0;subst Z;rw[FV];refine⟨rfl,rfl,?_,bY⟩
     grind
     have:=N I I {c with cS:=c.cS.set op o,next:=(if(0:Int)<o then(len:Int)+1-1 else c.next)+1} (by simp[a.ops,m]) (by
      show(if(0:Int)<o then(len:Int)+1-1 else c.next)+1=_;omega) (by grind [a.eE]) (by simp[a.len,l]) (by
      show(c.cS.set op (o:Int)).getD op 0=_;rw[cx,Ig T];rfl)
     refine this.imp (λz d=>⟨d.1,d.2.1,d.2.2.1,bY.trans d.2.2.2⟩) λs p=>p
   have K:x.ops.getD x.next.toNat AX=⟨1,op,t⟩:=by
    simp[e,D,ak]
   have R:iY x=({x with cS:=x.cS.set op t,next:=x.next+1},0):=by
    unfold iY;rw[K];rfl
   refine .step hp aJ ?_;rw[R];have T:op<x.cS.length:=I;have:=rounds t.toNat I I {x with cS:=x.cS.set op t,next:=x.next+1} rfl aJ hp bd (by
    show(x.cS.set op t).getD op 0=_;rw[cx,Ig T,ps];omega)
   refine this.imp (λz d=>⟨d.1,d.2.1,by rw[d.2.2.1];simp;omega,wO.trans (y:={x with cS:=x.cS.set op t,next:=x.next+1}) ⟨rfl,rfl,rfl,bd,λi ai=>by
    simp only[cx,Qo (show op≠i by omega)]⟩ d.2.2.2⟩) λs p=>p
   rw[aD q];have aR:t.toNat=1:=I;have E:fk t=0:=by unfold fk;grind
   have B:rep 1 w=w:=by simp[rep]
   rw[E]at e g1 g2 ay⊢;rw[aR,B];unfold jR at e⊢
   grind
  rw[kv,Uv,h',<-hu];have ew:=one.imp (x4:=Bo op x (len+(jR t op len (bif b.leaf then ar.getD n.toNat []else fC ar b (len+fk t) (op+fk t))).length) (h7 ar (rep t.toNat w) (core x))) (k5:=wK (if(h7 ar (rep t.toNat w) (core x)).2=0 then h7 ar (gw r) (h7 ar (rep t.toNat w) (core x)).1 else h7 ar (rep t.toNat w) (core x))) (λy q=>q) (λs q=>by
   rw[aD (by have:=q.1;have:=q.2.1;omega)];exact q)
  refine ew.bind λy q=>?_;obtain⟨S,P,O,a⟩:=q;rw[aP S,<-P];have V:=e;rw[fC]at V;have N:=TJ (len+(jR t op len (bif b.leaf then ar.getD n.toNat []else fC ar b (len+fk t) (op+fk t))).length) op _ y (pre++jR t op len (bif b.leaf then ar.getD n.toNat []else fC ar b (len+fk t) (op+fk t))) post au t3 aJ (by simp[a.ops,V]) O (by grind [a.eE]) (by rw[a.len];exact ay);refine N.imp (λz d=>⟨d.1,d.2.1,?_,a.trans d.2.2.2⟩) λs p=>p;rw[d.2.2.1,RE];omega
def ql(ar:List (List cr))(l:List Int)(c:e1):e1×Nat:=if(h7 ar l c).2=0/\(h7 ar l c).1.hand≠[]then((h7 ar l c).1,4)else h7 ar l c
def u4(ar:List (List cr))(l:List Int):Nat->e1->e1×Nat
 |0,c=>(c,0)
 |n+1,c=>if(ql ar l c).2=0 then u4 ar l n (ql ar l c).1 else ql ar l c
theorem aBk ar(n:∀r∈ar,∀U∈r,3<=U.k) to f(hp:oh f)(m:F7 f) x(e:x.ops=fC ar f 0 0++[⟨0,0,0⟩])(i:x.next=0)(l:x.eE<to)(ay:iy f 0 0<=x.cS.length):lp to (h' ar f+1) x (λy=>(ql ar (gw f) (core x)).2=0/\core y=(ql ar (gw f) (core x)).1/\y.next=0/\y.eE=x.eE+1/\y.ops=x.ops/\y.cS.length=x.cS.length) (wK (ql ar (gw f) (core x))):=by
 have g:=az0 ar n to f 0 0 0 x [] [⟨0,0,0⟩] hp m rfl e i l ay;have g2:=g.imp (x4:=Bo 0 x (0+(fC ar f 0 0).length) (h7 ar (gw f) (core x))) (k5:=wK (ql ar (gw f) (core x))) (λy q=>q) (λs q=>by
  unfold ql;rw[aD (by have:=q.1;have:=q.2.1;omega)];exact q)
 refine g2.bind λy q=>?_;obtain⟨p,b,o,a⟩:=q;have h:y.ops.getD y.next.toNat AX=⟨0,0,0⟩:=by
  simp[a.ops,e,o]
 have j:(h7 ar (gw f) (core x)).1.hand=y.hand:=by rw[<-b];rfl
 refine bl ⟨by grind [a.eE],?_⟩;by_cases t:y.hand=[];have d:iY y=({y with eE:=y.eE+1,next:= -1+1},1):=by
  unfold iY;simp_all[h,cP]
 have c:ql ar (gw f) (core x)=h7 ar (gw f) (core x):=by
  unfold ql
  grind
 rw[d,aP (bl rfl),c];exact⟨p,b,rfl,by simp[a.eE],a.ops,a.len⟩;have d:iY y=({y with nF:=true,oE:=y.next,tL:=0,tM:= -1,tI:=4},4):=by
  unfold iY;simp_all[h,cP]
 have c:ql ar (gw f) (core x)=((h7 ar (gw f) (core x)).1,4):=by
  unfold ql
  grind
 rw[d,aD bd,c];exact⟨rfl,bd,b⟩
theorem aCP ar(l:∀r∈ar,∀U∈r,3<=U.k) f(hp:oh f)(c:F7 f):∀n x,x.ops=fC ar f 0 0++[⟨0,0,0⟩]->x.next=0->iy f 0 0<=x.cS.length->∃r,runM (n*(h' ar f+1)+1) x (x.eE+n)=some r/\core r.1=(u4 ar (gw f) n (core x)).1/\r.2=if(u4 ar (gw f) n (core x)).2=0 then 1 else(u4 ar (gw f) n (core x)).2:=by
 intro n x b a ay;have key:∀(n:Nat)(x:e1)(to:Int),x.ops=fC ar f 0 0++[⟨0,0,0⟩]->x.next=0->iy f 0 0<=x.cS.length->to=x.eE+n->lp to (n*(h' ar f+1)) x (λy=>(u4 ar (gw f) n (core x)).2=0/\core y=(u4 ar (gw f) n (core x)).1/\y.eE=to) (wK (u4 ar (gw f) n (core x))):=by
  intro n;induction n with
  |zero=>
   intro x to _ _ _ c;rw[FV];exact⟨rfl,rfl,I⟩
  |succ n p=>
   intro x to b a ay e;rw[zS,vt (n*(h' ar f+1))];have g:=aBk ar l to f hp c x b a I ay;have g2:=g.imp (x4:=λy=>(ql ar (gw f) (core x)).2=0/\core y=(ql ar (gw f) (core x)).1/\y.next=0/\y.eE=x.eE+1/\y.ops=x.ops/\y.cS.length=x.cS.length) (k5:=wK (u4 ar (gw f) (n+1) (core x))) (λy q=>q) (λs q=>by
    rw[u4,aD (by have:=q.1;have:=q.2.1;omega)];exact q)
   refine g2.bind λy q=>?_;obtain⟨o,m,u,t,v,w⟩:=q;rw[u4,aP o,<-m]
   grind
 obtain⟨r,i,q⟩:=(key n x _ b a ay rfl).run (λy q=>I);refine⟨r,i,?_⟩;rcases q with⟨h,d,j,_⟩|⟨h,d,j⟩
 grind
 grind
def J.over(a h1 h:J):J:=λo=>match a o with
 |some U=>some U
 |none=>match h1 o with
  |some _=>none
  |none=>h o
theorem Fn.frame{P:eN}{f:FuncId}{args:Array ax}{h1 h:J}{Q:ax->J->Prop}(x:Fn P f args h1 Q)(le:h1.le h):Fn P f args h λv j=>∃i,Q v i/\i.le j/\(∀o U,h1 o=none->h o=some U->j o=some U)/\∀o,i o≠none->h1 o≠none\/h o=none:=by
 refine⟨x.body,λw hw=>(x.run w (hw.mono le)).mono ?_⟩;rintro e bk ⟨v,a,k,q,ext⟩;have c3:∀{o:Nat}{U:Obj},h o=some U->o<w.heap.size:=λb=>(Array.getElem?_eq_some_iff.1 (hw _ _ b)).1;have apart:∀{o:Nat}{U:Obj},h1 o=none->h o=some U->a o=none:=λ{o U} n b=>by
  cases d:a o with
  |none=>rfl
  |some g=>
   rcases ext.fresh o (by rw[d];nofun)with q|q;exact absurd n q;have:=c3 b;omega
 refine⟨v,a.over h1 h,k,⟨a,q,λo U b=>by unfold J.over;rw[b],λo U n b=>by unfold J.over;rw[apart n b,n];exact b,λo b=>?_⟩,⟨λo U b=>?_,ext.os,ext.tape,ext.output,ext.size,λo l b=>?_,λo b=>?_⟩⟩;rcases ext.fresh o b with q|q;exact bW q;refine bl ?_;cases m:h o with
 |none=>rfl
 |some U=>have:=c3 m;omega
 unfold J.over at b;cases d:a o with
 |some g=>rw[d]at b;exact ext.hw o U (by rw[d];exact b)
 |none=>
  rw[d]at b;cases c:h1 o with
  |some g=>rw[c]at b;cases b
  |none=>
   rw[c]at b;rw[ext.frame o (c3 b) c];exact hw o U b
 refine ext.frame o l ?_;cases c:h1 o with
 |none=>rfl
 |some U=>rw[le _ _ c]at b;cases b
 unfold J.over at b;cases d:a o with
 |some g=>
  rcases ext.fresh o (by rw[d];nofun)with q|q;refine bW λn=>?_;cases c:h1 o with
  |none=>exact q c
  |some U=>rw[le _ _ c]at n;cases n
  exact bl q
 |none=>
  rw[d]at b;cases c:h1 o with
  |some g=>rw[c]at b;exact absurd rfl b
  |none=>rw[c]at b;exact bW b
theorem aho{home:List Nat}{s:List (Nat×Nat)}{hm k:Nat}{r:List Nat}(c:∀q∈r,q<=4096):∀v a,u9 home s hm k r v=some a->∀q∈a,q<=4096
 |0,a,h=>by injection h with h;subst h;exact c
 |v+1,a,h=>by
  rw[u9]at h;split at h;cases h;rename_i e h1;have d:=aho c v e h1;split at h;split at h;cases h;injection h with h;subst h;intro q b;rcases XZ b with b|rfl;exact d q b;omega;injection h with h;subst h;exact d
theorem aik{N:Nat}{ad:List bT}:∀v r,pS N ad v=some r->∀q∈r,q<=4096
 |0,r,h=>by
  rw[pS]at h;split at h;injection h with h;subst h;intro q b;rw[(Bx.1 b).2];omega;cases h
 |v+1,r,h=>by
  rw[pS]at h;split at h;cases h;rename_i c h1;have a:=aik v c h1;split at h;rw[CU]at h;split at h;cases h;exact aho a _ _ h;injection h with h;subst h;exact a
theorem aDt{N:Nat}{ad:List bT}{r:List Nat}(h:wA N ad=some r):∀q∈r,q<=4096:=by
 rw[wA]at h;split at h;split at h;cases h;rename_i a h1;split at h;injection h with h;subst h;exact aik _ _ h1;cases h;cases h
theorem YJ{N:Nat}{ad:List bT}:∀l f,(fS N ad l f).1=0->∀z∈l,0<=z/\z<N
 |[],_,_,z,a=>by cases a
 |v::l,f,h,z,a=>by
  rw[fS]at h;split at h;cases h;rename_i h1;split at h;rcases ek.1 a with rfl|a;omega;exact YJ l _ h z a;cases h
theorem ayZ{N:Nat}{ad:List bT}{aE:List Int}(h:mo N ad aE=0):aE.length<=2048/\∀z∈aE,0<=z/\z<N:=by
 have h1:(eo N ad aE).1=0:=by
  refine wJ λq=>?_;unfold mo at h;rw[aP q]at h;exact q h
 unfold eo at h1;split at h1;split at h1;cases h1;rename_i q;rw[bz]at h1;exact⟨I,YJ _ _ h1⟩;rename_i q;exact absurd h1 q
theorem aCk{α:Type}{w:List α}{x:α}(a:x∈w):∀{k:Nat},1<=k->x∈rep k w
 |k+1,_=>by rw[rep];exact Bv _ a
theorem R3{n:Nat}:∀f,oh f->(∀x∈gw f,0<=x/\x<n)->Dr n f/\vd n f=false
 |.nil,_,_=>⟨trivial,rfl⟩
 |.cons t k b r,⟨h1,ae,g⟩,h=>by
  have c:=R3 r g λx d=>h x (by rw[gw];exact List.mem_append_right _ d);have a:∀x∈(bif b.leaf then[k]else gw b),0<=x/\x<(n:Int):=λx d=>h x (by rw[gw];exact Bv _ (aCk d I));cases ak:b.leaf with
  |true=>
   rw[ak,oY]at a;have hk:=a k (FT _);have i:b= .nil:=by cases b with|nil=>rfl|cons=>cases ak
   subst i;refine⟨⟨λ_=>hk,trivial,c.1⟩,?_⟩;rw[vd,c.2,vd,ak,io I];rfl
  |false=>
   rw[ak,uA]at a;have e:=R3 b ae a;refine⟨⟨λq=>(by rw[ak]at q;cases q),e.1,c.1⟩,?_⟩;rw[vd,c.2,e.2,ak];rfl
end Go.Sx
namespace Go.Sx
open Go.Proofs
set_option maxRecDepth 100000
set_option maxHeartbeats 0
set_option linter.all false
variable {h:J}{aE:List Int}{ac bO c1 c2 cD cb:Nat}{cj dL dR gF hA iS:Option aI}
def jG(l:List Nat):List Int:=l.map λz:Nat=>(z:Int)
def Da(g:c8)(aE:List Int):Prop:=iG g≠0\/wA g.a8.length (dv g)=none\/(∃dw,wA g.a8.length (dv g)=some dw/\q' g.a8.length (dv g) dw aE=none)\/∃dw l,wA g.a8.length (dv g)=some dw/\q' g.a8.length (dv g) dw aE=some l/\(mo g.a8.length (dv g) (jG l)≠0\/∃os a dT,os.Perm (fL (dv g).length)/\p2 (kz (eo g.a8.length (dv g) (jG l)).2 (dv g).length) (lm (eo g.a8.length (dv g) (jG l)).2) (dv g).length os a dT/\1024<po a)
def aGl:Array ax:=#[R 0,ab none 0 0,ab none 0 0,ab none 0 0,ab none 0 0,ab none 0 0,R 0,R 0,R 0,R 0,R 0,ab none 0 0,ab none 0 0,ab none 0 0]
structure Dp where
 wq:Option aI
 EZ:Nat
 ar:aI
 iU:Option aI
 lc:Nat
 l:List Nat
 Iq:Option aI
 dK:Nat
 Hl:Nat
 cQ:ca
 r6:Option aI
 T:Int
 p:iw
def Dp.val(g:c8)(x:Dp):ax:=.agg #[R g.a8.length,ab x.wq (dv g).length x.EZ,ab (some x.ar) g.a8.length g.a8.length,ab x.iU x.l.length x.lc,ab x.Iq x.dK x.Hl,ab x.r6 (dv g).length (dv g).length,R x.T,R x.p.mem,R x.p.bj,R x.p.ins,R x.p.outs,ab x.p.jf x.p.parts.length x.p.cN,ab x.p.eU x.p.lines.length x.p.lc,ab x.p.cj x.p.ops.length x.p.bO]
structure zP(g:c8)(aE:List Int)(aa:J)(x:Dp):Prop where
 g0:iG g=0
 cF:bf aa 1 x.iU x.l.length (gT (jG x.l))
 nest:j5 aa x.Iq x.dK x.cQ
 bj:x.cQ.bj<=2048
 tg:H3 (jG x.l) x.cQ.bM.et
 et:x.cQ.bM.et=(qF (jG x.l)).2
 ok:x.p.ok aa
 ex:∃dw os bc dT,wA g.a8.length (dv g)=some dw/\q' g.a8.length (dv g) dw aE=some x.l/\mo g.a8.length (dv g) (jG x.l)=0/\os.Perm (fL (dv g).length)/\p2 (kz (eo g.a8.length (dv g) (jG x.l)).2 (dv g).length) (lm (eo g.a8.length (dv g) (jG x.l)).2) (dv g).length os bc dT/\x.T=po bc/\L2 g bc x.T x.cQ.bM x.p/\x.p.qy (h' (gd g) x.cQ.bM+1:Nat)
theorem Ux{N:Int}{ad:List bT}(h:mo N ad aE=0):(eo N ad aE).1=0:=by
 refine wJ λq=>?_;unfold mo at h;rw[aP q]at h;exact q h
theorem aEN{N:Int}{ad:List bT}(h:mo N ad aE=0){i:Nat} a:ad[i].start<=(lm (eo N ad aE).2).getD i 0:=by
 have h1:=Ux h;have f:=(Ku h1).1;have d:dx ad (bh N.toNat 0)∈(eo N ad aE).2:=by
  unfold eo at h1⊢;split at h1;rename_i q;rw[aP q];split at h1;cases h1;rename_i c;rw[aD c];exact hU;rename_i q;exact absurd h1 q
 have:=f.up i a _ d;have e:(dx ad (bh N.toNat 0)).getD i 0=ad[i].start:=by
  have b:∀o,(bh N.toNat (0:Int)).getD o 0=0:=λo=>by rw[cx,zO];split<;>rfl
  rw[cx,dx,dH,bZ a];simp only[rp,ps,ob,b];omega
 rw[e]at this;exact this
theorem aol{l:List Int}(h:∀z∈l,0<=z/\z<32)(ak:l.length<=2048):(qF l).1=0/\H3 l (qF l).2:=by
 have b:∀x∈l,¬vK x:=λx a q=>by have:=h x a;unfold vK at q;omega
 have:¬∃x∈l,vK x:=λ⟨x,a,q⟩=>b x a q;unfold qF;rw[aD I,aD this];exact⟨rfl,H3.of ak b⟩
theorem aBs{g:c8}(ok:g.ok h){os:List Nat}{a:List c9}{dT:List Bool}(f:mo g.a8.length (dv g) aE=0)(m:os.Perm (fL (dv g).length))(l:p2 (kz (eo g.a8.length (dv g) aE).2 (dv g).length) (lm (eo g.a8.length (dv g) aE).2) (dv g).length os a dT):a.length=g.be.length/\0<=po a/\(∀i(_:i<a.length)(_:i<g.be.length),0<=a[i].1/\a[i].1+a[i].2<=po a/\(g.be[i].n:Int)<=a[i].2)/\∀i(_:i<a.length)(_:i<g.be.length),0<=a[i].1/\0<=a[i].2/\a[i].1+a[i].2<=po a/\((g.be[i]).st.length:Int)<=a[i].2:=by
 have hp:=Ku (Ux f);have j:∀i,0<=pd (lm (eo g.a8.length (dv g) aE).2) i:=λi=>by
  by_cases q:i<(dv g).length;exact(hp.2 i q).1;unfold pd;rw[cx,l6 (by rw[hp.1.len];omega)];exact vp _
 have fin:=ahG l j m;have c:(dv g).length=g.be.length:=by simp[dv]
 have key:∀i(_:i<a.length)(_:i<g.be.length),0<=a[i].1/\a[i].1+a[i].2<=po a/\(g.be[i].n:Int)<=a[i].2:=by
  intro i b d;have e:hN a i=a[i]:=by unfold hN;rw[cx,bZ b];rfl
  have h1:=fin.base i I;have ae:=fin.size i I;rw[e]at h1 ae;refine⟨h1,ai4 (cG b),?_⟩;rw[ae];have:=aEN f (i:=i) I;have k:(dv g)[i].start=(g.be[i].n:Int):=by simp[dv,nq]
  rw[k]at this;exact this
 refine⟨by rw[<-c];exact fin.len,(ai5.1 (vp _)).1,key,λi b d=>?_⟩;have h1:=key i b d;have ae:=(ok.qI _ (cG d)).dV.len;rw[gz]at ae;exact⟨h1.1,I,h1.2.1,I⟩
theorem UF g h(ok:g.ok h)(rY:vz h) P k c2 aE(oM:bf h 1 P k (gT aE))(hk:k<=70368744177664):Fn aB 7 #[.agg g.cells.toArray,ab P k c2] h λv aa=>h.le aa/\((v=ey #[.agg aGl,c5 false]/\Da g aE)\/∃x,v=ey #[x.val g,c5 true]/\zP g aE aa x):=by
 have u:=aAs g h ok;have gc:g.cells=[.string g.dK,ab g.hA g.a8.length g.ac,ab g.gF g.be.length g.cD,ab g.dR g.ins.length g.cb,ab g.cj g.outs.length g.bO]:=rfl;rw[gc]at u⊢;refine b6 axY rfl (az λgE de gm=>de _ _ _ (az λgA db ev=>.ah (.mk _ u ?_)));rintro _ h1 ⟨c,Ho,rfl,⟨aIk,y,dK,s,rfl⟩,aA⟩;by_cases g0:iG g=0
 .obtain⟨y,s,X,pg,_⟩:=aA g0;rw[X];rw[g0];refine db _ _ _ (az λgj c6 fD=>az λgk dZ ez=>dZ _ _ _ (c6 _ _ _ (az λhs dG hE=>?_)));have df:=pg.dV (rows:=(dv g).map bT.cells) (λr Y=>by obtain⟨x,_,rfl⟩:=cU.1 Y;rfl) aM;have G:=yB g0;have Er:∀a∈g.a8,a.n<=1000:=λa aV=>by
   have h1:=Wk (G.t8 a aV);have ae:=(ok.act a aV).dV.len;rw[gz]at ae;omega
  have xe:=G.xe;have a32:=G.a32;have afc:(dv g).length=g.be.length:=by simp[dv]
  refine .ah (.mk _ (aDs g.a8.length (dv g).length s y (dv g) h1 df I (rY.mono c)) (λv2 ae⟨b,W⟩=>?_));split at W;rotate_left;rename_i d;obtain⟨b0,B7,cY,Ff,rc,Xn,kf,jo,rfl,b'⟩:=W;have bad:Da g aE:=bl (bW d);refine dG _ _ _ (az λgZ ea g6=>az λiK D hg=>?_);conv=>whnf
  by_cases t:B7=0;rw[io I];conv=>whnf
  refine D _ _ _ ?_;conv=>whnf
  rw[gG (by intro q;exact b' ⟨q,t⟩)];conv=>whnf
  exact g6 _ _ _ _ nofun (.ah ⟨J.le_trans c b,bW ⟨rfl,bad⟩⟩);rw[gG I];conv=>whnf
  exact D _ _ _ (g6 _ _ _ _ nofun (.ah ⟨J.le_trans c b,bW ⟨rfl,bad⟩⟩));rename_i dw d;obtain⟨lj,ar,rfl,m'⟩:=W;have S:=aDt d;refine dG _ _ _ (az λgZ ea g6=>az λiK D hg=>D _ _ _ (ea _ _ _ (az λjl fa jc=>.ah (.mk _ (aCE g.a8.length (dv g).length s g.a8.length g.a8.length k c2 y (some ar) P (dv g) dw aE ae (df.mono b) I m' (λq aw=>by have:=S q aw;omega) I ((oM.mono c).mono b) hk) (λv3 au⟨e,yW⟩=>?_)))));split at yW;rotate_left;rename_i o;obtain⟨dL,bN,aGR,lJ,e8,eW,cV,rfl,b'⟩:=yW;have bad:Da g aE:=bl (bl (bW ⟨dw,d,o⟩));refine fa _ _ _ (az λjV hf h6=>az λkD E kl=>?_);conv=>whnf
  by_cases t:cV=0;rw[io I];conv=>whnf
  refine E _ _ _ ?_;conv=>whnf
  rw[gG I];conv=>whnf
  exact h6 _ _ _ _ nofun (.ah ⟨J.le_trans c (J.le_trans b e),bW ⟨rfl,bad⟩⟩);rw[gG I];conv=>whnf
  exact E _ _ _ (h6 _ _ _ _ nofun (.ah ⟨J.le_trans c (J.le_trans b e),bW ⟨rfl,bad⟩⟩));rename_i l o;obtain⟨aHI,iU,lc,rfl,T⟩:=yW;refine fa _ _ _ (az λjV hf h6=>az λkD E kl=>E _ _ _ (hf _ _ _ (az λr8 kS rO=>?_)));have N:bf au 1 iU l.length ((jG l).map λz=>[R z]):=by unfold jG;rw[iD];exact T
  refine .ah (.mk _ (aBo g.a8.length (dv g).length s (dv g) y iU l.length lc (jG l) au ((df.mono b).mono e) I N (λ_=>True) λ_=>aDJ _ I _) (λv4 aU⟨m,yE,Z⟩=>?_));by_cases f:mo g.a8.length (dv g) (jG l)=0;rotate_left;rw[yE f];have bad:Da g aE:=bl (bl (bl ⟨dw,l,d,o,bW f⟩));refine kS _ _ _ (az λpt kx H=>az λtb w wi=>?_);conv=>whnf
  rw[gG f];exact w _ _ _ (H _ _ _ _ nofun (.ah ⟨J.le_trans c (J.le_trans b (J.le_trans e m)),bW ⟨rfl,bad⟩⟩));obtain⟨os,i,dT,iH,_,ff,D',atD⟩:=Z f;by_cases hI:po i<=1024;rotate_left;rw[D' I];have bad:Da g aE:=bl (bl (bl ⟨dw,l,d,o,bl ⟨os,i,dT,iH,ff,I⟩⟩));exact kS _ _ _ (az λpt kx H=>az λtb w wi=>w _ _ _ (H _ _ _ _ nofun (.ah ⟨J.le_trans c (J.le_trans b (J.le_trans e m)),bW ⟨rfl,bad⟩⟩)));obtain⟨r6,rfl,U⟩:=atD hI;refine kS _ _ _ (az λpt kx H=>az λtb w wi=>w _ _ _ (kx _ _ _ (az λBG sG CC=>.ah (.mk _ (aoo (jG l) iU l.length lc aU (N.mono m)) ?_))));rintro v5 cE ⟨F,Iq,dK,Hl,j,rfl,V,M⟩;have C:=ayZ f;have dE:g.a8.length<=32:=G.a32;obtain⟨nX,B⟩:=aol (l:=jG l) (λz a1=>⟨(C.2 z a1).1,by have:=(C.2 z a1).2;omega⟩) C.1;rw[nX];rw[<-M]at B;refine sG _ _ _ ?_;have sat:=V.sat.mono (J.sub_le _ _);have bj:j.bj<=2048:=by rw[Oe,M];exact aok _
  have A:=B.e';have tt:=B.kv;rw[EX]at A tt;have L:=(Ms A).1;have nZ:=R3 (n:=g.a8.length) j.bM L (by rw[tt];exact C.2);have K:=aBs ok f iH ff;have nY:=aal (ar:=gd g) j.bM L 0 0;have kk:=(Pt (ar:=gd g) (λr Y=>RY Y) j.bM L).1;have yY:=(Ms A).2;refine .ah (.mk _ (azc g cE ((((ok.mono c).mono b).mono e).mono (J.le_trans m F)) g0 (some r6) (dv g).length (dv g).length (po i) i (U.mono F) I I K.2.1 hI K.2.2.1 j Iq dK Hl sat A nZ.2 nZ.1 I I Er) ?_);rintro v6 e6 ⟨iz,p,rfl,Q,made⟩;have O:=ay9 g0 I K.2.1 hI K.2.2.2 A made;refine .ah ⟨J.le_trans c (J.le_trans b (J.le_trans e (J.le_trans m (J.le_trans F iz)))),bl ⟨⟨y,s,ar,iU,lc,l,Iq,dK,Hl,j,some r6,po i,p⟩,rfl,(⟨g0,(N.mono m|>.mono F).mono iz,sat.mono iz,bj,B,M,Q,dw,os,i,dT,d,o,f,iH,ff,rfl,made,O⟩)⟩⟩
 refine db _ _ _ (az λgj c6 fD=>az λgk dZ ez=>?_);conv=>whnf
 rw[gG g0];exact dZ _ _ _ (fD _ _ _ _ nofun (.ah ⟨c,bW ⟨rfl,bW g0⟩⟩))
theorem aDg(L:List (List Int)) n i a(c:i<n):(L.take i++bh (n-i) []).set i L[i]=L.take (i+1)++bh (n- (i+1)) []:=by
 have e:n-i=(n- (i+1))+1:=I;have b:(L.take i).length=i:=by simp;omega
 rw[uq _ _ I,b,wU,e,wS,List.set_cons_zero,List.take_add_one,bZ a,kC];rfl
theorem UE(p:iw)(T:Int)(h:J)(ok:p.ok h)(w:p.qy T)(z:Option aI)(O:Nat)(F:List cY)(P:bf h 1 z F.length (F.map λd=>[d.val]))(bn:∀d∈F,d.ok h/\d.l.length<=17592186044416):Fn aB 9 #[.agg p.cells.toArray,ab z F.length O] h λv b=>∃aX B m,v=bY aX/\h.le B/\c4 B b aX m/\m.x={h8 p with cL:=(F.map cY.l).take p.ins.toNat++bh (p.ins.toNat-F.length) []}:=by
 have sP:p.cells=[R p.mem,R p.bj,R p.ins,R p.outs,ab p.jf p.parts.length p.cN,ab p.eU p.lines.length p.lc,ab p.cj p.ops.length p.bO]:=rfl;have n27:=az2 p T h ok w;rw[sP]at n27⊢;refine b6 ayb rfl (az λgE de gm=>de _ _ _ (az λgA db ev=>.ah (.mk _ n27 ?_)));rintro _ h1 ⟨aX,B,m,rfl,g7,k,X,D⟩;refine db _ _ _ (az λgj Y fD=>az λgk Z ez=>Z _ _ _ (Y _ _ _ (az λhs H hE=>az λgZ ea g6=>ea _ _ _ (fb λjl K jc=>?_))));have oB:p.ins.toNat<=1000:=by have:=w.i1;omega
 have ip:(p.ins.toNat:Int)=p.ins:=by have:=w.i0;omega
 refine .kY (.ah (.mk (Nat×J×fe) [1,2,5,7] (λ(i,_,_)=>[.v (ab z F.length O),.p 0 0,.v (bY aX),.v (R i)]) (λ_=>[.own (([R p.mem,R p.bj,R p.ins,R p.outs,ab p.jf p.parts.length p.cN,ab p.eU p.lines.length p.lc,ab p.cj p.ops.length p.bO]:List ax).map .v) 42]) (λ(i,g,a) b=>c4 g b aX a/\h.le g/\i<=F.length/\i<=p.ins.toNat/\a.x={h8 p with cL:=(F.map cY.l).take i++bh (p.ins.toNat-i) []}/\a.cL.length=p.ins.toNat/\∀o(n:o<a.cL.length),i<=o->a.cL[o]=Ah) (λ(i,_,_)=>F.length-i) (0,B,m) (λ_=>rfl) ⟨k,g7,cW _,cW _,by rw[X];rfl,by rw[D];simp,λo n _=>by simp[D]⟩ rfl rfl ?_));refineλ⟨i,g,a⟩ e ae⟨r,j,W,Nl,y,pG,E⟩=>az λjV hf N=>az λkD M kl=>?_;conv=>whnf
 by_cases t:i<F.length;rw[gG I];refine M _ _ _ (nd rfl (λq=>?_) (λq=>?_));have V:(i:Int)<p.ins:=q2 q;refine hf _ _ _ (az λr8 kS rO=>fb λpt kx oD=>az λtb mn wi=>?_);obtain⟨i',C⟩:=P.cg I;have f:=J.le_trans j r.le;refine .m i' C (.hp F[i].val (by rw[bz];exact(P.mono f).one C (iP t) rfl) ?_);have G:=bn _ (cG t);refine .ah (.mk _ (apK r i I (E i I (dz _)) F[i].A F[i].l.length F[i].c F[i].l (G.1.mono f) G.2) ?_);rintro _ au ⟨rfl,Q,m3,U,e8,S,d3,s⟩;refine mn _ _ _ (oD _ _ _ _ nofun (kS _ _ _ (.bg (⟨(i+1,Q,m3),rfl,rfl,⟨e8,J.le_trans j U,I,I,?_,by rw[s];simpa using pG,λo n tu=>?_⟩,by show F.length- (i+1)<F.length-i;omega⟩))));rw[S,y];have:=aDg (F.map cY.l) p.ins.toNat i (by simpa using t) I;rw[Dn]at this;simp only[this];have e:m3.cL[o]?=(a.cL.set i d3)[o]? :=by rw[s]
 have L:o<a.cL.length:=by have b:=n;rw[s]at b;simpa using b
 rw[bZ n,Qo I,bZ L,E o L I]at e;exact wX e;have V:¬(i:Int)<p.ins:=y' q;refine N _ _ _ _ nofun ?_;have u:i=p.ins.toNat:=I;refine K _ _ _ (H _ _ _ ?_);conv=>whnf
 refine .ah ⟨aX,g,a,rfl,j,r,?_⟩;rw[y,u,wU,Nat.sub_eq_zero_of_le I];rw[io I];refine M _ _ _ (nd rfl nofun (λq=>N _ _ _ _ nofun ?_));have u:i=F.length:=I;refine K _ _ _ (H _ _ _ (.ah ⟨aX,g,a,rfl,j,r,?_⟩));rw[y,u,lN bd,lN (by simp;omega)]
def eX(hA gF dR cj iS dL:Option aI)(ac cD cb bO c1 c2:Nat):c8:=⟨⟨#[103]⟩,hA,ac,[⟨⟨#[97]⟩,2,iS,1,c1,[2]⟩,⟨⟨#[98]⟩,3,dL,1,c2,[3]⟩],gF,cD,[⟨0,0,1,0,none,0,0,[]⟩],dR,cb,[⟨⟨#[120]⟩,0,0⟩],cj,bO,[⟨⟨#[121]⟩,1,0⟩]⟩
def oW:List bT:=[⟨0,1,2,3,0⟩]
def aa5:List (List cr):=[[⟨4,0,1⟩,⟨5,0,0⟩,⟨6,0,2⟩],[⟨3,0,3⟩,⟨5,1,0⟩,⟨7,0,1⟩]]
theorem am9:iG (eX hA gF dR cj iS dL ac cD cb bO c1 c2)=0:=dC
theorem Yu:dv (eX hA gF dR cj iS dL ac cD cb bO c1 c2)=oW:=dC
theorem am7:gd (eX hA gF dR cj iS dL ac cD cb bO c1 c2)=aa5:=dC
theorem YA:wA 2 oW=some [3,2]:=by decide+kernel
theorem Yz:q' 2 oW [3,2] []=some [0,0,1,0,1]:=by decide+kernel
theorem am':mo 2 oW [0,0,1,0,1]=0:=by decide+kernel
theorem Yw:lm (eo 2 oW [0,0,1,0,1]).2=[4]:=by decide+kernel
theorem Yx:kz (eo 2 oW [0,0,1,0,1]).2 1=[]:=by decide+kernel
theorem Yy{os:List Nat}{f:List c9}{dT:List Bool}(hp:os.Perm (fL 1))(r:p2 [] [4] 1 os f dT):f=[(0,4)]:=by
 have d:os=[0]:=List.perm_singleton.1 hp;cases r with
 |nil=>cases d
 |step a aO h l=>
  rename_i g c j;have ae:g=[]/\a=0:=by
   cases g with
   |nil=>injection d with e _;exact⟨rfl,e⟩
   |cons b t=>injection d with _ e;exact absurd e bd
  obtain⟨rfl,rfl⟩:=ae;have m:c=[(0,0)]:=by
   generalize e:([]:List Nat)=i at h;cases h with
   |nil=>rfl
   |step=>exact absurd e.symm bd
  have k:aO=[]:=List.length_eq_zero_iff.1 (by have:=l.1.length_eq;simpa[jy,l']using this);subst m k;rfl
def Vg:List cr:=[⟨1,0,2⟩,⟨4,0,1⟩,⟨5,0,0⟩,⟨6,0,2⟩,⟨2,0,1⟩,⟨3,0,3⟩,⟨5,1,0⟩,⟨7,0,1⟩,⟨4,0,1⟩,⟨5,0,0⟩,⟨6,0,2⟩,⟨3,0,3⟩,⟨5,1,0⟩,⟨7,0,1⟩]
theorem Yv:fC aa5 (fY (qF [0,0,1,0,1]).2) 0 0=Vg/\iy (fY (qF [0,0,1,0,1]).2) 0 0=1:=by decide+kernel
def Vp:iw:={mem:=4,bj:=1,ins:=1,outs:=1,jf:=none,cN:=0,parts:=[⟨2,none,0,0,[2]⟩,⟨3,none,0,0,[3]⟩],eU:=none,lc:=0,lines:=[⟨0,4,none,0,0,[]⟩],cj:=none,bO:=0,ops:=Vg++[⟨0,0,0⟩]}
theorem ana:∃x,runM 200 {h8 Vp with cL:=[[7,8,9]]} 1=some (x,1)/\x.wr=[[7,0]]:=⟨_,rfl,rfl⟩
theorem aBe:∀{l:List nj},l.map (λx=>(x.tag,x.a6))=[(2,[2]),(3,[3])]->∃d a c1 c b c2,l=[⟨2,d,a,c1,[2]⟩,⟨3,c,b,c2,[3]⟩]
 |[⟨t1,d,a,c1,e⟩,⟨t2,c,b,c2,f⟩],h=>by
  simp only[ec,x',zN,wZ,and_true]at h;obtain⟨⟨rfl,rfl⟩,rfl,rfl⟩:=h;exact⟨d,a,c1,c,b,c2,rfl⟩
theorem ayR:∀{l:List iU},l.map (λx=>(x.base,x.size,x.st))=[(0,4,[])]->∃d b c1,l=[⟨0,4,d,b,c1,[]⟩]
 |[⟨e,s1,a,c,d1,st1⟩],h=>by
  simp only[ec,x',zN,wZ,and_true]at h;obtain⟨rfl,rfl,rfl⟩:=h;exact⟨a,c,d1,rfl⟩
theorem anb{i:J}{x:Dp}(m:zP (eX hA gF dR cj iS dL ac cD cb bO c1 c2) [] i x):h8 x.p=h8 Vp/\x.p.ins=1/\x.p.outs=1/\∃T,x.p.qy T:=by
 obtain⟨_,_,_,_,_,b,_,dw,os,f,dT,e,d,s,g,a,j,k,h⟩:=m;rw[Yu]at e d g a;have f1:dw=[3,2]:=(wX (YA.symm.trans e)).symm;subst f1;have f2:x.l=[0,0,1,0,1]:=(wX (Yz.symm.trans d)).symm;rw[f2]at a b;have f3:f=[(0,4)]:=Yy (os:=os) (dT:=dT) g (by
  have q:p2 (kz (eo (2:Nat) oW (jG [0,0,1,0,1])).2 oW.length) (lm (eo (2:Nat) oW (jG [0,0,1,0,1])).2) 1 os f dT:=a;rw[show lm (eo (2:Nat) oW (jG [0,0,1,0,1])).2=[4]from Yw,show kz (eo (2:Nat) oW (jG [0,0,1,0,1])).2 oW.length=[]from Yx]at q;exact q)
 subst f3;obtain⟨m1,m2,m3,m4,m5,m6,m7⟩:=k;have c:x.cQ.bM=fY (qF [0,0,1,0,1]).2:=by rw[<-EX x.cQ.bM,b];rfl
 rw[am7,c,Yv.1]at m7;rw[c,Yv.2]at m2;refine⟨?_,m3,m4,_,h⟩;rw[j]at m1;generalize x.p=p at*;obtain⟨mem,bj,ins,outs,jf,cN,parts,eU,lc,lines,cj,bO,ops⟩:=p;have m1:mem=4:=m1;have m2:bj=1:=m2;have m3:ins=1:=m3;have m4:outs=1:=m4;have m5:parts.map (λx=>(x.tag,x.a6))=[(2,[2]),(3,[3])]:=m5;have m6:lines.map (λx=>(x.base,x.size,x.st))=[(0,4,[])]:=m6;have m7:ops=Vg++[⟨0,0,0⟩]:=m7;subst m1 m2 m3 m4 m7;obtain⟨v,o,c1,u,r,c2,rfl⟩:=aBe m5;obtain⟨n,t,d1,rfl⟩:=ayR m6;rfl
abbrev tf(l:List ax)(t:Nat):Obj:=bb l.toArray t (0,0)
def CK:Obj:=tf [R 2] 3
def E5:Obj:=tf [R 3] 3
def Hx(a b:Nat):Obj:=tf [.string ⟨#[97]⟩,bA .u8 2,ab (some ⟨a,0,none⟩) 1 1,.string ⟨#[98]⟩,bA .u8 3,ab (some ⟨b,0,none⟩) 1 1] 96
def KI:Obj:=tf [R 0,R 0,R 1,R 0,ab none 0 0] 98
def ON:Obj:=tf [.string ⟨#[120]⟩,R 0,R 0] 100
def Ve:Obj:=tf [.string ⟨#[121]⟩,R 1,R 0] 100
def vI(b:Nat):Option aI:=some ⟨b,0,none⟩
def aT(h:J)(a b c e d f:Nat):J:=(((((h.put a CK).put b E5).put c (Hx a b)).put e KI).put d ON).put f Ve
theorem arh{b c e f g i:Nat}(p:h b=none)(o:(h.put b CK) c=none)(s:((h.put b CK).put c E5) e=none)(u:(((h.put b CK).put c E5).put e (Hx b c)) f=none)(w:((((h.put b CK).put c E5).put e (Hx b c)).put f KI) g=none)(y:(((((h.put b CK).put c E5).put e (Hx b c)).put f KI).put g ON) i=none):h.le (aT h b c e f g i)/\(eX (vI e) (vI f) (vI g) (vI i) (vI b) (vI c) 2 1 1 1 1 1).ok (aT h b c e f g i):=by
 have j:J.le _ (aT h b c e f g i):=J.dI y;have n:=J.le_trans (J.dI (U:=ON) w) j;have l:=J.le_trans (J.dI (U:=KI) u) n;have m:=J.le_trans (J.dI (U:=Hx b c) s) l;have k:=J.le_trans (J.dI (U:=E5) o) m;have v:=J.le_trans (J.dI (U:=CK) p) k;have r:=k _ _ (J.b1 h b CK);have q:=m _ _ (J.b1 _ c E5);have t:=l _ _ (J.b1 _ e (Hx b c));have x:=n _ _ (J.b1 _ f KI);have z:=j _ _ (J.b1 _ g ON);have A:aT h b c e f g i i=some Ve:=J.b1 _ i Ve;refine⟨v,(by decide:(1:Nat)<=4611686018427387904),bf.lit t rfl (by simp[eX,iC.cells]) rfl,?_,bf.lit x rfl (by simp[eX,GE.cells]) rfl,?_,bf.lit z rfl (by simp[eX,l5.cells]) rfl,?_,bf.lit A rfl (by simp[eX,l5.cells]) rfl,?_⟩;intro a d;simp only[eX,ek,ya,or_false]at d;rcases d with rfl|rfl;exact⟨bf.lit r rfl bd rfl,(by decide:(1:Nat)*8<=140737488355328),(by decide:(1:Nat)<=4611686018427387904)⟩;exact⟨bf.lit q rfl bd rfl,(by decide:(1:Nat)*8<=140737488355328),(by decide:(1:Nat)<=4611686018427387904)⟩;intro a d;simp only[eX,ek,ya,or_false]at d;subst d;exact⟨bf.nil _ _ _,(by decide:(0:Nat)*8<=140737488355328)⟩;intro a d;simp only[eX,ek,ya,or_false]at d;subst d;exact(by decide:(1:Nat)<=4611686018427387904);intro a d;simp only[eX,ek,ya,or_false]at d;subst d;exact(by decide:(1:Nat)<=4611686018427387904)
theorem am8:¬Da (eX hA gF dR cj iS dL ac cD cb bO c1 c2) []:=by
 unfold Da;rw[Yu];have es:wA (eX hA gF dR cj iS dL ac cD cb bO c1 c2).a8.length oW=some [3,2]:=YA;have d:q' (eX hA gF dR cj iS dL ac cD cb bO c1 c2).a8.length oW [3,2] []=some [0,0,1,0,1]:=Yz;rw[es];rintro(q|q|⟨dw,b,a⟩|⟨dw,l,b,a,c⟩);exact q am9;cases q;cases b;rw[d]at a;cases a;cases b;rw[d]at a;cases a;rcases c with c|⟨os,f,dT,g,h,e⟩;exact c am';have q:p2 (kz (eo (2:Nat) oW (jG [0,0,1,0,1])).2 oW.length) (lm (eo (2:Nat) oW (jG [0,0,1,0,1])).2) 1 os f dT:=h;rw[show lm (eo (2:Nat) oW (jG [0,0,1,0,1])).2=[4]from Yw,show kz (eo (2:Nat) oW (jG [0,0,1,0,1])).2 oW.length=[]from Yx]at q;rw[Yy g q]at e;exact absurd e aM
theorem IH h(rY:vz h):Fn aB 8 #[] h λv K=>v=c5 true/\h.le K:=by
 refine b6 ax7 rfl (az λgE V gm=>V _ _ _ (az λgA S ev=>S _ _ _ (az λgj M fD=>.mk λL X=>.mk λO eu=>.mk λhd qP=>.mk λlr yE=>.mk λlQ s=>.mk λqC t=>?_)));have z:=arh X eu qP yE s t;refine .ah (.mk _ (UF _ (aT h L O hd lr lQ qC) z.2 (rY.mono z.1) none 0 0 [] (bf.nil _ _ _) aM) ?_);rintro _ h1 ⟨N,⟨_,bad⟩|⟨x,rfl,mk⟩⟩;exact absurd bad am8;obtain⟨kg,C,I,T,j⟩:=anb mk;refine M _ _ _ (az λgk Q ez=>az λhs P hE=>P _ _ _ (Q _ _ _ (az λgZ Z g6=>.mk λa u=>.mk λg w=>?_)));have D:J.le _ ((h1.put a (tf [R 7,R 8,R 9] 3)).put g (tf [ab (vI a) 3 3] 27)):=J.dI w;have G:((h1.put a (tf [R 7,R 8,R 9] 3)).put g (tf [ab (vI a) 3 3] 27)) g=some (tf [ab (vI a) 3 3] 27):=J.b1 _ _ _;have tj:=D _ _ (J.b1 h1 a (tf [R 7,R 8,R 9] 3));have e:=J.le_trans (J.dI (U:=tf [R 7,R 8,R 9] 3) u) D;refine .ah (.mk _ (UE x.p T _ (mk.ok.mono e) j (vI g) 1 [⟨vI a,3,[7,8,9]⟩] (bf.lit G rfl (by simp[cY.val]) rfl) (λd E=>?_)) ?_);rw[hV]at E;subst E;exact⟨bf.lit tj rfl (by simp[gT]) rfl,(by decide:(3:Nat)<=17592186044416)⟩;rintro _ ae ⟨aX,B,m,rfl,g7,k,b⟩;have v0:ru x.p 200 m.x:=by rw[b];exact ru.start j (by rw[C];rfl) aM
 rw[kg,C]at b;have b:m.x={h8 Vp with cL:=[[7,8,9]]}:=b;obtain⟨uf,ff,n⟩:=ana;refine Z _ _ _ (az λiK Y hg=>az λjl fa jc=>fa _ _ _ (Y _ _ _ (az λjV hf h6=>.ah (.mk _ (V0 k 1 aM (by rw[b];decide) j 200 v0 uf 1 (by rw[b];exact ff)) ?_))));rintro _ au ⟨Bi,m3,rfl,H,F,l,_⟩;refine hf _ _ _ (az λkD gK kl=>?_);conv=>whnf
 rw[gG rfl];refine .ah (.mk _ (Vi F 0 (by rw[l,n];decide) (by rw[l,n];decide)) ?_);rw[l,n];intro v r o;obtain⟨W,A,c,rfl,q⟩:=o.dV;refine .mk λi y=>?_;have f:r.le (r.put i (tf [R 7,R 0] 3)):=J.dI y;refine .ah (.mk _ (aC4 A (vI i) 2 2 c 2 [7,0] [7,0] _ (q.mono f) (bf.lit (cs:=[R 7,R 0]) (J.b1 r i _) rfl bd rfl) aM) ?_);rintro _ cE ⟨rfl,rfl⟩;exact gK _ _ _ (.ah ⟨rfl,J.le_trans z.1 (J.le_trans N (J.le_trans e (J.le_trans g7 (J.le_trans H (J.le_trans F.le (J.le_trans W f))))))⟩)
theorem zP.DR{g:c8}{x:Dp}(m:zP g aE h x):x.p.qy (h' (gd g) x.cQ.bM+1:Nat):=by
 obtain⟨_,_,_,_,_,_,_,_,_,_,_,a⟩:=m.ex;exact a
structure XE(g:c8):Prop where
 a6:∀a∈g.a8,∀z∈a.a6,Dv z
 st:∀e∈g.be,∀z∈e.st,Dv z
end Go.Sx
namespace Go.Proofs.YtlbdbpaelcnfgaaGreatDoor
open Go.Sx Go.RowKit Go.ChangeShapes Go.WideShapes
set_option maxRecDepth 100000
theorem Tryz.own:ownKnob Tryz.prog.godebug=none:=dC
theorem Tryz.laidOut:laidOutB aB=true:=e2
theorem anR:Tryz.prog.bytesOf 3=8:=dC
section
variable {H:Type}{enc:fR×ax->H}{P:eN}
theorem KJ{α:Type}{cells:α->List ax}{size:Nat}{W:bw}{spare:Nat->Bool}{held:Bool}{t e s:Nat}{v:ax}{x:qx H×List vs}(Ok:α->qx H->Prop)(G:∀a,(cells a).length=size)(C:P.underlying t=some (.slice e))(hC:P.cellsOf e=size)(L:∀s cs y,x3 enc P W 0 spare held s e cs=some y->∃a,cs=cells a/\Ok a y.1)(h:x3 enc P W 0 spare held s t [v]=some x):∃(A:Option aI)(n cap:Nat)(l:List α),v= .slice A n cap/\bf (J.of W) size A n (l.map cells)/\n<=cap/\∀a∈l,∃y,Ok a y/\∀k∈y.weights P e,k∈x.1.weights P t:=by
 rcases P5 C h with⟨p,Q⟩|⟨a,len,cap,elems,U,n,rfl,m,rfl,S,ak,hm,E,N,_⟩;injection p with p;exact⟨none,0,0,[],p,bf.nil _ _ _,dz _,nofun⟩;injection m with m;obtain⟨l,O,w⟩:=Mt (λi(b:α)=>(∀o u,(cells b)[o]?=some u->W.cell? (a.add (i*size+o))=some u)/\∃y∈elems,Ok b y.1) len λi c=>by
  have hk:=N i c;rw[bZ I,hC]at hk;obtain⟨V,ay,D⟩:=wW.1 hk;obtain⟨b,rfl,j⟩:=L _ _ _ D;obtain⟨_,X,M⟩:=am0 ay;refine⟨b,λo u hu=>?_,_,cG I,j⟩;have B:=(List.getElem?_eq_some_iff.1 hu).1;rw[G]at B;have:=M o B;rw[vH]at this
  grind
 refine⟨some a,len,cap,l,m,⟨aJ,λr f=>?_,λ_=>⟨a,rfl⟩,λg d i r f o u hu=>?_⟩,ak,λb K=>?_⟩
 grind
 injection d with d;subst d;rw[dH]at f;obtain⟨b,F,rfl⟩:=ye.1 f;exact OJ ((w i b F).1 o u hu);obtain⟨i,c,rfl⟩:=oe K;obtain⟨_,y,R,j⟩:=w i _ (bZ c);refine⟨y.1,j,λk hk=>?_⟩;simp only[zD,C];refine gX _ (Bv _ ?_);have:∀(l:List (qx H)),y.1∈l->k∈aka P e l:=by
  intro l;induction l with
  |nil=>simp
  |cons z l T=>
   intro q;rw[aka]
   grind
 grind
end
section
variable {H:Type}{enc:fR×ax->H}
theorem KK{W:bw}{p:Nat}{v:ax}{x:qx H×List vs}(h:x3 enc aB W 0 (λ_=>true) true p 27 [v]=some x):∃(A:Option aI)(n cap:Nat)(l:List Int),v= .slice A n cap/\bf (J.of W) 1 A n (l.map λz=>[R z])/\(∀z∈l,Dv z)/\∀B,(∀k∈x.1.weights aB 27,k<=B)->n*8<=B:=by
 obtain⟨A,n,cap,l,rfl,ae,_,el,sp,b⟩:=aAN Me vy dC h;refine⟨A,n,cap,l,rfl,ae,λz e=>?_,λB j=>?_⟩;obtain⟨i,g,rfl⟩:=oe e;have s:l.length=n:=by simpa using ae.len
 rcases P5 Me h with⟨C,_⟩|⟨a,len,u,elems,w,m,_,c,_,_,_,_,ak,r,_⟩
 grind
 injection c with c;injection c with aT f _;subst aT f;have hk:=r i I;rw[bZ I]at hk;obtain⟨y,ay,d⟩:=wW.1 hk;obtain⟨t,rfl,_,wf⟩:=Bm vy d;obtain⟨_,D,q⟩:=am0 ay;have al:=ae.cell a rfl i _ (by rw[dH,bZ g];rfl) 0 _ rfl;have h1:=OJ (q 0 Nat.one_pos);rw[vH,(by rfl:Tryz.prog.cellsOf 3=1),al]at h1;injection h1 with h1;injection h1 with _ h1;subst h1;simp only[Lit.wf,Bool.and_eq_true,decide_eq_true_eq]at wf;exact wf;rcases b with⟨b,o⟩|⟨b,o⟩;have:=j ((el.length+sp.length)*8) (by simp[b,zD,Me,anR]);omega;omega
theorem three{α:Type}:∀{l:List α},l.length=3->∃a b c,l=[a,b,c]
 |[a,b,c],_=>⟨a,b,c,rfl⟩
theorem MU{α:Type}:∀{l:List α},l.length=5->∃a b c d e,l=[a,b,c,d,e]
 |[a,b,c,d,e],_=>⟨a,b,c,d,e,rfl⟩
theorem part{P:eN}{a:Array Field}{W:bw}{n:Nat}{cs:List ax}{aO:List (qx H×List vs)}(b:∀(i:Nat)(f:Field),a[i]?=some f->x3 enc P W 0 (λ_=>true) true n f.type ((cs.drop f.offset).take (P.cellsOf f.type))=aO[i]?)(o t off:Nat)(c:∃f,a[o]?=some f/\f.type=t/\f.offset=off)(ay:P.cellsOf t=1):x3 enc P W 0 (λ_=>true) true n t ((cs.drop off).take 1)=aO[o]? :=by
 grind
def mX:Nat:=140737488355328
theorem aCx{W:bw}(u:Nat)(cs:List ax)(y:qx H×List vs)(h:x3 enc aB W 0 (λ_=>true) true u 96 cs=some y):∃a:iC,cs=a.cells/\((∀k∈y.1.weights aB 96,k<=mX)->a.ok (J.of W))/\∀z∈a.a6,Dv z:=by
 obtain⟨aO,F,_,o,C,x,e⟩:=LI amJ h;obtain⟨q,c1,c2,rfl⟩:=three (C.trans (by rfl:Tryz.prog.cellsOf 96=3));obtain⟨i,f,g,rfl⟩:=three x;have r:_=some i:=part e 0 9 0 ⟨_,rfl,rfl,rfl⟩ dC;have m:_=some f:=part e 1 94 1 ⟨_,rfl,rfl,rfl⟩ dC;have j:_=some g:=part e 2 27 2 ⟨_,rfl,rfl,rfl⟩ dC;obtain⟨s,d,a',D⟩:=Xu BO r;obtain⟨z,b,_⟩:=Bm Tryz.underlying94 m;obtain⟨A,n,c,l,p,t,B,hw⟩:=KK (v:=c2) j;injection d with d;injection b with b;have d:q= .string s:=d;have b:c1= .int .u8 z:=b;subst d b p;have w:y.1.weights aB 96=i.1.weights aB 9++(f.1.weights aB 94++(g.1.weights aB 27++[])):=by simp[o,zD,H4,amJ]
 rw[w];refine⟨⟨s,z,A,n,c,l⟩,rfl,λhk=>⟨t,hw _ λk E=>hk k aJ,?_⟩,B⟩;have:=hk s.size (by simp[a',zD]);unfold mX at this
 grind
theorem aCy{W:bw}(F:Nat)(cs:List ax)(y:qx H×List vs)(h:x3 enc aB W 0 (λ_=>true) true F 98 cs=some y):∃a:GE,cs=a.cells/\((∀k∈y.1.weights aB 98,k<=mX)->a.ok (J.of W))/\∀z∈a.st,Dv z:=by
 obtain⟨aO,O,_,u,L,I,b⟩:=LI amK h;obtain⟨D,c1,c2,B,M,rfl⟩:=MU (L.trans (by rfl:Tryz.prog.cellsOf 98=5));obtain⟨p,j,m,q,i,rfl⟩:=MU I;have E:_=some p:=part b 0 3 0 ⟨_,rfl,rfl,rfl⟩ dC;have s:_=some j:=part b 1 3 1 ⟨_,rfl,rfl,rfl⟩ dC;have r:_=some m:=part b 2 3 2 ⟨_,rfl,rfl,rfl⟩ dC;have w:_=some q:=part b 3 3 3 ⟨_,rfl,rfl,rfl⟩ dC;have x:_=some i:=part b 4 27 4 ⟨_,rfl,rfl,rfl⟩ dC;obtain⟨z0,g,_⟩:=Bm vy E;obtain⟨o,e,_⟩:=Bm vy s;obtain⟨z2,d,_⟩:=Bm vy r;obtain⟨z3,f,_⟩:=Bm vy w;obtain⟨A,n,c,l,C,t,K,hw⟩:=KK (v:=M) x;injection g with g;injection e with e;injection d with d;injection f with f;have g:D=R z0:=g;have e:c1=R o:=e;have d:c2=R z2:=d;have f:B=R z3:=f;subst g e d f C;have G:y.1.weights aB 98=p.1.weights aB 3++(j.1.weights aB 3++(m.1.weights aB 3++(q.1.weights aB 3++(i.1.weights aB 27++[])))):=by simp[u,zD,H4,amK]
 rw[G];exact⟨⟨z0,o,z2,z3,A,n,c,l⟩,rfl,λhk=>⟨t,hw _ λk N=>hk k aJ⟩,K⟩
theorem ahz{W:bw}(q:Nat)(cs:List ax)(y:qx H×List vs)(h:x3 enc aB W 0 (λ_=>true) true q 100 cs=some y):∃a:l5,cs=a.cells/\((∀k∈y.1.weights aB 100,k<=mX)->a.dK.size<=mX):=by
 obtain⟨aO,w,_,n,u,t,e⟩:=LI amu h;obtain⟨o,c1,c2,rfl⟩:=three (u.trans (by rfl:Tryz.prog.cellsOf 100=3));obtain⟨j,f,g,rfl⟩:=three t;have p:_=some j:=part e 0 9 0 ⟨_,rfl,rfl,rfl⟩ dC;have m:_=some f:=part e 1 3 1 ⟨_,rfl,rfl,rfl⟩ dC;have l:_=some g:=part e 2 3 2 ⟨_,rfl,rfl,rfl⟩ dC;obtain⟨s,d,a',v⟩:=Xu BO p;obtain⟨i,c,_⟩:=Bm vy m;obtain⟨z2,b,_⟩:=Bm vy l;injection d with d;injection c with c;injection b with b;have d:o= .string s:=d;have c:c1=R i:=c;have b:c2=R z2:=b;subst d c b;have r:y.1.weights aB 100=j.1.weights aB 9++(f.1.weights aB 3++(g.1.weights aB 3++[])):=by simp[n,zD,H4,amu]
 rw[r];exact⟨⟨s,i,z2⟩,rfl,λhk=>hk s.size (by simp[a',zD])⟩
theorem aAM{W:bw}{Q:Nat}{cs:List ax}{d:qx H×List vs}(A:x3 enc aB W 0 (λ_=>true) true Q 26 cs=some d)(hk:∀k∈d.1.weights aB 26,k<=mX):∃g:c8,cs=g.cells/\g.ok (J.of W)/\XE g:=by
 obtain⟨aO,Z,_,E,U,T,b⟩:=LI amy A;obtain⟨O,c1,c2,M,V,rfl⟩:=MU (l:=cs) (U.trans (by rfl:Tryz.prog.cellsOf 26=5));obtain⟨r,p,q,t,f,rfl⟩:=MU T;have P:_=some r:=part b 0 9 0 ⟨_,rfl,rfl,rfl⟩ dC;have D:_=some p:=part b 1 22 1 ⟨_,rfl,rfl,rfl⟩ dC;have C:_=some q:=part b 2 23 2 ⟨_,rfl,rfl,rfl⟩ dC;have I:_=some t:=part b 3 24 3 ⟨_,rfl,rfl,rfl⟩ dC;have L:_=some f:=part b 4 24 4 ⟨_,rfl,rfl,rfl⟩ dC;obtain⟨s,e,a',X⟩:=Xu BO P;obtain⟨hA,h,ac,u,G,t1,_,iI⟩:=KJ (v:=c1) (size:=3) (cells:=iC.cells) (λ(a:iC)(y:qx H)=>((∀k∈y.weights aB 96,k<=mX)->a.ok (J.of W))/\∀z∈a.a6,Dv z) (λ_=>rfl) Tryz.underlying22 dC aCx D;obtain⟨gF,R,cD,el,F,t2,_,Y⟩:=KJ (v:=c2) (size:=5) (cells:=GE.cells) (λ(a:GE)(y:qx H)=>((∀k∈y.weights aB 98,k<=mX)->a.ok (J.of W))/\∀z∈a.st,Dv z) (λ_=>rfl) Tryz.underlying23 dC aCy C;obtain⟨dR,i,cb,w,K,t3,_,ln⟩:=KJ (v:=M) (size:=3) (cells:=l5.cells) (λ(a:l5)(y:qx H)=>(∀k∈y.weights aB 100,k<=mX)->a.dK.size<=mX) (λ_=>rfl) amv dC ahz I;obtain⟨cj,ok,bO,ol,N,t4,_,y8⟩:=KJ (v:=V) (size:=3) (cells:=l5.cells) (λ(a:l5)(y:qx H)=>(∀k∈y.weights aB 100,k<=mX)->a.dK.size<=mX) (λ_=>rfl) amv dC ahz L;injection e with e;have e:O= .string s:=e;subst e G F K N;have B:d.1= .agg ([r,p,q,t,f].map (·.1)):=by rw[E]
 have S:d.1.weights aB 26=r.1.weights aB 9++(p.1.weights aB 22++(q.1.weights aB 23++(t.1.weights aB 24++(f.1.weights aB 24++[])))):=by simp[B,zD,H4,amy]
 rw[S]at hk;have j:u.length=h:=by simpa using t1.len
 have m:el.length=R:=by simpa using t2.len
 have n:w.length=i:=by simpa using t3.len
 have o:ol.length=ok:=by simpa using t4.len
 subst j m n o;have x:mX<=4611686018427387904:=aM;refine⟨⟨s,hA,ac,u,gF,cD,el,dR,cb,w,cj,bO,ol⟩,rfl,⟨?_,t1,λa c=>?_,t2,λa c=>?_,t3,λa c=>?_,t4,λa c=>?_⟩,λa c=>?_,λa c=>?_⟩;exact Nat.le_trans (hk s.size (by simp[a',zD])) x
 grind
 grind
 grind
 grind
 grind
 grind
theorem aCz{W:bw}(f:Nat)(cs:List ax)(y:qx H×List vs)(h:x3 enc aB W 0 (λ_=>true) true f 27 cs=some y):∃a:cY,cs=[a.val]/\((∀k∈y.1.weights aB 27,k<=mX)->a.ok (J.of W)/\a.l.length<=17592186044416/\a.l.length<=a.c):=by
 obtain⟨v,rfl⟩:∃v,cs=[v]:=by
  rcases P5 Me h with⟨b,_⟩|⟨_,_,_,_,_,_,_,b,_⟩<;>exact⟨_,b⟩
 obtain⟨A,n,c,l,rfl,t,_,hw⟩:=KK h;have d:l.length=n:=by simpa using t.len
 subst d;have ay:l.length<=c:=by
  rcases P5 Me h with⟨b,_⟩|⟨_,_,_,_,_,_,_,b,_,_,g,_⟩;injection b with b;injection b with _ e _;omega;injection b with b;injection b with _ e i;omega
 exact⟨⟨A,c,l⟩,rfl,λhk=>⟨t,by have:=hw _ hk;unfold mX at this;show l.length<=_;omega,ay⟩⟩
theorem eight{α:Type}:∀{l:List α},l.length=8->∃a b c d e f g h,l=[a,b,c,d,e,f,g,h]
 |[a,b,c,d,e,f,g,h],_=>⟨a,b,c,d,e,f,g,h,rfl⟩
theorem four{α:Type}:∀{l:List α},l.length=4->∃a b c d,l=[a,b,c,d]
 |[a,b,c,d],_=>⟨a,b,c,d,rfl⟩
theorem aAO{W:bw}{v:ax}{d:qx H}{p:List vs}{r:Reach}{Z:Nat}(S:Value.okWide aB W r Z 30 v)(h:DataW.Trod enc aB W 0 (λ_=>true) true 30 v d p)(hk:∀k∈d.weights aB 30,k<=mX):∃(g:c8)(P:Option aI)(k c2:Nat)(aE:List Int)(m:Option aI)(A:Nat)(F:List cY)(eE:Int),v= .agg #[.string g.dK,.slice g.hA g.a8.length g.ac,.slice g.gF g.be.length g.cD,.slice g.dR g.ins.length g.cb,.slice g.cj g.outs.length g.bO,.slice P k c2,.slice m F.length A,R eE]/\g.ok (J.of W)/\XE g/\bf (J.of W) 1 P k (gT aE)/\k<=70368744177664/\bf (J.of W) 1 m F.length (F.map λd=>[d.val])/\∀d∈F,d.ok (J.of W)/\d.l.length<=17592186044416/\d.l.length<=d.c:=by
 obtain⟨cs,rfl,hL⟩:=okWide_struct Yo S;obtain⟨kF,E⟩:=h;obtain⟨cs⟩:=cs;obtain⟨aO,f',_,M,pD,mT,f⟩:=LI Yo E;obtain⟨a0,V,a2,a3,a4,c1,c2,C,rfl⟩:=eight (l:=cs) (pD.trans (by rfl:Tryz.prog.cellsOf 30=8));obtain⟨j,u,x,B,rfl⟩:=four mT;have i:_=some j:=f 0 _ rfl;have L:_=some u:=part f 1 27 5 ⟨_,rfl,rfl,rfl⟩ dC;have K:_=some x:=part f 2 28 6 ⟨_,rfl,rfl,rfl⟩ dC;have U:_=some B:=part f 3 3 7 ⟨_,rfl,rfl,rfl⟩ dC;have I:d= .agg ([j,u,x,B].map (·.1)):=(r7 M).1;have lx:d.weights aB 30=j.1.weights aB 26++(u.1.weights aB 27++(x.1.weights aB 28++(B.1.weights aB 3++[]))):=by simp[I,zD,H4,Yo]
 rw[lx]at hk;have i:x3 enc aB W 0 (λ_=>true) true f' 26 ([a0,V,a2,a3,a4,c1,c2,C].take (Tryz.prog.cellsOf 26))=some j:=i;rw[(by rfl:Tryz.prog.cellsOf 26=5)]at i;obtain⟨g,b,G,o⟩:=aAM i λk T=>hk k aJ;injection b with Y b;injection b with O b;injection b with N b;injection b with X b;injection b with fr _;obtain⟨P,k,cN,aE,lU,oM,_,s⟩:=KK (v:=c1) L;obtain⟨m,fn,A,F,ti,D,_,n⟩:=KJ (v:=c2) (size:=1) (cells:=λa:cY=>[a.val]) (λ(a:cY)(y:qx H)=>(∀k∈y.weights aB 27,k<=mX)->a.ok (J.of W)/\a.l.length<=17592186044416/\a.l.length<=a.c) (λ_=>rfl) Tryz.underlying28 dC aCz K;obtain⟨z,e,_⟩:=Bm vy U;injection e with e;have e:C=R z:=e;have t:F.length=fn:=by simpa using D.len
 subst Y O N X fr lU ti e t;refine⟨g,P,k,cN,aE,m,A,F,z,rfl,G,o,oM,?_,D,λa Q=>?_⟩;have:=s mX λk T=>hk k aJ;unfold mX at this;omega;obtain⟨y,q,w⟩:=n a Q;simp_all
theorem aac{P:eN}{dX:List fR}{a:List (qx H)}{o:Nat}{t:fR}{d:qx H}(h:(H4 P dX a).all (λk=>decide (k<=reachBytes))=true)(c:dX[o]?=some t)(b:a[o]?=some d):∀k∈d.weights P t,k<=140737488355328:=λk hk=>by
 have:=List.all_eq_true.1 h k (DataW.weights_mem_each c b k hk)
 grind [reachBytes]
end
end Go.Proofs.YtlbdbpaelcnfgaaGreatDoor
