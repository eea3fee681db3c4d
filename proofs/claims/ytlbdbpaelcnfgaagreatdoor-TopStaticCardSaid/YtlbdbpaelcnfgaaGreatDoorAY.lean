/- A part of the proof that the statement holds. Conditions: none. -/
import Derived.Test.YtlbdbpaelcnfgaaGreatDoorRows
import Derived.Test.YtlbdbpaelcnfgaaGreatDoorAC
import Derived.Test.YtlbdbpaelcnfgaaGreatDoorAP
import Derived.Test.YtlbdbpaelcnfgaaGreatDoorAQ
import Derived.Test.YtlbdbpaelcnfgaaGreatDoorAT
import Derived.Test.YtlbdbpaelcnfgaaGreatDoorAU
import Derived.Test.YtlbdbpaelcnfgaaGreatDoorAX
open Decidable renaming byContradiction->xH
open Go renaming Addr->aE,DataW->rr,MemPlace->wB,Program->fk,TypeId->gv,Value->aA,World->bD,maxLen->eQ
open Go.DataW renaming trod->y1,trod_int->Cx,trod_slice->RE,trod_string->YY,trod_struct->M',weights->AR,weightsAll->alQ,weightsEach->JC
open Go.Obj renaming cells->bb
open Go.Proofs.Tryz renaming prog->aD,underlying100->an8,underlying24->an9,underlying26->aob,underlying27->NE,underlying3->wJ,underlying30->ZO,underlying9->CT,underlying96->aom,underlying98->aon
open Go.Value renaming bool->dh,int->bC,pointer->gR,slice->ab,tuple->eA
open Go.World renaming cells?_some->aoD
open Int renaming le_refl->y4,toNat_natCast->bn
open List renaming append_assoc->mg,append_nil->sf,foldl_cons->vk,getD_eq_getElem?_getD->cc,getElem?_eq_getElem->bK,getElem?_eq_none->l2,getElem?_map->de,getElem?_replicate->A3,getElem?_set_ne->R2,getElem?_set_self->JP,getElem_map->EH,getElem_mem->b3,getElem_of_mem->n4,length->fv,length_append->fb,length_cons->iJ,length_drop->mU,length_eq_one_iff->Zl,length_map->fj,length_replicate->uc,length_set->fI,length_singleton->amH,length_take->mV,map_append->fw,map_cons->er,map_map->ig,map_nil->y8,map_replicate->p7,map_set->kB,mem_append_left->wz,mem_cons->ez,mem_cons_of_mem->gd,mem_cons_self->hq,mem_map->cO,mem_or_eq_of_mem_set->wA,mem_replicate->ud,mem_singleton->hZ,mem_singleton_self->G',not_mem_nil->y9,range->fJ,replicate->bp,replicate_succ->A4,set_append_right->vm,take_of_length_le->mJ
open List.cons renaming injEq->A1
open Nat renaming add_comm->wC,div_eq_of_lt->Nr,div_eq_of_lt_le->Zu,le_refl->dM,mod_lt->am8,mul_add_div->am',mul_comm->Ns,mul_le_mul->mh,mul_one->e4,sub_self->xQ,succ_mul->A9,zero_add->dZ,zero_le->cU,zero_mul->Hd
open Option renaming bind_eq_some_iff->anl,getD_some->pB,map_eq_some_iff->zc,map_some->si
open Option.some renaming inj->wF
open Or renaming inl->bQ,inr->ba
open Prod.mk renaming inj->ry,injEq->Hk
namespace Go.Sx
open Go.Proofs
set_option maxRecDepth 100000
set_option maxHeartbeats 0
set_option linter.all false
variable {z:Int}{B h:J}{l:List Int}{bG bV:Nat}{r:aA}{x:gK}
theorem SL{a:J}(a':iE B h bV bG x)(le:B.le h)(e:J.h6 bG h a){eg cn:Option aE}{cf bT:Nat}{X:List aA}(c:bg B 1 eg x.ins.length (gi x.ins))(to:bg B 1 cn x.outs.length (gi x.outs))(hk:a bG=some (bb (ab eg x.ins.length cf::ab cn x.outs.length bT::R x.n::X).toArray (x5 x.tag) (0,0))){b:List Int}(d:s9 (B.grow h a) x.tag x.a8 b X):iE (B.grow h a) a bV bG {x with st:=b}:=by
 have jM:=Ox le a'.nN e;exact⟨jM _ _ a'.box,rK a'.nN a'.some_,eg,cf,cn,bT,X,hk,c.mono jM,to.mono jM,d⟩
theorem Wu h a bG U:nr (h.put bG U) a bG=nr h a bG:=by
 funext o;unfold nr J.on;by_cases q:o=bG;rw[aC (λp=>p.2 q),aC (λp=>p.2 q)];simp only[J.cD _ _ q];by_cases p:h o=none/\o≠bG;rw[aS p,aS p];rw[aC p,aC p]
theorem Ki(a':iE B h bV bG x)(le:B.le h){ae:J}(f:h.le ae){a b:Nat}{e d:Obj}(g:ae a=none)(i:(ae.put a e) b=none) u:uf B h bV bG x none (eA #[u,dh false]) ((ae.put a e).put b d):=by
 have c:=J.le_trans f (J.le_trans (J.d' g) (J.d' (U:=d) i));exact⟨c.h6,a'.pure le c,_,rfl⟩
theorem VX{a:J}{U:Obj}(le:(h.put bG U).le a):J.h6 bG h a:=λo x c b=>le _ _ (by rw[J.cD _ _ c];exact b)
theorem RowsIn.get{b:Option aE}{D:List bM}(c:RowsIn h b D){i:Nat} d:∃g,b=some g/\h.cell? (g.add (i*1))=some D[i].val:=by
 obtain⟨g,a⟩:=c.dK.b4 I;exact⟨g,a,c.dK.one a (i:=i) (r:=[D[i].val]) (by unfold D4;rw[de,bK d];rfl) rfl⟩
theorem bM.get{d:bM}(ok:d.ok h){o:Nat} b:∃g,d.A=some g/\h.cell? (g.add (o*1))=some (R d.l[o]):=by
 obtain⟨g,a⟩:=bg.b4 ok I;exact⟨g,a,bg.one ok a (i:=o) (jx b) rfl⟩
variable {D:List bM}
theorem RowsIn.first{e:Option aE}(f:RowsIn h e D){i:Nat}(a:(D.map bM.l)[i]?=some (z::l)):i<D.length/\∃g A n c g2,e=some g/\h.cell? (g.add (i*1))=some (ab A n c)/\A=some g2/\0<n/\h.cell? (g2.add (0*1))=some (R z):=by
 have b:i<D.length:=by
  refine xH λq=>?_;rw[l2 (by simpa using q)]at a;cases a
 rw[de,bK b,si]at a;have a:=wF a;obtain⟨g,j,c⟩:=f.get b;have d:0<D[i].l.length:=by rw[a];simp
 obtain⟨g2,k,c2⟩:=bM.get (f.row _ (b3 b)) d;refine⟨b,g,D[i].A,D[i].l.length,D[i].c,g2,j,c,k,d,?_⟩;rw[c2];congr 2;rw[List.getElem_of_eq a (by simpa using d)];rfl
def I0(U:Option Int):Option (List (List Int)):=U.map λy=>[[y]]
theorem aDF(a':iE B h bV bG x)(le:B.le h) s cf D n(K:D.length=n)(v:RowsIn h s D){a b:Int}{l F:List Int}(am:(D.map bM.l)[0]?=some (a::l))(h1:(D.map bM.l)[1]?=some (b::F)):Fn aD 255 #[r,ab s n cf] h (uf B h bV bG x (I0 (Mq a b))):=by
 obtain⟨i0,g,A,k,c,g2,z,c1,aK,hk,c2⟩:=v.first am;obtain⟨i1,C,bo,G,bj,o,E,j,w,H,m⟩:=v.first h1;refine bU azg rfl (.mk g z aH I (.hp (ab A k c) c1 (.mk g2 aK aH I (.hp (R a) c2 (.mk C E aH I (.hp (ab bo G bj) j (.mk o w aH I (.hp (R b) m (aW (λq=>?_) (λq=>?_))))))))));refine .ag ?_;rw[Mq,aS q];exact⟨(J.le_refl _).h6,a'.pure le (J.le_refl _),_,rfl⟩;refine aW (λd=>?_) (λd=>?_);rw[Mq,aC q,aS d];have cs:=aFW 0 a h;cases p:Ee 0 a with
 |none=>
  rw[p]at cs;refine .ag (.mk _ cs ?_);rintro _ _ ⟨rfl,rfl⟩;exact .mk λt f=>.mk λu i=>.ag (Ki a' le (J.le_refl _) f i _)
 |some y=>
  rw[p]at cs;refine .ag (.mk _ cs ?_);rintro _ _ ⟨rfl,rfl⟩;refine .mk λt f=>.mk λu i=>?_;obtain⟨e,d⟩:=Gk (l:=[y]) (c:=1) a'.some_ f [R y] rfl i (J.le_refl _);exact .ag ⟨e.h6,a'.pure le e,_,_,_,rfl,rfl,d⟩
 rw[Mq,aC q,aC d];refine .mk q (.wrap (.mk λt f=>.mk λu i=>?_));obtain⟨e,d⟩:=Gk (l:=[oz (a.tdiv b)]) (c:=1) a'.some_ f [R (oz (a.tdiv b))] rfl i (J.le_refl _);exact .ag ⟨e.h6,a'.pure le e,_,_,_,rfl,rfl,d⟩
theorem aqw{i:aA}(a':iE B h bV bG x)(le:B.le h):Fn aD 261 #[r,i] h (uf B h bV bG x (some [])):=by
 exact bU azl rfl (.ag ⟨(J.le_refl _).h6,a'.pure le (J.le_refl _),none,0,[],rfl,rfl,bg.nil _ _ _,nofun⟩)
theorem aFZ(a':iE B h bV bG x)(le:B.le h)(m:x.tag=8)(o:Option aE)(cf:Nat)(D:List bM)(n:Nat)(P:D.length=n)(L:RowsIn h o D)(am:(D.map bM.l)[0]?=some (z::l)):Fn aD 258 #[bY bG,ab o n cf] h (uf B h bV bG {x with st:=match pC (x.st.getD 0 0) z with|some y=>[y]|none=>x.st} (I0 (pC (x.st.getD 0 0) z))):=by
 obtain⟨i0,g,A,k,c,g2,C,c1,aK,hk,c2⟩:=L.first am;obtain⟨eg,t,cn,bT,X,u,M,to,N⟩:=a'.ex;have f:=N;unfold s9 at f;rw[aC I,aS m]at f;obtain⟨s,E,rfl⟩:=f;have K:x.st.getD 0 0=s:=by rw[E];rfl
 rw[K];have b:=NG s z h;refine bU azi rfl (ay λS H Q=>H _ _ _ (ay λT p O=>.hp (R s) (b1 u rfl) (.mk g C aH I (.hp (ab A k c) c1 (.mk g2 aK aH I (.hp (R z) c2 ?_))))));cases a:pC s z with
 |none=>
  rw[a]at b;refine .mk _ b (λv w q=>by rw[q.2];exact J.le_refl _) ?_;rintro _ _ ⟨rfl,rfl⟩;refine p _ _ _ (.mk λF d=>.mk λG e=>.ag ?_);rw[a];exact Ki a' le (J.le_refl _) d e _
 |some y=>
  rw[a]at b;refine .mk _ b (λv w q=>by rw[q.2];exact J.le_refl _) ?_;rintro _ _ ⟨rfl,rfl⟩;refine p _ _ _ (.hp bG 3 (x5 x.tag) (ab eg x.ins.length t::ab cn x.outs.length bT::R x.n::[R s]) (ab eg x.ins.length t::ab cn x.outs.length bT::R x.n::[R y]) rfl u (by rw[io _ _ _ bc];rfl) (.mk λF d=>.mk λG e=>?_));obtain⟨j,i⟩:=Gk (bG:=bG) (l:=[y]) (c:=1) (by rw[J.b8];nofun) d [R y] rfl e (J.le_refl _);rw[Wu]at i;have r:=VX j;refine .ag ?_;rw[a];refine⟨r,SL a' le r M to (j _ _ (J.b8 _ _ _)) ?_,_,_,_,rfl,rfl,i⟩;unfold s9;rw[aC I,aS m];exact⟨y,rfl,rfl⟩
theorem aGy{i:aA}(a':iE B h bV bG x)(le:B.le h)(p:x.tag=10):Fn aD 260 #[bY bG,i] h (uf B h bV bG {x with st:=match pC (x.st.getD 0 0) (x.a8.getD 1 0)with|some y=>[y]|none=>x.st} ((pC (x.st.getD 0 0) (x.a8.getD 1 0)).map λ_=>[[x.st.getD 0 0]])):=by
 obtain⟨eg,u,cn,bT,X,a,F,to,G⟩:=a'.ex;have j:=G;unfold s9 at j;rw[aC I,aC I,aS p]at j;obtain⟨s,z,rfl⟩:=j;have E:x.st.getD 0 0=s:=by rw[z];rfl
 rw[E];obtain⟨b,o⟩:∃b,b=x.a8.getD 1 0:=⟨_,rfl⟩;rw[<-o]at a⊢;have e:=NG s b h;refine bU azk rfl (ay λL D K=>D _ _ _ (ay λM r H=>.hp (R s) (b1 a rfl) (.hp (R b) (b1 a rfl) ?_)));cases d:pC s b with
 |none=>
  rw[d]at e;refine .mk _ e (λv w q=>by rw[q.2];exact J.le_refl _) ?_;rintro _ _ ⟨rfl,rfl⟩;refine r _ _ _ (.hp (R s) (b1 a rfl) (.mk λA f=>.mk λC g=>.ag ?_));rw[d];exact Ki a' le (J.le_refl _) f g _
 |some y=>
  rw[d]at e;refine .mk _ e (λv w q=>by rw[q.2];exact J.le_refl _) ?_;rintro _ _ ⟨rfl,rfl⟩;refine r _ _ _ (.hp (R s) (b1 a rfl) (.hp bG 3 (x5 x.tag) (ab eg x.ins.length u::ab cn x.outs.length bT::R x.n::[R s,R b]) (ab eg x.ins.length u::ab cn x.outs.length bT::R x.n::[R y,R b]) rfl a (by rw[io _ _ _ bc];rfl) (.mk λA f=>.mk λC g=>?_)));obtain⟨m,k⟩:=Gk (bG:=bG) (l:=[s]) (c:=1) (by rw[J.b8];nofun) f [R s] rfl g (J.le_refl _);rw[Wu]at k;have t:=VX m;refine .ag ?_;rw[d];refine⟨t,SL a' le t F to (m _ _ (J.b8 _ _ _)) ?_,_,_,_,rfl,rfl,k⟩;unfold s9;rw[aC I,aC I,aS p];exact⟨y,rfl,by rw[<-o]⟩
theorem aoS(a':iE B h bV bG x)(le:B.le h) p cf D n(e9:D.length=n)(aF:n<=1000)(H:RowsIn h p D)(f:∀d∈D,0<d.l.length):Fn aD 253 #[r,ab p n cf] h (uf B h bV bG x (I0 (Eg 0 ((D.map bM.l).map λl=>l.getD 0 0)))):=by
 obtain⟨a,C⟩:∃a,a=(D.map bM.l).map λl=>l.getD 0 0:=⟨_,rfl⟩;rw[<-C];have jL:a.length=n:=by rw[C];simp[e9]
 refine bU aze rfl ?_;refine ay λfD Y eT=>?_;refine Y _ _ _ ?_;refine ay λfy X d9=>?_;refine X _ _ _ ?_;refine ay λfz W eZ=>?_;refine ay λfE Z dH=>?_;refine Z _ _ _ ?_;refine ew λgF du gN=>?_;refine .jG (.abs 3 1 none 0 0 [] ⟨rfl,bQ ⟨rfl,rfl,rfl⟩⟩ (.ag ?_));show jk _ _ _ _ h;refine .mk (Nat×Option aE×Nat) [6,11,12,13] (λ(k,A,c)=>[.v (ab A k c),.v (ab p n cf),.v (R n),.v (R k)]) (λ(k,A,c)=>[.row 3 1 A k c ((a.take k).map R)]) (λ(k,_,_) P=>P=h/\k<=n) (λ(k,_,_)=>n-k) (0,none,0) (λ_=>rfl) ⟨rfl,cU _⟩ rfl rfl ?_;rintro⟨k,A,c⟩ e _ ⟨rfl,hk⟩;refine ay λgL ed gG=>?_;refine ed _ _ _ ?_;refine ay λjl eY hU=>?_;refine aW (λq=>?_) (λq=>?_);have b:k<D.length:=I;obtain⟨g,S,L⟩:=H.get b;obtain⟨g2,K,c2⟩:=bM.get (H.row _ (b3 b)) (f _ (b3 b));have i:a.take (k+1)=a.take k++[D[k].l[0]'(f _ (b3 b))]:=by
  have w:k<a.length:=I;rw[lz w];congr 2;subst C;rw[EH,EH,cc,bK (f _ (b3 b))];rfl
 have M:=f _ (b3 b);generalize D[k].l[0]'(f _ (b3 b))=z at c2 i;generalize D[k]=d at L K M;refine eY _ _ _ ?_;refine ay λkd fO j3=>?_;refine ew λjU hc iD=>?_;refine ay λkQ gM kH=>?_;refine .m g S ?_;refine .hp (ab d.A d.l.length d.c) (by rw[bn];exact L) ?_;refine gM _ _ _ ?_;refine .mk g2 K aH I ?_;refine .hp (R z) c2 ?_;refine .ag (.c0 0 _ [R z] rfl rfl (by intro u hu;rw[hZ]at hu;subst hu;rfl) (by unfold eQ;omega) I λbo bj _=>?_);refine iD _ _ _ _ nofun (fO _ _ _ ?_);refine .bl ?_;refine⟨(k+1,bo,bj),rfl,?_,⟨rfl,I⟩,by show n- (k+1)<n-k;omega⟩;show _=[LE.row 3 1 bo (k+1) bj ((a.take (k+1)).map R)];rw[i,fw];rfl;refine hU _ _ _ _ nofun (du _ _ _ (W _ _ _ ?_));obtain rfl:k=n:=by omega
 refine .b5 0 3 1 A k c _ rfl λae j G f2=>.ag ?_;rw[mJ I]at G;have cs:=aFY A k c a ae G.one I;cases E:Eg 0 a with
 |none=>
  rw[E]at cs;refine .mk _ cs ?_;rintro _ _ ⟨rfl,rfl⟩;refine .mk λT s=>?_;refine .mk λV t=>?_;exact .ag (Ki a' le j s t _)
 |some y=>
  rw[E]at cs;refine .mk _ cs ?_;rintro _ _ ⟨rfl,rfl⟩;refine .mk λT s=>?_;refine .mk λV t=>?_;have w:=(a'.up j).some_;obtain⟨O,N⟩:=Gk (l:=[y]) (c:=1) w s [R y] rfl t (J.le_refl _);have F:=J.le_trans j O;exact .ag ⟨F.h6,a'.pure le F,_,_,_,rfl,rfl,N.mono (Wt j λo U _ Q=>Q)⟩
theorem aHK(ins:List (List Int)) o i a:(ins.take (i+1)).map (λl=>l.getD o 0)=(ins.take i).map (λl=>l.getD o 0)++[ins[i].getD o 0]:=by
 rw[lz a,fw];rfl
theorem aHL(a':iE B h bV bG x)(le:B.le h)(n m:Nat)(r:x.ins=bp n (m:Int))(S:x.outs=[((n*m:Nat):Int)])(hi:0<n)(aF:n<=16)(O0:n*m<=64) f cf D(e9:D.length=n)(E:RowsIn h f D)(M:∀d∈D,d.l.length=m):Fn aD 251 #[bY bG,ab f n cf] h (uf B h bV bG x (some [qH (D.map bM.l) m])):=by
 have J:=a';obtain⟨eg,oP,cn,bT,X,hk,s,to,_⟩:=a'.ex;have N:m<=64:=by
  have:1*m<=n*m:=mh I (dM _);omega
 have k7:x.ins.length=n:=by rw[r];simp
 rw[S]at to hk;rw[k7]at hk s;obtain⟨g0,K⟩:=to.b4 bc;obtain⟨g1,G⟩:=s.b4 I;have ci:h.cell? (g1.add (0*1))=some (R m):=(s.mono le).one G (i:=0) (by rw[r];unfold gi;rw[de,A3,aS hi];rfl) rfl;obtain⟨a,w⟩:∃a,a=D.map bM.l:=⟨_,rfl⟩;have dl:a.length=n:=by rw[w];simp[e9]
 rw[<-w];refine bU azc rfl ?_;refine ay λfD Z eT=>?_;refine Z _ _ _ ?_;refine ay λfy Y d9=>?_;refine .hp (ab cn 1 bT) (b1 hk rfl) ?_;refine .mk g0 K aH aH ?_;refine .hp (R (n*m:Nat)) ((to.mono le).one K (i:=0) rfl rfl) ?_;refine .room (n*m) rfl rfl I I λh5=>?_;refine Y _ _ _ ?_;refine ay λfz W eZ=>?_;refine ay λfE dR dH=>?_;refine .hp (ab eg n oP) (b1 hk rfl) ?_;refine .mk g1 G aH I ?_;refine .hp (R m) ci ?_;refine dR _ _ _ ?_;refine ew λgF du gN=>?_;refine .mk (Nat×Option aE×Nat) [1,6,23,24] (λ(o,A,c)=>[.v (ab f n cf),.v (ab A (n*o) c),.v (R m),.v (R o)]) (λ(o,A,c)=>[.row 3 1 A (n*o) c ((qH a o).map R)]) (λ(o,_,_) p=>p=h/\o<=m) (λ(o,_,_)=>m-o) (0,some h5,n*m) (λ_=>rfl) ⟨rfl,cU _⟩ rfl rfl ?_;rintro⟨o,A,c⟩ e ae ⟨rfl,T⟩;refine ay λgL ed gG=>?_;refine ed _ _ _ ?_;refine ay λjl eY hU=>?_;have O:n*o<=64:=by
  have:n*o<=n*m:=Nat.mul_le_mul_left _ T;omega
 refine aW (λq=>?_) (λq=>?_);refine eY _ _ _ ?_;refine ay λkd fO j3=>?_;refine ew λjU hc iD=>?_;refine ay λkQ gM kH=>?_;refine gM _ _ _ ?_;refine ay λqS kh qs=>?_;refine kh _ _ _ ?_;refine ew λoE ki nn=>?_;refine .mk (Nat×Option aE×Nat) [1,6,7,23,24,27,28,29] (λ(i,A,c)=>[.v (ab f n cf),.v (ab A (n*o+i) c),.v (R o),.v (R m),.v (R o),.v (ab f n cf),.v (R n),.v (R i)]) (λ(i,A,c)=>[.row 3 1 A (n*o+i) c ((qH a o++(a.take i).map λl=>l.getD o 0).map R)])
  (λ(i,_,_) p=>p=ae/\i<=n) (λ(i,_,_)=>n-i) (0,A,c) (λ_=>rfl) ⟨rfl,cU _⟩ rfl (by
   show[LE.row 3 1 A (n*o) c ((qH a o).map R)]=[LE.row 3 1 A (n*o+0) c ((qH a o++(a.take 0).map λl=>l.getD o 0).map R)];rw[List.take_zero,y8,sf];rfl) ?_
 rintro⟨i,A,c⟩ e V ⟨rfl,r⟩;refine ay λsk lJ uI=>?_;refine lJ _ _ _ ?_;refine ay λxT qr z1=>?_;refine aW (λk=>?_) (λk=>?_);have j:i<D.length:=I;have sE:i<a.length:=I;obtain⟨g,U,H⟩:=E.get j;have ev:=M _ (b3 j);have y:o<D[i].l.length:=I;obtain⟨g2,F,c2⟩:=bM.get (E.row _ (b3 j)) y;have b:a[i].getD o 0=D[i].l[o]:=by
  subst w;rw[EH,cc,bK y];rfl
 have t:=aHK a o i sE;rw[b]at t;clear b;generalize D[i].l[o]=z at c2 t;generalize D[i]=d at H F ev;refine qr _ _ _ ?_;refine ay λA' tI DJ=>?_;refine ew λEN zZ L=>?_;refine ay λEO xi Ix=>?_;refine xi _ _ _ ?_;refine .m g U ?_;refine .hp (ab d.A d.l.length d.c) (by rw[bn];exact H) ?_;refine .m g2 F ?_;refine .hp (R z) (by rw[bn];exact c2) ?_;refine .ag (.c0 0 _ [R z] rfl rfl (by intro u hu;rw[hZ]at hu;subst hu;rfl) (by unfold eQ;omega) I λbo bj _=>?_);refine L _ _ _ _ nofun (tI _ _ _ ?_);refine .bl ?_;refine⟨(i+1,bo,bj),rfl,?_,⟨rfl,I⟩,by show n- (i+1)<n-i;omega⟩;show _=[LE.row 3 1 bo (n*o+(i+1)) bj ((qH a o++(a.take (i+1)).map λl=>l.getD o 0).map R)];have P:(qH a o++(a.take (i+1)).map λl=>l.getD o 0).map R=(qH a o++(a.take i).map λl=>l.getD o 0).map R++[R z]:=by rw[t,<-mg,fw];rfl
 rw[P];rfl;obtain rfl:i=n:=by omega
 refine z1 _ _ _ _ nofun (ki _ _ _ ?_);refine iD _ _ _ _ nofun (fO _ _ _ ?_);refine .bl ?_;refine⟨(o+1,A,c),rfl,?_,⟨rfl,I⟩,by show m- (o+1)<m-o;omega⟩;show _=[LE.row 3 1 A (i*(o+1)) c ((qH a (o+1)).map R)];have Q:(qH a o++(a.take i).map λl=>l.getD o 0)=qH a (o+1):=by rw[ala,mJ I]
 rw[<-Q];rfl;obtain rfl:o=m:=by omega
 refine hU _ _ _ _ nofun (du _ _ _ (W _ _ _ ?_));refine .mk λdN jv=>?_;refine .b5 0 3 1 A (n*o) c _ rfl λV d7 eb f3=>.ag ?_;obtain⟨C,k⟩:=ah4 (l:=qH a o) J.some_ jv d7 (by rw[alb,dl,Ns]) eb f3;refine⟨C.h6,J.pure le C,some ⟨dN,0,none⟩,1,[⟨A,c,qH a o⟩],?_,rfl,k⟩;rfl
theorem aje{a:J}{A:Option aE}{c:Nat}(hk:h bG≠none)(r:bw a 27 1 A D.length c (D.map bM.val))(f:∀g,A=some g->h g.block=none)(i:∀d∈D,bw a 3 1 d.A d.l.length d.c (d.l.map R)/\∀g,d.A=some g->h g.block=none):RowsIn (nr h a bG) A D:=by
 have on:∀{bF j bj:Nat}{bo:Option aE}{xs:List aA},bw a bF 1 bo j bj xs->(∀g,bo=some g->h g.block=none)->bw (nr h a bG) bF 1 bo j bj xs:=λr f=>bw.on (S:=λo=>h o=none/\o≠bG) r λg k=>⟨f g k,λe=>hk aL⟩;refine⟨?_,λd b=>(on (i d b).1 (i d b).2).one⟩;have:=(on r f).e2;rw[ig]at this;exact this
theorem aAO{b:Nat}(a:h b=some (bb (l.map R).toArray 3 (0,0)))(hm:l.length<=1000):bw h 3 1 (some ⟨b,0,none⟩) l.length l.length (l.map R):=⟨bc,ba ⟨b,_,rfl,a,dM _,by unfold eQ;omega,bc,by rw[e4];exact mJ bc⟩⟩
theorem arv{α:Type}(a:List α) z x n(h:a.length<n):(a++bp (n-a.length) z).set a.length x=(a++[x])++bp (n- (a.length+1)) z:=by
 rw[vm _ _ (dM _),xQ,show n-a.length=(n- (a.length+1))+1 by omega,A4,mg];rfl
def Ga(b:Nat):aA:=ab (some ⟨b,0,none⟩) 1 1
theorem ap'(a':iE B h bV bG x)(le:B.le h) n(E:x.outs.length=n)(Y:n<=16) r cf D k(e9:D.length=k)(O:RowsIn h r D){z:Int}{l:List Int}(am:(D.map bM.l)[0]?=some (z::l)):Fn aD 259 #[bY bG,ab r k cf] h (uf B h bV bG x (some (bp n [z]))):=by
 obtain⟨i0,g,A,m,c,g2,f,c1,aK,hm,c2⟩:=O.first am;have C:=a';obtain⟨eg,oP,cn,bT,X,hk,eS,to,_⟩:=a'.ex;rw[E]at hk;refine bU azj rfl (ay λfD L eT=>L _ _ _ (ay λfy K d9=>.hp (ab cn n bT) (b1 hk rfl) (.one n (ab none 0 0) rfl rfl rfl rfl I I λj=>K _ _ _ (ay λfz H eZ=>ay λfE N dH=>N _ _ _ (ew λgF P gN=>?_)))));refine .mk (List Nat) [1,6,16,17] (λa=>[.v (ab r k cf),.v (ab (some j) n n),.v (R n),.v (R a.length)]) (λa=>[.row 27 1 (some j) n n (a.map Ga++bp (n- (a.map Ga).length) (ab none 0 0))]) (λa s=>h.le s/\a.length<=n/\∀b∈a,s b=some (bb #[R z] 3 (0,0))/\h b=none) (λa=>n-a.length) [] (λ_=>rfl) ⟨J.le_refl _,cU _,nofun⟩ rfl rfl ?_;refineλa e ae⟨i,sB,y⟩=>ay λgL S gG=>S _ _ _ (ay λjl Q V=>aW (λq=>?_) (λq=>?_));refine Q _ _ _ (ay λkd T j3=>ew λjU hc W=>ay λkQ U kH=>U _ _ _ (.mk g f aH I (.hp (ab A m c) (J.l5 i c1) (.mk g2 aK aH I (.hp (R z) (J.l5 i c2) (.m j rfl (.mk λb o=>?_)))))));refine .row 0 27 1 j n n _ (((a++[b]).map Ga)++bp (n- ((a++[b]).map Ga).length) (ab none 0 0)) a.length rfl bc (by
  rw[io _ _ _ aL];have:=arv (a.map Ga) (ab none 0 0) (Ga b) n aL;simp only[fj]at this;simp only[fw,fb,fj,er,y8,amH];exact eu some this) ?_
 refine W _ _ _ _ nofun (T _ _ _ (.bl (⟨a++[b],by rw[fb];rfl,rfl,⟨J.le_trans i (J.d' o),aL,λM p=>?_⟩,aL⟩)));rcases List.mem_append.1 p with p|p;have:=y M p;exact⟨J.d' o _ _ this.1,this.2⟩;rw[hZ.1 p];exact⟨J.b8 _ _ _,J.none_le i o⟩;have e:a.length=n:=I;refine V _ _ _ _ nofun (P _ _ _ (H _ _ _ (.b5 0 27 1 (some j) n n _ rfl λZ t u f3=>.ag ?_)));have w:=J.le_trans i t;rw[fj,e,xQ,List.replicate_zero,sf]at u;have F:(a.map λb=>(⟨some ⟨b,0,none⟩,1,[z]⟩:bM)).map bM.val=a.map Ga:=by rw[ig];rfl
 refine⟨w.h6,C.pure le w,some j,n,a.map λb=>⟨some ⟨b,0,none⟩,1,[z]⟩,by rw[fj,e];rfl,?_,aje C.some_ (by rw[F,fj,e];exact u) (λg f=>J.none_le i (f3 g f)) λd G=>?_⟩;rw[ig,<-e];exact List.map_const' ..;obtain⟨b,o,rfl⟩:=cO.1 G;have:=y b o;exact⟨aAO (l:=[z]) (t _ _ this.1) bc,λg f=>by injection f with f;subst f;exact this.2⟩
theorem aAx{ae:J}{A:Option aE}(le:h.le ae)(aK:∀g,A=some g->h g.block=none):h.le (en ae A):=λo U a=>by
 rw[mm λg b e=>by rw[e,aK g b]at a;cases a];exact le _ _ a
theorem aHB(a':iE B h bV bG x)(le:B.le h) n(aU:x.outs.length=n)(cR:1<=n)(aF:n<=16) S cf d(V:RowsIn h S [d])(E:d.l.length<=64):Fn aD 252 #[bY bG,ab S 1 cf] h (uf B h bV bG x (some (yS n 0 d.l (bp n [])))):=by
 obtain⟨g,b,c1⟩:=V.get (i:=0) bc;have N:=V.row _ (G' _);obtain⟨A,c,l⟩:=d;simp only at E N;have ug:=a';obtain⟨eg,oP,cn,bT,X,hk,eS,to,_⟩:=a'.ex;rw[aU]at hk;obtain⟨M,s⟩:∃M,M=yS n 0 l (bp n []):=⟨_,rfl⟩;simp only;rw[<-s];refine bU azd rfl (ay λfD cQ eT=>cQ _ _ _ (ay λfy cM d9=>.hp (ab cn n bT) (b1 hk rfl) (.one n (ab none 0 0) rfl rfl rfl rfl I I λf=>cM _ _ _ (ay λfz cL eZ=>ay λfE dR dH=>.mk g b aH aH (.hp (ab A l.length c) c1 (dR _ _ _ (ew λgF du gN=>.jG (.ag ?_))))))));refine .mb [0] (Nat×List bM) [6,19,20,21] (λ(k,_)=>[.v (ab (some f) n n),.v (ab A l.length c),.v (R l.length),.v (R k)]) (λ(_,D)=>[.row 27 1 (some f) n n (D.map bM.val)]) (λ(k,D) Q=>h.le Q/\k<=l.length/\D.length=n/\yS n k (l.drop k) (D.map bM.l)=M/\(∀q∈D,bw Q 3 1 q.A q.l.length q.c (q.l.map R)/\q.l.length<=k/\∀g,q.A=some g->h g.block=none)/\(D.flatMap λq=>jm q.A).Nodup) (λ(k,_)=>l.length-k) (0,bp n nE) (λ_=>rfl)
  ⟨J.le_refl _,cU _,bc,by rw[p7];exact s.symm,λq aB=>by rw[(ud.1 aB).2];exact⟨⟨rfl,bQ ⟨rfl,rfl,rfl⟩⟩,dM _,nofun⟩,by
   rw[List.flatMap_replicate];simp[nE,jm]⟩ rfl rfl (by
   show some [LE.row 27 1 (some f) n n (bp n (ab none 0 0))]=some [LE.row 27 1 (some f) n n ((bp n nE).map bM.val)];rw[p7];rfl) ?_
 rintro⟨k,D⟩ e ae ⟨H,Ib,L,hu,w,oN⟩;by_cases q:k<l.length;have FD:=am8 k cR;have o:k%n<D.length:=I;have tx:=b3 o;obtain⟨th,F,p⟩:=w _ tx;obtain⟨d,C⟩:∃d,d=D[k%n]:=⟨_,rfl⟩;rw[<-C]at th F p tx;have Aa:=aAx H p;obtain⟨g3,P⟩:=bg.b4 N (by simp only;omega);have Y:=J.l5 Aa (bg.one N P (i:=k) (jx q) rfl);rw[List.drop_eq_getElem_cons q,yS]at hu;obtain⟨z,a7⟩:∃z,z=l[k]:=⟨_,rfl⟩;rw[<-a7]at Y hu;refine .abs 3 1 d.A d.l.length d.c (d.l.map R) th (.ag (ay λgL K gG=>K _ _ _ (ay λjl W hU=>aW (λ_=>?_) (λaG=>I))));refine W _ _ _ (ay λkd fO j3=>ew λjU hc iD=>ay λkQ gM kH=>.m g3 P (.hp (R z) (by rw[bn];exact Y) (gM _ _ _ (ay λqS kh qs=>?_))));have em:(k:Int).tmod (n:Int)=((k%n:Nat):Int):=by rw[Int.tmod_eq_emod_of_nonneg I];rfl
 conv=>whnf
 rw[em];refine .mk I (kh _ _ _ (.m f rfl (.row 0 27 1 f n n (D.map bM.val) (k%n) d.val rfl (by rw[bn,e4]) (by rw[de,bK o,<-C];rfl) ?_)));refine .ag (.c0 1 _ [R z] rfl rfl (by intro u hu;rw[hZ]at hu;subst hu;rfl) (by unfold eQ;omega) I λbo bj _=>.m f rfl ?_);refine .row 0 27 1 f n n _ ((D.set (k%n) ⟨bo,bj,d.l++[z]⟩).map bM.val) (k%n) rfl (by rw[bn,e4]) (by
  rw[io _ _ _ (by simpa using o),kB];simp only[bM.val,fb];rfl) ?_
 refine iD _ _ _ _ nofun (fO _ _ _ (.bl (.b5 1 3 1 bo (d.l.length+1) bj _ rfl λaT T fC f4=>.ag ?_)));have gh:=J.le_trans Aa T;have ap:∀(i:Nat)(a:i<D.length),i≠k%n->∀g,D[i].A=some g->∀j,d.A=some j->g.block≠j.block:=λi a ne g b j t q=>TJ _ _ oN i (k%n) a o ne g.block (om b) (by rw[q,<-C];exact om t);have O:∀(i:Nat)(a:i<D.length),i≠k%n->bw (en ae d.A) 3 1 D[i].A D[i].l.length D[i].c (D[i].l.map R):=λi a ne=>by
  exact(w _ (b3 a)).1.del λg j b t=>ap i a ne g b j t
 refine⟨(k+1,D.set (k%n) ⟨bo,bj,d.l++[z]⟩),rfl,rfl,⟨gh,I,by simpa using L,?_,λy aM=>?_,TK _ _ _ _ oN (by cases bo<;>simp[jm]) λi a ne u hu G=>?_⟩,by show l.length- (k+1)<l.length-k;omega⟩;rw[kB];have mn:(D.map bM.l).getD (k%n) []=d.l:=by rw[cc,de,bK o,<-C];rfl
 rw[mn]at hu;exact hu;obtain⟨i,a,rfl⟩:=n4 aM;rw[fI]at a;by_cases e:i=k%n;subst e;simp only[List.getElem_set_self];refine⟨?_,by simp only[fb,amH];omega,λg b=>J.none_le Aa (f4 g b)⟩;rw[fb,fw];exact fC;simp only[List.getElem_set_ne (Ne.symm e)];have:=w _ (b3 a);exact⟨(O i a e).mono T,I,this.2.2⟩;obtain⟨g,b,e⟩:=nR hu;obtain⟨j,t,bH⟩:=nR G;have r:=O i a ne;have:=r.mem t;rw[bH,<-e]at this;exact this (f4 g b);have e:k=l.length:=I;rw[List.drop_eq_nil_of_le I,yS]at hu;refine .ag (ay λgL K gG=>K _ _ _ (ay λjl W hU=>aW (λaG=>I) (λ_=>hU _ _ _ _ nofun (du _ _ _ (cL _ _ _ (.b5 0 27 1 (some f) n n _ rfl λax U eb f3=>.ag ?_))))));have Z:=J.le_trans H U;exact⟨Z.h6,ug.pure le Z,some f,n,D,by rw[L];rfl,hu,aje ug.some_ (by rw[L];exact eb) (λg b=>J.none_le H (f3 g b)) λd E=>⟨(w d E).1.mono U,(w d E).2.2⟩⟩
theorem arw(a':iE B h bV bG x)(le:B.le h)(O:x.tag=1)(T:x.st.length+1=x.a8.length)(hp:x.a8.length<=16)(Q:Option aE)(cf:Nat)(D:List bM)(k:Nat)(e9:D.length=k)(dj:RowsIn h Q D)(am:(D.map bM.l)[0]?=some (z::l)):Fn aD 245 #[bY bG,ab Q k cf] h (uf B h bV bG {x with st:=match zu 0 x.a8 (z::x.st)with|some _=>(z::x.st).take x.st.length|none=>x.st} (I0 (zu 0 x.a8 (z::x.st)))):=by
 obtain⟨i0,g,A,m,c,g2,F,c1,aK,hm,c2⟩:=dj.first am;have t:=a';obtain⟨eg,V,cn,bT,X,hk,eS,to,fQ⟩:=a'.ex;have M:=fQ;unfold s9 at M;rw[aS O]at M;obtain⟨p,j,xx,v,rfl,s,ep⟩:=M;obtain⟨st,f⟩:∃st,st=x.st:=⟨_,rfl⟩;obtain⟨d,w⟩:∃d,d=x.a8:=⟨_,rfl⟩;rw[<-f]at T hk ep⊢;rw[<-w]at T hp hk s⊢;rw[show d.length=1+st.length by omega]at hk s;refine bU ay7 rfl (ay λfD cQ eT=>cQ _ _ _ (ay λfy cM d9=>.mk g F aH I (.hp (ab A m c) c1 (.mk g2 aK aH I (.hp (R z) c2 (.hp (ab xx st.length v) (b1 hk rfl) (.mk λb aj=>.c0 1 _ (st.map R) rfl (by rw[<-yd];exact((ep.mono le).mono (J.le_refl _)).src _) (λu hu=>by obtain⟨y,_,rfl⟩:=cO.1 hu;rfl) (by unfold eQ;omega) I λbo bj _=>cM _ _ _ (ay λfz S eZ=>.hp (ab p (1+st.length) j) (b1 hk rfl) (.b5 1 3 1 bo (1+st.length) bj _ rfl λP a i f3=>.ag ?_)))))))));have i:bw P 3 1 bo (1+st.length) bj ((z::st).map R):=i;have fM:st.length<=bj:=by
  rcases i.2 with⟨_,q,_⟩|⟨_,_,_,_,q,_⟩<;>omega
 have qc:=aqt p bo (1+st.length) j bj d (z::st) P ((s.mono le).mono a) i.one I;cases r:zu 0 d (z::st)with
 |none=>
  rw[r]at qc;refine .mk _ qc ?_;rintro _ _ ⟨rfl,rfl⟩;refine S _ _ _ (.mk λZ H=>.mk λcB K=>?_);subst f w;refine .ag ?_;rw[r];exact Ki t le a H K _
 |some y=>
  rw[r]at qc;refine .mk _ qc ?_;rintro _ _ ⟨rfl,rfl⟩;refine S _ _ _ (.hp (ab xx st.length v) (b1 (a _ _ hk) rfl) (.mk 0 st.length rfl rfl (cU _) fM λo1 mo pa=>?_));rw[MG mo pa];have G:=a _ _ hk;refine .hp bG 4 (x5 x.tag) (ab eg x.ins.length V::ab cn x.outs.length bT::R x.n::[ab p (1+st.length) j,ab xx st.length v]) (ab eg x.ins.length V::ab cn x.outs.length bT::R x.n::[ab p (1+st.length) j,ab bo st.length bj]) rfl G (by rw[io _ _ _ bc];rfl) (.mk λZ H=>.mk λcB K=>?_);obtain⟨C,N⟩:=Gk (bG:=bG) (l:=[y]) (c:=1) (by rw[J.b8];nofun) H [R y] rfl K (J.le_refl _);rw[Wu]at N;have L:J.h6 bG h _:=λo U E Y=>VX C o U E (a _ _ Y);have bt:=N.mono (Wt a λo U _ E=>E);subst w;refine .ag ?_;rw[r];refine⟨L,SL t le L eS to (C _ _ (J.b8 _ _ _)) ?_,_,_,_,rfl,rfl,bt⟩;unfold s9;rw[aS O];have el:((z::st).take st.length).length=st.length:=bc;have jM:=Ox le t.nN L;have W:bw (B.grow h _) 3 1 bo (1+st.length) bj ((z::st).map R):=((i.kx λg F e=>t.some_ (by rw[<-e];exact f3 g F)).mono C).grown f3;refine⟨p,j,bo,bj,?_,?_,?_⟩;simp only;rw[el,show x.a8.length=1+st.length by omega];rw[show x.a8.length=1+st.length by omega];exact s.mono jM;simp only;rw[el];have:=(W.one).take (k:=st.length) I;rw[<-List.map_take]at this;exact this
end Go.Sx
namespace Go.Sx
set_option maxRecDepth 100000
set_option maxHeartbeats 0
set_option linter.all false
variable {C:Nat}{b:gK}
def ZH(tag:Int)(l a b:List Int):Prop:=(tag=1/\1<=l.length/\l.length<=16/\a=[1]/\b=[1])\/(tag=8/\a=[1]/\b=[1])\/(tag=2/\∃n:Nat,1<=n/\n<=64/\a=[1]/\b=[(n:Int)])\/(tag=3/\∃n:Nat,1<=n/\n<=64/\a=[(n:Int)]/\b=[1])\/(tag=4/\∃n m:Nat,1<=n/\n<=16/\1<=m/\n*m<=64/\a=bp n (m:Int)/\b=[((n*m:Nat):Int)])\/(tag=5/\∃n m:Nat,1<=n/\n<=16/\1<=m/\n*m<=64/\a=[((n*m:Nat):Int)]/\b=bp n (m:Int))\/(tag=6/\∃n:Nat,1<=n/\n<=16/\a=bp n 1/\b=[1])\/(tag=7/\a=[1,1]/\b=[1])\/(tag=9/\∃n:Nat,1<=n/\n<=16/\a=[1]/\b=bp n 1)\/(tag=10/\l.length=2/\a=[]/\b=[1])\/(tag=11/\∃n:Nat,1<=n/\n<=64/\a=[(n:Int)]/\b=[])
theorem aFj{tag:Int}{l:List Int}(h:(b6 tag l).1=0):ZH tag l (b6 tag l).2.1 (b6 tag l).2.2:=by
 have two:∀{n m:Int},(1<=n/\n<=16)->(1<=m/\m<=64)->n*m<=64->∃a b:Nat,n=a/\m=b/\1<=a/\a<=16/\1<=b/\a*b<=64:=λ{n m} h1 ae f=>by
  obtain⟨a,rfl⟩:∃a:Nat,n=a:=⟨n.toNat,I⟩;obtain⟨b,rfl⟩:∃b:Nat,m=b:=⟨m.toNat,I⟩;exact⟨a,b,rfl,rfl,I,I,I,by exact_mod_cast f⟩
 have one:∀{n:Int}{k:Nat},(1<=n/\n<=k)->∃a:Nat,n=a/\1<=a/\a<=k:=λ{n k} h1=>⟨n.toNat,I,I,I⟩;unfold b6 at h⊢;dsimp only at h⊢;by_cases q:tag<1\/11<tag;rw[aS q]at h;cases h;rw[aC q]at h⊢;clear q;by_cases q:tag=1/\(1<=(l.length:Int)/\(l.length:Int)<=16)\/tag=8/\l.length=0;rw[aS q];rcases q with q|q;exact bQ ⟨q.1,I,I,rfl,rfl⟩;exact ba (bQ ⟨q.1,rfl,rfl⟩);rw[aC q]at h⊢;clear q;by_cases q:tag=2/\l.length=1/\(1<=l.getD 0 0/\l.getD 0 0<=64);rw[aS q];obtain⟨a,e,h1,ae⟩:=one (k:=64) q.2.2;exact ba (ba (bQ ⟨q.1,a,h1,ae,rfl,by rw[e]⟩));rw[aC q]at h⊢;clear q;by_cases q:tag=3/\l.length=1/\(1<=l.getD 0 0/\l.getD 0 0<=64);rw[aS q];obtain⟨a,e,h1,ae⟩:=one (k:=64) q.2.2;exact ba (ba (ba (bQ ⟨q.1,a,h1,ae,by rw[e],rfl⟩)));rw[aC q]at h⊢;clear q;by_cases q:tag=4/\l.length=2/\(1<=l.getD 0 0/\l.getD 0 0<=16)/\(1<=l.getD 1 0/\l.getD 1 0<=64)/\l.getD 0 0*l.getD 1 0<=64;rw[aS q];obtain⟨a,b,c,d,h1,ae,f,aT⟩:=two q.2.2.1 q.2.2.2.1 q.2.2.2.2;refine ba (ba (ba (ba (bQ ⟨q.1,a,b,h1,ae,f,aT,?_,?_⟩))));rw[c,d,bn];rw[c,d];simp;rw[aC q]at h⊢;clear q;by_cases q:tag=5/\l.length=2/\(1<=l.getD 0 0/\l.getD 0 0<=16)/\(1<=l.getD 1 0/\l.getD 1 0<=64)/\l.getD 0 0*l.getD 1 0<=64;rw[aS q];obtain⟨a,b,c,d,h1,ae,f,aT⟩:=two q.2.2.1 q.2.2.2.1 q.2.2.2.2;refine ba (ba (ba (ba (ba (bQ ⟨q.1,a,b,h1,ae,f,aT,?_,?_⟩)))));rw[c,d];simp;rw[c,d,bn];rw[aC q]at h⊢;clear q;by_cases q:tag=6/\l.length=1/\(1<=l.getD 0 0/\l.getD 0 0<=16);rw[aS q];obtain⟨a,e,h1,ae⟩:=one (k:=16) q.2.2;exact ba (ba (ba (ba (ba (ba (bQ ⟨q.1,a,h1,ae,by rw[e,bn],rfl⟩))))));rw[aC q]at h⊢;clear q;by_cases q:tag=7/\l.length=0;rw[aS q];exact ba (ba (ba (ba (ba (ba (ba (bQ ⟨q.1,rfl,rfl⟩)))))));rw[aC q]at h⊢;clear q;by_cases q:tag=9/\l.length=1/\(1<=l.getD 0 0/\l.getD 0 0<=16);rw[aS q];obtain⟨a,e,h1,ae⟩:=one (k:=16) q.2.2;exact ba (ba (ba (ba (ba (ba (ba (ba (bQ ⟨q.1,a,h1,ae,rfl,by rw[e,bn]⟩))))))));rw[aC q]at h⊢;clear q;by_cases q:tag=10/\l.length=2;rw[aS q];exact ba (ba (ba (ba (ba (ba (ba (ba (ba (bQ ⟨q.1,q.2,rfl,rfl⟩)))))))));rw[aC q]at h⊢;clear q;by_cases q:tag=11/\l.length=1/\(1<=l.getD 0 0/\l.getD 0 0<=64);rw[aS q];obtain⟨a,e,h1,ae⟩:=one (k:=64) q.2.2;exact ba (ba (ba (ba (ba (ba (ba (ba (ba (ba ⟨q.1,a,h1,ae,by rw[e],rfl⟩)))))))));rw[aC q]at h;cases h
theorem foldl_add(a:Int):∀l:List Int,l.foldl (·+·) a=a+hz l
 |[]=>by simp[hz]
 |x::l=>by
  have h1:=foldl_add (a+x) l;have ae:hz (x::l)=0+x+hz l:=foldl_add (0+x) l;rw[vk,h1,ae];omega
theorem Ef x l:hz (x::l)=x+hz l:=by
 rw[hz,vk,foldl_add];omega
theorem aF0{l:List Int}(h:∀r∈l,0<=r):0<=hz l:=by
 induction l with
 |nil=>exact y4 _
 |cons x l b=>
  rw[Ef];have:=h x (hq ..);have:=b λr a=>h r (gd _ a);omega
theorem NY:∀ins hand,(∀r∈ins,0<=r)->(hand.length:Int)=hz ins->(kp hand ins).map (λl=>(l.length:Int))=ins/\Kw hand ins
 |[],_,_,_=>⟨rfl,trivial⟩
 |r::ins,hand,h,b=>by
  rw[Ef]at b;have am:=h r (hq ..);have hp:=aF0 λr a=>h r (gd _ a);obtain⟨i1,i2⟩:=NY ins (hand.drop r.toNat) (λr a=>h r (gd _ a)) (by rw[mU];omega);refine⟨?_,am,I,i2⟩;rw[kp,er,i1,mV];congr 1;omega
structure la(C:Nat)(b:gK):Prop where
 sX:(b6 b.tag b.a8).1=0
 ins:b.ins=(b6 b.tag b.a8).2.1
 outs:b.outs=(b6 b.tag b.a8).2.2
 st1:b.tag=1->b.st.length+1=b.a8.length
 MI:b.tag=8\/b.tag=10->b.st.length=1
 hi:0<=b.n
 cR:b.n+C<=1000000000000
theorem la.inv(v:la C b):ZH b.tag b.a8 b.ins b.outs:=by rw[v.ins,v.outs];exact aFj v.sX
theorem la.tag{C:Nat}{b:gK}(v:la C b):1<=b.tag/\b.tag<=11:=by
 rcases v.inv with q|q|q|q|q|q|q|q|q|q|q<;>have:=q.1<;>omega
theorem la.oT(v:la C b):∀r∈b.ins,1<=r/\r<=64:=by rw[v.ins];exact(MF b.tag b.a8).1
theorem la.Gy(v:la C b):∀r∈b.outs,1<=r/\r<=64:=by rw[v.outs];exact(MF b.tag b.a8).2
theorem akc n m:hz (bp n m)=n*m:=by
 induction n with
 |zero=>simp[hz]
 |succ n a=>rw[A4,Ef,a];push_cast;rw[Int.add_mul];omega
theorem la.rI(v:la C b):b.ins.length<=16/\b.outs.length<=16/\hz b.outs<=64:=by
 rcases v.inv with⟨_,_,_,h1,ae⟩|⟨_,h1,ae⟩|⟨_,n,_,_,h1,ae⟩|⟨_,n,_,_,h1,ae⟩|⟨_,n,m,_,_,_,_,h1,ae⟩|⟨_,n,m,_,_,_,h,h1,ae⟩|⟨_,n,_,_,h1,ae⟩|⟨_,h1,ae⟩|⟨_,n,_,_,h1,ae⟩|⟨_,_,h1,ae⟩|⟨_,n,_,_,h1,ae⟩<;>rw[h1,ae]<;>simp[Ef,akc,show hz []=0 from rfl];all_goals first|omega|skip
 all_goals(refine⟨I,?_⟩;exact_mod_cast h)
theorem aqi hand:∀ins,(kp hand ins).length=ins.length:=by
 intro ins;induction ins generalizing hand with
 |nil=>rfl
 |cons r ins a=>rw[kp,iJ,a,iJ]
theorem ak2 n:∀l k U,(yS n k l U).length=U.length
 |[],_,_=>rfl
 |x::l,k,U=>by rw[yS,ak2 n l];simp
theorem ak1{n:Nat}(c:1<=n):∀l k U,U.length=n->(∀i,i<n->(U.getD i []).length=(k+n-1-i)/n)->∀i,i<n->((yS n k l U).getD i []).length=(k+l.length+n-1-i)/n
 |[],k,U,_,h,i,b=>h i b
 |x::l,k,U,al,h,i,b=>by
  rw[yS,ak1 c l (k+1) _ (by simpa using al) ?_ i b];rw[iJ,show k+1+l.length=k+(l.length+1) by omega];intro i b;have step:(k+1+n-1-i)/n=(k+n-1-i)/n+if k%n=i then 1 else 0:=by
   obtain⟨a,r,d,rfl⟩:∃a r,r<n/\k=n*a+r:=⟨k/n,k%n,am8 k c,(Nat.div_add_mod k n).symm⟩;rw[Nat.mul_add_mod,Nat.mod_eq_of_lt d,show n*a+r+1+n-1-i=n*a+(r+n-i) by omega,show n*a+r+n-1-i=n*a+(r+n-1-i) by omega,am' I,am' I];have d1:(r+n-i)/n=if i<=r then 1 else 0:=by
    split;exact Zu I I;exact Nr I
   have d2:(r+n-1-i)/n=if i+1<=r then 1 else 0:=by
    split;exact Zu I I;exact Nr I
   rw[d1,d2];split<;>split<;>split<;>omega
  rw[step];by_cases q:k%n=i;rw[aS q,cc,q,JP I,pB,fb,h i b];rfl;rw[aC q,cc,R2 q,<-cc,h i b];rfl
theorem HV(v:la (C+1) b) hand(k:(hand.length:Int)=hz b.ins):la C (nc b (kp hand b.ins)).2/\(nc b (kp hand b.ins)).2.ins=b.ins/\∀outs,(nc b (kp hand b.ins)).1=some outs->outs.map (λl=>(l.length:Int))=b.outs:=by
 have key:((ps b (kp hand b.ins)).2.length=b.st.length)/\∀outs,(ps b (kp hand b.ins)).1=some outs->outs.map (λl=>(l.length:Int))=b.outs:=by
  obtain⟨dl,_⟩:=NY b.ins hand (λr j=>by have:=v.oT r j;omega) k;have e:=aqi hand b.ins;generalize kp hand b.ins=D at dl e;have f:=v.MI;have inv:=v.inv;obtain⟨tag,o,st,n,ins,outs⟩:=b;simp only at dl e f inv⊢;rcases inv with⟨c,_,_,h1,ae⟩|⟨c,h1,ae⟩|⟨c,n,h,_,h1,ae⟩|⟨c,n,_,_,h1,ae⟩|⟨c,n,m,_,_,_,_,h1,ae⟩|⟨c,n,m,h,_,_,_,h1,ae⟩|⟨c,n,_,_,h1,ae⟩|⟨c,h1,ae⟩|⟨c,n,_,_,h1,ae⟩|⟨c,_,h1,ae⟩|⟨c,n,_,_,h1,ae⟩;obtain rfl:tag=1:=by omega
  subst h1 ae;unfold ps;simp only;split;exact⟨bc,λU a=>by cases a;rfl⟩;exact⟨rfl,λU a=>by cases a⟩;obtain rfl:tag=8:=by omega
  subst h1 ae;unfold ps;simp only;split;exact⟨by rw[f (bQ rfl)];rfl,λU a=>by cases a;rfl⟩;exact⟨rfl,λU a=>by cases a⟩;obtain rfl:tag=2:=by omega
  subst h1 ae;exact⟨rfl,λU a=>by cases a;simp;omega⟩;obtain rfl:tag=3:=by omega
  subst h1 ae;exact⟨rfl,λU a=>by cases a;rfl⟩;obtain rfl:tag=4:=by omega
  subst h1 ae;refine⟨rfl,λU a=>?_⟩;cases a;simp only[er,y8,alb,e,uc,cc];rw[A3,aS I,pB,bn,Ns];obtain rfl:tag=5:=by omega
  subst h1 ae;refine⟨rfl,λU a=>?_⟩;cases a;simp only[uc];have al:(D.getD 0 []).length=n*m:=by
   rcases D with _|⟨d,D⟩;cases dl;rw[er]at dl;injection dl with d1 d2;show d.length=_;omega
  have each:=ak1 h (D.getD 0 []) 0 (bp n []) bc (λi g=>by
   rw[cc,A3,aS g,Nr I];rfl)
  have ul:=ak2 n (D.getD 0 []) 0 (bp n []);rw[uc]at ul;apply List.ext_getElem (by rw[fj,ul,uc]);intro i h1 ae;have g:i<n:=by simpa using ae
  have:=each i g;rw[cc,bK I,pB,al]at this;rw[EH,this,List.getElem_replicate];congr 1;rw[dZ,Ns];exact Zu (by rw[Ns];omega) (by rw[Nat.add_mul,Ns];omega);obtain rfl:tag=6:=by omega
  subst h1 ae;refine⟨rfl,λU a=>?_⟩;obtain⟨y,_,rfl⟩:=zc.1 a;rfl;obtain rfl:tag=7:=by omega
  subst h1 ae;refine⟨rfl,λU a=>?_⟩;obtain⟨y,_,rfl⟩:=zc.1 a;rfl;obtain rfl:tag=9:=by omega
  subst h1 ae;exact⟨rfl,λU a=>by cases a;simp⟩;obtain rfl:tag=10:=by omega
  subst h1 ae;unfold ps;simp only;split;exact⟨by rw[f (ba rfl)];rfl,λU a=>by cases a;rfl⟩;exact⟨rfl,λU a=>by cases a⟩;obtain rfl:tag=11:=by omega
  subst h1 ae;exact⟨rfl,λU a=>by cases a;rfl⟩
 have base:la (C+1) {b with st:=(ps b (kp hand b.ins)).2}:=⟨v.sX,v.ins,v.outs,λq=>by rw[<-v.st1 q];simp only[key.1],λq=>by simp only[key.1];exact v.MI q,v.hi,v.cR⟩;unfold nc;refine⟨?_,?_,key.2⟩;cases(ps b (kp hand b.ins)).1 with
 |none=>exact⟨base.sX,base.ins,base.outs,base.st1,base.MI,base.hi,by have:=base.cR;simp only[Km]at this⊢;omega⟩
 |some U=>exact⟨base.sX,base.ins,base.outs,base.st1,base.MI,by have:=base.hi;simp only[Km]at this⊢;omega,by have:=base.cR;simp only[Km]at this⊢;omega⟩
 cases(ps b (kp hand b.ins)).1<;>rfl
end Go.Sx
namespace Go.Sx
open Go.Proofs
set_option maxRecDepth 100000
set_option maxHeartbeats 0
set_option linter.all false
theorem acC{ins:List (List Int)}{rs:List Int}(dl:ins.map (λl=>(l.length:Int))=rs){i:Nat}{r:Int}(a:rs[i]?=some r)(h1:1<=r):∃l,ins[i]?=some (pd ins i::l):=by
 subst dl;rw[de]at a;cases b:ins[i]?with
 |none=>rw[b]at a;cases a
 |some q=>
  rw[b]at a;have a:(q.length:Int)=r:=wF a;cases q with
  |nil=>simp only[List.length_nil]at a;omega
  |cons z l=>
   refine⟨l,?_⟩;have e:ins.getD i []=z::l:=by rw[cc,b];rfl
   rw[pd,e];rfl
theorem aD7{B h:J}{bV bG:Nat}{x:gK}{C:Nat}(a':iE B h bV bG x)(le:B.le h)(v:la C x) a cf D n(j:D.length=n)(g:RowsIn h a D) ins(f:D.map bM.l=ins)(dl:ins.map (λl=>(l.length:Int))=x.ins):Fn aD (QA x.tag) #[bY bG,ab a n cf] h (uf B h bV bG {x with st:=(ps x ins).2} (ps x ins).1):=by
 have b:D.length=x.ins.length:=by
  have h1:=eu fv dl;have ae:=eu fv f;simp only[fj]at h1 ae;omega
 have s1:=v.st1;have M:=v.rI;have inv:=v.inv;obtain⟨tag,z,st,gH,y,o⟩:=x;simp only at dl b s1 M inv⊢;have one:∀{r:Int}{E:List Int},y=r::E->1<=r->∃l,(D.map bM.l)[0]?=some (pd ins 0::l):=λ{r E} e K=>by
  rw[f];exact acC dl (i:=0) (r:=r) (by rw[e];rfl) K
 rcases inv with⟨c,_,s,h1,ae⟩|⟨c,h1,ae⟩|⟨c,m,m1,m2,h1,ae⟩|⟨c,m,m1,m2,h1,ae⟩|⟨c,m,w,m1,m2,L,F,h1,ae⟩|⟨c,m,w,m1,m2,L,F,h1,ae⟩|⟨c,m,m1,m2,h1,ae⟩|⟨c,h1,ae⟩|⟨c,m,m1,m2,h1,ae⟩|⟨c,_,h1,ae⟩|⟨c,m,m1,m2,h1,ae⟩;obtain rfl:tag=1:=by omega
 obtain⟨l,al⟩:=one h1 aH;refine(arw a' le rfl (s1 rfl) s a cf D n j g al).mono λv A q=>?_;unfold ps I0 at*;simp only at q⊢;cases k:zu 0 z (pd ins 0::st)<;>rw[k]at q<;>exact q;obtain rfl:tag=8:=by omega
 obtain⟨l,al⟩:=one h1 aH;refine(aFZ a' le rfl a cf D n j g al).mono λv A q=>?_;unfold ps I0 at*;simp only at q⊢;cases k:pC (st.getD 0 0) (pd ins 0)<;>rw[k]at q<;>exact q;obtain rfl:tag=2:=by omega
 obtain⟨l,al⟩:=one h1 aH;have p:n=1:=by rw[h1]at b;simp at b;omega
 subst p;obtain⟨d,rfl⟩:∃d,D=[d]:=Zl.1 j;have al:d.l=pd ins 0::l:=by simpa using al
 have:=aHC a' le m ae m1 m2 a cf d (pd ins 0) l al g;subst ae;exact this;obtain rfl:tag=3:=by omega
 obtain⟨l,al⟩:=one h1 I;have p:n=1:=by rw[h1]at b;simp at b;omega
 subst p;obtain⟨d,rfl⟩:∃d,D=[d]:=Zl.1 j;have al:d.l=pd ins 0::l:=by simpa using al
 exact aqu a' le a cf d (pd ins 0) l al g;obtain rfl:tag=4:=by omega
 have u:∀d∈D,d.l.length=w:=λd t=>by
  have:((d.l.length:Nat):Int)∈ins.map λl=>(l.length:Int):=cO.2 ⟨d.l,by rw[<-f];exact cO.2 ⟨d,t,rfl⟩,rfl⟩;rw[dl,h1]at this;have:=(ud.1 this).2;omega
 have H:n=m:=by rw[h1]at b;simp at b;omega
 subst H;have:=aHL a' le n w h1 ae I m2 F a cf D j g u;rw[f]at this;have e:(y.getD 0 0).toNat=w:=by rw[h1,cc,A3,aS I];simp
 unfold ps;simp only;rw[e];exact this;obtain rfl:tag=5:=by omega
 have p:n=1:=by rw[h1]at b;simp at b;omega
 subst p;obtain⟨d,rfl⟩:∃d,D=[d]:=Zl.1 j;have O:d.l.length=m*w:=by
  rw[<-f,h1]at dl;have:=List.head_eq_of_cons_eq dl;simp only at this;exact_mod_cast this
 have:=aHB a' le m (by rw[ae];simp) m1 m2 a cf d g I;unfold ps;simp only;rw[<-f];have e:o.length=m:=by rw[ae];simp
 rw[e];exact this;obtain rfl:tag=6:=by omega
 have u:∀d∈D,0<d.l.length:=λd t=>by
  have:((d.l.length:Nat):Int)∈ins.map λl=>(l.length:Int):=cO.2 ⟨d.l,by rw[<-f];exact cO.2 ⟨d,t,rfl⟩,rfl⟩;rw[dl,h1]at this;have:=(ud.1 this).2;omega
 have:=aoS (r:=bY bG) a' le a cf D n j (by rw[h1]at b;simp at b;omega) g u;rw[f]at this;exact this;obtain rfl:tag=7:=by omega
 obtain⟨l,al⟩:=one h1 aH;obtain⟨N,G⟩:=acC dl (i:=1) (r:=1) (by rw[h1];rfl) aH;rw[<-f]at G;have:=aDF (r:=bY bG) a' le a cf D n j g al G;subst f;exact this;obtain rfl:tag=9:=by omega
 obtain⟨l,al⟩:=one h1 aH;have e:o.length=m:=by rw[ae];simp
 have:=ap' a' le m e m2 a cf D n j g al;unfold ps;simp only;rw[e];exact this;obtain rfl:tag=10:=by omega
 refine(aGy (i:=ab a n cf) a' le rfl).mono λv A q=>?_;unfold ps at*;simp only at q⊢;cases k:pC (st.getD 0 0) (z.getD 1 0)<;>rw[k]at q<;>exact q;obtain rfl:tag=11:=by omega
 exact aqw a' le
end Go.Sx
namespace Go.Sx
set_option maxRecDepth 100000
set_option maxHeartbeats 0
set_option linter.all false
variable {C:Nat}{x:fK}{p:jC}
def amW(p:jC)(l:lb):Prop:=(0<=l.base/\0<=l.size/\l.base+l.size<=p.mem)/\(0<=l.at_/\l.at_<=1024)/\0<=l.br/\l.br<=l.size
structure ta(p:jC)(C:Nat)(x:fK):Prop where
 mem:x.mem.length=p.mem.toNat
 ds:x.lines.length=p.lines.length
 line:∀l∈x.lines,amW p l
 cZ:x.cZ.length=p.ins.toNat
 wr:x.wr.length=p.outs.toNat
 n0:∀w∈x.wr,w.length+64*C<=1000000000
 cb:x.f'.length=p.parts.length
 cK:x.ir.length=p.parts.length
 k3:∀b∈x.f',la C b
 nv:∀i,i<x.f'.length->x.ir.getD i 0=hz (x.f'.getD i gl).ins
 dg:x.dg.length=p.br.toNat
 hand:x.hand.length<=64
 eU:0<=x.eU/\x.eU+C<=1000000000
structure tb(p:jC)(C:Nat)(x:fK):Prop where
 w:ta p C x
 ops:x.ops=p.ops
 st:x.ox=false
 iY:0<=x.next/\x.next<p.ops.length
theorem la.less{b:gK}(v:la (C+1) b):la C b:=⟨v.sX,v.ins,v.outs,v.st1,v.MI,v.hi,by have:=v.cR;omega⟩
theorem ta.less{p:jC}{C:Nat}{x:fK}(v:ta p (C+1) x):ta p C x:=⟨v.mem,v.ds,v.line,v.cZ,v.wr,λw hw=>by have:=v.n0 w hw;omega,v.cb,v.cK,λb a=>(v.k3 b a).less,v.nv,v.dg,v.hand,by have:=v.eU;omega⟩
theorem ta.down{p:jC}{x:fK}:∀{C:Nat},ta p C x->ta p 0 x
 |0,v=>v
 |_+1,v=>v.less.down
theorem acJ:∀{outs:List (List Int)}{rs:List Int},outs.map (λl=>(l.length:Int))=rs->(outs.flatten.length:Int)=hz rs
 |[],_,h=>by subst h;rfl
 |U::outs,_,h=>by
  subst h;rw[er,Ef,<-acJ (outs:=outs) rfl,List.flatten_cons,fb];omega
theorem HY{l:List gK}{i:Nat} h:l.getD i gl=l[i]:=by
 rw[cc,bK h];rfl
theorem Ou{l:List lb}{i:Nat} h:l.getD i jN=l[i]:=by
 rw[cc,bK h];rfl
theorem PY{α:Type}{l:List α}{i:Nat}{x y:α}(h:y∈l.set i x):y∈l\/y=x:=wA h
theorem ac4{α:Type}{l:List (List α)}{a:Nat} h:l.getD a []=l[a]:=by
 rw[cc,bK h];rfl
theorem apc{T:Int}(t:p.rt T)(v:ta p (C+1) x){i:Nat}{U:cm}(A:CQ p i U):ta p C (db x U).1:=by
 have c:=v.less;have m0:=t.m0;have m1:=t.m1;rcases A with⟨rfl,_⟩|⟨hk,a0,m,_⟩|⟨hk,a0,m,_⟩|⟨hk,a0,m,g,j⟩|⟨hk,a0,m,g,j⟩|⟨hk,a0,m,g,j⟩|⟨hk,a0,m,g,j⟩|⟨hk,a0,m,D⟩;simp only[db];split;exact{c with eU:=by have:=v.eU;simp only;omega};exact c;all_goals
  obtain⟨k,a,b⟩:=U
  simp only at hk a0 m
  subst hk
  simp only[db]
 exact{c with dg:=by simp only[fI];exact c.dg};exact{c with dg:=by simp only[fI];exact c.dg};simp only at g j;have d:a.toNat<x.lines.length:=by rw[v.ds];omega
 rw[Ou d];have z:=v.line _ (b3 d);split;exact c;rename_i q;obtain⟨n,y,lc⟩:=z;have B:1<=x.lines[a.toNat].size:=I;refine{c with ds:=by simp only[u7,fI];exact v.ds,line:=λl al=>?_,hand:=by simp only[u7,fb,Jr];omega};rcases PY al with al|rfl;exact v.line l al;refine⟨n,⟨Int.emod_nonneg _ I,?_⟩,by simp only;omega,by simp only;omega⟩;have:=Int.emod_lt_of_pos (x.lines[a.toNat].at_+(b.toNat:Int)) (show 0<x.lines[a.toNat].size by omega);simp only;omega;simp only at g j;have d:a.toNat<x.lines.length:=by rw[v.ds];omega
 rw[Ou d];obtain⟨n,y,lc⟩:=v.line _ (b3 d);split;exact c;rename_i q;refine{c with mem:=by simp only[w4,LR];exact v.mem,ds:=by simp only[w4,fI];exact v.ds,line:=λl al=>?_,hand:=by have:=v.hand;simp only[w4,mU];omega};rcases PY al with al|rfl;exact v.line l al;exact⟨n,y,by simp only;omega,by simp only;omega⟩;simp only at g j;split;exact c;split;exact c;refine{c with cZ:=by simp only[Aq,fI];exact v.cZ,hand:=by simp only[Aq,fb,mV];omega};simp only at g j;split;exact c;refine{c with wr:=by simp only[AF,fI];exact v.wr,n0:=λw hw=>?_,hand:=by have:=v.hand;simp only[AF,mU];omega};rcases PY hw with hw|rfl;exact c.n0 w hw;have d:a.toNat<x.wr.length:=by rw[v.wr];omega
 have:=v.n0 _ (b3 d);rw[ac4 d,fb,mV];omega;have d:a.toNat<x.f'.length:=by rw[v.cb];omega
 have bv:=v.k3 _ (b3 d);split;rename_i q;rw[v.nv _ d]at q;rw[HY d]at q⊢;obtain⟨f1,f2,f3⟩:=HV bv x.hand q;have u:∀f,f.ins=x.f'[a.toNat].ins->∀i,i<(x.f'.set a.toNat f).length->x.ir.getD i 0=hz ((x.f'.set a.toNat f).getD i gl).ins:=λf o i r=>by
  have s:i<x.f'.length:=by simpa using r
  rw[v.nv i s,HY r,HY s,List.getElem_set];split;rename_i e;subst e;rw[o];rfl
 have a1:∀f,la C f->∀b∈x.f'.set a.toNat f,la C b:=λf o b h=>by
  rcases PY h with h|rfl;exact c.k3 b h;exact o
 split;rename_i outs f e;rw[e]at f1 f2 f3;have E:=bv.rI.2.2;have:=acJ (f3 outs rfl);exact{c with cb:=by simp only[vu,fI];exact v.cb,k3:=a1 _ f1,nv:=u _ f2,hand:=by simp only[vu];omega};rename_i f e;rw[e]at f1 f2;exact{c with cb:=by simp only[fI];exact v.cb,k3:=a1 _ f1,nv:=u _ f2};exact c
theorem al4{T:Int}(b:p.rt T){i:Nat} a(h:p.ops[i].k≠0):i+1<p.ops.length:=by
 obtain⟨l,al⟩:=b.last;refine xH λq=>h ?_;have e:i=l.length:=by have:=eu fv al;simp at this;omega
 have:p.ops[i]?=some ⟨0,0,0⟩:=by rw[al,e,List.getElem?_append_right (dM _),xQ];rfl
 rw[bK a]at this;rw[wF this]
theorem asu{l:List cm}{i:Nat} h:l.getD i B8=l[i]:=by
 rw[cc,bK h];rfl
theorem tb.op(v:tb p C x):∃h,x.ops.getD x.next.toNat B8=p.ops[x.next.toNat]:=by
 have:=v.iY;have h:x.next.toNat<p.ops.length:=I;exact⟨h,by rw[v.ops];exact asu h⟩
theorem aah{U:cm}:(db x U).1.ops=x.ops/\(db x U).1.ox=x.ox/\((db x U).1.next=x.next\/(U.k=0/\(db x U).1.next= -1)\/(U.k=2/\(db x U).1.next=U.b-1))/\((db x U).2=1->U.k=0)/\(U.k=0->(db x U).2=0\/(db x U).2=1->(db x U).1.next= -1):=by
 obtain⟨k,a,b⟩:=U;match k with
 |0=>simp only[db];split<;>simp
 |1=>simp[db]
 |2=>simp only[db];split<;>simp
 |3=>simp only[db];split<;>simp[u7]
 |4=>simp only[db];split<;>(try split)<;>simp[Aq]
 |5=>simp only[db];split<;>(try split)<;>simp[vu]
 |6=>simp only[db];split<;>simp[w4]
 |n+7=>simp only[db];split<;>simp[AF]
theorem aag x U:(db x U).2<=4:=by
 obtain⟨k,a,b⟩:=U;match k with
 |0=>simp only[db];split<;>simp
 |1=>simp[db]
 |2=>simp[db]
 |3=>simp only[db];split<;>simp
 |4=>simp only[db];split<;>(try split)<;>simp
 |5=>simp only[db];split<;>(try split)<;>simp
 |6=>simp only[db];split<;>simp
 |n+7=>simp only[db];split<;>simp
theorem aFT x:(jH x).2<=4:=by
 have:=aag x (x.ops.getD x.next.toNat B8);unfold jH;simp only;split;exact this;split<;>exact this
theorem tb.step{p:jC}{T:Int}(b:p.rt T){C:Nat}{x:fK}(v:tb p (C+1) x):ta p C (jH x).1/\((jH x).2=0\/(jH x).2=1->tb p C (jH x).1):=by
 obtain⟨c,i⟩:=v.op;have f:=b.snd _ c;have a:=apc b v.w f;obtain⟨k,j,l,r,g⟩:=aah (x:=x) (U:=p.ops[x.next.toNat]);have o:=v.iY;unfold jH;rw[i];simp only;by_cases q:(db x p.ops[x.next.toNat]).2=0\/(db x p.ops[x.next.toNat]).2=1
 .rw[aS q];have w:ta p C {(db x p.ops[x.next.toNat]).1 with next:=(db x p.ops[x.next.toNat]).1.next+1}:={a with};refine⟨w,λ_=>⟨w,k.trans v.ops,j.trans v.st,?_⟩⟩;simp only;rcases l with e|⟨_,e⟩|⟨d,e⟩;rw[e];have:=al4 b c (λm=>by have:=g m q;omega);omega;rw[e];omega;rw[e];rcases f with⟨h,_⟩|h|h|h|h|h|h|h;rw[h]at d;cases d;all_goals(have:=h.1;have:=h.2;omega)
 rw[aC q];split;rename_i n;exact⟨a,λh=>I⟩;exact⟨{a with},λh=>by simp only at h;omega⟩
end Go.Sx
namespace Go.Sx
open Go.Proofs
set_option maxRecDepth 100000
set_option maxHeartbeats 0
set_option linter.all false
theorem acB{B h:J}{bV bG:Nat}{x:gK}{C:Nat}{hand:List Int}(m:iE B h bV bG x)(le:B.le h)(v:la (C+1) x)(k:(hand.length:Int)=hz x.ins) ae a cf D n(b:h.le ae)(e:RowsIn ae a D)(f:D.length=n)(g:D.map bM.l=kp hand x.ins):Fn aD 89 #[bY bV,ab a n cf] ae (RJ B ae bV bG (nc x (kp hand x.ins)).2 (nc x (kp hand x.ins)).1):=by
 obtain⟨dl,_⟩:=NY x.ins hand (λr j=>by have:=v.oT r j;omega) k;have al:D.map (λd=>(d.l.length:Int))=x.ins:=by
  refine Eq.trans ?_ dl;rw[<-g,ig];rfl
 have hi:=v.hi;have p:=v.cR;exact arJ (m.up b) (J.le_trans le b) v.tag.1 v.tag.2 v.rI.1 v.rI.2.1 a cf D n f e al {x with st:=(ps x (kp hand x.ins)).2} ⟨hi,by simp only;omega⟩ rfl _ λo c i=>aD7 i (J.le_trans le (J.le_trans b c)) v a cf D n f (e.mono c) _ g dl
theorem apb{p:jC}{T:Int}(G:p.rt T){B h:J}{a1:Nat}{m:fx}{C:Nat}(k:dr B h a1 m)(v:ta p (C+1) m.x){c6:Nat}{op:Int}{dk:Nat}{ds:Int}(he:h c6=some (na op dk ds (ab none 0 0) 0))(s:B c6=none){i:Nat}{U:cm}(X:CQ p i U):U.k<8/\Fn aD (78+U.k) #[bY a1,.agg #[bC .u8 U.k,R U.a,R U.b],bY c6] h λ_ l=>oB B a1 c6 op dk ds (db m.x U).1 (db m.x U).2 l:=by
 have m0:=G.m0;have m1:=G.m1;have Y:=v.mem;have bP:=v.hand;have z:=v.eU;rcases X with⟨rfl,_⟩|⟨hk,a0,o,g,f⟩|⟨hk,a0,o,g,f⟩|⟨hk,a0,o,g,f⟩|⟨hk,a0,o,g,f⟩|⟨hk,a0,o,g,f⟩|⟨hk,a0,o,g,f⟩|⟨hk,a0,o,g⟩;refine⟨bc,(aqN k (w:=bC .u8 (0:Nat)) he s ⟨z.1,I⟩).mono λ_ l q=>?_⟩;simp only[db];split;rename_i c;rw[aS c]at q;exact q;rename_i c;rw[aC c]at q;exact q;all_goals
  obtain⟨ca,a,b⟩:=U
  simp only at hk a0 o g
  subst hk
  obtain⟨a,rfl⟩:∃n:Nat,a=n:=⟨a.toNat,I⟩
  refine⟨bc,?_⟩
  simp only[db,bn]
 have av:=v.dg;exact atX k he a b a0 I;simp only at f;have av:=v.dg;have ol:=G.op;have d:a<m.x.dg.length:=I;have e:m.x.dg.getD a 0=m.x.dg[a]:=by rw[cc,bK d];rfl
 rw[e];exact apf k he a b a0 (by simpa using d) ⟨g,I⟩;simp only at f;have av:=v.ds;have d:a<m.x.lines.length:=I;obtain⟨b,rfl⟩:∃n:Nat,b=n:=⟨b.toNat,I⟩;rw[Ou d,bn];obtain⟨E,A,u⟩:=v.line _ (b3 d);refine(aGq k (w:=bC .u8 (3:Nat)) he s a b _ d rfl E.1 u.2 I I ⟨A.1,I⟩ ⟨u.1,I⟩ I I I).mono λ_ l q=>?_;split;rename_i c;rw[aS c]at q;exact q;rename_i c;rw[aC c]at q;exact q;simp only at f;have av:=v.ds;have d:a<m.x.lines.length:=I;obtain⟨b,rfl⟩:∃n:Nat,b=n:=⟨b.toNat,I⟩;rw[Ou d,bn];obtain⟨E,A,u⟩:=v.line _ (b3 d);refine(asx k (w:=bC .u8 (6:Nat)) he s a b _ d rfl E.1 I I ⟨A.1,I⟩ ⟨u.1,I⟩ I I I).mono λ_ l q=>?_;split;rename_i c;rw[aS c]at q;exact q;rename_i c;rw[aC c]at q;exact q;simp only at f;have av:=v.cZ;obtain⟨b,rfl⟩:∃n:Nat,b=n:=⟨b.toNat,I⟩;rw[bn];refine(aD5 k (w:=bC .u8 (4:Nat)) he s a b I I I I).mono λ_ l q=>?_;split;rename_i c;rw[aS c]at q;exact q;rename_i c;rw[aC c]at q;split;rename_i y;rw[aS y]at q;exact q;rename_i y;rw[aC y]at q;exact q;simp only at f;have av:=v.wr;have d:a<m.x.wr.length:=I;obtain⟨b,rfl⟩:∃n:Nat,b=n:=⟨b.toNat,I⟩;rw[bn];have Z:=v.n0 _ (b3 d);refine(aH3 k (w:=bC .u8 (7:Nat)) he s a b d I I I (by rw[ac4 d];omega)).mono λ_ l q=>?_;split;rename_i c;rw[aS c]at q;exact q;rename_i c;rw[aC c]at q;exact q;have aj:=v.cb;have aw:=v.cK;have d:a<m.x.f'.length:=I;have K:a<m.x.ir.length:=I;have bv:=v.k3 _ (b3 d);have t:=v.nv a d;have L:m.x.ir.getD a 0=m.x.ir[a]:=by rw[cc,bK K];rfl
 rw[HY d]at t⊢;rw[L]at t⊢;subst g;have go:=λj:(m.x.hand.length:Int)=m.x.ir[a]=>(NY m.x.f'[a].ins m.x.hand (λr N=>by have:=bv.oT r N;omega) (j.trans t)).2;refine(call83 k (w:=bC .u8 (5:Nat)) (on:=R 0) he s a d K _ rfl I bv.tag.1 bv.tag.2 bv.rI.1 bv.rI.2.1 go (nc m.x.f'[a] (kp m.x.hand m.x.f'[a].ins)).2 (nc m.x.f'[a] (kp m.x.hand m.x.f'[a].ins)).1 (λj outs e=>?_) λj bV bG V ae O cf D n P Q S W=>?_).mono λ_ l q=>?_;have H:=(HV bv m.x.hand (j.trans t)).2.2 outs e;have rI:=bv.rI.2.1;refine⟨λU M=>?_,by have:=eu fv H;simp at this;omega⟩;have:=bv.Gy (U.length:Int) (by rw[<-H];exact cO.2 ⟨U,M,rfl⟩);omega;exact acB V k.le bv (j.trans t) ae O cf D n P Q S W;by_cases j:(m.x.hand.length:Int)=m.x.ir[a];rw[aS j]at q⊢;generalize nc m.x.f'[a] (kp m.x.hand m.x.f'[a].ins)=F at q⊢;obtain⟨r,dN⟩:=F;cases r with
 |some outs=>exact q
 |none=>exact q
 rw[aC j]at q⊢;exact q
end Go.Sx
namespace Go.Sx
set_option maxRecDepth 100000
set_option maxHeartbeats 0
set_option linter.all false
theorem aaz{x:n7}{C:Nat}(b:(b6 x.tag x.a8).1=0)(hC:C<=100000000):la C (Bi x):=by
 obtain⟨⟨t,e,t1,t2⟩,c,d⟩:=QZ b;have a:((x.tag.toNat:Nat):Int)=x.tag:=I;refine⟨by show(b6 (x.tag.toNat:Nat) x.a8).1=0;rw[a];exact b,by show _=(b6 (x.tag.toNat:Nat) x.a8).2.1;rw[a];rfl,by show _=(b6 (x.tag.toNat:Nat) x.a8).2.2;rw[a];rfl,λq=>?_,λq=>?_,y4 _,?_⟩;have q:x.tag.toNat=1:=q;show(yQ x.tag.toNat x.a8).length+1=x.a8.length;rw[q];have:=c I;simp[yQ];omega;have q:x.tag.toNat=8\/x.tag.toNat=10:=q;show(yQ x.tag.toNat x.a8).length=1;rcases q with q|q<;>rw[q]<;>rfl;show(0:Int)+C<=_;omega
theorem tb.start{p:jC}{T:Int}(c:p.rt T){cZ:List (List Int)}(g:cZ.length=p.ins.toNat){C:Nat}(hC:C<=10000000):tb p C {iP p with cZ:=cZ}:=by
 have al:(iP p).mem.length=p.mem.toNat:=PX _ _ _ bc λy a=>by have:=c.ck y a;have:=c.m0;omega
 obtain⟨l,f⟩:=c.last;refine⟨⟨al,by simp[iP],λl al=>?_,g,by simp[iP],λw hw=>?_,by simp[iP],by simp[iP],λb e=>?_,λi d=>?_,by simp[iP],by simp[iP],by show(0:Int)<=0;omega,by show(0:Int)+C<=_;omega⟩,rfl,rfl,y4 _,by rw[f];simp[iP]⟩;simp only[iP,cO]at al;obtain⟨y,a,rfl⟩:=al;have:=c.ck y a;exact⟨⟨this.1,this.2.1,this.2.2.1⟩,⟨y4 _,bc⟩,bc,this.2.2.2⟩;simp only[iP]at hw;rw[(ud.1 hw).2];simp;omega;simp only[iP,cO]at e;obtain⟨y,a,rfl⟩:=e;exact aaz (c.sX y a) I;simp only[iP,fj]at d⊢;rw[HY (by simpa using d),EH,cc,de,bK d];rfl
end Go.Sx
namespace Go.Sx
open Go.Proofs
set_option maxRecDepth 100000
set_option maxHeartbeats 0
set_option linter.all false
abbrev zx(n:Nat):aA:=.func (.func n) #[] #[]
def akx:List aA:=[zx 78,zx 79,zx 80,zx 81,zx 82,zx 83,zx 84,zx 85]
def Q8:Obj:=bb akx.toArray 221 (0,0)
theorem aGx{k:Nat}(h:k<8):akx[k]?=some (zx (78+k)):=by
 have:k=0\/k=1\/k=2\/k=3\/k=4\/k=5\/k=6\/k=7:=I;rcases this with rfl|rfl|rfl|rfl|rfl|rfl|rfl|rfl<;>rfl
theorem aGo h:Fn aD 29 #[] h λv c=>h.le c/\∃a,v=ab (some ⟨a,0,none⟩) 8 8/\h a=none/\c a=some Q8:=by
 exact bU azn rfl (.mk λb d=>.ag ⟨J.d' d,b,rfl,d,J.b8 _ _ _⟩)
section
variable {B h:J}{a1:Nat}{m:fx}
theorem dr.aFd(k:dr B h a1 m)(pk:Int)(a:Nat)(c:Int)(b:Nat):dr B (h.put a1 (bb ({m with x:={m.x with ox:=true,pk:=pk,uQ:=a,uR:=c,uN:=b}}:fx).cells.toArray 115 (0,0))) a1 {m with x:={m.x with ox:=true,pk:=pk,uQ:=a,uR:=c,uN:=b}}:=k.XS m.x.hand m.aK m.av m.x.next m.x.eU true pk a c b k.hand k.qg k.sep rfl
theorem aFQ{p:jC}{T:Int}(W:p.rt T){C:Nat}(k:dr B h a1 m)(v:tb p (C+1) m.x){N:Nat}(cy:B N=some Q8):Fn aD 30 #[bY a1,ab (some ⟨N,0,none⟩) 8 8] h λv s=>∃K bE e5 c1 c2 fc,v= .agg #[e5,c1,c2,fc,bC .u8 (jH m.x).2]/\B.le K/\dr K s a1 bE/\bE.x=(jH m.x).1:=by
 have lm:=v.st;have aF:=v.iY;have ol:=W.op;obtain⟨f,S⟩:∃n:Nat,m.x.next=n:=⟨m.x.next.toNat,I⟩;obtain⟨y,nK⟩:=v.op;have X:=W.snd _ y;rw[S,bn]at y;have g:jH m.x=jH m.x:=rfl;conv at g=>rhs;unfold jH
 rw[nK]at g;obtain⟨U,aJ⟩:∃U,U=p.ops[m.x.next.toNat]'(by rw[S];exact y):=⟨_,rfl⟩;rw[<-aJ]at X g;have G:p.ops[f]?=some U:=by rw[bK y,aJ];congr 2;omega
 rw[<-v.ops]at G ol;have y:f<m.x.ops.length:=by rw[v.ops];exact y
 obtain⟨l,al,V⟩:∃l al,db m.x U=(l,al):=⟨_,_,rfl⟩;dsimp only at g;rw[V]at g;dsimp only at g;have xd:((al=0\/al=1)/\jH m.x=({l with next:=l.next+1},al))\/(al=2/\jH m.x=(l,al))\/(3<=al/\al<=4/\jH m.x=({l with ox:=true,pk:=f,uQ:=U.k,uR:=if U.k=3\/U.k=6 then U.a else-1,uN:=al},al)):=by
  have aT:al<=4:=by
   have:=aag m.x U;rw[V]at this;exact this
  by_cases q:al=0\/al=1;rw[aS q]at g;exact bQ ⟨q,g⟩;rw[aC q]at g;by_cases Z:al=2;rw[aS Z]at g;exact ba (bQ ⟨Z,g⟩);rw[aC Z,S]at g;exact ba (ba ⟨I,aT,g⟩)
 have aH8: -1<=l.next/\l.next<=1000000:=by
  obtain⟨_,_,jj,_⟩:=aah (x:=m.x) (U:=U);rw[V]at jj;simp only at jj;rcases jj with e|⟨_,e⟩|⟨z,e⟩;omega;omega;have:0<=U.b/\U.b<=1000000:=by
   rcases X with⟨h,_⟩|h|h|h|h|h|h|h;rw[h]at z;cases z;all_goals(have:=h.1;have:=h.2;have:=W.op;omega)
  omega
 obtain⟨bX,D⟩:=k.ops.b4 I;have m8:=(k.ops.mono k.le).row D (i:=f) (r:=cm.cells U) (by rw[de,G];rfl);have F:U.k<8:=by rcases X with⟨h,_⟩|h|h|h|h|h|h|h<;>first|(rw[h];decide)|(have:=h.1;omega)
 refine bU VF rfl (ay λfD cQ eT=>cQ _ _ _ (ay λfy cM d9=>ay λfz cL eZ=>.hp (dh m.x.ox) (b1 k.box rfl) ?_));rw[lm];refine cL _ _ _ (cM _ _ _ (ay λfE dR dH=>.hp (ab m.cn m.x.ops.length m.bT) (b1 k.box rfl) (.hp (R m.x.next) (b1 k.box rfl) ?_)));rw[S];refine .m bX D (.hp [bC .u8 U.k,R U.a,R U.b] rfl (by rw[bn];exact m8) (dR _ _ _ (ay λgF du gN=>.hp (R m.x.next) (b1 k.box rfl) ?_)));rw[S];refine du _ _ _ ?_;obtain⟨d,u,L⟩:=U;have gD:∀(e:cg)(ds:Int)(Q:mi),[0,1,4,6,7].map e=[.v (bY a1),.v (ab (some ⟨N,0,none⟩) 8 8),.p 0 0,.p 1 0,.p 2 0]->(∀e s c6,[0,4,6,7].map e=[.v (bY a1),.p 0 0,.p 1 0,.p 2 0]->oB B a1 c6 f d ds l al s->Q .normal e [.own [.v (R 0),.v (bC .u8 0),.v (R 0),.v (ab none 0 0),.v (bC .u8 0)] 113,.own [.v (bC .u8 d),.v (R u),.v (R L)] 66,.b5 c6] s)->dq aD 77 (.Af axn) Q e [.own [.v (R 0),.v (bC .u8 0),.v (R 0),.v (ab none 0 0),.v (bC .u8 0)] 113,.own [.v (bC .u8 d),.v (R u),.v (R L)] 66,.own [.v (R f),.v (bC .u8 d),.v (R ds),.v (ab none 0 0),.v (bC .u8 0)] 113] h:=by
  intro e ds Q M cF;rw[<-fi [0,1,4,6,7] e,M];refine .mk ⟨N,0,none⟩ rfl I (by simp only at F;omega) (.hp (zx (78+d)) (by rw[bn,add_lit,dZ,e4];exact b1 (k.le _ _ cy) (aGx F)) (.mk λc6 E=>?_));obtain⟨_,arm⟩:=apb W (k.up (J.d' (U:=na f d ds (ab none 0 0) 0) E)) v.w (c6:=c6) (op:=f) (dk:=d) (ds:=ds) (J.b8 _ _ _) (J.none_le k.le E) X;rw[V]at arm;exact .ag (.mk _ arm (λv s q=>cF _ s c6 rfl q))
 refine ay λgL ed gG=>?_;have last:∀(e:cg)(ds:Int),ds=(if d=3\/d=6 then u else-1)->[0,1,4,6,7].map e=[.v (bY a1),.v (ab (some ⟨N,0,none⟩) 8 8),.p 0 0,.p 1 0,.p 2 0]->gL .normal e [.own [.v (R 0),.v (bC .u8 0),.v (R 0),.v (ab none 0 0),.v (bC .u8 0)] 113,.own [.v (bC .u8 d),.v (R u),.v (R L)] 66,.own [.v (R f),.v (bC .u8 d),.v (R ds),.v (ab none 0 0),.v (bC .u8 0)] 113] h:=by
  refineλe ds OZ M=>ed _ _ _ (ay λkd fO j3=>gD e ds kd M λe s c6 q2 ao5=>fO _ _ _ ?_);rw[<-fi [0,4,6,7] e,q2];obtain⟨K,m1,A,n,c,asQ,hd,t,yx,P⟩:=ao5;refine ay λjU hc iD=>ay λkQ gM kH=>.hp (bC .u8 al) (b1 P rfl) (gM _ _ _ (ew λqS kh qs=>?_));have fin:∀(e:cg)(ae:J)(m2:fx),[4,7].map e=[.p 0 0,.p 2 0]->dr K ae a1 m2->m2.x=(jH m.x).1->(jH m.x).2=al->ae c6=some (na f d ds (ab A n c) al)->jU .normal e [.own [.v (R 0),.v (bC .u8 0),.v (R 0),.v (ab none 0 0),.v (bC .u8 0)] 113,.own [.v (bC .u8 d),.v (R u),.v (R L)] 66,.b5 c6] ae:=by
   refineλe ae m2 Y z j2 aue OK=>hc _ _ _ ?_;rw[<-fi [4,7] e,Y];refine .hp [R f,bC .u8 d,R ds,ab A n c,bC .u8 al] rfl (λo v ao=>by rw[add_lit,dZ];exact b1 OK ao) (.ag ⟨K,m2,R f,bC .u8 d,R ds,ab A n c,?_,hd,z,j2⟩);rw[aue];rfl
  rcases xd with⟨auu,j⟩|⟨rfl,j⟩|⟨UO,aJD,j⟩;rw[<-yx]at aH8 j;have H:∀(e:cg),[0,4,7].map e=[.v (bY a1),.p 0 0,.p 2 0]->dq aD 77 (.ck axo) qS e [.own [.v (R 0),.v (bC .u8 0),.v (R 0),.v (ab none 0 0),.v (bC .u8 0)] 113,.own [.v (bC .u8 d),.v (R u),.v (R L)] 66,.b5 c6] s:=by
   intro e Y;rw[<-fi [0,4,7] e,Y];exact .hp (R m1.x.next) (b1 t.box rfl) (.bl (.hp a1 9 115 _ ({m1 with x:={m1.x with next:=m1.x.next+1}}:fx).cells rfl t.box rfl (qs _ _ _ _ nofun (fin _ _ _ rfl (t.QW (m1.x.next+1) m1.x.eU) (by rw[j]) (by rw[j]) (kA.B9 t _ _ _ P)))))
  rcases auu with rfl|rfl;refine ay λoE O nn=>O _ _ _ (qJ rfl (λ_=>?_) nofun);exact H _ rfl;refine ay λoE O nn=>O _ _ _ (qJ rfl (λ_=>?_) nofun);exact H _ rfl;exact qs _ _ _ _ nofun (fin _ _ m1 rfl t (by rw[j];exact yx) (by rw[j]) P);obtain⟨rfl,rfl,rfl⟩:=asQ UO;rw[<-yx]at j;have z:=t.aFd f d ds al;have M:=kA.B9 t (bb ({m1 with x:={m1.x with ox:=true,pk:=f,uQ:=d,uR:=ds,uN:=al}}:fx).cells.toArray 115 (0,0)) _ _ P;rcases(show al=3\/al=4 by omega)with rfl|rfl;all_goals
   refine ay λoE O nn=>O _ _ _ (qJ rfl (λq=>absurd q aH) (λ_=>ay λsk lJ uI=>lJ _ _ _ (qJ rfl (λ_=>?_) (λq=>absurd q aH))))
   refine .hp [R f,bC .u8 d,R ds,ab none 0 0,bC .u8 _] rfl (λo v ao=>by rw[add_lit,dZ];exact b1 P ao) (.hp a1 11 115 _ ({m1 with x:={m1.x with ox:=true}}:fx).cells rfl t.box rfl (.hp a1 12 115 _ ({m1 with x:={m1.x with ox:=true,pk:=f,uQ:=d,uR:=ds,uN:=_}}:fx).cells rfl (J.b8 _ _ _) rfl (qs _ _ _ _ nofun ?_)))
   rw[tS]
   refine fin _ _ _ rfl z (by rw[j,OZ]) (by rw[j]) M
 refine ay λjl eY hU=>?_;conv=>whnf
 by_cases ax:d=3;rw[hr (by simp only;omega)];refine eY _ _ _ ?_;conv=>whnf
 exact last _ u (by rw[aS (bQ ax)]) rfl;rw[jn (by simp only;omega)];refine eY _ _ _ (qJ rfl (λq=>?_) (λq=>?_));have q:=uX q;exact last _ u (by rw[aS (ba (by simp only at q;omega))]) rfl;have q:=Ag q;exact last _ (-1) (by rw[aC (by rintro(e|e);exact ax e;simp only at q;omega)]) rfl
end
section
variable {a1:Nat}
theorem aEI Q(e:cg) i am m0(W:dr i am a1 m0){A:Nat}(O:i A=some Q8) to{p:jC}{T:Int}(E:p.rt T) F(v0:tb p F m0.x) g halt(a:runM F m0.x to=some (g,halt))(he:[0,6,7].map e=[.v (bY a1),.v (ab (some ⟨A,0,none⟩) 8 8),.v (R to)])(K:∀d c b,halt=1->i.le c->dr c d a1 b->b.x=g->ta p 0 g->∀e,Q (.exit 0) e [] d)(M:∀e d c b,i.le c->dr c d a1 b->b.x=g->ta p 0 g->[4,5].map e=[.v (bC .u8 halt),.v (R 0)]->Q .ret e [] d):jk (λQ e L h=>dq aD 41 av0 Q e L h) Q e [] am:=by
 refine .mk (Nat×J×fx) [0,6,7] (λ_=>[.v (bY a1),.v (ab (some ⟨A,0,none⟩) 8 8),.v (R to)]) (λ_=>[]) (λ(f,c,b) d=>dr c d a1 b/\i.le c/\tb p f b.x/\runM f b.x to=some (g,halt)) (λ(f,_)=>f) (F,i,m0) (λ_=>rfl) ⟨W,J.le_refl _,v0,a⟩ he rfl ?_;rintro⟨f,c,b⟩ e h ⟨k,m,v,a⟩;cases f with
 |zero=>cases a
 |succ f=>
  rw[runM]at a;refine ay λgL S U=>ay λjl P hU=>.hp (R b.x.eU) (b1 k.box rfl) (P _ _ _ (qJ rfl (λq=>?_) (λq=>?_)))
  .rw[aS (uX q)]at a;obtain⟨o,n⟩:=v.step E;have r:=aFQ E k v (m _ _ O);refine S _ _ _ (ew λkd Y B=>ay λjU V iD=>.ag (.mk _ r ?_));rintro _ ae ⟨G,m2,X,c1,c2,Z,rfl,D,C,l⟩;refine V _ _ _ ?_;have aT:=aFT b.x;obtain⟨H,al,N⟩:∃H al,jH b.x=(H,al):=⟨_,_,rfl⟩;rw[N]at a o n l aT⊢;simp only at a o n l aT⊢;have go:al=0\/al=1->∃y:Nat×J×fx,y.1<f+1/\dr y.2.1 ae a1 y.2.2/\i.le y.2.1/\tb p y.1 y.2.2.x/\runM y.1 y.2.2.x to=some (g,halt):=λq=>by
    rw[aS q]at a;exact⟨(f,G,m2),Nat.lt_succ_self _,C,J.le_trans m D,by rw[l];exact n q,by rw[l];exact a⟩
   rcases(show al=0\/al=1\/al=2\/al=3\/al=4 by omega)with rfl|rfl|rfl|rfl|rfl;obtain⟨z,t,u⟩:=go (bQ rfl);exact B _ _ _ _ nofun (⟨z,rfl,rfl,u,t⟩);obtain⟨z,t,u⟩:=go (ba rfl);exact B _ _ _ _ nofun (⟨z,rfl,rfl,u,t⟩);all_goals
    rw[aC I]at a
    have a:=wF a
    injection a with j s
    exact B _ _ _ _ nofun (M _ _ G m2 (J.le_trans m D) C (l.trans j) (by rw[<-j];exact o.down) (by rw[<-s];rfl))
  rw[aC (Ag q)]at a;have a:=wF a;injection a with j s;exact U _ _ _ _ nofun (K _ c b s.symm m k j (by rw[<-j];exact v.w.down) _)
theorem ajf{B h:J}{m:fx}(k:dr B h a1 m)(n:Nat)(Q:n<=8)(hp:0<=m.x.eU/\m.x.eU<=1000000000){p:jC}{T:Int}(G:p.rt T) F(v:tb p F m.x) d halt(u:runM F m.x (m.x.eU+n)=some (d,halt)):Fn aD 10 #[bY a1,R n] h λv i=>∃b a,v=eA #[bC .u8 halt,R 0]/\B.le b/\dr b i a1 a/\a.x=d/\ta p 0 d:=by
 refine bU afC rfl (ay λY z W=>z _ _ _ (ay λfy y U=>y _ _ _ (ay λfz w X=>ay λZ D V=>?_)));conv=>whnf
 rw[jn I];refine D _ _ _ (aW (λq=>I) (λ_=>w _ _ _ (ay λgF E gN=>.ag (.mk _ (aGo h) ?_))));rintro _ h1 ⟨c,N,rfl,g,s⟩;refine E _ _ _ (ay λgL K M=>ay λjl H hU=>.hp (R m.x.eU) (b1 (c _ _ k.box) rfl) (.bl (H _ _ _ (ew λP L O=>?_))));have C:=k.grow c;have A:(B.grow h h1) N=some Q8:=by
  unfold J.grow;rw[J.mQ (S:=λo=>B o≠none\/h o=none) (ba g)];exact s
 refine .jG (.ag (aEI P _ (B.grow h h1) h1 m C A (m.x.eU+n) G F v d halt u rfl (λi b a t l r f j e=>?_) (λe i b a l r f j he=>?_)));refine L _ _ _ (K _ _ _ (.ag ⟨b,a,?_,J.le_trans (By k.le c) l,r,f,j⟩));rw[t];rfl;refine O _ _ _ _ nofun (M _ _ _ _ nofun ?_);rw[<-fi [4,5] e,he];exact .ag ⟨b,a,rfl,J.le_trans (By k.le c) l,r,f,j⟩
end
section
variable {B h:J}{a1:Nat}{m:fx}
theorem aCR(k:dr B h a1 m) a(i:a<m.x.wr.length)(al:(m.x.wr.getD a []).length<=1000000000):Fn aD 34 #[gR (some ⟨a1,2,none⟩),R a] h (EM h (m.x.wr.getD a []).length ((m.x.wr.getD a []).map R)):=by
 have g:a<m.wr.length:=by rw[<-fj (f:=bM.l),k.n0];exact i
 obtain⟨d,e⟩:∃d,m.wr[a]=d:=⟨_,rfl⟩;have s:d∈m.wr:=by rw[<-e];exact b3 g
 have t:m.x.wr.getD a []=d.l:=by
  rw[<-k.n0,cc,de,bK g,e];rfl
 rw[t]at al⊢;have b:=aC4 d.A d.l.length d.c d.l h (k.ky d s).one I;have p:h.cell? ((⟨m.g6,0,none⟩:aE).add (a*1))=some d.val:=by
  rw[add_lit,dZ,e4];exact b1 k.wr (by simp[g,e])
 refine bU azq rfl (ay λz o w=>o _ _ _ (ay λC n v=>ay λD j y=>?_));conv=>whnf
 rw[jn I];refine .hp (hM m.g6 m.wr.length) (b1 k.box rfl) (j _ _ _ (aW (λq=>I) (λ_=>n _ _ _ (.hp (hM m.g6 m.wr.length) (b1 k.box rfl) (.mk ⟨m.g6,0,none⟩ rfl I I (.hp (ab d.A d.l.length d.c) (by rw[bn];exact p) (.ag (.mk _ b ?_))))))));rintro _ u ⟨le,A,c,rfl,r,f⟩;exact .ag ⟨le,A,c,rfl,r,f⟩
theorem aif(k:dr B h a1 m) a(d:a<m.x.wr.length)(al:(m.x.wr.getD a []).length<=1000000000):Fn aD 13 #[bY a1,R a] h (EM h (m.x.wr.getD a []).length ((m.x.wr.getD a []).map R)):=by
 have b:=aCR k a d al;refine bU ayj rfl (.ag (.mk _ b ?_));rintro _ e ⟨le,A,c,rfl,r,f⟩;exact .ag ⟨le,A,c,rfl,r,f⟩
theorem ars(k:dr B h a1 m)(a:Nat)(r:a<m.cZ.length)(am:m.cZ[a]=⟨none,0,[]⟩)(A:Option aE)(n c:Nat)(l:List Int)(t:bg h 1 A n (gi l))(N:n<=17592186044416):Fn aD 77 #[gR (some ⟨a1,2,none⟩),R a,ab A n c] h λv E=>v=R 0/\∃C j,B.le C/\dr C E a1 j/\j.x={m.x with cZ:=m.x.cZ.set a l}/\∃d,j.cZ=m.cZ.set a d:=by
 have al:l.length=n:=by simpa using t.len
 refine bU azV rfl ?_;have jE:=k.arp r;rw[am]at jE;refine ay λT H Q=>H _ _ _ (ay λW G O=>ay λX F S=>?_);conv=>whnf
 rw[jn I];refine .hp (hM m.fA m.cZ.length) (b1 k.box rfl) (F _ _ _ (aW (λq=>I) (λ_=>G _ _ _ (ay λV K P=>.hp (hM m.fA m.cZ.length) (b1 k.box rfl) (.hp (hM m.fA m.cZ.length) (b1 k.box rfl) (.mk ⟨m.fA,0,none⟩ rfl I I (.hp (ab none 0 0) (by rw[bn];exact jE) (.fresh (l.map R) rfl rfl rfl (by rw[<-yd];exact t.src _) (λu hu=>by obtain⟨x,_,rfl⟩:=cO.1 hu;rfl) (by unfold eQ;omega) I λbo bj aK=>.mk ⟨m.fA,0,none⟩ rfl I I (.hp m.fA (0+a*1) 27 (m.cZ.map bM.val) ((m.cZ.set a ⟨bo,bj,l⟩).map bM.val) (by rw[add_lit,bn]) k.cZ ?_ ?_)))))))));rw[dZ,e4,io _ _ _ (by rw[fj];exact r),kB];show some ((m.cZ.map bM.val).set a (ab bo n bj))=some ((m.cZ.map bM.val).set a (ab bo l.length bj));rw[al];refine K _ _ _ (.b5 0 3 1 bo n bj (l.map R) rfl λaT w L f4=>.ag ⟨rfl,?_⟩);have p:∀g,bo=some g->g.block≠m.fA/\h g.block=none:=λg b=>by
  have q:=f4 g b;have ne:g.block≠m.fA:=λe=>by rw[e,J.b8]at q;cases q
  rw[J.cD _ _ ne]at q;exact⟨ne,q⟩
 have D:h.le (aT.put m.fA (bb (m.cZ.map bM.val).toArray 27 (0,0))):=λo U i=>by
  by_cases e:o=m.fA;subst e;rw[k.cZ]at i;rw[J.b8];exact i;rw[J.cD _ _ e];exact w _ _ (by rw[J.cD _ _ e];exact i)
 have z:=k.grow D;have M:bw (B.grow h (aT.put m.fA (bb (m.cZ.map bM.val).toArray 27 (0,0)))) 3 1 bo n bj (l.map R):=(bw.kx L λg b=>(p g b).1).grown λg b=>(p g b).2;have s:=z.ajD (m.cZ.set a ⟨bo,bj,l⟩) bc (λy f=>by
  rcases wA f with f|rfl;exact z.rH y f;refine⟨?_,?_⟩;show bg _ 1 bo l.length (gi l);rw[al];exact M.one;show l.length<=bj;rw[al];exact aK.2)
 rw[tS,tT (w _ _ (J.b8 _ _ _))]at s;refine⟨_,_,By k.le D,s,?_,_,rfl⟩;simp only;rw[kB,k.sr]
theorem arr(k:dr B h a1 m)(a:Nat)(i:a<m.cZ.length)(am:m.cZ[a]=⟨none,0,[]⟩)(A:Option aE)(n c:Nat)(l:List Int)(t:bg h 1 A n (gi l))(g:n<=17592186044416):Fn aD 28 #[bY a1,R a,ab A n c] h λv e=>v=R 0/\∃f b,B.le f/\dr f e a1 b/\b.x={m.x with cZ:=m.x.cZ.set a l}/\∃d,b.cZ=m.cZ.set a d:=by
 have f77:=ars k a i am A n c l t g;exact bU azm rfl (.ag (.mk _ f77 (λ_ e⟨rfl,q⟩=>.ag ⟨rfl,q⟩)))
end
end Go.Sx
namespace Go.Sx
set_option maxRecDepth 100000
set_option maxHeartbeats 0
set_option linter.all false
def core(x:fK):fK:={x with ops:=[],dg:=[],next:=0,eU:=0,ox:=false,pk:=0,uQ:=0,uR:=0,uN:=0}
def gr:List cm->fK->fK×Nat
 |[],x=>(x,0)
 |U::l,x=>if(db x U).2=0 then gr l (db x U).1 else db x U
def iO(au:List (List cm)):List Int->fK->fK×Nat
 |[],x=>(x,0)
 |v::l,x=>if(gr (au.getD v.toNat []) x).2=0 then iO au l (gr (au.getD v.toNat []) x).1 else gr (au.getD v.toNat []) x
theorem V5 au:∀l m x,iO au (l++m) x=if(iO au l x).2=0 then iO au m (iO au l x).1 else iO au l x
 |[],m,x=>rfl
 |v::l,m,x=>by
  rw[List.cons_append,iO,iO];by_cases h:(gr (au.getD v.toNat []) x).2=0;rw[aS h,aS h];exact V5 au l m _
  grind
theorem aAN au v x:iO au [v] x=gr (au.getD v.toNat []) x:=by
 grind [iO]
def mf(to:Int):Nat->fK->(fK->Prop)->(fK×Nat->Prop)->Prop
 |0,x,E,_=>E x
 |n+1,x,E,H=>E x\/(x.eU<to/\if(jH x).2=0\/(jH x).2=1 then mf to n (jH x).1 E H else H (jH x))
section
variable {to:Int}{E y2:fK->Prop}{H lZ:fK×Nat->Prop}
theorem mf.imp(a:∀y,E y->y2 y)(hH:∀r,H r->lZ r):∀{n:Nat}{x:fK},mf to n x E H->mf to n x y2 lZ
 |0,_,g=>a _ g
 |n+1,x,g=>by
  rcases g with g|⟨h,g⟩;exact bQ (a _ g);refine ba ⟨h,?_⟩;split at g;rename_i q;rw[aS q];exact mf.imp a hH g
  grind
theorem mf.up:∀{n m:Nat}{x:fK},mf to n x E H->n<=m->mf to m x E H
 |0,0,_,g,_=>g
 |0,m+1,_,g,_=>bQ g
 |n+1,0,_,_,h=>absurd h (Nat.not_succ_le_zero _)
 |n+1,m+1,x,g,h=>by
  rcases g with g|⟨ae,g⟩;exact bQ g;refine ba ⟨ae,?_⟩;split at g;rename_i q;rw[aS q];exact mf.up g (Nat.le_of_succ_le_succ h)
  grind
theorem mf.bind{m:Nat}(k:∀y,E y->mf to m y y2 H):∀{n:Nat}{x:fK},mf to n x E H->mf to (n+m) x y2 H
 |0,x,g=>by rw[dZ];exact k _ g
 |n+1,x,g=>by
  rcases g with g|⟨ae,g⟩;exact(k _ g).up I;rw[Nat.add_right_comm];refine ba ⟨ae,?_⟩;split at g;rename_i q;rw[aS q];exact mf.bind k g
  grind
theorem mf.run(a:∀y,E y->¬y.eU<to):∀{n:Nat}{x:fK},mf to n x E H->∃r,runM (n+1) x to=some r/\((r.2=1/\E r.1)\/H r)
 |0,x,g=>⟨(x,1),by rw[runM,aC (a _ g)],bQ ⟨rfl,g⟩⟩
 |n+1,x,g=>by
  rcases g with g|⟨ae,g⟩;exact⟨(x,1),by grind [runM],bQ ⟨rfl,g⟩⟩;rw[runM,aS ae];split at g;rename_i q;rw[aS q];exact mf.run a g
  grind
theorem mf.step{n:Nat}{x:fK}(h:x.eU<to)(am:(jH x).2=0\/(jH x).2=1)(g:mf to n (jH x).1 E H):mf to (1+n) x E H:=by
 rw[wC];refine ba ⟨h,?_⟩
 grind
end
theorem apa x U(hk:3<=U.k):(db (core x) U).2=(db x U).2/\core (db x U).1=(db (core x) U).1/\((db x U).1.ops=x.ops/\(db x U).1.dg=x.dg/\(db x U).1.next=x.next/\(db x U).1.eU=x.eU/\(db x U).1.ox=x.ox)/\((db x U).2=0\/2<=(db x U).2):=by
 obtain⟨k,a,b⟩:=U;have av:k=3\/k=4\/k=5\/k=6\/∃n,k=n+7:=by
  by_cases q:7<=k;exact ba (ba (ba (ba ⟨k-7,I⟩)))
  grind
 rcases av with rfl|rfl|rfl|rfl|⟨n,rfl⟩;by_cases q:(x.lines.getD a.toNat jN).br<b.toNat\/64<x.hand.length+b.toNat;rw[show db x ⟨3,a,b⟩=(x,4)from aS q,show db (core x) ⟨3,a,b⟩=(core x,4)from aS q];simp;rw[show db x ⟨3,a,b⟩=(u7 x a.toNat (x.lines.getD a.toNat jN) b.toNat,0)from aC q,show db (core x) ⟨3,a,b⟩=(u7 (core x) a.toNat (x.lines.getD a.toNat jN) b.toNat,0)from aC q];exact⟨rfl,rfl,⟨rfl,rfl,rfl,rfl,rfl⟩,bQ rfl⟩;by_cases q:64<x.hand.length+b.toNat;rw[show db x ⟨4,a,b⟩=(x,4)from aS q,show db (core x) ⟨4,a,b⟩=(core x,4)from aS q];simp;by_cases c:(x.cZ.getD a.toNat []).length<b.toNat;rw[show db x ⟨4,a,b⟩=(x,2)from(aC q).trans (aS c),show db (core x) ⟨4,a,b⟩=(core x,2)from(aC q).trans (aS c)];simp;rw[show db x ⟨4,a,b⟩=(Aq x a.toNat b.toNat,0)from(aC q).trans (aC c),show db (core x) ⟨4,a,b⟩=(Aq (core x) a.toNat b.toNat,0)from(aC q).trans (aC c)];exact⟨rfl,rfl,⟨rfl,rfl,rfl,rfl,rfl⟩,bQ rfl⟩;by_cases q:(x.hand.length:Int)=x.ir.getD a.toNat 0;obtain⟨r,g,e⟩:∃r g,nc (x.f'.getD a.toNat gl) (kp x.hand (x.f'.getD a.toNat gl).ins)=(r,g):=⟨_,_,rfl⟩;have d:db x ⟨5,a,b⟩=match nc (x.f'.getD a.toNat gl) (kp x.hand (x.f'.getD a.toNat gl).ins)with
  |(some outs,b)=>(vu x a.toNat b outs,0)
  |(none,b)=>({x with f':=x.f'.set a.toNat b},3):=aS q
 have f:db (core x) ⟨5,a,b⟩=match nc (x.f'.getD a.toNat gl) (kp x.hand (x.f'.getD a.toNat gl).ins)with
  |(some outs,b)=>(vu (core x) a.toNat b outs,0)
  |(none,b)=>({core x with f':=x.f'.set a.toNat b},3):=aS q
 rw[e]at d f;rw[d,f];cases r with
 |some outs=>exact⟨rfl,rfl,⟨rfl,rfl,rfl,rfl,rfl⟩,bQ rfl⟩
 |none=>exact⟨rfl,rfl,⟨rfl,rfl,rfl,rfl,rfl⟩,ba (show 2<=3 by decide)⟩
 rw[show db x ⟨5,a,b⟩=(x,4)from aC q,show db (core x) ⟨5,a,b⟩=(core x,4)from aC q];simp;by_cases q:x.hand.length<b.toNat\/(x.lines.getD a.toNat jN).size<(x.lines.getD a.toNat jN).br+b.toNat;rw[show db x ⟨6,a,b⟩=(x,4)from aS q,show db (core x) ⟨6,a,b⟩=(core x,4)from aS q];simp;rw[show db x ⟨6,a,b⟩=(w4 x a.toNat (x.lines.getD a.toNat jN) b.toNat,0)from aC q,show db (core x) ⟨6,a,b⟩=(w4 (core x) a.toNat (x.lines.getD a.toNat jN) b.toNat,0)from aC q];exact⟨rfl,rfl,⟨rfl,rfl,rfl,rfl,rfl⟩,bQ rfl⟩;by_cases q:x.hand.length<b.toNat;rw[show db x ⟨n+7,a,b⟩=(x,4)from aS q,show db (core x) ⟨n+7,a,b⟩=(core x,4)from aS q];simp;rw[show db x ⟨n+7,a,b⟩=(AF x a.toNat b.toNat,0)from aC q,show db (core x) ⟨n+7,a,b⟩=(AF (core x) a.toNat b.toNat,0)from aC q];exact⟨rfl,rfl,⟨rfl,rfl,rfl,rfl,rfl⟩,bQ rfl⟩
theorem ast{pre post:List cm}{U:cm}{n:Int}(h:n=pre.length):(pre++U::post).getD n.toNat B8=U:=by
 grind
structure xM(op:Nat)(x y:fK):Prop where
 ops:y.ops=x.ops
 eU:y.eU=x.eU
 st:y.ox=x.ox
 len:y.dg.length=x.dg.length
 dg:∀i,i<op->y.dg.getD i 0=x.dg.getD i 0
theorem xM.refl op x:xM op x x:=⟨rfl,rfl,rfl,rfl,λ_ _=>rfl⟩
theorem xM.trans{op:Nat}{x y z:fK}(a:xM op x y)(b:xM op y z):xM op x z:=⟨b.ops.trans a.ops,b.eU.trans a.eU,b.st.trans a.st,b.len.trans a.len,λi c=>(b.dg i c).trans (a.dg i c)⟩
def Cz(op:Nat)(x:fK)(a:Nat)(r:fK×Nat)(y:fK):Prop:=r.2=0/\core y=r.1/\y.next=(a:Nat)/\xM op x y
def xI(r:fK×Nat)(s:fK×Nat):Prop:=s.2=r.2/\2<=s.2/\core s.1=r.1
theorem aja to op:∀l(x:fK) pre post,(∀U∈l,3<=U.k)->x.ops=pre++(l++post)->x.next=pre.length->x.eU<to->mf to l.length x (Cz op x (pre.length+l.length) (gr l (core x))) (xI (gr l (core x)))
 |[],x,pre,post,_,_,h,_=>⟨rfl,rfl,I,xM.refl _ _⟩
 |U::l,x,pre,post,hk,e,h,hp=>by
  have o:x.ops.getD x.next.toNat B8=U:=aL;obtain⟨g,a2,⟨p,v,w,t,s⟩,a3⟩:=apa x U (hk U (hq ..));have b:jH x=if(db x U).2=0\/(db x U).2=1 then({(db x U).1 with next:=(db x U).1.next+1},(db x U).2)else if(db x U).2=2 then db x U else({(db x U).1 with ox:=true,pk:=x.next,uQ:=U.k,uR:=if U.k=3\/U.k=6 then U.a else-1,uN:=(db x U).2},(db x U).2):=by
   unfold jH;rw[o]
  rw[iJ,wC l.length 1];rcases a3 with a3|a3;rw[aS (bQ a3)]at b;refine .step hp aL ?_;rw[b];have f:=aja to op l {(db x U).1 with next:=(db x U).1.next+1} (pre++[U]) post (λU e=>hk U (gd _ e)) aL aL aL;have b0:core ({(db x U).1 with next:=(db x U).1.next+1}:fK)=(db (core x) U).1:=a2;rw[b0]at f;have d:gr (U::l) (core x)=gr l (db (core x) U).1:=by grind [gr]
  rw[d];refine f.imp (λy q=>?_) λr q=>q;obtain⟨m,j,u,c⟩:=q;refine⟨m,j,aL,⟨c.ops.trans p,c.eU.trans t,c.st.trans s,c.len.trans aL,λi n=>(c.dg i n).trans aL⟩⟩;have d:gr (U::l) (core x)=db (core x) U:=by grind [gr]
  rw[d,wC];refine ba ⟨hp,?_⟩;rw[aC I]at b;by_cases ae:(db x U).2=2;rw[aS ae]at b;rw[b,aC I];exact⟨g.symm,a3,a2⟩;rw[aC ae]at b;rw[b,aC I];exact⟨g.symm,a3,a2⟩
def Hq:e3->Prop
 |.nil=>True
 |.cons t _ b r=>t<=2048/\Hq b/\Hq r
theorem akG:∀f,o2 f->f.leaf=false->1<=gn f
 |.nil,_,h=>by cases h
 |.cons t n b r,⟨h1,ae,c⟩,_=>by
  rw[gn];have a:1<=(bif b.leaf then 1 else gn b):=by
   cases al:b.leaf with
   |true=>simp
   |false=>exact akG b ae al
  have:1*1<=t.toNat*(bif b.leaf then 1 else gn b):=mh I a;omega
theorem Yd:∀f,o2 f->gn f<=2048->Hq f
 |.nil,_,_=>trivial
 |.cons t n b r,⟨h1,ae,d⟩,h=>by
  rw[gn]at h;have c:1<=(bif b.leaf then 1 else gn b):=by
   cases al:b.leaf with
   |true=>simp
   |false=>exact akG b ae al
  have e:t.toNat*1<=t.toNat*(bif b.leaf then 1 else gn b):=mh (dM _) c;have a:1*(bif b.leaf then 1 else gn b)<=t.toNat*(bif b.leaf then 1 else gn b):=mh I (dM _);refine⟨I,?_,Yd r d I⟩;cases al:b.leaf with
  |true=>cases b with
   |nil=>trivial
   |cons=>cases al
  |false=>
   rw[al]at a;simp only[vw]at a;exact Yd b ae aL
theorem aHG{z:Int}(am: -9223372036854775808<=z)(h1:z<=9223372036854775807):oz z=z:=IntWalk.i64_in z ⟨am,h1⟩
theorem aBY au(dt:∀r∈au,∀U∈r,3<=U.k) to:∀f len op dn(x:fK) pre post,o2 f->Hq f->pre.length=len->x.ops=pre++(gf au f len op++post)->x.next=len->x.eU<to->jh f op dn<=x.dg.length->mf to (jf au f) x (Cz op x (len+(gf au f len op).length) (iO au (gS f) (core x))) (xI (iO au (gS f) (core x))):=by
 intro f;induction f with
 |nil=>intro len op dn x pre post _ _ al e D hp av;exact⟨rfl,rfl,by rw[D];rfl,xM.refl _ _⟩
 |cons t n b r aeT Z=>
  rintro len op dn x pre post ⟨h1,ae,ax⟩ ⟨t1,t2,t3⟩ al e D hp av;obtain⟨u,hu⟩:∃u,u=(bif b.leaf then(au.getD n.toNat []).length else jf au b):=⟨_,rfl⟩;obtain⟨w,hw⟩:∃w,w=(bif b.leaf then[n]else gS b):=⟨_,rfl⟩;have inner:∀(L h bj:Nat)(y:fK)(v C:List cm),v.length=L->y.ops=v++((bif b.leaf then au.getD n.toNat []else gf au b L h)++C)->y.next=L->y.eU<to->jh b h bj<=y.dg.length->mf to u y (Cz h y (L+(bif b.leaf then au.getD n.toNat []else gf au b L h).length) (iO au w (core y))) (xI (iO au w (core y))):=by
   intro L h bj y v C ni A yo oO fM;cases uA:b.leaf with
   |true=>
    rw[uA]at A hu hw;rw[hu,hw];simp only[pG]at A⊢;rw[aAN];have:=aja to h (au.getD n.toNat []) y v C (TW dt n.toNat) A I oO
    grind
   |false=>
    grind
  rw[jh]at av;have g1:=HH r op (jh b (op+fL t) (if 1<t then max dn (op+1)else dn));have g2:=HH b (op+fL t) (if 1<t then max dn (op+1)else dn);have jL:gS (.cons t n b r)=rep t.toNat w++gS r:=by rw[gS,hw]
  have one:mf to (if 1<t then 1+t.toNat*(u+1)else u) x (Cz op x (len+(kw t op len (bif b.leaf then au.getD n.toNat []else gf au b (len+fL t) (op+fL t))).length) (iO au (rep t.toNat w) (core x))) (xI (iO au (rep t.toNat w) (core x))):=by
   rw[gf,mg]at e;obtain⟨g,l⟩:∃g,g=gf au r (len+(kw t op len (bif b.leaf then au.getD n.toNat []else gf au b (len+fL t) (op+fL t))).length) op++post:=⟨_,rfl⟩;rw[<-l]at e;clear l;by_cases q:1<t;rw[aS q];have K:fL t=1:=by unfold fL;grind
   rw[K]at e g1 g2 av⊢;rw[aS q]at g1 g2 av;obtain⟨Q,V⟩:∃Q,Q=(bif b.leaf then au.getD n.toNat []else gf au b (len+1) (op+1)):=⟨_,rfl⟩;have X:kw t op len Q=⟨1,op,t⟩::(Q++[⟨2,op,(len:Int)+1⟩]):=by unfold kw;grind
   rw[<-V]at e⊢;rw[X]at e⊢;have rounds:∀(o:Nat),1<=o->o<=2048->∀y:fK,y.ops=x.ops->y.next=(len+1:Nat)->y.eU<to->y.dg.length=x.dg.length->y.dg.getD op 0=o->mf to (o*(u+1)) y (Cz op y (len+(Q.length+2)) (iO au (rep o w) (core y))) (xI (iO au (rep o w) (core y))):=by
    intro o;induction o with
    |zero=>omega
    |succ o N=>
     intro _ ah y p F H m E;have G:y.ops=(pre++[⟨1,op,t⟩])++(Q++(⟨2,op,(len:Int)+1⟩::g)):=by simp[p,e]
     have i1:=inner (len+1) (op+1) (max dn (op+1)) y (pre++[⟨1,op,t⟩]) (⟨2,op,(len:Int)+1⟩::g) (by simp[al]) aL F H I;rw[<-V]at i1;have B:rep (o+1) w=w++rep o w:=rfl;rw[B,V5,A9,wC (o*(u+1)),Nat.add_assoc];have i2:=i1.imp (y2:=Cz (op+1) y (len+1+Q.length) (iO au w (core y))) (lZ:=xI (if(iO au w (core y)).2=0 then iO au (rep o w) (iO au w (core y)).1 else iO au w (core y))) (λy q=>q) (λs q=>by
      rw[aC (by have:=q.1;have:=q.2.1;omega)];exact q)
     refine i2.bind λc aO=>?_;obtain⟨S,P,O,a⟩:=aO;rw[aS S,<-P];have J:c.ops.getD c.next.toNat B8=⟨2,op,(len:Int)+1⟩:=by
      rw[a.ops,G,show(pre++[⟨1,op,t⟩])++(Q++(⟨2,op,(len:Int)+1⟩::g))=(pre++[⟨1,op,t⟩]++Q)++(⟨2,op,(len:Int)+1⟩::g) by simp];exact ast (by rw[O];simp[al];omega)
     have M:oz (c.dg.getD op 0-1)=o:=by
      rw[a.dg op I,E];rw[aHG I I];omega
     have T:op<c.dg.length:=by rw[a.len,m];omega
     have R:jH c=({c with dg:=c.dg.set op o,next:=(if(0:Int)<o then(len:Int)+1-1 else c.next)+1},0):=by
      unfold jH;rw[J];simp only[db,bn,M];rfl
     refine .step (by grind [a.eU]) aL ?_;rw[R];have bY:xM op y {c with dg:=c.dg.set op o,next:=(if(0:Int)<o then(len:Int)+1-1 else c.next)+1}:=⟨a.ops,a.eU,a.st,by simp[a.len],λi ai=>by
      rw[<-a.dg i I];simp only[cc,R2 (show op≠i by omega)]⟩
     by_cases Y:o=0;subst Y;rw[Hd];refine⟨rfl,rfl,?_,bY⟩
     grind
     have:=N I I {c with dg:=c.dg.set op o,next:=(if(0:Int)<o then(len:Int)+1-1 else c.next)+1} (by simp[a.ops,p]) (by
      show(if(0:Int)<o then(len:Int)+1-1 else c.next)+1=_;omega) (by grind [a.eU]) (by simp[a.len,m]) (by
      show(c.dg.set op (o:Int)).getD op 0=_;rw[cc,JP T];rfl)
     refine this.imp (λz d=>⟨d.1,d.2.1,d.2.2.1,bY.trans d.2.2.2⟩) λs j=>j
   have J:x.ops.getD x.next.toNat B8=⟨1,op,t⟩:=by
    simp[e,D,al]
   have R:jH x=({x with dg:=x.dg.set op t,next:=x.next+1},0):=by
    unfold jH;rw[J];rfl
   refine .step hp aL ?_;rw[R];have T:op<x.dg.length:=I;have:=rounds t.toNat I I {x with dg:=x.dg.set op t,next:=x.next+1} rfl aL hp bc (by
    show(x.dg.set op t).getD op 0=_;rw[cc,JP T,pB];omega)
   refine this.imp (λz d=>⟨d.1,d.2.1,by rw[d.2.2.1];simp;omega,xM.trans (y:={x with dg:=x.dg.set op t,next:=x.next+1}) ⟨rfl,rfl,rfl,bc,λi ai=>by
    simp only[cc,R2 (show op≠i by omega)]⟩ d.2.2.2⟩) λs j=>j
   rw[aC q];have aQ:t.toNat=1:=I;have K:fL t=0:=by unfold fL;grind
   have B:rep 1 w=w:=by simp[rep]
   rw[K]at e g1 g2 av⊢;rw[aQ,B];unfold kw at e⊢
   grind
  rw[jL,V5,jf,<-hu];have eR:=one.imp (y2:=Cz op x (len+(kw t op len (bif b.leaf then au.getD n.toNat []else gf au b (len+fL t) (op+fL t))).length) (iO au (rep t.toNat w) (core x))) (lZ:=xI (if(iO au (rep t.toNat w) (core x)).2=0 then iO au (gS r) (iO au (rep t.toNat w) (core x)).1 else iO au (rep t.toNat w) (core x))) (λy q=>q) (λs q=>by
   rw[aC (by have:=q.1;have:=q.2.1;omega)];exact q)
  refine eR.bind λy q=>?_;obtain⟨S,P,O,a⟩:=q;rw[aS S,<-P];have W:=e;rw[gf]at W;have N:=Z (len+(kw t op len (bif b.leaf then au.getD n.toNat []else gf au b (len+fL t) (op+fL t))).length) op _ y (pre++kw t op len (bif b.leaf then au.getD n.toNat []else gf au b (len+fL t) (op+fL t))) post ax t3 aL (by simp[a.ops,W]) O (by grind [a.eU]) (by rw[a.len];exact av);refine N.imp (λz d=>⟨d.1,d.2.1,?_,a.trans d.2.2.2⟩) λs j=>j;rw[d.2.2.1,Tj];omega
def re(au:List (List cm))(l:List Int)(c:fK):fK×Nat:=if(iO au l c).2=0/\(iO au l c).1.hand≠[]then((iO au l c).1,4)else iO au l c
def v7(au:List (List cm))(l:List Int):Nat->fK->fK×Nat
 |0,c=>(c,0)
 |n+1,c=>if(re au l c).2=0 then v7 au l n (re au l c).1 else re au l c
theorem aDh au(o:∀r∈au,∀U∈r,3<=U.k) to f(hp:o2 f)(m:Hq f) x(e:x.ops=gf au f 0 0++[⟨0,0,0⟩])(i:x.next=0)(l:x.eU<to)(av:jh f 0 0<=x.dg.length):mf to (jf au f+1) x (λy=>(re au (gS f) (core x)).2=0/\core y=(re au (gS f) (core x)).1/\y.next=0/\y.eU=x.eU+1/\y.ops=x.ops/\y.dg.length=x.dg.length) (xI (re au (gS f) (core x))):=by
 have g:=aBY au o to f 0 0 0 x [] [⟨0,0,0⟩] hp m rfl e i l av;have g2:=g.imp (y2:=Cz 0 x (0+(gf au f 0 0).length) (iO au (gS f) (core x))) (lZ:=xI (re au (gS f) (core x))) (λy q=>q) (λs q=>by
  unfold re;rw[aC (by have:=q.1;have:=q.2.1;omega)];exact q)
 refine g2.bind λy q=>?_;obtain⟨p,b,n,a⟩:=q;have h:y.ops.getD y.next.toNat B8=⟨0,0,0⟩:=by
  simp[a.ops,e,n]
 have j:(iO au (gS f) (core x)).1.hand=y.hand:=by rw[<-b];rfl
 refine ba ⟨by grind [a.eU],?_⟩;by_cases t:y.hand=[];have d:jH y=({y with eU:=y.eU+1,next:= -1+1},1):=by
  unfold jH;simp_all[h,db]
 have c:re au (gS f) (core x)=iO au (gS f) (core x):=by
  unfold re
  grind
 rw[d,aS (ba rfl),c];exact⟨p,b,rfl,by simp[a.eU],a.ops,a.len⟩;have d:jH y=({y with ox:=true,pk:=y.next,uQ:=0,uR:= -1,uN:=4},4):=by
  unfold jH;simp_all[h,db]
 have c:re au (gS f) (core x)=((iO au (gS f) (core x)).1,4):=by
  unfold re
  grind
 rw[d,aC bc,c];exact⟨rfl,bc,b⟩
theorem aER au(l:∀r∈au,∀U∈r,3<=U.k) f(hp:o2 f)(c:Hq f):∀n x,x.ops=gf au f 0 0++[⟨0,0,0⟩]->x.next=0->jh f 0 0<=x.dg.length->∃r,runM (n*(jf au f+1)+1) x (x.eU+n)=some r/\core r.1=(v7 au (gS f) n (core x)).1/\r.2=if(v7 au (gS f) n (core x)).2=0 then 1 else(v7 au (gS f) n (core x)).2:=by
 intro n x b a av;have key:∀(n:Nat)(x:fK)(to:Int),x.ops=gf au f 0 0++[⟨0,0,0⟩]->x.next=0->jh f 0 0<=x.dg.length->to=x.eU+n->mf to (n*(jf au f+1)) x (λy=>(v7 au (gS f) n (core x)).2=0/\core y=(v7 au (gS f) n (core x)).1/\y.eU=to) (xI (v7 au (gS f) n (core x))):=by
  intro n;induction n with
  |zero=>
   intro x to _ _ _ c;rw[Hd];exact⟨rfl,rfl,I⟩
  |succ n p=>
   intro x to b a av e;rw[A9,wC (n*(jf au f+1))];have g:=aDh au l to f hp c x b a I av;have g2:=g.imp (y2:=λy=>(re au (gS f) (core x)).2=0/\core y=(re au (gS f) (core x)).1/\y.next=0/\y.eU=x.eU+1/\y.ops=x.ops/\y.dg.length=x.dg.length) (lZ:=xI (v7 au (gS f) (n+1) (core x))) (λy q=>q) (λs q=>by
    rw[v7,aC (by have:=q.1;have:=q.2.1;omega)];exact q)
   refine g2.bind λy q=>?_;obtain⟨o,m,t,u,v,w⟩:=q;rw[v7,aS o,<-m]
   grind
 obtain⟨r,i,q⟩:=(key n x _ b a av rfl).run (λy q=>I);refine⟨r,i,?_⟩;rcases q with⟨h,d,j,_⟩|⟨h,d,j⟩
 grind
 grind
theorem ai1{home:List Nat}{s:List (Nat×Nat)}{hm k:Nat}{r:List Nat}(c:∀q∈r,q<=4096):∀v a,wb home s hm k r v=some a->∀q∈a,q<=4096
 |0,a,h=>by injection h with h;subst h;exact c
 |v+1,a,h=>by
  rw[wb]at h;split at h;cases h;rename_i e h1;have d:=ai1 c v e h1;split at h;split at h;cases h;injection h with h;subst h;intro q b;rcases wA b with b|rfl;exact d q b;omega;injection h with h;subst h;exact d
theorem ajY{N:Nat}{ad:List b2}:∀v r,qE N ad v=some r->∀q∈r,q<=4096
 |0,r,h=>by
  rw[qE]at h;split at h;injection h with h;subst h;intro q b;rw[(ud.1 b).2];omega;cases h
 |v+1,r,h=>by
  rw[qE]at h;split at h;cases h;rename_i c h1;have a:=ajY v c h1;split at h;rw[D6]at h;split at h;cases h;exact ai1 a _ _ h;injection h with h;subst h;exact a
theorem aFv{N:Nat}{ad:List b2}{r:List Nat}(h:xy N ad=some r):∀q∈r,q<=4096:=by
 rw[xy]at h;split at h;split at h;cases h;rename_i a h1;split at h;injection h with h;subst h;exact ajY _ _ h1;cases h;cases h
theorem Z9{N:Nat}{ad:List b2}:∀l f,(fU N ad l f).1=0->∀z∈l,0<=z/\z<N
 |[],_,_,z,a=>by cases a
 |v::l,f,h,z,a=>by
  rw[fU]at h;split at h;cases h;rename_i h1;split at h;rcases ez.1 a with rfl|a;omega;exact Z9 l _ h z a;cases h
theorem aAT{N:Nat}{ad:List b2}{az:List Int}(h:np N ad az=0):az.length<=2048/\∀z∈az,0<=z/\z<N:=by
 have h1:(eJ N ad az).1=0:=by
  refine xH λq=>?_;unfold np at h;rw[aS q]at h;exact q h
 unfold eJ at h1;split at h1;split at h1;cases h1;rename_i q;rw[bn]at h1;exact⟨I,Z9 _ _ h1⟩;rename_i q;exact absurd h1 q
theorem aEl{α:Type}{w:List α}{x:α}(a:x∈w):∀{k:Nat},1<=k->x∈rep k w
 |k+1,_=>by rw[rep];exact wz _ a
theorem TH{n:Nat}:∀f,o2 f->(∀x∈gS f,0<=x/\x<n)->EK n f/\wg n f=false
 |.nil,_,_=>⟨trivial,rfl⟩
 |.cons t k b r,⟨h1,ae,g⟩,h=>by
  have c:=TH r g λx d=>h x (by rw[gS];exact List.mem_append_right _ d);have a:∀x∈(bif b.leaf then[k]else gS b),0<=x/\x<(n:Int):=λx d=>h x (by rw[gS];exact wz _ (aEl d I));cases al:b.leaf with
  |true=>
   rw[al,pG]at a;have hk:=a k (G' _);have i:b= .nil:=by cases b with|nil=>rfl|cons=>cases al
   subst i;refine⟨⟨λ_=>hk,trivial,c.1⟩,?_⟩;rw[wg,c.2,wg,al,jn I];rfl
  |false=>
   rw[al,vw]at a;have e:=TH b ae a;refine⟨⟨λq=>(by rw[al]at q;cases q),e.1,c.1⟩,?_⟩;rw[wg,c.2,e.2,al];rfl
end Go.Sx
namespace Go.Sx
open Go.Proofs
set_option maxRecDepth 100000
set_option maxHeartbeats 0
set_option linter.all false
variable {h:J}{az:List Int}{ac b0 bT c1 c2 cf:Nat}{c8 cn dT eg h2 jA:Option aE}
def jy(l:List Nat):List Int:=l.map λz:Nat=>(z:Int)
def Et(g:dd)(az:List Int):Prop:=iV g≠0\/xy g.aY.length (dJ g)=none\/(∃eF,xy g.aY.length (dJ g)=some eF/\tX g.aY.length (dJ g) eF az=none)\/∃eF l,xy g.aY.length (dJ g)=some eF/\tX g.aY.length (dJ g) eF az=some l/\(np g.aY.length (dJ g) (jy l)≠0\/∃os a ek,os.Perm (fJ (dJ g).length)/\qT (lo (eJ g.aY.length (dJ g) (jy l)).2 (dJ g).length) (ma (eJ g.aY.length (dJ g) (jy l)).2) (dJ g).length os a ek/\1024<p3 a)
def aIg:Array aA:=#[R 0,ab none 0 0,ab none 0 0,ab none 0 0,ab none 0 0,ab none 0 0,R 0,R 0,R 0,R 0,R 0,ab none 0 0,ab none 0 0,ab none 0 0]
structure Hb where
 xn:Option aE
 B6:Nat
 au:aE
 ho:Option aE
 lc:Nat
 l:List Nat
 JZ:Option aE
 ea:Nat
 DP:Nat
 df:cd
 s7:Option aE
 T:Int
 p:jC
def Hb.val(g:dd)(x:Hb):aA:=.agg #[R g.aY.length,ab x.xn (dJ g).length x.B6,ab (some x.au) g.aY.length g.aY.length,ab x.ho x.l.length x.lc,ab x.JZ x.ea x.DP,ab x.s7 (dJ g).length (dJ g).length,R x.T,R x.p.mem,R x.p.br,R x.p.ins,R x.p.outs,ab x.p.j' x.p.parts.length x.p.c7,ab x.p.fg x.p.lines.length x.p.lc,ab x.p.cn x.p.ops.length x.p.bT]
structure Hc(g:dd)(az:List Int)(aa:J)(x:Hb):Prop where
 g0:iV g=0
 cK:bg aa 1 x.ho x.l.length (gi (jy x.l))
 nest:kR aa x.JZ x.ea x.df
 br:x.df.br<=2048
 uj:JB (jy x.l) x.df.bR.eL
 eL:x.df.bR.eL=(rB (jy x.l)).2
 ok:x.p.ok aa
 ex:∃eF os bm ek,xy g.aY.length (dJ g)=some eF/\tX g.aY.length (dJ g) eF az=some x.l/\np g.aY.length (dJ g) (jy x.l)=0/\os.Perm (fJ (dJ g).length)/\qT (lo (eJ g.aY.length (dJ g) (jy x.l)).2 (dJ g).length) (ma (eJ g.aY.length (dJ g) (jy x.l)).2) (dJ g).length os bm ek/\x.T=p3 bm/\Nq g bm x.T x.df.bR x.p/\x.p.rt (jf (gU g) x.df.bR+1:Nat)
theorem V7{N:Int}{ad:List b2}(h:np N ad az=0):(eJ N ad az).1=0:=by
 refine xH λq=>?_;unfold np at h;rw[aS q]at h;exact q h
theorem aGJ{N:Int}{ad:List b2}(h:np N ad az=0){i:Nat} a:ad[i].start<=(ma (eJ N ad az).2).getD i 0:=by
 have h1:=V7 h;have f:=(L1 h1).1;have d:dP ad (bp N.toNat 0)∈(eJ N ad az).2:=by
  unfold eJ at h1⊢;split at h1;rename_i q;rw[aS q];split at h1;cases h1;rename_i c;rw[aC c];exact hq;rename_i q;exact absurd h1 q
 have:=f.up i a _ d;have e:(dP ad (bp N.toNat 0)).getD i 0=ad[i].start:=by
  have b:∀o,(bp N.toNat (0:Int)).getD o 0=0:=λo=>by rw[cc,A3];split<;>rfl
  rw[cc,dP,de,bK a];simp only[si,pB,oX,b];omega
 rw[e]at this;exact this
theorem ap1{l:List Int}(h:∀z∈l,0<=z/\z<32)(al:l.length<=2048):(rB l).1=0/\JB l (rB l).2:=by
 have b:∀x∈l,¬wV x:=λx a q=>by have:=h x a;unfold wV at q;omega
 have:¬∃x∈l,wV x:=λ⟨x,a,q⟩=>b x a q;unfold rB;rw[aC I,aC this];exact⟨rfl,JB.of al b⟩
theorem aDp{g:dd}(ok:g.ok h){os:List Nat}{a:List dv}{ek:List Bool}(f:np g.aY.length (dJ g) az=0)(m:os.Perm (fJ (dJ g).length))(l:qT (lo (eJ g.aY.length (dJ g) az).2 (dJ g).length) (ma (eJ g.aY.length (dJ g) az).2) (dJ g).length os a ek):a.length=g.aP.length/\0<=p3 a/\(∀i(_:i<a.length)(_:i<g.aP.length),0<=a[i].1/\a[i].1+a[i].2<=p3 a/\(g.aP[i].n:Int)<=a[i].2)/\∀i(_:i<a.length)(_:i<g.aP.length),0<=a[i].1/\0<=a[i].2/\a[i].1+a[i].2<=p3 a/\((g.aP[i]).st.length:Int)<=a[i].2:=by
 have hp:=L1 (V7 f);have j:∀i,0<=pU (ma (eJ g.aY.length (dJ g) az).2) i:=λi=>by
  by_cases q:i<(dJ g).length;exact(hp.2 i q).1;unfold pU;rw[cc,l2 (by rw[hp.1.len];omega)];exact y4 _
 have fin:=ajj l j m;have c:(dJ g).length=g.aP.length:=by simp[dJ]
 have key:∀i(_:i<a.length)(_:i<g.aP.length),0<=a[i].1/\a[i].1+a[i].2<=p3 a/\(g.aP[i].n:Int)<=a[i].2:=by
  intro i b d;have e:iq a i=a[i]:=by unfold iq;rw[cc,bK b];rfl
  have h1:=fin.base i I;have ae:=fin.size i I;rw[e]at h1 ae;refine⟨h1,akK (b3 b),?_⟩;rw[ae];have:=aGJ f (i:=i) I;have k:(dJ g)[i].start=(g.aP[i].n:Int):=by simp[dJ,od]
  rw[k]at this;exact this
 refine⟨by rw[<-c];exact fin.len,(akL.1 (y4 _)).1,key,λi b d=>?_⟩;have h1:=key i b d;have ae:=(ok.nD _ (b3 d)).dK.len;rw[fj]at ae;exact⟨h1.1,I,h1.2.1,I⟩
theorem agV g h(ok:g.ok h)(xB:wK h) P k c2 az(p2:bg h 1 P k (gi az))(hk:k<=70368744177664):Fn aD 7 #[.agg g.cells.toArray,ab P k c2] h λv aa=>h.le aa/\((v=eA #[.agg aIg,dh false]/\Et g az)\/∃x,v=eA #[x.val g,dh true]/\Hc g az aa x):=by
 have u:=aCn g h ok;have gc:g.cells=[.string g.ea,ab g.h2 g.aY.length g.ac,ab g.c8 g.aP.length g.b0,ab g.eg g.ins.length g.cf,ab g.cn g.outs.length g.bT]:=rfl;rw[gc]at u⊢;refine bU azP rfl (ay λfD cQ eT=>cQ _ _ _ (ay λfy cM d9=>.ag (.mk _ u ?_)));rintro _ h1 ⟨c,IU,rfl,⟨aKc,y,ea,o,rfl⟩,aF⟩;by_cases g0:iV g=0
 .obtain⟨y,o,V,pX,_⟩:=aF g0;rw[V];rw[g0];refine cM _ _ _ (ay λfz cL eZ=>ay λfE Z dH=>Z _ _ _ (cL _ _ _ (ay λgF du gN=>?_)));have Y:=pX.dK (rows:=(dJ g).map b2.cells) (λr U=>by obtain⟨x,_,rfl⟩:=cO.1 U;rfl) aH;have D:=ts g0;have DA:∀a∈g.aY,a.n<=1000:=λa aZ=>by
   have h1:=QY (D.sX a aZ);have ae:=(ok.act a aZ).dK.len;rw[fj]at ae;omega
  have o6:=D.o6;have a32:=D.a32;have agF:(dJ g).length=g.aP.length:=by simp[dJ]
  refine .ag (.mk _ (aFu g.aY.length (dJ g).length o y (dJ g) h1 Y I (xB.mono c)) (λv2 ae⟨b,T⟩=>?_));split at T;rotate_left;rename_i d;obtain⟨ca,HQ,bM,QH,rc,YT,k4,jW,rfl,b'⟩:=T;have bad:Et g az:=ba (bQ d);refine du _ _ _ (ay λgL ed gG=>ay λjl E hU=>?_);conv=>whnf
  by_cases t:HQ=0;rw[jn I];conv=>whnf
  refine E _ _ _ ?_;conv=>whnf
  rw[hr (by intro q;exact b' ⟨q,t⟩)];conv=>whnf
  exact gG _ _ _ _ nofun (.ag ⟨J.le_trans c b,bQ ⟨rfl,bad⟩⟩);rw[hr I];conv=>whnf
  exact E _ _ _ (gG _ _ _ _ nofun (.ag ⟨J.le_trans c b,bQ ⟨rfl,bad⟩⟩));rename_i eF d;obtain⟨j0,au,rfl,nW⟩:=T;have O:=aFv d;refine du _ _ _ (ay λgL ed gG=>ay λjl E hU=>E _ _ _ (ed _ _ _ (ay λkd fO j3=>.ag (.mk _ (aEF g.aY.length (dJ g).length o g.aY.length g.aY.length k c2 y (some au) P (dJ g) eF az ae (Y.mono b) I nW (λq aB=>by have:=O q aB;omega) I ((p2.mono c).mono b) hk) (λv3 ax⟨e,zP⟩=>?_)))));split at zP;rotate_left;rename_i s;obtain⟨dT,bS,aIN,mG,fs,fc,di,rfl,b'⟩:=zP;have bad:Et g az:=ba (ba (bQ ⟨eF,d,s⟩));refine fO _ _ _ (ay λjU hc iD=>ay λkQ F kH=>?_);conv=>whnf
  by_cases t:di=0;rw[jn I];conv=>whnf
  refine F _ _ _ ?_;conv=>whnf
  rw[hr I];conv=>whnf
  exact iD _ _ _ _ nofun (.ag ⟨J.le_trans c (J.le_trans b e),bQ ⟨rfl,bad⟩⟩);rw[hr I];conv=>whnf
  exact F _ _ _ (iD _ _ _ _ nofun (.ag ⟨J.le_trans c (J.le_trans b e),bQ ⟨rfl,bad⟩⟩));rename_i l s;obtain⟨aJC,ho,lc,rfl,Ei⟩:=zP;refine fO _ _ _ (ay λjU hc iD=>ay λkQ F kH=>F _ _ _ (hc _ _ _ (ay λqS kh qs=>?_)));have M:bg ax 1 ho l.length ((jy l).map λz=>[R z]):=by unfold jy;rw[ig];exact Ei
  refine .ag (.mk _ (aDl g.aY.length (dJ g).length o (dJ g) y ho l.length lc (jy l) ax ((Y.mono b).mono e) I M (λ_=>True) λ_=>aFJ _ I _) (λv4 aT⟨j,zA,W⟩=>?_));by_cases f:np g.aY.length (dJ g) (jy l)=0;rotate_left;rw[zA f];have bad:Et g az:=ba (ba (ba ⟨eF,l,d,s,bQ f⟩));refine kh _ _ _ (ay λoE ki K=>ay λsk w uI=>?_);conv=>whnf
  rw[hr f];exact w _ _ _ (K _ _ _ _ nofun (.ag ⟨J.le_trans c (J.le_trans b (J.le_trans e j)),bQ ⟨rfl,bad⟩⟩));obtain⟨os,i,ek,hT,_,fm,Fv,X⟩:=W f;by_cases hs:p3 i<=1024;rotate_left;rw[Fv I];have bad:Et g az:=ba (ba (ba ⟨eF,l,d,s,ba ⟨os,i,ek,hT,fm,I⟩⟩));exact kh _ _ _ (ay λoE ki K=>ay λsk w uI=>w _ _ _ (K _ _ _ _ nofun (.ag ⟨J.le_trans c (J.le_trans b (J.le_trans e j)),bQ ⟨rfl,bad⟩⟩)));obtain⟨s7,rfl,Q⟩:=X hs;refine kh _ _ _ (ay λoE ki K=>ay λsk w uI=>w _ _ _ (ki _ _ _ (ay λxT qr z1=>.ag (.mk _ (ap4 (jy l) ho l.length lc aT (M.mono j)) ?_))));rintro v5 cr ⟨G,JZ,ea,DP,m,rfl,S,L⟩;have C:=aAT f;have dX:g.aY.length<=32:=D.a32;obtain⟨oM,B⟩:=ap1 (l:=jy l) (λz a7=>⟨(C.2 z a7).1,by have:=(C.2 z a7).2;omega⟩) C.1;rw[oM];rw[<-L]at B;refine qr _ _ _ ?_;have sat:=S.sat.mono (J.sub_le _ _);have br:m.br<=2048:=by rw[PN,L];exact ap0 _
  have A:=B.fF;have sD:=B.jL;rw[Ge]at A sD;have zK:=(NT A).1;have oN:=TH (n:=g.aY.length) m.bR zK (by rw[sD];exact C.2);have H:=aDp ok f hT fm;have k6:=abO (au:=gU g) m.bR zK 0 0;have lm:=(Q4 (au:=gU g) (λr U=>TD U) m.bR zK).1;have zR:=(NT A).2;refine .ag (.mk _ (aA9 g cr ((((ok.mono c).mono b).mono e).mono (J.le_trans j G)) g0 (some s7) (dJ g).length (dJ g).length (p3 i) i (Q.mono G) I I H.2.1 hs H.2.2.1 m JZ ea DP sat A oN.2 oN.1 I I DA) ?_);rintro v6 eX ⟨im,p,rfl,W7,made⟩;have N:=aA4 g0 I H.2.1 hs H.2.2.2 A made;refine .ag ⟨J.le_trans c (J.le_trans b (J.le_trans e (J.le_trans j (J.le_trans G im)))),ba ⟨⟨y,o,au,ho,lc,l,JZ,ea,DP,m,some s7,p3 i,p⟩,rfl,(⟨g0,(M.mono j|>.mono G).mono im,sat.mono im,br,B,L,W7,eF,os,i,ek,d,s,f,hT,fm,rfl,made,N⟩)⟩⟩
 refine cM _ _ _ (ay λfz cL eZ=>ay λfE Z dH=>?_);conv=>whnf
 rw[hr g0];exact Z _ _ _ (eZ _ _ _ _ nofun (.ag ⟨c,bQ ⟨rfl,bQ g0⟩⟩))
theorem aFg(L:List (List Int)) n i a(c:i<n):(L.take i++bp (n-i) []).set i L[i]=L.take (i+1)++bp (n- (i+1)) []:=by
 have e:n-i=(n- (i+1))+1:=I;have b:(L.take i).length=i:=by simp;omega
 rw[vm _ _ I,b,xQ,e,A4,List.set_cons_zero,List.take_add_one,bK a,mg];rfl
theorem agU(p:jC)(T:Int)(h:J)(ok:p.ok h)(w:p.rt T)(z:Option aE)(jE:Nat)(F:List bM)(O:bg h 1 z F.length (F.map λd=>[d.val]))(bs:∀d∈F,d.ok h/\d.l.length<=17592186044416):Fn aD 9 #[.agg p.cells.toArray,ab z F.length jE] h λv b=>∃a1 B m,v=bY a1/\h.le B/\dr B b a1 m/\m.x={iP p with cZ:=(F.map bM.l).take p.ins.toNat++bp (p.ins.toNat-F.length) []}:=by
 have tQ:p.cells=[R p.mem,R p.br,R p.ins,R p.outs,ab p.j' p.parts.length p.c7,ab p.fg p.lines.length p.lc,ab p.cn p.ops.length p.bT]:=rfl;have n27:=aB0 p T h ok w;rw[tQ]at n27⊢;refine bU az4 rfl (ay λfD Z eT=>Z _ _ _ (ay λfy Y d9=>.ag (.mk _ n27 ?_)));rintro _ h1 ⟨a1,B,m,rfl,hd,k,W,D⟩;refine Y _ _ _ (ay λfz X eZ=>ay λfE dR dH=>dR _ _ _ (X _ _ _ (ay λgF H gN=>ay λgL ed gG=>ed _ _ _ (ew λkd K j3=>?_))));have k7:p.ins.toNat<=1000:=by have:=w.i1;omega
 have ip:(p.ins.toNat:Int)=p.ins:=by have:=w.i0;omega
 refine .jG (.ag (.mk (Nat×J×fx) [1,2,5,7] (λ(i,_,_)=>[.v (ab z F.length jE),.p 0 0,.v (bY a1),.v (R i)]) (λ_=>[.own (([R p.mem,R p.br,R p.ins,R p.outs,ab p.j' p.parts.length p.c7,ab p.fg p.lines.length p.lc,ab p.cn p.ops.length p.bT]:List aA).map .v) 42]) (λ(i,g,a) b=>dr g b a1 a/\h.le g/\i<=F.length/\i<=p.ins.toNat/\a.x={iP p with cZ:=(F.map bM.l).take i++bp (p.ins.toNat-i) []}/\a.cZ.length=p.ins.toNat/\∀o(n:o<a.cZ.length),i<=o->a.cZ[o]=nE) (λ(i,_,_)=>F.length-i) (0,B,m) (λ_=>rfl) ⟨k,hd,cU _,cU _,by rw[W];rfl,by rw[D];simp,λo n _=>by simp[D]⟩ rfl rfl ?_));refineλ⟨i,g,a⟩ e ae⟨r,j,V,OS,y,qm,E⟩=>ay λjU hc N=>ay λkQ L kH=>?_;conv=>whnf
 by_cases t:i<F.length;rw[hr I];refine L _ _ _ (qJ rfl (λq=>?_) (λq=>?_));have U:(i:Int)<p.ins:=uX q;refine hc _ _ _ (ay λqS kh qs=>ew λoE ki nn=>ay λsk lJ uI=>?_);obtain⟨ju,C⟩:=O.b4 I;have f:=J.le_trans j r.le;refine .m ju C (.hp F[i].val (by rw[bn];exact(O.mono f).one C (jx t) rfl) ?_);have G:=bs _ (b3 t);refine .ag (.mk _ (arr r i I (E i I (dM _)) F[i].A F[i].l.length F[i].c F[i].l (G.1.mono f) G.2) ?_);rintro _ ax ⟨rfl,P,m3,S,fs,Q,d3,s⟩;refine lJ _ _ _ (nn _ _ _ _ nofun (kh _ _ _ (.bl (⟨(i+1,P,m3),rfl,rfl,⟨fs,J.le_trans j S,I,I,?_,by rw[s];simpa using qm,λo n uy=>?_⟩,by show F.length- (i+1)<F.length-i;omega⟩))));rw[Q,y];have:=aFg (F.map bM.l) p.ins.toNat i (by simpa using t) I;rw[EH]at this;simp only[this];have e:m3.cZ[o]?=(a.cZ.set i d3)[o]? :=by rw[s]
 have M:o<a.cZ.length:=by have b:=n;rw[s]at b;simpa using b
 rw[bK n,R2 I,bK M,E o M I]at e;exact wF e;have U:¬(i:Int)<p.ins:=Ag q;refine N _ _ _ _ nofun ?_;have u:i=p.ins.toNat:=I;refine K _ _ _ (H _ _ _ ?_);conv=>whnf
 refine .ag ⟨a1,g,a,rfl,j,r,?_⟩;rw[y,u,xQ,Nat.sub_eq_zero_of_le I];rw[jn I];refine L _ _ _ (qJ rfl nofun (λq=>N _ _ _ _ nofun ?_));have u:i=F.length:=I;refine K _ _ _ (H _ _ _ (.ag ⟨a1,g,a,rfl,j,r,?_⟩));rw[y,u,mJ bc,mJ (by simp;omega)]
def e6(h2 c8 eg cn jA dT:Option aE)(ac b0 cf bT c1 c2:Nat):dd:=⟨⟨#[103]⟩,h2,ac,[⟨⟨#[97]⟩,2,jA,1,c1,[2]⟩,⟨⟨#[98]⟩,3,dT,1,c2,[3]⟩],c8,b0,[⟨0,0,1,0,none,0,0,[]⟩],eg,cf,[⟨⟨#[120]⟩,0,0⟩],cn,bT,[⟨⟨#[121]⟩,1,0⟩]⟩
def pD:List b2:=[⟨0,1,2,3,0⟩]
def acy:List (List cm):=[[⟨4,0,1⟩,⟨5,0,0⟩,⟨6,0,2⟩],[⟨3,0,3⟩,⟨5,1,0⟩,⟨7,0,1⟩]]
theorem aoM:iV (e6 h2 c8 eg cn jA dT ac b0 cf bT c1 c2)=0:=dW
theorem ZU:dJ (e6 h2 c8 eg cn jA dT ac b0 cf bT c1 c2)=pD:=dW
theorem aoK:gU (e6 h2 c8 eg cn jA dT ac b0 cf bT c1 c2)=acy:=dW
theorem Z0:xy 2 pD=some [3,2]:=by decide+kernel
theorem ZZ:tX 2 pD [3,2] []=some [0,0,1,0,1]:=by decide+kernel
theorem aoN:np 2 pD [0,0,1,0,1]=0:=by decide+kernel
theorem ZW:ma (eJ 2 pD [0,0,1,0,1]).2=[4]:=by decide+kernel
theorem ZX:lo (eJ 2 pD [0,0,1,0,1]).2 1=[]:=by decide+kernel
theorem ZY{os:List Nat}{f:List dv}{ek:List Bool}(hp:os.Perm (fJ 1))(r:qT [] [4] 1 os f ek):f=[(0,4)]:=by
 have d:os=[0]:=List.perm_singleton.1 hp;cases r with
 |nil=>cases d
 |step a aV h l=>
  rename_i g c j;have ae:g=[]/\a=0:=by
   cases g with
   |nil=>injection d with e _;exact⟨rfl,e⟩
   |cons b t=>injection d with _ e;exact absurd e bc
  obtain⟨rfl,rfl⟩:=ae;have m:c=[(0,0)]:=by
   generalize e:([]:List Nat)=i at h;cases h with
   |nil=>rfl
   |step=>exact absurd e.symm bc
  have k:aV=[]:=List.length_eq_zero_iff.1 (by have:=l.1.length_eq;simpa[j6,mZ]using this);subst m k;rfl
def WQ:List cm:=[⟨1,0,2⟩,⟨4,0,1⟩,⟨5,0,0⟩,⟨6,0,2⟩,⟨2,0,1⟩,⟨3,0,3⟩,⟨5,1,0⟩,⟨7,0,1⟩,⟨4,0,1⟩,⟨5,0,0⟩,⟨6,0,2⟩,⟨3,0,3⟩,⟨5,1,0⟩,⟨7,0,1⟩]
theorem ZV:gf acy (gA (rB [0,0,1,0,1]).2) 0 0=WQ/\jh (gA (rB [0,0,1,0,1]).2) 0 0=1:=by decide+kernel
def WY:jC:={mem:=4,br:=1,ins:=1,outs:=1,j':=none,c7:=0,parts:=[⟨2,none,0,0,[2]⟩,⟨3,none,0,0,[3]⟩],fg:=none,lc:=0,lines:=[⟨0,4,none,0,0,[]⟩],cn:=none,bT:=0,ops:=WQ++[⟨0,0,0⟩]}
theorem aoO:∃x,runM 200 {iP WY with cZ:=[[7,8,9]]} 1=some (x,1)/\x.wr=[[7,0]]:=⟨_,rfl,rfl⟩
theorem aDa:∀{l:List n7},l.map (λx=>(x.tag,x.a8))=[(2,[2]),(3,[3])]->∃d b c1 c a c2,l=[⟨2,d,b,c1,[2]⟩,⟨3,c,a,c2,[3]⟩]
 |[⟨t1,d,b,c1,e⟩,⟨t2,c,a,c2,f⟩],h=>by
  simp only[er,y8,A1,Hk,and_true]at h;obtain⟨⟨rfl,rfl⟩,rfl,rfl⟩:=h;exact⟨d,b,c1,c,a,c2,rfl⟩
theorem aAL:∀{l:List ho},l.map (λx=>(x.base,x.size,x.st))=[(0,4,[])]->∃d c c1,l=[⟨0,4,d,c,c1,[]⟩]
 |[⟨e,s1,a,b,d1,st1⟩],h=>by
  simp only[er,y8,A1,Hk,and_true]at h;obtain⟨rfl,rfl,rfl⟩:=h;exact⟨a,b,d1,rfl⟩
theorem aoP{i:J}{x:Hb}(m:Hc (e6 h2 c8 eg cn jA dT ac b0 cf bT c1 c2) [] i x):iP x.p=iP WY/\x.p.ins=1/\x.p.outs=1/\∃T,x.p.rt T:=by
 obtain⟨_,_,_,_,_,b,_,eF,os,f,ek,d,e,t,g,a,j,k,h⟩:=m;rw[ZU]at d e g a;have f1:eF=[3,2]:=(wF (Z0.symm.trans d)).symm;subst f1;have f2:x.l=[0,0,1,0,1]:=(wF (ZZ.symm.trans e)).symm;rw[f2]at a b;have f3:f=[(0,4)]:=ZY (os:=os) (ek:=ek) g (by
  have q:qT (lo (eJ (2:Nat) pD (jy [0,0,1,0,1])).2 pD.length) (ma (eJ (2:Nat) pD (jy [0,0,1,0,1])).2) 1 os f ek:=a;rw[show ma (eJ (2:Nat) pD (jy [0,0,1,0,1])).2=[4]from ZW,show lo (eJ (2:Nat) pD (jy [0,0,1,0,1])).2 pD.length=[]from ZX]at q;exact q)
 subst f3;obtain⟨m1,m2,m3,m4,m5,m6,m7⟩:=k;have c:x.df.bR=gA (rB [0,0,1,0,1]).2:=by rw[<-Ge x.df.bR,b];rfl
 rw[aoK,c,ZV.1]at m7;rw[c,ZV.2]at m2;refine⟨?_,m3,m4,_,h⟩;rw[j]at m1;generalize x.p=p at*;obtain⟨mem,br,ins,outs,j',c7,parts,fg,lc,lines,cn,bT,ops⟩:=p;have m1:mem=4:=m1;have m2:br=1:=m2;have m3:ins=1:=m3;have m4:outs=1:=m4;have m5:parts.map (λx=>(x.tag,x.a8))=[(2,[2]),(3,[3])]:=m5;have m6:lines.map (λx=>(x.base,x.size,x.st))=[(0,4,[])]:=m6;have m7:ops=WQ++[⟨0,0,0⟩]:=m7;subst m1 m2 m3 m4 m7;obtain⟨v,s,c1,u,o,c2,rfl⟩:=aDa m5;obtain⟨n,r,d1,rfl⟩:=aAL m6;rfl
abbrev ui(l:List aA)(t:Nat):Obj:=bb l.toArray t (0,0)
def DR:Obj:=ui [R 2] 3
def Gl:Obj:=ui [R 3] 3
def I2(a b:Nat):Obj:=ui [.string ⟨#[97]⟩,bC .u8 2,ab (some ⟨a,0,none⟩) 1 1,.string ⟨#[98]⟩,bC .u8 3,ab (some ⟨b,0,none⟩) 1 1] 96
def Me:Obj:=ui [R 0,R 0,R 1,R 0,ab none 0 0] 98
def Qk:Obj:=ui [.string ⟨#[120]⟩,R 0,R 0] 100
def WO:Obj:=ui [.string ⟨#[121]⟩,R 1,R 0] 100
def wT(b:Nat):Option aE:=some ⟨b,0,none⟩
def aK(h:J)(a b c e d f:Nat):J:=(((((h.put a DR).put b Gl).put c (I2 a b)).put e Me).put d Qk).put f WO
theorem asT{b c e f g i:Nat}(p:h b=none)(o:(h.put b DR) c=none)(s:((h.put b DR).put c Gl) e=none)(u:(((h.put b DR).put c Gl).put e (I2 b c)) f=none)(x:((((h.put b DR).put c Gl).put e (I2 b c)).put f Me) g=none)(z:(((((h.put b DR).put c Gl).put e (I2 b c)).put f Me).put g Qk) i=none):h.le (aK h b c e f g i)/\(e6 (wT e) (wT f) (wT g) (wT i) (wT b) (wT c) 2 1 1 1 1 1).ok (aK h b c e f g i):=by
 have n:J.le _ (aK h b c e f g i):=J.d' z;have m:=J.le_trans (J.d' (U:=Qk) x) n;have l:=J.le_trans (J.d' (U:=Me) u) m;have k:=J.le_trans (J.d' (U:=I2 b c) s) l;have j:=J.le_trans (J.d' (U:=Gl) o) k;have t:=J.le_trans (J.d' (U:=DR) p) j;have q:=j _ _ (J.b8 h b DR);have r:=k _ _ (J.b8 _ c Gl);have v:=l _ _ (J.b8 _ e (I2 b c));have w:=m _ _ (J.b8 _ f Me);have y:=n _ _ (J.b8 _ g Qk);have A:aK h b c e f g i i=some WO:=J.b8 _ i WO;refine⟨t,(by decide:(1:Nat)<=4611686018427387904),bg.lit v rfl (by simp[e6,hh.cells]) rfl,?_,bg.lit w rfl (by simp[e6,GE.cells]) rfl,?_,bg.lit y rfl (by simp[e6,kO.cells]) rfl,?_,bg.lit A rfl (by simp[e6,kO.cells]) rfl,?_⟩;intro a d;simp only[e6,ez,y9,or_false]at d;rcases d with rfl|rfl;exact⟨bg.lit q rfl bc rfl,(by decide:(1:Nat)*8<=140737488355328),(by decide:(1:Nat)<=4611686018427387904)⟩;exact⟨bg.lit r rfl bc rfl,(by decide:(1:Nat)*8<=140737488355328),(by decide:(1:Nat)<=4611686018427387904)⟩;intro a d;simp only[e6,ez,y9,or_false]at d;subst d;exact⟨bg.nil _ _ _,(by decide:(0:Nat)*8<=140737488355328)⟩;intro a d;simp only[e6,ez,y9,or_false]at d;subst d;exact(by decide:(1:Nat)<=4611686018427387904);intro a d;simp only[e6,ez,y9,or_false]at d;subst d;exact(by decide:(1:Nat)<=4611686018427387904)
theorem aoL:¬Et (e6 h2 c8 eg cn jA dT ac b0 cf bT c1 c2) []:=by
 unfold Et;rw[ZU];have es:xy (e6 h2 c8 eg cn jA dT ac b0 cf bT c1 c2).aY.length pD=some [3,2]:=Z0;have e:tX (e6 h2 c8 eg cn jA dT ac b0 cf bT c1 c2).aY.length pD [3,2] []=some [0,0,1,0,1]:=ZZ;rw[es];rintro(q|q|⟨eF,b,a⟩|⟨eF,l,b,a,c⟩);exact q aoM;cases q;cases b;rw[e]at a;cases a;cases b;rw[e]at a;cases a;rcases c with c|⟨os,f,ek,g,h,d⟩;exact c aoN;have q:qT (lo (eJ (2:Nat) pD (jy [0,0,1,0,1])).2 pD.length) (ma (eJ (2:Nat) pD (jy [0,0,1,0,1])).2) 1 os f ek:=h;rw[show ma (eJ (2:Nat) pD (jy [0,0,1,0,1])).2=[4]from ZW,show lo (eJ (2:Nat) pD (jy [0,0,1,0,1])).2 pD.length=[]from ZX]at q;rw[ZY g q]at d;exact absurd d aH
theorem SE h(xB:wK h):Fn aD 8 #[] h λv I=>v=dh true/\h.le I:=by
 refine bU azY rfl (ay λfD P eT=>P _ _ _ (ay λfy O d9=>O _ _ _ (ay λfz N eZ=>.mk λK S=>.mk λM X=>.mk λg7 rN=>.mk λml zA=>.mk λmL q=>.mk λrz r=>?_)));have w:=asT S X rN zA q r;refine .ag (.mk _ (agV _ (aK h K M g7 ml mL rz) w.2 (xB.mono w.1) none 0 0 [] (bg.nil _ _ _) aH) ?_);rintro _ h1 ⟨Q,⟨_,bad⟩|⟨x,rfl,mk⟩⟩;exact absurd bad aoL;obtain⟨iU,E,H,T,i⟩:=aoP mk;refine N _ _ _ (ay λfE V dH=>ay λgF W gN=>W _ _ _ (V _ _ _ (ay λgL Z gG=>.mk λa s=>.mk λf t=>?_)));have y:J.le _ ((h1.put a (ui [R 7,R 8,R 9] 3)).put f (ui [ab (wT a) 3 3] 27)):=J.d' t;have F:((h1.put a (ui [R 7,R 8,R 9] 3)).put f (ui [ab (wT a) 3 3] 27)) f=some (ui [ab (wT a) 3 3] 27):=J.b8 _ _ _;have uo:=y _ _ (J.b8 h1 a (ui [R 7,R 8,R 9] 3));have z:=J.le_trans (J.d' (U:=ui [R 7,R 8,R 9] 3) s) y;refine .ag (.mk _ (agU x.p T _ (mk.ok.mono z) i (wT f) 1 [⟨wT a,3,[7,8,9]⟩] (bg.lit F rfl (by simp[bM.val]) rfl) (λd C=>?_)) ?_);rw[hZ]at C;subst C;exact⟨bg.lit uo rfl (by simp[gi]) rfl,(by decide:(3:Nat)<=17592186044416)⟩;rintro _ ae ⟨a1,B,m,rfl,hd,k,b⟩;have v0:tb x.p 200 m.x:=by rw[b];exact tb.start i (by rw[E];rfl) aH
 rw[iU,E]at b;have b:m.x={iP WY with cZ:=[[7,8,9]]}:=b;obtain⟨vc,fm,j⟩:=aoO;refine Z _ _ _ (ay λjl Y hU=>ay λkd fO j3=>fO _ _ _ (Y _ _ _ (ay λjU hc iD=>.ag (.mk _ (ajf k 1 aH (by rw[b];decide) i 200 v0 vc 1 (by rw[b];exact fm)) ?_))));rintro _ ax ⟨Ct,m3,rfl,G,D,l,_⟩;refine hc _ _ _ (ay λkQ gM kH=>?_);conv=>whnf
 rw[hr rfl];refine .ag (.mk _ (aif D 0 (by rw[l,j];decide) (by rw[l,j];decide)) ?_);rw[l,j];intro v aT n;obtain⟨L,A,c,rfl,o⟩:=n.dK;refine .mk λg u=>?_;have e:aT.le (aT.put g (ui [R 7,R 0] 3)):=J.d' u;refine .ag (.mk _ (ajx A (wT g) 2 2 c 2 [7,0] [7,0] _ (o.mono e) (bg.lit (cs:=[R 7,R 0]) (J.b8 aT g _) rfl bc rfl) aH) ?_);rintro _ cr ⟨rfl,rfl⟩;exact gM _ _ _ (.ag ⟨rfl,J.le_trans w.1 (J.le_trans Q (J.le_trans z (J.le_trans hd (J.le_trans G (J.le_trans D.le (J.le_trans L e))))))⟩)
theorem Hc.HT{g:dd}{x:Hb}(m:Hc g az h x):x.p.rt (jf (gU g) x.df.bR+1:Nat):=by
 obtain⟨_,_,_,_,_,_,_,_,_,_,_,a⟩:=m.ex;exact a
structure Y8(g:dd):Prop where
 a8:∀a∈g.aY,∀z∈a.a8,EP z
 st:∀e∈g.aP,∀z∈e.st,EP z
end Go.Sx
namespace Go.Proofs.YtlbdbpaelcnfgaaGreatDoor
open Go.Sx Go.RowKit Go.ChangeShapes Go.WideShapes
set_option maxRecDepth 100000
theorem Tryz.own:ownKnob Tryz.prog.godebug=none:=dW
theorem Tryz.laidOut:laidOutB aD=true:=fl
theorem apt:Tryz.prog.bytesOf 3=8:=dW
section
variable {H:Type}{enc:gv×aA->H}{P:fk}
theorem Mf{α:Type}{cells:α->List aA}{size:Nat}{W:bD}{spare:Nat->Bool}{held:Bool}{t e s:Nat}{v:aA}{x:rr H×List wB}(Ok:α->rr H->Prop)(G:∀a,(cells a).length=size)(C:P.underlying t=some (.slice e))(hC:P.cellsOf e=size)(K:∀s cs y,y1 enc P W 0 spare held s e cs=some y->∃a,cs=cells a/\Ok a y.1)(h:y1 enc P W 0 spare held s t [v]=some x):∃(A:Option aE)(n cap:Nat)(l:List α),v= .slice A n cap/\bg (J.of W) size A n (l.map cells)/\n<=cap/\∀a∈l,∃y,Ok a y/\∀k∈y.weights P e,k∈x.1.weights P t:=by
 rcases RE C h with⟨j,Q⟩|⟨a,len,cap,elems,T,n,rfl,p,rfl,R,al,hm,E,M,_⟩;injection j with j;exact⟨none,0,0,[],j,bg.nil _ _ _,dM _,nofun⟩;injection p with p;obtain⟨l,X,w⟩:=NU (λi(b:α)=>(∀o u,(cells b)[o]?=some u->W.cell? (a.add (i*size+o))=some u)/\∃y∈elems,Ok b y.1) len λi c=>by
  have hk:=M i c;rw[bK I,hC]at hk;obtain⟨U,av,D⟩:=anl.1 hk;obtain⟨b,rfl,m⟩:=K _ _ _ D;obtain⟨_,V,N⟩:=aoD av;refine⟨b,λo u hu=>?_,_,b3 I,m⟩;have B:=(List.getElem?_eq_some_iff.1 hu).1;rw[G]at B;have:=N o B;rw[wS]at this
  grind
 refine⟨some a,len,cap,l,p,⟨aL,λr f=>?_,λ_=>⟨a,rfl⟩,λg d i r f o u hu=>?_⟩,al,λb L=>?_⟩
 grind
 injection d with d;subst d;rw[de]at f;obtain⟨b,F,rfl⟩:=zc.1 f;exact Qg ((w i b F).1 o u hu);obtain⟨i,c,rfl⟩:=n4 L;obtain⟨_,y,O,m⟩:=w i _ (bK c);refine⟨y.1,m,λk hk=>?_⟩;simp only[AR,C];refine gd _ (wz _ ?_);have:∀(l:List (rr H)),y.1∈l->k∈alQ P e l:=by
  intro l;induction l with
  |nil=>simp
  |cons z l S=>
   intro q;rw[alQ]
   grind
 grind
end
section
variable {H:Type}{enc:gv×aA->H}
theorem Ql{W:bD}{p:Nat}{v:aA}{x:rr H×List wB}(h:y1 enc aD W 0 (λ_=>true) true p 27 [v]=some x):∃(A:Option aE)(n cap:Nat)(l:List Int),v= .slice A n cap/\bg (J.of W) 1 A n (l.map λz=>[R z])/\(∀z∈l,EP z)/\∀B,(∀k∈x.1.weights aD 27,k<=B)->n*8<=B:=by
 obtain⟨A,n,cap,l,rfl,ae,_,el,sp,aT⟩:=aCL NE wJ dW h;refine⟨A,n,cap,l,rfl,ae,λz d=>?_,λB j=>?_⟩;obtain⟨i,f,rfl⟩:=n4 d;have r:l.length=n:=by simpa using ae.len
 rcases RE NE h with⟨t,_⟩|⟨a,len,u,elems,w,m,_,b,_,_,_,_,al,o,_⟩
 grind
 injection b with b;injection b with aK e _;subst aK e;have hk:=o i I;rw[bK I]at hk;obtain⟨y,av,c⟩:=anl.1 hk;obtain⟨s,rfl,_,wf⟩:=Cx wJ c;obtain⟨_,C,q⟩:=aoD av;have am:=ae.cell a rfl i _ (by rw[de,bK f];rfl) 0 _ rfl;have h1:=Qg (q 0 Nat.one_pos);rw[wS,(by rfl:Tryz.prog.cellsOf 3=1),am]at h1;injection h1 with h1;injection h1 with _ h1;subst h1;simp only[Lit.wf,Bool.and_eq_true,decide_eq_true_eq]at wf;exact wf;rcases aT with⟨aT,g⟩|⟨aT,g⟩;have:=j ((el.length+sp.length)*8) (by simp[aT,AR,NE,apt]);omega;omega
theorem three{α:Type}:∀{l:List α},l.length=3->∃a b c,l=[a,b,c]
 |[a,b,c],_=>⟨a,b,c,rfl⟩
theorem Om{α:Type}:∀{l:List α},l.length=5->∃a b c d e,l=[a,b,c,d,e]
 |[a,b,c,d,e],_=>⟨a,b,c,d,e,rfl⟩
theorem part{P:fk}{a:Array Field}{W:bD}{n:Nat}{cs:List aA}{aV:List (rr H×List wB)}(c:∀(i:Nat)(f:Field),a[i]?=some f->y1 enc P W 0 (λ_=>true) true n f.type ((cs.drop f.offset).take (P.cellsOf f.type))=aV[i]?)(o t off:Nat)(b:∃f,a[o]?=some f/\f.type=t/\f.offset=off)(av:P.cellsOf t=1):y1 enc P W 0 (λ_=>true) true n t ((cs.drop off).take 1)=aV[o]? :=by
 grind
def my:Nat:=140737488355328
theorem aEx{W:bD}(w:Nat)(cs:List aA)(y:rr H×List wB)(h:y1 enc aD W 0 (λ_=>true) true w 96 cs=some y):∃a:hh,cs=a.cells/\((∀k∈y.1.weights aD 96,k<=my)->a.ok (J.of W))/\∀z∈a.a8,EP z:=by
 obtain⟨aV,F,_,m,C,B,e⟩:=M' aom h;obtain⟨r,c1,c2,rfl⟩:=three (C.trans (by rfl:Tryz.prog.cellsOf 96=3));obtain⟨i,f,g,rfl⟩:=three B;have q:_=some i:=part e 0 9 0 ⟨_,rfl,rfl,rfl⟩ dW;have o:_=some f:=part e 1 94 1 ⟨_,rfl,rfl,rfl⟩ dW;have j:_=some g:=part e 2 27 2 ⟨_,rfl,rfl,rfl⟩ dW;obtain⟨s,d,bh,D⟩:=YY CT q;obtain⟨z,b,_⟩:=Cx Tryz.underlying94 o;obtain⟨A,n,c,l,p,t,u,hw⟩:=Ql (v:=c2) j;injection d with d;injection b with b;have d:r= .string s:=d;have b:c1= .int .u8 z:=b;subst d b p;have x:y.1.weights aD 96=i.1.weights aD 9++(f.1.weights aD 94++(g.1.weights aD 27++[])):=by simp[m,AR,JC,aom]
 rw[x];refine⟨⟨s,z,A,n,c,l⟩,rfl,λhk=>⟨t,hw _ λk E=>hk k aL,?_⟩,u⟩;have:=hk s.size (by simp[bh,AR]);unfold my at this
 grind
theorem aEy{W:bD}(G:Nat)(cs:List aA)(y:rr H×List wB)(h:y1 enc aD W 0 (λ_=>true) true G 98 cs=some y):∃a:GE,cs=a.cells/\((∀k∈y.1.weights aD 98,k<=my)->a.ok (J.of W))/\∀z∈a.st,EP z:=by
 obtain⟨aV,O,_,s,L,K,e⟩:=M' aon h;obtain⟨C,c1,c2,E,M,rfl⟩:=Om (L.trans (by rfl:Tryz.prog.cellsOf 98=5));obtain⟨p,j,m,q,i,rfl⟩:=Om K;have x:_=some p:=part e 0 3 0 ⟨_,rfl,rfl,rfl⟩ dW;have u:_=some j:=part e 1 3 1 ⟨_,rfl,rfl,rfl⟩ dW;have r:_=some m:=part e 2 3 2 ⟨_,rfl,rfl,rfl⟩ dW;have w:_=some q:=part e 3 3 3 ⟨_,rfl,rfl,rfl⟩ dW;have B:_=some i:=part e 4 27 4 ⟨_,rfl,rfl,rfl⟩ dW;obtain⟨z0,f,_⟩:=Cx wJ x;obtain⟨o,b,_⟩:=Cx wJ u;obtain⟨z2,d,_⟩:=Cx wJ r;obtain⟨z3,g,_⟩:=Cx wJ w;obtain⟨A,n,c,l,D,t,F,hw⟩:=Ql (v:=M) B;injection f with f;injection b with b;injection d with d;injection g with g;have f:C=R z0:=f;have b:c1=R o:=b;have d:c2=R z2:=d;have g:E=R z3:=g;subst f b d g D;have I:y.1.weights aD 98=p.1.weights aD 3++(j.1.weights aD 3++(m.1.weights aD 3++(q.1.weights aD 3++(i.1.weights aD 27++[])))):=by simp[s,AR,JC,aon]
 rw[I];exact⟨⟨z0,o,z2,z3,A,n,c,l⟩,rfl,λhk=>⟨t,hw _ λk N=>hk k aL⟩,F⟩
theorem ajb{W:bD}(q:Nat)(cs:List aA)(y:rr H×List wB)(h:y1 enc aD W 0 (λ_=>true) true q 100 cs=some y):∃a:kO,cs=a.cells/\((∀k∈y.1.weights aD 100,k<=my)->a.ea.size<=my):=by
 obtain⟨aV,w,_,m,u,t,e⟩:=M' an8 h;obtain⟨p,c1,c2,rfl⟩:=three (u.trans (by rfl:Tryz.prog.cellsOf 100=3));obtain⟨j,f,g,rfl⟩:=three t;have o:_=some j:=part e 0 9 0 ⟨_,rfl,rfl,rfl⟩ dW;have n:_=some f:=part e 1 3 1 ⟨_,rfl,rfl,rfl⟩ dW;have l:_=some g:=part e 2 3 2 ⟨_,rfl,rfl,rfl⟩ dW;obtain⟨s,d,bh,v⟩:=YY CT o;obtain⟨i,b,_⟩:=Cx wJ n;obtain⟨z2,c,_⟩:=Cx wJ l;injection d with d;injection b with b;injection c with c;have d:p= .string s:=d;have b:c1=R i:=b;have c:c2=R z2:=c;subst d b c;have r:y.1.weights aD 100=j.1.weights aD 9++(f.1.weights aD 3++(g.1.weights aD 3++[])):=by simp[m,AR,JC,an8]
 rw[r];exact⟨⟨s,i,z2⟩,rfl,λhk=>hk s.size (by simp[bh,AR])⟩
theorem aCK{W:bD}{Q:Nat}{cs:List aA}{d:rr H×List wB}(x:y1 enc aD W 0 (λ_=>true) true Q 26 cs=some d)(hk:∀k∈d.1.weights aD 26,k<=my):∃g:dd,cs=g.cells/\g.ok (J.of W)/\Y8 g:=by
 obtain⟨aV,gO,_,B,T,S,c⟩:=M' aob x;obtain⟨M,c1,c2,O,U,rfl⟩:=Om (l:=cs) (T.trans (by rfl:Tryz.prog.cellsOf 26=5));obtain⟨q,o,p,r,f,rfl⟩:=Om S;have I:_=some q:=part c 0 9 0 ⟨_,rfl,rfl,rfl⟩ dW;have C:_=some o:=part c 1 22 1 ⟨_,rfl,rfl,rfl⟩ dW;have A:_=some p:=part c 2 23 2 ⟨_,rfl,rfl,rfl⟩ dW;have G:_=some r:=part c 3 24 3 ⟨_,rfl,rfl,rfl⟩ dW;have K:_=some f:=part c 4 24 4 ⟨_,rfl,rfl,rfl⟩ dW;obtain⟨s,e,bh,Y⟩:=YY CT I;obtain⟨h2,n,ac,t,D,t1,_,j8⟩:=Mf (v:=c1) (size:=3) (cells:=hh.cells) (λ(a:hh)(y:rr H)=>((∀k∈y.weights aD 96,k<=my)->a.ok (J.of W))/\∀z∈a.a8,EP z) (λ_=>rfl) Tryz.underlying22 dW aEx C;obtain⟨c8,P,b0,el,E,t2,_,Z⟩:=Mf (v:=c2) (size:=5) (cells:=GE.cells) (λ(a:GE)(y:rr H)=>((∀k∈y.weights aD 98,k<=my)->a.ok (J.of W))/\∀z∈a.st,EP z) (λ_=>rfl) Tryz.underlying23 dW aEy A;obtain⟨eg,V,cf,u,L,t3,_,lL⟩:=Mf (v:=O) (size:=3) (cells:=kO.cells) (λ(a:kO)(y:rr H)=>(∀k∈y.weights aD 100,k<=my)->a.ea.size<=my) (λ_=>rfl) an9 dW ajb G;obtain⟨cn,ok,bT,ol,N,t4,_,X⟩:=Mf (v:=U) (size:=3) (cells:=kO.cells) (λ(a:kO)(y:rr H)=>(∀k∈y.weights aD 100,k<=my)->a.ea.size<=my) (λ_=>rfl) an9 dW ajb K;injection e with e;have e:M= .string s:=e;subst e D E L N;have F:d.1= .agg ([q,o,p,r,f].map (·.1)):=by rw[B]
 have R:d.1.weights aD 26=q.1.weights aD 9++(o.1.weights aD 22++(p.1.weights aD 23++(r.1.weights aD 24++(f.1.weights aD 24++[])))):=by simp[F,AR,JC,aob]
 rw[R]at hk;have h:t.length=n:=by simpa using t1.len
 have i:el.length=P:=by simpa using t2.len
 have j:u.length=V:=by simpa using t3.len
 have m:ol.length=ok:=by simpa using t4.len
 subst h i j m;have w:my<=4611686018427387904:=aH;refine⟨⟨s,h2,ac,t,c8,b0,el,eg,cf,u,cn,bT,ol⟩,rfl,⟨?_,t1,λa b=>?_,t2,λa b=>?_,t3,λa b=>?_,t4,λa b=>?_⟩,λa b=>?_,λa b=>?_⟩;exact Nat.le_trans (hk s.size (by simp[bh,AR])) w
 grind
 grind
 grind
 grind
 grind
 grind
theorem aEz{W:bD}(f:Nat)(cs:List aA)(y:rr H×List wB)(h:y1 enc aD W 0 (λ_=>true) true f 27 cs=some y):∃a:bM,cs=[a.val]/\((∀k∈y.1.weights aD 27,k<=my)->a.ok (J.of W)/\a.l.length<=17592186044416/\a.l.length<=a.c):=by
 obtain⟨v,rfl⟩:∃v,cs=[v]:=by
  rcases RE NE h with⟨b,_⟩|⟨_,_,_,_,_,_,_,b,_⟩<;>exact⟨_,b⟩
 obtain⟨A,n,c,l,rfl,t,_,hw⟩:=Ql h;have d:l.length=n:=by simpa using t.len
 subst d;have av:l.length<=c:=by
  rcases RE NE h with⟨b,_⟩|⟨_,_,_,_,_,_,_,b,_,_,g,_⟩;injection b with b;injection b with _ e _;omega;injection b with b;injection b with _ e i;omega
 exact⟨⟨A,c,l⟩,rfl,λhk=>⟨t,by have:=hw _ hk;unfold my at this;show l.length<=_;omega,av⟩⟩
theorem eight{α:Type}:∀{l:List α},l.length=8->∃a b c d e f g h,l=[a,b,c,d,e,f,g,h]
 |[a,b,c,d,e,f,g,h],_=>⟨a,b,c,d,e,f,g,h,rfl⟩
theorem four{α:Type}:∀{l:List α},l.length=4->∃a b c d,l=[a,b,c,d]
 |[a,b,c,d],_=>⟨a,b,c,d,rfl⟩
theorem aCM{W:bD}{v:aA}{d:rr H}{p:List wB}{r:Reach}{X:Nat}(N:Value.okWide aD W r X 30 v)(h:DataW.Trod enc aD W 0 (λ_=>true) true 30 v d p)(hk:∀k∈d.weights aD 30,k<=my):∃(g:dd)(P:Option aE)(k c2:Nat)(az:List Int)(j:Option aE)(jE:Nat)(F:List bM)(eU:Int),v= .agg #[.string g.ea,.slice g.h2 g.aY.length g.ac,.slice g.c8 g.aP.length g.b0,.slice g.eg g.ins.length g.cf,.slice g.cn g.outs.length g.bT,.slice P k c2,.slice j F.length jE,R eU]/\g.ok (J.of W)/\Y8 g/\bg (J.of W) 1 P k (gi az)/\k<=70368744177664/\bg (J.of W) 1 j F.length (F.map λd=>[d.val])/\∀d∈F,d.ok (J.of W)/\d.l.length<=17592186044416/\d.l.length<=d.c:=by
 obtain⟨cs,rfl,iC⟩:=okWide_struct ZO N;obtain⟨lr,D⟩:=h;obtain⟨cs⟩:=cs;obtain⟨aV,Z,_,G,qi,nM,f⟩:=M' ZO D;obtain⟨a0,T,a2,a3,a4,c1,c2,B,rfl⟩:=eight (l:=cs) (qi.trans (by rfl:Tryz.prog.cellsOf 30=8));obtain⟨m,u,x,A,rfl⟩:=four nM;have i:_=some m:=f 0 _ rfl;have I:_=some u:=part f 1 27 5 ⟨_,rfl,rfl,rfl⟩ dW;have E:_=some x:=part f 2 28 6 ⟨_,rfl,rfl,rfl⟩ dW;have S:_=some A:=part f 3 3 7 ⟨_,rfl,rfl,rfl⟩ dW;have O:d= .agg ([m,u,x,A].map (·.1)):=(ry G).1;have mq:d.weights aD 30=m.1.weights aD 26++(u.1.weights aD 27++(x.1.weights aD 28++(A.1.weights aD 3++[]))):=by simp[O,AR,JC,ZO]
 rw[mq]at hk;have i:y1 enc aD W 0 (λ_=>true) true Z 26 ([a0,T,a2,a3,a4,c1,c2,B].take (Tryz.prog.cellsOf 26))=some m:=i;rw[(by rfl:Tryz.prog.cellsOf 26=5)]at i;obtain⟨g,b,ib,s⟩:=aCK i λk Q=>hk k aL;injection b with U b;injection b with K b;injection b with L b;injection b with V b;injection b with Y _;obtain⟨P,k,c7,az,kD,p2,_,t⟩:=Ql (v:=c1) I;obtain⟨j,fn,jE,F,um,C,_,o⟩:=Mf (v:=c2) (size:=1) (cells:=λa:bM=>[a.val]) (λ(a:bM)(y:rr H)=>(∀k∈y.weights aD 27,k<=my)->a.ok (J.of W)/\a.l.length<=17592186044416/\a.l.length<=a.c) (λ_=>rfl) Tryz.underlying28 dW aEz E;obtain⟨z,e,_⟩:=Cx wJ S;injection e with e;have e:B=R z:=e;have n:F.length=fn:=by simpa using C.len
 subst U K L V Y kD um e n;refine⟨g,P,k,c7,az,j,jE,F,z,rfl,ib,s,p2,?_,C,λa M=>?_⟩;have:=t my λk Q=>hk k aL;unfold my at this;omega;obtain⟨y,q,w⟩:=o a M;simp_all
theorem aqC{P:fk}{ep:List gv}{a:List (rr H)}{o:Nat}{t:gv}{d:rr H}(h:(JC P ep a).all (λk=>decide (k<=reachBytes))=true)(c:ep[o]?=some t)(b:a[o]?=some d):∀k∈d.weights P t,k<=140737488355328:=λk hk=>by
 have:=List.all_eq_true.1 h k (DataW.weights_mem_each c b k hk)
 grind [reachBytes]
end
end Go.Proofs.YtlbdbpaelcnfgaaGreatDoor
