/- A part of the proof that the statement holds. Conditions: none. -/
import Derived.Laws.CopyRow
import Derived.Test.YtlbdbpaelcnfgaaGreatDoorAR
import Derived.Test.YtlbdbpaelcnfgaaGreatDoorAT
import Derived.Test.YtlbdbpaelcnfgaaGreatDoorAU
import Derived.Test.YtlbdbpaelcnfgaaGreatDoorAV
import Derived.Test.YtlbdbpaelcnfgaaGreatDoorAW
open Classical renaming not_not->kc
open Go renaming Addr->aE,Operand->gu,Value->aA,execOp->dD,maxLen->eQ
open Go.Builtin renaming copy_->YR,lenOf->RC
open Go.Obj renaming cells->bb
open Go.Proofs.Tryz renaming prog->aD
open Go.Sem renaming run_bind->iT
open Go.Value renaming bool->dh,int->bC,pointer->gR,slice->ab,tuple->eA
open Int renaming emod_lt_of_pos->RO,emod_nonneg->RP,tmod_eq_emod_of_nonneg->aml,toNat_natCast->bn
open List renaming append_assoc->mg,append_nil->sf,drop_append_of_le_length->Zi,drop_eq_getElem_cons->l1,drop_eq_nil_of_le->py,drop_take->Zj,drop_zero->ams,eq_nil_of_length_eq_zero->y7,flatMap_cons->Nj,flatten_append->wy,flatten_nil->amv,getD_eq_getElem?_getD->cc,getElem?_drop->CE,getElem?_eq_getElem->bK,getElem?_map->de,getElem?_take->G7,getElem_append_left->amC,getElem_mem->b3,getElem_of_mem->n4,getElem_set_ne->Zk,getElem_set_self->JQ,length_append->fb,length_drop->mU,length_map->fj,length_set->fI,length_take->mV,map_append->fw,map_drop->Nk,map_map->ig,map_nil->y8,map_replicate->p7,map_set->kB,map_take->G8,mem_append->eI,mem_cons->ez,mem_cons_of_mem->gd,mem_cons_self->hq,mem_flatMap->sg,mem_map->cO,mem_map_of_mem->G9,mem_replicate->ud,mem_singleton->hZ,mem_singleton_self->G',nodup_append->qP,nodup_cons->jb,not_mem_nil->y9,range->fJ,range_succ->CG,replicate->bp,take_append_drop->Ha,take_left->A5
open Nat renaming add_sub_cancel_left->CJ,le_refl->dM,mul_one->e4,zero_add->dZ,zero_le->cU
open Ne renaming symm->eh
open Option renaming map_some->si
open Or renaming inl->bQ,inr->ba
open Prod renaming snd->dV
namespace Go.Sx
open Go.Proofs
set_option maxRecDepth 100000
set_option maxHeartbeats 0
set_option linter.all false
variable {be:Array aA}{base ds op:Int}{a':List (Nat×Nat)}{l:List Int}{xs:List aA}{O a b b7 bF bG bV c c6 dk ks n o size t:Nat}{A:Option aE}{w:aA}{g:aE}
section
variable {l:List Nat}{hj:Nat}{am h1:J}{p:jC}
end
theorem Wt{h h1 b aT:J}(le:h.le h1)(e:∀o U,o≠bG->b o=some U->aT o=some U):(nr h1 b bG).le (nr h aT bG):=λo U a=>by
 unfold nr at a⊢;have q:=J.vY (by rw[a];nofun);rw[J.mQ q]at a;rw[J.mQ (S:=λo=>h o=none/\o≠bG) ⟨J.none_le le q.1,q.2⟩];exact e o U q.2 a
def Km(r:Option (List (List Int)))(x:gK):gK:=match r with|some _=>{x with n:=x.n+1}|none=>x
def RJ(B h:J)(bV bG:Nat)(x:gK)(r:Option (List (List Int)))(v:aA)(aa:J):Prop:=J.h6 bG h aa/\iE (B.grow h aa) aa bV bG x/\match r with
 |some outs=>∃A c D,v=eA #[ab A D.length c,R 0]/\D.map bM.l=outs/\RowsIn (nr h aa bG) A D
 |none=>v=eA #[ab none 0 0,R 70]
theorem arK Q(e:cg) bV b7 a D m(hm:D.length=m)(m16:m<=16) h(p:RowsIn h b7 D) b rc ins(s:bg h 1 b m (gi ins))(al:D.map (λd=>(d.l.length:Int))=ins)(he:[0,1,6,27,28,29].map e=[.v (bY bV),.v (ab b7 m a),.v (ab b m rc),.v (ab b7 m a),.v (R m),.v (R (0:Nat))])(u:∀e,[0,1].map e=[.v (bY bV),.v (ab b7 m a)]->Q (.exit 0) e [] h):jk (λQ e L h=>dq aD 59 axQ Q e L h) Q e [] h:=by
 refine .mk Nat [0,1,6,27,28,29] (λk=>[.v (bY bV),.v (ab b7 m a),.v (ab b m rc),.v (ab b7 m a),.v (R m),.v (R k)]) (λ_=>[]) (λk aa=>aa=h/\k<=m) (λk=>m-k) 0 (λ_=>rfl) ⟨rfl,cU _⟩ he rfl (λo e _⟨rfl,hk⟩=>ay λJ y G=>y _ _ _ (ay λM x z=>aW (λq=>?_) (λq=>?_)));have j:o<D.length:=I;obtain⟨g,n⟩:=p.dK.b4 I;obtain⟨g2,t⟩:=s.b4 I;have c1:=p.dK.one n (i:=o) (r:=[D[o].val]) (by unfold D4;rw[de,bK j];rfl) rfl;have f:ins[o]?=some (D[o].l.length:Int):=by rw[<-al,de,bK j];rfl
 have c2:=s.one t (i:=o) (r:=[R D[o].l.length]) (by unfold gi;rw[de,f];rfl) rfl;generalize D[o]=d at c1 c2;obtain⟨A,c,l⟩:=d;exact x _ _ _ (ay λN w H=>ew λK F B=>ay λO C T=>.m g n (.hp (ab A l.length c) (by rw[bn];exact c1) (C _ _ _ (ay λS E P=>.m g2 t (.hp (R l.length) (by rw[bn];exact c2) (E _ _ _ (aW (λq=>absurd rfl q) (λ_=>B _ _ _ _ nofun (w _ _ _ (.bl (⟨o+1,rfl,rfl,⟨rfl,I⟩,by show m- (o+1)<m-o;omega⟩)))))))))));exact z _ _ _ _ nofun (u _ rfl)
theorem arJ{B h:J}{x:gK}(a':iE B h bV bG x)(le:B.le h)(t1:1<=x.tag)(t2:x.tag<=11)(i16:x.ins.length<=16)(r2:x.outs.length<=16) b7 A D m(hm:D.length=m)(V:RowsIn h b7 D)(al:D.map (λd=>(d.l.length:Int))=x.ins) s(tD:0<=s.n/\s.n<=1000000000000)(Ls:s.tag=x.tag) r(M:∀h1,h.le h1->iE B h1 bV bG x->Fn aD (QA x.tag) #[bY bG,ab b7 m A] h1 (uf B h1 bV bG s r)):Fn aD 89 #[bY bV,ab b7 m A] h (RJ B h bV bG (Km r s) r):=by
 have sE:x.ins.length=m:=by rw[<-al,fj,hm]
 refine bU afU rfl (ay λfD Q eT=>Q _ _ _ (ay λfy P d9=>P _ _ _ (ay λfz O eZ=>.hp _ (b1 (le _ _ a'.box) rfl) (.mk 244 (bY bG) (λw=>ae8 t1 t2) (.ag (.mk _ (aiS a' le I I) ?_))))));rintro _ ae ⟨g,eg,y,cn,bT,rfl,a,b⟩;refine O _ _ _ (ay λfE R dH=>aW (λq=>absurd I q) (λ_=>R _ _ _ (ay λgF W gN=>ay λgL Z gG=>Z _ _ _ (ew λjl X hU=>?_))));rw[sE]at a⊢;refine .jG (.ag (arK jl _ bV b7 A D m hm I ae (V.mono g) eg y x.ins a al rfl λe he=>X _ _ _ (W _ _ _ ?_)));rw[<-fi [0,1] e,he];refine ay λkd H j3=>?_;have j:=a'.up g;refine .hp _ (b1 (g _ _ (le _ _ a'.box)) rfl) (.mk (QA x.tag) (bY bG) (λw=>avZ t1 t2) (.ag (.mk _ (M ae g j) (λ_ z⟨C,E,G⟩=>?_))));have i:=a'.nN;have p:=a'.some_;have k:∀aT,(∀o U,o≠bG->z o=some U->aT o=some U)->(B.grow ae z).le (B.grow h aT):=λaT e o U c=>by
  unfold J.grow at c⊢;have q:=J.vY (by rw[c];nofun);rw[J.mQ q]at c;have t:o≠bG:=λF=>by
   rcases q with q|q;exact q (by rw[F];exact i);exact j.some_ (by rw[<-F];exact q)
  rw[J.mQ (S:=λo=>B o≠none\/h o=none) (q.imp id λq=>J.none_le g q)];exact e o U t c
 have N:=C _ _ (λe=>by rw[<-e]at i;rw[a'.box]at i;cases i) (g _ _ (le _ _ a'.box));cases r with
 |none=>
  obtain⟨u,rfl⟩:=G;refine H _ _ _ (ay λjU K L=>L _ _ _ _ nofun (.ag ⟨λo U c f=>C _ _ c (g _ _ f),?_,rfl⟩));exact E.to (k z λo U _ f=>f) rfl (rK i p)
 |some outs=>
  obtain⟨mG,fc,vg,rfl,T,Y⟩:=G;refine H _ _ _ (ay λjU K L=>K _ _ _ (ay λkQ gM kH=>.hp _ (b1 N rfl) (.mk 242 (bY bG) (λw=>avY t1 t2) (.ag (.mk _ (arO E tD) ?_)))));rintro _ aT ⟨⟨B7,rfl⟩,v⟩;refine gM _ _ _ (.ag ⟨λo hI c f=>?_,?_,mG,fc,vg,rfl,T,Y.mono (Wt g λo hI c f=>?_)⟩);rw[J.cD _ _ c];exact C _ _ c (g _ _ f);exact v.to (k _ λo U c f=>by rw[J.cD _ _ c];exact f) rfl (rK i p);rw[J.cD _ _ c];exact f
theorem akY:Tryz.prog.underlying 27=some (.slice 3):=fl
theorem ajQ:(Tryz.prog.info? 3).map (·.size)=some 1:=fl
theorem aar(a:Array TypeId)(ty:TypeId)(cs:Array Bool)(args:Array aA):builtin .copy a ty cs args=(do pure (.value (<-YR a ty args))):=rfl
theorem aqb{a b:gu}{w:World}{g U c f:Nat}{A:aE}{d h:Nat}{be:List aA}{cs:List aA}(k:w.heap[g]?=some (bb be.toArray 3 (0,0)))(s:cs.length=min d c)(m:∀o v,cs[o]?=some v->w.cell? (A.add o)=some v)(p:U+cs.length<=be.length)(h1:∀v∈cs,v.oneCell'=true):wu aD (.call {callee:=.builtin .copy,args:=#[a,b],argTypes:=#[27,27]}) [ab (some ⟨g,U,none⟩) c f,ab (some A) d h] w (R cs.length) {w with heap:=w.heap.setIfInBounds g (bb (be.take U++cs++be.drop (U+cs.length)).toArray 3 (0,0))}:=by
 intro l q r t;have e:=run_copy_row (P:=aD) w 27 27 q.type 3 g U c f A d h be.toArray 3 cs akY ajQ k s m (by simpa using p) h1;have n:[l a,l b]=[ab (some ⟨g,U,none⟩) c f,ab (some A) d h]:=t;injection n with v1 v2;injection v2 with v2 _;simp[dD,r,resolve,invoke,v1,v2];rw[aar,iT,e];simp[World.setRow,goInt];refine⟨rfl,Array.ext_getElem? λi=>?_⟩;rw[Array.getElem?_modify,Array.getElem?_setIfInBounds];by_cases j:g=i;subst j;have al:g<w.heap.size:=(Array.getElem?_eq_some_iff.1 k).1;rw[aS rfl,aS rfl,aS al,k];rfl;rw[aC j,aC j]
theorem aqa{a b:gu}{w:World}{A:aE}{d f:Nat}:wu aD (.call {callee:=.builtin .copy,args:=#[a,b],argTypes:=#[27,27]}) [ab (some A) d f,ab none 0 c] w (R 0) w:=by
 intro j q l m;have e:(YR #[27,27] q.type #[ab (some A) d f,ab none 0 c]).run aD w= .ok (goInt 0) w:=by
  have h:=ajQ;cases g:Tryz.prog.info? 3 with
  |none=>rw[g]at h;cases h
  |some i=>simp[YR,run_underlying akY,RC,Builtin.firstCells,sizeOf,typeInfo,g,storeCells]
 have k:[j a,j b]=[ab (some A) d f,ab none 0 c]:=m;injection k with v1 v2;injection v2 with v2 _;simp[dD,l,resolve,invoke,v1,v2];rw[aar,iT,e];rfl
abbrev oz(z:Int):Int:=IntKind.i64.wrap z
structure lb where
 base:Int
 size:Int
 at_:Int
 br:Int
def lb.cells(x:lb):List aA:=[R x.base,R x.size,R x.at_,R x.br]
def uP(l:List lb):List aA:=(l.map lb.cells).flatten
structure fK where
 mem:List Int
 lines:List lb
 cZ:List (List Int)
 wr:List (List Int)
 ops:List cm
 ir:List Int
 f':List gK
 dg:List Int
 hand:List Int
 next:Int
 eU:Int
 ox:Bool
 pk:Int
 uQ:Nat
 uR:Int
 uN:Nat
structure fx where
 x:fK
 eE:Nat
 fg:Option aE
 lc:Nat
 fA:Nat
 cZ:List bM
 g6:Nat
 wr:List bM
 cn:Option aE
 bT:Nat
 hB:Option aE
 g5:Nat
 h3:Option aE
 iK:Nat
 a':List (Nat×Nat)
 ec:Nat
 aK:Option aE
 av:Nat
def hM(b n:Nat):aA:=ab (some ⟨b,0,none⟩) n n
def fx.cells(m:fx):List aA:=[hM m.eE m.x.mem.length,ab m.fg m.x.lines.length m.lc,hM m.fA m.cZ.length,hM m.g6 m.wr.length,ab m.cn m.x.ops.length m.bT,ab m.hB m.x.ir.length m.g5,ab m.h3 m.x.f'.length m.iK,hM m.ec m.x.dg.length,ab m.aK m.x.hand.length m.av,R m.x.next,R m.x.eU,dh m.x.ox,R m.x.pk,bC .u8 m.x.uQ,R m.x.uR,ab none 0 0,bC .u8 m.x.uN]
def jm(A:Option aE):List Nat:=match A with|some g=>[g.block]|none=>[]
def kn(h:J)(A:Option aE)(l:List Int)(c:Nat):Prop:=(A=none/\l=[]/\c=0)\/∃(b off:Nat)(be:List aA),A=some ⟨b,off,none⟩/\h b=some (bb be.toArray 3 (0,0))/\(be.drop off).take l.length=l.map R/\(0<c->off+c=be.length)/\off<=be.length/\l.length<=c/\be.length<=eQ
structure dr(B h:J)(a1:Nat)(m:fx):Prop where
 le:B.le h
 so:B a1=none
 box:h a1=some (bb m.cells.toArray 115 (0,0))
 mem:h m.eE=some (hP m.x.mem)
 pR:B m.eE=none
 nP:bw h 152 4 m.fg m.x.lines.length m.lc (uP m.x.lines)
 uO:∀g,m.fg=some g->B g.block=none
 cZ:h m.fA=some (bb (m.cZ.map bM.val).toArray 27 (0,0))
 ut:B m.fA=none
 sr:m.cZ.map bM.l=m.x.cZ
 rH:∀d∈m.cZ,d.ok B/\d.l.length<=d.c
 wr:h m.g6=some (bb (m.wr.map bM.val).toArray 27 (0,0))
 vb:B m.g6=none
 n0:m.wr.map bM.l=m.x.wr
 ky:∀d∈m.wr,bw h 3 1 d.A d.l.length d.c (d.l.map R)
 r9:∀d∈m.wr,∀g,d.A=some g->B g.block=none
 qZ:m.fA≠m.g6
 ops:bg B 3 m.cn m.x.ops.length (m.x.ops.map cm.cells)
 nv:bg B 1 m.hB m.x.ir.length (gi m.x.ir)
 k3:bg B 1 m.h3 m.x.f'.length (m.a'.map λp=>[bY p.1])
 uh:m.a'.length=m.x.f'.length
 cV:∀i(h1:i<m.a'.length)(ae:i<m.x.f'.length),iE B h m.a'[i].1 m.a'[i].2 m.x.f'[i]
 uJ:(m.a'.map dV).Nodup
 dg:h m.ec=some (hP m.x.dg)
 uk:B m.ec=none
 hand:kn h m.aK m.x.hand m.av
 qg:∀g,m.aK=some g->B g.block=none
 sep:(m.eE::m.ec::(jm m.aK++m.wr.flatMap λd=>jm d.A)).Nodup
def sP(mem:List Int)(b:Nat)(l:List Int):List Int:=mem.take b++l++mem.drop (b+l.length)
def r1:List ho->List Int->List Int
 |[],m=>m
 |x::l,m=>r1 l (sP m x.base.toNat x.st)
def hz(l:List Int):Int:=l.foldl (·+·) 0
def Bi(x:n7):gK:=⟨x.tag.toNat,x.a8,yQ x.tag.toNat x.a8,0,(b6 x.tag x.a8).2.1,(b6 x.tag x.a8).2.2⟩
def iP(p:jC):fK:=⟨r1 p.lines (bp p.mem.toNat 0),p.lines.map λx=>⟨x.base,x.size,0,x.st.length⟩,bp p.ins.toNat [],bp p.outs.toNat [],p.ops,p.parts.map λx=>hz (b6 x.tag x.a8).2.1,p.parts.map Bi,bp p.br.toNat 0,[],0,0,false,0,0,0,0⟩
theorem PA{mem:List Int}(h:b+l.length<=mem.length):(sP mem b l).length=mem.length:=by
 simp[sP];omega
def Wc(eE T:Nat)(fg:Option aE)(ds lc fA fn g6 wn:Nat)(cn:Option aE)(on bT:Nat)(d:Option aE)(a b:Nat)(c:Option aE)(f e ec k4:Nat):List aN:=[.v (hM eE T),.v (ab fg ds lc),.v (hM fA fn),.v (hM g6 wn),.v (ab cn on bT),.v (ab d a b),.v (ab c f e),.v (hM ec k4),.v (ab none 0 0),.v (R 0),.v (R 0),.v (dh false),.v (R 0),.v (bC .u8 0),.v (R 0),.v (ab none 0 0),.v (bC .u8 0)]
theorem apK a b c d:∀u∈[R a,R b,R c,R d],u.oneCell'=true:=by
 intro u hu;simp only[ez,y9,or_false]at hu;rcases hu with rfl|rfl|rfl|rfl<;>rfl
theorem tS(h:J) b U a:(h.put b U).put b a=h.put b a:=by
 funext o;simp only[J.put];split<;>rfl
theorem aB1 Q(e:cg)(p:jC) hp h1(ok:p.ok hp)(eE T fA fn g6 wn:Nat) cn on bT ec k4(le:hp.le h1)(m0:hp eE=none)(aF:p.lines.length<=96)(hs:T<=1024) l(u:l.length=T)(X:∀x∈p.lines,0<=x.base/\0<=x.size/\x.base+x.size<=T/\(x.st.length:Int)<=x.size) perm L(K:vy perm=true)(he:[1,5,52,53,54].map e=([.p 0 0,.p 1 0,.v (ab p.fg p.lines.length p.lc),.v (R p.lines.length),.v (R (0:Nat))]:List aN).map (sW perm))(s:rf L perm=some (([.own (tR p) 42,.own (Wc eE T none 0 0 fA fn g6 wn cn on bT none 0 0 none 0 0 ec k4) 115,.row 152 4 none 0 0 []]:List LE).map (oS perm)))(G:∀e A c rows,[1,5].map e=[.p 0 0,.p 1 0]->rows=uP (p.lines.map λx=>⟨x.base,x.size,0,x.st.length⟩)->Q (.exit 0) e [.own (tR p) 42,.own (Wc eE T A p.lines.length c fA fn g6 wn cn on bT none 0 0 none 0 0 ec k4) 115,.row 152 4 A p.lines.length c rows] (h1.put eE (hP (r1 p.lines l)))):jk (λQ e L h=>dq aD 143 axk Q e L h) Q e L (h1.put eE (hP l)):=by
 unfold tR Wc at G s;unfold hM at G s;refine .yG perm (Nat×Option aE×Nat×List Int) [1,5,52,53,54] (λ(k,_,_,_)=>[.p 0 0,.p 1 0,.v (ab p.fg p.lines.length p.lc),.v (R p.lines.length),.v (R k)])
  (λ(k,A,c,_)=>[.own [.v (R p.mem),.v (R p.br),.v (R p.ins),.v (R p.outs),.v (ab p.j' p.parts.length p.c7),.v (ab p.fg p.lines.length p.lc),.v (ab p.cn p.ops.length p.bT)] 42,
   .own [.v (ab (some ⟨eE,0,none⟩) T T),.v (ab A k c),.v (ab (some ⟨fA,0,none⟩) fn fn),.v (ab (some ⟨g6,0,none⟩) wn wn),.v (ab cn on bT),.v (ab none 0 0),.v (ab none 0 0),.v (ab (some ⟨ec,0,none⟩) k4 k4),.v (ab none 0 0),.v (R 0),.v (R 0),.v (dh false),.v (R 0),.v (bC .u8 0),.v (R 0),.v (ab none 0 0),.v (bC .u8 0)] 115,
   .row 152 4 A k c (uP ((p.lines.take k).map λx=>⟨x.base,x.size,0,x.st.length⟩))])
  (λ(k,_,_,mem) aa=>aa=h1.put eE (hP mem)/\k<=p.lines.length/\mem.length=T/\r1 (p.lines.drop k) mem=r1 p.lines l) (λ(k,_)=>p.lines.length-k) (0,none,0,l) (λ_=>rfl) ⟨rfl,cU _,u,rfl⟩ he K s ?_
 clear he u s K;rintro⟨k,A,c,mem⟩ e aa ⟨rfl,hk,u,hm⟩;have j:hp.le (h1.put eE (hP mem)):=lK m0 le;refine ay λfD cQ eT=>cQ _ _ _ (ay λfy Z d9=>aW (λq=>?_) (λq=>?_));have f:k<p.lines.length:=I;obtain⟨g,t⟩:=ok.lines.b4 I;have P:=(ok.lines.mono j).row t (i:=k) (r:=ho.cells p.lines[k]) (by rw[de,bK f];rfl);obtain⟨s1,s2,O,S⟩:=X _ (b3 f);have y:=(ok.line _ (b3 f)).mono j;have M:p.lines.take (k+1)=p.lines.take k++[p.lines[k]]:=lz f;rw[l1 f,r1]at hm;generalize p.lines[k]=x at P s1 s2 O S y M hm;obtain⟨base,size,xx,n,jW,st⟩:=x;have U:st.length=n:=by simpa using y.len
 simp only at s1 s2 O S hm;refine Z _ _ _ (ay λfz Y eZ=>ew λfE dR dH=>ay λgF du gN=>.m g t (.hp [R base,R size,ab xx n jW] rfl (by rw[bn];exact P) (du _ _ _ (ay λgL ed gG=>.mk base.toNat T I rfl I I λB mo pa=>?_))));obtain⟨d,E,F⟩:∃d:Nat,B=some ⟨eE,d,none⟩/\(d=base.toNat\/n=0/\d=0):=by
  by_cases W:base.toNat<T;exact⟨base.toNat,by rw[mo W,si,add_lit,dZ,e4],bQ rfl⟩;exact⟨0,pa I,ba ⟨I,rfl⟩⟩
 subst E;have go:∀(C:aA->J->Prop),(∀v,C v (h1.put eE (hP (sP mem base.toNat st))))->Y3 aD (.call {callee:=.builtin .copy,args:=#[.tmp 66,.tmp 68],argTypes:=#[27,27]}) [ab (some ⟨eE,d,none⟩) (T-base.toNat) (T-base.toNat),ab xx n jW] (h1.put eE (hP mem)) C:=by
  intro C N;cases xx with
  |none=>
   have hi:n=0:=by
    by_cases q:n=0;exact q;obtain⟨g,t⟩:=y.b4 q;cases t
   subst hi;have H:st=[]:=y7 U;subst H;refine .mk (R 0) (λw _=>aqa) ?_;have:sP mem base.toNat []=mem:=by simp[sP]
   have q:=N (R 0);rwa[this]at q
  |some a=>
   have V:(mem.map R).take d++st.map R++(mem.map R).drop (d+(st.map R).length)=(sP mem base.toNat st).map R:=by
    rcases F with rfl|⟨hi,rfl⟩;simp[sP,G8,Nk];have H:st=[]:=y7 I;subst H;simp[sP]
   refine .put (R (st.map R).length) eE _ (hP (sP mem base.toNat st)) (J.b8 _ _ _) (λw hw=>?_) ?_;unfold hP;rw[<-V];refine aqb (hw _ _ (J.b8 _ _ _)) (by rw[fj];omega) (λo v b=>?_) (by simp only[fj];omega) (λv b=>by obtain⟨z,_,rfl⟩:=cO.1 b;rfl);rw[de]at b;cases D:st[o]?with
   |none=>rw[D]at b;cases b
   |some z=>
    rw[D]at b;injection b with b;have:=y.cell a rfl o [R z] (by rw[de];show(st[o]?).map _=_;rw[D];rfl) 0 (R z) rfl;rw[<-b];exact hw.cell (by simpa using this)
   rw[tS];exact N _
 refine .ag (go _ λv=>ed _ _ _ (.c0 2 _ [R base,R size,R 0,R n] rfl rfl (apK _ _ _ _) (by unfold eQ;omega) I λbo bj aK=>dH _ _ _ _ nofun (Y _ _ _ (.bl (⟨(k+1,bo,bj,sP mem base.toNat st),rfl,?_,⟨rfl,f,by rw[PA I];exact u,hm⟩,by show p.lines.length- (k+1)<p.lines.length-k;omega⟩)))));have pI:uP ((p.lines.take (k+1)).map λx=>(⟨x.base,x.size,0,x.st.length⟩:lb))=uP ((p.lines.take k).map λx=>(⟨x.base,x.size,0,x.st.length⟩:lb))++[R base,R size,R 0,R n]:=by
  rw[M,fw,uP,fw,wy,<-U];rfl
 show _=[_,_,LE.row 152 4 bo (k+1) bj (uP ((p.lines.take (k+1)).map λx=>(⟨x.base,x.size,0,x.st.length⟩:lb)))];rw[pI];rfl;refine d9 _ _ _ _ nofun ?_;obtain rfl:k=p.lines.length:=by omega
 rw[List.drop_length,r1]at hm;subst hm;exact G _ A c _ rfl (by rw[List.take_length])
theorem aF1 l x:hz (l++[x])=hz l+x:=by simp[hz]
theorem akd:∀l,vo l->0<=hz l/\hz l<=64*l.length:=by
 intro l;have key:∀(l:List Int)(a:Int),vo l->a<=l.foldl (·+·) a/\l.foldl (·+·) a<=a+64*l.length:=by
  intro l;induction l with
  |nil=>simp
  |cons x l c=>
   intro a h;have d:=h x (hq ..);have:=c (a+x) λr b=>h r (gd _ b)
   grind
 intro h;have:=key l 0 h;unfold hz;omega
structure wo(am h:J)(lN:List Nat)(a':List (Nat×Nat))(jJ:List gK):Prop where
 len:a'.length=jJ.length
 cV:∀i(h1:i<a'.length)(ae:i<jJ.length),iE (h.on λo=>o∉lN/\o∉a'.map dV) h a'[i].1 a'[i].2 jJ[i]
 dE:(a'.map dV).Nodup
 new:∀q∈a',am q.2=none
theorem wo.up{am h aa:J}{c:List Nat}{d:List gK}(x:wo am h c a' d)(le:h.le aa):wo am aa c a' d:=by
 refine⟨x.len,λi h1 ae=>?_,x.dE,x.new⟩;have b:=x.cV i h1 ae;have e:=b.some_;refine b.to (λo U a=>?_) ?_ ?_;have q:=J.vY (by rw[a];nofun);rw[J.mQ q]at a;rw[J.mQ (S:=λo=>o∉c/\o∉a'.map dV) q];exact le _ _ a;cases hk:h a'[i].2 with
 |none=>grind
 |some U=>exact(le _ _ hk).symm
 unfold J.on
 grind
theorem wo.add{am h aa:J}{f:List Nat}{j:List gK}(x:wo am h f a' j)(g:am.le h)(le:h.le aa)(p:∀b∈f,am b≠none){y:gK}(hk:h bG=none)(b:iE (nr h aa bG) aa bV bG y):wo am aa f (a'++[(bV,bG)]) (j++[y]):=by
 have al:=x.len;have c0:∀q∈a'.map dV,h q≠none:=λq c=>by
  obtain⟨r,s,rfl⟩:=cO.1 c;obtain⟨i,k,rfl⟩:=n4 s;exact(x.cV i k I).some_
 have own:∀q∈f,h q≠none:=λq c e=>p q c (J.none_le g e);have em:(a'++[(bV,bG)]).map dV=a'.map dV++[bG]:=bc;refine⟨by simp[al],λi h1 ae=>?_,?_,?_⟩;by_cases k:i<a'.length;have bi:=x.cV i k I;have w:=bi.some_;have l:(a'++[(bV,bG)])[i]=a'[i]:=amC k;have n:(j++[y])[i]=j[i]'I:=amC I;rw[l,n];refine bi.to (λo U d=>?_) ?_ ?_;have q:=J.vY (by rw[d];nofun);rw[J.mQ q]at d;rw[J.mQ (S:=λo=>o∉f/\o∉(a'++[(bV,bG)]).map dV) ⟨q.1,aL⟩];exact le _ _ d;cases hk:h a'[i].2 with
 |none=>grind
 |some U=>exact(le _ _ hk).symm
 unfold J.on
 grind
 have t:i=a'.length:=aL;have l:(a'++[(bV,bG)])[i]=(bV,bG):=aL;have n:(j++[y])[i]=y:=aL;rw[l,n];refine b.to (λo U d=>?_) rfl ?_;unfold nr at d;have q:=J.vY (by rw[d];nofun);rw[J.mQ q]at d;rw[J.mQ (S:=λo=>o∉f/\o∉(a'++[(bV,bG)]).map dV) ⟨λm=>own o m q.1,aL⟩];exact d;unfold J.on;simp;rw[em,qP];exact⟨x.dE,bc,λa u b v=>aL⟩;intro q c;rcases eI.1 c with c|c;exact x.new q c;rw[hZ]at c;subst c;exact J.none_le g hk
section
variable (p:jC)(eE T fA fn g6 wn:Nat)(fg:Option aE)(ds lc:Nat)(cn:Option aE)(on bT ec k4:Nat)
theorem aF2 Q(e:cg) h(k:Nat) b d f a l j bV t0 t1 s z m ins(n:bg h 1 s m (gi ins))(y:vo ins)(hm:m<=16)(he:[5,10,12,89,90,91,111,112,113].map e=[.p 1 0,.v (bY bV),.v (R 0),.v (ab p.j' p.parts.length p.c7),.v (R p.parts.length),.v (R k),.v (ab s m z),.v (R m),.v (R (0:Nat))])(A:∀e,[5,10,12,89,90,91].map e=[.p 1 0,.v (bY bV),.v (R (hz ins)),.v (ab p.j' p.parts.length p.c7),.v (R p.parts.length),.v (R k)]->Q (.exit 4) e [.own [.v (R p.mem),.v (R p.br),.v (R p.ins),.v (R p.outs),.v (ab p.j' p.parts.length p.c7),.v (ab p.fg p.lines.length p.lc),.v (ab p.cn p.ops.length p.bT)] 42,.own [.v (ab (some ⟨eE,0,none⟩) T T),.v (ab fg ds lc),.v (ab (some ⟨fA,0,none⟩) fn fn),.v (ab (some ⟨g6,0,none⟩) wn wn),.v (ab cn on bT),.v (ab d k a),.v (ab b k f),.v (ab (some ⟨ec,0,none⟩) k4 k4),.v (ab none 0 0),.v (R 0),.v (R 0),.v (dh false),.v (R 0),.v (bC .u8 0),.v (R 0),.v (ab none 0 0),.v (bC .u8 0)] 115,.gone,.row 121 1 b k f l,.row 3 1 d k a j,.own [.v t0,.v t1] 138] h):jk (λQ e L h=>dq aD 143 axm Q e L h) Q e [.own [.v (R p.mem),.v (R p.br),.v (R p.ins),.v (R p.outs),.v (ab p.j' p.parts.length p.c7),.v (ab p.fg p.lines.length p.lc),.v (ab p.cn p.ops.length p.bT)] 42,.own [.v (ab (some ⟨eE,0,none⟩) T T),.v (ab fg ds lc),.v (ab (some ⟨fA,0,none⟩) fn fn),.v (ab (some ⟨g6,0,none⟩) wn wn),.v (ab cn on bT),.v (ab d k a),.v (ab b k f),.v (ab (some ⟨ec,0,none⟩) k4 k4),.v (ab none 0 0),.v (R 0),.v (R 0),.v (dh false),.v (R 0),.v (bC .u8 0),.v (R 0),.v (ab none 0 0),.v (bC .u8 0)] 115,.gone,.row 121 1 b k f l,.row 3 1 d k a j,.own [.v t0,.v t1] 138] h:=by
 refine .mk Nat [5,10,12,89,90,91,111,112,113] (λo=>[.p 1 0,.v (bY bV),.v (R (hz (ins.take o))),.v (ab p.j' p.parts.length p.c7),.v (R p.parts.length),.v (R k),.v (ab s m z),.v (R m),.v (R o)]) (λ_=>[.own [.v (R p.mem),.v (R p.br),.v (R p.ins),.v (R p.outs),.v (ab p.j' p.parts.length p.c7),.v (ab p.fg p.lines.length p.lc),.v (ab p.cn p.ops.length p.bT)] 42,.own [.v (ab (some ⟨eE,0,none⟩) T T),.v (ab fg ds lc),.v (ab (some ⟨fA,0,none⟩) fn fn),.v (ab (some ⟨g6,0,none⟩) wn wn),.v (ab cn on bT),.v (ab d k a),.v (ab b k f),.v (ab (some ⟨ec,0,none⟩) k4 k4),.v (ab none 0 0),.v (R 0),.v (R 0),.v (dh false),.v (R 0),.v (bC .u8 0),.v (R 0),.v (ab none 0 0),.v (bC .u8 0)] 115,.gone,.row 121 1 b k f l,.row 3 1 d k a j,.own [.v t0,.v t1] 138]) (λo aa=>aa=h/\o<=m) (λo=>m-o) 0 (λ_=>rfl) ⟨rfl,cU _⟩ he rfl ?_;rintro o e _ ⟨rfl,hk⟩;have al:ins.length=m:=by simpa using n.len
 refine ay λO D M=>D _ _ _ (ay λS C E=>aW (λq=>?_) (λq=>?_));have u:o<ins.length:=I;obtain⟨g,w⟩:=n.b4 I;have c:=n.one w (i:=o) (r:=[R ins[o]]) aL rfl;have H:ins.take (o+1)=ins.take o++[ins[o]]:=lz u;have s1:=akd (ins.take o) λr J=>y r (List.mem_of_mem_take J);have s2:=y _ (b3 u);have X:(ins.take o).length<=16:=aL;have t:=aF1 (ins.take o) ins[o];rw[<-H]at t;generalize ins[o]=x at c s2 t;refine C _ _ _ (ay λU B N=>ew λP K F=>ay λV G W=>.m g w (.hp (R x) aL (G _ _ _ (.bl (F _ _ _ _ nofun (B _ _ _ (.bl (⟨o+1,?_,rfl,⟨rfl,I⟩,I⟩))))))));show _=[_,_,aN.v (R (hz (ins.take (o+1)))),_,_,_,_,_,_];rw[t];rfl;refine E _ _ _ _ nofun (A _ ?_);show _=[_,_,aN.v (R (hz ins)),_,_,_];rw[show hz ins=hz (ins.take o) by grind];rfl
theorem aB2 Q(e:cg) am B(ok:p.ok am)(U:∀b∈B,am b≠none)(aF:p.parts.length<=32)(V:∀x∈p.parts,(b6 x.tag x.a8).1=0)(he:[5,89,90,91].map e=[.p 1 0,.v (ab p.j' p.parts.length p.c7),.v (R p.parts.length),.v (R (0:Nat))])(W:∀e aa s y w o a' G F,[5].map e=[.p 1 0]->am.le aa->wo am aa B a' (p.parts.map Bi)->G=a'.map (λq=>bY q.1)->F=(p.parts.map λx=>R (hz (b6 x.tag x.a8).2.1))->Q (.exit 2) e [.own [.v (R p.mem),.v (R p.br),.v (R p.ins),.v (R p.outs),.v (ab p.j' p.parts.length p.c7),.v (ab p.fg p.lines.length p.lc),.v (ab p.cn p.ops.length p.bT)] 42,.own [.v (ab (some ⟨eE,0,none⟩) T T),.v (ab fg ds lc),.v (ab (some ⟨fA,0,none⟩) fn fn),.v (ab (some ⟨g6,0,none⟩) wn wn),.v (ab cn on bT),.v (ab w p.parts.length o),.v (ab s p.parts.length y),.v (ab (some ⟨ec,0,none⟩) k4 k4),.v (ab none 0 0),.v (R 0),.v (R 0),.v (dh false),.v (R 0),.v (bC .u8 0),.v (R 0),.v (ab none 0 0),.v (bC .u8 0)] 115,.gone,.row 121 1 s p.parts.length y G,.row 3 1 w p.parts.length o F] aa):jk (λQ e L h=>dq aD 143 axl Q e L h) Q e [.own [.v (R p.mem),.v (R p.br),.v (R p.ins),.v (R p.outs),.v (ab p.j' p.parts.length p.c7),.v (ab p.fg p.lines.length p.lc),.v (ab p.cn p.ops.length p.bT)] 42,.own [.v (ab (some ⟨eE,0,none⟩) T T),.v (ab fg ds lc),.v (ab (some ⟨fA,0,none⟩) fn fn),.v (ab (some ⟨g6,0,none⟩) wn wn),.v (ab cn on bT),.v (ab none 0 0),.v (ab none 0 0),.v (ab (some ⟨ec,0,none⟩) k4 k4),.v (ab none 0 0),.v (R 0),.v (R 0),.v (dh false),.v (R 0),.v (bC .u8 0),.v (R 0),.v (ab none 0 0),.v (bC .u8 0)] 115,.gone,.row 121 1 none 0 0 [],.row 3 1 none 0 0 []] am:=by
 refine .mk (Nat×Option aE×Nat×Option aE×Nat×List (Nat×Nat)) [5,89,90,91] (λ(k,_)=>[.p 1 0,.v (ab p.j' p.parts.length p.c7),.v (R p.parts.length),.v (R k)]) (λ(k,s,y,w,o,a')=>[.own [.v (R p.mem),.v (R p.br),.v (R p.ins),.v (R p.outs),.v (ab p.j' p.parts.length p.c7),.v (ab p.fg p.lines.length p.lc),.v (ab p.cn p.ops.length p.bT)] 42,.own [.v (ab (some ⟨eE,0,none⟩) T T),.v (ab fg ds lc),.v (ab (some ⟨fA,0,none⟩) fn fn),.v (ab (some ⟨g6,0,none⟩) wn wn),.v (ab cn on bT),.v (ab w k o),.v (ab s k y),.v (ab (some ⟨ec,0,none⟩) k4 k4),.v (ab none 0 0),.v (R 0),.v (R 0),.v (dh false),.v (R 0),.v (bC .u8 0),.v (R 0),.v (ab none 0 0),.v (bC .u8 0)] 115,.gone,.row 121 1 s k y (a'.map λq=>bY q.1),.row 3 1 w k o ((p.parts.take k).map λx=>R (hz (b6 x.tag x.a8).2.1))]) (λ(k,_,_,_,_,a') aa=>am.le aa/\k<=p.parts.length/\wo am aa B a' ((p.parts.take k).map Bi)) (λ(k,_)=>p.parts.length-k) (0,none,0,none,0,[]) (λ_=>rfl) ⟨J.le_refl _,cU _,rfl,bc,.nil,bc⟩ he rfl ?_;clear he;refineλ⟨k,s,y,w,o,a'⟩ e h⟨le,hk,qb⟩=>ay λfD Z eT=>Z _ _ _ (ay λfy Y d9=>aW (λq=>?_) (λq=>?_))
 .have z:k<p.parts.length:=I;obtain⟨g,H⟩:=ok.parts.b4 I;have c:=(ok.parts.mono le).row H (i:=k) (r:=n7.cells p.parts[k]) aL;have s1:=V _ (b3 z);have E:=(ok.part _ (b3 z)).mono le;have fQ:p.parts.take (k+1)=p.parts.take k++[p.parts[k]]:=lz z;generalize p.parts[k]=x at c s1 E fQ;obtain⟨tag,A,n,jW,a⟩:=x;simp only at s1;obtain⟨⟨t,rfl,t1,t2⟩,_⟩:=QZ s1;have DA:=QY s1;have lH:a.length=n:=by simpa using E.len
  have dO:Bi ⟨t,A,n,jW,a⟩=⟨t,a,yQ t a,0,(b6 t a).2.1,(b6 t a).2.2⟩:=dW;have lv:(b6 (t:Int) a).2.1.length<=16/\(b6 (t:Int) a).2.2.length<=16:=Cl (t:Int) a;have O:=MF (t:Int) a;refine Y _ _ _ (ay λfz X eZ=>ew λfE dR dH=>ay λgF du gN=>.m g H (.hp [bC .u8 t,ab A n jW] rfl (by rw[bn];exact c) (du _ _ _ (ay λgL ed gG=>.ag (.mk _ (ahy t A n jW a h E I s1) ?_)))));rintro _ ae ⟨K,bV,bG,rfl,rQ,N⟩;refine ed _ _ _ (ay λjl eY hU=>ay λkd fO j3=>fO _ _ _ (eY _ _ _ (ay λjU hc iD=>hc _ _ _ (ay λkQ gM kH=>.ag (.mk _ (ajI N (J.xr _ _) aL aL t1 t2) ?_)))));rintro _ D ⟨M,eg,cf,S,IV,rfl,eS,_⟩;have P:=(qb.add le K U rQ N).up M;refine gM _ _ _ (ay λqS kh qs=>ay λoE ki nn=>ki _ _ _ (ew λsk lJ uI=>.jG (.ag (aF2 p eE T fA fn g6 wn fg ds lc cn on bT ec k4 sk _ D k s w y o _ _ bV (bC .u8 t) (ab A n jW) eg cf _ _ eS O.1 lv.1 rfl λe he=>lJ _ _ _ (kh _ _ _ ?_)))));rw[<-fi [5,10,12,89,90,91] e,he];have xc:=akd _ O.1;have vz:(a'++[(bV,bG)]).map (λq=>bY q.1)=a'.map (λq=>bY q.1)++[bY bV]:=bc;have kT:(p.parts.take (k+1)).map (λx=>R (hz (b6 x.tag x.a8).2.1))=(p.parts.take k).map (λx=>R (hz (b6 x.tag x.a8).2.1))++[R (hz (b6 (t:Int) a).2.1)]:=aL;have C:wo am D B (a'++[(bV,bG)]) ((p.parts.take (k+1)).map Bi):=by
   grind
  have fin:∀(e:cg)(L:List LE)(d:Option aE)(f:Nat)(j:Option aE)(l:Nat),[5,89,90,91].map e=[.p 1 0,.v (ab p.j' p.parts.length p.c7),.v (R p.parts.length),.v (R k)]->L.take 5=[.own [.v (R p.mem),.v (R p.br),.v (R p.ins),.v (R p.outs),.v (ab p.j' p.parts.length p.c7),.v (ab p.fg p.lines.length p.lc),.v (ab p.cn p.ops.length p.bT)] 42,.own [.v (ab (some ⟨eE,0,none⟩) T T),.v (ab fg ds lc),.v (ab (some ⟨fA,0,none⟩) fn fn),.v (ab (some ⟨g6,0,none⟩) wn wn),.v (ab cn on bT),.v (ab j (k+1) l),.v (ab d (k+1) f),.v (ab (some ⟨ec,0,none⟩) k4 k4),.v (ab none 0 0),.v (R 0),.v (R 0),.v (dh false),.v (R 0),.v (bC .u8 0),.v (R 0),.v (ab none 0 0),.v (bC .u8 0)] 115,.gone,.row 121 1 d (k+1) f ((a'.map λq=>bY q.1)++[bY bV]),.row 3 1 j (k+1) l (((p.parts.take k).map λx=>R (hz (b6 x.tag x.a8).2.1))++[R (hz (b6 (t:Int) a).2.1)])]->fE .normal e L D:=by
   refineλe L d f j l gg q0=>dH _ _ _ _ nofun (X _ _ _ ?_);rw[<-fi [5,89,90,91] e,gg];refine .bl (⟨(k+1,d,f,j,l,a'++[(bV,bG)]),rfl,?_,⟨J.le_trans le (J.le_trans K M),z,C⟩,aL⟩)
   grind
  have kJ:k+1<=eQ:=by unfold eQ;omega
  refine⟨?_,?_⟩
  .refine⟨?_,?_⟩;all_goals
    exact .c0 3 _ [bY bV] rfl rfl (by intro u hu;rw[hZ]at hu;subst hu;rfl) kJ I λd f _=>.c0 4 _ [R (hz (b6 (t:Int) a).2.1)] rfl rfl (by intro u hu;rw[hZ]at hu;subst hu;rfl) kJ I λj l _=>fin _ _ d f j l rfl rfl
  exact .c0 3 _ [bY bV] rfl rfl (by intro u hu;rw[hZ]at hu;subst hu;rfl) kJ I λd f _=>.c0 4 _ [R (hz (b6 (t:Int) a).2.1)] rfl rfl (by intro u hu;rw[hZ]at hu;subst hu;rfl) kJ I λj l _=>fin _ _ d f j l rfl rfl
 refine d9 _ _ _ _ nofun ?_;obtain rfl:k=p.parts.length:=by omega
 refine W _ _ s y w o a' _ _ rfl le ?_ rfl bc
 grind
end
def nE:bM:=⟨none,0,[]⟩
theorem PX:∀(l:List ho)(m:List Int) T,m.length=T->(∀x∈l,0<=x.base/\x.base+x.st.length<=T)->(r1 l m).length=T
 |[],_,_,h,_=>h
 |x::l,m,T,h,a=>by
  have c:=a x (hq ..);exact PX l _ T (by rw[PA I];exact h) λy b=>a y (gd _ b)
theorem bw.ty{h:J}{cap:Nat}(r:bw h bF size (some g) n cap xs):∃be,h g.block=some (bb be bF (0,0)):=by
 obtain⟨b,au,rfl,a,_⟩:=r.split;exact⟨_,a⟩
theorem eN{h:J}{x y:Array aA}{s:Nat}(c:h a=some (bb x s (0,0)))(f:h b=some (bb y t (0,0)))(d:s≠t):a≠b:=λe=>by
 rw[e,f]at c;injection c with c;injection c with _ q;exact d q.symm
noncomputable def J.Ar(h:J)(S:List Nat):J:=h.on λo=>o∉S
variable {B aT aa h:J}{K:List LE->J->Prop}
theorem J.aE7(h:J) S:(h.Ar S).le h:=J.xr _ _
theorem J.GB{S:List Nat}(a:o∈S):h.Ar S o=none:=by
 unfold J.Ar J.on;rw[aC λq=>q a]
theorem J.ajy{S:List Nat}(a:o∉S):h.Ar S o=h o:=J.mQ a
theorem bw.Ar{h:J}{bF size n cap:Nat}{A:Option aE}{xs:List aA}{S:List Nat}(x:bw h bF size A n cap xs)(dy:∀g,A=some g->g.block∉S):bw (h.Ar S) bF size A n cap xs:=bw.on x dy
theorem om(e:A=some g):g.block∈jm A:=by subst e;exact G' _
theorem nR(h:o∈jm A):∃g,A=some g/\g.block=o:=by
 cases A with
 |none=>cases h
 |some g=>rw[jm,hZ]at h;exact⟨g,rfl,h.symm⟩
theorem aA3{p:jC}{k l D:J}{N C eE fA g6 ec a1:Nat}{fg cn F G:Option aE}{lc bT T P:Nat}(dX:p.mem=N)(hC:p.br=C)(Y:p.ins=b7)(hO:p.outs=O)(K:∀x∈p.lines,0<=x.base/\x.base+x.st.length<=p.mem)(Q:h.le k)(hm:k eE=some (hP (iP p).mem))(M:k fA=some (bb (bp b7 (ab none 0 0)).toArray 27 (0,0)))(hw:k g6=some (bb (bp O (ab none 0 0)).toArray 27 (0,0)))(av:k ec=some (hP (bp C 0)))(W:bw k 152 4 fg p.lines.length lc (uP (iP p).lines))(m0:h eE=none)(f0:h fA=none)(bh:h g6=none)(e5:h ec=none)(q6:∀g,fg=some g->h g.block=none)(P':fA≠g6)(Ww:eE≠ec)(ro:bw k 66 3 cn p.ops.length bT (h7 p.ops))(H:k.le l)(z:wo k l ([eE,fA,g6,ec]++jm fg) a' (p.parts.map Bi))(u:l a1=none){cs:Array aA}(gq:cs=#[ab (some ⟨eE,0,none⟩) N N,ab fg p.lines.length lc,ab (some ⟨fA,0,none⟩) b7 b7,ab (some ⟨g6,0,none⟩) O O,ab cn p.ops.length bT,ab G p.parts.length P,ab F p.parts.length T,ab (some ⟨ec,0,none⟩) C C,ab none 0 0,R 0,R 0,dh false,R 0,bC .u8 0,R 0,ab none 0 0,bC .u8 0])(I:(l.put a1 (bb cs 115 (0,0))).le D)(Gs:bw D 121 1 F p.parts.length T (a'.map λq=>bY q.1))(f7:∀g,F=some g->(l.put a1 (bb cs 115 (0,0))) g.block=none)(X:bw D 3 1 G p.parts.length P (p.parts.map λx=>R (hz (b6 x.tag x.a8).2.1)))(f8:∀g,G=some g->(l.put a1 (bb cs 115 (0,0))) g.block=none):∃B m,h.le B/\dr B D a1 m/\m.x=iP p/\m.cZ=bp p.ins.toNat nE:=by
 have v:k.le D:=J.le_trans H (J.le_trans (J.d' u) I);have sB:∀q∈a',l q.2≠none:=λq w=>by
  obtain⟨i,ai,rfl⟩:=n4 w;exact(z.cV i ai (by have:=z.len;omega)).some_
 have E:∀o∈[eE,fA,g6,ec]++jm fg,k o≠none/\h o=none:=λo a=>by
  simp only[eI,ez,y9,or_false]at a;rcases a with(rfl|rfl|rfl|rfl)|a;exact⟨by rw[hm];nofun,m0⟩;exact⟨by rw[M];nofun,f0⟩;exact⟨by rw[hw];nofun,bh⟩;exact⟨by rw[av];nofun,e5⟩;obtain⟨g,j,rfl⟩:=nR a;subst j;exact⟨W.mem rfl,q6 g rfl⟩
 obtain⟨S,dy⟩:∃S,S=a1::([eE,fA,g6,ec]++jm fg++a'.map dV):=⟨_,rfl⟩;have t:∀o,o∈S↔o=a1\/o∈[eE,fA,g6,ec]++jm fg\/o∈a'.map dV:=λo=>by rw[dy,ez,eI]
 have L:∀o∈S,(l.put a1 (bb cs 115 (0,0))) o≠none:=λo a=>by
  rcases(t o).1 a with rfl|a|a;rw[J.b8];nofun;have:=(E o a).1;cases q:k o with
  |none=>exact absurd q this
  |some U=>rw[J.d' u _ _ (H _ _ q)];nofun
  obtain⟨q,w,rfl⟩:=cO.1 a;have:=sB q w;cases e:l q.2 with
  |none=>exact absurd e this
  |some U=>rw[J.d' u _ _ e];nofun
 have new:∀{A:Option aE},(∀g,A=some g->(l.put a1 (bb cs 115 (0,0))) g.block=none)->∀g,A=some g->g.block∉S:=λf g j a=>L _ a (f g j);have BK:(iP p).mem.length=N:=PX _ _ N (by simp[dX]) λx af=>by have:=K x af;omega
 refine⟨D.Ar S,⟨iP p,eE,fg,lc,fA,bp b7 nE,g6,bp O nE,cn,bT,G,P,F,T,a',ec,none,0⟩,λo U a=>?_,?_,rfl,by rw[Y];rfl⟩;rw[J.ajy];exact v _ _ (Q _ _ a);intro s;rcases(t o).1 s with rfl|s|s;rw[J.none_le (J.le_trans Q H) u]at a;cases a;rw[(E o s).2]at a;cases a;obtain⟨q,w,rfl⟩:=cO.1 s;rw[J.none_le Q (z.new q w)]at a;cases a;have out:∀{A:Option aE}{n c:Nat}{xs:List aA},bw k 66 3 A n c xs->∀g,A=some g->g.block∉S:=by
  intro A n c xs r g j a;subst j;obtain⟨be,j⟩:=r.ty;rcases(t _).1 a with e|a|a;rw[e,J.none_le H u]at j;cases j;simp only[eI,ez,y9,or_false]at a;rcases a with(e|e|e|e)|a;exact eN j hm aH e;exact eN j M aH e;exact eN j hw aH e;exact eN j av aH e;obtain⟨bq,c9,e⟩:=nR a;subst c9;obtain⟨abe,al⟩:=W.ty;exact eN j al aH e.symm;obtain⟨q,w,e⟩:=cO.1 a;rw[<-e,z.new q w]at j;cases j
 have Z:(iP p).lines.length=p.lines.length:=by simp[iP]
 have fu:(iP p).ops.length=p.ops.length:=rfl;have jj:(iP p).ir.length=p.parts.length:=by simp[iP]
 have V:(iP p).f'.length=p.parts.length:=by simp[iP]
 have Cq:(iP p).dg.length=C:=by simp[iP,hC]
 refine⟨J.aE7 _ _,J.GB ((t _).2 (bQ rfl)),?_,v _ _ hm,J.GB ((t _).2 (ba (bQ bc))),?_,λg j=>J.GB ((t _).2 (ba (bQ (List.mem_append_right _ (om j))))),?_,J.GB ((t _).2 (ba (bQ bc))),?_,?_,?_,J.GB ((t _).2 (ba (bQ bc))),?_,?_,?_,P',?_,?_,?_,?_,λi h1 ae=>?_,z.dE,?_,J.GB ((t _).2 (ba (bQ bc))),bQ ⟨rfl,rfl,rfl⟩,nofun,?_⟩;rw[I _ _ (J.b8 _ _ _),gq];simp only[fx.cells,BK,Z,fu,jj,V,Cq,List.length_replicate];rfl;simp only[Z];exact W.mono v;have:=v _ _ M;simp only[p7];exact this;simp only[p7,iP,Y,bn];rfl;intro d y;obtain⟨_,rfl⟩:=ud.1 y;exact⟨bg.nil _ _ _,dM _⟩;have:=v _ _ hw;simp only[p7];exact this;simp only[p7,iP,hO,bn];rfl;intro d y;obtain⟨_,rfl⟩:=ud.1 y;exact⟨rfl,bQ ⟨rfl,rfl,rfl⟩⟩;intro d y g j;obtain⟨_,rfl⟩:=ud.1 y;cases j;exact((ro.mono v).Ar (S:=S) (out ro)).dK (λr aq=>by obtain⟨x,_,rfl⟩:=cO.1 aq;rfl) aH;simp only[jj];have e:(p.parts.map λx=>R (hz (b6 x.tag x.a8).2.1))=(iP p).ir.map R:=by simp[iP]
 rw[e]at X;exact(X.Ar (S:=S) (new f8)).one;simp only[V];have:=(Gs.Ar (S:=S) (new f7)).e2;rw[ig]at this;exact this;simp only[V];have:=z.len;simpa using this;have b:=z.cV i h1 ae;refine b.to (λo U a=>?_) ?_ ?_;have q:=J.vY (by rw[a];nofun);rw[J.mQ q]at a;rw[J.ajy];exact I _ _ (J.d' u _ _ a);intro s;rcases(t o).1 s with rfl|s|s;rw[u]at a;cases a;exact q.1 s;exact q.2 s;have K:=b.some_;cases e:l a'[i].2 with
 |none=>exact absurd e K
 |some U=>exact(I _ _ (J.d' u _ _ e)).symm
 exact J.GB ((t _).2 (ba (ba (G9 (b3 h1)))));simp only[iP,hC,bn];exact v _ _ av;have:(bp O nE).flatMap (λd=>jm d.A)=[]:=by
  rw[List.flatMap_eq_nil_iff];intro d y;obtain⟨_,rfl⟩:=ud.1 y;rfl
 rw[this];simpa[jm]using Ww
theorem tT{U:Obj}(a:h b=some U):h.put b U=h:=by
 funext o;simp only[J.put];split;rename_i e;rw[e,a];rfl
theorem bw.whole(r:bw h bF size (some g) n n xs):∃b,g=⟨b,0,none⟩/\h b=some (bb xs.toArray bF (0,0)):=by
 obtain⟨b,au,e,a,al,_⟩:=r.split;rw[Nat.sub_self,Nat.zero_mul]at al;rw[y7 al,sf]at a;exact⟨b,e,a⟩
theorem TQ{bx a:aE}{ae:J}{aV:List aA} g h i j l(k:∀b,ae.le b->bw b 27 1 (some bx) b7 b7 xs->bw b 27 1 (some a) O O aV->ae bx.block=none->ae a.block=none->bx.block≠a.block->hL K [g,h,i,j,l,.gone,.gone] b):hL K [g,h,i,j,l,.row 27 1 (some bx) b7 b7 xs,.row 27 1 (some a) O O aV] ae:=.b5 5 27 1 (some bx) b7 b7 _ rfl λ_ d f f3=>.b5 6 27 1 (some a) O O _ rfl λaT c m f4=>k aT (J.le_trans d c) (f.mono c) m (f3 bx rfl) (J.none_le d (f4 a rfl)) λe=>f.mem rfl (by rw[e];exact f4 a rfl)
theorem asn{bx a:aE}{ae:J}{aV:List aA} g h i j l(k:∀b,ae.le b->bw b 27 1 (some bx) b7 b7 xs->bw b 27 1 (some a) O O aV->ae bx.block=none->ae a.block=none->bx.block≠a.block->hL K [g,h,i,j,l,.gone,.gone] b):hL K [g,h,i,j,l,.row 27 1 (some a) O O aV,.row 27 1 (some bx) b7 b7 xs] ae:=.b5 5 27 1 (some a) O O _ rfl λ_ d f f3=>.b5 6 27 1 (some bx) b7 b7 _ rfl λaT c m f4=>k aT (J.le_trans d c) m (f.mono c) (J.none_le d (f4 bx rfl)) (f3 a rfl) λe=>f.mem rfl (by rw[<-e];exact f4 bx rfl)
theorem aB0 p T h(ok:p.ok h)(a:p.rt T):Fn aD 27 #[.agg p.cells.toArray] h λv aa=>∃a1 B m,v=eA #[bY a1,R 0]/\h.le B/\dr B aa a1 m/\m.x=iP p/\m.cZ=bp p.ins.toNat nE:=by
 have a0:=a.m0;have cS:=a.m1;have bN:=a.e5;have cB:=a.c1;have g7:=a.i0;have ml:=a.i1;have mL:=a.pn;have rz:=a.j8;have wU:=a.W1;have Bh:=a.li;have EX:=a.op;have tQ:p.cells=[R p.mem,R p.br,R p.ins,R p.outs,ab p.j' p.parts.length p.c7,ab p.fg p.lines.length p.lc,ab p.cn p.ops.length p.bT]:=rfl;have E:=apP p T h ok a;rw[tQ]at E⊢;refine bU Ps rfl (ay λfD cQ eT=>cQ _ _ _ (ay λfy cM d9=>ay λfz cL eZ=>.ag (.mk _ E ?_)));rintro _ h1 ⟨rfl,i⟩;refine cL _ _ _ (cM _ _ _ (ay λfE dR dH=>?_));obtain⟨N,dX⟩:∃N:Nat,p.mem=N:=⟨p.mem.toNat,I⟩;obtain⟨C,hC⟩:∃N:Nat,p.br=N:=⟨p.br.toNat,I⟩;obtain⟨b7,n⟩:∃N:Nat,p.ins=N:=⟨p.ins.toNat,I⟩;obtain⟨O,hO⟩:∃N:Nat,p.outs=N:=⟨p.outs.toNat,I⟩;have gD:∀(e:cg)(cn:Option aE)(bT:Nat)(gc:aE)(zf wH:LE),[1,5].map e=[.p 0 0,.p 3 0]->(∀(K:List LE->J->Prop)(Y X:LE)(cK:List LE),(∀ae,h1.le ae->bw ae 66 3 cn p.ops.length bT (h7 p.ops)->bw ae 3 1 (some gc) C C (bp C (R 0))->(∀g,cn=some g->h1 g.block=none)->h1 gc.block=none->hL K (Y:: .gone:: .gone::X::cK) ae)->hL K (Y::zf::wH::X::cK) h1)->fE .normal e [.own (tR p) 42,zf,wH,.own [.v (ab none 0 0),.v (ab none 0 0),.v (ab none 0 0),.v (ab none 0 0),.v (ab cn p.ops.length bT),.v (ab none 0 0),.v (ab none 0 0),.v (ab (some gc) C C),.v (ab none 0 0),.v (R 0),.v (R 0),.v (dh false),.v (R 0),.v (bC .u8 0),.v (R 0),.v (ab none 0 0),.v (bC .u8 0)] 115] h1:=by
  refineλe cn bT gc zf wH he auZ=>dR _ _ _ ?_;rw[<-fi [1,5] e,he];refine ay λgF du gN=>.one N (R 0) rfl rfl dX dX I I λD=>du _ _ _ (ay λgL ed gG=>?_);have Z:∀(e:cg)(bx c:aE)(Hl Si:LE),[1,5].map e=[.p 0 0,.p 3 0]->(∀(K:List LE->J->Prop)(t u w y z:LE)(ae:J),(∀j,ae.le j->bw j 27 1 (some bx) b7 b7 (bp b7 (ab none 0 0))->bw j 27 1 (some c) O O (bp O (ab none 0 0))->ae bx.block=none->ae c.block=none->bx.block≠c.block->hL K [t,u,w,y,z,.gone,.gone] j)->hL K [t,u,w,y,z,Hl,Si] ae)->gL .normal e [.own (tR p) 42,zf,wH,.own [.v (ab (some D) N N),.v (ab none 0 0),.v (ab (some bx) b7 b7),.v (ab (some c) O O),.v (ab cn p.ops.length bT),.v (ab none 0 0),.v (ab none 0 0),.v (ab (some gc) C C),.v (ab none 0 0),.v (R 0),.v (R 0),.v (dh false),.v (R 0),.v (bC .u8 0),.v (R 0),.v (ab none 0 0),.v (bC .u8 0)] 115,.row 3 1 (some D) N N (bp N (R 0)),Hl,Si] h1:=by
   refineλe bx c Hl Si he au0=>ed _ _ _ ?_;rw[<-fi [1,5] e,he];refine ay λjl eY hU=>ay λkd fO j3=>fO _ _ _ (ew λjU hc iD=>.jG (auZ _ _ _ _ λae f ro rc bR jE=>au0 _ _ _ _ _ _ _ λj d aEo aEX uu qZ P'=>.b5 4 3 1 (some D) N N _ rfl λaT l Xq A=>.abs 152 4 none 0 0 [] ⟨rfl,bQ ⟨rfl,rfl,rfl⟩⟩ (.ag ?_)));have A:=A D rfl;have aEs:bw aT 3 1 (some D) N N ((bp N (0:Int)).map R):=by rw[p7];exact Xq
   have aD2:bw ae 3 1 (some gc) C C ((bp C (0:Int)).map R):=by rw[p7];exact rc
   obtain⟨eE,rfl,zH⟩:=aEs.whole;obtain⟨ec,rfl,OG⟩:=aD2.whole;obtain⟨fA,rfl,G⟩:=aEo.whole;obtain⟨g6,rfl,P⟩:=aEX.whole;simp only at A uu qZ jE P';have S:h1.le aT:=J.le_trans f (J.le_trans d l);have m1:h1 eE=none:=J.none_le (J.le_trans f d) A;have auT:aT.put eE (hP (bp N 0))=aT:=tT zH;show jk _ _ _ _ aT;rw[<-auT];refine aB1 jU _ p h1 aT (ok.mono i) eE N fA b7 g6 O cn p.ops.length bT ec C S m1 Bh I (bp N 0) bc (λx af=>by have:=a.ck x af;omega) [0,3,7] _ rfl rfl rfl λe fg lc rows he yv=>hc _ _ _ (eY _ _ _ ?_);rw[<-fi [1,5] e,he];have s:aT.le (aT.put eE (hP (r1 p.lines (bp N 0))))\/True:=ba trivial;refine ay λkQ gM kH=>ay λqS kh qs=>kh _ _ _ (ew λoE ki nn=>?_);generalize hH:aT.put eE (hP (r1 p.lines (bp N 0)))=H;have F7:h1.le H:=by rw[<-hH];exact lK m1 S
   refine .jG (.b5 2 152 4 fg p.lines.length lc rows rfl λW s lP f5=>.abs 121 1 none 0 0 [] ⟨rfl,bQ ⟨rfl,rfl,rfl⟩⟩ (.abs 3 1 none 0 0 [] ⟨rfl,bQ ⟨rfl,rfl,rfl⟩⟩ (.ag ?_)));show jk _ _ _ _ W;have Wr:fA≠eE:=eN (l _ _ G) zH aH;have V:eE≠ec:=λe=>by
    have:=J.none_le d A;rw[e,OG]at this;cases this
   have et:∀{o:Nat}{U:Obj},aT o=some U->o≠eE->W o=some U:=λ{o U} r b'=>s _ _ (by rw[<-hH,J.cD _ _ b'];exact r);have Q:W eE=some (hP (iP p).mem):=s _ _ (by rw[<-hH,J.b8];simp[iP,dX]);have Ww:eE≠ec:=V;have F:=et (l _ _ G) Wr;have M:=et (l _ _ P) (eN (l _ _ P) zH aH);have L:=et (l _ _ (d _ _ OG)) V.symm;have wc:bw W 66 3 cn p.ops.length bT (h7 p.ops):=by
    have fC:=(ro.mono d).mono l;have:bw H 66 3 cn p.ops.length bT (h7 p.ops):=by
     rw[<-hH];refine bw.kx fC λg b e=>?_;subst b;obtain⟨be,b⟩:=fC.ty;rw[e,zH]at b;injection b with b;injection b with _ q;cases q
    exact this.mono s
   refine aB2 p eE N fA b7 g6 O fg p.lines.length lc cn p.ops.length bT ec C oE _ W ([eE,fA,g6,ec]++jm fg) (ok.mono (J.le_trans i (J.le_trans F7 s))) ?_ wU a.sX rfl λe eX h3 iK hB g5 a' Cu CR he im qb asV ata=>?_;intro o r;simp only[eI,ez,y9,or_false]at r;rcases r with(rfl|rfl|rfl|rfl)|r;rw[Q];nofun;rw[F];nofun;rw[M];nofun;rw[L];nofun;obtain⟨g,b,rfl⟩:=nR r;subst b;exact lP.mem rfl;refine ki _ _ _ (gM _ _ _ ?_);rw[<-fi [5] e,he];refine .mk λa1 q1=>.b5 3 121 1 h3 p.parts.length iK Cu rfl λo' oQ Gs f7=>.b5 4 3 1 hB p.parts.length g5 CR rfl λtt sR Jb f8=>.ag ?_;subst asV ata yv;obtain⟨B,m,aO,aG,bt⟩:=aA3 dX hC n hO (λx af=>by have:=a.ck x af;omega) (J.le_trans i (J.le_trans F7 s)) Q F M L lP (J.none_le i m1) (J.none_le i (J.none_le f uu)) (J.none_le i (J.none_le f qZ)) (J.none_le i jE) (λg b=>J.none_le i (J.none_le F7 (f5 g b))) P' Ww wc im qb q1 rfl (J.le_trans oQ sR) (Gs.mono sR) f7 Jb (λg b=>J.none_le oQ (f8 g b));exact⟨a1,B,m,rfl,aO,aG,bt⟩
  refine⟨?_,?_⟩
  .refine .one b7 (ab none 0 0) rfl rfl n n I I λbx=>⟨?_,?_⟩
   .refine⟨?_,?_⟩;all_goals
     exact .one O (ab none 0 0) rfl rfl hO hO I I λc=>Z _ bx c _ _ rfl λK t u w y z ae k=>TQ _ _ _ _ _ k
   exact .one O (ab none 0 0) rfl rfl hO hO I I λc=>Z _ bx c _ _ rfl λK t u w y z ae k=>TQ _ _ _ _ _ k
  refine⟨?_,?_⟩
  .refine .one b7 (ab none 0 0) rfl rfl n n I I λbx=>⟨?_,?_⟩;all_goals
    exact .one O (ab none 0 0) rfl rfl hO hO I I λc=>Z _ bx c _ _ rfl λK t u w y z ae k=>TQ _ _ _ _ _ k
  exact .one O (ab none 0 0) rfl rfl hO hO I I λc=>.one b7 (ab none 0 0) rfl rfl n n I I λbx=>Z _ bx c _ _ rfl λK t u w y z ae k=>asn _ _ _ _ _ k
 refine⟨?_,?_⟩;exact .fresh (h7 p.ops) rfl rfl rfl ((ok.ops.mono i).src _) (Gn _) (by unfold eQ;omega) I λcn bT _=>.one C (R 0) rfl rfl hC hC I I λgc=>gD _ cn bT gc _ _ rfl λK Y X cK k=>.b5 1 66 3 cn p.ops.length bT _ rfl λae f dS f2=>.b5 2 3 1 (some gc) C C _ rfl λj d eb f3=>k j (J.le_trans f d) (dS.mono d) eb f2 (J.none_le f (f3 gc rfl));exact .one C (R 0) rfl rfl hC hC I I λgc=>.fresh (h7 p.ops) rfl rfl rfl ((ok.ops.mono i).src _) (Gn _) (by unfold eQ;omega) I λcn bT _=>gD _ cn bT gc _ _ rfl λK Y X cK k=>.b5 1 3 1 (some gc) C C _ rfl λae f dS f2=>.b5 2 66 3 cn p.ops.length bT _ rfl λj d eb f3=>k j (J.le_trans f d) eb (dS.mono d) (λg b=>J.none_le f (f3 g b)) (f2 gc rfl)
theorem EY t:298<=x5 t:=by
 unfold x5;split<;>decide
theorem iE.ty{x:gK}(k:iE B h bV bG x):∃be,h bG=some (bb be (x5 x.tag) (0,0)):=by
 obtain⟨_,_,_,_,_,g,_⟩:=k.ex;exact⟨_,g⟩
theorem kn.kx{U:Obj}(x:kn h A l c)(e:∀g,A=some g->g.block≠b):kn (h.put b U) A l c:=by
 rcases x with x|⟨i,off,be,a,d,f⟩;exact bQ x;exact ba ⟨i,off,be,a,by rw[J.cD _ _ (e _ a)];exact d,f⟩
theorem kn.mono(x:kn h A l c)(le:h.le aa):kn aa A l c:=by
 rcases x with x|⟨e,off,be,b,a,d⟩;exact bQ x;exact ba ⟨e,off,be,b,le _ _ a,d⟩
theorem kn.ty(x:kn h (some g) l c):∃be,h g.block=some (bb be 3 (0,0)):=by
 rcases x with⟨x,_⟩|⟨e,off,be,a,b,d⟩;cases x;injection a with a;subst a;exact⟨_,b⟩
section
variable {B h:J}{a1 b:Nat}{m:fx}{U:Obj}{be:Array aA}{t:Nat}
structure Bc(B h:J)(a1:Nat)(m:fx)(t:Nat)(b:Nat)(U:Obj):Prop where
 le:B.le (h.put b U)
 box:t≠115->(h.put b U) a1=some (bb m.cells.toArray 115 (0,0))
 mem:m.eE≠b->(h.put b U) m.eE=some (hP m.x.mem)
 nP:t≠152->bw (h.put b U) 152 4 m.fg m.x.lines.length m.lc (uP m.x.lines)
 cZ:m.fA≠b->(h.put b U) m.fA=some (bb (m.cZ.map bM.val).toArray 27 (0,0))
 wr:m.g6≠b->(h.put b U) m.g6=some (bb (m.wr.map bM.val).toArray 27 (0,0))
 ky:(∀d∈m.wr,b∉jm d.A)->∀d∈m.wr,bw (h.put b U) 3 1 d.A d.l.length d.c (d.l.map R)
 cV:t<298->∀i(h1:i<m.a'.length)(ae:i<m.x.f'.length),iE B (h.put b U) m.a'[i].1 m.a'[i].2 m.x.f'[i]
 dg:m.ec≠b->(h.put b U) m.ec=some (hP m.x.dg)
 hand:b∉jm m.aK->kn (h.put b U) m.aK m.x.hand m.av
theorem dr.stay(k:dr B h a1 m)(c:h b=some (bb be t (0,0)))(n:B b=none):Bc B h a1 m t b U:=by
 refine⟨lK n k.le,λe=>?_,λe=>?_,λe=>?_,λe=>?_,λe=>?_,λe d l=>?_,λe i h1 ae=>?_,λe=>?_,λe=>?_⟩;rw[J.cD _ _ (eN k.box c (eh e))];exact k.box;rw[J.cD _ _ e];exact k.mem;refine bw.kx k.nP λg a=>?_;have r:=k.nP;rw[a]at r;obtain⟨bj,f⟩:=r.ty;exact eN f c (eh e);rw[J.cD _ _ e];exact k.cZ;rw[J.cD _ _ e];exact k.wr;exact bw.kx (k.ky d l) λg a q=>e d l (by rw[<-q];exact om a);have j:=k.cV i h1 ae;obtain⟨bj,f⟩:=j.ty;have:=EY m.x.f'[i].tag;exact j.to (J.le_refl _) (J.cD _ _ (eN f c I)).symm j.nN;rw[J.cD _ _ e];exact k.dg;exact k.hand.kx λg a q=>e (by rw[<-q];exact om a)
theorem dr.XS(k:dr B h a1 m)(l:List Int)(A:Option aE)(c:Nat)(next eU:Int)(st:Bool)(pk:Int)(i:Nat)(p:Int)(j:Nat)(n:kn h A l c)(am:∀g,A=some g->B g.block=none)(sep:(m.eE::m.ec::(jm A++m.wr.flatMap λd=>jm d.A)).Nodup){U:Obj}(u:U=bb ({m with x:={m.x with hand:=l,next:=next,eU:=eU,ox:=st,pk:=pk,uQ:=i,uR:=p,uN:=j},aK:=A,av:=c}:fx).cells.toArray 115 (0,0)):dr B (h.put a1 U) a1 {m with x:={m.x with hand:=l,next:=next,eU:=eU,ox:=st,pk:=pk,uQ:=i,uR:=p,uN:=j},aK:=A,av:=c}:=by
 have s:Bc B h a1 m 115 a1 U:=k.stay k.box k.so;have a:∀{o:Nat}{be:Array aA}{t:Nat},h o=some (bb be t (0,0))->t≠115->o≠a1:=λv y=>eN v k.box y;refine⟨s.le,k.so,by rw[J.b8,u],s.mem (a k.mem aH),k.pR,s.nP aH,k.uO,s.cZ (a k.cZ aH),k.ut,k.sr,k.rH,s.wr (a k.wr aH),k.vb,k.n0,s.ky λd w q=>?_,k.r9,k.qZ,k.ops,k.nv,k.k3,k.uh,s.cV aH,k.uJ,s.dg (a k.dg aH),k.uk,n.kx λg b=>?_,am,sep⟩;obtain⟨g,b,e⟩:=nR q;have r:=k.ky d w;rw[b]at r;obtain⟨bj,f⟩:=r.ty;exact a f aH e;subst b;obtain⟨bj,f⟩:=n.ty;exact a f aH
theorem dr.HC(k:dr B h a1 m):m.eE≠m.ec/\m.ec∉jm m.aK/\m.eE∉jm m.aK/\∀d∈m.wr,m.ec∉jm d.A/\m.eE∉jm d.A:=by
 have s:=k.sep;rw[jb,jb]at s;obtain⟨s1,s2,_⟩:=s;simp only[ez,eI,sg,not_or]at s1 s2;exact⟨s1.1,s2.1,s1.2.1,λd a=>⟨λq=>s2.2 ⟨d,a,q⟩,λq=>s1.2.2 ⟨d,a,q⟩⟩⟩
theorem dr.ajC(k:dr B h a1 m)(l:List Int)(al:l.length=m.x.dg.length):dr B (h.put m.ec (hP l)) a1 {m with x:={m.x with dg:=l}}:=by
 have s:Bc B h a1 m 3 m.ec (hP l):=k.stay k.dg k.uk;obtain⟨c,e,f,a⟩:=k.HC;refine⟨s.le,k.so,?_,s.mem c,k.pR,s.nP aH,k.uO,s.cZ (eN k.cZ k.dg aH),k.ut,k.sr,k.rH,s.wr (eN k.wr k.dg aH),k.vb,k.n0,s.ky λd b=>(a d b).1,k.r9,k.qZ,k.ops,k.nv,k.k3,k.uh,s.cV aH,k.uJ,J.b8 _ _ _,k.uk,s.hand e,k.qg,k.sep⟩;rw[s.box aH];simp only[fx.cells,al]
theorem dr.ajE(k:dr B h a1 m)(l:List Int)(al:l.length=m.x.mem.length):dr B (h.put m.eE (hP l)) a1 {m with x:={m.x with mem:=l}}:=by
 have s:Bc B h a1 m 3 m.eE (hP l):=k.stay k.mem k.pR;obtain⟨c,f,e,a⟩:=k.HC;refine⟨s.le,k.so,?_,J.b8 _ _ _,k.pR,s.nP aH,k.uO,s.cZ (eN k.cZ k.mem aH),k.ut,k.sr,k.rH,s.wr (eN k.wr k.mem aH),k.vb,k.n0,s.ky λd b=>(a d b).2,k.r9,k.qZ,k.ops,k.nv,k.k3,k.uh,s.cV aH,k.uJ,s.dg (eh c),k.uk,s.hand e,k.qg,k.sep⟩;rw[s.box aH];simp only[fx.cells,al]
theorem dr.aFe(k:dr B h a1 m)(c:m.fg=some g){U:Obj}(l:List lb)(al:l.length=m.x.lines.length)(r:bw (h.put g.block U) 152 4 m.fg l.length m.lc (uP l)):dr B (h.put g.block U) a1 {m with x:={m.x with lines:=l}}:=by
 have f:=k.nP;rw[c]at f;obtain⟨be,av⟩:=f.ty;have n:=k.uO g c;have s:Bc B h a1 m 152 g.block U:=k.stay av n;refine⟨s.le,k.so,?_,s.mem (eN k.mem av aH),k.pR,r,k.uO,s.cZ (eN k.cZ av aH),k.ut,k.sr,k.rH,s.wr (eN k.wr av aH),k.vb,k.n0,s.ky λd i q=>?_,k.r9,k.qZ,k.ops,k.nv,k.k3,k.uh,s.cV aH,k.uJ,s.dg (eN k.dg av aH),k.uk,s.hand λq=>?_,k.qg,k.sep⟩;rw[s.box aH];simp only[fx.cells,al];obtain⟨j,a,e⟩:=nR q;have r:=k.ky d i;rw[a]at r;obtain⟨bj,b⟩:=r.ty;exact eN b av aH e;obtain⟨j,a,e⟩:=nR q;have r:=k.hand;rw[a]at r;obtain⟨bj,b⟩:=r.ty;exact eN b av aH e
theorem dr.ajD(k:dr B h a1 m)(f:List bM)(al:f.length=m.cZ.length)(i:∀d∈f,d.ok B/\d.l.length<=d.c):dr B (h.put m.fA (bb (f.map bM.val).toArray 27 (0,0))) a1 {m with x:={m.x with cZ:=f.map bM.l},cZ:=f}:=by
 have s:Bc B h a1 m 27 m.fA (bb (f.map bM.val).toArray 27 (0,0)):=k.stay k.cZ k.ut;refine⟨s.le,k.so,?_,s.mem (eN k.mem k.cZ aH),k.pR,s.nP aH,k.uO,J.b8 _ _ _,k.ut,rfl,i,s.wr (eh k.qZ),k.vb,k.n0,s.ky λd g q=>?_,k.r9,k.qZ,k.ops,k.nv,k.k3,k.uh,s.cV aH,k.uJ,s.dg (eN k.dg k.cZ aH),k.uk,s.hand λq=>?_,k.qg,k.sep⟩;rw[s.box aH];simp only[fx.cells,al];obtain⟨j,a,e⟩:=nR q;have r:=k.ky d g;rw[a]at r;obtain⟨bj,b⟩:=r.ty;exact eN b k.cZ aH e;obtain⟨j,a,e⟩:=nR q;have r:=k.hand;rw[a]at r;obtain⟨bj,b⟩:=r.ty;exact eN b k.cZ aH e
theorem dr.grow{aa:J}(k:dr B h a1 m)(le:h.le aa):dr (B.grow h aa) aa a1 m:=by
 have jM:=By k.le le;have c:∀{o:Nat}{x:Obj},B o=none->h o=some x->B.grow h aa o=none:=λh1 ae=>rK h1 (by rw[ae];nofun);refine⟨J.xr _ _,c k.so k.box,le _ _ k.box,le _ _ k.mem,c k.pR k.mem,k.nP.mono le,λg a=>?_,le _ _ k.cZ,c k.ut k.cZ,k.sr,λd b=>⟨(k.rH d b).1.mono jM,(k.rH d b).2⟩,le _ _ k.wr,c k.vb k.wr,k.n0,λd b=>(k.ky d b).mono le,λd b g a=>?_,k.qZ,k.ops.mono jM,k.nv.mono jM,k.k3.mono jM,k.uh,λi h1 ae=>?_,k.uJ,le _ _ k.dg,c k.uk k.dg,k.hand.mono le,λg a=>?_,k.sep⟩;have r:=k.nP;rw[a]at r;exact rK (k.uO g a) (r.mem rfl);have r:=k.ky d b;rw[a]at r;exact rK (k.r9 d b g a) (r.mem rfl);have f:=k.cV i h1 ae;have j:=f.some_;refine f.to jM ?_ (rK f.nN j);cases e:h m.a'[i].2 with
 |none=>exact absurd e j
 |some U=>exact(le _ _ e).symm
 have r:=k.hand;rw[a]at r;obtain⟨bj,l⟩:=r.ty;exact c (k.qg g a) l
end
def l6(base size s:Int)(n:Nat):List Int:=(fJ n).map λ(k:Nat)=>base+(s+k)%size
theorem aaU base size s n:l6 base size s (n+1)=l6 base size s n++[base+(s+n)%size]:=by
 simp[l6,CG]
theorem aaR g base size at_ a(n:Nat) h(p:h.cell? g=some (R base))(c1:h.cell? (g.add 1)=some (R size))(c2:h.cell? (g.add 2)=some (R at_))(E:0<=base/\base<=100000)(d:0<n->1<=size)(mu:size<=100000)(D:0<=at_/\at_<=100000)(C:0<=a/\a<=100000)(B:n<=1000):Fn aD 179 #[gR (some g),R a,R n] h λv aa=>h.le aa/\∃A c,v=ab A n c/\bw aa 3 1 A n c ((l6 base size (at_+a) n).map R)/\∀g,A=some g->h g.block=none:=by
 refine bU ayF rfl ?_;refine ay λK l H=>?_;refine l _ _ _ ?_;refine ay λM j F=>?_;refine j _ _ _ ?_;refine ay λN i J=>?_;refine ay λL m G=>?_;refine m _ _ _ ?_;refine ew λO o S=>?_;refine .jG (.abs 3 1 none 0 0 [] ⟨rfl,bQ ⟨rfl,rfl,rfl⟩⟩ (.ag ?_));show jk _ _ _ _ h;refine .mk (Nat×Option aE×Nat) [0,1,7,9,10] (λ(k,A,c)=>[.v (gR (some g)),.v (R a),.v (ab A k c),.v (R n),.v (R k)]) (λ(k,A,c)=>[.row 3 1 A k c ((l6 base size (at_+a) k).map R)]) (λ(k,_,_) aa=>aa=h/\k<=n) (λ(k,_,_)=>n-k) (0,none,0) (λ_=>rfl) ⟨rfl,cU _⟩ rfl rfl ?_;rintro⟨k,A,c⟩ e _ ⟨rfl,hk⟩;refine ay λQ t P=>?_;refine t _ _ _ ?_;refine ay λW s y=>?_;refine aW (λq=>?_) (λq=>?_);have uE:=d I;refine s _ _ _ ?_;refine ay λZ w U=>?_;refine ew λV T z=>?_;refine ay λY x X=>?_;refine x _ _ _ ?_;refine .hp (R base) (by rw[add_zero,add_zero];exact p) ?_;refine .hp (R at_) c2 ?_;refine .bl ?_;refine .bl ?_;refine .hp (R size) (by rw[add_zero];exact c1) ?_;conv=>whnf
 have vN:=RP (at_+a+k) (b:=size) I;have sG:=RO (at_+a+k) (b:=size) I;rw[aml I];refine .mk I (.bl ?_);refine .c0 0 _ [R (base+(at_+a+k)%size)] rfl rfl (by intro u hu;rw[hZ]at hu;subst hu;rfl) (by unfold eQ;omega) I λbo bj _=>?_;refine z _ _ _ _ nofun (w _ _ _ ?_);refine .bl ?_;refine⟨(k+1,bo,bj),rfl,?_,⟨rfl,I⟩,by show n- (k+1)<n-k;omega⟩;show _=[LE.row 3 1 bo (k+1) bj ((l6 base size (at_+a) (k+1)).map R)];rw[aaU,fw];rfl;refine y _ _ _ _ nofun (o _ _ _ (i _ _ _ ?_));obtain rfl:k=n:=by omega
 refine .b5 0 3 1 A k c _ rfl λaa le r f=>.ag ⟨le,A,c,rfl,r,f⟩
def kA(h aa:J):Prop:=∀o be,h o=some (bb be 113 (0,0))->aa o=some (bb be 113 (0,0))
theorem kA.of_le(le:h.le aa):kA h aa:=λ_ _ e=>le _ _ e
theorem kA.trans{a b c:J}(x:kA a b)(y:kA b c):kA a c:=λo be e=>y o be (x o be e)
theorem kA.put{h:J}{b:Nat}{U:Obj}{be:Array aA}{t:Nat}(a:h b=some (bb be t (0,0)))(d:t≠113):kA h (h.put b U):=λo c e=>by
 rw[J.cD _ _ (eN e a (eh d))];exact e
theorem agH(l:List lb):∀r∈l.map lb.cells,r.length=4:=λr a=>by obtain⟨x,_,rfl⟩:=cO.1 a;rfl
theorem aAI{l:List lb}{x:lb}{v:aA} b(d:o<4)(c:x.cells=(l[a].cells).set o v):(uP l).set (a*4+o) v=uP (l.set a x):=by
 unfold uP;rw[acI _ (agH l) a o l[a].cells v (by rw[de,bK b];rfl) d,<-c,kB]
def AY(B h a:J):Prop:=∀o be,h o=some (bb be 113 (0,0))->B o=none->a o=none
theorem AY.grow{B h aa:J}:AY B h (B.grow h aa):=λ_ _ e b=>rK b (by rw[e];nofun)
theorem AY.trans{c a:J}(x:AY B h c)(d:kA h aa)(y:AY c aa a):AY B h a:=λo be e b=>y o be (d o be e) (x o be e b)
section
variable {B h:J}{a1:Nat}{m:fx}
theorem dr.agG(k:dr B h a1 m):bg h 4 m.fg m.x.lines.length (m.x.lines.map lb.cells):=k.nP.dK (agH _) aH
theorem dr.IH(k:dr B h a1 m) c:∃ks,m.fg=some ⟨ks,0,none⟩/\∀o v,(m.x.lines[a].cells)[o]?=some v->h.cell? ((⟨ks,a*4,none⟩:aE).add o)=some v:=by
 obtain⟨g,b⟩:=k.agG.b4 I;obtain⟨ks,au,e,_⟩:=(show bw h 152 4 (some g) m.x.lines.length m.lc (uP m.x.lines)from by rw[<-b];exact k.nP).split;subst e;refine⟨ks,b,λo v d=>?_⟩;have:=k.agG.row b (i:=a) (r:=m.x.lines[a].cells) (by rw[de,bK c];rfl) o v d;rwa[add_lit,dZ]at this
theorem dr.V4(k:dr B h a1 m)(d:m.fg=some ⟨ks,0,none⟩)(i:a<m.x.lines.length)(l:o<4){x:lb}{v:aA}(j:x.cells=(m.x.lines[a].cells).set o v):∃cs b:List aA,h ks=some (bb cs.toArray 152 (0,0))/\over cs (a*4+o) [v]=some b/\kA h (h.put ks (bb b.toArray 152 (0,0)))/\dr B (h.put ks (bb b.toArray 152 (0,0))) a1 {m with x:={m.x with lines:=m.x.lines.set a x}}:=by
 obtain⟨g,cs,b,e,c,f,r⟩:=k.nP.write (off:=a*4+o) I v;rw[d]at e;injection e with e;injection e with e;subst e;rw[aAI i l j]at r;refine⟨cs,b,c,f,.put c aH,k.aFe d _ bc ?_⟩;rw[fI];exact r
theorem bw.grown(r:bw aa bF size A n c xs)(f:∀g,A=some g->h g.block=none):bw (B.grow h aa) bF size A n c xs:=bw.on r λg a=>ba (f g a)
def u9(mem:List Int)(base size s:Int)(n:Nat):List Int:=(l6 base size s n).map λc=>mem.getD c.toNat 0
theorem aGE mem base size s n:u9 mem base size s (n+1)=u9 mem base size s n++[mem.getD (base+(s+n)%size).toNat 0]:=by
 rw[u9,aaU,fw];rfl
theorem SZ{size s:Int}{k:Nat}(hk:k<n):(l6 base size s n)[k]?=some (base+(s+k)%size):=by
 simp[l6,hk]
theorem dr.aBg(k:dr B h a1 m)(av:c<m.x.mem.length):h.cell? ((⟨m.eE,0,none⟩:aE).add (c*1))=some (R (m.x.mem.getD c 0)):=by
 rw[add_lit,dZ,e4];refine b1 k.mem ?_;simp[cc,bK av]
theorem aD6(k:dr B h a1 m) Q(e:cg) gW a w d y n base size s(C:bg h 1 d n (gi (l6 base size s n)))(N:0<=base)(O:1<=size)(tv:base+size<=m.x.mem.length)(M:n<=1000)(he:[0,1,2,8,9,15,16,17].map e=[.v (bY a1),.v gW,.v a,.v w,.v (ab none 0 0),.v (ab d n y),.v (R n),.v (R (0:Nat))])(D:∀e A c rows,[0,1,2,8,9].map e=[.v (bY a1),.v gW,.v a,.v w,.v (ab A n c)]->rows=(u9 m.x.mem base size s n).map R->Q (.exit 0) e [.row 3 1 A n c rows] h):jk (λQ e L h=>dq aD 57 awo Q e L h) Q e [.row 3 1 none 0 0 []] h:=by
 refine .mk (Nat×Option aE×Nat) [0,1,2,8,9,15,16,17] (λ(o,A,c)=>[.v (bY a1),.v gW,.v a,.v w,.v (ab A o c),.v (ab d n y),.v (R n),.v (R o)]) (λ(o,A,c)=>[.row 3 1 A o c ((u9 m.x.mem base size s o).map R)]) (λ(o,_,_) aa=>aa=h/\o<=n) (λ(o,_,_)=>n-o) (0,none,0) (λ_=>rfl) ⟨rfl,cU _⟩ he rfl ?_;rintro⟨o,A,c⟩ e aa ⟨ex,hk⟩;rw[ex];refine ay λS F P=>F _ _ _ (ay λW E J=>aW (λq=>?_) (λq=>?_));obtain⟨g,t⟩:=C.b4 I;have f:=C.one t (i:=o) (r:=[R (base+(s+o)%size)]) (by unfold gi;rw[de,SZ I];rfl) rfl;have vN:=RP (s+o) (b:=size) I;have sG:=RO (s+o) (b:=size) I;have l:=aGE m.x.mem base size s o;have j:0<=base+(s+(o:Int))%size:=I;have p:base+(s+(o:Int))%size<m.x.mem.length:=I;generalize base+(s+(o:Int))%size=z at f l j p;refine E _ _ _ (ay λZ G U=>ew λV T K=>ay λY H X=>.m g t (.hp (R z) (by rw[bn];exact f) (H _ _ _ (.hp (hM m.eE m.x.mem.length) (b1 k.box rfl) (.mk ⟨m.eE,0,none⟩ rfl j p (.hp _ (k.aBg I) (.ag (.c0 0 _ [R (m.x.mem.getD z.toNat 0)] rfl rfl (by intro u hu;rw[hZ]at hu;subst hu;rfl) (by unfold eQ;omega) I λbo bj _=>K _ _ _ _ nofun (G _ _ _ (.bl (⟨(o+1,bo,bj),rfl,?_,⟨rfl,I⟩,by show n- (o+1)<n-o;omega⟩)))))))))));show _=[LE.row 3 1 bo (o+1) bj ((u9 m.x.mem base size s (o+1)).map R)];rw[l,fw];rfl;refine J _ _ _ _ nofun ?_;obtain rfl:o=n:=by omega
 exact D _ A c _ rfl rfl
theorem aD4(k:dr B h a1 m)(q:m.fg=some ⟨ks,0,none⟩)(r:a<m.x.lines.length){size at_ br:Int}(E:m.x.lines[a]=⟨base,size,at_,br⟩)(n:Nat)(F:0<=base)(G:1<=size)(tv:base+size<=m.x.mem.length)(hm:m.x.mem.length<=100000)(nI:0<=at_/\at_<=100000)(BC:0<=br/\br<=100000)(D:n<=1000):Fn aD 134 #[bY a1,gR (some ⟨ks,a*4,none⟩),R n] h λv aa=>kA h aa/\∃l K g5 u' i,v=eA #[ab K n g5,ab u' n i]/\B.le l/\AY B h l/\dr l aa a1 {m with x:={m.x with lines:=m.x.lines.set a ⟨base,size,(at_+n)%size,br-n⟩}}/\bg l 1 K n (gi (u9 m.x.mem base size at_ n)):=by
 obtain⟨N,e,j⟩:=k.IH r;rw[q]at e;injection e with e;injection e with e;subst e;rw[E]at j;refine bU afE rfl (ay λfD V eT=>V _ _ _ (ay λfy U d9=>.ag (.mk _ (aaR ⟨ks,a*4,none⟩ base size at_ 0 n h (by have:=j 0 _ rfl;rwa[add_zero]at this) (j 1 _ rfl) (j 2 _ rfl) ⟨F,I⟩ (λ_=>G) I nI aH D) ?_)));rintro _ h1 ⟨g,y,i,rfl,C,E9⟩;rw[Int.add_zero]at C;have H:=k.grow g;have f:∀o v,((⟨base,size,at_,br⟩:lb).cells)[o]?=some v->h1.cell? ((⟨ks,a*4,none⟩:aE).add o)=some v:=λo v Q=>J.l5 g (j o v Q);refine U _ _ _ (ay λfz T eZ=>T _ _ _ (ay λfE W dH=>ay λgF X gN=>X _ _ _ (ew λgL Z gG=>.jG (.abs 3 1 none 0 0 [] ⟨rfl,bQ ⟨rfl,rfl,rfl⟩⟩ (.ag ?_)))));show jk _ _ _ _ h1;refine aD6 H gL _ (gR (some ⟨ks,a*4,none⟩)) (R n) (ab y n i) y i n base size at_ C.one F G tv D rfl λe A c rows he yv=>Z _ _ _ (W _ _ _ ?_);rw[<-fi [0,1,2,8,9] e,he];refine ay λjl Y hU=>.hp (R at_) (f 2 _ rfl) (.bl (.hp (R size) (by rw[add_zero];exact f 1 _ rfl) ?_));conv=>whnf
 have vN:=RP (at_+n) (b:=size) I;have sG:=RO (at_+n) (b:=size) I;rw[aml I];refine .mk I ?_;obtain⟨cs,h4,P,O,t,s⟩:=H.V4 q r (o:=2) aH (x:=⟨base,size,(at_+n)%size,br⟩) (v:=R ((at_+n)%size)) (by rw[E];rfl);refine .hp ks (a*4+2) 152 cs h4 (by rw[add_lit]) P O ?_;generalize h1.put ks _=ae at t s;have L:a<(m.x.lines.set a ⟨base,size,(at_+n)%size,br⟩).length:=by rw[fI];exact r
 obtain⟨N,d,z⟩:=s.IH L;simp only at d;rw[q]at d;injection d with d;injection d with d;subst d;simp only[JQ]at z;refine Y _ _ _ (ay λkd fO j3=>.hp (R br) (z 3 _ rfl) (.bl ?_));obtain⟨S,M,iQ,je,w,p⟩:=s.V4 q L (o:=3) aH (x:=⟨base,size,(at_+n)%size,br-n⟩) (v:=R (br-n)) (by simp only[JQ];rfl);refine .hp ks (a*4+3) 152 S M (by rw[add_lit]) iQ je ?_;generalize ae.put ks _=ax at w p;simp only[List.set_set]at p;refine fO _ _ _ (.b5 0 3 1 A n c rows rfl λaT u fC f4=>.ag ⟨((kA.of_le g).trans t).trans (w.trans (kA.of_le u)),_,A,c,y,i,rfl,J.le_trans (By k.le g) (By p.le u),AY.trans .grow (((kA.of_le g).trans t).trans w) .grow,p.grow u,?_⟩);subst yv;exact(fC.grown f4).one
end
def na(op:Int)(k:Nat)(ds:Int)(w:aA)(halt:Nat):Obj:=bb #[R op,bC .u8 k,R ds,w,bC .u8 halt] 113 (0,0)
def oB(B:J)(a1 c6:Nat)(op:Int)(k:Nat)(ds:Int)(d:fK)(halt:Nat)(aa:J):Prop:=∃b a A n c,(3<=halt->A=none/\n=0/\c=0)/\B.le b/\dr b aa a1 a/\a.x=d/\aa c6=some (na op k ds (ab A n c) halt)
section
variable {B h:J}{a1:Nat}{m:fx}
theorem dr.QW(k:dr B h a1 m)(n p:Int):dr B (h.put a1 (bb ({m with x:={m.x with next:=n,eU:=p}}:fx).cells.toArray 115 (0,0))) a1 {m with x:={m.x with next:=n,eU:=p}}:=k.XS m.x.hand m.aK m.av n p m.x.ox m.x.pk m.x.uQ m.x.uR m.x.uN k.hand k.qg k.sep rfl
theorem dr.MD(k:dr B h a1 m)(l:List Int)(A:Option aE)(c:Nat)(a:kn h A l c)(am:∀g,A=some g->B g.block=none)(sep:(m.eE::m.ec::(jm A++m.wr.flatMap λd=>jm d.A)).Nodup):dr B (h.put a1 (bb ({m with x:={m.x with hand:=l},aK:=A,av:=c}:fx).cells.toArray 115 (0,0))) a1 {m with x:={m.x with hand:=l},aK:=A,av:=c}:=k.XS l A c m.x.next m.x.eU m.x.ox m.x.pk m.x.uQ m.x.uR m.x.uN a am sep rfl
theorem kA.B9(k:dr B h a1 m) U:kA h (h.put a1 U):=.put k.box aH
theorem dr.nT(k:dr B h a1 m)(he:h c6=some (bb be 113 (0,0)))(g:B c6=none) U:dr B (h.put c6 U) a1 m:=by
 have s:Bc B h a1 m 113 c6 U:=k.stay he g;refine⟨s.le,k.so,s.box aH,s.mem (eN k.mem he aH),k.pR,s.nP aH,k.uO,s.cZ (eN k.cZ he aH),k.ut,k.sr,k.rH,s.wr (eN k.wr he aH),k.vb,k.n0,s.ky λd c q=>?_,k.r9,k.qZ,k.ops,k.nv,k.k3,k.uh,s.cV aH,k.uJ,s.dg (eN k.dg he aH),k.uk,s.hand λq=>?_,k.qg,k.sep⟩;obtain⟨f,a,e⟩:=nR q;have r:=k.ky d c;rw[a]at r;obtain⟨bj,b⟩:=r.ty;exact eN b he aH e;obtain⟨f,a,e⟩:=nR q;have r:=k.hand;rw[a]at r;obtain⟨bj,b⟩:=r.ty;exact eN b he aH e
theorem asl(k:dr B h a1 m) n(al:m.x.hand.length<=100000)(a:0<=n/\n<=100000):Fn aD 133 #[bY a1,R n] h λv aa=>v=dh (decide (64<(m.x.hand.length:Int)+n))/\aa=h:=by
 exact bU afD rfl (.hp _ (b1 k.box rfl) (.bl (.ag ⟨rfl,rfl⟩)))
theorem dr.abd(k:dr B h a1 m) av:h.cell? ((⟨m.ec,0,none⟩:aE).add (c*1))=some (R m.x.dg[c]):=by
 rw[add_lit,dZ,e4];exact b1 k.dg (by simp[av])
theorem kA.dg(k:dr B h a1 m) U:kA h (h.put m.ec U):=.put k.dg aH
theorem atX(k:dr B h a1 m)(he:h c6=some (na op dk ds (ab none 0 0) 0))(a b:Int)(c:0<=a)(d:a<m.x.dg.length):Fn aD 79 #[bY a1,.agg #[w,R a,R b],bY c6] h λ_ aa=>oB B a1 c6 op dk ds {m.x with dg:=m.x.dg.set a.toNat b} 0 aa:=by
 exact bU azX rfl (.hp _ (b1 k.box rfl) (.mk ⟨m.ec,0,none⟩ rfl c d (.hp m.ec (0+a.toNat*1) 3 (m.x.dg.map R) ((m.x.dg.set a.toNat b).map R) (by rw[add_lit]) k.dg (I7 I b) (.ag ⟨B,_,none,0,0,λ_=>⟨rfl,rfl,rfl⟩,J.le_refl _,k.ajC (m.x.dg.set a.toNat b) bc,rfl,kA.dg k _ _ _ he⟩))))
theorem apf(k:dr B h a1 m)(he:h c6=some (na op dk ds (ab none 0 0) 0))(a b:Int)(e:0<=a)(f:a.toNat<m.x.dg.length)(n:0<=b/\b<=1000000):Fn aD 80 #[bY a1,.agg #[w,R a,R b],bY c6] h λ_ aa=>oB B a1 c6 op dk ds {m.x with dg:=m.x.dg.set a.toNat (oz (m.x.dg[a.toNat]-1)),next:=if 0<oz (m.x.dg[a.toNat]-1)then b-1 else m.x.next} 0 aa:=by
 refine bU azZ rfl ?_;have d:=k.ajC (m.x.dg.set a.toNat (oz (m.x.dg[a.toNat]-1))) bc;have g:=kA.dg k (hP (m.x.dg.set a.toNat (oz (m.x.dg[a.toNat]-1)))) _ _ he;have jW:=k.abd f;refine ay λs l p=>l _ _ _ (ay λt j o=>.hp _ (b1 k.box rfl) (.mk ⟨m.ec,0,none⟩ rfl e I (.hp _ jW (.wrap (.mk ⟨m.ec,0,none⟩ rfl e I (.hp m.ec (0+a.toNat*1) 3 (m.x.dg.map R) ((m.x.dg.set a.toNat (oz (m.x.dg[a.toNat]-1))).map R) (by rw[add_lit]) k.dg (I7 f _) ?_))))));have c2:=d.abd (c:=a.toNat) (by simp only[fI];exact f);simp only[JQ]at c2;refine j _ _ _ (ay λu i r=>.hp _ (b1 d.box rfl) (.mk ⟨m.ec,0,none⟩ rfl e (by simp only[fI];omega) (.hp _ c2 (i _ _ _ (aW (λq=>?_) (λq=>?_))))));rw[aS I];exact .bl (.hp a1 9 115 _ ({m with x:={m.x with dg:=m.x.dg.set a.toNat (oz (m.x.dg[a.toNat]-1)),next:=b-1}}:fx).cells rfl d.box rfl (.ag ⟨B,_,none,0,0,λ_=>⟨rfl,rfl,rfl⟩,J.le_refl _,d.QW (b-1) m.x.eU,rfl,kA.B9 d _ _ _ g⟩));rw[aC I];exact .ag ⟨B,_,none,0,0,λ_=>⟨rfl,rfl,rfl⟩,J.le_refl _,d,rfl,g⟩
theorem aqN(k:dr B h a1 m)(he:h c6=some (na op dk ds (ab none 0 0) 0))(d:B c6=none)(hp:0<=m.x.eU/\m.x.eU<=1000000000):Fn aD 78 #[bY a1,.agg #[w,R 0,R 0],bY c6] h λ_ aa=>if m.x.hand=[]then oB B a1 c6 op dk ds {m.x with eU:=m.x.eU+1,next:= -1} 1 aa else oB B a1 c6 op dk ds m.x 4 aa:=by
 refine bU azW rfl (ay λr l o=>l _ _ _ (ay λs j n=>ay λt i p=>.hp _ (b1 k.box rfl) (i _ _ _ (aW (λq=>?_) (λq=>?_)))));have c:¬m.x.hand=[]:=λe=>by rw[e]at q;simp at q
 refine .hp c6 4 113 _ [R op,bC .u8 dk,R ds,ab none 0 0,bC .u8 (4:Nat)] rfl he rfl (n _ _ _ _ nofun (.ag ?_));show(if m.x.hand=[]then _ else _);rw[aC c];exact⟨B,m,none,0,0,λ_=>⟨rfl,rfl,rfl⟩,J.le_refl _,k.nT he d _,rfl,J.b8 _ _ _⟩;have c:m.x.hand=[]:=y7 I;refine j _ _ _ (.hp c6 4 113 _ [R op,bC .u8 dk,R ds,ab none 0 0,bC .u8 (1:Nat)] rfl he rfl ?_);have a:=k.nT he d (bb [R op,bC .u8 dk,R ds,ab none 0 0,bC .u8 (1:Nat)].toArray 113 (0,0));have g:=J.b8 h c6 (bb [R op,bC .u8 dk,R ds,ab none 0 0,bC .u8 (1:Nat)].toArray 113 (0,0));generalize h.put c6 _=h1 at a g;refine .hp (R m.x.eU) (b1 a.box rfl) (.bl (.hp a1 10 115 _ ({m with x:={m.x with eU:=m.x.eU+1}}:fx).cells rfl a.box rfl ?_));have b:=a.QW m.x.next (m.x.eU+1);have f:=kA.B9 a (bb ({m with x:={m.x with eU:=m.x.eU+1}}:fx).cells.toArray 115 (0,0)) _ _ g;generalize h1.put a1 _=ae at b f;refine .hp a1 9 115 _ ({m with x:={m.x with next:= -1,eU:=m.x.eU+1}}:fx).cells rfl b.box rfl (.ag ?_);show(if m.x.hand=[]then _ else _);rw[aS c];exact⟨B,_,none,0,0,λ_=>⟨rfl,rfl,rfl⟩,J.le_refl _,b.QW (-1) (m.x.eU+1),rfl,kA.B9 b _ _ _ f⟩
end
section
variable {B h:J}{a1:Nat}{m:fx}
theorem dr.ath(k:dr B h a1 m){off:Nat}(aK:m.aK=some ⟨b,off,none⟩){U:Obj}(f:kn (h.put b U) m.aK m.x.hand m.av):dr B (h.put b U) a1 m/\kA h (h.put b U):=by
 have r:=k.hand;rw[aK]at r;obtain⟨be,av⟩:=r.ty;simp only at av;have a:=k.qg _ aK;simp only at a;have s:Bc B h a1 m 3 b U:=k.stay av a;have bin:b∈jm m.aK:=by rw[aK];exact G' _
 obtain⟨l,g,i,j⟩:=k.HC;have sp:=k.sep;rw[jb,jb,qP]at sp;refine⟨⟨s.le,k.so,s.box aH,s.mem (λe=>i (by rw[e];exact bin)),k.pR,s.nP aH,k.uO,s.cZ (eN k.cZ av aH),k.ut,k.sr,k.rH,s.wr (eN k.wr av aH),k.vb,k.n0,s.ky λd c q=>sp.2.2.2.2 b bin b (sg.2 ⟨d,c,q⟩) rfl,k.r9,k.qZ,k.ops,k.nv,k.k3,k.uh,s.cV aH,k.uJ,s.dg (λe=>g (by rw[e];exact bin)),k.uk,f,k.qg,k.sep⟩,.put av aH⟩
theorem dr.adG(k:dr B h a1 m)(l:List Int)(A:Option aE)(c:Nat){U:Obj}(H:U=bb ({m with x:={m.x with hand:=l},aK:=A,av:=c}:fx).cells.toArray 115 (0,0))(j:(h.put a1 U).le aT)(r:bw aT 3 1 A l.length c (l.map R))(f:∀g,A=some g->(h.put a1 U) g.block=none):dr B aT a1 {m with x:={m.x with hand:=l},aK:=A,av:=c}:=by
 have s:Bc B h a1 m 115 a1 U:=k.stay k.box k.so;have u:∀{o:Nat}{be:Array aA}{t:Nat},h o=some (bb be t (0,0))->t≠115->o≠a1:=λv K=>eN v k.box K;have D:=s.ky λd p q=>by
  obtain⟨g,n,e⟩:=nR q;have r:=k.ky d p;rw[n]at r;obtain⟨bj,z⟩:=r.ty;exact u z aH e
 have C:=s.mem (u k.mem aH);have jW:=s.dg (u k.dg aH);refine⟨J.le_trans s.le j,k.so,by rw[j _ _ (J.b8 _ _ _),H],j _ _ C,k.pR,(s.nP aH).mono j,k.uO,j _ _ (s.cZ (u k.cZ aH)),k.ut,k.sr,k.rH,j _ _ (s.wr (u k.wr aH)),k.vb,k.n0,λd p=>(D d p).mono j,k.r9,k.qZ,k.ops,k.nv,k.k3,k.uh,λi h1 ae=>(s.cV aH i h1 ae).up j,k.uJ,j _ _ jW,k.uk,?_,λg n=>J.none_le s.le (f g n),?_⟩;cases A with
 |none=>
  obtain⟨G,⟨_,F,L⟩|⟨b,be,q,_⟩⟩:=r;rw[fj]at G;exact bQ ⟨rfl,y7 F,L⟩;cases q
 |some g=>
  obtain⟨b,au,rfl,w,M,E,av,_⟩:=r.split;have lc:(l.map R++au).length=c:=by simp only[fb,fj,M];omega
  refine ba ⟨b,0,l.map R++au,rfl,w,?_,λ_=>by rw[lc];exact dZ _,cU _,E,by rw[lc];exact av⟩;rw[ams,<-fj (f:=R),A5]
 have sp:=k.sep;rw[jb,jb,qP]at sp⊢;obtain⟨s1,s2,P,N,O⟩:=sp;simp only[ez,eI,not_or]at s1 s2⊢;have y:∀o∈jm A,(h.put a1 U) o=none:=λo v=>by
  obtain⟨g,n,e⟩:=nR v;rw[<-e];exact f g n
 refine⟨⟨s1.1,λq=>?_,s1.2.2⟩,⟨λq=>?_,s2.2⟩,?_,N,λa I b w e=>?_⟩;have:=y _ q;rw[C]at this;cases this;have:=y _ q;rw[jW]at this;cases this;cases A<;>simp[jm];subst e;obtain⟨d,p,q⟩:=sg.1 w;obtain⟨g,n,e⟩:=nR q;have r:=D d p;rw[n]at r;obtain⟨bj,z⟩:=r.ty;have:=y _ I;rw[<-e,z]at this;cases this
theorem aac(k:dr B h a1 m){S:List aA->Prop}{L:List LE}{K:aN->List LE->J->Prop}{aI:List Int}(j:S (aI.map R))(z:aI.length=n)(am:0<n)(al:m.x.hand.length+n<=100000)(q:∀aa,dr B aa a1 m->kA h aa->kn aa m.aK (m.x.hand++aI) m.av->K (.v (ab m.aK (m.x.hand.length+n) m.av)) L aa)(l:∀bo bj,K (.v (ab bo (m.x.hand.length+n) bj)) (L++[.row 3 1 bo (m.x.hand.length+n) bj ((m.x.hand++aI).map R)]) h):Ey 3 1 8 m.aK m.x.hand.length m.av n S L h K:=by
 have c1:∀u∈aI.map R,u.oneCell'=true:=λu hu=>by obtain⟨x,_,rfl⟩:=cO.1 hu;rfl
 have kJ:m.x.hand.length+n<=eQ:=by unfold eQ;omega
 have hk:=k.hand;rcases hk with⟨a,c,e⟩|⟨b,off,be,a,c,e,g,y,s,A⟩;refine .fresh (aI.map R) a (by rw[c];rfl) e j c1 I I λbo bj _=>?_;have:=l bo bj;rw[c]at this;simpa using this;have r:∀o u,(m.x.hand.map R)[o]?=some u->be[off+o]?=some u:=λo u d=>by
  rw[<-e,G7]at d;split at d;rwa[CE]at d;cases d
 have t:be=be.take (off+m.x.hand.length)++((be.drop (off+m.x.hand.length)).take n++(be.drop (off+m.x.hand.length)).drop n):=by
  rw[Ha,Ha]
 refine .mem b off be (be.take (off+m.x.hand.length)++(aI.map R++(be.drop (off+m.x.hand.length)).drop n)) (aI.map R) (m.x.hand.map R) a c j c1 am (by rw[fj,e4]) r (λav=>?_) kJ I (λav=>?_) (λav p bj _=>?_);have g:=g I;have lt:(be.take (off+m.x.hand.length)).length=off+m.x.hand.length*1:=by rw[mV];omega
 have:=WU ((be.drop (off+m.x.hand.length)).take n) (aI.map R) ((be.drop (off+m.x.hand.length)).drop n) (by rw[fj,mV,mU];omega) (be.take (off+m.x.hand.length));rw[<-t,lt]at this;exact this;have i:∀(w:List Int),w=m.x.hand\/w=m.x.hand++aI->kn (h.put b (bb (be.take (off+m.x.hand.length)++(aI.map R++(be.drop (off+m.x.hand.length)).drop n)).toArray 3 (0,0))) m.aK w m.av:=by
  intro w hw;have g:=g I;refine ba ⟨b,off,_,a,J.b8 _ _ _,?_,λ_=>?_,?_,?_,?_⟩;have c4:(be.take (off+m.x.hand.length)++(aI.map R++(be.drop (off+m.x.hand.length)).drop n)).drop off=m.x.hand.map R++(aI.map R++(be.drop (off+m.x.hand.length)).drop n):=by
   rw[Zi (by rw[mV];omega),Zj,CJ,e]
  rw[c4];rcases hw with rfl|rfl;rw[<-fj (f:=R),A5];rw[<-mg,<-fw,<-fj (f:=R),A5];simp only[fb,mV,fj,mU];omega;simp only[fb,mV,fj,mU];omega;rcases hw with rfl|rfl;exact s;rw[fb];omega;simp only[fb,mV,fj,mU];omega
 obtain⟨m1,m2⟩:=k.ath a (i _ (bQ rfl));exact q _ m1 m2 (i _ (ba rfl));have:=l (some p) bj;rw[fw]at this;exact this
end
theorem Xg(h:J) U d(e:a≠b):(h.put a U).put b d=(h.put b d).put a U:=by
 funext o;simp only[J.put];by_cases c:o=b;subst c;rw[aS rfl,aC (eh e),aS rfl];rw[aC c,aC c]
section
variable {B h:J}{a1:Nat}{m:fx}
def u7(x:fK)(a:Nat)(l:lb)(n:Nat):fK:={x with lines:=x.lines.set a ⟨l.base,l.size,(l.at_+n)%l.size,l.br-n⟩,hand:=x.hand++u9 x.mem l.base l.size l.at_ n}
theorem aaT a b c n:(l6 a b c n).length=n:=by simp[l6]
theorem Jr mem a b c n:(u9 mem a b c n).length=n:=by simp[u9,aaT]
theorem aGq(k:dr B h a1 m)(he:h c6=some (na op dk ds (ab none 0 0) 0))(E:B c6=none)(a n:Nat)(l:lb)(y:a<m.x.lines.length)(z:m.x.lines[a]=l)(Z:0<=l.base)(an:l.br<=l.size)(tv:l.base+l.size<=m.x.mem.length)(hm:m.x.mem.length<=100000)(nI:0<=l.at_/\l.at_<=100000)(T:0<=l.br/\l.br<=100000)(cR:1<=n)(Y:n<=1000)(bP:m.x.hand.length<=1000):Fn aD 81 #[bY a1,.agg #[w,R a,R n],bY c6] h λ_ aa=>if l.br<n\/64<m.x.hand.length+n then oB B a1 c6 op dk ds m.x 4 aa else oB B a1 c6 op dk ds (u7 m.x a l n) 0 aa:=by
 obtain⟨ks,P,K⟩:=k.IH y;rw[z]at K;refine bU afS rfl ?_;have f133:=asl k n I ⟨I,I⟩;refine ay λfD cQ eT=>cQ _ _ _ (ay λfy cM d9=>.hp (ab m.fg m.x.lines.length m.lc) (b1 k.box rfl) (.mk ⟨ks,0,none⟩ P I I (cM _ _ _ ?_)));have W:(⟨ks,0,none⟩:aE).add (a*4)=⟨ks,a*4,none⟩:=by rw[add_lit,dZ]
 rw[bn,W];have u:∀(e:cg)(Q:mi),[2].map e=[.v (bY c6)]->(∀e L,Q .ret e L (h.put c6 (na op dk ds (ab none 0 0) 4)))->dq aD 56 (.seq (.ck axM) .ret) Q e [.own [.v w,.v (R a),.v (R n)] 66] h:=by
  intro e Q t cF;rw[<-fi [2] e,t];exact .hp c6 4 113 _ [R op,bC .u8 dk,R ds,ab none 0 0,bC .u8 (4:Nat)] rfl he rfl (cF _ _)
 have O:oB B a1 c6 op dk ds m.x 4 (h.put c6 (na op dk ds (ab none 0 0) 4)):=⟨B,m,none,0,0,λ_=>⟨rfl,rfl,rfl⟩,J.le_refl _,k.nT he E _,rfl,J.b8 _ _ _⟩;refine ay λfz cL F=>ay λfE D dH=>.hp (R l.br) (K 3 _ rfl) ?_;conv=>whnf
 by_cases s:l.br<n;rw[hr s];refine D _ _ _ (qJ rfl (λ_=>?_) nofun);refine u _ _ rfl λe L=>F _ _ _ _ nofun ?_;conv=>whnf
 refine .ag ?_;show(if l.br<n\/64<m.x.hand.length+n then _ else _);rw[aS (bQ s)];exact O;rw[jn s];have p:=aD4 k P y z n Z I tv hm nI T Y;refine .mk _ f133 (λv aa q=>by rw[q.2];exact J.le_refl _) ?_;rintro _ j2 ⟨rfl,ex⟩;rw[ex];refine D _ _ _ ?_;refine qJ rfl (λq=>?_) (λq=>?_);refine u _ _ rfl λe L=>F _ _ _ _ nofun (.ag ?_);show(if l.br<n\/64<m.x.hand.length+n then _ else _);rw[aS (ba (by have:=uX q;omega))];exact O;have S:¬(l.br<n\/64<m.x.hand.length+n):=by have:=Ag q;omega
 refine cL _ _ _ (ay λgF du gN=>.ag (.mk _ p ?_));rintro _ h1 ⟨V,C,hB,g5,i,g,rfl,H,bG,d,qG⟩;have j:=V _ _ he;have f:∀{A:Option aE}{c:Nat},over ({m with x:={m.x with lines:=m.x.lines.set a ⟨l.base,l.size,(l.at_+n)%l.size,l.br-n⟩}}:fx).cells 8 [ab A (m.x.hand.length+n) c]=some ({m with x:=u7 m.x a l n,aK:=A,av:=c}:fx).cells:=by
  intro A c;show some _=some _;simp only[fx.cells,u7,fb,Jr]
 have M:=bG _ _ he E;refine du _ _ _ (ay λgL G gG=>.hp (ab m.aK m.x.hand.length m.av) (b1 d.box rfl) (.ag (aac d (aI:=u9 m.x.mem l.base l.size l.at_ n) (by rw[<-yd];exact(qG.mono d.le).src _) (Jr _ _ _ _ _) I (by simp only;omega) (λae b U X=>?_) (λbo bj=>?_))));have t:=U _ _ j;have fs:=b.MD _ m.aK m.av X b.qg b.sep;have N:=kA.B9 b (bb ({m with x:=u7 m.x a l n}:fx).cells.toArray 115 (0,0)) _ _ t;refine .hp a1 8 115 _ ({m with x:=u7 m.x a l n}:fx).cells rfl b.box f (G _ _ _ (.hp c6 3 113 _ [R op,bC .u8 dk,R ds,ab i n g,bC .u8 (0:Nat)] rfl N rfl (.ag ?_)));show(if l.br<n\/64<m.x.hand.length+n then _ else _);rw[aC S];exact⟨C,_,i,n,g,λq=>absurd q aH,H,fs.nT N M _,rfl,J.b8 _ _ _⟩;refine .hp a1 8 115 _ ({m with x:=u7 m.x a l n,aK:=bo,av:=bj}:fx).cells rfl d.box f ?_;have o:a1≠c6:=eN d.box j aH;refine G _ _ _ (.hp c6 3 113 _ [R op,bC .u8 dk,R ds,ab i n g,bC .u8 (0:Nat)] rfl (by rw[J.cD _ _ (eh o)];exact j) rfl (.b5 1 3 1 bo _ bj _ rfl λaT r fC f4=>.ag ?_));show(if l.br<n\/64<m.x.hand.length+n then _ else _);rw[aC S];rw[Xg _ _ _ o]at r f4;have b:=(d.nT j M (bb [R op,bC .u8 dk,R ds,ab i n g,bC .u8 (0:Nat)].toArray 113 (0,0))).adG (m.x.hand++u9 m.x.mem l.base l.size l.at_ n) bo bj rfl r (by rw[fb,Jr];exact fC) f4;exact⟨C,_,i,n,g,λq=>absurd q aH,H,b,rfl,r _ _ (by rw[J.cD _ _ (eh o)];exact J.b8 _ _ _)⟩
end
def oj:List Int->List Int->List Int->List Int
 |mem,c::cs,t::ep=>oj (mem.set c.toNat t) cs ep
 |mem,_,_=>mem
theorem LR:∀cs mem ep,(oj mem cs ep).length=mem.length
 |[],mem,_=>rfl
 |c::cs,mem,[]=>rfl
 |c::cs,mem,t::ep=>by rw[oj,LR cs];simp
section
variable {B h:J}{a1:Nat}{m:fx}
theorem aAo(k:dr B h a1 m) Q(e:cg) gW w c js D f n dc base size s(F:bg h 1 c n (gi (l6 base size s n)))(j:bg h 1 js n (gi dc))(d:∀g,c=some g->0<n->g.block≠m.eE)(H:∀g,js=some g->0<n->g.block≠m.eE)(Z:0<=base)(an:1<=size)(tv:base+size<=m.x.mem.length)(Y:n<=1000)(he:[0,1,2,7,18,19,20].map e=[.v (bY a1),.v gW,.v (ab js n f),.v w,.v (ab c n D),.v (R n),.v (R (0:Nat))])(M:∀e,[0,1,2,7].map e=[.v (bY a1),.v gW,.v (ab js n f),.v w]->Q (.exit 0) e [] (h.put m.eE (hP (oj m.x.mem (l6 base size s n) dc)))):jk (λQ e L h=>dq aD 45 awp Q e L h) Q e [] h:=by
 have al:dc.length=n:=by simpa using j.len
 refine .mk (Nat×List Int) [0,1,2,7,18,19,20] (λ(o,_)=>[.v (bY a1),.v gW,.v (ab js n f),.v w,.v (ab c n D),.v (R n),.v (R o)]) (λ_=>[]) (λ(o,mem) aa=>aa=h.put m.eE (hP mem)/\o<=n/\mem.length=m.x.mem.length/\oj mem ((l6 base size s n).drop o) (dc.drop o)=oj m.x.mem (l6 base size s n) dc) (λ(o,_)=>n-o) (0,m.x.mem) (λ_=>rfl) ⟨(tT k.mem).symm,cU _,rfl,rfl⟩ he rfl ?_;rintro⟨o,mem⟩ e aa ⟨ex,hk,l,hm⟩;rw[ex];have A:=k.ajE mem l;refine ay λgL O gG=>O _ _ _ (ay λjl N V=>aW (λq=>?_) (λq=>?_));obtain⟨g,y⟩:=F.b4 I;obtain⟨g2,C⟩:=j.b4 I;have av:(l6 base size s n)[o]?=some (base+(s+o)%size):=SZ I;have u:o<dc.length:=I;have p:=(F.D0 (U:=hP mem) d).one y (i:=o) (r:=[R (base+(s+o)%size)]) (by unfold gi;rw[de,av];rfl) rfl;have E:=(j.D0 (U:=hP mem) H).one C (i:=o) (r:=[R dc[o]]) (by unfold gi;rw[de,bK u];rfl) rfl;have vN:=RP (s+o) (b:=size) I;have sG:=RO (s+o) (b:=size) I;obtain⟨X,P⟩:=List.getElem?_eq_some_iff.1 av;rw[l1 X,l1 u,P,oj]at hm;have t:0<=base+(s+(o:Int))%size:=I;have G:base+(s+(o:Int))%size<m.x.mem.length:=I;generalize base+(s+(o:Int))%size=z at p t G hm;generalize dc[o]=a at E hm;exact N _ _ _ (ay λkd S j3=>ew λjU hc W=>ay λkQ T kH=>.m g y (.hp (R z) (by rw[bn];exact p) (T _ _ _ (.hp _ (b1 A.box rfl) (.m g2 C (.hp (R a) (by rw[bn];exact E) (.mk ⟨m.eE,0,none⟩ rfl t (by simp only;omega) (.hp m.eE (0+z.toNat*1) 3 (mem.map R) ((mem.set z.toNat a).map R) (by rw[add_lit]) A.mem (I7 I a) (W _ _ _ _ nofun (S _ _ _ (.bl (⟨(o+1,mem.set z.toNat a),rfl,rfl,⟨tS _ _ _ _,I,by rw[fI];exact l,hm⟩,by show n- (o+1)<n-o;omega⟩))))))))))));refine V _ _ _ _ nofun ?_;obtain rfl:o=n:=by omega
 have J:(l6 base size s o).drop o=[]:=py (by rw[aaT];exact dM _);rw[J]at hm;have K:oj mem [] (dc.drop o)=mem:=rfl;rw[K]at hm;rw[hm];exact M _ rfl
theorem aAl(k:dr B h a1 m)(r:m.fg=some ⟨ks,0,none⟩)(i:a<m.x.lines.length){size at_ br:Int}(j:m.x.lines[a]=⟨base,size,at_,br⟩)(js:Option aE)(A n:Nat)(dc:List Int)(U:bg h 1 js n (gi dc))(G:∀g,js=some g->0<n->g.block≠m.eE)(y:0<=base)(z:1<=size)(Z:base+size<=m.x.mem.length)(hm:m.x.mem.length<=100000)(Y:0<=at_/\at_<=100000)(C:0<=br/\br<=100000)(w:n<=1000):Fn aD 135 #[bY a1,gR (some ⟨ks,a*4,none⟩),ab js n A] h λv aa=>kA h aa/\∃q u' c,v=ab u' n c/\B.le q/\AY B h q/\dr q aa a1 {m with x:={m.x with mem:=oj m.x.mem (l6 base size (at_+br) n) dc,lines:=m.x.lines.set a ⟨base,size,at_,br+n⟩}}:=by
 obtain⟨H,e,d⟩:=k.IH i;rw[r]at e;injection e with e;injection e with e;subst e;rw[j]at d;refine bU afF rfl (ay λfD N eT=>N _ _ _ (ay λfy M d9=>.hp (R br) (d 3 _ rfl) (.ag (.mk _ (aaR ⟨ks,a*4,none⟩ base size at_ br n h (by have:=d 0 _ rfl;rwa[add_zero]at this) (d 1 _ rfl) (d 2 _ rfl) ⟨y,I⟩ (λ_=>z) I Y C w) ?_))));rintro _ h1 ⟨f,s,c,rfl,F,D⟩;have p:=k.grow f;refine M _ _ _ (ay λfz L eZ=>ay λfE O dH=>O _ _ _ (ew λT P gN=>.jG (.ag (aAo p T _ (gR (some ⟨ks,a*4,none⟩)) (ab s n c) s js c A n dc base size (at_+br) F.one (U.mono f) (λg J _ e=>?_) G y z Z w rfl λe he=>?_))));have:=D g J;rw[e,k.mem]at this;cases this;refine P _ _ _ (L _ _ _ ?_);rw[<-fi [0,1,2,7] e,he];have l:=p.ajE (oj m.x.mem (l6 base size (at_+br) n) dc) (LR _ _ _);have t:kA h1 (h1.put m.eE (hP (oj m.x.mem (l6 base size (at_+br) n) dc))):=.put p.mem aH;generalize h1.put m.eE _=ae at l t;obtain⟨H,b,u⟩:=l.IH (a:=a) i;simp only at b;rw[r]at b;injection b with b;injection b with b;subst b;simp only[j]at u;refine ay λgL Q gG=>.hp (R br) (u 3 _ rfl) (.bl ?_);obtain⟨K,E,V,W,X,S⟩:=l.V4 r (a:=a) i (o:=3) aH (x:=⟨base,size,at_,br+n⟩) (v:=R (br+n)) (by simp only[j];rfl);exact .hp ks (a*4+3) 152 K E (by rw[add_lit]) V W (Q _ _ _ (.ag ⟨((kA.of_le f).trans t).trans X,_,s,c,rfl,By k.le f,.grow,S⟩))
end
theorem kn.dK(x:kn h A l c):bg h 1 A l.length (gi l)/\l.length<=c:=by
 rcases x with⟨rfl,rfl,rfl⟩|⟨b,off,be,rfl,k,e,_,_,av,_⟩;exact⟨bg.nil _ _ _,dM _⟩;refine⟨⟨by simp[gi],λr a=>by obtain⟨z,_,rfl⟩:=cO.1 a;rfl,λ_=>⟨_,rfl⟩,λg j i r a o v d=>?_⟩,av⟩;injection j with j;subst j;unfold gi at a;rw[de]at a;cases f:l[i]?with
 |none=>rw[f]at a;cases a
 |some z=>
  rw[f]at a;injection a with a;subst a;cases o with
  |succ o=>cases d
  |zero=>
   injection d with d;subst d;have ae:(l.map R)[i]?=some (R z):=by rw[de,f];rfl
   rw[<-e,G7]at ae;split at ae;rw[CE]at ae;rw[add_lit,e4,Nat.add_zero];unfold J.cell?;simp only[k,Option.isSome_none,Bool.false_eq_true,nk,List.getElem?_toArray];exact ae;cases ae
theorem kn.drop{h:J}{A xE:Option aE}{l:List Int}{c k:Nat}(x:kn h A l c)(hk:k<=l.length)(h1:k<c->xE=A.map (·.add (k*1)))(ae:k=c->xE=A):kn h xE (l.drop k) (c-k)/\jm xE=jm A:=by
 rcases x with⟨rfl,rfl,rfl⟩|⟨b,off,be,rfl,a,e,f,i,av,hm⟩;have j:k=0:=by simpa using hk
 subst j;rw[ae rfl];exact⟨bQ ⟨rfl,rfl,rfl⟩,rfl⟩;by_cases q:k<c;rw[h1 q,si,add_lit,e4];refine⟨ba ⟨b,off+k,be,rfl,a,?_,λ_=>?_,?_,?_,hm⟩,rfl⟩;rw[mU,<-List.drop_drop,Nk,<-e,Zj];have:=f I;omega;have:=f I;omega;rw[mU];omega;have g:k=c:=I;rw[ae g];have d:l.drop k=[]:=py I;refine⟨ba ⟨b,off,be,rfl,a,by rw[d];rfl,λda=>I,i,by rw[d];exact cU _,hm⟩,rfl⟩
theorem MG{xE:Option aE}(h1:0<c->xE=A.map (·.add (0*1)))(ae:0=c->xE=A):xE=A:=by
 by_cases q:0<c;rw[h1 q];cases A with
 |none=>rfl
 |some g=>simp[add_zero]
 exact ae I
section
variable {B h:J}{a1:Nat}{m:fx}
def w4(x:fK)(a:Nat)(l:lb)(n:Nat):fK:={x with mem:=oj x.mem (l6 l.base l.size (l.at_+l.br) n) (x.hand.take n),lines:=x.lines.set a ⟨l.base,l.size,l.at_,l.br+n⟩,hand:=x.hand.drop n}
theorem asx(k:dr B h a1 m)(he:h c6=some (na op dk ds (ab none 0 0) 0))(z:B c6=none)(a n:Nat)(l:lb)(t:a<m.x.lines.length)(u:m.x.lines[a]=l)(P:0<=l.base)(tv:l.base+l.size<=m.x.mem.length)(hm:m.x.mem.length<=100000)(nI:0<=l.at_/\l.at_<=100000)(G:0<=l.br/\l.br<=100000)(cR:1<=n)(O:n<=1000)(bP:m.x.hand.length<=1000):Fn aD 84 #[bY a1,.agg #[w,R a,R n],bY c6] h λ_ aa=>if m.x.hand.length<n\/l.size<l.br+n then oB B a1 c6 op dk ds m.x 4 aa else oB B a1 c6 op dk ds (w4 m.x a l n) 0 aa:=by
 obtain⟨ks,E,p⟩:=k.IH t;rw[u]at p;refine bU afT rfl (ay λfD cQ eT=>cQ _ _ _ (ay λfy Z d9=>.hp (ab m.fg m.x.lines.length m.lc) (b1 k.box rfl) (.mk ⟨ks,0,none⟩ E I I (Z _ _ _ ?_))));have N:(⟨ks,0,none⟩:aE).add (a*4)=⟨ks,a*4,none⟩:=by rw[add_lit,dZ]
 rw[bn,N];have s:∀(e:cg)(Q:mi),[2].map e=[.v (bY c6)]->(∀e L,Q .ret e L (h.put c6 (na op dk ds (ab none 0 0) 4)))->dq aD 66 (.seq (.ck axP) .ret) Q e [.own [.v w,.v (R a),.v (R n)] 66] h:=by
  intro e Q c X;rw[<-fi [2] e,c];exact .hp c6 4 113 _ [R op,bC .u8 dk,R ds,ab none 0 0,bC .u8 (4:Nat)] rfl he rfl (X _ _)
 have D:oB B a1 c6 op dk ds m.x 4 (h.put c6 (na op dk ds (ab none 0 0) 4)):=⟨B,m,none,0,0,λ_=>⟨rfl,rfl,rfl⟩,J.le_refl _,k.nT he z _,rfl,J.b8 _ _ _⟩;refine ay λfz Y A=>ay λfE y dH=>.hp (ab m.aK m.x.hand.length m.av) (b1 k.box rfl) ?_;conv=>whnf
 by_cases e':m.x.hand.length<n;rw[hr I];refine y _ _ _ (qJ rfl (λ_=>?_) nofun);refine s _ _ rfl λe L=>A _ _ _ _ nofun ?_;conv=>whnf
 refine .ag ?_;show(if m.x.hand.length<n\/l.size<l.br+n then _ else _);rw[aS (bQ e')];exact D;rw[jn I];refine .hp (R l.br) (p 3 _ rfl) (.bl (.hp (R l.size) (by rw[add_zero];exact p 1 _ rfl) (y _ _ _ (qJ rfl (λq=>?_) (λq=>?_)))));refine s _ _ rfl λe L=>A _ _ _ _ nofun (.ag ?_);show(if m.x.hand.length<n\/l.size<l.br+n then _ else _);rw[aS (ba (uX q))];exact D;have yq:¬(m.x.hand.length<n\/l.size<l.br+n):=by have:=Ag q;omega
 obtain⟨U,M⟩:=k.hand.dK;have S:1<=l.size:=I;have i:=aAl k E t u m.aK m.av n (m.x.hand.take n) (by unfold gi;rw[G8];exact U.take I) (λg j _ e=>k.HC.2.2.1 (by rw[<-e];exact om j)) P S tv hm nI G O;refine Y _ _ _ (ay λgF du gN=>.hp (ab m.aK m.x.hand.length m.av) (b1 k.box rfl) (.mk 0 n rfl rfl I I λo1 mo r=>?_));rw[MG mo r];refine .ag (.mk _ i ?_);rintro _ h1 ⟨K,dC,f,d,rfl,hd,bG,cz⟩;have C:=K _ _ he;have lF:=bG _ _ he z;refine .hp c6 3 113 _ [R op,bC .u8 dk,R ds,ab f n d,bC .u8 (0:Nat)] rfl C rfl ?_;have b:=cz.nT C lF (bb [R op,bC .u8 dk,R ds,ab f n d,bC .u8 (0:Nat)].toArray 113 (0,0));have c:=J.b8 h1 c6 (bb [R op,bC .u8 dk,R ds,ab f n d,bC .u8 (0:Nat)].toArray 113 (0,0));generalize h1.put c6 _=ae at b c;refine du _ _ _ (.hp (ab m.aK m.x.hand.length m.av) (b1 b.box rfl) (.mk n m.x.hand.length rfl rfl I M λo r H=>?_));obtain⟨T,F⟩:=b.hand.drop (xE:=o) (k:=n) (by simp only;omega) r H;have fs:=b.MD (m.x.hand.drop n) o (m.av-n) T (λg j=>by
  have q:g.block∈jm m.aK:=by rw[<-F];exact om j
  obtain⟨V,W,e⟩:=nR q;rw[<-e];exact b.qg V W) (by have:=b.sep;simp only at this⊢;rw[F];exact this)
 refine .hp a1 8 115 _ ({m with x:=w4 m.x a l n,aK:=o,av:=m.av-n}:fx).cells rfl b.box ?_ ?_;show some _=some _;simp only[fx.cells,w4,mU];refine .ag ?_;show(if m.x.hand.length<n\/l.size<l.br+n then _ else _);rw[aC yq];exact⟨dC,_,f,n,d,λq=>absurd q aH,hd,fs,rfl,kA.B9 b _ _ _ c⟩
end
def kp:List Int->List Int->List (List Int)
 |_,[]=>[]
 |l,r::rs=>l.take r.toNat::kp (l.drop r.toNat) rs
def Kw:List Int->List Int->Prop
 |_,[]=>True
 |l,r::rs=>0<=r/\r<=l.length/\Kw (l.drop r.toNat) rs
theorem bw.h6{bG:Nat}{h aa:J}{bF size n c:Nat}{A:Option aE}{xs:List aA}(r:bw h bF size A n c xs)(le:J.h6 bG h aa)(e:∀g,A=some g->g.block≠bG):bw aa bF size A n c xs:=by
 obtain⟨h1,ae⟩:=r;refine⟨h1,?_⟩;rcases ae with ae|⟨b,be,a,d,f⟩;exact bQ ae;exact ba ⟨b,be,a,le _ _ (e _ a) d,f⟩
theorem kn.h6{bG:Nat}{h aa:J}{A:Option aE}{l:List Int}{c:Nat}(x:kn h A l c)(le:J.h6 bG h aa)(e:∀g,A=some g->g.block≠bG):kn aa A l c:=by
 rcases x with x|⟨f,off,be,a,b,d⟩;exact bQ x;exact ba ⟨f,off,be,a,le _ _ (e _ a) b,d⟩
section
variable {B h:J}{a1:Nat}{m:fx}
theorem dr.uv(k:dr B h a1 m)(s:a<m.a'.length)(C:a<m.x.f'.length){p:gK}(le:J.h6 m.a'[a].2 h aa)(A:iE (B.grow h aa) aa m.a'[a].1 m.a'[a].2 p):dr (B.grow h aa) aa a1 {m with x:={m.x with f':=m.x.f'.set a p}}:=by
 have w:=k.cV a s C;obtain⟨z,hk⟩:=w.ty;have D:=EY m.x.f'[a].tag;have ne:∀{o:Nat}{be:Array aA}{t:Nat},h o=some (bb be t (0,0))->t<298->o≠m.a'[a].2:=λc v=>eN c hk I;have et:∀{o:Nat}{be:Array aA}{t:Nat},h o=some (bb be t (0,0))->t<298->aa o=some (bb be t (0,0)):=λc v=>le _ _ (ne c v) c;have jM:B.le (B.grow h aa):=λo U c=>by
  unfold J.grow;rw[J.mQ (S:=λo=>B o≠none\/h o=none) (bQ (by rw[c];nofun))];refine le _ _ (λe=>?_) (k.le _ _ c);rw[e,w.nN]at c;cases c
 have n:∀{o:Nat}{x:Obj},B o=none->h o=some x->B.grow h aa o=none:=λh1 ae=>rK h1 (by rw[ae];nofun);have f:m.x.f'.length=(m.x.f'.set a p).length:=bc;refine⟨J.xr _ _,n k.so k.box,?_,et k.mem aH,n k.pR k.mem,k.nP.h6 le λg b=>?_,λg b=>?_,et k.cZ aH,n k.ut k.cZ,k.sr,λd f=>⟨(k.rH d f).1.mono jM,(k.rH d f).2⟩,et k.wr aH,n k.vb k.wr,k.n0,λd f=>(k.ky d f).h6 le λg b=>?_,λd f g b=>?_,k.qZ,k.ops.mono jM,k.nv.mono jM,?_,?_,λi h1 ae=>?_,k.uJ,et k.dg aH,n k.uk k.dg,k.hand.h6 le λg b=>?_,λg b=>?_,k.sep⟩;rw[et k.box aH];simp only[fx.cells,fI];have r:=k.nP;rw[b]at r;obtain⟨bj,l⟩:=r.ty;exact ne l aH;have r:=k.nP;rw[b]at r;exact rK (k.uO g b) (r.mem rfl);have r:=k.ky d f;rw[b]at r;obtain⟨bj,l⟩:=r.ty;exact ne l aH;have r:=k.ky d f;rw[b]at r;exact rK (k.r9 d f g b) (r.mem rfl);have:=k.k3.mono jM;simp only[fI];exact this;simp only[fI];exact k.uh;simp only[fI]at ae;by_cases e:i=a;subst e;simp only[JQ];exact A;simp only[Zk (eh e)];have bi:=k.cV i h1 ae;have u:=bi.some_;have y:m.a'[i].2≠m.a'[a].2:=λq=>e ((List.getElem_inj (xs:=m.a'.map dV) (i:=i) (j:=a) (h₀:=by simpa using h1) (h₁:=by simpa using s) k.uJ).1 (by simpa using q));refine bi.to jM ?_ (rK bi.nN u);cases q:h m.a'[i].2 with
 |none=>exact absurd q u
 |some U=>exact(le _ _ y q).symm
 have r:=k.hand;rw[b]at r;obtain⟨bj,l⟩:=r.ty;exact ne l aH;have r:=k.hand;rw[b]at r;obtain⟨bj,l⟩:=r.ty;exact n (k.qg g b) l
theorem Ox{B h:J}(b:B.le h)(c:B bG=none)(le:J.h6 bG h aa):B.le (B.grow h aa):=λo U a=>by
 unfold J.grow;rw[J.mQ (S:=λo=>B o≠none\/h o=none) (bQ (by rw[a];nofun))];refine le _ _ (λe=>?_) (b _ _ a);rw[e,c]at a;cases a
theorem ahz{B h:J}:(nr h aa bG).le (B.grow h aa):=λo U a=>by
 unfold nr at a;have q:=J.vY (by rw[a];nofun);rw[J.mQ q]at a;unfold J.grow;rw[J.mQ (S:=λo=>B o≠none\/h o=none) (ba q.1)];exact a
theorem dr.up{aa:J}(k:dr B h a1 m)(le:h.le aa):dr B aa a1 m:=⟨J.le_trans k.le le,k.so,le _ _ k.box,le _ _ k.mem,k.pR,k.nP.mono le,k.uO,le _ _ k.cZ,k.ut,k.sr,k.rH,le _ _ k.wr,k.vb,k.n0,λd a=>(k.ky d a).mono le,k.r9,k.qZ,k.ops,k.nv,k.k3,k.uh,λi h1 ae=>(k.cV i h1 ae).up le,k.uJ,le _ _ k.dg,k.uk,k.hand.mono le,k.qg,k.sep⟩
theorem aqj Q(e:cg) h a1 c6 w y on bV t F n ins(s:bg h 1 t n (gi ins)) aK hand av(p:kn h aK hand av)(b:Kw hand ins)(aF:n<=1000)(he:[0,2,6,7,8,51,52,53].map e=[.v (bY a1),.v (bY c6),.v (bY bV),.v (ab none 0 0),.v (ab aK hand.length av),.v (ab t n F),.v (R n),.v (R (0:Nat))])(P:∀e A c(D:List bM),[0,2,6,7].map e=[.v (bY a1),.v (bY c6),.v (bY bV),.v (ab A n c)]->D.map bM.l=kp hand ins->(∀d∈D,d.ok h)->D.length=n->Q (.exit 0) e [.own [.v w,.v y,.v on] 66,.row 27 1 A n c (D.map bM.val)] h):jk (λQ e L h=>dq aD 97 axN Q e L h) Q e [.own [.v w,.v y,.v on] 66,.row 27 1 none 0 0 []] h:=by
 have al:ins.length=n:=by simpa using s.len
 refine .mk (Nat×Option aE×Nat×List bM×Option aE×List Int×Nat) [0,2,6,7,8,51,52,53] (λ(o,A,c,D,f,a,rc)=>[.v (bY a1),.v (bY c6),.v (bY bV),.v (ab A o c),.v (ab f a.length rc),.v (ab t n F),.v (R n),.v (R o)]) (λ(o,A,c,D,_)=>[.own [.v w,.v y,.v on] 66,.row 27 1 A o c (D.map bM.val)]) (λ(o,_,_,D,f,a,rc) aa=>aa=h/\o<=n/\kn h f a rc/\Kw a (ins.drop o)/\D.map bM.l++kp a (ins.drop o)=kp hand ins/\(∀d∈D,d.ok h)/\D.length=o) (λ(o,_)=>n-o) (0,none,0,[],aK,hand,av) (λ_=>rfl) ⟨rfl,cU _,p,b,rfl,bc,rfl⟩ he rfl ?_;clear he p b;rintro⟨o,A,c,D,f,a,rc⟩ e aa ⟨ex,hk,p,b,hm,G,H⟩;rw[ex];refine ay λgL T gG=>T _ _ _ (ay λjl S W=>aW (λq=>?_) (λq=>?_));obtain⟨g,C⟩:=s.b4 I;have B:o<ins.length:=I;have j:=s.one C (i:=o) (r:=[R ins[o]]) (by unfold gi;rw[de,bK B];rfl) rfl;rw[l1 B]at b hm;rw[kp]at hm;obtain⟨d1,d2,d3⟩:=b;generalize ins[o]=r at j d1 d2 d3 hm;obtain⟨r,rfl⟩:∃k:Nat,r=k:=⟨r.toNat,I⟩;rw[bn]at d3 hm;obtain⟨O,M⟩:=p.dK;refine S _ _ _ (ay λkd U j3=>ew λjU hc X=>ay λkQ V kH=>.m g C (.hp (R r) (by rw[bn];exact j) (V _ _ _ (ay λqS Y qs=>.mk 0 r rfl rfl I I λo1 Z z=>?_))));rw[MG Z z];refine .ag (.c0 1 _ [ab f r rc] rfl rfl (by intro u hu;rw[hZ]at hu;subst hu;rfl) (by unfold eQ;omega) I λbo bj _=>Y _ _ _ (.mk r a.length rfl rfl I M λx z J=>?_));obtain⟨K,_⟩:=p.drop (xE:=x) (k:=r) I z J;refine X _ _ _ _ nofun (U _ _ _ (.bl ?_));have E:(a.take r).length=r:=by rw[mV];omega
 refine⟨(o+1,bo,bj,D++[⟨f,rc,a.take r⟩],x,a.drop r,rc-r),?_,?_,⟨rfl,I,K,d3,by rw[fw,mg];exact hm,λd b=>?_,by simp[H]⟩,by show n- (o+1)<n-o;omega⟩;show _=[_,_,_,_,aN.v (ab x (a.drop r).length (rc-r)),_,_,_];rw[mU];rfl;show _=[_,LE.row 27 1 bo (o+1) bj ((D++[(⟨f,rc,a.take r⟩:bM)]).map bM.val)];rw[fw];show _=[_,LE.row 27 1 bo (o+1) bj (D.map bM.val++[ab f (a.take r).length rc])];rw[E];rfl;rcases eI.1 b with b|b;exact G d b;rw[hZ]at b;subst b;show bg h 1 f (a.take r).length (gi (a.take r));rw[E];unfold gi;rw[G8];exact O.take I;refine W _ _ _ _ nofun ?_;obtain rfl:o=n:=by omega
 have N:ins.drop o=[]:=py I;rw[N,kp,sf]at hm;exact P _ A c D rfl hm G H
end
section
variable {B:J}{a1:Nat}
theorem atj(Q:mi)(e:cg)(S:List LE)(f z:J)(m:fx)(k:dr f z a1 m)(hm:m.x.hand=[]){s:Array aA}(b:z c6=some (bb s 113 (0,0)))(w t on:aA)(A:Option aE)(c n:Nat)(D:List bM)(B:RowsIn f A D)(oK:D.length=n)(y:∀d∈D,0<d.l.length/\d.l.length<=64)(aF:n<=100)(M:rf S [0]=some (([.own [.v w,.v t,.v on] 66]:List LE).map (oS [0])))(he:[0,81,82,83].map e=([.v (bY a1),.v (ab A n c),.v (R n),.v (R (0:Nat))]:List aN).map (sW [0]))(Z:∀e aa a,[0].map e=[.v (bY a1)]->dr f aa a1 a->a.x={m.x with hand:=(D.map bM.l).flatten}->aa c6=some (bb s 113 (0,0))->Q (.exit 2) e [.own [.v w,.v t,.v on] 66] aa):jk (λQ e L h=>dq aD 97 axO Q e L h) Q e S z:=by
 refine .mb [0] (Nat×fx) [0,81,82,83] (λ(o,_)=>[.v (bY a1),.v (ab A n c),.v (R n),.v (R o)]) (λ_=>[.own [.v w,.v t,.v on] 66]) (λ(o,a) aa=>dr f aa a1 a/\a.x={m.x with hand:=((D.take o).map bM.l).flatten}/\aa c6=some (bb s 113 (0,0))/\o<=n/\a.x.hand.length<=64*o) (λ(o,_)=>n-o) (0,m) (λ_=>rfl) ⟨k,by rw[List.take_zero,y8,amv,<-hm],b,cU _,by rw[hm];exact cU _⟩ he rfl M ?_;clear he M b k;refineλ⟨o,a⟩ e h⟨k,u,b,hk,ev⟩=>.ag (ay λgL ed gG=>ed _ _ _ (ay λjl eY hU=>aW (λq=>?_) (λq=>?_)));have p:o<D.length:=I;obtain⟨g,N⟩:=B.dK.b4 I;have T:=(B.dK.mono k.le).one N (i:=o) (r:=[D[o].val]) (by unfold D4;rw[de,bK p];rfl) rfl;have U:=(B.row _ (b3 p)).mono k.le;obtain⟨H,W⟩:=y _ (b3 p);have fQ:D.take (o+1)=D.take o++[D[o]]:=lz p;have G:((D.take (o+1)).map bM.l).flatten=a.x.hand++D[o].l:=by rw[fQ,u,fw,wy];simp only[List.map_cons,y8,List.flatten_cons,amv,sf]
 generalize D[o]=d at T U H W G;refine eY _ _ _ (ay λkd fO j3=>ew λjU hc iD=>ay λkQ gM kH=>.m g N (.hp (ab d.A d.l.length d.c) (by rw[bn];exact T) (gM _ _ _ ?_)));have fin:∀(e:cg)(L:List LE)(ae:J)(m2:fx),[0,81,82,83].map e=[.v (bY a1),.v (ab A n c),.v (R n),.v (R o)]->m2.x={a.x with hand:=a.x.hand++d.l}->(∀K:List LE->J->Prop,(∀F aT,F.take 1=[.own [.v w,.v t,.v on] 66]->dr f aT a1 m2->aT c6=some (bb s 113 (0,0))->K F aT)->hL K L ae)->jU .normal e L ae:=by
  refineλe L ae m2 E P lv=>iD _ _ _ _ nofun (fO _ _ _ ?_);rw[<-fi [0,81,82,83] e,E];refine .bl (lv _ λF aT hG q5 fV=>⟨(o+1,m2),rfl,hG,⟨q5,by rw[P,G,u],fV,I,?_⟩,by show n- (o+1)<n-o;omega⟩);rw[P];simp only[fb];omega
 refine .hp (ab a.aK a.x.hand.length a.av) (b1 k.box rfl) (.ag (aac k (aI:=d.l) (n:=d.l.length) (by rw[<-yd];exact U.src _) rfl H I (λae j V Y=>?_) (λbo bj=>?_)));have E:=V _ _ b;have fs:=j.MD _ a.aK a.av Y j.qg j.sep;have q2:=kA.B9 j (bb ({a with x:={a.x with hand:=a.x.hand++d.l}}:fx).cells.toArray 115 (0,0)) _ _ E;exact .hp a1 8 115 _ ({a with x:={a.x with hand:=a.x.hand++d.l}}:fx).cells rfl j.box (by show some _=some _;simp only[fx.cells,fb]) (fin _ _ _ _ rfl rfl λK C=>.ag (C _ _ rfl fs q2));refine .hp a1 8 115 _ ({a with x:={a.x with hand:=a.x.hand++d.l},aK:=bo,av:=bj}:fx).cells rfl k.box (by show some _=some _;simp only[fx.cells,fb]) ?_;have X:a1≠c6:=eN k.box b aH;refine fin _ _ _ ({a with x:={a.x with hand:=a.x.hand++d.l},aK:=bo,av:=bj}:fx) rfl rfl λK C=>.b5 1 3 1 bo _ bj _ rfl λaT O fC f4=>.ag (C _ _ rfl ?_ (O _ _ (by rw[J.cD _ _ (eh X)];exact b)));exact k.adG (a.x.hand++d.l) bo bj rfl O (by rw[fb];exact fC) f4;refine hU _ _ _ _ nofun ?_;obtain rfl:o=n:=by omega
 exact Z _ _ a rfl k (by rw[u,List.take_of_length_le I]) b
def vu(x:fK)(a:Nat)(b:gK)(outs:List (List Int)):fK:={x with f':=x.f'.set a b,hand:=outs.flatten}
theorem aGp{B:J}{a1:Nat}{m:fx}(k:dr B h a1 m) c:∃g,m.hB=some g/\h.cell? (g.add (a*1))=some (R m.x.ir[a]):=by
 obtain⟨g,b⟩:=k.nv.b4 I;exact⟨g,b,(k.nv.mono k.le).one b (i:=a) (r:=[R m.x.ir[a]]) (by unfold gi;rw[de,bK c];rfl) rfl⟩
theorem call83{B:J}{m:fx}(k:dr B h a1 m){on:aA}(he:h c6=some (na op dk ds (ab none 0 0) 0))(V:B c6=none)(a:Nat)(p:a<m.x.f'.length)(nI:a<m.x.ir.length)(x:gK)(af:m.x.f'[a]=x)(bP:m.x.hand.length<=1000)(t1:1<=x.tag)(t2:x.tag<=11)(ai:x.ins.length<=16)(aU:x.outs.length<=16)(b:(m.x.hand.length:Int)=m.x.ir[a]->Kw m.x.hand x.ins)(g:gK)(r:Option (List (List Int)))(o:(m.x.hand.length:Int)=m.x.ir[a]->∀outs,r=some outs->(∀U∈outs,0<U.length/\U.length<=64)/\outs.length<=100)(M:(m.x.hand.length:Int)=m.x.ir[a]->∀bV bG,iE B h bV bG x->∀ae b7 N(D:List bM) n,h.le ae->RowsIn ae b7 D->D.length=n->D.map bM.l=kp m.x.hand x.ins->Fn aD 89 #[bY bV,ab b7 n N] ae (RJ B ae bV bG g r)):Fn aD 83 #[bY a1,.agg #[w,R a,on],bY c6] h λ_ aa=>if(m.x.hand.length:Int)=m.x.ir[a]then(match r with|some outs=>oB B a1 c6 op dk ds (vu m.x a g outs) 0 aa|none=>oB B a1 c6 op dk ds {m.x with f':=m.x.f'.set a g} 3 aa)else oB B a1 c6 op dk ds m.x 4 aa:=by
 have y:a<m.a'.length:=by rw[k.uh];exact p
 have v:=k.cV a y p;rw[af]at v;obtain⟨eD,Q⟩:=k.k3.b4 I;have ey:=(k.k3.mono k.le).one Q (i:=a) (r:=[bY m.a'[a].1]) (by rw[de,bK y];rfl) rfl;obtain⟨gt,vJ,kS⟩:=aGp k nI;refine bU VG rfl (ay λfD cQ eT=>cQ _ _ _ (ay λfy cM d9=>.hp (ab m.h3 m.x.f'.length m.iK) (b1 k.box rfl) (.m eD Q (.hp (bY m.a'[a].1) (by rw[bn];exact ey) (cM _ _ _ (ay λfz cL eZ=>ay λfE dR dH=>.hp (ab m.aK m.x.hand.length m.av) (b1 k.box rfl) (.hp (ab m.hB m.x.ir.length m.g5) (b1 k.box rfl) (.m gt vJ (.hp (R m.x.ir[a]) (by rw[bn];exact kS) (dR _ _ _ (qJ rfl (λq=>?_) (λq=>?_))))))))))));have f:=uX q;refine .hp c6 4 113 _ [R op,bC .u8 dk,R ds,ab none 0 0,bC .u8 (4:Nat)] rfl he rfl (eZ _ _ _ _ nofun (.ag ?_));show(if(m.x.hand.length:Int)=m.x.ir[a]then _ else _);rw[aC f];exact⟨B,m,none,0,0,λ_=>⟨rfl,rfl,rfl⟩,J.le_refl _,k.nT he V _,rfl,J.b8 _ _ _⟩;have f:(m.x.hand.length:Int)=m.x.ir[a]:=kc.1 (Ag q);have b:=b f;have M:=M f;have o:=o f;refine cL _ _ _ (ay λgF du gN=>du _ _ _ (ay λgL ed gG=>.hp (ab m.aK m.x.hand.length m.av) (b1 k.box rfl) (ed _ _ _ (ay λjl eY hU=>.ag (.mk _ (ajI v k.le I I t1 t2) ?_)))));rintro _ h1 ⟨u,eg,N,cn,bT,rfl,eS,_⟩;refine eY _ _ _ (ay λkd fO j3=>ay λjU hc iD=>hc _ _ _ (ew λkQ gM kH=>.jG (.abs 27 1 none 0 0 [] ⟨rfl,bQ ⟨rfl,rfl,rfl⟩⟩ (.ag ?_))));show jk _ _ _ _ h1;refine aqj kQ _ h1 a1 c6 w (R a) on _ eg N _ x.ins eS m.aK m.x.hand m.av (k.hand.mono u) b I rfl λe A c D gg iM G oK=>gM _ _ _ (fO _ _ _ ?_);rw[<-fi [0,2,6,7] e,gg];refine ay λqS X qs=>.b5 1 27 1 A x.ins.length c (D.map bM.val) rfl λae t dS f2=>.ag (.mk _ (M _ _ v ae A c D x.ins.length (J.le_trans u t) ⟨?_,λd b=>(G d b).mono t⟩ oK iM) ?_);have:=dS.e2;rw[ig]at this;rw[oK];exact this;rintro _ T ⟨O,E,S⟩;have L:=k.up (J.le_trans u t);have j:=L.uv y p O E;have W:=Ox L.le v.nN O;have C:=t _ _ (u _ _ he);have P:T c6=some (na op dk ds (ab none 0 0) 0):=by
  obtain⟨be,av⟩:=(L.cV a y p).ty;have Hx:=EY m.x.f'[a].tag;exact O _ _ (eN C av I) C
 cases r with
 |none=>
  subst S;refine X _ _ _ (ay λoE Y Z=>.hp c6 4 113 _ [R op,bC .u8 dk,R ds,ab none 0 0,bC .u8 (3:Nat)] rfl P rfl (Z _ _ _ _ nofun (.ag ?_)));show(if(m.x.hand.length:Int)=m.x.ir[a]then _ else _);rw[aS f];exact⟨_,_,none,0,0,λ_=>⟨rfl,rfl,rfl⟩,W,j.nT P (rK V (by rw[C];nofun)) _,rfl,J.b8 _ _ _⟩
 |some outs=>
  obtain⟨hh,gc,z,rfl,ge,h5⟩:=S;obtain⟨o,aJP⟩:=o _ rfl;have H:=h5.mono (ahz (B:=B));have q5:=j.MD [] none 0 (bQ ⟨rfl,rfl,rfl⟩) nofun (by
   have s:=j.sep;rw[jb,jb,qP]at s;simp only[ez,eI,not_or]at s;simp only[jm,List.nil_append,jb,ez,not_or];exact⟨⟨s.1.1,s.1.2.2⟩,s.2.1.2,s.2.2.2.1⟩)
  have Fx:=kA.B9 j (bb ({m with x:=vu m.x a g [],aK:=none,av:=0}:fx).cells.toArray 115 (0,0)) _ _ P;have aI6:z.length=outs.length:=by rw[<-ge,fj]
  refine X _ _ _ (ay λoE Y Z=>Y _ _ _ (ay λsk lJ uI=>.hp a1 8 115 _ ({m with x:=vu m.x a g [],aK:=none,av:=0}:fx).cells rfl j.box rfl (lJ _ _ _ (ay λxT qr z1=>qr _ _ _ (ew λA' tI DJ=>.jG (.ag (atj A' _ _ (B.grow ae T) _ _ q5 rfl Fx w (R a) on hh gc z.length z H rfl (λd b=>o _ (by rw[<-ge];exact G9 b)) I rfl rfl λe cr bE OK nm K F=>tI _ _ _ (.ag ?_))))))));show(if(m.x.hand.length:Int)=m.x.ir[a]then _ else _);rw[aS f];exact⟨_,bE,none,0,0,λ_=>⟨rfl,rfl,rfl⟩,W,nm,by rw[K,ge];rfl,F⟩
end
def RL(au:LE)(A:Option aE)(l:List Int)(c:Nat):Prop:=(A=none/\l=[]/\c=0/\au= .row 3 1 none 0 0 [])\/∃(b off N a:Nat)(xs:List aA),A=some ⟨b,off,none⟩/\au= .row 3 1 (some ⟨b,0,none⟩) N a xs/\N=off+l.length/\(0<c->off+c=a)/\off<=a/\a<=eQ/\xs.drop off=l.map R/\xs.length=N/\l.length<=c
theorem atm(x:kn h A l c) X(d:∀au,RL au A l c->K [X,au] (en h A)):hL K [X] h:=by
 rcases x with⟨rfl,rfl,rfl⟩|⟨b,off,be,rfl,i,e,f,g,av,hm⟩;exact .abs 3 1 none 0 0 [] ⟨rfl,bQ ⟨rfl,rfl,rfl⟩⟩ (.ag (d _ (bQ ⟨rfl,rfl,rfl,rfl⟩)));have j:off+l.length<=be.length:=by
  by_cases q:0<c;have:=f q;omega;omega
 have a:(be.take (off+l.length)).length=off+l.length:=by rw[mV];omega
 refine .abs 3 1 (some ⟨b,0,none⟩) (off+l.length) be.length (be.take (off+l.length)) ⟨by rw[a,e4],ba ⟨b,be.toArray,rfl,i,j,hm,bc,by rw[e4]⟩⟩ (.ag ?_);exact d _ (ba ⟨b,off,_,_,_,rfl,rfl,rfl,f,g,hm,by rw[Zj,CJ,e],a,av⟩)
theorem adH{off N a:Nat}(r:bw aT 3 1 (some ⟨b,0,none⟩) N a xs)(o:N=off+l.length)(k:0<c->off+c=a)(d:off<=a)(hm:a<=eQ)(i:xs.drop off=l.map R)(av:l.length<=c):kn aT (some ⟨b,off,none⟩) l c:=by
 obtain⟨n,au,e,h,j,m,_,g⟩:=r.split;injection e with e;subst e;have lc:(xs++au).length=a:=by rw[fb,g,j];omega
 refine ba ⟨b,off,xs++au,rfl,h,?_,λq=>by rw[lc];exact k q,by rw[lc];exact d,av,by rw[lc];exact hm⟩;rw[Zi I,i,<-fj (f:=R),A5]
theorem adI{au:LE}(i:RL au A l c) X(d:∀aT,h.le aT->kn aT A l c->(∀g,A=some g->h g.block=none)->hL K [X,.gone] aT):hL K [X,au] h:=by
 rcases i with⟨rfl,rfl,rfl,rfl⟩|⟨b,off,N,m,xs,rfl,rfl,k,n,e,hm,j,o,av⟩;exact .b5 1 3 1 none 0 0 [] rfl λaT le r f=>d aT le (bQ ⟨rfl,rfl,rfl⟩) nofun;exact .b5 1 3 1 (some ⟨b,0,none⟩) N m xs rfl λaT le r f=>d aT le (adH r k n e hm j av) λg a=>by injection a with a;subst a;exact f ⟨b,0,none⟩ rfl
theorem atn{au:LE}{aI:List Int}(E:RL au A l c){S:List aA->Prop}{X:LE}{K:aN->List LE->Prop}(m:S (aI.map R))(i:aI.length=n)(am:0<n)(al:l.length+n<=100000)(j:∀bo bj s,(∀d h,(∀G aT,h.le aT->kn aT bo (l++aI) bj->(∀g,bo=some g->h g.block=none)->hL d G aT)->hL d (X::s) h)->K (.v (ab bo (l.length+n) bj)) (X::s)):y3 3 1 8 A l.length c n S [X,au] K:=by
 have c1:∀u∈aI.map R,u.oneCell'=true:=λu hu=>by obtain⟨x,_,rfl⟩:=cO.1 hu;rfl
 have kJ:l.length+n<=eQ:=by unfold eQ;omega
 have fresh:∀{aT:J}{bo:Option aE}{bj:Nat},bw aT 3 1 bo (l.length+n) bj ((l++aI).map R)->kn aT bo (l++aI) bj:=by
  intro aT bo bj r;have w:(l++aI).length=l.length+n:=by rw[fb,i]
  cases bo with
  |none=>
   obtain⟨L,⟨_,H,O⟩|⟨b,be,q,_⟩⟩:=r;omega;cases q
  |some g=>
   obtain⟨b,au,rfl,D,F,B,av,_⟩:=r.split;have lc:((l++aI).map R++au).length=bj:=by rw[fb,fj,w,F];omega
   refine ba ⟨b,0,(l++aI).map R++au,rfl,D,?_,λ_=>by rw[lc];exact dZ _,cU _,by rw[w];exact B,by rw[lc];exact av⟩;rw[ams,<-fj (f:=R),A5]
 rcases E with⟨rfl,rfl,rfl,rfl⟩|⟨b,off,N,y,xs,rfl,rfl,t,z,C,hm,o,M,av⟩;refine .c0 1 [] (aI.map R) rfl m c1 kJ I λbo bj _=>?_;exact j bo bj _ λd h a=>.b5 1 3 1 bo (0+n) bj _ rfl λaT le r f=>a _ aT le (fresh r) f;refine .off 1 b off N y xs (aI.map R) rfl rfl (by rw[e4,e4];exact t) (λq=>by rw[e4,e4,z I]) m c1 am kJ I (λk=>?_) (λk p bj P=>?_);refine j _ c _ λd h a=>.b5 1 3 1 (some ⟨b,0,none⟩) (N+n) y (xs++aI.map R) rfl λaT le r f=>a _ aT le (adH r (by rw[fb,i,t];omega) z C hm ?_ (by rw[fb,i];exact k)) λg e=>by injection e with e;subst e;exact f ⟨b,0,none⟩ rfl
 rw[Zi I,o,fw];refine j (some p) bj _ λd h a=>.b5 2 3 1 (some p) (l.length+n) bj (xs.drop off++aI.map R) rfl λaT le r f=>a _ aT le (fresh (by rw[o,<-fw]at r;exact r)) f
theorem N0 h A{b:Nat} U(a:∀g,A=some g->g.block≠b):en (h.put b U) A=(en h A).put b U:=by
 cases A with
 |none=>rfl
 |some g=>
  have:=a g rfl;funext o;simp only[en,J.del,J.put];by_cases q:o=g.block;subst q;rw[aS rfl,aC this,aS rfl];rw[aC q,aC q]
theorem mm(a:∀g,A=some g->o≠g.block):en h A o=h o:=by
 cases A with
 |none=>rfl
 |some g=>exact J.nA _ (a g rfl)
section
variable {B h:J}{a1:Nat}{m:fx}
theorem dr.zz(k:dr B h a1 m)(a:h o=some (bb be t (0,0)))(c:t≠3):∀g,m.aK=some g->o≠g.block:=λg b=>by
 have r:=k.hand;rw[b]at r;obtain⟨bj,d⟩:=r.ty;exact eN a d c
theorem dr.adF(k:dr B h a1 m)(l:List Int)(A:Option aE)(c:Nat){U:Obj}(Q:U=bb ({m with x:={m.x with hand:=l},aK:=A,av:=c}:fx).cells.toArray 115 (0,0))(E:((en h m.aK).put a1 U).le aT)(W:kn aT A l c)(f:∀g,A=some g->((en h m.aK).put a1 U) g.block=none):dr B aT a1 {m with x:={m.x with hand:=l},aK:=A,av:=c}:=by
 have et:∀{o:Nat}{x:Obj},h o=some x->o≠a1->(∀g,m.aK=some g->o≠g.block)->aT o=some x:=λp z w=>E _ _ (by rw[J.cD _ _ z,mm w];exact p);have mt:∀{o:Nat}{be:Array aA}{t:Nat},h o=some (bb be t (0,0))->t≠115->t≠3->aT o=some (bb be t (0,0)):=λp z w=>et p (eN p k.box z) (k.zz p w);obtain⟨z,w,L,Ad⟩:=k.HC;have sp:=k.sep;rw[jb,jb,qP]at sp;obtain⟨s1,s2,ic,ov,N⟩:=sp;have Y:aT m.eE=some (hP m.x.mem):=et k.mem (eN k.mem k.box aH) λg j e=>L (by rw[e];exact om j);have jW:aT m.ec=some (hP m.x.dg):=et k.dg (eN k.dg k.box aH) λg j e=>w (by rw[e];exact om j);have M:∀d∈m.wr,∀g,d.A=some g->∀s,m.aK=some s->g.block≠s.block:=λd v g j s y e=>N s.block (om y) g.block (sg.2 ⟨d,v,om j⟩) e.symm;have G:∀{bF size n c:Nat}{A:Option aE}{xs:List aA},bw h bF size A n c xs->(∀g,A=some g->g.block≠a1/\∀s,m.aK=some s->g.block≠s.block)->bw aT bF size A n c xs:=by
  intro bF size n c A xs r aK;obtain⟨h1,ae⟩:=r;refine⟨h1,?_⟩;rcases ae with ae|⟨b,be,H,P,X⟩;exact bQ ae;have:=aK _ H;exact ba ⟨b,be,H,et P this.1 this.2,X⟩
 have Z:∀d∈m.wr,bw aT 3 1 d.A d.l.length d.c (d.l.map R):=λd v=>G (k.ky d v) λg j=>by
  have r:=k.ky d v;rw[j]at r;obtain⟨bj,u⟩:=r.ty;exact⟨eN u k.box aH,λs y=>M d v g j s y⟩
 have K:B.le ((en h m.aK).put a1 U):=lK k.so λo x p=>by
  rw[mm λg j e=>by rw[e,k.qg g j]at p;cases p];exact k.le _ _ p
 have D:∀o∈jm A,((en h m.aK).put a1 U) o=none:=λo p=>by
  obtain⟨g,j,e⟩:=nR p;rw[<-e];exact f g j
 have C:∀{o:Nat}{be:Array aA},h o=some (bb be 3 (0,0))->(∀g,m.aK=some g->o≠g.block)->((en h m.aK).put a1 U) o≠none:=λp O=>by
  rw[J.cD _ _ (eN p k.box aH),mm O,p];nofun
 refine⟨J.le_trans K E,k.so,by rw[E _ _ (J.b8 _ _ _),Q],Y,k.pR,G k.nP λg j=>?_,k.uO,mt k.cZ aH aH,k.ut,k.sr,k.rH,mt k.wr aH aH,k.vb,k.n0,Z,k.r9,k.qZ,k.ops,k.nv,k.k3,k.uh,λi h1 ae=>?_,k.uJ,jW,k.uk,W,λg j=>J.none_le K (f g j),?_⟩;have r:=k.nP;rw[j]at r;obtain⟨bj,u⟩:=r.ty;exact⟨eN u k.box aH,k.zz u aH⟩;have F:=k.cV i h1 ae;obtain⟨bj,u⟩:=F.ty;have Hx:=EY m.x.f'[i].tag;exact F.to (J.le_refl _) (by rw[u,mt u I I]) F.nN;rw[jb,jb,qP];simp only[ez,eI,not_or]at s1 s2⊢;refine⟨⟨s1.1,λq=>C k.mem (λg j e=>L (by rw[e];exact om j)) (D _ q),s1.2.2⟩,⟨λq=>C k.dg (λg j e=>w (by rw[e];exact om j)) (D _ q),s2.2⟩,?_,ov,λa S b T e=>?_⟩;cases A<;>simp[jm];subst e;obtain⟨d,v,q⟩:=sg.1 T;obtain⟨g,j,e⟩:=nR q;have r:=k.ky d v;rw[j]at r;obtain⟨bj,u⟩:=r.ty;rw[e]at u;exact C u (λs y V=>M d v g j s y (by rw[e];exact V)) (D _ S)
theorem dr.atl(k:dr B h a1 m)(c:(en h m.aK).le aT)(b:kn aT m.aK m.x.hand m.av)(f:∀g,m.aK=some g->(en h m.aK) g.block=none):dr B aT a1 m:=by
 have a:(en h m.aK) a1=some (bb m.cells.toArray 115 (0,0)):=by rw[mm (k.zz k.box aH)];exact k.box
 exact k.adF m.x.hand m.aK m.av rfl (by rw[tT a];exact c) b (by rw[tT a];exact f)
end
section
variable {B h:J}{a1:Nat}{m:fx}
def Aq(x:fK)(a n:Nat):fK:={x with hand:=x.hand++(x.cZ.getD a []).take n,cZ:=x.cZ.set a ((x.cZ.getD a []).drop n)}
theorem dr.arp(k:dr B h a1 m) b:h.cell? ((⟨m.fA,0,none⟩:aE).add (a*1))=some m.cZ[a].val:=by
 rw[add_lit,dZ,e4];exact b1 k.cZ (by simp[b])
theorem arq(k:dr B h a1 m):m.cZ.length=m.x.cZ.length:=by rw[<-k.sr,fj]
theorem asm{cs:List aA}{al av:Nat}(a:h a1=some (bb cs.toArray 115 (0,0)))(b:cs[8]?=some (ab A al av)) n(d:al<=100000)(c:0<=n/\n<=100000):Fn aD 133 #[bY a1,R n] h λv aa=>v=dh (decide (64<al+n))/\aa=h:=by
 exact bU afD rfl (.hp (ab A al av) (b1 a b) (.bl (.ag ⟨rfl,rfl⟩)))
theorem dr.Aa(k:dr B h a1 m):B.le (en h m.aK):=λo x a=>by
 rw[mm λg b e=>by rw[e,k.qg g b]at a;cases a];exact k.le _ _ a
theorem aGt{h:J}{d:bM}(x:d.ok h)(a:n<=d.l.length):bg h 1 d.A n (gi (d.l.take n)):=by
 unfold gi;rw[G8];exact bg.take x a
theorem aD5(k:dr B h a1 m)(he:h c6=some (na op dk ds (ab none 0 0) 0))(eB:B c6=none)(a n:Nat)(Y:a<m.x.cZ.length)(cR:1<=n)(aF:n<=1000)(bP:m.x.hand.length<=1000):Fn aD 82 #[bY a1,.agg #[w,R a,R n],bY c6] h λ_ aa=>if 64<m.x.hand.length+n then oB B a1 c6 op dk ds m.x 4 aa else if(m.x.cZ.getD a []).length<n then oB B a1 c6 op dk ds m.x 2 aa else oB B a1 c6 op dk ds (Aq m.x a n) 0 aa:=by
 have C:a<m.cZ.length:=by rw[arq k];exact Y
 obtain⟨d,E⟩:∃d,m.cZ[a]=d:=⟨_,rfl⟩;obtain⟨P,r⟩:=k.rH _ (b3 C);rw[E]at P r;have U:m.x.cZ.getD a []=d.l:=by
  rw[<-k.sr,cc,de,bK C,E];rfl
 obtain⟨f,o⟩:∃f,f=en h m.aK:=⟨_,rfl⟩;have D:f a1=some (bb m.cells.toArray 115 (0,0)):=by rw[o,mm (k.zz k.box aH)];exact k.box
 have u:f m.fA=some (bb (m.cZ.map bM.val).toArray 27 (0,0)):=by rw[o,mm (k.zz k.cZ aH)];exact k.cZ
 have V:f c6=some (na op dk ds (ab none 0 0) 0):=by rw[o,mm (k.zz he aH)];exact he
 have Aa:B.le f:=by rw[o];exact k.Aa
 have jE:f.cell? ((⟨m.fA,0,none⟩:aE).add (a*1))=some d.val:=by
  rw[add_lit,dZ,e4];exact b1 u (by simp[C,E])
 refine bU az0 rfl ?_;have f133:=asm D (A:=m.aK) (al:=m.x.hand.length) (av:=m.av) rfl n I ⟨I,I⟩;have T:∀(t:Nat)(aT:J),(f.put c6 (na op dk ds (ab none 0 0) t)).le aT->kn aT m.aK m.x.hand m.av->(∀g,m.aK=some g->(f.put c6 (na op dk ds (ab none 0 0) t)) g.block=none)->oB B a1 c6 op dk ds m.x t aT:=by
  intro t aT b i f4;rw[o,<-N0 h m.aK _ λg K e=>k.zz he aH g K e.symm]at b f4;refine⟨B,m,none,0,0,λ_=>⟨rfl,rfl,rfl⟩,J.le_refl _,(k.nT he eB _).atl b i f4,rfl,b _ _ ?_⟩;rw[mm (k.zz he aH),J.b8]
 rw[U];refine ay λfD cQ eT=>cQ _ _ _ (ew λfy cM L=>ay λfz cL eZ=>atm k.hand _ λau M=>?_);rw[<-o];refine .mk _ f133 ?_;rintro _ af ⟨rfl,ex⟩;rw[ex];refine cL _ _ _ ?_;refine qJ rfl (λq=>?_) (λq=>?_);refine .hp c6 4 113 _ [R op,bC .u8 dk,R ds,ab none 0 0,bC .u8 (4:Nat)] rfl V rfl (L _ _ _ _ nofun (adI M _ λaT b i f4=>.ag ?_));show(if 64<m.x.hand.length+n then _ else _);rw[aS (by have:=uX q;omega)];exact T 4 aT b i f4;have v:¬64<m.x.hand.length+n:=by have:=Ag q;omega
 refine ay λfE dR dH=>.hp (hM m.fA m.cZ.length) (b1 D rfl) (.mk ⟨m.fA,0,none⟩ rfl I I (.hp (ab d.A d.l.length d.c) (by rw[bn];exact jE) (dR _ _ _ (qJ rfl (λq=>?_) (λq=>?_)))));refine .hp c6 4 113 _ [R op,bC .u8 dk,R ds,ab none 0 0,bC .u8 (2:Nat)] rfl V rfl (L _ _ _ _ nofun (adI M _ λaT b i f4=>.ag ?_));show(if 64<m.x.hand.length+n then _ else if d.l.length<n then _ else _);rw[aC v,aS (by have:=uX q;omega)];exact T 2 aT b i f4;have G:¬d.l.length<n:=by have:=Ag q;omega
 refine ay λgF du gN=>.hp (ab m.aK m.x.hand.length m.av) (b1 D rfl) (.hp (hM m.fA m.cZ.length) (b1 D rfl) (.mk ⟨m.fA,0,none⟩ rfl I I (.hp (ab d.A d.l.length d.c) (by rw[bn];exact jE) (.mk 0 n rfl rfl I I λo1 mo N=>?_))));rw[MG mo N];have lt:(d.l.take n).length=n:=by rw[mV];omega
 refine atn M (aI:=d.l.take n) (by rw[<-yd];exact(bg.mono (aGt P I) Aa).src _) lt I I λbo bj cK bG=>?_;obtain⟨j,O⟩:∃j,j=({m with x:={m.x with hand:=m.x.hand++d.l.take n},aK:=bo,av:=bj}:fx).cells:=⟨_,rfl⟩;refine .hp a1 8 115 _ j rfl D (by rw[O];show some _=some _;simp only[fx.cells,fb,lt,Nat.sub_zero]) ?_;have Q:(f.put a1 (bb j.toArray 115 (0,0))) a1=some (bb j.toArray 115 (0,0)):=J.b8 _ _ _;have z:j[2]?=some (hM m.fA m.cZ.length):=by rw[O];rfl
 have S:m.fA≠a1:=eN k.cZ k.box aH;have s:(f.put a1 (bb j.toArray 115 (0,0))) m.fA=some (bb (m.cZ.map bM.val).toArray 27 (0,0)):=by rw[J.cD _ _ S];exact u
 refine du _ _ _ (.hp (hM m.fA m.cZ.length) (b1 Q z) (.hp (hM m.fA m.cZ.length) (b1 Q z) (.mk ⟨m.fA,0,none⟩ rfl I I (.hp (ab d.A d.l.length d.c) (by rw[bn,add_lit,dZ,e4];exact b1 s (by simp[C,E,bM.val])) (.mk n d.l.length rfl rfl I r λp N H0=>.mk ⟨m.fA,0,none⟩ rfl I I ?_)))));have ld:(d.l.drop n).length=d.l.length-n:=mU;refine .hp m.fA (0+a*1) 27 (m.cZ.map bM.val) ((m.cZ.set a ⟨p,d.c-n,d.l.drop n⟩).map bM.val) (by rw[add_lit,bn]) s ?_ ?_;rw[dZ,e4,io _ _ _ (by rw[fj];exact C),kB];show some ((m.cZ.map bM.val).set a (ab p (d.l.length-n) (d.c-n)))=some ((m.cZ.map bM.val).set a (ab p (d.l.drop n).length (d.c-n)));rw[ld];refine L _ _ _ _ nofun (bG _ _ λnx aT b i f4=>.ag ?_);show(if 64<m.x.hand.length+n then _ else if d.l.length<n then _ else _);rw[aC v,aC G];have F:(⟨p,d.c-n,d.l.drop n⟩:bM).ok B:=by
  show bg B 1 p (d.l.drop n).length (gi (d.l.drop n));rw[ld];unfold gi;rw[Nk];exact bg.drop P (λq=>N I) I
 have cz:=k.ajD (m.cZ.set a ⟨p,d.c-n,d.l.drop n⟩) bc (λy H=>by
  rcases List.mem_or_eq_of_mem_set H with H|rfl;exact k.rH y H;exact⟨F,by show(d.l.drop n).length<=d.c-n;omega⟩)
 rw[Xg _ _ _ (eh S),o,<-N0 h m.aK _ (λg K e=>k.zz k.cZ aH g K e.symm)]at b f4;have Z:=cz.adF (m.x.hand++d.l.take n) bo bj (by rw[O];simp only[fx.cells,fI]) b i f4;have W:c6≠a1:=eN he k.box aH;have X:c6≠m.fA:=eN he k.cZ aH;refine⟨B,_,none,0,0,λ_=>⟨rfl,rfl,rfl⟩,J.le_refl _,Z,?_,b _ _ ?_⟩;simp only[Aq,U];rw[kB,k.sr];rw[J.cD _ _ W,mm (k.zz he aH),J.cD _ _ X];exact he
end
theorem TJ{α:Type}(f:α->List Nat):∀(l:List α),(l.flatMap f).Nodup->∀i o b(d:o<l.length),i≠o->∀x∈f l[i],x∉f l[o]
 |[],_,i,_,b,_,_,_,_=>absurd b (Nat.not_lt_zero _)
 |a::l,h,i,o,b,d,k,x,c=>by
  rw[Nj,qP]at h;obtain⟨_,ae,j⟩:=h;intro g;cases i with
  |zero=>
   cases o with
   |zero=>exact k rfl
   |succ o=>exact j x c x (sg.2 ⟨_,b3 (by simpa using d),g⟩) rfl
  |succ i=>
   cases o with
   |zero=>exact j x g x (sg.2 ⟨_,b3 (by simpa using b),c⟩) rfl
   |succ o=>exact TJ f l ae i o (by simpa using b) (by simpa using d) (λe=>k (by rw[e])) x c g
theorem Oo{α:Type} f{l:List α}{a:Nat}{y:α}{x:Nat}(b:x∈(l.set a y).flatMap f):x∈f y\/∃(i:Nat)(c:i<l.length),i≠a/\x∈f l[i]:=by
 obtain⟨z,d,b⟩:=sg.1 b;obtain⟨i,c,rfl⟩:=n4 d;rw[fI]at c;by_cases e:i=a;subst e;rw[JQ]at b;exact bQ b;rw[Zk (eh e)]at b;exact ba ⟨i,c,e,b⟩
theorem TK{α:Type}(f:α->List Nat):∀(l:List α) a y,(l.flatMap f).Nodup->(f y).Nodup->(∀i c,i≠a->∀x∈f y,x∉f l[i])->((l.set a y).flatMap f).Nodup
 |[],_,_,h,_,_=>h
 |b::l,0,y,h,h1,ae=>by
  rw[List.set_cons_zero,Nj,qP];rw[Nj,qP]at h;refine⟨h1,h.2.1,λu hu v g e=>?_⟩;subst e;obtain⟨z,j,d⟩:=sg.1 g;obtain⟨i,c,rfl⟩:=n4 j;exact ae (i+1) (by simpa using c) I u hu d
 |b::l,a+1,y,h,h1,ae=>by
  rw[List.set_cons_succ,Nj,qP];rw[Nj,qP]at h;refine⟨h.1,TK f l a y h.2.1 h1 λi c k x d=>ae (i+1) (by simpa using c) I x d,λu hu v g e=>?_⟩;subst e;rcases Oo f g with q|⟨i,c,_,q⟩;exact ae 0 bc I u q hu;exact h.2.2 u hu u (sg.2 ⟨_,b3 c,q⟩) rfl
section
variable {B h:J}{a1:Nat}{m:fx}
def AF(x:fK)(a n:Nat):fK:={x with wr:=x.wr.set a (x.wr.getD a []++x.hand.take n),hand:=x.hand.drop n}
theorem dr.o0(k:dr B h a1 m){d:bM}(c:d∈m.wr)(a:h o=some (bb be t (0,0)))(e:t≠3):∀g,d.A=some g->o≠g.block:=λg b=>by
 have r:=k.ky d c;rw[b]at r;obtain⟨bj,f⟩:=r.ty;exact eN a f e
theorem dr.aln(k:dr B h a1 m)(Z:a<m.wr.length)(l:List Int)(A:Option aE)(c:Nat){U:Obj}(aU:U=bb ((m.wr.set a ⟨A,c,l⟩).map bM.val).toArray 27 (0,0))(V:((en h m.wr[a].A).put m.g6 U).le aT)(r:bw aT 3 1 A l.length c (l.map R))(f:∀g,A=some g->((en h m.wr[a].A).put m.g6 U) g.block=none):dr B aT a1 {m with x:={m.x with wr:=(m.wr.set a ⟨A,c,l⟩).map bM.l},wr:=m.wr.set a ⟨A,c,l⟩}:=by
 have z:=b3 Z;have et:∀{o:Nat}{x:Obj},h o=some x->o≠m.g6->(∀g,m.wr[a].A=some g->o≠g.block)->aT o=some x:=λw L M=>V _ _ (by rw[J.cD _ _ L,mm M];exact w);have mt:∀{o:Nat}{be:Array aA}{t:Nat},h o=some (bb be t (0,0))->t≠27->t≠3->aT o=some (bb be t (0,0)):=λw L M=>et w (eN w k.wr L) (k.o0 z w M);obtain⟨L,M,kj,Ad⟩:=k.HC;obtain⟨x7,m4⟩:=Ad _ z;have sp:=k.sep;rw[jb,jb,qP]at sp;obtain⟨s1,s2,ic,ov,Y⟩:=sp;have E:∀g,m.wr[a].A=some g->m.eE≠g.block:=λg j e=>m4 (by rw[e];exact om j);have D:∀g,m.wr[a].A=some g->m.ec≠g.block:=λg j e=>x7 (by rw[e];exact om j);have b':∀g,m.wr[a].A=some g->∀s,m.aK=some s->s.block≠g.block:=λg j s G e=>Y s.block (om G) g.block (sg.2 ⟨_,z,om j⟩) e;have one:∀(i:Nat)(p:i<m.wr.length),i≠a->∀g,m.wr[i].A=some g->∀s,m.wr[a].A=some s->g.block≠s.block:=λi p e g j s G q=>TJ _ _ ov i a p Z e g.block (om j) (by rw[q];exact om G);have k0:aT m.eE=some (hP m.x.mem):=et k.mem (eN k.mem k.wr aH) E;have jW:aT m.ec=some (hP m.x.dg):=et k.dg (eN k.dg k.wr aH) D;have X:∀{bF size n c:Nat}{A:Option aE}{xs:List aA},bw h bF size A n c xs->(∀g,A=some g->g.block≠m.g6/\∀s,m.wr[a].A=some s->g.block≠s.block)->bw aT bF size A n c xs:=by
  intro bF size n c A xs r aK;obtain⟨h1,ae⟩:=r;refine⟨h1,?_⟩;rcases ae with ae|⟨b,be,C,K,T⟩;exact bQ ae;have:=aK _ C;exact ba ⟨b,be,C,et K this.1 this.2,T⟩
 have S:kn aT m.aK m.x.hand m.av:=by
  have bP:=k.hand;have U7:=k.hand;rcases bP with x|⟨dN,off,be,C,K,T⟩;exact bQ x;exact ba ⟨dN,off,be,C,et K (eN K k.wr aH) (λg j=>b' g j _ C),T⟩
 have hd:B.le ((en h m.wr[a].A).put m.g6 U):=lK k.vb λo x w=>by
  rw[mm λg j e=>by rw[e,k.r9 _ z g j]at w;cases w];exact k.le _ _ w
 have N:∀{o:Nat}{be:Array aA},h o=some (bb be 3 (0,0))->(∀g,m.wr[a].A=some g->o≠g.block)->∀g,A=some g->g.block≠o:=λw aF g j e=>by
  have:=f g j;rw[e,J.cD _ _ (eN w k.wr aH),mm aF,w]at this;cases this
 have rows:∀d∈m.wr.set a ⟨A,c,l⟩,bw aT 3 1 d.A d.l.length d.c (d.l.map R)/\∀g,d.A=some g->B g.block=none:=by
  intro d F;obtain⟨i,p,rfl⟩:=n4 F;rw[fI]at p;by_cases e:i=a;subst e;simp only[JQ];exact⟨r,λg j=>J.none_le hd (f g j)⟩;simp only[Zk (eh e)];refine⟨X (k.ky _ (b3 p)) λg j=>⟨?_,one i p e g j⟩,k.r9 _ (b3 p)⟩;have r:=k.ky _ (b3 p);rw[j]at r;obtain⟨bj,y⟩:=r.ty;exact eN y k.wr aH
 refine⟨J.le_trans hd V,k.so,?_,k0,k.pR,X k.nP λg j=>?_,k.uO,et k.cZ k.qZ (k.o0 z k.cZ aH),k.ut,k.sr,k.rH,by rw[V _ _ (J.b8 _ _ _),aU],k.vb,rfl,λd F=>(rows d F).1,λd F=>(rows d F).2,k.qZ,k.ops,k.nv,k.k3,k.uh,λi h1 ae=>?_,k.uJ,jW,k.uk,S,k.qg,?_⟩;rw[mt k.box aH aH];simp only[fx.cells,fI];have r:=k.nP;rw[j]at r;obtain⟨bj,y⟩:=r.ty;exact⟨eN y k.wr aH,k.o0 z y aH⟩;have W:=k.cV i h1 ae;obtain⟨bj,y⟩:=W.ty;have Hx:=EY m.x.f'[i].tag;exact W.to (J.le_refl _) (by rw[y,mt y I I]) W.nN;have O:∀x∈jm A,∃g,A=some g/\g.block=x:=λx Q=>nR Q;rw[jb,jb,qP];simp only[ez,eI,not_or]at s1 s2⊢;refine⟨⟨s1.1,s1.2.1,λq=>?_⟩,⟨s2.1,λq=>?_⟩,ic,TK _ _ _ _ ov (by cases A<;>simp[jm]) λi p e x Q q=>?_,λu hu v ao e=>?_⟩;rcases Oo _ q with q|⟨i,p,_,q⟩;obtain⟨g,j,e⟩:=O _ q;exact N k.mem E g j e;exact s1.2.2 (sg.2 ⟨_,b3 p,q⟩);rcases Oo _ q with q|⟨i,p,_,q⟩;obtain⟨g,j,e⟩:=O _ q;exact N k.dg D g j e;exact s2.2 (sg.2 ⟨_,b3 p,q⟩);obtain⟨g,j,bH⟩:=O _ Q;obtain⟨g2,H,P⟩:=nR q;have r:=k.ky _ (b3 p);rw[H]at r;obtain⟨bj,y⟩:=r.ty;exact N y (one i p e g2 H) g j (by rw[bH,P]);subst e;rcases Oo _ ao with q|⟨i,p,_,q⟩;obtain⟨g,j,e⟩:=O _ q;obtain⟨g2,H,P⟩:=nR hu;have r:=k.hand;rw[H]at r;obtain⟨bj,y⟩:=r.ty;exact N y (λs G=>b' s G g2 H) g j (by rw[e,P]);exact Y u hu u (sg.2 ⟨_,b3 p,q⟩) rfl
end
section
variable {B h:J}{a1:Nat}{m:fx}
theorem aH3(k:dr B h a1 m)(he:h c6=some (na op dk ds (ab none 0 0) 0))(eB:B c6=none)(a n:Nat)(aZ:a<m.x.wr.length)(cR:1<=n)(aF:n<=1000)(bP:m.x.hand.length<=1000)(hw:(m.x.wr.getD a []).length<=1000000000):Fn aD 85 #[bY a1,.agg #[w,R a,R n],bY c6] h λ_ aa=>if m.x.hand.length<n then oB B a1 c6 op dk ds m.x 4 aa else oB B a1 c6 op dk ds (AF m.x a n) 0 aa:=by
 have s:a<m.wr.length:=by rw[<-fj (f:=bM.l),k.n0];exact aZ
 obtain⟨d,o⟩:∃d,m.wr[a]=d:=⟨_,rfl⟩;have i:d∈m.wr:=by rw[<-o];exact b3 s
 have X:=k.ky d i;have U:m.x.wr.getD a []=d.l:=by
  rw[<-k.n0,cc,de,bK s,o];rfl
 rw[U]at hw;obtain⟨b,t⟩:∃b,b=en h d.A:=⟨_,rfl⟩;have D:b a1=some (bb m.cells.toArray 115 (0,0)):=by rw[t,mm (k.o0 i k.box aH)];exact k.box
 have z:b m.g6=some (bb (m.wr.map bM.val).toArray 27 (0,0)):=by rw[t,mm (k.o0 i k.wr aH)];exact k.wr
 have zE:b c6=some (na op dk ds (ab none 0 0) 0):=by rw[t,mm (k.o0 i he aH)];exact he
 have k':b.cell? ((⟨m.g6,0,none⟩:aE).add (a*1))=some d.val:=by
  rw[add_lit,dZ,e4];exact b1 z (by simp[s,o])
 have F:kn b m.aK m.x.hand m.av:=by
  rcases k.hand with x|⟨H,off,be,P,aG,bt⟩;exact bQ x;refine ba ⟨H,off,be,P,?_,bt⟩;rw[t,mm λg p e=>?_];exact aG;have sp:=k.sep;rw[jb,jb,qP]at sp;refine sp.2.2.2.2 H ?_ H (sg.2 ⟨d,i,?_⟩) rfl;rw[P];exact G' _;rw[e];exact om p
 obtain⟨hs,Y⟩:=F.dK;have r8:∀(aT:J),(b.put c6 (na op dk ds (ab none 0 0) 4)).le aT->bw aT 3 1 d.A d.l.length d.c (d.l.map R)->(∀g,d.A=some g->(b.put c6 (na op dk ds (ab none 0 0) 4)) g.block=none)->oB B a1 c6 op dk ds m.x 4 aT:=by
  intro aT j C f4;rw[t,<-N0 h d.A _ λg p e=>k.o0 i he aH g p e.symm]at j f4;have r:=k.nT he eB (na op dk ds (ab none 0 0) 4);have Q:m.wr.set a ⟨d.A,d.c,d.l⟩=m.wr:=by rw[<-o];exact List.set_getElem_self s
  have y:(en (h.put c6 (na op dk ds (ab none 0 0) 4)) d.A) m.g6=some (bb ((m.wr.set a ⟨d.A,d.c,d.l⟩).map bM.val).toArray 27 (0,0)):=by
   rw[mm (r.o0 i r.wr aH),Q];exact r.wr
  have G:=r.aln (a:=a) s d.l d.A d.c rfl (by rw[o,tT y];exact j) C (by rw[o,tT y];exact f4);refine⟨B,_,none,0,0,λ_=>⟨rfl,rfl,rfl⟩,J.le_refl _,G,?_,j _ _ ?_⟩;simp only[Q,k.n0];rw[mm (k.o0 i he aH),J.b8]
 refine al3 az1 rfl (.abs 3 1 d.A d.l.length d.c (d.l.map R) X (.ag ?_));rw[<-t];refine ay λfD cQ eT=>cQ _ _ _ (ay λfy cM d9=>ay λfz cL eZ=>.hp (ab m.aK m.x.hand.length m.av) (b1 D rfl) (cL _ _ _ (qJ rfl (λq=>?_) (λq=>?_))));refine .hp c6 4 113 _ [R op,bC .u8 dk,R ds,ab none 0 0,bC .u8 (4:Nat)] rfl zE rfl (d9 _ _ _ _ nofun (.b5 0 3 1 d.A d.l.length d.c _ rfl λaT j C f4=>.ag ?_));show(if m.x.hand.length<n then _ else _);rw[aS (by have:=uX q;omega)];exact r8 aT j C f4;have no:¬m.x.hand.length<n:=by have:=Ag q;omega
 refine cM _ _ _ (ay λfE dR dH=>.hp (hM m.g6 m.wr.length) (b1 D rfl) (.hp (hM m.g6 m.wr.length) (b1 D rfl) (.mk ⟨m.g6,0,none⟩ rfl I I (.hp (ab d.A d.l.length d.c) (by rw[bn];exact k') (.hp (ab m.aK m.x.hand.length m.av) (b1 D rfl) (.mk 0 n rfl rfl I I λo1 mo N=>?_))))));rw[MG mo N];have lt:(m.x.hand.take n).length=n:=by rw[mV];omega
 have V:∀L,Src L b 1 m.aK n ((m.x.hand.take n).map R):=λL=>by
  have:=(show bg b 1 m.aK n (gi (m.x.hand.take n)) by unfold gi;rw[G8];exact hs.take I).src L;unfold gi at this;rw[yd]at this;exact this
 refine .c0 0 (d.l.map R) ((m.x.hand.take n).map R) rfl (V _) (λu hu=>by obtain⟨x,_,rfl⟩:=cO.1 hu;rfl) (by unfold eQ;omega) I λbo bj _=>.mk ⟨m.g6,0,none⟩ rfl I I ?_;have lw:(d.l++m.x.hand.take n).length=d.l.length+n:=by rw[fb,lt]
 refine .hp m.g6 (0+a*1) 27 (m.wr.map bM.val) ((m.wr.set a ⟨bo,bj,d.l++m.x.hand.take n⟩).map bM.val) (by rw[add_lit,bn]) z ?_ ?_;rw[dZ,e4,io _ _ _ (by rw[fj];exact s),kB];show some ((m.wr.map bM.val).set a (ab bo (d.l.length+n) bj))=some ((m.wr.map bM.val).set a (ab bo (d.l++m.x.hand.take n).length bj));rw[lw];have v:m.g6≠a1:=eN k.wr k.box aH;have O:(b.put m.g6 (bb ((m.wr.set a ⟨bo,bj,d.l++m.x.hand.take n⟩).map bM.val).toArray 27 (0,0))) a1=some (bb m.cells.toArray 115 (0,0)):=by rw[J.cD _ _ (eh v)];exact D
 refine dR _ _ _ (.hp (ab m.aK m.x.hand.length m.av) (b1 O rfl) (.mk n m.x.hand.length rfl rfl I Y λM N W=>?_));obtain⟨K,T⟩:∃K,K=({m with x:={m.x with hand:=m.x.hand.drop n},aK:=M,av:=m.av-n}:fx).cells:=⟨_,rfl⟩;refine .hp a1 8 115 _ K rfl O (by rw[T];show some _=some _;simp only[fx.cells,mU]) (.b5 0 3 1 bo _ bj _ rfl λaT j C f4=>.ag ?_);show(if m.x.hand.length<n then _ else _);rw[aC no];obtain⟨E,S⟩:=k.hand.drop (xE:=M) (k:=n) I N W;have r:=k.MD (m.x.hand.drop n) M (m.av-n) E (λg p=>by
  have q:g.block∈jm m.aK:=by rw[<-S];exact om p
  obtain⟨bq,c9,e⟩:=nR q;rw[<-e];exact k.qg bq c9) (by have:=k.sep;rw[S];exact this)
 rw[<-T]at r;rw[Xg _ _ _ v,t,<-N0 h d.A _ (λg p e=>k.o0 i k.box aH g p e.symm)]at j f4;have G:=r.aln (a:=a) s (d.l++m.x.hand.take n) bo bj rfl (by simp only[o];exact j) (by rw[lw,fw];exact C) (by simp only[o];exact f4);have Z:c6≠a1:=eN he k.box aH;have new:c6≠m.g6:=eN he k.wr aH;refine⟨B,_,none,0,0,λ_=>⟨rfl,rfl,rfl⟩,J.le_refl _,G,?_,j _ _ ?_⟩;simp only[AF,U];rw[kB,k.n0];rw[J.cD _ _ new,mm (k.o0 i he aH),J.cD _ _ Z];exact he
end
def pC(a b:Int):Option Int:=if(0<b/\oz (9223372036854775807-b)<a)\/(b<0/\a<oz (-9223372036854775808-b))then none else some (oz (a+b))
def Ee(a b:Int):Option Int:=if(b<0/\oz (9223372036854775807+b)<a)\/(0<b/\a<oz (-9223372036854775808+b))then none else some (oz (a-b))
def oW(a:Int):Nat:=(IntKind.u64.wrap (if a<0 then-IntKind.u64.wrap a else a)).toNat
def P1(a b:Int):Option Int:=
 if w' (oW a) (oW b)=0 then
  (
   if(decide (a<0)==decide (b<0))=false then(if 9223372036854775808<oW a*oW b%18446744073709551616 then none else some (oz (IntKind.u64.wrap (-(oW a*oW b%18446744073709551616:Nat)))))
  else if 9223372036854775807<oW a*oW b%18446744073709551616 then none else some (oz (oW a*oW b%18446744073709551616:Nat)))
 else none
def Eg:Int->List Int->Option Int
 |t,[]=>some t
 |t,x::l=>(pC t x).bind λy=>Eg y l
def zu:Int->List Int->List Int->Option Int
 |t,x::l,y::m=>(P1 x y).bind λp=>(pC t p).bind λu=>zu u l m
 |t,_,_=>some t
def qH(ins:List (List Int))(m:Nat):List Int:=(fJ m).flatMap λo=>ins.map λl=>l.getD o 0
theorem ala ins m:qH ins (m+1)=qH ins m++ins.map λl=>l.getD m 0:=by
 unfold qH;rw[CG,List.flatMap_append];simp
theorem alb ins:∀m,(qH ins m).length=m*ins.length:=by
 intro m;induction m with
 |zero=>simp[qH]
 |succ m a=>rw[ala,fb,a,fj,Nat.succ_mul]
def yS(n:Nat):Nat->List Int->List (List Int)->List (List Int)
 |_,[],U=>U
 |k,x::l,U=>yS n (k+1) l (U.set (k%n) (U.getD (k%n) []++[x]))
def pd(ins:List (List Int))(i:Nat):Int:=(ins.getD i []).getD 0 0
def Mq(a b:Int):Option Int:=if b=0 then none else if b= -1 then Ee 0 a else some (oz (a.tdiv b))
def ps(x:gK)(ins:List (List Int)):Option (List (List Int))×List Int:=
 match x.tag with
 |1=>match zu 0 x.a8 (pd ins 0::x.st)with
  |some y=>(some [[y]],(pd ins 0::x.st).take x.st.length)
  |none=>(none,x.st)
 |2=>(some [pd ins 0::bp ((x.outs.getD 0 0).toNat-1) 0],x.st)
 |3=>(some [[pd ins 0]],x.st)
 |4=>(some [qH ins (x.ins.getD 0 0).toNat],x.st)
 |5=>(some (yS x.outs.length 0 (ins.getD 0 []) (bp x.outs.length [])),x.st)
 |6=>((Eg 0 (ins.map λl=>l.getD 0 0)).map λy=>[[y]],x.st)
 |7=>((Mq (pd ins 0) (pd ins 1)).map λy=>[[y]],x.st)
 |8=>match pC (x.st.getD 0 0) (pd ins 0)with
  |some y=>(some [[y]],[y])
  |none=>(none,x.st)
 |9=>(some (bp x.outs.length [pd ins 0]),x.st)
 |10=>match pC (x.st.getD 0 0) (x.a8.getD 1 0)with
  |some y=>(some [[x.st.getD 0 0]],[y])
  |none=>(none,x.st)
 |_=>(some [],x.st)
def nc(x:gK)(ins:List (List Int)):Option (List (List Int))×gK:=((ps x ins).1,Km (ps x ins).1 {x with st:=(ps x ins).2})
def gl:gK:=⟨0,[],[],0,[],[]⟩
def jN:lb:=⟨0,0,0,0⟩
def db(x:fK)(U:cm):fK×Nat:=
 match U.k with
 |0=>if x.hand=[]then({x with eU:=x.eU+1,next:= -1},1)else(x,4)
 |1=>({x with dg:=x.dg.set U.a.toNat U.b},0)
 |2=>({x with dg:=x.dg.set U.a.toNat (oz (x.dg.getD U.a.toNat 0-1)),next:=if 0<oz (x.dg.getD U.a.toNat 0-1)then U.b-1 else x.next},0)
 |3=>if(x.lines.getD U.a.toNat jN).br<U.b.toNat\/64<x.hand.length+U.b.toNat then(x,4)else(u7 x U.a.toNat (x.lines.getD U.a.toNat jN) U.b.toNat,0)
 |4=>if 64<x.hand.length+U.b.toNat then(x,4)else if(x.cZ.getD U.a.toNat []).length<U.b.toNat then(x,2)else(Aq x U.a.toNat U.b.toNat,0)
 |5=>if(x.hand.length:Int)=x.ir.getD U.a.toNat 0 then
  match nc (x.f'.getD U.a.toNat gl) (kp x.hand (x.f'.getD U.a.toNat gl).ins)with
  |(some outs,b)=>(vu x U.a.toNat b outs,0)
  |(none,b)=>({x with f':=x.f'.set U.a.toNat b},3)
  else(x,4)
 |6=>if x.hand.length<U.b.toNat\/(x.lines.getD U.a.toNat jN).size<(x.lines.getD U.a.toNat jN).br+U.b.toNat then(x,4)else(w4 x U.a.toNat (x.lines.getD U.a.toNat jN) U.b.toNat,0)
 |_=>if x.hand.length<U.b.toNat then(x,4)else(AF x U.a.toNat U.b.toNat,0)
def B8:cm:=⟨0,0,0⟩
def jH(x:fK):fK×Nat:=
 let U:=x.ops.getD x.next.toNat B8
 let r:=db x U
 if r.2=0\/r.2=1 then({r.1 with next:=r.1.next+1},r.2)
 else if r.2=2 then r
 else({r.1 with ox:=true,pk:=x.next,uQ:=U.k,uR:=if U.k=3\/U.k=6 then U.a else-1,uN:=r.2},r.2)
def runM:Nat->fK->Int->Option (fK×Nat)
 |0,_,_=>none
 |f+1,x,to=>if x.eU<to then(if(jH x).2=0\/(jH x).2=1 then runM f (jH x).1 to else some (jH x))else some (x,1)
def Mu:Option Int->aA
 |some z=>eA #[R z,dh true]
 |none=>eA #[R 0,dh false]
theorem NG a b h:Fn aD 247 #[R a,R b] h λv aa=>v=Mu (pC a b)/\aa=h:=by
 refine bU ay9 rfl (aW (λf=>?_) (λf=>?_));refine .wrap (aW (λd=>?_) (λd=>?_));exact .ag ⟨by rw[pC,aS (bQ ⟨f,d⟩)];rfl,rfl⟩;exact aW (λc=>I) (λc=>.wrap (.ag ⟨by rw[pC,aC (by rintro(q|q);exact d q.2;omega)];rfl,rfl⟩));refine aW (λc=>?_) (λc=>?_);refine .wrap (aW (λe=>?_) (λe=>?_));exact .ag ⟨by rw[pC,aS (ba ⟨c,e⟩)];rfl,rfl⟩;exact .wrap (.ag ⟨by rw[pC,aC (by rintro(q|q);omega;exact e q.2)];rfl,rfl⟩);exact .wrap (.ag ⟨by rw[pC,aC (by rintro(q|q)<;>omega)];rfl,rfl⟩)
theorem aFW a b h:Fn aD 256 #[R a,R b] h λv aa=>v=Mu (Ee a b)/\aa=h:=by
 refine bU azh rfl (aW (λf=>?_) (λf=>?_));refine .wrap (aW (λd=>?_) (λd=>?_));exact .ag ⟨by rw[Ee,aS (bQ ⟨f,d⟩)];rfl,rfl⟩;exact aW (λc=>I) (λc=>.wrap (.ag ⟨by rw[Ee,aC (by rintro(q|q);exact d q.2;omega)];rfl,rfl⟩));refine aW (λc=>?_) (λc=>?_);refine .wrap (aW (λe=>?_) (λe=>?_));exact .ag ⟨by rw[Ee,aS (ba ⟨c,e⟩)];rfl,rfl⟩;exact .wrap (.ag ⟨by rw[Ee,aC (by rintro(q|q);omega;exact e q.2)];rfl,rfl⟩);exact .wrap (.ag ⟨by rw[Ee,aC (by rintro(q|q)<;>omega)];rfl,rfl⟩)
theorem aHu z:((IntKind.u64.wrap z).toNat:Int)=IntKind.u64.wrap z:=by rw[M1];omega
theorem abq{a:gu}{n:Int}{w:World}:wu aD (.unOp .neg t a) [bC .u64 n] w (bC .u64 (IntKind.u64.wrap (-n))) w:=by
 intro d q c b;simp[Op.operands]at b;simp[dD,c,b,Op.unary,Op.intArith]
theorem ajP a h:Fn aD 150 #[R a] h λv aa=>v=eG (oW a)/\aa=h:=by
 have e:eG (oW a)=bC .u64 (IntKind.u64.wrap (if a<0 then-IntKind.u64.wrap a else a)):=by
  show bC .u64 ((oW a:Nat):Int)=_;rw[oW,aHu]
 rw[e];refine bU afH rfl (aW (λq=>?_) (λq=>?_));exact .wrap (.ag (.mk _ (λw _=>abq) (.ag ⟨by rw[aS q];rfl,rfl⟩)));exact .wrap (.ag ⟨by rw[aC q];rfl,rfl⟩)
theorem aki a:oW a<18446744073709551616:=by unfold oW;rw[M1];omega
theorem aBw a b h:Fn aD 191 #[R a,R b] h λv aa=>v=Mu (P1 a b)/\aa=h:=by
 have f:=Wi (oW a) (oW b) h (aki a) (aki b);unfold P1;generalize w' (oW a) (oW b)=d at f⊢;obtain⟨c,av⟩:∃c,c=oW a*oW b%18446744073709551616:=⟨_,rfl⟩;rw[<-av]at f⊢;refine bU afO rfl (.ag (.mk _ (ajP a h) ?_));rintro _ _ ⟨rfl,rfl⟩;refine .ag (.mk _ (ajP b _) ?_);rintro _ _ ⟨rfl,rfl⟩;refine .ag (.mk _ f ?_);rintro _ _ ⟨rfl,rfl⟩;refine aW (λq=>?_) (λq=>?_);exact .ag ⟨by rw[aC I];rfl,rfl⟩;rw[aS I];refine vr (λe=>?_) (λe=>?_);have g:(decide (a<0)==decide (b<0))=false:=by
  cases j:(decide (a<0)==decide (b<0))with
  |false=>rfl
  |true=>rw[j]at e;cases e
 rw[aS g];refine aW (λi=>?_) (λi=>?_);exact .ag ⟨by rw[aS I];rfl,rfl⟩;exact .ag (.mk _ (λw _=>abq) (.wrap (.ag ⟨by rw[aC I];rfl,rfl⟩)));have g:¬(decide (a<0)==decide (b<0))=false:=λj=>by rw[j]at e;cases e
 rw[aC g];refine aW (λi=>?_) (λi=>?_);exact .ag ⟨by rw[aS I];rfl,rfl⟩;exact .wrap (.ag ⟨by rw[aC I];rfl,rfl⟩)
theorem aFY A n c l h(d:bg h 1 A n (gi l))(p:n<=100000):Fn aD 254 #[ab A n c] h λv aa=>v=Mu (Eg 0 l)/\aa=h:=by
 have al:l.length=n:=by simpa using d.len
 refine bU azf rfl (.mk (Nat×Int) [4,8,9,10] (λ(o,t)=>[.v (R t),.v (ab A n c),.v (R n),.v (R o)]) (λ_=>[]) (λ(o,t) aa=>aa=h/\o<=n/\Eg t (l.drop o)=Eg 0 l) (λ(o,_)=>n-o) (0,0) (λ_=>rfl) ⟨rfl,cU _,rfl⟩ rfl rfl (λ⟨o,t⟩ e aa⟨rfl,r,a⟩=>aW (λq=>?_) (λq=>?_)));have f:o<l.length:=I;obtain⟨g,k⟩:=d.b4 I;refine .m g k (.hp (R l[o]) (by rw[bn];exact d.one k (i:=o) (jx f) rfl) ?_);have b:=NG t l[o] aa;rw[l1 f,Eg]at a;cases j:pC t l[o]with
 |none=>
  rw[j]at b a;refine .ag (.mk _ b ?_);rintro _ _ ⟨rfl,rfl⟩;exact .ag ⟨by rw[<-a];rfl,rfl⟩
 |some y=>
  rw[j]at b a;refine .ag (.mk _ b ?_);rintro _ _ ⟨rfl,rfl⟩;exact .bl (⟨(o+1,y),rfl,rfl,⟨rfl,I,a⟩,by show n- (o+1)<n-o;omega⟩)
 have e:o=l.length:=I;rw[py I]at a;exact .ag ⟨by rw[<-a];rfl,rfl⟩
theorem aqt A B n c c2 l m h(f:bg h 1 A n (gi l))(j:bg h 1 B n (gi m))(C:n<=100000):Fn aD 246 #[ab A n c,ab B n c2] h λv aa=>v=Mu (zu 0 l m)/\aa=h:=by
 have al:l.length=n:=by simpa using f.len
 have hm:m.length=n:=by simpa using j.len
 refine bU ay8 rfl (aW (λq=>absurd rfl q) (λ_=>.mk (Nat×Int) [1,6,16,17,18] (λ(o,t)=>[.v (ab B n c2),.v (R t),.v (ab A n c),.v (R n),.v (R o)]) (λ_=>[]) (λ(o,t) aa=>aa=h/\o<=n/\zu t (l.drop o) (m.drop o)=zu 0 l m) (λ(o,_)=>n-o) (0,0) (λ_=>rfl) ⟨rfl,cU _,rfl⟩ rfl rfl (λ⟨o,t⟩ e aa⟨rfl,D,a⟩=>aW (λq=>?_) (λq=>?_))));have k:o<l.length:=I;have r:o<m.length:=I;obtain⟨g,w⟩:=f.b4 I;obtain⟨g2,x⟩:=j.b4 I;refine .m g w (.hp (R l[o]) (by rw[bn];exact f.one w (i:=o) (jx k) rfl) (.m g2 x (.hp (R m[o]) (by rw[bn];exact j.one x (i:=o) (jx r) rfl) ?_)));have d:=aBw l[o] m[o] aa;rw[l1 k,l1 r,zu]at a;cases u:P1 l[o] m[o]with
 |none=>
  rw[u]at d a;refine .ag (.mk _ d ?_);rintro _ _ ⟨rfl,rfl⟩;exact .ag ⟨by rw[<-a];rfl,rfl⟩
 |some p=>
  rw[u]at d a;rw[Option.bind_some]at a;refine .ag (.mk _ d ?_);rintro _ z ⟨rfl,rfl⟩;have b:=NG t p z;cases s:pC t p with
  |none=>
   rw[s]at b a;refine .ag (.mk _ b ?_);rintro _ _ ⟨rfl,rfl⟩;exact .ag ⟨by rw[<-a];rfl,rfl⟩
  |some y=>
   rw[s]at b a;refine .ag (.mk _ b ?_);rintro _ _ ⟨rfl,rfl⟩;exact .bl (⟨(o+1,y),rfl,rfl,⟨rfl,I,a⟩,by show n- (o+1)<n-o;omega⟩)
 rw[py I]at a;exact .ag ⟨by rw[<-a];rfl,rfl⟩
end Go.Sx
