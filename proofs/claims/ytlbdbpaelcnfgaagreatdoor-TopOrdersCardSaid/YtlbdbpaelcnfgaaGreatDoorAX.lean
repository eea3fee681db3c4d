/- A part of the proof that the statement holds. Conditions: none. -/
import Derived.Laws.CopyRow
import Derived.Test.YtlbdbpaelcnfgaaGreatDoorAR
import Derived.Test.YtlbdbpaelcnfgaaGreatDoorAT
import Derived.Test.YtlbdbpaelcnfgaaGreatDoorAU
import Derived.Test.YtlbdbpaelcnfgaaGreatDoorAV
import Derived.Test.YtlbdbpaelcnfgaaGreatDoorAW
open Classical renaming not_not->jL
open Go renaming Addr->aI,Operand->fM,Value->ax,execOp->dk,maxLen->eD
open Go.Builtin renaming copy_->Xl,lenOf->P3
open Go.Obj renaming cells->bb
open Go.Proofs.Tryz renaming prog->aB
open Go.Sem renaming run_bind->ic
open Go.Value renaming bool->c5,int->bA,pointer->gv,slice->ab,tuple->ey
open Int renaming emod_lt_of_pos->Qf,emod_nonneg->Qg,tmod_eq_emod_of_nonneg->akF,toNat_natCast->bz
open List renaming append_assoc->kC,append_nil->s7,drop_append_of_le_length->XQ,drop_eq_getElem_cons->mE,drop_eq_nil_of_le->rm,drop_take->XS,drop_zero->akO,eq_nil_of_length_eq_zero->x9,flatMap_cons->LS,flatten_append->vr,flatten_nil->akT,getD_eq_getElem?_getD->cx,getElem?_drop->Bu,getElem?_eq_getElem->bZ,getElem?_map->dH,getElem?_take->FP,getElem_append_left->akY,getElem_mem->cG,getElem_of_mem->oe,getElem_set_ne->XU,getElem_set_self->Ih,length_append->fc,length_drop->mF,length_map->gz,length_set->h2,length_take->ni,map_append->fF,map_drop->aIN,map_map->iD,map_nil->x',map_replicate->s9,map_set->lM,map_take->FQ,mem_append->ej,mem_cons->ek,mem_cons_of_mem->gX,mem_cons_self->hU,mem_flatMap->s',mem_map->cU,mem_map_of_mem->FR,mem_replicate->Bx,mem_singleton->hV,mem_singleton_self->FT,nodup_append->oS,nodup_cons->iV,not_mem_nil->ya,range->fL,range_succ->Bz,replicate->bh,take_append_drop->FU,take_left->BA
open Nat renaming add_sub_cancel_left->Dq,le_refl->dz,mul_one->eV,zero_add->dM,zero_le->cW
open Ne renaming symm->d'
open Option renaming map_some->rp
open Or renaming inl->bW,inr->bl
open Prod renaming snd->er
namespace Go.Sx
open Go.Proofs
set_option maxRecDepth 100000
set_option maxHeartbeats 0
set_option linter.all false
variable {bm:Array ax}{base dc op:Int}{bx:List (Nat×Nat)}{l:List Int}{xs:List ax}{O a b bE bK bU bX c cO da jd n o size t:Nat}{A:Option aI}{g:aI}{w:ax}
section
variable {l:List Nat}{hn:Nat}{al h1:J}{p:iw}
end
theorem UX{h h1 b aU:J}(le:h.le h1)(e:∀o U,o≠bE->b o=some U->aU o=some U):(mv h1 b bE).le (mv h aU bE):=λo U a=>by
 unfold mv at a⊢;have q:=J.u2 (by rw[a];nofun);rw[J.mw q]at a;rw[J.mw (S:=λo=>h o=none/\o≠bE) ⟨J.none_le le q.1,q.2⟩];exact e o U q.2 a
def IN(r:Option (List (List Int)))(x:gy):gy:=match r with|some _=>{x with n:=x.n+1}|none=>x
def P'(B h:J)(bU bE:Nat)(x:gy)(r:Option (List (List Int)))(v:ax)(aa:J):Prop:=J.lA bE h aa/\ib (B.grow h aa) aa bU bE x/\match r with
 |some outs=>∃A c D,v=ey #[ab A D.length c,R 0]/\D.map cY.l=outs/\RowsIn (mv h aa bE) A D
 |none=>v=ey #[ab none 0 0,R 70]
theorem ap3 Q(e:cy) bU bX a D m(hm:D.length=m)(m16:m<=16) h(s:RowsIn h bX D) b rc ins(p:bf h 1 b m (gT ins))(ak:D.map (λd=>(d.l.length:Int))=ins)(he:[0,1,6,27,28,29].map e=[.v (bY bU),.v (ab bX m a),.v (ab b m rc),.v (ab bX m a),.v (R m),.v (R (0:Nat))])(w:∀e,[0,1].map e=[.v (bY bU),.v (ab bX m a)]->Q (.exit 0) e [] h):kB (λQ e L h=>di aB 59 av4 Q e L h) Q e [] h:=by
 refine .mk Nat [0,1,6,27,28,29] (λk=>[.v (bY bU),.v (ab bX m a),.v (ab b m rc),.v (ab bX m a),.v (R m),.v (R k)]) (λ_=>[]) (λk aa=>aa=h/\k<=m) (λk=>m-k) 0 (λ_=>rfl) ⟨rfl,cW _⟩ he rfl (λo e _⟨rfl,hk⟩=>az λK z P=>z _ _ _ (az λJ y C=>aY (λq=>?_) (λq=>?_)));have j:o<D.length:=I;obtain⟨g,n⟩:=s.dV.cg I;obtain⟨g2,t⟩:=p.cg I;have c1:=s.dV.one n (i:=o) (r:=[D[o].val]) (by unfold HL;rw[dH,bZ j];rfl) rfl;have f:ins[o]?=some (D[o].l.length:Int):=by rw[<-ak,dH,bZ j];rfl
 have c2:=p.one t (i:=o) (r:=[R D[o].l.length]) (by unfold gT;rw[dH,f];rfl) rfl;generalize D[o]=d at c1 c2;obtain⟨A,c,l⟩:=d;exact y _ _ _ (az λN u G=>fb λO F E=>az λT x S=>.m g n (.hp (ab A l.length c) (by rw[bz];exact c1) (x _ _ _ (az λM B H=>.m g2 t (.hp (R l.length) (by rw[bz];exact c2) (B _ _ _ (aY (λq=>absurd rfl q) (λ_=>E _ _ _ _ nofun (u _ _ _ (.bg (⟨o+1,rfl,rfl,⟨rfl,I⟩,by show m- (o+1)<m-o;omega⟩)))))))))));exact C _ _ _ _ nofun (w _ rfl)
theorem ap1{B h:J}{x:gy}(bx:ib B h bU bE x)(le:B.le h)(t1:1<=x.tag)(t2:x.tag<=11)(i16:x.ins.length<=16)(E1:x.outs.length<=16) bX z D m(hm:D.length=m)(en:RowsIn h bX D)(ak:D.map (λd=>(d.l.length:Int))=x.ins) p(sB:0<=p.n/\p.n<=1000000000000)(J0:p.tag=x.tag) r(M:∀h1,h.le h1->ib B h1 bU bE x->Fn aB (O3 x.tag) #[bY bE,ab bX m z] h1 (tc B h1 bU bE p r)):Fn aB 89 #[bY bU,ab bX m z] h (P' B h bU bE (IN r p) r):=by
 have sz:x.ins.length=m:=by rw[<-ak,gz,hm]
 refine b6 aeq rfl (az λgE X gm=>X _ _ _ (az λgA W ev=>W _ _ _ (az λgj O fD=>.hp _ (bV (le _ _ bx.box) rfl) (.mk 244 (bY bE) (λw=>adG t1 t2) (.ah (.mk _ (ahg bx le I I) ?_))))));rintro _ ae ⟨g,R,y,cj,bO,rfl,a,b⟩;refine O _ _ _ (az λgk V ez=>aY (λq=>absurd I q) (λ_=>V _ _ _ (az λhs Q hE=>az λgZ ea g6=>ea _ _ _ (fb λiK Y hg=>?_))));rw[sz]at a⊢;refine .kY (.ah (ap3 iK _ bU bX z D m hm I ae (en.mono g) R y x.ins a ak rfl λe he=>Y _ _ _ (Q _ _ _ ?_)));rw[<-fK [0,1] e,he];refine az λjl H jc=>?_;have E:=bx.up g;refine .hp _ (bV (g _ _ (le _ _ bx.box)) rfl) (.mk (O3 x.tag) (bY bE) (λw=>auk t1 t2) (.ah (.mk _ (M ae g E) (λ_ v⟨A,C,G⟩=>?_))));have i:=bx.o9;have k:=bx.some_;have j:∀aU,(∀o U,o≠bE->v o=some U->aU o=some U)->(B.grow ae v).le (B.grow h aU):=λaU e o U c=>by
  unfold J.grow at c⊢;have q:=J.u2 (by rw[c];nofun);rw[J.mw q]at c;have s:o≠bE:=λF=>by
   rcases q with q|q;exact q (by rw[F];exact i);exact E.some_ (by rw[<-F];exact q)
  rw[J.mw (S:=λo=>B o≠none\/h o=none) (q.imp id λq=>J.none_le g q)];exact e o U s c
 have N:=A _ _ (λe=>by rw[<-e]at i;rw[bx.box]at i;cases i) (g _ _ (le _ _ bx.box));cases r with
 |none=>
  obtain⟨u,rfl⟩:=G;refine H _ _ _ (az λjV L K=>K _ _ _ _ nofun (.ah ⟨λo U c f=>A _ _ c (g _ _ f),?_,rfl⟩));exact C.to (j v λo U _ f=>f) rfl (tp i k)
 |some outs=>
  obtain⟨lJ,Z,ui,rfl,P,T⟩:=G;refine H _ _ _ (az λjV L K=>L _ _ _ (az λkD gK kl=>.hp _ (bV N rfl) (.mk 242 (bY bE) (λw=>auj t1 t2) (.ah (.mk _ (ap7 C sB) ?_)))));rintro _ aU ⟨⟨y8,rfl⟩,t⟩;refine gK _ _ _ (.ah ⟨λo gq c f=>?_,?_,lJ,Z,ui,rfl,P,T.mono (UX g λo gq c f=>?_)⟩);rw[J.cB _ _ c];exact A _ _ c (g _ _ f);exact t.to (j _ λo U c f=>by rw[J.cB _ _ c];exact f) rfl (tp i k);rw[J.cB _ _ c];exact f
theorem ajf:Tryz.prog.underlying 27=some (.slice 3):=e2
theorem aib:(Tryz.prog.info? 3).map (·.size)=some 1:=e2
theorem Y1(a:Array TypeId)(ty:TypeId)(cs:Array Bool)(args:Array ax):builtin .copy a ty cs args=(do pure (.value (<-Xl a ty args))):=rfl
theorem aow{a b:fM}{w:World}{g U c f:Nat}{A:aI}{d h:Nat}{bm:List ax}{cs:List ax}(k:w.heap[g]?=some (bb bm.toArray 3 (0,0)))(r:cs.length=min d c)(m:∀o v,cs[o]?=some v->w.cell? (A.add o)=some v)(n:U+cs.length<=bm.length)(h1:∀v∈cs,v.oneCell'=true):vm aB (.call {callee:=.builtin .copy,args:=#[a,b],argTypes:=#[27,27]}) [ab (some ⟨g,U,none⟩) c f,ab (some A) d h] w (R cs.length) {w with heap:=w.heap.setIfInBounds g (bb (bm.take U++cs++bm.drop (U+cs.length)).toArray 3 (0,0))}:=by
 intro l q t s;have e:=run_copy_row (P:=aB) w 27 27 q.type 3 g U c f A d h bm.toArray 3 cs ajf aib k r m (by simpa using n) h1;have p:[l a,l b]=[ab (some ⟨g,U,none⟩) c f,ab (some A) d h]:=s;injection p with v1 v2;injection v2 with v2 _;simp[dk,t,resolve,invoke,v1,v2];rw[Y1,ic,e];simp[World.setRow,goInt];refine⟨rfl,Array.ext_getElem? λi=>?_⟩;rw[Array.getElem?_modify,Array.getElem?_setIfInBounds];by_cases j:g=i;subst j;have ak:g<w.heap.size:=(Array.getElem?_eq_some_iff.1 k).1;rw[aP rfl,aP rfl,aP ak,k];rfl;rw[aD j,aD j]
theorem aov{a b:fM}{w:World}{A:aI}{d f:Nat}:vm aB (.call {callee:=.builtin .copy,args:=#[a,b],argTypes:=#[27,27]}) [ab (some A) d f,ab none 0 c] w (R 0) w:=by
 intro j q m l;have e:(Xl #[27,27] q.type #[ab (some A) d f,ab none 0 c]).run aB w= .ok (goInt 0) w:=by
  have h:=aib;cases g:Tryz.prog.info? 3 with
  |none=>rw[g]at h;cases h
  |some i=>simp[Xl,run_underlying ajf,P3,Builtin.firstCells,sizeOf,typeInfo,g,storeCells]
 have k:[j a,j b]=[ab (some A) d f,ab none 0 c]:=l;injection k with v1 v2;injection v2 with v2 _;simp[dk,m,resolve,invoke,v1,v2];rw[Y1,ic,e];rfl
abbrev nH(z:Int):Int:=IntKind.i64.wrap z
structure kp where
 base:Int
 size:Int
 at_:Int
 bj:Int
def kp.cells(x:kp):List ax:=[R x.base,R x.size,R x.at_,R x.bj]
def tK(l:List kp):List ax:=(l.map kp.cells).flatten
structure e1 where
 mem:List Int
 lines:List kp
 cL:List (List Int)
 wr:List (List Int)
 ops:List cr
 hP:List Int
 fy:List gy
 cS:List Int
 hand:List Int
 next:Int
 eE:Int
 nF:Bool
 oE:Int
 tL:Nat
 tM:Int
 tI:Nat
structure fe where
 x:e1
 eg:Nat
 eU:Option aI
 lc:Nat
 fG:Nat
 cL:List cY
 gC:Nat
 wr:List cY
 cj:Option aI
 bO:Nat
 iA:Option aI
 hR:Nat
 k9:Option aI
 lR:Nat
 bx:List (Nat×Nat)
 dD:Nat
 aT:Option aI
 ay:Nat
def nO(b n:Nat):ax:=ab (some ⟨b,0,none⟩) n n
def fe.cells(m:fe):List ax:=[nO m.eg m.x.mem.length,ab m.eU m.x.lines.length m.lc,nO m.fG m.cL.length,nO m.gC m.wr.length,ab m.cj m.x.ops.length m.bO,ab m.iA m.x.hP.length m.hR,ab m.k9 m.x.fy.length m.lR,nO m.dD m.x.cS.length,ab m.aT m.x.hand.length m.ay,R m.x.next,R m.x.eE,c5 m.x.nF,R m.x.oE,bA .u8 m.x.tL,R m.x.tM,ab none 0 0,bA .u8 m.x.tI]
def jm(A:Option aI):List Nat:=match A with|some g=>[g.block]|none=>[]
def jM(h:J)(A:Option aI)(l:List Int)(c:Nat):Prop:=(A=none/\l=[]/\c=0)\/∃(b off:Nat)(bm:List ax),A=some ⟨b,off,none⟩/\h b=some (bb bm.toArray 3 (0,0))/\(bm.drop off).take l.length=l.map R/\(0<c->off+c=bm.length)/\off<=bm.length/\l.length<=c/\bm.length<=eD
structure c4(B h:J)(aX:Nat)(m:fe):Prop where
 le:B.le h
 rx:B aX=none
 box:h aX=some (bb m.cells.toArray 115 (0,0))
 mem:h m.eg=some (hh m.x.mem)
 o':B m.eg=none
 mV:bJ h 152 4 m.eU m.x.lines.length m.lc (tK m.x.lines)
 tJ:∀g,m.eU=some g->B g.block=none
 cL:h m.fG=some (bb (m.cL.map cY.val).toArray 27 (0,0))
 tm:B m.fG=none
 rz:m.cL.map cY.l=m.x.cL
 qK:∀d∈m.cL,d.ok B/\d.l.length<=d.c
 wr:h m.gC=some (bb (m.wr.map cY.val).toArray 27 (0,0))
 ue:B m.gC=none
 l3:m.wr.map cY.l=m.x.wr
 jT:∀d∈m.wr,bJ h 3 1 d.A d.l.length d.c (d.l.map R)
 rb:∀d∈m.wr,∀g,d.A=some g->B g.block=none
 p8:m.fG≠m.gC
 ops:bf B 3 m.cj m.x.ops.length (m.x.ops.map cr.cells)
 mB:bf B 1 m.iA m.x.hP.length (gT m.x.hP)
 kt:bf B 1 m.k9 m.x.fy.length (m.bx.map λp=>[bY p.1])
 te:m.bx.length=m.x.fy.length
 dB:∀i(h1:i<m.bx.length)(ae:i<m.x.fy.length),ib B h m.bx[i].1 m.bx[i].2 m.x.fy[i]
 tF:(m.bx.map er).Nodup
 cS:h m.dD=some (hh m.x.cS)
 th:B m.dD=none
 hand:jM h m.aT m.x.hand m.ay
 pB:∀g,m.aT=some g->B g.block=none
 sep:(m.eg::m.dD::(jm m.aT++m.wr.flatMap λd=>jm d.A)).Nodup
def rP(mem:List Int)(b:Nat)(l:List Int):List Int:=mem.take b++l++mem.drop (b+l.length)
def q1:List iU->List Int->List Int
 |[],m=>m
 |x::l,m=>q1 l (rP m x.base.toNat x.st)
def g9(l:List Int):Int:=l.foldl (·+·) 0
def z7(x:nj):gy:=⟨x.tag.toNat,x.a6,zo x.tag.toNat x.a6,0,(b3 x.tag x.a6).2.1,(b3 x.tag x.a6).2.2⟩
def h8(p:iw):e1:=⟨q1 p.lines (bh p.mem.toNat 0),p.lines.map λx=>⟨x.base,x.size,0,x.st.length⟩,bh p.ins.toNat [],bh p.outs.toNat [],p.ops,p.parts.map λx=>g9 (b3 x.tag x.a6).2.1,p.parts.map z7,bh p.bj.toNat 0,[],0,0,false,0,0,0,0⟩
theorem N4{mem:List Int}(h:b+l.length<=mem.length):(rP mem b l).length=mem.length:=by
 simp[rP];omega
def UD(eg T:Nat)(eU:Option aI)(dc lc fG fn gC wn:Nat)(cj:Option aI)(on bO:Nat)(c:Option aI)(a b:Nat)(d:Option aI)(f e dD kf:Nat):List aK:=[.v (nO eg T),.v (ab eU dc lc),.v (nO fG fn),.v (nO gC wn),.v (ab cj on bO),.v (ab c a b),.v (ab d f e),.v (nO dD kf),.v (ab none 0 0),.v (R 0),.v (R 0),.v (c5 false),.v (R 0),.v (bA .u8 0),.v (R 0),.v (ab none 0 0),.v (bA .u8 0)]
theorem an4 a b c d:∀u∈[R a,R b,R c,R d],u.oneCell'=true:=by
 intro u hu;simp only[ek,ya,or_false]at hu;rcases hu with rfl|rfl|rfl|rfl<;>rfl
theorem sS(h:J) b U a:(h.put b U).put b a=h.put b a:=by
 funext o;simp only[J.put];split<;>rfl
theorem az4 Q(e:cy)(p:iw) hp h1(ok:p.ok hp)(eg T fG fn gC wn:Nat) cj on bO dD kf(le:hp.le h1)(m0:hp eg=none)(aA:p.lines.length<=96)(hI:T<=1024) l(u:l.length=T)(Z:∀x∈p.lines,0<=x.base/\0<=x.size/\x.base+x.size<=T/\(x.st.length:Int)<=x.size) perm L(K:uC perm=true)(he:[1,5,52,53,54].map e=([.p 0 0,.p 1 0,.v (ab p.eU p.lines.length p.lc),.v (R p.lines.length),.v (R (0:Nat))]:List aK).map (tY perm))(s:sR L perm=some (([.own (sQ p) 42,.own (UD eg T none 0 0 fG fn gC wn cj on bO none 0 0 none 0 0 dD kf) 115,.row 152 4 none 0 0 []]:List LE).map (pR perm)))(G:∀e A c rows,[1,5].map e=[.p 0 0,.p 1 0]->rows=tK (p.lines.map λx=>⟨x.base,x.size,0,x.st.length⟩)->Q (.exit 0) e [.own (sQ p) 42,.own (UD eg T A p.lines.length c fG fn gC wn cj on bO none 0 0 none 0 0 dD kf) 115,.row 152 4 A p.lines.length c rows] (h1.put eg (hh (q1 p.lines l)))):kB (λQ e L h=>di aB 143 avC Q e L h) Q e L (h1.put eg (hh l)):=by
 unfold sQ UD at G s;unfold nO at G s;refine .AV perm (Nat×Option aI×Nat×List Int) [1,5,52,53,54] (λ(k,_,_,_)=>[.p 0 0,.p 1 0,.v (ab p.eU p.lines.length p.lc),.v (R p.lines.length),.v (R k)])
  (λ(k,A,c,_)=>[.own [.v (R p.mem),.v (R p.bj),.v (R p.ins),.v (R p.outs),.v (ab p.jf p.parts.length p.cN),.v (ab p.eU p.lines.length p.lc),.v (ab p.cj p.ops.length p.bO)] 42,
   .own [.v (ab (some ⟨eg,0,none⟩) T T),.v (ab A k c),.v (ab (some ⟨fG,0,none⟩) fn fn),.v (ab (some ⟨gC,0,none⟩) wn wn),.v (ab cj on bO),.v (ab none 0 0),.v (ab none 0 0),.v (ab (some ⟨dD,0,none⟩) kf kf),.v (ab none 0 0),.v (R 0),.v (R 0),.v (c5 false),.v (R 0),.v (bA .u8 0),.v (R 0),.v (ab none 0 0),.v (bA .u8 0)] 115,
   .row 152 4 A k c (tK ((p.lines.take k).map λx=>⟨x.base,x.size,0,x.st.length⟩))])
  (λ(k,_,_,mem) aa=>aa=h1.put eg (hh mem)/\k<=p.lines.length/\mem.length=T/\q1 (p.lines.drop k) mem=q1 p.lines l) (λ(k,_)=>p.lines.length-k) (0,none,0,l) (λ_=>rfl) ⟨rfl,cW _,u,rfl⟩ he K s ?_
 clear he u s K;rintro⟨k,A,c,mem⟩ e aa ⟨rfl,hk,u,hm⟩;have j:hp.le (h1.put eg (hh mem)):=ll m0 le;refine az λgE de gm=>de _ _ _ (az λgA db ev=>aY (λq=>?_) (λq=>?_));have f:k<p.lines.length:=I;obtain⟨g,t⟩:=ok.lines.cg I;have U:=(ok.lines.mono j).row t (i:=k) (r:=iU.cells p.lines[k]) (by rw[dH,bZ f];rfl);obtain⟨s1,s2,S,V⟩:=Z _ (cG f);have y:=(ok.line _ (cG f)).mono j;have O:p.lines.take (k+1)=p.lines.take k++[p.lines[k]]:=kJ f;rw[mE f,q1]at hm;generalize p.lines[k]=x at U s1 s2 S V y O hm;obtain⟨base,size,wz,n,jo,st⟩:=x;have W:st.length=n:=by simpa using y.len
 simp only at s1 s2 S V hm;refine db _ _ _ (az λgj c6 fD=>fb λgk dZ ez=>az λhs dG hE=>.m g t (.hp [R base,R size,ab wz n jo] rfl (by rw[bz];exact U) (dG _ _ _ (az λgZ ea g6=>.mk base.toNat T I rfl I I λB nU o0=>?_))));obtain⟨d,E,F⟩:∃d:Nat,B=some ⟨eg,d,none⟩/\(d=base.toNat\/n=0/\d=0):=by
  by_cases Y:base.toNat<T;exact⟨base.toNat,by rw[nU Y,rp,add_lit,dM,eV],bW rfl⟩;exact⟨0,o0 I,bl ⟨I,rfl⟩⟩
 subst E;have go:∀(C:ax->J->Prop),(∀v,C v (h1.put eg (hh (rP mem base.toNat st))))->Xz aB (.call {callee:=.builtin .copy,args:=#[.tmp 66,.tmp 68],argTypes:=#[27,27]}) [ab (some ⟨eg,d,none⟩) (T-base.toNat) (T-base.toNat),ab wz n jo] (h1.put eg (hh mem)) C:=by
  intro C P;cases wz with
  |none=>
   have mr:n=0:=by
    by_cases q:n=0;exact q;obtain⟨g,t⟩:=y.cg q;cases t
   subst mr;have H:st=[]:=x9 W;subst H;refine .mk (R 0) (λw _=>aov) ?_;have:rP mem base.toNat []=mem:=by simp[rP]
   have q:=P (R 0);rwa[this]at q
  |some a=>
   have X:(mem.map R).take d++st.map R++(mem.map R).drop (d+(st.map R).length)=(rP mem base.toNat st).map R:=by
    rcases F with rfl|⟨mr,rfl⟩;simp[rP,FQ,aIN];have H:st=[]:=x9 I;subst H;simp[rP]
   refine .put (R (st.map R).length) eg _ (hh (rP mem base.toNat st)) (J.b1 _ _ _) (λw hw=>?_) ?_;unfold hh;rw[<-X];refine aow (hw _ _ (J.b1 _ _ _)) (by rw[gz];omega) (λo v b=>?_) (by simp only[gz];omega) (λv b=>by obtain⟨z,_,rfl⟩:=cU.1 b;rfl);rw[dH]at b;cases D:st[o]?with
   |none=>rw[D]at b;cases b
   |some z=>
    rw[D]at b;injection b with b;have:=y.cell a rfl o [R z] (by rw[dH];show(st[o]?).map _=_;rw[D];rfl) 0 (R z) rfl;rw[<-b];exact hw.cell (by simpa using this)
   rw[sS];exact P _
 refine .ah (go _ λv=>ea _ _ _ (.c3 2 _ [R base,R size,R 0,R n] rfl rfl (an4 _ _ _ _) (by unfold eD;omega) I λM N aT=>ez _ _ _ _ nofun (c6 _ _ _ (.bg (⟨(k+1,M,N,rP mem base.toNat st),rfl,?_,⟨rfl,f,by rw[N4 I];exact u,hm⟩,by show p.lines.length- (k+1)<p.lines.length-k;omega⟩)))));have xi:tK ((p.lines.take (k+1)).map λx=>(⟨x.base,x.size,0,x.st.length⟩:kp))=tK ((p.lines.take k).map λx=>(⟨x.base,x.size,0,x.st.length⟩:kp))++[R base,R size,R 0,R n]:=by
  rw[O,fF,tK,fF,vr,<-W];rfl
 show _=[_,_,LE.row 152 4 M (k+1) N (tK ((p.lines.take (k+1)).map λx=>(⟨x.base,x.size,0,x.st.length⟩:kp)))];rw[xi];rfl;refine ev _ _ _ _ nofun ?_;obtain rfl:k=p.lines.length:=by omega
 rw[List.drop_length,q1]at hm;subst hm;exact G _ A c _ rfl (by rw[List.take_length])
theorem aD1 l x:g9 (l++[x])=g9 l+x:=by simp[g9]
theorem aiz:∀l,ut l->0<=g9 l/\g9 l<=64*l.length:=by
 intro l;have key:∀(l:List Int)(a:Int),ut l->a<=l.foldl (·+·) a/\l.foldl (·+·) a<=a+64*l.length:=by
  intro l;induction l with
  |nil=>simp
  |cons x l c=>
   intro a h;have d:=h x (hU ..);have:=c (a+x) λr b=>h r (gX _ b)
   grind
 intro h;have:=key l 0 h;unfold g9;omega
structure x0(al h:J)(q4:List Nat)(bx:List (Nat×Nat))(iZ:List gy):Prop where
 len:bx.length=iZ.length
 dB:∀i(h1:i<bx.length)(ae:i<iZ.length),ib (h.on λo=>o∉q4/\o∉bx.map er) h bx[i].1 bx[i].2 iZ[i]
 dS:(bx.map er).Nodup
 new:∀q∈bx,al q.2=none
theorem x0.up{al h aa:J}{c:List Nat}{d:List gy}(x:x0 al h c bx d)(le:h.le aa):x0 al aa c bx d:=by
 refine⟨x.len,λi h1 ae=>?_,x.dS,x.new⟩;have b:=x.dB i h1 ae;have e:=b.some_;refine b.to (λo U a=>?_) ?_ ?_;have q:=J.u2 (by rw[a];nofun);rw[J.mw q]at a;rw[J.mw (S:=λo=>o∉c/\o∉bx.map er) q];exact le _ _ a;cases hk:h bx[i].2 with
 |none=>grind
 |some U=>exact(le _ _ hk).symm
 unfold J.on
 grind
theorem x0.add{al h aa:J}{f:List Nat}{j:List gy}(x:x0 al h f bx j)(g:al.le h)(le:h.le aa)(p:∀b∈f,al b≠none){y:gy}(hk:h bE=none)(b:ib (mv h aa bE) aa bU bE y):x0 al aa f (bx++[(bU,bE)]) (j++[y]):=by
 have ak:=x.len;have c3:∀q∈bx.map er,h q≠none:=λq c=>by
  obtain⟨r,s,rfl⟩:=cU.1 c;obtain⟨i,k,rfl⟩:=oe s;exact(x.dB i k I).some_
 have own:∀q∈f,h q≠none:=λq c e=>p q c (J.none_le g e);have em:(bx++[(bU,bE)]).map er=bx.map er++[bE]:=bd;refine⟨by simp[ak],λi h1 ae=>?_,?_,?_⟩;by_cases k:i<bx.length;have bi:=x.dB i k I;have w:=bi.some_;have n:(bx++[(bU,bE)])[i]=bx[i]:=akY k;have l:(j++[y])[i]=j[i]'I:=akY I;rw[n,l];refine bi.to (λo U d=>?_) ?_ ?_;have q:=J.u2 (by rw[d];nofun);rw[J.mw q]at d;rw[J.mw (S:=λo=>o∉f/\o∉(bx++[(bU,bE)]).map er) ⟨q.1,aJ⟩];exact le _ _ d;cases hk:h bx[i].2 with
 |none=>grind
 |some U=>exact(le _ _ hk).symm
 unfold J.on
 grind
 have t:i=bx.length:=aJ;have n:(bx++[(bU,bE)])[i]=(bU,bE):=aJ;have l:(j++[y])[i]=y:=aJ;rw[n,l];refine b.to (λo U d=>?_) rfl ?_;unfold mv at d;have q:=J.u2 (by rw[d];nofun);rw[J.mw q]at d;rw[J.mw (S:=λo=>o∉f/\o∉(bx++[(bU,bE)]).map er) ⟨λm=>own o m q.1,aJ⟩];exact d;unfold J.on;simp;rw[em,oS];exact⟨x.dS,bd,λa u b v=>aJ⟩;intro q c;rcases ej.1 c with c|c;exact x.new q c;rw[hV]at c;subst c;exact J.none_le g hk
section
variable (p:iw)(eg T fG fn gC wn:Nat)(eU:Option aI)(dc lc:Nat)(cj:Option aI)(on bO dD kf:Nat)
theorem aD2 Q(e:cy) h(k:Nat) d b f a l j bU t0 t1 n z m ins(s:bf h 1 n m (gT ins))(y:ut ins)(hm:m<=16)(he:[5,10,12,89,90,91,111,112,113].map e=[.p 1 0,.v (bY bU),.v (R 0),.v (ab p.jf p.parts.length p.cN),.v (R p.parts.length),.v (R k),.v (ab n m z),.v (R m),.v (R (0:Nat))])(B:∀e,[5,10,12,89,90,91].map e=[.p 1 0,.v (bY bU),.v (R (g9 ins)),.v (ab p.jf p.parts.length p.cN),.v (R p.parts.length),.v (R k)]->Q (.exit 4) e [.own [.v (R p.mem),.v (R p.bj),.v (R p.ins),.v (R p.outs),.v (ab p.jf p.parts.length p.cN),.v (ab p.eU p.lines.length p.lc),.v (ab p.cj p.ops.length p.bO)] 42,.own [.v (ab (some ⟨eg,0,none⟩) T T),.v (ab eU dc lc),.v (ab (some ⟨fG,0,none⟩) fn fn),.v (ab (some ⟨gC,0,none⟩) wn wn),.v (ab cj on bO),.v (ab b k a),.v (ab d k f),.v (ab (some ⟨dD,0,none⟩) kf kf),.v (ab none 0 0),.v (R 0),.v (R 0),.v (c5 false),.v (R 0),.v (bA .u8 0),.v (R 0),.v (ab none 0 0),.v (bA .u8 0)] 115,.gone,.row 121 1 d k f l,.row 3 1 b k a j,.own [.v t0,.v t1] 138] h):kB (λQ e L h=>di aB 143 avE Q e L h) Q e [.own [.v (R p.mem),.v (R p.bj),.v (R p.ins),.v (R p.outs),.v (ab p.jf p.parts.length p.cN),.v (ab p.eU p.lines.length p.lc),.v (ab p.cj p.ops.length p.bO)] 42,.own [.v (ab (some ⟨eg,0,none⟩) T T),.v (ab eU dc lc),.v (ab (some ⟨fG,0,none⟩) fn fn),.v (ab (some ⟨gC,0,none⟩) wn wn),.v (ab cj on bO),.v (ab b k a),.v (ab d k f),.v (ab (some ⟨dD,0,none⟩) kf kf),.v (ab none 0 0),.v (R 0),.v (R 0),.v (c5 false),.v (R 0),.v (bA .u8 0),.v (R 0),.v (ab none 0 0),.v (bA .u8 0)] 115,.gone,.row 121 1 d k f l,.row 3 1 b k a j,.own [.v t0,.v t1] 138] h:=by
 refine .mk Nat [5,10,12,89,90,91,111,112,113] (λo=>[.p 1 0,.v (bY bU),.v (R (g9 (ins.take o))),.v (ab p.jf p.parts.length p.cN),.v (R p.parts.length),.v (R k),.v (ab n m z),.v (R m),.v (R o)]) (λ_=>[.own [.v (R p.mem),.v (R p.bj),.v (R p.ins),.v (R p.outs),.v (ab p.jf p.parts.length p.cN),.v (ab p.eU p.lines.length p.lc),.v (ab p.cj p.ops.length p.bO)] 42,.own [.v (ab (some ⟨eg,0,none⟩) T T),.v (ab eU dc lc),.v (ab (some ⟨fG,0,none⟩) fn fn),.v (ab (some ⟨gC,0,none⟩) wn wn),.v (ab cj on bO),.v (ab b k a),.v (ab d k f),.v (ab (some ⟨dD,0,none⟩) kf kf),.v (ab none 0 0),.v (R 0),.v (R 0),.v (c5 false),.v (R 0),.v (bA .u8 0),.v (R 0),.v (ab none 0 0),.v (bA .u8 0)] 115,.gone,.row 121 1 d k f l,.row 3 1 b k a j,.own [.v t0,.v t1] 138]) (λo aa=>aa=h/\o<=m) (λo=>m-o) 0 (λ_=>rfl) ⟨rfl,cW _⟩ he rfl ?_;rintro o e _ ⟨rfl,hk⟩;have ak:ins.length=m:=by simpa using s.len
 refine az λO E U=>E _ _ _ (az λN D F=>aY (λq=>?_) (λq=>?_));have u:o<ins.length:=I;obtain⟨g,w⟩:=s.cg I;have c:=s.one w (i:=o) (r:=[R ins[o]]) aJ rfl;have H:ins.take (o+1)=ins.take o++[ins[o]]:=kJ u;have s1:=aiz (ins.take o) λr J=>y r (List.mem_of_mem_take J);have s2:=y _ (cG u);have X:(ins.take o).length<=16:=aJ;have t:=aD1 (ins.take o) ins[o];rw[<-H]at t;generalize ins[o]=x at c s2 t;refine D _ _ _ (az λP A M=>fb λS K G=>az λW C V=>.m g w (.hp (R x) aJ (C _ _ _ (.bg (G _ _ _ _ nofun (A _ _ _ (.bg (⟨o+1,?_,rfl,⟨rfl,I⟩,I⟩))))))));show _=[_,_,aK.v (R (g9 (ins.take (o+1)))),_,_,_,_,_,_];rw[t];rfl;refine F _ _ _ _ nofun (B _ ?_);show _=[_,_,aK.v (R (g9 ins)),_,_,_];rw[show g9 ins=g9 (ins.take o) by grind];rfl
theorem az5 Q(e:cy) al B(ok:p.ok al)(U:∀b∈B,al b≠none)(aA:p.parts.length<=32)(V:∀x∈p.parts,(b3 x.tag x.a6).1=0)(he:[5,89,90,91].map e=[.p 1 0,.v (ab p.jf p.parts.length p.cN),.v (R p.parts.length),.v (R (0:Nat))])(X:∀e aa w y s o bx G F,[5].map e=[.p 1 0]->al.le aa->x0 al aa B bx (p.parts.map z7)->G=bx.map (λq=>bY q.1)->F=(p.parts.map λx=>R (g9 (b3 x.tag x.a6).2.1))->Q (.exit 2) e [.own [.v (R p.mem),.v (R p.bj),.v (R p.ins),.v (R p.outs),.v (ab p.jf p.parts.length p.cN),.v (ab p.eU p.lines.length p.lc),.v (ab p.cj p.ops.length p.bO)] 42,.own [.v (ab (some ⟨eg,0,none⟩) T T),.v (ab eU dc lc),.v (ab (some ⟨fG,0,none⟩) fn fn),.v (ab (some ⟨gC,0,none⟩) wn wn),.v (ab cj on bO),.v (ab s p.parts.length o),.v (ab w p.parts.length y),.v (ab (some ⟨dD,0,none⟩) kf kf),.v (ab none 0 0),.v (R 0),.v (R 0),.v (c5 false),.v (R 0),.v (bA .u8 0),.v (R 0),.v (ab none 0 0),.v (bA .u8 0)] 115,.gone,.row 121 1 w p.parts.length y G,.row 3 1 s p.parts.length o F] aa):kB (λQ e L h=>di aB 143 avD Q e L h) Q e [.own [.v (R p.mem),.v (R p.bj),.v (R p.ins),.v (R p.outs),.v (ab p.jf p.parts.length p.cN),.v (ab p.eU p.lines.length p.lc),.v (ab p.cj p.ops.length p.bO)] 42,.own [.v (ab (some ⟨eg,0,none⟩) T T),.v (ab eU dc lc),.v (ab (some ⟨fG,0,none⟩) fn fn),.v (ab (some ⟨gC,0,none⟩) wn wn),.v (ab cj on bO),.v (ab none 0 0),.v (ab none 0 0),.v (ab (some ⟨dD,0,none⟩) kf kf),.v (ab none 0 0),.v (R 0),.v (R 0),.v (c5 false),.v (R 0),.v (bA .u8 0),.v (R 0),.v (ab none 0 0),.v (bA .u8 0)] 115,.gone,.row 121 1 none 0 0 [],.row 3 1 none 0 0 []] al:=by
 refine .mk (Nat×Option aI×Nat×Option aI×Nat×List (Nat×Nat)) [5,89,90,91] (λ(k,_)=>[.p 1 0,.v (ab p.jf p.parts.length p.cN),.v (R p.parts.length),.v (R k)]) (λ(k,w,y,s,o,bx)=>[.own [.v (R p.mem),.v (R p.bj),.v (R p.ins),.v (R p.outs),.v (ab p.jf p.parts.length p.cN),.v (ab p.eU p.lines.length p.lc),.v (ab p.cj p.ops.length p.bO)] 42,.own [.v (ab (some ⟨eg,0,none⟩) T T),.v (ab eU dc lc),.v (ab (some ⟨fG,0,none⟩) fn fn),.v (ab (some ⟨gC,0,none⟩) wn wn),.v (ab cj on bO),.v (ab s k o),.v (ab w k y),.v (ab (some ⟨dD,0,none⟩) kf kf),.v (ab none 0 0),.v (R 0),.v (R 0),.v (c5 false),.v (R 0),.v (bA .u8 0),.v (R 0),.v (ab none 0 0),.v (bA .u8 0)] 115,.gone,.row 121 1 w k y (bx.map λq=>bY q.1),.row 3 1 s k o ((p.parts.take k).map λx=>R (g9 (b3 x.tag x.a6).2.1))]) (λ(k,_,_,_,_,bx) aa=>al.le aa/\k<=p.parts.length/\x0 al aa B bx ((p.parts.take k).map z7)) (λ(k,_)=>p.parts.length-k) (0,none,0,none,0,[]) (λ_=>rfl) ⟨J.le_refl _,cW _,rfl,bd,.nil,bd⟩ he rfl ?_;clear he;refineλ⟨k,w,y,s,o,bx⟩ e h⟨le,hk,w8⟩=>az λgE de gm=>de _ _ _ (az λgA db ev=>aY (λq=>?_) (λq=>?_))
 .have z:k<p.parts.length:=I;obtain⟨g,H⟩:=ok.parts.cg I;have c:=(ok.parts.mono le).row H (i:=k) (r:=nj.cells p.parts[k]) aJ;have s1:=V _ (cG z);have E:=(ok.part _ (cG z)).mono le;have fB:p.parts.take (k+1)=p.parts.take k++[p.parts[k]]:=kJ z;generalize p.parts[k]=x at c s1 E fB;obtain⟨tag,A,n,jo,a⟩:=x;simp only at s1;obtain⟨⟨t,rfl,t1,t2⟩,_⟩:=Wl s1;have Er:=Wk s1;have yQ:a.length=n:=by simpa using E.len
  have du:z7 ⟨t,A,n,jo,a⟩=⟨t,a,zo t a,0,(b3 t a).2.1,(b3 t a).2.2⟩:=dC;have rJ:(b3 (t:Int) a).2.1.length<=16/\(b3 (t:Int) a).2.2.length<=16:=A8 (t:Int) a;have O:=Ld (t:Int) a;refine db _ _ _ (az λgj W fD=>fb λgk dZ ez=>az λhs Z hE=>.m g H (.hp [bA .u8 t,ab A n jo] rfl (by rw[bz];exact c) (Z _ _ _ (az λgZ ea g6=>.ah (.mk _ (az3 t A n jo a h E I s1) ?_)))));rintro _ ae ⟨K,bU,bE,rfl,sA,N⟩;refine ea _ _ _ (az λiK eT hg=>az λjl fa jc=>fa _ _ _ (eT _ _ _ (az λjV hf h6=>hf _ _ _ (az λkD gK kl=>.ah (.mk _ (ah2 N (J.AW _ _) aJ aJ t1 t2) ?_)))));rintro _ D ⟨M,dR,Y,S,Hp,rfl,eC,_⟩;have P:=(w8.add le K U sA N).up M;refine gK _ _ _ (az λr8 kS rO=>az λpt kx oD=>kx _ _ _ (fb λtb mn wi=>.kY (.ah (aD2 p eg T fG fn gC wn eU dc lc cj on bO dD kf tb _ D k w s y o _ _ bU (bA .u8 t) (ab A n jo) dR Y _ _ eC O.1 rJ.1 rfl λe he=>mn _ _ _ (kS _ _ _ ?_)))));rw[<-fK [5,10,12,89,90,91] e,he];have wc:=aiz _ O.1;have uD:(bx++[(bU,bE)]).map (λq=>bY q.1)=bx.map (λq=>bY q.1)++[bY bU]:=bd;have j6:(p.parts.take (k+1)).map (λx=>R (g9 (b3 x.tag x.a6).2.1))=(p.parts.take k).map (λx=>R (g9 (b3 x.tag x.a6).2.1))++[R (g9 (b3 (t:Int) a).2.1)]:=aJ;have C:x0 al D B (bx++[(bU,bE)]) ((p.parts.take (k+1)).map z7):=by
   grind
  have fin:∀(e:cy)(L:List LE)(d:Option aI)(f:Nat)(j:Option aI)(l:Nat),[5,89,90,91].map e=[.p 1 0,.v (ab p.jf p.parts.length p.cN),.v (R p.parts.length),.v (R k)]->L.take 5=[.own [.v (R p.mem),.v (R p.bj),.v (R p.ins),.v (R p.outs),.v (ab p.jf p.parts.length p.cN),.v (ab p.eU p.lines.length p.lc),.v (ab p.cj p.ops.length p.bO)] 42,.own [.v (ab (some ⟨eg,0,none⟩) T T),.v (ab eU dc lc),.v (ab (some ⟨fG,0,none⟩) fn fn),.v (ab (some ⟨gC,0,none⟩) wn wn),.v (ab cj on bO),.v (ab j (k+1) l),.v (ab d (k+1) f),.v (ab (some ⟨dD,0,none⟩) kf kf),.v (ab none 0 0),.v (R 0),.v (R 0),.v (c5 false),.v (R 0),.v (bA .u8 0),.v (R 0),.v (ab none 0 0),.v (bA .u8 0)] 115,.gone,.row 121 1 d (k+1) f ((bx.map λq=>bY q.1)++[bY bU]),.row 3 1 j (k+1) l (((p.parts.take k).map λx=>R (g9 (b3 x.tag x.a6).2.1))++[R (g9 (b3 (t:Int) a).2.1)])]->gk .normal e L D:=by
   refineλe L d f j l gR p9=>ez _ _ _ _ nofun (W _ _ _ ?_);rw[<-fK [5,89,90,91] e,gR];refine .bg (⟨(k+1,d,f,j,l,bx++[(bU,bE)]),rfl,?_,⟨J.le_trans le (J.le_trans K M),z,C⟩,aJ⟩)
   grind
  have j0:k+1<=eD:=by unfold eD;omega
  refine⟨?_,?_⟩
  .refine⟨?_,?_⟩;all_goals
    exact .c3 3 _ [bY bU] rfl rfl (by intro u hu;rw[hV]at hu;subst hu;rfl) j0 I λd f _=>.c3 4 _ [R (g9 (b3 (t:Int) a).2.1)] rfl rfl (by intro u hu;rw[hV]at hu;subst hu;rfl) j0 I λj l _=>fin _ _ d f j l rfl rfl
  exact .c3 3 _ [bY bU] rfl rfl (by intro u hu;rw[hV]at hu;subst hu;rfl) j0 I λd f _=>.c3 4 _ [R (g9 (b3 (t:Int) a).2.1)] rfl rfl (by intro u hu;rw[hV]at hu;subst hu;rfl) j0 I λj l _=>fin _ _ d f j l rfl rfl
 refine ev _ _ _ _ nofun ?_;obtain rfl:k=p.parts.length:=by omega
 refine X _ _ w y s o bx _ _ rfl le ?_ rfl bd
 grind
end
def Ah:cY:=⟨none,0,[]⟩
theorem On:∀(l:List iU)(m:List Int) T,m.length=T->(∀x∈l,0<=x.base/\x.base+x.st.length<=T)->(q1 l m).length=T
 |[],_,_,h,_=>h
 |x::l,m,T,h,a=>by
  have c:=a x (hU ..);exact On l _ T (by rw[N4 I];exact h) λy b=>a y (gX _ b)
theorem bJ.ty{h:J}{cap:Nat}(r:bJ h bK size (some g) n cap xs):∃bm,h g.block=some (bb bm bK (0,0)):=by
 obtain⟨b,ar,rfl,a,_⟩:=r.split;exact⟨_,a⟩
theorem gp{h:J}{x y:Array ax}{s:Nat}(c:h a=some (bb x s (0,0)))(f:h b=some (bb y t (0,0)))(d:s≠t):a≠b:=λe=>by
 rw[e,f]at c;injection c with c;injection c with _ q;exact d q.symm
noncomputable def J.zj(h:J)(S:List Nat):J:=h.on λo=>o∉S
variable {B aU aa h:J}{K:List LE->J->Prop}
theorem J.aC8(h:J) S:(h.zj S).le h:=J.AW _ _
theorem J.Fh{S:List Nat}(a:o∈S):h.zj S o=none:=by
 unfold J.zj J.on;rw[aD λq=>q a]
theorem J.ahT{S:List Nat}(a:o∉S):h.zj S o=h o:=J.mw a
theorem bJ.zj{h:J}{bK size n cap:Nat}{A:Option aI}{xs:List ax}{S:List Nat}(x:bJ h bK size A n cap xs)(dr:∀g,A=some g->g.block∉S):bJ (h.zj S) bK size A n cap xs:=bJ.on x dr
theorem oF(e:A=some g):g.block∈jm A:=by subst e;exact FT _
theorem n2(h:o∈jm A):∃g,A=some g/\g.block=o:=by
 cases A with
 |none=>cases h
 |some g=>rw[jm,hV]at h;exact⟨g,rfl,h.symm⟩
theorem ay8{p:iw}{k l D:J}{N C eg fG gC dD aX:Nat}{eU cj H F:Option aI}{lc bO T Q:Nat}(dE:p.mem=N)(hC:p.bj=C)(Y:p.ins=bX)(hO:p.outs=O)(M:∀x∈p.lines,0<=x.base/\x.base+x.st.length<=p.mem)(P:h.le k)(hm:k eg=some (hh (h8 p).mem))(K:k fG=some (bb (bh bX (ab none 0 0)).toArray 27 (0,0)))(hw:k gC=some (bb (bh O (ab none 0 0)).toArray 27 (0,0)))(ay:k dD=some (hh (bh C 0)))(W:bJ k 152 4 eU p.lines.length lc (tK (h8 p).lines))(m0:h eg=none)(f0:h fG=none)(a':h gC=none)(gl:h dD=none)(sH:∀g,eU=some g->h g.block=none)(OC:fG≠gC)(U0:eg≠dD)(ro:bJ k 66 3 cj p.ops.length bO (hx p.ops))(G:k.le l)(z:x0 k l ([eg,fG,gC,dD]++jm eU) bx (p.parts.map z7))(u:l aX=none){cs:Array ax}(fN:cs=#[ab (some ⟨eg,0,none⟩) N N,ab eU p.lines.length lc,ab (some ⟨fG,0,none⟩) bX bX,ab (some ⟨gC,0,none⟩) O O,ab cj p.ops.length bO,ab F p.parts.length Q,ab H p.parts.length T,ab (some ⟨dD,0,none⟩) C C,ab none 0 0,R 0,R 0,c5 false,R 0,bA .u8 0,R 0,ab none 0 0,bA .u8 0])(I:(l.put aX (bb cs 115 (0,0))).le D)(KX:bJ D 121 1 H p.parts.length T (bx.map λq=>bY q.1))(f7:∀g,H=some g->(l.put aX (bb cs 115 (0,0))) g.block=none)(X:bJ D 3 1 F p.parts.length Q (p.parts.map λx=>R (g9 (b3 x.tag x.a6).2.1)))(f8:∀g,F=some g->(l.put aX (bb cs 115 (0,0))) g.block=none):∃B m,h.le B/\c4 B D aX m/\m.x=h8 p/\m.cL=bh p.ins.toNat Ah:=by
 have v:k.le D:=J.le_trans G (J.le_trans (J.dI u) I);have tr:∀q∈bx,l q.2≠none:=λq y=>by
  obtain⟨i,ai,rfl⟩:=oe y;exact(z.dB i ai (by have:=z.len;omega)).some_
 have E:∀o∈[eg,fG,gC,dD]++jm eU,k o≠none/\h o=none:=λo a=>by
  simp only[ej,ek,ya,or_false]at a;rcases a with(rfl|rfl|rfl|rfl)|a;exact⟨by rw[hm];nofun,m0⟩;exact⟨by rw[K];nofun,f0⟩;exact⟨by rw[hw];nofun,a'⟩;exact⟨by rw[ay];nofun,gl⟩;obtain⟨g,j,rfl⟩:=n2 a;subst j;exact⟨W.mem rfl,sH g rfl⟩
 obtain⟨S,dr⟩:∃S,S=aX::([eg,fG,gC,dD]++jm eU++bx.map er):=⟨_,rfl⟩;have t:∀o,o∈S↔o=aX\/o∈[eg,fG,gC,dD]++jm eU\/o∈bx.map er:=λo=>by rw[dr,ek,ej]
 have L:∀o∈S,(l.put aX (bb cs 115 (0,0))) o≠none:=λo a=>by
  rcases(t o).1 a with rfl|a|a;rw[J.b1];nofun;have:=(E o a).1;cases q:k o with
  |none=>exact absurd q this
  |some U=>rw[J.dI u _ _ (G _ _ q)];nofun
  obtain⟨q,y,rfl⟩:=cU.1 a;have:=tr q y;cases e:l q.2 with
  |none=>exact absurd e this
  |some U=>rw[J.dI u _ _ e];nofun
 have new:∀{A:Option aI},(∀g,A=some g->(l.put aX (bb cs 115 (0,0))) g.block=none)->∀g,A=some g->g.block∉S:=λf g j a=>L _ a (f g j);have Ay:(h8 p).mem.length=N:=On _ _ N (by simp[dE]) λx af=>by have:=M x af;omega
 refine⟨D.zj S,⟨h8 p,eg,eU,lc,fG,bh bX Ah,gC,bh O Ah,cj,bO,F,Q,H,T,bx,dD,none,0⟩,λo U a=>?_,?_,rfl,by rw[Y];rfl⟩;rw[J.ahT];exact v _ _ (P _ _ a);intro s;rcases(t o).1 s with rfl|s|s;rw[J.none_le (J.le_trans P G) u]at a;cases a;rw[(E o s).2]at a;cases a;obtain⟨q,y,rfl⟩:=cU.1 s;rw[J.none_le P (z.new q y)]at a;cases a;have out:∀{A:Option aI}{n c:Nat}{xs:List ax},bJ k 66 3 A n c xs->∀g,A=some g->g.block∉S:=by
  intro A n c xs r g j a;subst j;obtain⟨bm,j⟩:=r.ty;rcases(t _).1 a with e|a|a;rw[e,J.none_le G u]at j;cases j;simp only[ej,ek,ya,or_false]at a;rcases a with(e|e|e|e)|a;exact gp j hm aM e;exact gp j K aM e;exact gp j hw aM e;exact gp j ay aM e;obtain⟨cf,dP,e⟩:=n2 a;subst dP;obtain⟨ZN,ak⟩:=W.ty;exact gp j ak aM e.symm;obtain⟨q,y,e⟩:=cU.1 a;rw[<-e,z.new q y]at j;cases j
 have Z:(h8 p).lines.length=p.lines.length:=by simp[h8]
 have e9:(h8 p).ops.length=p.ops.length:=rfl;have iB:(h8 p).hP.length=p.parts.length:=by simp[h8]
 have V:(h8 p).fy.length=p.parts.length:=by simp[h8]
 have Be:(h8 p).cS.length=C:=by simp[h8,hC]
 refine⟨J.aC8 _ _,J.Fh ((t _).2 (bW rfl)),?_,v _ _ hm,J.Fh ((t _).2 (bl (bW bd))),?_,λg j=>J.Fh ((t _).2 (bl (bW (List.mem_append_right _ (oF j))))),?_,J.Fh ((t _).2 (bl (bW bd))),?_,?_,?_,J.Fh ((t _).2 (bl (bW bd))),?_,?_,?_,OC,?_,?_,?_,?_,λi h1 ae=>?_,z.dS,?_,J.Fh ((t _).2 (bl (bW bd))),bW ⟨rfl,rfl,rfl⟩,nofun,?_⟩;rw[I _ _ (J.b1 _ _ _),fN];simp only[fe.cells,Ay,Z,e9,iB,V,Be,List.length_replicate];rfl;simp only[Z];exact W.mono v;have:=v _ _ K;simp only[s9];exact this;simp only[s9,h8,Y,bz];rfl;intro d w;obtain⟨_,rfl⟩:=Bx.1 w;exact⟨bf.nil _ _ _,dz _⟩;have:=v _ _ hw;simp only[s9];exact this;simp only[s9,h8,hO,bz];rfl;intro d w;obtain⟨_,rfl⟩:=Bx.1 w;exact⟨rfl,bW ⟨rfl,rfl,rfl⟩⟩;intro d w g j;obtain⟨_,rfl⟩:=Bx.1 w;cases j;exact((ro.mono v).zj (S:=S) (out ro)).dV (λr aq=>by obtain⟨x,_,rfl⟩:=cU.1 aq;rfl) aM;simp only[iB];have e:(p.parts.map λx=>R (g9 (b3 x.tag x.a6).2.1))=(h8 p).hP.map R:=by simp[h8]
 rw[e]at X;exact(X.zj (S:=S) (new f8)).one;simp only[V];have:=(KX.zj (S:=S) (new f7)).eQ;rw[iD]at this;exact this;simp only[V];have:=z.len;simpa using this;have b:=z.dB i h1 ae;refine b.to (λo U a=>?_) ?_ ?_;have q:=J.u2 (by rw[a];nofun);rw[J.mw q]at a;rw[J.ahT];exact I _ _ (J.dI u _ _ a);intro s;rcases(t o).1 s with rfl|s|s;rw[u]at a;cases a;exact q.1 s;exact q.2 s;have M:=b.some_;cases e:l bx[i].2 with
 |none=>exact absurd e M
 |some U=>exact(I _ _ (J.dI u _ _ e)).symm
 exact J.Fh ((t _).2 (bl (bl (FR (cG h1)))));simp only[h8,hC,bz];exact v _ _ ay;have:(bh O Ah).flatMap (λd=>jm d.A)=[]:=by
  rw[List.flatMap_eq_nil_iff];intro d w;obtain⟨_,rfl⟩:=Bx.1 w;rfl
 rw[this];simpa[jm]using U0
theorem sT{U:Obj}(a:h b=some U):h.put b U=h:=by
 funext o;simp only[J.put];split;rename_i e;rw[e,a];rfl
theorem bJ.whole(r:bJ h bK size (some g) n n xs):∃b,g=⟨b,0,none⟩/\h b=some (bb xs.toArray bK (0,0)):=by
 obtain⟨b,ar,e,a,ak,_⟩:=r.split;rw[Nat.sub_self,Nat.zero_mul]at ak;rw[x9 ak,s7]at a;exact⟨b,e,a⟩
theorem Sa{bq a:aI}{ae:J}{aO:List ax} g h i j l(k:∀b,ae.le b->bJ b 27 1 (some bq) bX bX xs->bJ b 27 1 (some a) O O aO->ae bq.block=none->ae a.block=none->bq.block≠a.block->hc K [g,h,i,j,l,.gone,.gone] b):hc K [g,h,i,j,l,.row 27 1 (some bq) bX bX xs,.row 27 1 (some a) O O aO] ae:=.b4 5 27 1 (some bq) bX bX _ rfl λ_ f c f3=>.b4 6 27 1 (some a) O O _ rfl λaU d m f4=>k aU (J.le_trans f d) (c.mono d) m (f3 bq rfl) (J.none_le f (f4 a rfl)) λe=>c.mem rfl (by rw[e];exact f4 a rfl)
theorem aqK{bq a:aI}{ae:J}{aO:List ax} g h i j l(k:∀b,ae.le b->bJ b 27 1 (some bq) bX bX xs->bJ b 27 1 (some a) O O aO->ae bq.block=none->ae a.block=none->bq.block≠a.block->hc K [g,h,i,j,l,.gone,.gone] b):hc K [g,h,i,j,l,.row 27 1 (some a) O O aO,.row 27 1 (some bq) bX bX xs] ae:=.b4 5 27 1 (some a) O O _ rfl λ_ f c f3=>.b4 6 27 1 (some bq) bX bX _ rfl λaU d m f4=>k aU (J.le_trans f d) m (c.mono d) (J.none_le f (f4 bq rfl)) (f3 a rfl) λe=>c.mem rfl (by rw[<-e];exact f4 bq rfl)
theorem az2 p T h(ok:p.ok h)(a:p.qy T):Fn aB 27 #[.agg p.cells.toArray] h λv aa=>∃aX B m,v=ey #[bY aX,R 0]/\h.le B/\c4 B aa aX m/\m.x=h8 p/\m.cL=bh p.ins.toNat Ah:=by
 have a0:=a.m0;have cH:=a.m1;have bI:=a.gl;have cu:=a.c1;have hd:=a.i0;have lr:=a.i1;have lQ:=a.oG;have qC:=a.iI;have vJ:=a.Vs;have z6:=a.li;have DD:=a.op;have sP:p.cells=[R p.mem,R p.bj,R p.ins,R p.outs,ab p.jf p.parts.length p.cN,ab p.eU p.lines.length p.lc,ab p.cj p.ops.length p.bO]:=rfl;have Zd:=an9 p T h ok a;rw[sP]at Zd⊢;refine b6 NW rfl (az λgE de gm=>de _ _ _ (az λgA db ev=>az λgj c6 fD=>.ah (.mk _ Zd ?_)));rintro _ h1 ⟨rfl,i⟩;refine c6 _ _ _ (db _ _ _ (az λgk dZ ez=>?_));obtain⟨N,dE⟩:∃N:Nat,p.mem=N:=⟨p.mem.toNat,I⟩;obtain⟨C,hC⟩:∃N:Nat,p.bj=N:=⟨p.bj.toNat,I⟩;obtain⟨bX,n⟩:∃N:Nat,p.ins=N:=⟨p.ins.toNat,I⟩;obtain⟨O,hO⟩:∃N:Nat,p.outs=N:=⟨p.outs.toNat,I⟩;have gb:∀(e:cy)(cj:Option aI)(bO:Nat)(gc:aI)(yh vw:LE),[1,5].map e=[.p 0 0,.p 3 0]->(∀(K:List LE->J->Prop)(Y X:LE)(Z:List LE),(∀ae,h1.le ae->bJ ae 66 3 cj p.ops.length bO (hx p.ops)->bJ ae 3 1 (some gc) C C (bh C (R 0))->(∀g,cj=some g->h1 g.block=none)->h1 gc.block=none->hc K (Y:: .gone:: .gone::X::Z) ae)->hc K (Y::yh::vw::X::Z) h1)->gk .normal e [.own (sQ p) 42,yh,vw,.own [.v (ab none 0 0),.v (ab none 0 0),.v (ab none 0 0),.v (ab none 0 0),.v (ab cj p.ops.length bO),.v (ab none 0 0),.v (ab none 0 0),.v (ab (some gc) C C),.v (ab none 0 0),.v (R 0),.v (R 0),.v (c5 false),.v (R 0),.v (bA .u8 0),.v (R 0),.v (ab none 0 0),.v (bA .u8 0)] 115] h1:=by
  refineλe cj bO gc yh vw he atr=>dZ _ _ _ ?_;rw[<-fK [1,5] e,he];refine az λhs dG hE=>.one N (R 0) rfl rfl dE dE I I λD=>dG _ _ _ (az λgZ ea g6=>?_);have W:∀(e:cy)(bq c:aI)(F2 QE:LE),[1,5].map e=[.p 0 0,.p 3 0]->(∀(K:List LE->J->Prop)(t u w y z:LE)(ae:J),(∀j,ae.le j->bJ j 27 1 (some bq) bX bX (bh bX (ab none 0 0))->bJ j 27 1 (some c) O O (bh O (ab none 0 0))->ae bq.block=none->ae c.block=none->bq.block≠c.block->hc K [t,u,w,y,z,.gone,.gone] j)->hc K [t,u,w,y,z,F2,QE] ae)->gZ .normal e [.own (sQ p) 42,yh,vw,.own [.v (ab (some D) N N),.v (ab none 0 0),.v (ab (some bq) bX bX),.v (ab (some c) O O),.v (ab cj p.ops.length bO),.v (ab none 0 0),.v (ab none 0 0),.v (ab (some gc) C C),.v (ab none 0 0),.v (R 0),.v (R 0),.v (c5 false),.v (R 0),.v (bA .u8 0),.v (R 0),.v (ab none 0 0),.v (bA .u8 0)] 115,.row 3 1 (some D) N N (bh N (R 0)),F2,QE] h1:=by
   refineλe bq c F2 QE he ats=>ea _ _ _ ?_;rw[<-fK [1,5] e,he];refine az λiK eT hg=>az λjl fa jc=>fa _ _ _ (fb λjV hf h6=>.kY (atr _ _ _ _ λae f ro rc bM lv=>ats _ _ _ _ _ _ _ λj d aCn aCV vT p8 OC=>.b4 4 3 1 (some D) N N _ rfl λaU l O' A=>.abs 152 4 none 0 0 [] ⟨rfl,bW ⟨rfl,rfl,rfl⟩⟩ (.ah ?_)));have A:=A D rfl;have aCr:bJ aU 3 1 (some D) N N ((bh N (0:Int)).map R):=by rw[s9];exact O'
   have aB2:bJ ae 3 1 (some gc) C C ((bh C (0:Int)).map R):=by rw[s9];exact rc
   obtain⟨eg,rfl,yM⟩:=aCr.whole;obtain⟨dD,rfl,M'⟩:=aB2.whole;obtain⟨fG,rfl,L⟩:=aCn.whole;obtain⟨gC,rfl,P⟩:=aCV.whole;simp only at A vT p8 lv OC;have Q:h1.le aU:=J.le_trans f (J.le_trans d l);have m1:h1 eg=none:=J.none_le (J.le_trans f d) A;have atl:aU.put eg (hh (bh N 0))=aU:=sT yM;show kB _ _ _ _ aU;rw[<-atl];refine az4 jV _ p h1 aU (ok.mono i) eg N fG bX gC O cj p.ops.length bO dD C Q m1 z6 I (bh N 0) bd (λx af=>by have:=a.cd x af;omega) [0,3,7] _ rfl rfl rfl λe eU lc rows he yU=>hf _ _ _ (eT _ _ _ ?_);rw[<-fK [1,5] e,he];have s:aU.le (aU.put eg (hh (q1 p.lines (bh N 0))))\/True:=bl trivial;refine az λkD gK kl=>az λr8 kS rO=>kS _ _ _ (fb λpt kx oD=>?_);generalize hH:aU.put eg (hh (q1 p.lines (bh N 0)))=H;have EN:h1.le H:=by rw[<-hH];exact ll m1 Q
   refine .kY (.b4 2 152 4 eU p.lines.length lc rows rfl λV s my f5=>.abs 121 1 none 0 0 [] ⟨rfl,bW ⟨rfl,rfl,rfl⟩⟩ (.abs 3 1 none 0 0 [] ⟨rfl,bW ⟨rfl,rfl,rfl⟩⟩ (.ah ?_)));show kB _ _ _ _ V;have UV:fG≠eg:=gp (l _ _ L) yM aM;have S:eg≠dD:=λe=>by
    have:=J.none_le d A;rw[e,M']at this;cases this
   have dY:∀{o:Nat}{U:Obj},aU o=some U->o≠eg->V o=some U:=λ{o U} r b'=>s _ _ (by rw[<-hH,J.cB _ _ b'];exact r);have E:V eg=some (hh (h8 p).mem):=s _ _ (by rw[<-hH,J.b1];simp[h8,dE]);have U0:eg≠dD:=S;have G:=dY (l _ _ L) UV;have M:=dY (l _ _ P) (gp (l _ _ P) yM aM);have F:=dY (l _ _ (d _ _ M')) S.symm;have u':bJ V 66 3 cj p.ops.length bO (hx p.ops):=by
    have ga:=(ro.mono d).mono l;have:bJ H 66 3 cj p.ops.length bO (hx p.ops):=by
     rw[<-hH];refine bJ.jS ga λg b e=>?_;subst b;obtain⟨bm,b⟩:=ga.ty;rw[e,yM]at b;injection b with b;injection b with _ q;cases q
    exact this.mono s
   refine az5 p eg N fG bX gC O eU p.lines.length lc cj p.ops.length bO dD C pt _ V ([eg,fG,gC,dD]++jm eU) (ok.mono (J.le_trans i (J.le_trans EN s))) ?_ vJ a.t8 rfl λe e6 k9 lR iA hR bx Bj BM he iz w8 arj arz=>?_;intro o r;simp only[ej,ek,ya,or_false]at r;rcases r with(rfl|rfl|rfl|rfl)|r;rw[E];nofun;rw[G];nofun;rw[M];nofun;rw[F];nofun;obtain⟨g,b,rfl⟩:=n2 r;subst b;exact my.mem rfl;refine kx _ _ _ (gK _ _ _ ?_);rw[<-fK [5] e,he];refine .mk λaX p'=>.b4 3 121 1 k9 p.parts.length lR Bj rfl λnT n1 KX f7=>.b4 4 3 1 iA p.parts.length hR BM rfl λsq rR HG f8=>.ah ?_;subst arj arz yU;obtain⟨B,m,aL,aH,bp⟩:=ay8 dE hC n hO (λx af=>by have:=a.cd x af;omega) (J.le_trans i (J.le_trans EN s)) E G M F my (J.none_le i m1) (J.none_le i (J.none_le f vT)) (J.none_le i (J.none_le f p8)) (J.none_le i lv) (λg b=>J.none_le i (J.none_le EN (f5 g b))) OC U0 u' iz w8 p' rfl (J.le_trans n1 rR) (KX.mono rR) f7 HG (λg b=>J.none_le n1 (f8 g b));exact⟨aX,B,m,rfl,aL,aH,bp⟩
  refine⟨?_,?_⟩
  .refine .one bX (ab none 0 0) rfl rfl n n I I λbq=>⟨?_,?_⟩
   .refine⟨?_,?_⟩;all_goals
     exact .one O (ab none 0 0) rfl rfl hO hO I I λc=>W _ bq c _ _ rfl λK t u w y z ae k=>Sa _ _ _ _ _ k
   exact .one O (ab none 0 0) rfl rfl hO hO I I λc=>W _ bq c _ _ rfl λK t u w y z ae k=>Sa _ _ _ _ _ k
  refine⟨?_,?_⟩
  .refine .one bX (ab none 0 0) rfl rfl n n I I λbq=>⟨?_,?_⟩;all_goals
    exact .one O (ab none 0 0) rfl rfl hO hO I I λc=>W _ bq c _ _ rfl λK t u w y z ae k=>Sa _ _ _ _ _ k
  exact .one O (ab none 0 0) rfl rfl hO hO I I λc=>.one bX (ab none 0 0) rfl rfl n n I I λbq=>W _ bq c _ _ rfl λK t u w y z ae k=>aqK _ _ _ _ _ k
 refine⟨?_,?_⟩;exact .fresh (hx p.ops) rfl rfl rfl ((ok.ops.mono i).src _) (E6 _) (by unfold eD;omega) I λcj bO _=>.one C (R 0) rfl rfl hC hC I I λgc=>gb _ cj bO gc _ _ rfl λK Y X Z k=>.b4 1 66 3 cj p.ops.length bO _ rfl λae f dW f2=>.b4 2 3 1 (some gc) C C _ rfl λj d dU f3=>k j (J.le_trans f d) (dW.mono d) dU f2 (J.none_le f (f3 gc rfl));exact .one C (R 0) rfl rfl hC hC I I λgc=>.fresh (hx p.ops) rfl rfl rfl ((ok.ops.mono i).src _) (E6 _) (by unfold eD;omega) I λcj bO _=>gb _ cj bO gc _ _ rfl λK Y X Z k=>.b4 1 3 1 (some gc) C C _ rfl λae f dW f2=>.b4 2 66 3 cj p.ops.length bO _ rfl λj d dU f3=>k j (J.le_trans f d) dU (dW.mono d) (λg b=>J.none_le f (f3 g b)) (f2 gc rfl)
theorem IM t:298<=w9 t:=by
 unfold w9;split<;>decide
theorem ib.ty{x:gy}(k:ib B h bU bE x):∃bm,h bE=some (bb bm (w9 x.tag) (0,0)):=by
 obtain⟨_,_,_,_,_,g,_⟩:=k.ex;exact⟨_,g⟩
theorem jM.jS{U:Obj}(x:jM h A l c)(e:∀g,A=some g->g.block≠b):jM (h.put b U) A l c:=by
 rcases x with x|⟨i,off,bm,a,d,f⟩;exact bW x;exact bl ⟨i,off,bm,a,by rw[J.cB _ _ (e _ a)];exact d,f⟩
theorem jM.mono(x:jM h A l c)(le:h.le aa):jM aa A l c:=by
 rcases x with x|⟨e,off,bm,b,a,d⟩;exact bW x;exact bl ⟨e,off,bm,b,le _ _ a,d⟩
theorem jM.ty(x:jM h (some g) l c):∃bm,h g.block=some (bb bm 3 (0,0)):=by
 rcases x with⟨x,_⟩|⟨e,off,bm,a,b,d⟩;cases x;injection a with a;subst a;exact⟨_,b⟩
section
variable {B h:J}{aX b:Nat}{m:fe}{U:Obj}{bm:Array ax}{t:Nat}
structure zW(B h:J)(aX:Nat)(m:fe)(t:Nat)(b:Nat)(U:Obj):Prop where
 le:B.le (h.put b U)
 box:t≠115->(h.put b U) aX=some (bb m.cells.toArray 115 (0,0))
 mem:m.eg≠b->(h.put b U) m.eg=some (hh m.x.mem)
 mV:t≠152->bJ (h.put b U) 152 4 m.eU m.x.lines.length m.lc (tK m.x.lines)
 cL:m.fG≠b->(h.put b U) m.fG=some (bb (m.cL.map cY.val).toArray 27 (0,0))
 wr:m.gC≠b->(h.put b U) m.gC=some (bb (m.wr.map cY.val).toArray 27 (0,0))
 jT:(∀d∈m.wr,b∉jm d.A)->∀d∈m.wr,bJ (h.put b U) 3 1 d.A d.l.length d.c (d.l.map R)
 dB:t<298->∀i(h1:i<m.bx.length)(ae:i<m.x.fy.length),ib B (h.put b U) m.bx[i].1 m.bx[i].2 m.x.fy[i]
 cS:m.dD≠b->(h.put b U) m.dD=some (hh m.x.cS)
 hand:b∉jm m.aT->jM (h.put b U) m.aT m.x.hand m.ay
theorem c4.stay(k:c4 B h aX m)(c:h b=some (bb bm t (0,0)))(o:B b=none):zW B h aX m t b U:=by
 refine⟨ll o k.le,λe=>?_,λe=>?_,λe=>?_,λe=>?_,λe=>?_,λe d l=>?_,λe i h1 ae=>?_,λe=>?_,λe=>?_⟩;rw[J.cB _ _ (gp k.box c (d' e))];exact k.box;rw[J.cB _ _ e];exact k.mem;refine bJ.jS k.mV λg a=>?_;have r:=k.mV;rw[a]at r;obtain⟨n,f⟩:=r.ty;exact gp f c (d' e);rw[J.cB _ _ e];exact k.cL;rw[J.cB _ _ e];exact k.wr;exact bJ.jS (k.jT d l) λg a q=>e d l (by rw[<-q];exact oF a);have j:=k.dB i h1 ae;obtain⟨n,f⟩:=j.ty;have:=IM m.x.fy[i].tag;exact j.to (J.le_refl _) (J.cB _ _ (gp f c I)).symm j.o9;rw[J.cB _ _ e];exact k.cS;exact k.hand.jS λg a q=>e (by rw[<-q];exact oF a)
theorem c4.Wj(k:c4 B h aX m)(l:List Int)(A:Option aI)(c:Nat)(next eE:Int)(st:Bool)(oE:Int)(i:Nat)(p:Int)(j:Nat)(n:jM h A l c)(al:∀g,A=some g->B g.block=none)(sep:(m.eg::m.dD::(jm A++m.wr.flatMap λd=>jm d.A)).Nodup){U:Obj}(v:U=bb ({m with x:={m.x with hand:=l,next:=next,eE:=eE,nF:=st,oE:=oE,tL:=i,tM:=p,tI:=j},aT:=A,ay:=c}:fe).cells.toArray 115 (0,0)):c4 B (h.put aX U) aX {m with x:={m.x with hand:=l,next:=next,eE:=eE,nF:=st,oE:=oE,tL:=i,tM:=p,tI:=j},aT:=A,ay:=c}:=by
 have s:zW B h aX m 115 aX U:=k.stay k.box k.rx;have a:∀{o:Nat}{bm:Array ax}{t:Nat},h o=some (bb bm t (0,0))->t≠115->o≠aX:=λw y=>gp w k.box y;refine⟨s.le,k.rx,by rw[J.b1,v],s.mem (a k.mem aM),k.o',s.mV aM,k.tJ,s.cL (a k.cL aM),k.tm,k.rz,k.qK,s.wr (a k.wr aM),k.ue,k.l3,s.jT λd u q=>?_,k.rb,k.p8,k.ops,k.mB,k.kt,k.te,s.dB aM,k.tF,s.cS (a k.cS aM),k.th,n.jS λg b=>?_,al,sep⟩;obtain⟨g,b,e⟩:=n2 q;have r:=k.jT d u;rw[b]at r;obtain⟨z,f⟩:=r.ty;exact a f aM e;subst b;obtain⟨z,f⟩:=n.ty;exact a f aM
theorem c4.Gg(k:c4 B h aX m):m.eg≠m.dD/\m.dD∉jm m.aT/\m.eg∉jm m.aT/\∀d∈m.wr,m.dD∉jm d.A/\m.eg∉jm d.A:=by
 have s:=k.sep;rw[iV,iV]at s;obtain⟨s1,s2,_⟩:=s;simp only[ek,ej,s',not_or]at s1 s2;exact⟨s1.1,s2.1,s1.2.1,λd a=>⟨λq=>s2.2 ⟨d,a,q⟩,λq=>s1.2.2 ⟨d,a,q⟩⟩⟩
theorem c4.ahX(k:c4 B h aX m)(l:List Int)(ak:l.length=m.x.cS.length):c4 B (h.put m.dD (hh l)) aX {m with x:={m.x with cS:=l}}:=by
 have s:zW B h aX m 3 m.dD (hh l):=k.stay k.cS k.th;obtain⟨c,b,f,e⟩:=k.Gg;refine⟨s.le,k.rx,?_,s.mem c,k.o',s.mV aM,k.tJ,s.cL (gp k.cL k.cS aM),k.tm,k.rz,k.qK,s.wr (gp k.wr k.cS aM),k.ue,k.l3,s.jT λd a=>(e d a).1,k.rb,k.p8,k.ops,k.mB,k.kt,k.te,s.dB aM,k.tF,J.b1 _ _ _,k.th,s.hand b,k.pB,k.sep⟩;rw[s.box aM];simp only[fe.cells,ak]
theorem c4.ahZ(k:c4 B h aX m)(l:List Int)(ak:l.length=m.x.mem.length):c4 B (h.put m.eg (hh l)) aX {m with x:={m.x with mem:=l}}:=by
 have s:zW B h aX m 3 m.eg (hh l):=k.stay k.mem k.o';obtain⟨b,f,c,e⟩:=k.Gg;refine⟨s.le,k.rx,?_,J.b1 _ _ _,k.o',s.mV aM,k.tJ,s.cL (gp k.cL k.mem aM),k.tm,k.rz,k.qK,s.wr (gp k.wr k.mem aM),k.ue,k.l3,s.jT λd a=>(e d a).2,k.rb,k.p8,k.ops,k.mB,k.kt,k.te,s.dB aM,k.tF,s.cS (d' b),k.th,s.hand c,k.pB,k.sep⟩;rw[s.box aM];simp only[fe.cells,ak]
theorem c4.aDe(k:c4 B h aX m)(c:m.eU=some g){U:Obj}(l:List kp)(ak:l.length=m.x.lines.length)(r:bJ (h.put g.block U) 152 4 m.eU l.length m.lc (tK l)):c4 B (h.put g.block U) aX {m with x:={m.x with lines:=l}}:=by
 have f:=k.mV;rw[c]at f;obtain⟨bm,ay⟩:=f.ty;have o:=k.tJ g c;have s:zW B h aX m 152 g.block U:=k.stay ay o;refine⟨s.le,k.rx,?_,s.mem (gp k.mem ay aM),k.o',r,k.tJ,s.cL (gp k.cL ay aM),k.tm,k.rz,k.qK,s.wr (gp k.wr ay aM),k.ue,k.l3,s.jT λd i q=>?_,k.rb,k.p8,k.ops,k.mB,k.kt,k.te,s.dB aM,k.tF,s.cS (gp k.cS ay aM),k.th,s.hand λq=>?_,k.pB,k.sep⟩;rw[s.box aM];simp only[fe.cells,ak];obtain⟨n,a,e⟩:=n2 q;have r:=k.jT d i;rw[a]at r;obtain⟨j,b⟩:=r.ty;exact gp b ay aM e;obtain⟨n,a,e⟩:=n2 q;have r:=k.hand;rw[a]at r;obtain⟨j,b⟩:=r.ty;exact gp b ay aM e
theorem c4.ahY(k:c4 B h aX m)(f:List cY)(ak:f.length=m.cL.length)(g:∀d∈f,d.ok B/\d.l.length<=d.c):c4 B (h.put m.fG (bb (f.map cY.val).toArray 27 (0,0))) aX {m with x:={m.x with cL:=f.map cY.l},cL:=f}:=by
 have s:zW B h aX m 27 m.fG (bb (f.map cY.val).toArray 27 (0,0)):=k.stay k.cL k.tm;refine⟨s.le,k.rx,?_,s.mem (gp k.mem k.cL aM),k.o',s.mV aM,k.tJ,J.b1 _ _ _,k.tm,rfl,g,s.wr (d' k.p8),k.ue,k.l3,s.jT λd i q=>?_,k.rb,k.p8,k.ops,k.mB,k.kt,k.te,s.dB aM,k.tF,s.cS (gp k.cS k.cL aM),k.th,s.hand λq=>?_,k.pB,k.sep⟩;rw[s.box aM];simp only[fe.cells,ak];obtain⟨n,a,e⟩:=n2 q;have r:=k.jT d i;rw[a]at r;obtain⟨j,b⟩:=r.ty;exact gp b k.cL aM e;obtain⟨n,a,e⟩:=n2 q;have r:=k.hand;rw[a]at r;obtain⟨j,b⟩:=r.ty;exact gp b k.cL aM e
theorem c4.grow{aa:J}(k:c4 B h aX m)(le:h.le aa):c4 (B.grow h aa) aa aX m:=by
 have mN:=Cj k.le le;have c:∀{o:Nat}{x:Obj},B o=none->h o=some x->B.grow h aa o=none:=λh1 ae=>tp h1 (by rw[ae];nofun);refine⟨J.AW _ _,c k.rx k.box,le _ _ k.box,le _ _ k.mem,c k.o' k.mem,k.mV.mono le,λg a=>?_,le _ _ k.cL,c k.tm k.cL,k.rz,λd b=>⟨(k.qK d b).1.mono mN,(k.qK d b).2⟩,le _ _ k.wr,c k.ue k.wr,k.l3,λd b=>(k.jT d b).mono le,λd b g a=>?_,k.p8,k.ops.mono mN,k.mB.mono mN,k.kt.mono mN,k.te,λi h1 ae=>?_,k.tF,le _ _ k.cS,c k.th k.cS,k.hand.mono le,λg a=>?_,k.sep⟩;have r:=k.mV;rw[a]at r;exact tp (k.tJ g a) (r.mem rfl);have r:=k.jT d b;rw[a]at r;exact tp (k.rb d b g a) (r.mem rfl);have f:=k.dB i h1 ae;have j:=f.some_;refine f.to mN ?_ (tp f.o9 j);cases e:h m.bx[i].2 with
 |none=>exact absurd e j
 |some U=>exact(le _ _ e).symm
 have r:=k.hand;rw[a]at r;obtain⟨n,l⟩:=r.ty;exact c (k.pB g a) l
end
def lb(base size s:Int)(n:Nat):List Int:=(fL n).map λ(k:Nat)=>base+(s+k)%size
theorem Zt base size s n:lb base size s (n+1)=lb base size s n++[base+(s+n)%size]:=by
 simp[lb,Bz]
theorem Zq g base size at_ a(n:Nat) h(z:h.cell? g=some (R base))(c1:h.cell? (g.add 1)=some (R size))(c2:h.cell? (g.add 2)=some (R at_))(G:0<=base/\base<=100000)(j:0<n->1<=size)(ml:size<=100000)(F:0<=at_/\at_<=100000)(E:0<=a/\a<=100000)(D:n<=1000):Fn aB 179 #[gv (some g),R a,R n] h λv aa=>h.le aa/\∃A c,v=ab A n c/\bJ aa 3 1 A n c ((lb base size (at_+a) n).map R)/\∀g,A=some g->h g.block=none:=by
 refine b6 awR rfl ?_;refine az λN s S=>?_;refine s _ _ _ ?_;refine az λM p H=>?_;refine p _ _ _ ?_;refine az λP l K=>?_;refine az λQ o J=>?_;refine o _ _ _ ?_;refine fb λV m T=>?_;refine .kY (.abs 3 1 none 0 0 [] ⟨rfl,bW ⟨rfl,rfl,rfl⟩⟩ (.ah ?_));show kB _ _ _ _ h;refine .mk (Nat×Option aI×Nat) [0,1,7,9,10] (λ(k,A,c)=>[.v (gv (some g)),.v (R a),.v (ab A k c),.v (R n),.v (R k)]) (λ(k,A,c)=>[.row 3 1 A k c ((lb base size (at_+a) k).map R)]) (λ(k,_,_) aa=>aa=h/\k<=n) (λ(k,_,_)=>n-k) (0,none,0) (λ_=>rfl) ⟨rfl,cW _⟩ rfl rfl ?_;rintro⟨k,A,c⟩ e _ ⟨rfl,hk⟩;refine az λO w L=>?_;refine w _ _ _ ?_;refine az λW t C=>?_;refine aY (λq=>?_) (λq=>?_);have tA:=j I;refine t _ _ _ ?_;refine az λZ x Y=>?_;refine fb λX U B=>?_;refine az λkD y kl=>?_;refine y _ _ _ ?_;refine .hp (R base) (by rw[add_zero,add_zero];exact z) ?_;refine .hp (R at_) c2 ?_;refine .bg ?_;refine .bg ?_;refine .hp (R size) (by rw[add_zero];exact c1) ?_;conv=>whnf
 have uQ:=Qg (at_+a+k) (b:=size) I;have qS:=Qf (at_+a+k) (b:=size) I;rw[akF I];refine .mk I (.bg ?_);refine .c3 0 _ [R (base+(at_+a+k)%size)] rfl rfl (by intro u hu;rw[hV]at hu;subst hu;rfl) (by unfold eD;omega) I λd i _=>?_;refine B _ _ _ _ nofun (x _ _ _ ?_);refine .bg ?_;refine⟨(k+1,d,i),rfl,?_,⟨rfl,I⟩,by show n- (k+1)<n-k;omega⟩;show _=[LE.row 3 1 d (k+1) i ((lb base size (at_+a) (k+1)).map R)];rw[Zt,fF];rfl;refine C _ _ _ _ nofun (m _ _ _ (l _ _ _ ?_));obtain rfl:k=n:=by omega
 refine .b4 0 3 1 A k c _ rfl λaa le r f=>.ah ⟨le,A,c,rfl,r,f⟩
def jU(h aa:J):Prop:=∀o bm,h o=some (bb bm 113 (0,0))->aa o=some (bb bm 113 (0,0))
theorem jU.of_le(le:h.le aa):jU h aa:=λ_ _ e=>le _ _ e
theorem jU.trans{a b c:J}(x:jU a b)(y:jU b c):jU a c:=λo bm e=>y o bm (x o bm e)
theorem jU.put{h:J}{b:Nat}{U:Obj}{bm:Array ax}{t:Nat}(a:h b=some (bb bm t (0,0)))(d:t≠113):jU h (h.put b U):=λo c e=>by
 rw[J.cB _ _ (gp e a (d' d))];exact e
theorem afe(l:List kp):∀r∈l.map kp.cells,r.length=4:=λr a=>by obtain⟨x,_,rfl⟩:=cU.1 a;rfl
theorem ayO{l:List kp}{x:kp}{v:ax} b(d:o<4)(c:x.cells=(l[a].cells).set o v):(tK l).set (a*4+o) v=tK (l.set a x):=by
 unfold tK;rw[abc _ (afe l) a o l[a].cells v (by rw[dH,bZ b];rfl) d,<-c,lM]
def zK(B h a:J):Prop:=∀o bm,h o=some (bb bm 113 (0,0))->B o=none->a o=none
theorem zK.grow{B h aa:J}:zK B h (B.grow h aa):=λ_ _ e b=>tp b (by rw[e];nofun)
theorem zK.trans{c a:J}(x:zK B h c)(d:jU h aa)(y:zK c aa a):zK B h a:=λo bm e b=>y o bm (d o bm e) (x o bm e b)
section
variable {B h:J}{aX:Nat}{m:fe}
theorem c4.afd(k:c4 B h aX m):bf h 4 m.eU m.x.lines.length (m.x.lines.map kp.cells):=k.mV.dV (afe _) aM
theorem c4.Hd(k:c4 B h aX m) c:∃jd,m.eU=some ⟨jd,0,none⟩/\∀o v,(m.x.lines[a].cells)[o]?=some v->h.cell? ((⟨jd,a*4,none⟩:aI).add o)=some v:=by
 obtain⟨g,b⟩:=k.afd.cg I;obtain⟨jd,ar,e,_⟩:=(show bJ h 152 4 (some g) m.x.lines.length m.lc (tK m.x.lines)from by rw[<-b];exact k.mV).split;subst e;refine⟨jd,b,λo v d=>?_⟩;have:=k.afd.row b (i:=a) (r:=m.x.lines[a].cells) (by rw[dH,bZ c];rfl) o v d;rwa[add_lit,dM]at this
theorem c4.Uu(k:c4 B h aX m)(d:m.eU=some ⟨jd,0,none⟩)(i:a<m.x.lines.length)(l:o<4){x:kp}{v:ax}(j:x.cells=(m.x.lines[a].cells).set o v):∃cs b:List ax,h jd=some (bb cs.toArray 152 (0,0))/\over cs (a*4+o) [v]=some b/\jU h (h.put jd (bb b.toArray 152 (0,0)))/\c4 B (h.put jd (bb b.toArray 152 (0,0))) aX {m with x:={m.x with lines:=m.x.lines.set a x}}:=by
 obtain⟨g,cs,b,e,c,f,r⟩:=k.mV.write (off:=a*4+o) I v;rw[d]at e;injection e with e;injection e with e;subst e;rw[ayO i l j]at r;refine⟨cs,b,c,f,.put c aM,k.aDe d _ bd ?_⟩;rw[h2];exact r
theorem bJ.grown(r:bJ aa bK size A n c xs)(f:∀g,A=some g->h g.block=none):bJ (B.grow h aa) bK size A n c xs:=bJ.on r λg a=>bl (f g a)
def ub(mem:List Int)(base size s:Int)(n:Nat):List Int:=(lb base size s n).map λc=>mem.getD c.toNat 0
theorem aEI mem base size s n:ub mem base size s (n+1)=ub mem base size s n++[mem.getD (base+(s+n)%size).toNat 0]:=by
 rw[ub,Zt,fF];rfl
theorem Rh{size s:Int}{k:Nat}(hk:k<n):(lb base size s n)[k]?=some (base+(s+k)%size):=by
 simp[lb,hk]
theorem c4.azk(k:c4 B h aX m)(ay:c<m.x.mem.length):h.cell? ((⟨m.eg,0,none⟩:aI).add (c*1))=some (R (m.x.mem.getD c 0)):=by
 rw[add_lit,dM,eV];refine bV k.mem ?_;simp[cx,bZ ay]
theorem aB6(k:c4 B h aX m) Q(e:cy) hM d w f D n base size s(E:bf h 1 f n (gT (lb base size s n)))(P:0<=base)(S:1<=size)(ss:base+size<=m.x.mem.length)(O:n<=1000)(he:[0,1,2,8,9,15,16,17].map e=[.v (bY aX),.v hM,.v d,.v w,.v (ab none 0 0),.v (ab f n D),.v (R n),.v (R (0:Nat))])(F:∀e A c rows,[0,1,2,8,9].map e=[.v (bY aX),.v hM,.v d,.v w,.v (ab A n c)]->rows=(ub m.x.mem base size s n).map R->Q (.exit 0) e [.row 3 1 A n c rows] h):kB (λQ e L h=>di aB 57 auG Q e L h) Q e [.row 3 1 none 0 0 []] h:=by
 refine .mk (Nat×Option aI×Nat) [0,1,2,8,9,15,16,17] (λ(o,A,c)=>[.v (bY aX),.v hM,.v d,.v w,.v (ab A o c),.v (ab f n D),.v (R n),.v (R o)]) (λ(o,A,c)=>[.row 3 1 A o c ((ub m.x.mem base size s o).map R)]) (λ(o,_,_) aa=>aa=h/\o<=n) (λ(o,_,_)=>n-o) (0,none,0) (λ_=>rfl) ⟨rfl,cW _⟩ he rfl ?_;rintro⟨o,A,c⟩ e aa ⟨ex,hk⟩;rw[ex];refine az λU H T=>H _ _ _ (az λW G N=>aY (λq=>?_) (λq=>?_));obtain⟨g,t⟩:=E.cg I;have j:=E.one t (i:=o) (r:=[R (base+(s+o)%size)]) (by unfold gT;rw[dH,Rh I];rfl) rfl;have uQ:=Qg (s+o) (b:=size) I;have qS:=Qf (s+o) (b:=size) I;have a:=aEI m.x.mem base size s o;have l:0<=base+(s+(o:Int))%size:=I;have p:base+(s+(o:Int))%size<m.x.mem.length:=I;generalize base+(s+(o:Int))%size=z at j a l p;refine G _ _ _ (az λZ J Y=>fb λX V M=>az λkD K kl=>.m g t (.hp (R z) (by rw[bz];exact j) (K _ _ _ (.hp (nO m.eg m.x.mem.length) (bV k.box rfl) (.mk ⟨m.eg,0,none⟩ rfl l p (.hp _ (k.azk I) (.ah (.c3 0 _ [R (m.x.mem.getD z.toNat 0)] rfl rfl (by intro u hu;rw[hV]at hu;subst hu;rfl) (by unfold eD;omega) I λy C _=>M _ _ _ _ nofun (J _ _ _ (.bg (⟨(o+1,y,C),rfl,?_,⟨rfl,I⟩,by show n- (o+1)<n-o;omega⟩)))))))))));show _=[LE.row 3 1 y (o+1) C ((ub m.x.mem base size s (o+1)).map R)];rw[a,fF];rfl;refine N _ _ _ _ nofun ?_;obtain rfl:o=n:=by omega
 exact F _ A c _ rfl rfl
theorem aB4(k:c4 B h aX m)(p:m.eU=some ⟨jd,0,none⟩)(q:a<m.x.lines.length){size at_ bj:Int}(E:m.x.lines[a]=⟨base,size,at_,bj⟩)(n:Nat)(F:0<=base)(G:1<=size)(ss:base+size<=m.x.mem.length)(hm:m.x.mem.length<=100000)(mO:0<=at_/\at_<=100000)(Ap:0<=bj/\bj<=100000)(D:n<=1000):Fn aB 134 #[bY aX,gv (some ⟨jd,a*4,none⟩),R n] h λv aa=>jU h aa/\∃j K hR uc g,v=ey #[ab K n hR,ab uc n g]/\B.le j/\zK B h j/\c4 j aa aX {m with x:={m.x with lines:=m.x.lines.set a ⟨base,size,(at_+n)%size,bj-n⟩}}/\bf j 1 K n (gT (ub m.x.mem base size at_ n)):=by
 obtain⟨N,e,i⟩:=k.Hd q;rw[p]at e;injection e with e;injection e with e;subst e;rw[E]at i;refine b6 aea rfl (az λgE X gm=>X _ _ _ (az λgA W ev=>.ah (.mk _ (Zq ⟨jd,a*4,none⟩ base size at_ 0 n h (by have:=i 0 _ rfl;rwa[add_zero]at this) (i 1 _ rfl) (i 2 _ rfl) ⟨F,I⟩ (λ_=>G) I mO aM D) ?_)));rintro _ h1 ⟨f,w,g,rfl,z,DP⟩;rw[Int.add_zero]at z;have H:=k.grow f;have C:∀o v,((⟨base,size,at_,bj⟩:kp).cells)[o]?=some v->h1.cell? ((⟨jd,a*4,none⟩:aI).add o)=some v:=λo v Q=>J.la f (i o v Q);refine W _ _ _ (az λgj T fD=>T _ _ _ (az λgk V ez=>az λhs U hE=>U _ _ _ (fb λgZ Z g6=>.kY (.abs 3 1 none 0 0 [] ⟨rfl,bW ⟨rfl,rfl,rfl⟩⟩ (.ah ?_)))));show kB _ _ _ _ h1;refine aB6 H gZ _ (gv (some ⟨jd,a*4,none⟩)) (R n) (ab w n g) w g n base size at_ z.one F G ss D rfl λe A c rows he yU=>Z _ _ _ (V _ _ _ ?_);rw[<-fK [0,1,2,8,9] e,he];refine az λiK Y hg=>.hp (R at_) (C 2 _ rfl) (.bg (.hp (R size) (by rw[add_zero];exact C 1 _ rfl) ?_));conv=>whnf
 have uQ:=Qg (at_+n) (b:=size) I;have qS:=Qf (at_+n) (b:=size) I;rw[akF I];refine .mk I ?_;obtain⟨cs,ht,P,O,s,r⟩:=H.Uu p q (o:=2) aM (x:=⟨base,size,(at_+n)%size,bj⟩) (v:=R ((at_+n)%size)) (by rw[E];rfl);refine .hp jd (a*4+2) 152 cs ht (by rw[add_lit]) P O ?_;generalize h1.put jd _=ae at s r;have L:a<(m.x.lines.set a ⟨base,size,(at_+n)%size,bj⟩).length:=by rw[h2];exact q
 obtain⟨N,d,y⟩:=r.Hd L;simp only at d;rw[p]at d;injection d with d;injection d with d;subst d;simp only[Ih]at y;refine Y _ _ _ (az λjl fa jc=>.hp (R bj) (y 3 _ rfl) (.bg ?_));obtain⟨S,M,gU,hl,u,l⟩:=r.Uu p L (o:=3) aM (x:=⟨base,size,(at_+n)%size,bj-n⟩) (v:=R (bj-n)) (by simp only[Ih];rfl);refine .hp jd (a*4+3) 152 S M (by rw[add_lit]) gU hl ?_;generalize ae.put jd _=au at u l;simp only[List.set_set]at l;refine fa _ _ _ (.b4 0 3 1 A n c rows rfl λaU t ga f4=>.ah ⟨((jU.of_le f).trans s).trans (u.trans (jU.of_le t)),_,A,c,w,g,rfl,J.le_trans (Cj k.le f) (Cj l.le t),zK.trans .grow (((jU.of_le f).trans s).trans u) .grow,l.grow t,?_⟩);subst yU;exact(ga.grown f4).one
end
def mc(op:Int)(k:Nat)(dc:Int)(w:ax)(halt:Nat):Obj:=bb #[R op,bA .u8 k,R dc,w,bA .u8 halt] 113 (0,0)
def nJ(B:J)(aX cO:Nat)(op:Int)(k:Nat)(dc:Int)(d:e1)(halt:Nat)(aa:J):Prop:=∃b a A n c,(3<=halt->A=none/\n=0/\c=0)/\B.le b/\c4 b aa aX a/\a.x=d/\aa cO=some (mc op k dc (ab A n c) halt)
section
variable {B h:J}{aX:Nat}{m:fe}
theorem c4.Pp(k:c4 B h aX m)(n p:Int):c4 B (h.put aX (bb ({m with x:={m.x with next:=n,eE:=p}}:fe).cells.toArray 115 (0,0))) aX {m with x:={m.x with next:=n,eE:=p}}:=k.Wj m.x.hand m.aT m.ay n p m.x.nF m.x.oE m.x.tL m.x.tM m.x.tI k.hand k.pB k.sep rfl
theorem c4.La(k:c4 B h aX m)(l:List Int)(A:Option aI)(c:Nat)(a:jM h A l c)(al:∀g,A=some g->B g.block=none)(sep:(m.eg::m.dD::(jm A++m.wr.flatMap λd=>jm d.A)).Nodup):c4 B (h.put aX (bb ({m with x:={m.x with hand:=l},aT:=A,ay:=c}:fe).cells.toArray 115 (0,0))) aX {m with x:={m.x with hand:=l},aT:=A,ay:=c}:=k.Wj l A c m.x.next m.x.eE m.x.nF m.x.oE m.x.tL m.x.tM m.x.tI a al sep rfl
theorem jU.AY(k:c4 B h aX m) U:jU h (h.put aX U):=.put k.box aM
theorem c4.xM(k:c4 B h aX m)(he:h cO=some (bb bm 113 (0,0)))(i:B cO=none) U:c4 B (h.put cO U) aX m:=by
 have s:zW B h aX m 113 cO U:=k.stay he i;refine⟨s.le,k.rx,s.box aM,s.mem (gp k.mem he aM),k.o',s.mV aM,k.tJ,s.cL (gp k.cL he aM),k.tm,k.rz,k.qK,s.wr (gp k.wr he aM),k.ue,k.l3,s.jT λd c q=>?_,k.rb,k.p8,k.ops,k.mB,k.kt,k.te,s.dB aM,k.tF,s.cS (gp k.cS he aM),k.th,s.hand λq=>?_,k.pB,k.sep⟩;obtain⟨g,a,e⟩:=n2 q;have r:=k.jT d c;rw[a]at r;obtain⟨f,b⟩:=r.ty;exact gp b he aM e;obtain⟨g,a,e⟩:=n2 q;have r:=k.hand;rw[a]at r;obtain⟨f,b⟩:=r.ty;exact gp b he aM e
theorem aqI(k:c4 B h aX m) n(ak:m.x.hand.length<=100000)(a:0<=n/\n<=100000):Fn aB 133 #[bY aX,R n] h λv aa=>v=c5 (decide (64<(m.x.hand.length:Int)+n))/\aa=h:=by
 exact b6 ad' rfl (.hp _ (bV k.box rfl) (.bg (.ah ⟨rfl,rfl⟩)))
theorem c4.ZM(k:c4 B h aX m) ay:h.cell? ((⟨m.dD,0,none⟩:aI).add (c*1))=some (R m.x.cS[c]):=by
 rw[add_lit,dM,eV];exact bV k.cS (by simp[ay])
theorem jU.cS(k:c4 B h aX m) U:jU h (h.put m.dD U):=.put k.cS aM
theorem aso(k:c4 B h aX m)(he:h cO=some (mc op da dc (ab none 0 0) 0))(a b:Int)(c:0<=a)(d:a<m.x.cS.length):Fn aB 79 #[bY aX,.agg #[w,R a,R b],bY cO] h λ_ aa=>nJ B aX cO op da dc {m.x with cS:=m.x.cS.set a.toNat b} 0 aa:=by
 exact b6 ax6 rfl (.hp _ (bV k.box rfl) (.mk ⟨m.dD,0,none⟩ rfl c d (.hp m.dD (0+a.toNat*1) 3 (m.x.cS.map R) ((m.x.cS.set a.toNat b).map R) (by rw[add_lit]) k.cS (HA I b) (.ah ⟨B,_,none,0,0,λ_=>⟨rfl,rfl,rfl⟩,J.le_refl _,k.ahX (m.x.cS.set a.toNat b) bd,rfl,jU.cS k _ _ _ he⟩))))
theorem anF(k:c4 B h aX m)(he:h cO=some (mc op da dc (ab none 0 0) 0))(a b:Int)(e:0<=a)(f:a.toNat<m.x.cS.length)(n:0<=b/\b<=1000000):Fn aB 80 #[bY aX,.agg #[w,R a,R b],bY cO] h λ_ aa=>nJ B aX cO op da dc {m.x with cS:=m.x.cS.set a.toNat (nH (m.x.cS[a.toNat]-1)),next:=if 0<nH (m.x.cS[a.toNat]-1)then b-1 else m.x.next} 0 aa:=by
 refine b6 ax8 rfl ?_;have d:=k.ahX (m.x.cS.set a.toNat (nH (m.x.cS[a.toNat]-1))) bd;have g:=jU.cS k (hh (m.x.cS.set a.toNat (nH (m.x.cS[a.toNat]-1)))) _ _ he;have jo:=k.ZM f;refine az λs l u=>l _ _ _ (az λr j o=>.hp _ (bV k.box rfl) (.mk ⟨m.dD,0,none⟩ rfl e I (.hp _ jo (.wrap (.mk ⟨m.dD,0,none⟩ rfl e I (.hp m.dD (0+a.toNat*1) 3 (m.x.cS.map R) ((m.x.cS.set a.toNat (nH (m.x.cS[a.toNat]-1))).map R) (by rw[add_lit]) k.cS (HA f _) ?_))))));have c2:=d.ZM (c:=a.toNat) (by simp only[h2];exact f);simp only[Ih]at c2;refine j _ _ _ (az λt i p=>.hp _ (bV d.box rfl) (.mk ⟨m.dD,0,none⟩ rfl e (by simp only[h2];omega) (.hp _ c2 (i _ _ _ (aY (λq=>?_) (λq=>?_))))));rw[aP I];exact .bg (.hp aX 9 115 _ ({m with x:={m.x with cS:=m.x.cS.set a.toNat (nH (m.x.cS[a.toNat]-1)),next:=b-1}}:fe).cells rfl d.box rfl (.ah ⟨B,_,none,0,0,λ_=>⟨rfl,rfl,rfl⟩,J.le_refl _,d.Pp (b-1) m.x.eE,rfl,jU.AY d _ _ _ g⟩));rw[aD I];exact .ah ⟨B,_,none,0,0,λ_=>⟨rfl,rfl,rfl⟩,J.le_refl _,d,rfl,g⟩
theorem ao6(k:c4 B h aX m)(he:h cO=some (mc op da dc (ab none 0 0) 0))(d:B cO=none)(hp:0<=m.x.eE/\m.x.eE<=1000000000):Fn aB 78 #[bY aX,.agg #[w,R 0,R 0],bY cO] h λ_ aa=>if m.x.hand=[]then nJ B aX cO op da dc {m.x with eE:=m.x.eE+1,next:= -1} 1 aa else nJ B aX cO op da dc m.x 4 aa:=by
 refine b6 ax5 rfl (az λr l t=>l _ _ _ (az λp j n=>az λs i o=>.hp _ (bV k.box rfl) (i _ _ _ (aY (λq=>?_) (λq=>?_)))));have c:¬m.x.hand=[]:=λe=>by rw[e]at q;simp at q
 refine .hp cO 4 113 _ [R op,bA .u8 da,R dc,ab none 0 0,bA .u8 (4:Nat)] rfl he rfl (n _ _ _ _ nofun (.ah ?_));show(if m.x.hand=[]then _ else _);rw[aD c];exact⟨B,m,none,0,0,λ_=>⟨rfl,rfl,rfl⟩,J.le_refl _,k.xM he d _,rfl,J.b1 _ _ _⟩;have c:m.x.hand=[]:=x9 I;refine j _ _ _ (.hp cO 4 113 _ [R op,bA .u8 da,R dc,ab none 0 0,bA .u8 (1:Nat)] rfl he rfl ?_);have a:=k.xM he d (bb [R op,bA .u8 da,R dc,ab none 0 0,bA .u8 (1:Nat)].toArray 113 (0,0));have g:=J.b1 h cO (bb [R op,bA .u8 da,R dc,ab none 0 0,bA .u8 (1:Nat)].toArray 113 (0,0));generalize h.put cO _=h1 at a g;refine .hp (R m.x.eE) (bV a.box rfl) (.bg (.hp aX 10 115 _ ({m with x:={m.x with eE:=m.x.eE+1}}:fe).cells rfl a.box rfl ?_));have b:=a.Pp m.x.next (m.x.eE+1);have f:=jU.AY a (bb ({m with x:={m.x with eE:=m.x.eE+1}}:fe).cells.toArray 115 (0,0)) _ _ g;generalize h1.put aX _=ae at b f;refine .hp aX 9 115 _ ({m with x:={m.x with next:= -1,eE:=m.x.eE+1}}:fe).cells rfl b.box rfl (.ah ?_);show(if m.x.hand=[]then _ else _);rw[aP c];exact⟨B,_,none,0,0,λ_=>⟨rfl,rfl,rfl⟩,J.le_refl _,b.Pp (-1) (m.x.eE+1),rfl,jU.AY b _ _ _ f⟩
end
section
variable {B h:J}{aX:Nat}{m:fe}
theorem c4.arI(k:c4 B h aX m){off:Nat}(aT:m.aT=some ⟨b,off,none⟩){U:Obj}(f:jM (h.put b U) m.aT m.x.hand m.ay):c4 B (h.put b U) aX m/\jU h (h.put b U):=by
 have r:=k.hand;rw[aT]at r;obtain⟨bm,ay⟩:=r.ty;simp only at ay;have a:=k.pB _ aT;simp only at a;have s:zW B h aX m 3 b U:=k.stay ay a;have bin:b∈jm m.aT:=by rw[aT];exact FT _
 obtain⟨j,g,i,l⟩:=k.Gg;have sp:=k.sep;rw[iV,iV,oS]at sp;refine⟨⟨s.le,k.rx,s.box aM,s.mem (λe=>i (by rw[e];exact bin)),k.o',s.mV aM,k.tJ,s.cL (gp k.cL ay aM),k.tm,k.rz,k.qK,s.wr (gp k.wr ay aM),k.ue,k.l3,s.jT λd c q=>sp.2.2.2.2 b bin b (s'.2 ⟨d,c,q⟩) rfl,k.rb,k.p8,k.ops,k.mB,k.kt,k.te,s.dB aM,k.tF,s.cS (λe=>g (by rw[e];exact bin)),k.th,f,k.pB,k.sep⟩,.put ay aM⟩
theorem c4.ab8(k:c4 B h aX m)(l:List Int)(A:Option aI)(c:Nat){U:Obj}(H:U=bb ({m with x:={m.x with hand:=l},aT:=A,ay:=c}:fe).cells.toArray 115 (0,0))(j:(h.put aX U).le aU)(r:bJ aU 3 1 A l.length c (l.map R))(f:∀g,A=some g->(h.put aX U) g.block=none):c4 B aU aX {m with x:={m.x with hand:=l},aT:=A,ay:=c}:=by
 have s:zW B h aX m 115 aX U:=k.stay k.box k.rx;have u:∀{o:Nat}{bm:Array ax}{t:Nat},h o=some (bb bm t (0,0))->t≠115->o≠aX:=λv K=>gp v k.box K;have C:=s.jT λd p q=>by
  obtain⟨g,n,e⟩:=n2 q;have r:=k.jT d p;rw[n]at r;obtain⟨M,z⟩:=r.ty;exact u z aM e
 have D:=s.mem (u k.mem aM);have jo:=s.cS (u k.cS aM);refine⟨J.le_trans s.le j,k.rx,by rw[j _ _ (J.b1 _ _ _),H],j _ _ D,k.o',(s.mV aM).mono j,k.tJ,j _ _ (s.cL (u k.cL aM)),k.tm,k.rz,k.qK,j _ _ (s.wr (u k.wr aM)),k.ue,k.l3,λd p=>(C d p).mono j,k.rb,k.p8,k.ops,k.mB,k.kt,k.te,λi h1 ae=>(s.dB aM i h1 ae).up j,k.tF,j _ _ jo,k.th,?_,λg n=>J.none_le s.le (f g n),?_⟩;cases A with
 |none=>
  obtain⟨G,⟨_,F,L⟩|⟨b,bm,q,_⟩⟩:=r;rw[gz]at G;exact bW ⟨rfl,x9 F,L⟩;cases q
 |some g=>
  obtain⟨b,ar,rfl,w,N,E,ay,_⟩:=r.split;have lc:(l.map R++ar).length=c:=by simp only[fc,gz,N];omega
  refine bl ⟨b,0,l.map R++ar,rfl,w,?_,λ_=>by rw[lc];exact dM _,cW _,E,by rw[lc];exact ay⟩;rw[akO,<-gz (f:=R),BA]
 have sp:=k.sep;rw[iV,iV,oS]at sp⊢;obtain⟨s1,s2,Q,O,P⟩:=sp;simp only[ek,ej,not_or]at s1 s2⊢;have y:∀o∈jm A,(h.put aX U) o=none:=λo v=>by
  obtain⟨g,n,e⟩:=n2 v;rw[<-e];exact f g n
 refine⟨⟨s1.1,λq=>?_,s1.2.2⟩,⟨λq=>?_,s2.2⟩,?_,O,λa I b w e=>?_⟩;have:=y _ q;rw[D]at this;cases this;have:=y _ q;rw[jo]at this;cases this;cases A<;>simp[jm];subst e;obtain⟨d,p,q⟩:=s'.1 w;obtain⟨g,n,e⟩:=n2 q;have r:=C d p;rw[n]at r;obtain⟨M,z⟩:=r.ty;have:=y _ I;rw[<-e,z]at this;cases this
theorem YN(k:c4 B h aX m){S:List ax->Prop}{L:List LE}{K:aK->List LE->J->Prop}{aG:List Int}(p:S (aG.map R))(C:aG.length=n)(al:0<n)(ak:m.x.hand.length+n<=100000)(r:∀aa,c4 B aa aX m->jU h aa->jM aa m.aT (m.x.hand++aG) m.ay->K (.v (ab m.aT (m.x.hand.length+n) m.ay)) L aa)(q:∀g a,K (.v (ab g (m.x.hand.length+n) a)) (L++[.row 3 1 g (m.x.hand.length+n) a ((m.x.hand++aG).map R)]) h):De 3 1 8 m.aT m.x.hand.length m.ay n S L h K:=by
 have c1:∀u∈aG.map R,u.oneCell'=true:=λu hu=>by obtain⟨x,_,rfl⟩:=cU.1 hu;rfl
 have j0:m.x.hand.length+n<=eD:=by unfold eD;omega
 have hk:=k.hand;rcases hk with⟨c,d,i⟩|⟨b,off,bm,c,d,i,j,A,y,D⟩;refine .fresh (aG.map R) c (by rw[d];rfl) i p c1 I I λg a _=>?_;have:=q g a;rw[d]at this;simpa using this;have s:∀o u,(m.x.hand.map R)[o]?=some u->bm[off+o]?=some u:=λo u e=>by
  rw[<-i,FP]at e;split at e;rwa[Bu]at e;cases e
 have z:bm=bm.take (off+m.x.hand.length)++((bm.drop (off+m.x.hand.length)).take n++(bm.drop (off+m.x.hand.length)).drop n):=by
  rw[FU,FU]
 refine .mem b off bm (bm.take (off+m.x.hand.length)++(aG.map R++(bm.drop (off+m.x.hand.length)).drop n)) (aG.map R) (m.x.hand.map R) c d p c1 al (by rw[gz,eV]) s (λay=>?_) j0 I (λay=>?_) (λay t a _=>?_);have j:=j I;have lt:(bm.take (off+m.x.hand.length)).length=off+m.x.hand.length*1:=by rw[ni];omega
 have:=Vl ((bm.drop (off+m.x.hand.length)).take n) (aG.map R) ((bm.drop (off+m.x.hand.length)).drop n) (by rw[gz,ni,mF];omega) (bm.take (off+m.x.hand.length));rw[<-z,lt]at this;exact this;have l:∀(w:List Int),w=m.x.hand\/w=m.x.hand++aG->jM (h.put b (bb (bm.take (off+m.x.hand.length)++(aG.map R++(bm.drop (off+m.x.hand.length)).drop n)).toArray 3 (0,0))) m.aT w m.ay:=by
  intro w hw;have j:=j I;refine bl ⟨b,off,_,c,J.b1 _ _ _,?_,λ_=>?_,?_,?_,?_⟩;have fm:(bm.take (off+m.x.hand.length)++(aG.map R++(bm.drop (off+m.x.hand.length)).drop n)).drop off=m.x.hand.map R++(aG.map R++(bm.drop (off+m.x.hand.length)).drop n):=by
   rw[XQ (by rw[ni];omega),XS,Dq,i]
  rw[fm];rcases hw with rfl|rfl;rw[<-gz (f:=R),BA];rw[<-kC,<-fF,<-gz (f:=R),BA];simp only[fc,ni,gz,mF];omega;simp only[fc,ni,gz,mF];omega;rcases hw with rfl|rfl;exact y;rw[fc];omega;simp only[fc,ni,gz,mF];omega
 obtain⟨m1,m2⟩:=k.arI c (l _ (bW rfl));exact r _ m1 m2 (l _ (bl rfl));have:=q (some t) a;rw[fF]at this;exact this
end
theorem VJ(h:J) U d(e:a≠b):(h.put a U).put b d=(h.put b d).put a U:=by
 funext o;simp only[J.put];by_cases c:o=b;subst c;rw[aP rfl,aD (d' e),aP rfl];rw[aD c,aD c]
section
variable {B h:J}{aX:Nat}{m:fe}
def ua(x:e1)(a:Nat)(l:kp)(n:Nat):e1:={x with lines:=x.lines.set a ⟨l.base,l.size,(l.at_+n)%l.size,l.bj-n⟩,hand:=x.hand++ub x.mem l.base l.size l.at_ n}
theorem Zs a b c n:(lb a b c n).length=n:=by simp[lb]
theorem HT mem a b c n:(ub mem a b c n).length=n:=by simp[ub,Zs]
theorem aEt(k:c4 B h aX m)(he:h cO=some (mc op da dc (ab none 0 0) 0))(G:B cO=none)(a n:Nat)(l:kp)(C:a<m.x.lines.length)(D:m.x.lines[a]=l)(aj:0<=l.base)(ao:l.bj<=l.size)(ss:l.base+l.size<=m.x.mem.length)(hm:m.x.mem.length<=100000)(mO:0<=l.at_/\l.at_<=100000)(V:0<=l.bj/\l.bj<=100000)(dm:1<=n)(aA:n<=1000)(bL:m.x.hand.length<=1000):Fn aB 81 #[bY aX,.agg #[w,R a,R n],bY cO] h λ_ aa=>if l.bj<n\/64<m.x.hand.length+n then nJ B aX cO op da dc m.x 4 aa else nJ B aX cO op da dc (ua m.x a l n) 0 aa:=by
 obtain⟨jd,P,O⟩:=k.Hd C;rw[D]at O;refine b6 aeo rfl ?_;have f133:=aqI k n I ⟨I,I⟩;refine az λgE de gm=>de _ _ _ (az λgA db ev=>.hp (ab m.eU m.x.lines.length m.lc) (bV k.box rfl) (.mk ⟨jd,0,none⟩ P I I (db _ _ _ ?_)));have W:(⟨jd,0,none⟩:aI).add (a*4)=⟨jd,a*4,none⟩:=by rw[add_lit,dM]
 rw[bz,W];have y:∀(e:cy)(Q:k7),[2].map e=[.v (bY cO)]->(∀e L,Q .ret e L (h.put cO (mc op da dc (ab none 0 0) 4)))->di aB 56 (.seq (.cd av0) .ret) Q e [.own [.v w,.v (R a),.v (R n)] 66] h:=by
  intro e Q u cM;rw[<-fK [2] e,u];exact .hp cO 4 113 _ [R op,bA .u8 da,R dc,ab none 0 0,bA .u8 (4:Nat)] rfl he rfl (cM _ _)
 have T:nJ B aX cO op da dc m.x 4 (h.put cO (mc op da dc (ab none 0 0) 4)):=⟨B,m,none,0,0,λ_=>⟨rfl,rfl,rfl⟩,J.le_refl _,k.xM he G _,rfl,J.b1 _ _ _⟩;refine az λgj c6 K=>az λgk F ez=>.hp (R l.bj) (O 3 _ rfl) ?_;conv=>whnf
 by_cases t:l.bj<n;rw[gG t];refine F _ _ _ (nd rfl (λ_=>?_) nofun);refine y _ _ rfl λe L=>K _ _ _ _ nofun ?_;conv=>whnf
 refine .ah ?_;show(if l.bj<n\/64<m.x.hand.length+n then _ else _);rw[aP (bW t)];exact T;rw[io t];have o:=aB4 k P C D n aj I ss hm mO V aA;refine .mk _ f133 (λv aa q=>by rw[q.2];exact J.le_refl _) ?_;rintro _ jv ⟨rfl,ex⟩;rw[ex];refine F _ _ _ ?_;refine nd rfl (λq=>?_) (λq=>?_);refine y _ _ rfl λe L=>K _ _ _ _ nofun (.ah ?_);show(if l.bj<n\/64<m.x.hand.length+n then _ else _);rw[aP (bl (by have:=q2 q;omega))];exact T;have U:¬(l.bj<n\/64<m.x.hand.length+n):=by have:=y' q;omega
 refine c6 _ _ _ (az λhs dG hE=>.ah (.mk _ o ?_));rintro _ h1 ⟨Y,E,iA,hR,g,f,rfl,M,bE,d,pT⟩;have i:=Y _ _ he;have z:∀{A:Option aI}{c:Nat},over ({m with x:={m.x with lines:=m.x.lines.set a ⟨l.base,l.size,(l.at_+n)%l.size,l.bj-n⟩}}:fe).cells 8 [ab A (m.x.hand.length+n) c]=some ({m with x:=ua m.x a l n,aT:=A,ay:=c}:fe).cells:=by
  intro A c;show some _=some _;simp only[fe.cells,ua,fc,HT]
 have N:=bE _ _ he G;refine dG _ _ _ (az λgZ H g6=>.hp (ab m.aT m.x.hand.length m.ay) (bV d.box rfl) (.ah (YN d (aG:=ub m.x.mem l.base l.size l.at_ n) (by rw[<-yz];exact(pT.mono d.le).src _) (HT _ _ _ _ _) I (by simp only;omega) (λae b X Z=>?_) (λp r=>?_))));have u:=X _ _ i;have e8:=b.La _ m.aT m.ay Z b.pB b.sep;have S:=jU.AY b (bb ({m with x:=ua m.x a l n}:fe).cells.toArray 115 (0,0)) _ _ u;refine .hp aX 8 115 _ ({m with x:=ua m.x a l n}:fe).cells rfl b.box z (H _ _ _ (.hp cO 3 113 _ [R op,bA .u8 da,R dc,ab g n f,bA .u8 (0:Nat)] rfl S rfl (.ah ?_)));show(if l.bj<n\/64<m.x.hand.length+n then _ else _);rw[aD U];exact⟨E,_,g,n,f,λq=>absurd q aM,M,e8.xM S N _,rfl,J.b1 _ _ _⟩;refine .hp aX 8 115 _ ({m with x:=ua m.x a l n,aT:=p,ay:=r}:fe).cells rfl d.box z ?_;have j:aX≠cO:=gp d.box i aM;refine H _ _ _ (.hp cO 3 113 _ [R op,bA .u8 da,R dc,ab g n f,bA .u8 (0:Nat)] rfl (by rw[J.cB _ _ (d' j)];exact i) rfl (.b4 1 3 1 p _ r _ rfl λaU s ga f4=>.ah ?_));show(if l.bj<n\/64<m.x.hand.length+n then _ else _);rw[aD U];rw[VJ _ _ _ j]at s f4;have b:=(d.xM i N (bb [R op,bA .u8 da,R dc,ab g n f,bA .u8 (0:Nat)].toArray 113 (0,0))).ab8 (m.x.hand++ub m.x.mem l.base l.size l.at_ n) p r rfl s (by rw[fc,HT];exact ga) f4;exact⟨E,_,g,n,f,λq=>absurd q aM,M,b,rfl,s _ _ (by rw[J.cB _ _ (d' j)];exact J.b1 _ _ _)⟩
end
def nx:List Int->List Int->List Int->List Int
 |mem,c::cs,t::dX=>nx (mem.set c.toNat t) cs dX
 |mem,_,_=>mem
theorem Kk:∀cs mem dX,(nx mem cs dX).length=mem.length
 |[],mem,_=>rfl
 |c::cs,mem,[]=>rfl
 |c::cs,mem,t::dX=>by rw[nx,Kk cs];simp
section
variable {B h:J}{aX:Nat}{m:fe}
theorem ayt(k:c4 B h aX m) Q(e:cy) hM w d a F l n cR base size s(G:bf h 1 d n (gT (lb base size s n)))(j:bf h 1 a n (gT cR))(f:∀g,d=some g->0<n->g.block≠m.eg)(J:∀g,a=some g->0<n->g.block≠m.eg)(aj:0<=base)(ao:1<=size)(ss:base+size<=m.x.mem.length)(Z:n<=1000)(he:[0,1,2,7,18,19,20].map e=[.v (bY aX),.v hM,.v (ab a n l),.v w,.v (ab d n F),.v (R n),.v (R (0:Nat))])(N:∀e,[0,1,2,7].map e=[.v (bY aX),.v hM,.v (ab a n l),.v w]->Q (.exit 0) e [] (h.put m.eg (hh (nx m.x.mem (lb base size s n) cR)))):kB (λQ e L h=>di aB 45 auH Q e L h) Q e [] h:=by
 have ak:cR.length=n:=by simpa using j.len
 refine .mk (Nat×List Int) [0,1,2,7,18,19,20] (λ(o,_)=>[.v (bY aX),.v hM,.v (ab a n l),.v w,.v (ab d n F),.v (R n),.v (R o)]) (λ_=>[]) (λ(o,mem) aa=>aa=h.put m.eg (hh mem)/\o<=n/\mem.length=m.x.mem.length/\nx mem ((lb base size s n).drop o) (cR.drop o)=nx m.x.mem (lb base size s n) cR) (λ(o,_)=>n-o) (0,m.x.mem) (λ_=>rfl) ⟨(sT k.mem).symm,cW _,rfl,rfl⟩ he rfl ?_;rintro⟨o,mem⟩ e aa ⟨ex,hk,t,hm⟩;rw[ex];have C:=k.ahZ mem t;refine az λgZ S g6=>S _ _ _ (az λiK P X=>aY (λq=>?_) (λq=>?_));obtain⟨g,A⟩:=G.cg I;obtain⟨g2,D⟩:=j.cg I;have ay:(lb base size s n)[o]?=some (base+(s+o)%size):=Rh I;have y:o<cR.length:=I;have p:=(G.HE (U:=hh mem) f).one A (i:=o) (r:=[R (base+(s+o)%size)]) (by unfold gT;rw[dH,ay];rfl) rfl;have E:=(j.HE (U:=hh mem) J).one D (i:=o) (r:=[R cR[o]]) (by unfold gT;rw[dH,bZ y];rfl) rfl;have uQ:=Qg (s+o) (b:=size) I;have qS:=Qf (s+o) (b:=size) I;obtain⟨Y,O⟩:=List.getElem?_eq_some_iff.1 ay;rw[mE Y,mE y,O,nx]at hm;have u:0<=base+(s+(o:Int))%size:=I;have H:base+(s+(o:Int))%size<m.x.mem.length:=I;generalize base+(s+(o:Int))%size=z at p u H hm;generalize cR[o]=c at E hm;exact P _ _ _ (az λjl T jc=>fb λjV hf W=>az λkD V kl=>.m g A (.hp (R z) (by rw[bz];exact p) (V _ _ _ (.hp _ (bV C.box rfl) (.m g2 D (.hp (R c) (by rw[bz];exact E) (.mk ⟨m.eg,0,none⟩ rfl u (by simp only;omega) (.hp m.eg (0+z.toNat*1) 3 (mem.map R) ((mem.set z.toNat c).map R) (by rw[add_lit]) C.mem (HA I c) (W _ _ _ _ nofun (T _ _ _ (.bg (⟨(o+1,mem.set z.toNat c),rfl,rfl,⟨sS _ _ _ _,I,by rw[h2];exact t,hm⟩,by show n- (o+1)<n-o;omega⟩))))))))))));refine X _ _ _ _ nofun ?_;obtain rfl:o=n:=by omega
 have M:(lb base size s o).drop o=[]:=rm (by rw[Zs];exact dz _);rw[M]at hm;have K:nx mem [] (cR.drop o)=mem:=rfl;rw[K]at hm;rw[hm];exact N _ rfl
theorem ayq(k:c4 B h aX m)(s:m.eU=some ⟨jd,0,none⟩)(j:a<m.x.lines.length){size at_ bj:Int}(l:m.x.lines[a]=⟨base,size,at_,bj⟩)(i:Option aI)(C n:Nat)(cR:List Int)(V:bf h 1 i n (gT cR))(H:∀g,i=some g->0<n->g.block≠m.eg)(z:0<=base)(A:1<=size)(ss:base+size<=m.x.mem.length)(hm:m.x.mem.length<=100000)(Z:0<=at_/\at_<=100000)(D:0<=bj/\bj<=100000)(y:n<=1000):Fn aB 135 #[bY aX,gv (some ⟨jd,a*4,none⟩),ab i n C] h λv aa=>jU h aa/\∃r uc c,v=ab uc n c/\B.le r/\zK B h r/\c4 r aa aX {m with x:={m.x with mem:=nx m.x.mem (lb base size (at_+bj) n) cR,lines:=m.x.lines.set a ⟨base,size,at_,bj+n⟩}}:=by
 obtain⟨J,e,d⟩:=k.Hd j;rw[s]at e;injection e with e;injection e with e;subst e;rw[l]at d;refine b6 aeb rfl (az λgE Q gm=>Q _ _ _ (az λgA P ev=>.hp (R bj) (d 3 _ rfl) (.ah (.mk _ (Zq ⟨jd,a*4,none⟩ base size at_ bj n h (by have:=d 0 _ rfl;rwa[add_zero]at this) (d 1 _ rfl) (d 2 _ rfl) ⟨z,I⟩ (λ_=>A) I Z D y) ?_))));rintro _ h1 ⟨f,t,c,rfl,G,E⟩;have p:=k.grow f;refine P _ _ _ (az λgj M fD=>az λgk O ez=>O _ _ _ (fb λX N hE=>.kY (.ah (ayt p X _ (gv (some ⟨jd,a*4,none⟩)) (ab t n c) t i c C n cR base size (at_+bj) G.one (V.mono f) (λg K _ e=>?_) H z A ss y rfl λe he=>?_))));have:=E g K;rw[e,k.mem]at this;cases this;refine N _ _ _ (M _ _ _ ?_);rw[<-fK [0,1,2,7] e,he];have q:=p.ahZ (nx m.x.mem (lb base size (at_+bj) n) cR) (Kk _ _ _);have u:jU h1 (h1.put m.eg (hh (nx m.x.mem (lb base size (at_+bj) n) cR))):=.put p.mem aM;generalize h1.put m.eg _=ae at q u;obtain⟨J,b,w⟩:=q.Hd (a:=a) j;simp only at b;rw[s]at b;injection b with b;injection b with b;subst b;simp only[l]at w;refine az λgZ T g6=>.hp (R bj) (w 3 _ rfl) (.bg ?_);obtain⟨L,F,U,W,Y,S⟩:=q.Uu s (a:=a) j (o:=3) aM (x:=⟨base,size,at_,bj+n⟩) (v:=R (bj+n)) (by simp only[l];rfl);exact .hp jd (a*4+3) 152 L F (by rw[add_lit]) U W (T _ _ _ (.ah ⟨((jU.of_le f).trans u).trans Y,_,t,c,rfl,Cj k.le f,.grow,S⟩))
end
theorem jM.dV(x:jM h A l c):bf h 1 A l.length (gT l)/\l.length<=c:=by
 rcases x with⟨rfl,rfl,rfl⟩|⟨b,off,bm,rfl,k,e,_,_,ay,_⟩;exact⟨bf.nil _ _ _,dz _⟩;refine⟨⟨by simp[gT],λr a=>by obtain⟨z,_,rfl⟩:=cU.1 a;rfl,λ_=>⟨_,rfl⟩,λg j i r a o v d=>?_⟩,ay⟩;injection j with j;subst j;unfold gT at a;rw[dH]at a;cases f:l[i]?with
 |none=>rw[f]at a;cases a
 |some z=>
  rw[f]at a;injection a with a;subst a;cases o with
  |succ o=>cases d
  |zero=>
   injection d with d;subst d;have ae:(l.map R)[i]?=some (R z):=by rw[dH,f];rfl
   rw[<-e,FP]at ae;split at ae;rw[Bu]at ae;rw[add_lit,eV,Nat.add_zero];unfold J.cell?;simp only[k,Option.isSome_none,Bool.false_eq_true,mm,List.getElem?_toArray];exact ae;cases ae
theorem jM.drop{h:J}{A wG:Option aI}{l:List Int}{c k:Nat}(x:jM h A l c)(hk:k<=l.length)(h1:k<c->wG=A.map (·.add (k*1)))(ae:k=c->wG=A):jM h wG (l.drop k) (c-k)/\jm wG=jm A:=by
 rcases x with⟨rfl,rfl,rfl⟩|⟨b,off,bm,rfl,d,e,f,i,ay,hm⟩;have j:k=0:=by simpa using hk
 subst j;rw[ae rfl];exact⟨bW ⟨rfl,rfl,rfl⟩,rfl⟩;by_cases q:k<c;rw[h1 q,rp,add_lit,eV];refine⟨bl ⟨b,off+k,bm,rfl,d,?_,λ_=>?_,?_,?_,hm⟩,rfl⟩;rw[mF,<-List.drop_drop,aIN,<-e,XS];have:=f I;omega;have:=f I;omega;rw[mF];omega;have g:k=c:=I;rw[ae g];have a:l.drop k=[]:=rm I;refine⟨bl ⟨b,off,bm,rfl,d,by rw[a];rfl,λfg=>I,i,by rw[a];exact cW _,hm⟩,rfl⟩
theorem Lf{wG:Option aI}(h1:0<c->wG=A.map (·.add (0*1)))(ae:0=c->wG=A):wG=A:=by
 by_cases q:0<c;rw[h1 q];cases A with
 |none=>rfl
 |some g=>simp[add_zero]
 exact ae I
section
variable {B h:J}{aX:Nat}{m:fe}
def vV(x:e1)(a:Nat)(l:kp)(n:Nat):e1:={x with mem:=nx x.mem (lb l.base l.size (l.at_+l.bj) n) (x.hand.take n),lines:=x.lines.set a ⟨l.base,l.size,l.at_,l.bj+n⟩,hand:=x.hand.drop n}
theorem aqV(k:c4 B h aX m)(he:h cO=some (mc op da dc (ab none 0 0) 0))(z:B cO=none)(a n:Nat)(l:kp)(t:a<m.x.lines.length)(u:m.x.lines[a]=l)(S:0<=l.base)(ss:l.base+l.size<=m.x.mem.length)(hm:m.x.mem.length<=100000)(mO:0<=l.at_/\l.at_<=100000)(G:0<=l.bj/\l.bj<=100000)(dm:1<=n)(O:n<=1000)(bL:m.x.hand.length<=1000):Fn aB 84 #[bY aX,.agg #[w,R a,R n],bY cO] h λ_ aa=>if m.x.hand.length<n\/l.size<l.bj+n then nJ B aX cO op da dc m.x 4 aa else nJ B aX cO op da dc (vV m.x a l n) 0 aa:=by
 obtain⟨jd,C,p⟩:=k.Hd t;rw[u]at p;refine b6 aep rfl (az λgE de gm=>de _ _ _ (az λgA db ev=>.hp (ab m.eU m.x.lines.length m.lc) (bV k.box rfl) (.mk ⟨jd,0,none⟩ C I I (db _ _ _ ?_))));have H:(⟨jd,0,none⟩:aI).add (a*4)=⟨jd,a*4,none⟩:=by rw[add_lit,dM]
 rw[bz,H];have s:∀(e:cy)(Q:k7),[2].map e=[.v (bY cO)]->(∀e L,Q .ret e L (h.put cO (mc op da dc (ab none 0 0) 4)))->di aB 66 (.seq (.cd av3) .ret) Q e [.own [.v w,.v (R a),.v (R n)] 66] h:=by
  intro e Q c X;rw[<-fK [2] e,c];exact .hp cO 4 113 _ [R op,bA .u8 da,R dc,ab none 0 0,bA .u8 (4:Nat)] rfl he rfl (X _ _)
 have E:nJ B aX cO op da dc m.x 4 (h.put cO (mc op da dc (ab none 0 0) 4)):=⟨B,m,none,0,0,λ_=>⟨rfl,rfl,rfl⟩,J.le_refl _,k.xM he z _,rfl,J.b1 _ _ _⟩;refine az λgj W A=>az λgk y ez=>.hp (ab m.aT m.x.hand.length m.ay) (bV k.box rfl) ?_;conv=>whnf
 by_cases eS:m.x.hand.length<n;rw[gG I];refine y _ _ _ (nd rfl (λ_=>?_) nofun);refine s _ _ rfl λe L=>A _ _ _ _ nofun ?_;conv=>whnf
 refine .ah ?_;show(if m.x.hand.length<n\/l.size<l.bj+n then _ else _);rw[aP (bW eS)];exact E;rw[io I];refine .hp (R l.bj) (p 3 _ rfl) (.bg (.hp (R l.size) (by rw[add_zero];exact p 1 _ rfl) (y _ _ _ (nd rfl (λq=>?_) (λq=>?_)))));refine s _ _ rfl λe L=>A _ _ _ _ nofun (.ah ?_);show(if m.x.hand.length<n\/l.size<l.bj+n then _ else _);rw[aP (bl (q2 q))];exact E;have xv:¬(m.x.hand.length<n\/l.size<l.bj+n):=by have:=y' q;omega
 obtain⟨U,M⟩:=k.hand.dV;have T:1<=l.size:=I;have j:=ayq k C t u m.aT m.ay n (m.x.hand.take n) (by unfold gT;rw[FQ];exact U.take I) (λg i _ e=>k.Gg.2.2.1 (by rw[<-e];exact oF i)) S T ss hm mO G O;refine W _ _ _ (az λhs dG hE=>.hp (ab m.aT m.x.hand.length m.ay) (bV k.box rfl) (.mk 0 n rfl rfl I I λrf nU r=>?_));rw[Lf nU r];refine .ah (.mk _ j ?_);rintro _ h1 ⟨N,Z,f,d,rfl,g7,bE,V⟩;have D:=N _ _ he;have kP:=bE _ _ he z;refine .hp cO 3 113 _ [R op,bA .u8 da,R dc,ab f n d,bA .u8 (0:Nat)] rfl D rfl ?_;have b:=V.xM D kP (bb [R op,bA .u8 da,R dc,ab f n d,bA .u8 (0:Nat)].toArray 113 (0,0));have c:=J.b1 h1 cO (bb [R op,bA .u8 da,R dc,ab f n d,bA .u8 (0:Nat)].toArray 113 (0,0));generalize h1.put cO _=ae at b c;refine dG _ _ _ (.hp (ab m.aT m.x.hand.length m.ay) (bV b.box rfl) (.mk n m.x.hand.length rfl rfl I M λo r K=>?_));obtain⟨P,F⟩:=b.hand.drop (wG:=o) (k:=n) (by simp only;omega) r K;have e8:=b.La (m.x.hand.drop n) o (m.ay-n) P (λg i=>by
  have q:g.block∈jm m.aT:=by rw[<-F];exact oF i
  obtain⟨Y,dP,e⟩:=n2 q;rw[<-e];exact b.pB Y dP) (by have:=b.sep;simp only at this⊢;rw[F];exact this)
 refine .hp aX 8 115 _ ({m with x:=vV m.x a l n,aT:=o,ay:=m.ay-n}:fe).cells rfl b.box ?_ ?_;show some _=some _;simp only[fe.cells,vV,mF];refine .ah ?_;show(if m.x.hand.length<n\/l.size<l.bj+n then _ else _);rw[aD xv];exact⟨Z,_,f,n,d,λq=>absurd q aM,g7,e8,rfl,jU.AY b _ _ _ c⟩
end
def jO:List Int->List Int->List (List Int)
 |_,[]=>[]
 |l,r::rs=>l.take r.toNat::jO (l.drop r.toNat) rs
def IZ:List Int->List Int->Prop
 |_,[]=>True
 |l,r::rs=>0<=r/\r<=l.length/\IZ (l.drop r.toNat) rs
theorem bJ.lA{bE:Nat}{h aa:J}{bK size n c:Nat}{A:Option aI}{xs:List ax}(r:bJ h bK size A n c xs)(le:J.lA bE h aa)(e:∀g,A=some g->g.block≠bE):bJ aa bK size A n c xs:=by
 obtain⟨h1,ae⟩:=r;refine⟨h1,?_⟩;rcases ae with ae|⟨b,bm,a,d,f⟩;exact bW ae;exact bl ⟨b,bm,a,le _ _ (e _ a) d,f⟩
theorem jM.lA{bE:Nat}{h aa:J}{A:Option aI}{l:List Int}{c:Nat}(x:jM h A l c)(le:J.lA bE h aa)(e:∀g,A=some g->g.block≠bE):jM aa A l c:=by
 rcases x with x|⟨f,off,bm,a,b,d⟩;exact bW x;exact bl ⟨f,off,bm,a,le _ _ (e _ a) b,d⟩
section
variable {B h:J}{aX:Nat}{m:fe}
theorem c4.vU(k:c4 B h aX m)(u:a<m.bx.length)(D:a<m.x.fy.length){s:gy}(le:J.lA m.bx[a].2 h aa)(C:ib (B.grow h aa) aa m.bx[a].1 m.bx[a].2 s):c4 (B.grow h aa) aa aX {m with x:={m.x with fy:=m.x.fy.set a s}}:=by
 have y:=k.dB a u D;obtain⟨A,hk⟩:=y.ty;have E:=IM m.x.fy[a].tag;have ne:∀{o:Nat}{bm:Array ax}{t:Nat},h o=some (bb bm t (0,0))->t<298->o≠m.bx[a].2:=λf w=>gp f hk I;have dY:∀{o:Nat}{bm:Array ax}{t:Nat},h o=some (bb bm t (0,0))->t<298->aa o=some (bb bm t (0,0)):=λf w=>le _ _ (ne f w) f;have mN:B.le (B.grow h aa):=λo U f=>by
  unfold J.grow;rw[J.mw (S:=λo=>B o≠none\/h o=none) (bW (by rw[f];nofun))];refine le _ _ (λe=>?_) (k.le _ _ f);rw[e,y.o9]at f;cases f
 have n:∀{o:Nat}{x:Obj},B o=none->h o=some x->B.grow h aa o=none:=λh1 ae=>tp h1 (by rw[ae];nofun);have c:m.x.fy.length=(m.x.fy.set a s).length:=bd;refine⟨J.AW _ _,n k.rx k.box,?_,dY k.mem aM,n k.o' k.mem,k.mV.lA le λg b=>?_,λg b=>?_,dY k.cL aM,n k.tm k.cL,k.rz,λd c=>⟨(k.qK d c).1.mono mN,(k.qK d c).2⟩,dY k.wr aM,n k.ue k.wr,k.l3,λd c=>(k.jT d c).lA le λg b=>?_,λd c g b=>?_,k.p8,k.ops.mono mN,k.mB.mono mN,?_,?_,λi h1 ae=>?_,k.tF,dY k.cS aM,n k.th k.cS,k.hand.lA le λg b=>?_,λg b=>?_,k.sep⟩;rw[dY k.box aM];simp only[fe.cells,h2];have r:=k.mV;rw[b]at r;obtain⟨p,l⟩:=r.ty;exact ne l aM;have r:=k.mV;rw[b]at r;exact tp (k.tJ g b) (r.mem rfl);have r:=k.jT d c;rw[b]at r;obtain⟨p,l⟩:=r.ty;exact ne l aM;have r:=k.jT d c;rw[b]at r;exact tp (k.rb d c g b) (r.mem rfl);have:=k.kt.mono mN;simp only[h2];exact this;simp only[h2];exact k.te;simp only[h2]at ae;by_cases e:i=a;subst e;simp only[Ih];exact C;simp only[XU (d' e)];have bi:=k.dB i h1 ae;have v:=bi.some_;have z:m.bx[i].2≠m.bx[a].2:=λq=>e ((List.getElem_inj (xs:=m.bx.map er) (i:=i) (j:=a) (h₀:=by simpa using h1) (h₁:=by simpa using u) k.tF).1 (by simpa using q));refine bi.to mN ?_ (tp bi.o9 v);cases q:h m.bx[i].2 with
 |none=>exact absurd q v
 |some U=>exact(le _ _ z q).symm
 have r:=k.hand;rw[b]at r;obtain⟨p,l⟩:=r.ty;exact ne l aM;have r:=k.hand;rw[b]at r;obtain⟨p,l⟩:=r.ty;exact n (k.pB g b) l
theorem Sn{B h:J}(b:B.le h)(c:B bE=none)(le:J.lA bE h aa):B.le (B.grow h aa):=λo U a=>by
 unfold J.grow;rw[J.mw (S:=λo=>B o≠none\/h o=none) (bW (by rw[a];nofun))];refine le _ _ (λe=>?_) (b _ _ a);rw[e,c]at a;cases a
theorem az'{B h:J}:(mv h aa bE).le (B.grow h aa):=λo U a=>by
 unfold mv at a;have q:=J.u2 (by rw[a];nofun);rw[J.mw q]at a;unfold J.grow;rw[J.mw (S:=λo=>B o≠none\/h o=none) (bl q.1)];exact a
theorem c4.up{aa:J}(k:c4 B h aX m)(le:h.le aa):c4 B aa aX m:=⟨J.le_trans k.le le,k.rx,le _ _ k.box,le _ _ k.mem,k.o',k.mV.mono le,k.tJ,le _ _ k.cL,k.tm,k.rz,k.qK,le _ _ k.wr,k.ue,k.l3,λd a=>(k.jT d a).mono le,k.rb,k.p8,k.ops,k.mB,k.kt,k.te,λi h1 ae=>(k.dB i h1 ae).up le,k.tF,le _ _ k.cS,k.th,k.hand.mono le,k.pB,k.sep⟩
theorem aoF Q(e:cy) h aX cO w z on bU t H n ins(x:bf h 1 t n (gT ins)) aT hand ay(j:jM h aT hand ay)(b:IZ hand ins)(aA:n<=1000)(he:[0,2,6,7,8,51,52,53].map e=[.v (bY aX),.v (bY cO),.v (bY bU),.v (ab none 0 0),.v (ab aT hand.length ay),.v (ab t n H),.v (R n),.v (R (0:Nat))])(T:∀e A c(D:List cY),[0,2,6,7].map e=[.v (bY aX),.v (bY cO),.v (bY bU),.v (ab A n c)]->D.map cY.l=jO hand ins->(∀d∈D,d.ok h)->D.length=n->Q (.exit 0) e [.own [.v w,.v z,.v on] 66,.row 27 1 A n c (D.map cY.val)] h):kB (λQ e L h=>di aB 97 av1 Q e L h) Q e [.own [.v w,.v z,.v on] 66,.row 27 1 none 0 0 []] h:=by
 have ak:ins.length=n:=by simpa using x.len
 refine .mk (Nat×Option aI×Nat×List cY×Option aI×List Int×Nat) [0,2,6,7,8,51,52,53] (λ(o,A,c,D,f,a,rc)=>[.v (bY aX),.v (bY cO),.v (bY bU),.v (ab A o c),.v (ab f a.length rc),.v (ab t n H),.v (R n),.v (R o)]) (λ(o,A,c,D,_)=>[.own [.v w,.v z,.v on] 66,.row 27 1 A o c (D.map cY.val)]) (λ(o,_,_,D,f,a,rc) aa=>aa=h/\o<=n/\jM h f a rc/\IZ a (ins.drop o)/\D.map cY.l++jO a (ins.drop o)=jO hand ins/\(∀d∈D,d.ok h)/\D.length=o) (λ(o,_)=>n-o) (0,none,0,[],aT,hand,ay) (λ_=>rfl) ⟨rfl,cW _,j,b,rfl,bd,rfl⟩ he rfl ?_;clear he j b;rintro⟨o,A,c,D,f,a,rc⟩ e aa ⟨ex,hk,j,b,hm,J,K⟩;rw[ex];refine az λgZ V g6=>V _ _ _ (az λiK U Z=>aY (λq=>?_) (λq=>?_));obtain⟨g,F⟩:=x.cg I;have E:o<ins.length:=I;have C:=x.one F (i:=o) (r:=[R ins[o]]) (by unfold gT;rw[dH,bZ E];rfl) rfl;rw[mE E]at b hm;rw[jO]at hm;obtain⟨d1,d2,d3⟩:=b;generalize ins[o]=r at C d1 d2 d3 hm;obtain⟨r,rfl⟩:∃k:Nat,r=k:=⟨r.toNat,I⟩;rw[bz]at d3 hm;obtain⟨S,O⟩:=j.dV;refine U _ _ _ (az λjl W jc=>fb λjV hf Y=>az λkD X kl=>.m g F (.hp (R r) (by rw[bz];exact C) (X _ _ _ (az λr8 kS rO=>.mk 0 r rfl rfl I I λrf nU B=>?_))));rw[Lf nU B];refine .ah (.c3 1 _ [ab f r rc] rfl rfl (by intro u hu;rw[hV]at hu;subst hu;rfl) (by unfold eD;omega) I λp s _=>kS _ _ _ (.mk r a.length rfl rfl I O λy B M=>?_));obtain⟨N,_⟩:=j.drop (wG:=y) (k:=r) I B M;refine Y _ _ _ _ nofun (W _ _ _ (.bg ?_));have G:(a.take r).length=r:=by rw[ni];omega
 refine⟨(o+1,p,s,D++[⟨f,rc,a.take r⟩],y,a.drop r,rc-r),?_,?_,⟨rfl,I,N,d3,by rw[fF,kC];exact hm,λd b=>?_,by simp[K]⟩,by show n- (o+1)<n-o;omega⟩;show _=[_,_,_,_,aK.v (ab y (a.drop r).length (rc-r)),_,_,_];rw[mF];rfl;show _=[_,LE.row 27 1 p (o+1) s ((D++[(⟨f,rc,a.take r⟩:cY)]).map cY.val)];rw[fF];show _=[_,LE.row 27 1 p (o+1) s (D.map cY.val++[ab f (a.take r).length rc])];rw[G];rfl;rcases ej.1 b with b|b;exact J d b;rw[hV]at b;subst b;show bf h 1 f (a.take r).length (gT (a.take r));rw[G];unfold gT;rw[FQ];exact S.take I;refine Z _ _ _ _ nofun ?_;obtain rfl:o=n:=by omega
 have P:ins.drop o=[]:=rm I;rw[P,jO,s7]at hm;exact T _ A c D rfl hm J K
end
section
variable {B:J}{aX:Nat}
theorem arK(Q:k7)(e:cy)(N:List LE)(f C:J)(m:fe)(k:c4 f C aX m)(hm:m.x.hand=[]){y:Array ax}(b:C cO=some (bb y 113 (0,0)))(w u on:ax)(A:Option aI)(c n:Nat)(D:List cY)(E:RowsIn f A D)(nV:D.length=n)(B:∀d∈D,0<d.l.length/\d.l.length<=64)(aA:n<=100)(O:sR N [0]=some (([.own [.v w,.v u,.v on] 66]:List LE).map (pR [0])))(he:[0,81,82,83].map e=([.v (bY aX),.v (ab A n c),.v (R n),.v (R (0:Nat))]:List aK).map (tY [0]))(cM:∀e aa a,[0].map e=[.v (bY aX)]->c4 f aa aX a->a.x={m.x with hand:=(D.map cY.l).flatten}->aa cO=some (bb y 113 (0,0))->Q (.exit 2) e [.own [.v w,.v u,.v on] 66] aa):kB (λQ e L h=>di aB 97 av2 Q e L h) Q e N C:=by
 refine .mq [0] (Nat×fe) [0,81,82,83] (λ(o,_)=>[.v (bY aX),.v (ab A n c),.v (R n),.v (R o)]) (λ_=>[.own [.v w,.v u,.v on] 66]) (λ(o,a) aa=>c4 f aa aX a/\a.x={m.x with hand:=((D.take o).map cY.l).flatten}/\aa cO=some (bb y 113 (0,0))/\o<=n/\a.x.hand.length<=64*o) (λ(o,_)=>n-o) (0,m) (λ_=>rfl) ⟨k,by rw[List.take_zero,x',akT,<-hm],b,cW _,by rw[hm];exact cW _⟩ he rfl O ?_;clear he O b k;refineλ⟨o,a⟩ e h⟨k,z,b,hk,eH⟩=>.ah (az λgZ ea g6=>ea _ _ _ (az λiK eT hg=>aY (λq=>?_) (λq=>?_)));have p:o<D.length:=I;obtain⟨g,P⟩:=E.dV.cg I;have U:=(E.dV.mono k.le).one P (i:=o) (r:=[D[o].val]) (by unfold HL;rw[dH,bZ p];rfl) rfl;have W:=(E.row _ (cG p)).mono k.le;obtain⟨M,Y⟩:=B _ (cG p);have fB:D.take (o+1)=D.take o++[D[o]]:=kJ p;have V:((D.take (o+1)).map cY.l).flatten=a.x.hand++D[o].l:=by rw[fB,z,fF,vr];simp only[List.map_cons,x',List.flatten_cons,akT,s7]
 generalize D[o]=d at U W M Y V;refine eT _ _ _ (az λjl fa jc=>fb λjV hf h6=>az λkD gK kl=>.m g P (.hp (ab d.A d.l.length d.c) (by rw[bz];exact U) (gK _ _ _ ?_)));have fin:∀(e:cy)(L:List LE)(ae:J)(m2:fe),[0,81,82,83].map e=[.v (bY aX),.v (ab A n c),.v (R n),.v (R o)]->m2.x={a.x with hand:=a.x.hand++d.l}->(∀K:List LE->J->Prop,(∀H aU,H.take 1=[.own [.v w,.v u,.v on] 66]->c4 f aU aX m2->aU cO=some (bb y 113 (0,0))->K H aU)->hc K L ae)->jV .normal e L ae:=by
  refineλe L ae m2 G T rJ=>h6 _ _ _ _ nofun (fa _ _ _ ?_);rw[<-fK [0,81,82,83] e,G];refine .bg (rJ _ λH aU hv qd fr=>⟨(o+1,m2),rfl,hv,⟨qd,by rw[T,V,z],fr,I,?_⟩,by show n- (o+1)<n-o;omega⟩);rw[T];simp only[fc];omega
 refine .hp (ab a.aT a.x.hand.length a.ay) (bV k.box rfl) (.ah (YN k (aG:=d.l) (n:=d.l.length) (by rw[<-yz];exact W.src _) rfl M I (λae j X S3=>?_) (λs t=>?_)));have G:=X _ _ b;have e8:=j.La _ a.aT a.ay S3 j.pB j.sep;have rE:=jU.AY j (bb ({a with x:={a.x with hand:=a.x.hand++d.l}}:fe).cells.toArray 115 (0,0)) _ _ G;exact .hp aX 8 115 _ ({a with x:={a.x with hand:=a.x.hand++d.l}}:fe).cells rfl j.box (by show some _=some _;simp only[fe.cells,fc]) (fin _ _ _ _ rfl rfl λK F=>.ah (F _ _ rfl e8 rE));refine .hp aX 8 115 _ ({a with x:={a.x with hand:=a.x.hand++d.l},aT:=s,ay:=t}:fe).cells rfl k.box (by show some _=some _;simp only[fe.cells,fc]) ?_;have Z:aX≠cO:=gp k.box b aM;refine fin _ _ _ ({a with x:={a.x with hand:=a.x.hand++d.l},aT:=s,ay:=t}:fe) rfl rfl λK F=>.b4 1 3 1 s _ t _ rfl λaU S ga f4=>.ah (F _ _ rfl ?_ (S _ _ (by rw[J.cB _ _ (d' Z)];exact b)));exact k.ab8 (a.x.hand++d.l) s t rfl S (by rw[fc];exact ga) f4;refine hg _ _ _ _ nofun ?_;obtain rfl:o=n:=by omega
 exact cM _ _ a rfl k (by rw[z,List.take_of_length_le I]) b
def uy(x:e1)(a:Nat)(b:gy)(outs:List (List Int)):e1:={x with fy:=x.fy.set a b,hand:=outs.flatten}
theorem aEs{B:J}{aX:Nat}{m:fe}(k:c4 B h aX m) c:∃g,m.iA=some g/\h.cell? (g.add (a*1))=some (R m.x.hP[a]):=by
 obtain⟨g,b⟩:=k.mB.cg I;exact⟨g,b,(k.mB.mono k.le).one b (i:=a) (r:=[R m.x.hP[a]]) (by unfold gT;rw[dH,bZ c];rfl) rfl⟩
theorem call83{B:J}{m:fe}(k:c4 B h aX m){on:ax}(he:h cO=some (mc op da dc (ab none 0 0) 0))(V:B cO=none)(a:Nat)(p:a<m.x.fy.length)(mO:a<m.x.hP.length)(x:gy)(af:m.x.fy[a]=x)(bL:m.x.hand.length<=1000)(t1:1<=x.tag)(t2:x.tag<=11)(ai:x.ins.length<=16)(aS:x.outs.length<=16)(b:(m.x.hand.length:Int)=m.x.hP[a]->IZ m.x.hand x.ins)(g:gy)(r:Option (List (List Int)))(o:(m.x.hand.length:Int)=m.x.hP[a]->∀outs,r=some outs->(∀U∈outs,0<U.length/\U.length<=64)/\outs.length<=100)(C:(m.x.hand.length:Int)=m.x.hP[a]->∀bU bE,ib B h bU bE x->∀ae bX N(D:List cY) n,h.le ae->RowsIn ae bX D->D.length=n->D.map cY.l=jO m.x.hand x.ins->Fn aB 89 #[bY bU,ab bX n N] ae (P' B ae bU bE g r)):Fn aB 83 #[bY aX,.agg #[w,R a,on],bY cO] h λ_ aa=>if(m.x.hand.length:Int)=m.x.hP[a]then(match r with|some outs=>nJ B aX cO op da dc (uy m.x a g outs) 0 aa|none=>nJ B aX cO op da dc {m.x with fy:=m.x.fy.set a g} 3 aa)else nJ B aX cO op da dc m.x 4 aa:=by
 have y:a<m.bx.length:=by rw[k.te];exact p
 have v:=k.dB a y p;rw[af]at v;obtain⟨ef,Q⟩:=k.kt.cg I;have ed:=(k.kt.mono k.le).one Q (i:=a) (r:=[bY m.bx[a].1]) (by rw[dH,bZ y];rfl) rfl;obtain⟨gt,uM,kN⟩:=aEs k mO;refine b6 T0 rfl (az λgE de gm=>de _ _ _ (az λgA db ev=>.hp (ab m.k9 m.x.fy.length m.lR) (bV k.box rfl) (.m ef Q (.hp (bY m.bx[a].1) (by rw[bz];exact ed) (db _ _ _ (az λgj c6 fD=>az λgk dZ ez=>.hp (ab m.aT m.x.hand.length m.ay) (bV k.box rfl) (.hp (ab m.iA m.x.hP.length m.hR) (bV k.box rfl) (.m gt uM (.hp (R m.x.hP[a]) (by rw[bz];exact kN) (dZ _ _ _ (nd rfl (λq=>?_) (λq=>?_))))))))))));have f:=q2 q;refine .hp cO 4 113 _ [R op,bA .u8 da,R dc,ab none 0 0,bA .u8 (4:Nat)] rfl he rfl (fD _ _ _ _ nofun (.ah ?_));show(if(m.x.hand.length:Int)=m.x.hP[a]then _ else _);rw[aD f];exact⟨B,m,none,0,0,λ_=>⟨rfl,rfl,rfl⟩,J.le_refl _,k.xM he V _,rfl,J.b1 _ _ _⟩;have f:(m.x.hand.length:Int)=m.x.hP[a]:=jL.1 (y' q);have b:=b f;have C:=C f;have o:=o f;refine c6 _ _ _ (az λhs dG hE=>dG _ _ _ (az λgZ ea g6=>.hp (ab m.aT m.x.hand.length m.ay) (bV k.box rfl) (ea _ _ _ (az λiK eT hg=>.ah (.mk _ (ah2 v k.le I I t1 t2) ?_)))));rintro _ h1 ⟨u,dR,N,cj,bO,rfl,eC,_⟩;refine eT _ _ _ (az λjl fa jc=>az λjV hf h6=>hf _ _ _ (fb λkD gK kl=>.kY (.abs 27 1 none 0 0 [] ⟨rfl,bW ⟨rfl,rfl,rfl⟩⟩ (.ah ?_))));show kB _ _ _ _ h1;refine aoF kD _ h1 aX cO w (R a) on _ dR N _ x.ins eC m.aT m.x.hand m.ay (k.hand.mono u) b I rfl λe A c D gR j9 K Z=>gK _ _ _ (fa _ _ _ ?_);rw[<-fK [0,2,6,7] e,gR];refine az λr8 X rO=>.b4 1 27 1 A x.ins.length c (D.map cY.val) rfl λae t dW f2=>.ah (.mk _ (C _ _ v ae A c D x.ins.length (J.le_trans u t) ⟨?_,λd b=>(K d b).mono t⟩ Z j9) ?_);have:=dW.eQ;rw[iD]at this;rw[Z];exact this;rintro _ T ⟨O,F,S⟩;have M:=k.up (J.le_trans u t);have j:=M.vU y p O F;have W:=Sn M.le v.o9 O;have E:=t _ _ (u _ _ he);have P:T cO=some (mc op da dc (ab none 0 0) 0):=by
  obtain⟨bm,ay⟩:=(M.dB a y p).ty;have IK:=IM m.x.fy[a].tag;exact O _ _ (gp E ay I) E
 cases r with
 |none=>
  subst S;refine X _ _ _ (az λpt Y oD=>.hp cO 4 113 _ [R op,bA .u8 da,R dc,ab none 0 0,bA .u8 (3:Nat)] rfl P rfl (oD _ _ _ _ nofun (.ah ?_)));show(if(m.x.hand.length:Int)=m.x.hP[a]then _ else _);rw[aP f];exact⟨_,_,none,0,0,λ_=>⟨rfl,rfl,rfl⟩,W,j.xM P (tp V (by rw[E];nofun)) _,rfl,J.b1 _ _ _⟩
 |some outs=>
  obtain⟨iC,gc,z,rfl,ge,mf⟩:=S;obtain⟨o,aHV⟩:=o _ rfl;have H:=mf.mono (az' (B:=B));have qd:=j.La [] none 0 (bW ⟨rfl,rfl,rfl⟩) nofun (by
   have s:=j.sep;rw[iV,iV,oS]at s;simp only[ek,ej,not_or]at s;simp only[jm,List.nil_append,iV,ek,not_or];exact⟨⟨s.1.1,s.1.2.2⟩,s.2.1.2,s.2.2.2.1⟩)
  have Ed:=jU.AY j (bb ({m with x:=uy m.x a g [],aT:=none,ay:=0}:fe).cells.toArray 115 (0,0)) _ _ P;have aHb:z.length=outs.length:=by rw[<-ge,gz]
  refine X _ _ _ (az λpt Y oD=>Y _ _ _ (az λtb mn wi=>.hp aX 8 115 _ ({m with x:=uy m.x a g [],aT:=none,ay:=0}:fe).cells rfl j.box rfl (mn _ _ _ (az λBG sG CC=>sG _ _ _ (fb λDu xH Ke=>.kY (.ah (arK Du _ _ (B.grow ae T) _ _ qd rfl Ed w (R a) on iC gc z.length z H rfl (λd b=>o _ (by rw[<-ge];exact FR b)) I rfl rfl λe cE bt acn o8 L G=>xH _ _ _ (.ah ?_))))))));show(if(m.x.hand.length:Int)=m.x.hP[a]then _ else _);rw[aP f];exact⟨_,bt,none,0,0,λ_=>⟨rfl,rfl,rfl⟩,W,o8,by rw[L,ge];rfl,G⟩
end
def Qc(ar:LE)(A:Option aI)(l:List Int)(c:Nat):Prop:=(A=none/\l=[]/\c=0/\ar= .row 3 1 none 0 0 [])\/∃(b off N a:Nat)(xs:List ax),A=some ⟨b,off,none⟩/\ar= .row 3 1 (some ⟨b,0,none⟩) N a xs/\N=off+l.length/\(0<c->off+c=a)/\off<=a/\a<=eD/\xs.drop off=l.map R/\xs.length=N/\l.length<=c
theorem arN(x:jM h A l c) X(d:∀ar,Qc ar A l c->K [X,ar] (eP h A)):hc K [X] h:=by
 rcases x with⟨rfl,rfl,rfl⟩|⟨b,off,bm,rfl,i,e,f,g,ay,hm⟩;exact .abs 3 1 none 0 0 [] ⟨rfl,bW ⟨rfl,rfl,rfl⟩⟩ (.ah (d _ (bW ⟨rfl,rfl,rfl,rfl⟩)));have j:off+l.length<=bm.length:=by
  by_cases q:0<c;have:=f q;omega;omega
 have a:(bm.take (off+l.length)).length=off+l.length:=by rw[ni];omega
 refine .abs 3 1 (some ⟨b,0,none⟩) (off+l.length) bm.length (bm.take (off+l.length)) ⟨by rw[a,eV],bl ⟨b,bm.toArray,rfl,i,j,hm,bd,by rw[eV]⟩⟩ (.ah ?_);exact d _ (bl ⟨b,off,_,_,_,rfl,rfl,rfl,f,g,hm,by rw[XS,Dq,e],a,ay⟩)
theorem ab9{off N a:Nat}(r:bJ aU 3 1 (some ⟨b,0,none⟩) N a xs)(o:N=off+l.length)(k:0<c->off+c=a)(g:off<=a)(hm:a<=eD)(d:xs.drop off=l.map R)(ay:l.length<=c):jM aU (some ⟨b,off,none⟩) l c:=by
 obtain⟨n,ar,e,i,j,m,_,h⟩:=r.split;injection e with e;subst e;have lc:(xs++ar).length=a:=by rw[fc,h,j];omega
 refine bl ⟨b,off,xs++ar,rfl,i,?_,λq=>by rw[lc];exact k q,by rw[lc];exact g,ay,by rw[lc];exact hm⟩;rw[XQ I,d,<-gz (f:=R),BA]
theorem ab'{ar:LE}(j:Qc ar A l c) X(d:∀aU,h.le aU->jM aU A l c->(∀g,A=some g->h g.block=none)->hc K [X,.gone] aU):hc K [X,ar] h:=by
 rcases j with⟨rfl,rfl,rfl,rfl⟩|⟨b,off,N,m,xs,rfl,rfl,k,n,i,hm,e,o,ay⟩;exact .b4 1 3 1 none 0 0 [] rfl λaU le r f=>d aU le (bW ⟨rfl,rfl,rfl⟩) nofun;exact .b4 1 3 1 (some ⟨b,0,none⟩) N m xs rfl λaU le r f=>d aU le (ab9 r k n i hm e ay) λg a=>by injection a with a;subst a;exact f ⟨b,0,none⟩ rfl
theorem arO{ar:LE}{aG:List Int}(G:Qc ar A l c){S:List ax->Prop}{X:LE}{K:aK->List LE->Prop}(p:S (aG.map R))(k:aG.length=n)(al:0<n)(ak:l.length+n<=100000)(m:∀d a t,(∀i h,(∀L aU,h.le aU->jM aU d (l++aG) a->(∀g,d=some g->h g.block=none)->hc i L aU)->hc i (X::t) h)->K (.v (ab d (l.length+n) a)) (X::t)):x5 3 1 8 A l.length c n S [X,ar] K:=by
 have c1:∀u∈aG.map R,u.oneCell'=true:=λu hu=>by obtain⟨x,_,rfl⟩:=cU.1 hu;rfl
 have j0:l.length+n<=eD:=by unfold eD;omega
 have fresh:∀{aU:J}{d:Option aI}{a:Nat},bJ aU 3 1 d (l.length+n) a ((l++aG).map R)->jM aU d (l++aG) a:=by
  intro aU d a r;have z:(l++aG).length=l.length+n:=by rw[fc,k]
  cases d with
  |none=>
   obtain⟨O,⟨_,M,Q⟩|⟨b,bm,q,_⟩⟩:=r;omega;cases q
  |some g=>
   obtain⟨b,ar,rfl,F,H,D,ay,_⟩:=r.split;have lc:((l++aG).map R++ar).length=a:=by rw[fc,gz,z,H];omega
   refine bl ⟨b,0,(l++aG).map R++ar,rfl,F,?_,λ_=>by rw[lc];exact dM _,cW _,by rw[z];exact D,by rw[lc];exact ay⟩;rw[akO,<-gz (f:=R),BA]
 rcases G with⟨rfl,rfl,rfl,rfl⟩|⟨b,off,N,B,xs,rfl,rfl,y,C,E,hm,o,P,ay⟩;refine .c3 1 [] (aG.map R) rfl p c1 j0 I λd a _=>?_;exact m d a _ λi h e=>.b4 1 3 1 d (0+n) a _ rfl λaU le r f=>e _ aU le (fresh r) f;refine .off 1 b off N B xs (aG.map R) rfl rfl (by rw[eV,eV];exact y) (λq=>by rw[eV,eV,C I]) p c1 al j0 I (λs=>?_) (λs w a T=>?_);refine m _ c _ λi h e=>.b4 1 3 1 (some ⟨b,0,none⟩) (N+n) B (xs++aG.map R) rfl λaU le r f=>e _ aU le (ab9 r (by rw[fc,k,y];omega) C E hm ?_ (by rw[fc,k];exact s)) λg j=>by injection j with j;subst j;exact f ⟨b,0,none⟩ rfl
 rw[XQ I,o,fF];refine m (some w) a _ λi h e=>.b4 2 3 1 (some w) (l.length+n) a (xs.drop off++aG.map R) rfl λaU le r f=>e _ aU le (fresh (by rw[o,<-fF]at r;exact r)) f
theorem MA h A{b:Nat} U(a:∀g,A=some g->g.block≠b):eP (h.put b U) A=(eP h A).put b U:=by
 cases A with
 |none=>rfl
 |some g=>
  have:=a g rfl;funext o;simp only[eP,J.del,J.put];by_cases q:o=g.block;subst q;rw[aP rfl,aD this,aP rfl];rw[aD q,aD q]
theorem oo(a:∀g,A=some g->o≠g.block):eP h A o=h o:=by
 cases A with
 |none=>rfl
 |some g=>exact J.mJ _ (a g rfl)
section
variable {B h:J}{aX:Nat}{m:fe}
theorem c4.yD(k:c4 B h aX m)(a:h o=some (bb bm t (0,0)))(c:t≠3):∀g,m.aT=some g->o≠g.block:=λg b=>by
 have r:=k.hand;rw[b]at r;obtain⟨e,d⟩:=r.ty;exact gp a d c
theorem c4.ab7(k:c4 B h aX m)(l:List Int)(A:Option aI)(c:Nat){U:Obj}(S:U=bb ({m with x:={m.x with hand:=l},aT:=A,ay:=c}:fe).cells.toArray 115 (0,0))(F:((eP h m.aT).put aX U).le aU)(X:jM aU A l c)(f:∀g,A=some g->((eP h m.aT).put aX U) g.block=none):c4 B aU aX {m with x:={m.x with hand:=l},aT:=A,ay:=c}:=by
 have dY:∀{o:Nat}{x:Obj},h o=some x->o≠aX->(∀g,m.aT=some g->o≠g.block)->aU o=some x:=λp z w=>F _ _ (by rw[J.cB _ _ z,oo w];exact p);have mt:∀{o:Nat}{bm:Array ax}{t:Nat},h o=some (bb bm t (0,0))->t≠115->t≠3->aU o=some (bb bm t (0,0)):=λp z w=>dY p (gp p k.box z) (k.yD p w);obtain⟨z,w,M,y6⟩:=k.Gg;have sp:=k.sep;rw[iV,iV,oS]at sp;obtain⟨s1,s2,iu,nD,O⟩:=sp;have kc:aU m.eg=some (hh m.x.mem):=dY k.mem (gp k.mem k.box aM) λg j e=>M (by rw[e];exact oF j);have jo:aU m.dD=some (hh m.x.cS):=dY k.cS (gp k.cS k.box aM) λg j e=>w (by rw[e];exact oF j);have N:∀d∈m.wr,∀g,d.A=some g->∀s,m.aT=some s->g.block≠s.block:=λd v g j s y e=>O s.block (oF y) g.block (s'.2 ⟨d,v,oF j⟩) e.symm;have H:∀{bK size n c:Nat}{A:Option aI}{xs:List ax},bJ h bK size A n c xs->(∀g,A=some g->g.block≠aX/\∀s,m.aT=some s->g.block≠s.block)->bJ aU bK size A n c xs:=by
  intro bK size n c A xs r aT;obtain⟨h1,ae⟩:=r;refine⟨h1,?_⟩;rcases ae with ae|⟨b,bm,K,Q,Y⟩;exact bW ae;have:=aT _ K;exact bl ⟨b,bm,K,dY Q this.1 this.2,Y⟩
 have Z:∀d∈m.wr,bJ aU 3 1 d.A d.l.length d.c (d.l.map R):=λd v=>H (k.jT d v) λg j=>by
  have r:=k.jT d v;rw[j]at r;obtain⟨D,u⟩:=r.ty;exact⟨gp u k.box aM,λs y=>N d v g j s y⟩
 have L:B.le ((eP h m.aT).put aX U):=ll k.rx λo x p=>by
  rw[oo λg j e=>by rw[e,k.pB g j]at p;cases p];exact k.le _ _ p
 have E:∀o∈jm A,((eP h m.aT).put aX U) o=none:=λo p=>by
  obtain⟨g,j,e⟩:=n2 p;rw[<-e];exact f g j
 have C:∀{o:Nat}{bm:Array ax},h o=some (bb bm 3 (0,0))->(∀g,m.aT=some g->o≠g.block)->((eP h m.aT).put aX U) o≠none:=λp P=>by
  rw[J.cB _ _ (gp p k.box aM),oo P,p];nofun
 refine⟨J.le_trans L F,k.rx,by rw[F _ _ (J.b1 _ _ _),S],kc,k.o',H k.mV λg j=>?_,k.tJ,mt k.cL aM aM,k.tm,k.rz,k.qK,mt k.wr aM aM,k.ue,k.l3,Z,k.rb,k.p8,k.ops,k.mB,k.kt,k.te,λi h1 ae=>?_,k.tF,jo,k.th,X,λg j=>J.none_le L (f g j),?_⟩;have r:=k.mV;rw[j]at r;obtain⟨D,u⟩:=r.ty;exact⟨gp u k.box aM,k.yD u aM⟩;have G:=k.dB i h1 ae;obtain⟨D,u⟩:=G.ty;have IK:=IM m.x.fy[i].tag;exact G.to (J.le_refl _) (by rw[u,mt u I I]) G.o9;rw[iV,iV,oS];simp only[ek,ej,not_or]at s1 s2⊢;refine⟨⟨s1.1,λq=>C k.mem (λg j e=>M (by rw[e];exact oF j)) (E _ q),s1.2.2⟩,⟨λq=>C k.cS (λg j e=>w (by rw[e];exact oF j)) (E _ q),s2.2⟩,?_,nD,λa T b V e=>?_⟩;cases A<;>simp[jm];subst e;obtain⟨d,v,q⟩:=s'.1 V;obtain⟨g,j,e⟩:=n2 q;have r:=k.jT d v;rw[j]at r;obtain⟨D,u⟩:=r.ty;rw[e]at u;exact C u (λs y W=>N d v g j s y (by rw[e];exact W)) (E _ T)
theorem c4.arM(k:c4 B h aX m)(c:(eP h m.aT).le aU)(b:jM aU m.aT m.x.hand m.ay)(f:∀g,m.aT=some g->(eP h m.aT) g.block=none):c4 B aU aX m:=by
 have a:(eP h m.aT) aX=some (bb m.cells.toArray 115 (0,0)):=by rw[oo (k.yD k.box aM)];exact k.box
 exact k.ab7 m.x.hand m.aT m.ay rfl (by rw[sT a];exact c) b (by rw[sT a];exact f)
end
section
variable {B h:J}{aX:Nat}{m:fe}
def zh(x:e1)(a n:Nat):e1:={x with hand:=x.hand++(x.cL.getD a []).take n,cL:=x.cL.set a ((x.cL.getD a []).drop n)}
theorem c4.apI(k:c4 B h aX m) b:h.cell? ((⟨m.fG,0,none⟩:aI).add (a*1))=some m.cL[a].val:=by
 rw[add_lit,dM,eV];exact bV k.cL (by simp[b])
theorem apJ(k:c4 B h aX m):m.cL.length=m.x.cL.length:=by rw[<-k.rz,gz]
theorem aqJ{cs:List ax}{ak ay:Nat}(a:h aX=some (bb cs.toArray 115 (0,0)))(b:cs[8]?=some (ab A ak ay)) n(d:ak<=100000)(c:0<=n/\n<=100000):Fn aB 133 #[bY aX,R n] h λv aa=>v=c5 (decide (64<ak+n))/\aa=h:=by
 exact b6 ad' rfl (.hp (ab A ak ay) (bV a b) (.bg (.ah ⟨rfl,rfl⟩)))
theorem c4.EQ(k:c4 B h aX m):B.le (eP h m.aT):=λo x a=>by
 rw[oo λg b e=>by rw[e,k.pB g b]at a;cases a];exact k.le _ _ a
theorem aEw{h:J}{d:cY}(x:d.ok h)(a:n<=d.l.length):bf h 1 d.A n (gT (d.l.take n)):=by
 unfold gT;rw[FQ];exact bf.take x a
theorem aB5(k:c4 B h aX m)(he:h cO=some (mc op da dc (ab none 0 0) 0))(eG:B cO=none)(a n:Nat)(aV:a<m.x.cL.length)(dm:1<=n)(aA:n<=1000)(bL:m.x.hand.length<=1000):Fn aB 82 #[bY aX,.agg #[w,R a,R n],bY cO] h λ_ aa=>if 64<m.x.hand.length+n then nJ B aX cO op da dc m.x 4 aa else if(m.x.cL.getD a []).length<n then nJ B aX cO op da dc m.x 2 aa else nJ B aX cO op da dc (zh m.x a n) 0 aa:=by
 have z:a<m.cL.length:=by rw[apJ k];exact aV
 obtain⟨d,D⟩:∃d,m.cL[a]=d:=⟨_,rfl⟩;obtain⟨O,S⟩:=k.qK _ (cG z);rw[D]at O S;have X:m.x.cL.getD a []=d.l:=by
  rw[<-k.rz,cx,dH,bZ z,D];rfl
 obtain⟨f,o⟩:∃f,f=eP h m.aT:=⟨_,rfl⟩;have C:f aX=some (bb m.cells.toArray 115 (0,0)):=by rw[o,oo (k.yD k.box aM)];exact k.box
 have s:f m.fG=some (bb (m.cL.map cY.val).toArray 27 (0,0)):=by rw[o,oo (k.yD k.cL aM)];exact k.cL
 have Y:f cO=some (mc op da dc (ab none 0 0) 0):=by rw[o,oo (k.yD he aM)];exact he
 have Z:B.le f:=by rw[o];exact k.EQ
 have V:f.cell? ((⟨m.fG,0,none⟩:aI).add (a*1))=some d.val:=by
  rw[add_lit,dM,eV];exact bV s (by simp[z,D])
 refine b6 ax9 rfl ?_;have f133:=aqJ C (A:=m.aT) (ak:=m.x.hand.length) (ay:=m.ay) rfl n I ⟨I,I⟩;have W:∀(t:Nat)(aU:J),(f.put cO (mc op da dc (ab none 0 0) t)).le aU->jM aU m.aT m.x.hand m.ay->(∀g,m.aT=some g->(f.put cO (mc op da dc (ab none 0 0) t)) g.block=none)->nJ B aX cO op da dc m.x t aU:=by
  intro t aU b i f4;rw[o,<-MA h m.aT _ λg K e=>k.yD he aM g K e.symm]at b f4;refine⟨B,m,none,0,0,λ_=>⟨rfl,rfl,rfl⟩,J.le_refl _,(k.xM he eG _).arM b i f4,rfl,b _ _ ?_⟩;rw[oo (k.yD he aM),J.b1]
 rw[X];refine az λgE de gm=>de _ _ _ (fb λgA db M=>az λgj c6 fD=>arN k.hand _ λar L=>?_);rw[<-o];refine .mk _ f133 ?_;rintro _ af ⟨rfl,ex⟩;rw[ex];refine c6 _ _ _ ?_;refine nd rfl (λq=>?_) (λq=>?_);refine .hp cO 4 113 _ [R op,bA .u8 da,R dc,ab none 0 0,bA .u8 (4:Nat)] rfl Y rfl (M _ _ _ _ nofun (ab' L _ λaU b i f4=>.ah ?_));show(if 64<m.x.hand.length+n then _ else _);rw[aP (by have:=q2 q;omega)];exact W 4 aU b i f4;have u:¬64<m.x.hand.length+n:=by have:=y' q;omega
 refine az λgk dZ ez=>.hp (nO m.fG m.cL.length) (bV C rfl) (.mk ⟨m.fG,0,none⟩ rfl I I (.hp (ab d.A d.l.length d.c) (by rw[bz];exact V) (dZ _ _ _ (nd rfl (λq=>?_) (λq=>?_)))));refine .hp cO 4 113 _ [R op,bA .u8 da,R dc,ab none 0 0,bA .u8 (2:Nat)] rfl Y rfl (M _ _ _ _ nofun (ab' L _ λaU b i f4=>.ah ?_));show(if 64<m.x.hand.length+n then _ else if d.l.length<n then _ else _);rw[aD u,aP (by have:=q2 q;omega)];exact W 2 aU b i f4;have G:¬d.l.length<n:=by have:=y' q;omega
 refine az λhs dG hE=>.hp (ab m.aT m.x.hand.length m.ay) (bV C rfl) (.hp (nO m.fG m.cL.length) (bV C rfl) (.mk ⟨m.fG,0,none⟩ rfl I I (.hp (ab d.A d.l.length d.c) (by rw[bz];exact V) (.mk 0 n rfl rfl I I λrf nU N=>?_))));rw[Lf nU N];have lt:(d.l.take n).length=n:=by rw[ni];omega
 refine arO L (aG:=d.l.take n) (by rw[<-yz];exact(bf.mono (aEw O I) Z).src _) lt I I λT U cF bE=>?_;obtain⟨j,E⟩:∃j,j=({m with x:={m.x with hand:=m.x.hand++d.l.take n},aT:=T,ay:=U}:fe).cells:=⟨_,rfl⟩;refine .hp aX 8 115 _ j rfl C (by rw[E];show some _=some _;simp only[fe.cells,fc,lt,Nat.sub_zero]) ?_;have P:(f.put aX (bb j.toArray 115 (0,0))) aX=some (bb j.toArray 115 (0,0)):=J.b1 _ _ _;have v:j[2]?=some (nO m.fG m.cL.length):=by rw[E];rfl
 have Q:m.fG≠aX:=gp k.cL k.box aM;have r:(f.put aX (bb j.toArray 115 (0,0))) m.fG=some (bb (m.cL.map cY.val).toArray 27 (0,0)):=by rw[J.cB _ _ Q];exact s
 refine dG _ _ _ (.hp (nO m.fG m.cL.length) (bV P v) (.hp (nO m.fG m.cL.length) (bV P v) (.mk ⟨m.fG,0,none⟩ rfl I I (.hp (ab d.A d.l.length d.c) (by rw[bz,add_lit,dM,eV];exact bV r (by simp[z,D,cY.val])) (.mk n d.l.length rfl rfl I S λp N GB=>.mk ⟨m.fG,0,none⟩ rfl I I ?_)))));have ld:(d.l.drop n).length=d.l.length-n:=mF;refine .hp m.fG (0+a*1) 27 (m.cL.map cY.val) ((m.cL.set a ⟨p,d.c-n,d.l.drop n⟩).map cY.val) (by rw[add_lit,bz]) r ?_ ?_;rw[dM,eV,ih _ _ _ (by rw[gz];exact z),lM];show some ((m.cL.map cY.val).set a (ab p (d.l.length-n) (d.c-n)))=some ((m.cL.map cY.val).set a (ab p (d.l.drop n).length (d.c-n)));rw[ld];refine M _ _ _ _ nofun (bE _ _ λmD aU b i f4=>.ah ?_);show(if 64<m.x.hand.length+n then _ else if d.l.length<n then _ else _);rw[aD u,aD G];have F:(⟨p,d.c-n,d.l.drop n⟩:cY).ok B:=by
  show bf B 1 p (d.l.drop n).length (gT (d.l.drop n));rw[ld];unfold gT;rw[aIN];exact bf.drop O (λq=>N I) I
 have b2:=k.ahY (m.cL.set a ⟨p,d.c-n,d.l.drop n⟩) bd (λy H=>by
  rcases List.mem_or_eq_of_mem_set H with H|rfl;exact k.qK y H;exact⟨F,by show(d.l.drop n).length<=d.c-n;omega⟩)
 rw[VJ _ _ _ (d' Q),o,<-MA h m.aT _ (λg K e=>k.yD k.cL aM g K e.symm)]at b f4;have bN:=b2.ab7 (m.x.hand++d.l.take n) T U (by rw[E];simp only[fe.cells,h2]) b i f4;have UU:cO≠aX:=gp he k.box aM;have UV:cO≠m.fG:=gp he k.cL aM;refine⟨B,_,none,0,0,λ_=>⟨rfl,rfl,rfl⟩,J.le_refl _,bN,?_,b _ _ ?_⟩;simp only[zh,X];rw[lM,k.rz];rw[J.cB _ _ UU,oo (k.yD he aM),J.cB _ _ UV];exact he
end
theorem R5{α:Type}(f:α->List Nat):∀(l:List α),(l.flatMap f).Nodup->∀i o b(d:o<l.length),i≠o->∀x∈f l[i],x∉f l[o]
 |[],_,i,_,b,_,_,_,_=>absurd b (Nat.not_lt_zero _)
 |a::l,h,i,o,b,d,k,x,c=>by
  rw[LS,oS]at h;obtain⟨_,ae,j⟩:=h;intro g;cases i with
  |zero=>
   cases o with
   |zero=>exact k rfl
   |succ o=>exact j x c x (s'.2 ⟨_,cG (by simpa using d),g⟩) rfl
  |succ i=>
   cases o with
   |zero=>exact j x g x (s'.2 ⟨_,cG (by simpa using b),c⟩) rfl
   |succ o=>exact R5 f l ae i o (by simpa using b) (by simpa using d) (λe=>k (by rw[e])) x c g
theorem MW{α:Type} f{l:List α}{a:Nat}{y:α}{x:Nat}(b:x∈(l.set a y).flatMap f):x∈f y\/∃(i:Nat)(c:i<l.length),i≠a/\x∈f l[i]:=by
 obtain⟨z,d,b⟩:=s'.1 b;obtain⟨i,c,rfl⟩:=oe d;rw[h2]at c;by_cases e:i=a;subst e;rw[Ih]at b;exact bW b;rw[XU (d' e)]at b;exact bl ⟨i,c,e,b⟩
theorem R6{α:Type}(f:α->List Nat):∀(l:List α) a y,(l.flatMap f).Nodup->(f y).Nodup->(∀i c,i≠a->∀x∈f y,x∉f l[i])->((l.set a y).flatMap f).Nodup
 |[],_,_,h,_,_=>h
 |b::l,0,y,h,h1,ae=>by
  rw[List.set_cons_zero,LS,oS];rw[LS,oS]at h;refine⟨h1,h.2.1,λu hu v g e=>?_⟩;subst e;obtain⟨z,j,d⟩:=s'.1 g;obtain⟨i,c,rfl⟩:=oe j;exact ae (i+1) (by simpa using c) I u hu d
 |b::l,a+1,y,h,h1,ae=>by
  rw[List.set_cons_succ,LS,oS];rw[LS,oS]at h;refine⟨h.1,R6 f l a y h.2.1 h1 λi c k x d=>ae (i+1) (by simpa using c) I x d,λu hu v g e=>?_⟩;subst e;rcases MW f g with q|⟨i,c,_,q⟩;exact ae 0 bd I u q hu;exact h.2.2 u hu u (s'.2 ⟨_,cG c,q⟩) rfl
section
variable {B h:J}{aX:Nat}{m:fe}
def zt(x:e1)(a n:Nat):e1:={x with wr:=x.wr.set a (x.wr.getD a []++x.hand.take n),hand:=x.hand.drop n}
theorem c4.od(k:c4 B h aX m){d:cY}(a:d∈m.wr)(b:h o=some (bb bm t (0,0)))(e:t≠3):∀g,d.A=some g->o≠g.block:=λg c=>by
 have r:=k.jT d a;rw[c]at r;obtain⟨i,f⟩:=r.ty;exact gp b f e
theorem c4.ajF(k:c4 B h aX m)(aV:a<m.wr.length)(l:List Int)(A:Option aI)(c:Nat){U:Obj}(aS:U=bb ((m.wr.set a ⟨A,c,l⟩).map cY.val).toArray 27 (0,0))(V:((eP h m.wr[a].A).put m.gC U).le aU)(r:bJ aU 3 1 A l.length c (l.map R))(f:∀g,A=some g->((eP h m.wr[a].A).put m.gC U) g.block=none):c4 B aU aX {m with x:={m.x with wr:=(m.wr.set a ⟨A,c,l⟩).map cY.l},wr:=m.wr.set a ⟨A,c,l⟩}:=by
 have z:=cG aV;have dY:∀{o:Nat}{x:Obj},h o=some x->o≠m.gC->(∀g,m.wr[a].A=some g->o≠g.block)->aU o=some x:=λw N M=>V _ _ (by rw[J.cB _ _ N,oo M];exact w);have mt:∀{o:Nat}{bm:Array ax}{t:Nat},h o=some (bb bm t (0,0))->t≠27->t≠3->aU o=some (bb bm t (0,0)):=λw N M=>dY w (gp w k.wr N) (k.od z w M);obtain⟨N,M,jF,y6⟩:=k.Gg;obtain⟨xa,m4⟩:=y6 _ z;have sp:=k.sep;rw[iV,iV,oS]at sp;obtain⟨s1,s2,iu,nD,Y⟩:=sp;have E:∀g,m.wr[a].A=some g->m.eg≠g.block:=λg j e=>m4 (by rw[e];exact oF j);have Z:∀g,m.wr[a].A=some g->m.dD≠g.block:=λg j e=>xa (by rw[e];exact oF j);have b':∀g,m.wr[a].A=some g->∀s,m.aT=some s->s.block≠g.block:=λg j s F e=>Y s.block (oF F) g.block (s'.2 ⟨_,z,oF j⟩) e;have one:∀(i:Nat)(p:i<m.wr.length),i≠a->∀g,m.wr[i].A=some g->∀s,m.wr[a].A=some s->g.block≠s.block:=λi p e g j s F q=>R5 _ _ nD i a p aV e g.block (oF j) (by rw[q];exact oF F);have kc:aU m.eg=some (hh m.x.mem):=dY k.mem (gp k.mem k.wr aM) E;have jo:aU m.dD=some (hh m.x.cS):=dY k.cS (gp k.cS k.wr aM) Z;have X:∀{bK size n c:Nat}{A:Option aI}{xs:List ax},bJ h bK size A n c xs->(∀g,A=some g->g.block≠m.gC/\∀s,m.wr[a].A=some s->g.block≠s.block)->bJ aU bK size A n c xs:=by
  intro bK size n c A xs r aT;obtain⟨h1,ae⟩:=r;refine⟨h1,?_⟩;rcases ae with ae|⟨b,bm,D,K,T⟩;exact bW ae;have:=aT _ D;exact bl ⟨b,bm,D,dY K this.1 this.2,T⟩
 have S:jM aU m.aT m.x.hand m.ay:=by
  have bL:=k.hand;have Tu:=k.hand;rcases bL with x|⟨dA,off,bm,D,K,T⟩;exact bW x;exact bl ⟨dA,off,bm,D,dY K (gp K k.wr aM) (λg j=>b' g j _ D),T⟩
 have g7:B.le ((eP h m.wr[a].A).put m.gC U):=ll k.ue λo x w=>by
  rw[oo λg j e=>by rw[e,k.rb _ z g j]at w;cases w];exact k.le _ _ w
 have H:∀{o:Nat}{bm:Array ax},h o=some (bb bm 3 (0,0))->(∀g,m.wr[a].A=some g->o≠g.block)->∀g,A=some g->g.block≠o:=λw aA g j e=>by
  have:=f g j;rw[e,J.cB _ _ (gp w k.wr aM),oo aA,w]at this;cases this
 have rows:∀d∈m.wr.set a ⟨A,c,l⟩,bJ aU 3 1 d.A d.l.length d.c (d.l.map R)/\∀g,d.A=some g->B g.block=none:=by
  intro d C;obtain⟨i,p,rfl⟩:=oe C;rw[h2]at p;by_cases e:i=a;subst e;simp only[Ih];exact⟨r,λg j=>J.none_le g7 (f g j)⟩;simp only[XU (d' e)];refine⟨X (k.jT _ (cG p)) λg j=>⟨?_,one i p e g j⟩,k.rb _ (cG p)⟩;have r:=k.jT _ (cG p);rw[j]at r;obtain⟨L,y⟩:=r.ty;exact gp y k.wr aM
 refine⟨J.le_trans g7 V,k.rx,?_,kc,k.o',X k.mV λg j=>?_,k.tJ,dY k.cL k.p8 (k.od z k.cL aM),k.tm,k.rz,k.qK,by rw[V _ _ (J.b1 _ _ _),aS],k.ue,rfl,λd C=>(rows d C).1,λd C=>(rows d C).2,k.p8,k.ops,k.mB,k.kt,k.te,λi h1 ae=>?_,k.tF,jo,k.th,S,k.pB,?_⟩;rw[mt k.box aM aM];simp only[fe.cells,h2];have r:=k.mV;rw[j]at r;obtain⟨L,y⟩:=r.ty;exact⟨gp y k.wr aM,k.od z y aM⟩;have W:=k.dB i h1 ae;obtain⟨L,y⟩:=W.ty;have IK:=IM m.x.fy[i].tag;exact W.to (J.le_refl _) (by rw[y,mt y I I]) W.o9;have O:∀x∈jm A,∃g,A=some g/\g.block=x:=λx Q=>n2 Q;rw[iV,iV,oS];simp only[ek,ej,not_or]at s1 s2⊢;refine⟨⟨s1.1,s1.2.1,λq=>?_⟩,⟨s2.1,λq=>?_⟩,iu,R6 _ _ _ _ nD (by cases A<;>simp[jm]) λi p e x Q q=>?_,λu hu v an e=>?_⟩;rcases MW _ q with q|⟨i,p,_,q⟩;obtain⟨g,j,e⟩:=O _ q;exact H k.mem E g j e;exact s1.2.2 (s'.2 ⟨_,cG p,q⟩);rcases MW _ q with q|⟨i,p,_,q⟩;obtain⟨g,j,e⟩:=O _ q;exact H k.cS Z g j e;exact s2.2 (s'.2 ⟨_,cG p,q⟩);obtain⟨g,j,bD⟩:=O _ Q;obtain⟨g2,G,P⟩:=n2 q;have r:=k.jT _ (cG p);rw[G]at r;obtain⟨L,y⟩:=r.ty;exact H y (one i p e g2 G) g j (by rw[bD,P]);subst e;rcases MW _ an with q|⟨i,p,_,q⟩;obtain⟨g,j,e⟩:=O _ q;obtain⟨g2,G,P⟩:=n2 hu;have r:=k.hand;rw[G]at r;obtain⟨L,y⟩:=r.ty;exact H y (λs F=>b' s F g2 G) g j (by rw[e,P]);exact Y u hu u (s'.2 ⟨_,cG p,q⟩) rfl
end
section
variable {B h:J}{aX:Nat}{m:fe}
theorem aF7(k:c4 B h aX m)(he:h cO=some (mc op da dc (ab none 0 0) 0))(eG:B cO=none)(a n:Nat)(aV:a<m.x.wr.length)(dm:1<=n)(aA:n<=1000)(bL:m.x.hand.length<=1000)(hw:(m.x.wr.getD a []).length<=1000000000):Fn aB 85 #[bY aX,.agg #[w,R a,R n],bY cO] h λ_ aa=>if m.x.hand.length<n then nJ B aX cO op da dc m.x 4 aa else nJ B aX cO op da dc (zt m.x a n) 0 aa:=by
 have s:a<m.wr.length:=by rw[<-gz (f:=cY.l),k.l3];exact aV
 obtain⟨d,o⟩:∃d,m.wr[a]=d:=⟨_,rfl⟩;have i:d∈m.wr:=by rw[<-o];exact cG s
 have Z:=k.jT d i;have W:m.x.wr.getD a []=d.l:=by
  rw[<-k.l3,cx,dH,bZ s,o];rfl
 rw[W]at hw;obtain⟨b,t⟩:∃b,b=eP h d.A:=⟨_,rfl⟩;have F:b aX=some (bb m.cells.toArray 115 (0,0)):=by rw[t,oo (k.od i k.box aM)];exact k.box
 have C:b m.gC=some (bb (m.wr.map cY.val).toArray 27 (0,0)):=by rw[t,oo (k.od i k.wr aM)];exact k.wr
 have yI:b cO=some (mc op da dc (ab none 0 0) 0):=by rw[t,oo (k.od i he aM)];exact he
 have ko:b.cell? ((⟨m.gC,0,none⟩:aI).add (a*1))=some d.val:=by
  rw[add_lit,dM,eV];exact bV C (by simp[s,o])
 have G:jM b m.aT m.x.hand m.ay:=by
  rcases k.hand with x|⟨M,off,bm,T,aH,bp⟩;exact bW x;refine bl ⟨M,off,bm,T,?_,bp⟩;rw[t,oo λg p e=>?_];exact aH;have sp:=k.sep;rw[iV,iV,oS]at sp;refine sp.2.2.2.2 M ?_ M (s'.2 ⟨d,i,?_⟩) rfl;rw[T];exact FT _;rw[e];exact oF p
 obtain⟨hI,JK⟩:=G.dV;have ra:∀(aU:J),(b.put cO (mc op da dc (ab none 0 0) 4)).le aU->bJ aU 3 1 d.A d.l.length d.c (d.l.map R)->(∀g,d.A=some g->(b.put cO (mc op da dc (ab none 0 0) 4)) g.block=none)->nJ B aX cO op da dc m.x 4 aU:=by
  intro aU j E f4;rw[t,<-MA h d.A _ λg p e=>k.od i he aM g p e.symm]at j f4;have r:=k.xM he eG (mc op da dc (ab none 0 0) 4);have U:m.wr.set a ⟨d.A,d.c,d.l⟩=m.wr:=by rw[<-o];exact List.set_getElem_self s
  have D:(eP (h.put cO (mc op da dc (ab none 0 0) 4)) d.A) m.gC=some (bb ((m.wr.set a ⟨d.A,d.c,d.l⟩).map cY.val).toArray 27 (0,0)):=by
   rw[oo (r.od i r.wr aM),U];exact r.wr
  have K:=r.ajF (a:=a) s d.l d.A d.c rfl (by rw[o,sT D];exact j) E (by rw[o,sT D];exact f4);refine⟨B,_,none,0,0,λ_=>⟨rfl,rfl,rfl⟩,J.le_refl _,K,?_,j _ _ ?_⟩;simp only[U,k.l3];rw[oo (k.od i he aM),J.b1]
 refine akn ax' rfl (.abs 3 1 d.A d.l.length d.c (d.l.map R) Z (.ah ?_));rw[<-t];refine az λgE de gm=>de _ _ _ (az λgA db ev=>az λgj c6 fD=>.hp (ab m.aT m.x.hand.length m.ay) (bV F rfl) (c6 _ _ _ (nd rfl (λq=>?_) (λq=>?_))));refine .hp cO 4 113 _ [R op,bA .u8 da,R dc,ab none 0 0,bA .u8 (4:Nat)] rfl yI rfl (ev _ _ _ _ nofun (.b4 0 3 1 d.A d.l.length d.c _ rfl λaU j E f4=>.ah ?_));show(if m.x.hand.length<n then _ else _);rw[aP (by have:=q2 q;omega)];exact ra aU j E f4;have no:¬m.x.hand.length<n:=by have:=y' q;omega
 refine db _ _ _ (az λgk dZ ez=>.hp (nO m.gC m.wr.length) (bV F rfl) (.hp (nO m.gC m.wr.length) (bV F rfl) (.mk ⟨m.gC,0,none⟩ rfl I I (.hp (ab d.A d.l.length d.c) (by rw[bz];exact ko) (.hp (ab m.aT m.x.hand.length m.ay) (bV F rfl) (.mk 0 n rfl rfl I I λrf nU P=>?_))))));rw[Lf nU P];have lt:(m.x.hand.take n).length=n:=by rw[ni];omega
 have X:∀L,Src L b 1 m.aT n ((m.x.hand.take n).map R):=λL=>by
  have:=(show bf b 1 m.aT n (gT (m.x.hand.take n)) by unfold gT;rw[FQ];exact hI.take I).src L;unfold gT at this;rw[yz]at this;exact this
 refine .c3 0 (d.l.map R) ((m.x.hand.take n).map R) rfl (X _) (λu hu=>by obtain⟨x,_,rfl⟩:=cU.1 hu;rfl) (by unfold eD;omega) I λv y _=>.mk ⟨m.gC,0,none⟩ rfl I I ?_;have lw:(d.l++m.x.hand.take n).length=d.l.length+n:=by rw[fc,lt]
 refine .hp m.gC (0+a*1) 27 (m.wr.map cY.val) ((m.wr.set a ⟨v,y,d.l++m.x.hand.take n⟩).map cY.val) (by rw[add_lit,bz]) C ?_ ?_;rw[dM,eV,ih _ _ _ (by rw[gz];exact s),lM];show some ((m.wr.map cY.val).set a (ab v (d.l.length+n) y))=some ((m.wr.map cY.val).set a (ab v (d.l++m.x.hand.take n).length y));rw[lw];have z:m.gC≠aX:=gp k.wr k.box aM;have S:(b.put m.gC (bb ((m.wr.set a ⟨v,y,d.l++m.x.hand.take n⟩).map cY.val).toArray 27 (0,0))) aX=some (bb m.cells.toArray 115 (0,0)):=by rw[J.cB _ _ (d' z)];exact F
 refine dZ _ _ _ (.hp (ab m.aT m.x.hand.length m.ay) (bV S rfl) (.mk n m.x.hand.length rfl rfl I JK λO P Y=>?_));obtain⟨N,Q⟩:∃N,N=({m with x:={m.x with hand:=m.x.hand.drop n},aT:=O,ay:=m.ay-n}:fe).cells:=⟨_,rfl⟩;refine .hp aX 8 115 _ N rfl S (by rw[Q];show some _=some _;simp only[fe.cells,mF]) (.b4 0 3 1 v _ y _ rfl λaU j E f4=>.ah ?_);show(if m.x.hand.length<n then _ else _);rw[aD no];obtain⟨H,V⟩:=k.hand.drop (wG:=O) (k:=n) I P Y;have r:=k.La (m.x.hand.drop n) O (m.ay-n) H (λg p=>by
  have q:g.block∈jm m.aT:=by rw[<-V];exact oF p
  obtain⟨cf,dP,e⟩:=n2 q;rw[<-e];exact k.pB cf dP) (by have:=k.sep;rw[V];exact this)
 rw[<-Q]at r;rw[VJ _ _ _ z,t,<-MA h d.A _ (λg p e=>k.od i k.box aM g p e.symm)]at j f4;have K:=r.ajF (a:=a) s (d.l++m.x.hand.take n) v y rfl (by simp only[o];exact j) (by rw[lw,fF];exact E) (by simp only[o];exact f4);have UU:cO≠aX:=gp he k.box aM;have new:cO≠m.gC:=gp he k.wr aM;refine⟨B,_,none,0,0,λ_=>⟨rfl,rfl,rfl⟩,J.le_refl _,K,?_,j _ _ ?_⟩;simp only[zt,W];rw[lM,k.l3];rw[J.cB _ _ new,oo (k.od i he aM),J.cB _ _ UU];exact he
end
def oV(a b:Int):Option Int:=if(0<b/\nH (9223372036854775807-b)<a)\/(b<0/\a<nH (-9223372036854775808-b))then none else some (nH (a+b))
def C1(a b:Int):Option Int:=if(b<0/\nH (9223372036854775807+b)<a)\/(0<b/\a<nH (-9223372036854775808+b))then none else some (nH (a-b))
def oa(a:Int):Nat:=(IntKind.u64.wrap (if a<0 then-IntKind.u64.wrap a else a)).toNat
def Ou(a b:Int):Option Int:=
 if v' (oa a) (oa b)=0 then
  (
   if(decide (a<0)==decide (b<0))=false then(if 9223372036854775808<oa a*oa b%18446744073709551616 then none else some (nH (IntKind.u64.wrap (-(oa a*oa b%18446744073709551616:Nat)))))
  else if 9223372036854775807<oa a*oa b%18446744073709551616 then none else some (nH (oa a*oa b%18446744073709551616:Nat)))
 else none
def C3:Int->List Int->Option Int
 |t,[]=>some t
 |t,x::l=>(oV t x).bind λy=>C3 y l
def yx:Int->List Int->List Int->Option Int
 |t,x::l,y::m=>(Ou x y).bind λp=>(oV t p).bind λu=>yx u l m
 |t,_,_=>some t
def pU(ins:List (List Int))(m:Nat):List Int:=(fL m).flatMap λo=>ins.map λl=>l.getD o 0
theorem ajt ins m:pU ins (m+1)=pU ins m++ins.map λl=>l.getD m 0:=by
 unfold pU;rw[Bz,List.flatMap_append];simp
theorem aju ins:∀m,(pU ins m).length=m*ins.length:=by
 intro m;induction m with
 |zero=>simp[pU]
 |succ m a=>rw[ajt,fc,a,gz,Nat.succ_mul]
def xT(n:Nat):Nat->List Int->List (List Int)->List (List Int)
 |_,[],U=>U
 |k,x::l,U=>xT n (k+1) l (U.set (k%n) (U.getD (k%n) []++[x]))
def oy(ins:List (List Int))(i:Nat):Int:=(ins.getD i []).getD 0 0
def KW(a b:Int):Option Int:=if b=0 then none else if b= -1 then C1 0 a else some (nH (a.tdiv b))
def oK(x:gy)(ins:List (List Int)):Option (List (List Int))×List Int:=
 match x.tag with
 |1=>match yx 0 x.a6 (oy ins 0::x.st)with
  |some y=>(some [[y]],(oy ins 0::x.st).take x.st.length)
  |none=>(none,x.st)
 |2=>(some [oy ins 0::bh ((x.outs.getD 0 0).toNat-1) 0],x.st)
 |3=>(some [[oy ins 0]],x.st)
 |4=>(some [pU ins (x.ins.getD 0 0).toNat],x.st)
 |5=>(some (xT x.outs.length 0 (ins.getD 0 []) (bh x.outs.length [])),x.st)
 |6=>((C3 0 (ins.map λl=>l.getD 0 0)).map λy=>[[y]],x.st)
 |7=>((KW (oy ins 0) (oy ins 1)).map λy=>[[y]],x.st)
 |8=>match oV (x.st.getD 0 0) (oy ins 0)with
  |some y=>(some [[y]],[y])
  |none=>(none,x.st)
 |9=>(some (bh x.outs.length [oy ins 0]),x.st)
 |10=>match oV (x.st.getD 0 0) (x.a6.getD 1 0)with
  |some y=>(some [[x.st.getD 0 0]],[y])
  |none=>(none,x.st)
 |_=>(some [],x.st)
def nQ(x:gy)(ins:List (List Int)):Option (List (List Int))×gy:=((oK x ins).1,IN (oK x ins).1 {x with st:=(oK x ins).2})
def g5:gy:=⟨0,[],[],0,[],[]⟩
def je:kp:=⟨0,0,0,0⟩
def cP(x:e1)(U:cr):e1×Nat:=
 match U.k with
 |0=>if x.hand=[]then({x with eE:=x.eE+1,next:= -1},1)else(x,4)
 |1=>({x with cS:=x.cS.set U.a.toNat U.b},0)
 |2=>({x with cS:=x.cS.set U.a.toNat (nH (x.cS.getD U.a.toNat 0-1)),next:=if 0<nH (x.cS.getD U.a.toNat 0-1)then U.b-1 else x.next},0)
 |3=>if(x.lines.getD U.a.toNat je).bj<U.b.toNat\/64<x.hand.length+U.b.toNat then(x,4)else(ua x U.a.toNat (x.lines.getD U.a.toNat je) U.b.toNat,0)
 |4=>if 64<x.hand.length+U.b.toNat then(x,4)else if(x.cL.getD U.a.toNat []).length<U.b.toNat then(x,2)else(zh x U.a.toNat U.b.toNat,0)
 |5=>if(x.hand.length:Int)=x.hP.getD U.a.toNat 0 then
  match nQ (x.fy.getD U.a.toNat g5) (jO x.hand (x.fy.getD U.a.toNat g5).ins)with
  |(some outs,b)=>(uy x U.a.toNat b outs,0)
  |(none,b)=>({x with fy:=x.fy.set U.a.toNat b},3)
  else(x,4)
 |6=>if x.hand.length<U.b.toNat\/(x.lines.getD U.a.toNat je).size<(x.lines.getD U.a.toNat je).bj+U.b.toNat then(x,4)else(vV x U.a.toNat (x.lines.getD U.a.toNat je) U.b.toNat,0)
 |_=>if x.hand.length<U.b.toNat then(x,4)else(zt x U.a.toNat U.b.toNat,0)
def AX:cr:=⟨0,0,0⟩
def iY(x:e1):e1×Nat:=
 let U:=x.ops.getD x.next.toNat AX
 let r:=cP x U
 if r.2=0\/r.2=1 then({r.1 with next:=r.1.next+1},r.2)
 else if r.2=2 then r
 else({r.1 with nF:=true,oE:=x.next,tL:=U.k,tM:=if U.k=3\/U.k=6 then U.a else-1,tI:=r.2},r.2)
def runM:Nat->e1->Int->Option (e1×Nat)
 |0,_,_=>none
 |f+1,x,to=>if x.eE<to then(if(iY x).2=0\/(iY x).2=1 then runM f (iY x).1 to else some (iY x))else some (x,1)
def K1:Option Int->ax
 |some z=>ey #[R z,c5 true]
 |none=>ey #[R 0,c5 false]
theorem Mg a b h:Fn aB 247 #[R a,R b] h λv aa=>v=K1 (oV a b)/\aa=h:=by
 refine b6 axi rfl (aY (λf=>?_) (λf=>?_));refine .wrap (aY (λd=>?_) (λd=>?_));exact .ah ⟨by rw[oV,aP (bW ⟨f,d⟩)];rfl,rfl⟩;exact aY (λc=>I) (λc=>.wrap (.ah ⟨by rw[oV,aD (by rintro(q|q);exact d q.2;omega)];rfl,rfl⟩));refine aY (λc=>?_) (λc=>?_);refine .wrap (aY (λe=>?_) (λe=>?_));exact .ah ⟨by rw[oV,aP (bl ⟨c,e⟩)];rfl,rfl⟩;exact .wrap (.ah ⟨by rw[oV,aD (by rintro(q|q);omega;exact e q.2)];rfl,rfl⟩);exact .wrap (.ah ⟨by rw[oV,aD (by rintro(q|q)<;>omega)];rfl,rfl⟩)
theorem aDW a b h:Fn aB 256 #[R a,R b] h λv aa=>v=K1 (C1 a b)/\aa=h:=by
 refine b6 axr rfl (aY (λf=>?_) (λf=>?_));refine .wrap (aY (λd=>?_) (λd=>?_));exact .ah ⟨by rw[C1,aP (bW ⟨f,d⟩)];rfl,rfl⟩;exact aY (λc=>I) (λc=>.wrap (.ah ⟨by rw[C1,aD (by rintro(q|q);exact d q.2;omega)];rfl,rfl⟩));refine aY (λc=>?_) (λc=>?_);refine .wrap (aY (λe=>?_) (λe=>?_));exact .ah ⟨by rw[C1,aP (bl ⟨c,e⟩)];rfl,rfl⟩;exact .wrap (.ah ⟨by rw[C1,aD (by rintro(q|q);omega;exact e q.2)];rfl,rfl⟩);exact .wrap (.ah ⟨by rw[C1,aD (by rintro(q|q)<;>omega)];rfl,rfl⟩)
theorem aFw z:((IntKind.u64.wrap z).toNat:Int)=IntKind.u64.wrap z:=by rw[Ly];omega
theorem ZY{a:fM}{n:Int}{w:World}:vm aB (.unOp .neg t a) [bA .u64 n] w (bA .u64 (IntKind.u64.wrap (-n))) w:=by
 intro d q c b;simp[Op.operands]at b;simp[dk,c,b,Op.unary,Op.intArith]
theorem aia a h:Fn aB 150 #[R a] h λv aa=>v=eh (oa a)/\aa=h:=by
 have e:eh (oa a)=bA .u64 (IntKind.u64.wrap (if a<0 then-IntKind.u64.wrap a else a)):=by
  show bA .u64 ((oa a:Nat):Int)=_;rw[oa,aFw]
 rw[e];refine b6 aed rfl (aY (λq=>?_) (λq=>?_));exact .wrap (.ah (.mk _ (λw _=>ZY) (.ah ⟨by rw[aP q];rfl,rfl⟩)));exact .wrap (.ah ⟨by rw[aD q];rfl,rfl⟩)
theorem aiC a:oa a<18446744073709551616:=by unfold oa;rw[Ly];omega
theorem azy a b h:Fn aB 191 #[R a,R b] h λv aa=>v=K1 (Ou a b)/\aa=h:=by
 have g:=UM (oa a) (oa b) h (aiC a) (aiC b);unfold Ou;generalize v' (oa a) (oa b)=d at g⊢;obtain⟨c,ay⟩:∃c,c=oa a*oa b%18446744073709551616:=⟨_,rfl⟩;rw[<-ay]at g⊢;refine b6 aek rfl (.ah (.mk _ (aia a h) ?_));rintro _ _ ⟨rfl,rfl⟩;refine .ah (.mk _ (aia b _) ?_);rintro _ _ ⟨rfl,rfl⟩;refine .ah (.mk _ g ?_);rintro _ _ ⟨rfl,rfl⟩;refine aY (λq=>?_) (λq=>?_);exact .ah ⟨by rw[aD I];rfl,rfl⟩;rw[aP I];refine uw (λe=>?_) (λe=>?_);have f:(decide (a<0)==decide (b<0))=false:=by
  cases j:(decide (a<0)==decide (b<0))with
  |false=>rfl
  |true=>rw[j]at e;cases e
 rw[aP f];refine aY (λi=>?_) (λi=>?_);exact .ah ⟨by rw[aP I];rfl,rfl⟩;exact .ah (.mk _ (λw _=>ZY) (.wrap (.ah ⟨by rw[aD I];rfl,rfl⟩)));have f:¬(decide (a<0)==decide (b<0))=false:=λj=>by rw[j]at e;cases e
 rw[aD f];refine aY (λi=>?_) (λi=>?_);exact .ah ⟨by rw[aP I];rfl,rfl⟩;exact .wrap (.ah ⟨by rw[aD I];rfl,rfl⟩)
theorem aDY A n c l h(d:bf h 1 A n (gT l))(p:n<=100000):Fn aB 254 #[ab A n c] h λv aa=>v=K1 (C3 0 l)/\aa=h:=by
 have ak:l.length=n:=by simpa using d.len
 refine b6 axp rfl (.mk (Nat×Int) [4,8,9,10] (λ(o,t)=>[.v (R t),.v (ab A n c),.v (R n),.v (R o)]) (λ_=>[]) (λ(o,t) aa=>aa=h/\o<=n/\C3 t (l.drop o)=C3 0 l) (λ(o,_)=>n-o) (0,0) (λ_=>rfl) ⟨rfl,cW _,rfl⟩ rfl rfl (λ⟨o,t⟩ e aa⟨rfl,r,a⟩=>aY (λq=>?_) (λq=>?_)));have f:o<l.length:=I;obtain⟨g,k⟩:=d.cg I;refine .m g k (.hp (R l[o]) (by rw[bz];exact d.one k (i:=o) (iP f) rfl) ?_);have b:=Mg t l[o] aa;rw[mE f,C3]at a;cases j:oV t l[o]with
 |none=>
  rw[j]at b a;refine .ah (.mk _ b ?_);rintro _ _ ⟨rfl,rfl⟩;exact .ah ⟨by rw[<-a];rfl,rfl⟩
 |some y=>
  rw[j]at b a;refine .ah (.mk _ b ?_);rintro _ _ ⟨rfl,rfl⟩;exact .bg (⟨(o+1,y),rfl,rfl,⟨rfl,I,a⟩,by show n- (o+1)<n-o;omega⟩)
 have e:o=l.length:=I;rw[rm I]at a;exact .ah ⟨by rw[<-a];rfl,rfl⟩
theorem aoP A B n c c2 l m h(f:bf h 1 A n (gT l))(j:bf h 1 B n (gT m))(C:n<=100000):Fn aB 246 #[ab A n c,ab B n c2] h λv aa=>v=K1 (yx 0 l m)/\aa=h:=by
 have ak:l.length=n:=by simpa using f.len
 have hm:m.length=n:=by simpa using j.len
 refine b6 axh rfl (aY (λq=>absurd rfl q) (λ_=>.mk (Nat×Int) [1,6,16,17,18] (λ(o,t)=>[.v (ab B n c2),.v (R t),.v (ab A n c),.v (R n),.v (R o)]) (λ_=>[]) (λ(o,t) aa=>aa=h/\o<=n/\yx t (l.drop o) (m.drop o)=yx 0 l m) (λ(o,_)=>n-o) (0,0) (λ_=>rfl) ⟨rfl,cW _,rfl⟩ rfl rfl (λ⟨o,t⟩ e aa⟨rfl,D,a⟩=>aY (λq=>?_) (λq=>?_))));have k:o<l.length:=I;have r:o<m.length:=I;obtain⟨g,w⟩:=f.cg I;obtain⟨g2,x⟩:=j.cg I;refine .m g w (.hp (R l[o]) (by rw[bz];exact f.one w (i:=o) (iP k) rfl) (.m g2 x (.hp (R m[o]) (by rw[bz];exact j.one x (i:=o) (iP r) rfl) ?_)));have d:=azy l[o] m[o] aa;rw[mE k,mE r,yx]at a;cases u:Ou l[o] m[o]with
 |none=>
  rw[u]at d a;refine .ah (.mk _ d ?_);rintro _ _ ⟨rfl,rfl⟩;exact .ah ⟨by rw[<-a];rfl,rfl⟩
 |some p=>
  rw[u]at d a;rw[Option.bind_some]at a;refine .ah (.mk _ d ?_);rintro _ z ⟨rfl,rfl⟩;have b:=Mg t p z;cases s:oV t p with
  |none=>
   rw[s]at b a;refine .ah (.mk _ b ?_);rintro _ _ ⟨rfl,rfl⟩;exact .ah ⟨by rw[<-a];rfl,rfl⟩
  |some y=>
   rw[s]at b a;refine .ah (.mk _ b ?_);rintro _ _ ⟨rfl,rfl⟩;exact .bg (⟨(o+1,y),rfl,rfl,⟨rfl,I,a⟩,by show n- (o+1)<n-o;omega⟩)
 rw[rm I]at a;exact .ah ⟨by rw[<-a];rfl,rfl⟩
end Go.Sx
