/- A part of the proof that the statement holds. Conditions: none. -/
import Derived.Test.YtlbdbpaelcnfgaaGreatDoorAS
open Classical renaming not_not->kc
open Go.Proofs.Tryz renaming prog->aD
open Go.Value renaming int->bC,slice->ab,tuple->eA
open Int renaming toNat_natCast->bn
open List renaming all_eq_true->se,getD_eq_getElem?_getD->cc,getElem?_eq_getElem->bK,getElem?_eq_none->l2,getElem?_map->de,getElem_append_right->amD,getElem_mem->b3,getElem_of_mem->n4,length->fv,length_cons->iJ,length_map->fj,mem_append->eI,mem_map->cO,mem_singleton->hZ,replicate->bp
open Nat renaming le_refl->dM,zero_le->cU
open Option renaming bind_some->ue,getD_some->pB,map_some->si
open Option.some renaming injEq->Sf
open Or renaming inl->bQ,inr->ba
open Prod.mk renaming injEq->Hk
namespace Go.Sx
set_option maxRecDepth 100000
set_option maxHeartbeats 0
set_option linter.all false
variable {au:List (List cm)}{g:dd}
def vo(l:List Int):Prop:=∀r∈l,1<=r/\r<=64
theorem vo.rep{n:Nat}{m:Int}(h1:1<=m)(ae:m<=64):vo (bp n m):=λr a=>by
 obtain⟨_,rfl⟩:=List.mem_replicate.1 a;exact⟨h1,ae⟩
theorem vo.one{m:Int}(h1:1<=m)(ae:m<=64):vo [m]:=λr a=>by
 rw[hZ]at a;subst a;exact⟨h1,ae⟩
theorem vo.nil:vo []:=λr a=>by cases a
def J9(x:Int×List Int×List Int):Prop:=vo x.2.1/\vo x.2.2
theorem J9.ite{p:Prop}[Decidable p]{a b:Int×List Int×List Int}(c:p->J9 a)(d:J9 b):J9 (if p then a else b):=by
 by_cases h:p;rw[aS h];exact c h;rw[aC h];exact d
theorem MF tag l:J9 (b6 tag l):=by
 have mul:∀{n m:Int},1<=n->1<=m->1<=n*m:=λh1 b=>by
  have:=Int.mul_le_mul h1 b aH I;omega
 refine .ite (λ_=>⟨.nil,.nil⟩) (.ite (λ_=>⟨.one aH aH,.one aH aH⟩) (.ite (λh=>⟨.one aH aH,.one h.2.2.1 h.2.2.2⟩) (.ite (λh=>⟨.one h.2.2.1 h.2.2.2,.one aH aH⟩) (.ite (λh=>⟨.rep h.2.2.2.1.1 h.2.2.2.1.2,.one (mul h.2.2.1.1 h.2.2.2.1.1) h.2.2.2.2⟩) (.ite (λh=>⟨.one (mul h.2.2.1.1 h.2.2.2.1.1) h.2.2.2.2,.rep h.2.2.2.1.1 h.2.2.2.1.2⟩) (.ite (λ_=>⟨.rep aH aH,.one aH aH⟩) ?_))))));refine .ite (λ_=>⟨λr a=>by
  rcases List.mem_cons.1 a with rfl|a;exact⟨aH,aH⟩;exact vo.one aH aH r a,.one aH aH⟩) ?_
 exact .ite (λ_=>⟨.one aH aH,.rep aH aH⟩) (.ite (λ_=>⟨.nil,.one aH aH⟩) (.ite (λh=>⟨.one h.2.2.1 h.2.2.2,.nil⟩) ⟨.nil,.nil⟩))
structure wq(B:List (List Bool))(au:List (List cm))(G:cm->Prop):Prop where
 len:B.map fv=au.map fv
 tr:∀o q,(B.getD o []).getD q false=true->G ((au.getD o []).getD q ⟨0,0,0⟩)
 Xn:∀o q,q<(au.getD o []).length->1<=((au.getD o []).getD q ⟨0,0,0⟩).b/\((au.getD o []).getD q ⟨0,0,0⟩).b<=64
theorem Ov{α:Type}(l:List α) i o x d:(l.set i x).getD o d=if i=o/\o<l.length then x else l.getD o d:=by
 simp only[cc,List.getElem?_set];by_cases h:i=o;subst h;by_cases ae:i<l.length;rw[aS rfl,aS ae,aS ⟨rfl,ae⟩];rfl;rw[aS rfl,aC ae,aC (λq=>ae q.2),l2 I];rw[aC h,aC (λq=>h q.1)]
theorem V1{α β:Type}{B:List (List α)}{au:List (List β)}(h:B.map fv=au.map fv) o:B.length=au.length/\(B.getD o []).length=(au.getD o []).length:=by
 have h1:=eu fv h;have ae:=eu (λl=>l.getD o 0) h;simp only[fj]at h1;refine⟨h1,?_⟩;simp only[cc,de]at ae⊢;cases a:B[o]? <;>cases b:au[o]? <;>simp only[a,b,si,Option.map_none,pB,Option.getD_none]at ae⊢;rfl;exact ae;exact ae;exact ae
theorem wq.Wh{B:List (List Bool)}{G:cm->Prop}(c:wq B au G){a p:Int}{k:Nat}{i:Int}(f:∀b,1<=b->b<=64->G ⟨k,i,b⟩):wq (oV B a p) (mark au a.toNat p.toNat k i) G:=by
 obtain⟨g,j⟩:=V1 c.len a.toNat;have val:∀o q,((mark au a.toNat p.toNat k i).getD o []).getD q ⟨0,0,0⟩=if a.toNat=o/\o<au.length/\p.toNat=q/\q<(au.getD o []).length then⟨k,i,((au.getD o []).getD q ⟨0,0,0⟩).b⟩else(au.getD o []).getD q ⟨0,0,0⟩:=by
  intro o q;rw[mark,Ov];by_cases h:a.toNat=o/\o<au.length;obtain⟨rfl,ae⟩:=h;rw[aS ⟨rfl,ae⟩,Ov];by_cases d:p.toNat=q/\q<(au.getD a.toNat []).length;obtain⟨rfl,aT⟩:=d;rw[aS ⟨rfl,aT⟩,aS ⟨rfl,ae,rfl,aT⟩];rw[aC d,aC (λq=>d q.2.2)];rw[aC h,aC (λq=>h ⟨q.1,q.2.1⟩)]
 have e:(mark au a.toNat p.toNat k i).map fv=au.map fv:=DM au _ _ _ _;refine⟨?_,λo q h=>?_,λo q h=>?_⟩;rw[Jj,e];exact c.len;rw[val];rw[oV,Ov]at h;split;rename_i h1;have:=c.Xn o q h1.2.2.2;exact f _ this.1 this.2;rename_i h1;by_cases ae:a.toNat=o/\o<B.length;rw[aS ae,Ov]at h;obtain⟨rfl,ae⟩:=ae;by_cases d:p.toNat=q/\q<(B.getD a.toNat []).length;exact absurd ⟨rfl,I,d.1,I⟩ h1;rw[aC d]at h;exact c.tr _ _ h;rw[aC ae]at h;exact c.tr _ _ h;rw[(V1 e o).2]at h;rw[val];split;exact c.Xn o q h;exact c.Xn o q h
theorem aba G H:∀(l:List GE) i a6 ro au S,wq a6 au G->wq ro S H->(∀o b,i<=o->o<i+l.length->1<=b->b<=64->G ⟨3,o,b⟩/\H ⟨6,o,b⟩)->(m' a6 ro l).1=0->wq (m' a6 ro l).2.1 (qW l i (au,S)).1 G/\wq (m' a6 ro l).2.2 (qW l i (au,S)).2 H
 |[],i,a6,ro,au,S,c1,c2,_,_=>⟨c1,c2⟩
 |x::l,i,a6,ro,au,S,c1,c2,d,e=>by
  rw[m']at e⊢;split at e;rename_i h;exact absurd e h;rename_i h1;rw[aC h1];split at e;rename_i h;exact absurd e h;rename_i ae;rw[aC ae];split at e;cases e;rename_i f;rw[aC f,qW];rw[iJ]at d;exact aba G H l (i+1) _ _ _ _ (c1.Wh λb c a=>(d i b (dM _) I c a).1) (c2.Wh λb c a=>(d i b (dM _) I c a).2) (λo b c a=>d o b I I) e
theorem S7 G k:∀(l:List kO) i bA rs au,wq rs au G->(∀o b,i<=o->o<i+l.length->1<=b->b<=64->G ⟨k,o,b⟩)->(mA bA rs l).1=0->wq (mA bA rs l).2.2 (qB k l i au) G
 |[],i,bA,rs,au,c,_,_=>c
 |x::l,i,bA,rs,au,c,a,e=>by
  rw[mA]at e⊢;split at e;rename_i h;exact absurd e h;rename_i h1;rw[aC h1];split at e;rename_i h;exact absurd e h;rename_i ae;rw[aC ae,qB];rw[iJ]at a;exact S7 G k l (i+1) _ _ _ (c.Wh λb f d=>a i b (dM _) I f d) (λo b f d=>a o b I I) e
theorem wq.all{B:List (List Bool)}{au:List (List cm)}{G:cm->Prop}(c:wq B au G)(m:B.all (λl=>l.all id)=true):∀r∈au,∀x∈r,G x:=by
 intro r k x h;obtain⟨o,i,rfl⟩:=n4 k;obtain⟨q,f,rfl⟩:=n4 h;obtain⟨n,g⟩:=V1 c.len o;have b:o<B.length:=I;have e:au.getD o []=au[o]:=by rw[cc,bK i];rfl
 have d:B.getD o []=B[o]:=by rw[cc,bK b];rfl
 rw[e,d]at g;have a:q<B[o].length:=I;have j:=se.1 (se.1 m _ (b3 b)) _ (b3 a);have:=c.tr o q (by rw[d,cc,bK a];exact j);rwa[e,cc,bK f]at this
theorem abb{l:List hh}{f:hh->List Int}(c:∀a,vo (f a)) G:wq (l.map λa=>bp (f a).length false) (l.map λa=>(f a).map λr=>(⟨0,0,r⟩:cm)) G:=by
 refine⟨bc,λo q h=>?_,λo q h=>?_⟩;exfalso;simp only[cc,de]at h;cases b:l[o]?with
 |none=>simp[b]at h
 |some a=>
  simp only[b,si,pB,List.getElem?_replicate]at h;split at h<;>cases h
 simp only[cc,de]at h⊢;cases b:l[o]?with
 |none=>simp[b]at h
 |some a=>
  simp only[b,si,pB,fj,de]at h⊢;rw[bK h];exact c a _ (b3 h)
def AT(g:dd)(x:cm):Prop:=(x.k=3/\0<=x.a/\x.a<g.aP.length/\1<=x.b/\x.b<=64)\/(x.k=6/\0<=x.a/\x.a<g.aP.length/\1<=x.b/\x.b<=64)\/(x.k=4/\0<=x.a/\x.a<g.ins.length/\1<=x.b/\x.b<=64)\/(x.k=7/\0<=x.a/\x.a<g.outs.length/\1<=x.b/\x.b<=64)\/(x.k=5/\0<=x.a/\x.a<g.aY.length/\x.b=0)
theorem TW{G:cm->Prop}(h:∀r∈au,∀x∈r,G x) o:∀x∈au.getD o [],G x:=by
 by_cases a:o<au.length;rw[cc,bK a];exact h _ (b3 a);rw[cc,l2 I];exactλx b=>by cases b
theorem acz(e:iV g=0):∀r∈gU g,∀x∈r,AT g x:=by
 rw[iV]at e;split at e;rename_i h;exact absurd e h;split at e;rename_i h;exact absurd e h;dsimp only at e;split at e;rename_i h;exact absurd e h;split at e;rename_i h;exact absurd e h;split at e;rename_i h;exact absurd e h;rename_i h1 ae n aT p;obtain⟨c1,c2⟩:=aba (AT g) (AT g) g.aP 0 _ _ _ _ (abb (l:=g.aY) (λa=>(MF a.tag a.a8).1) (AT g)) (abb (l:=g.aY) (λa=>(MF a.tag a.a8).2) (AT g)) (λo b _ i d f=>⟨bQ ⟨rfl,by simp only;omega,by simp only;omega,d,f⟩,ba (bQ ⟨rfl,by simp only;omega,by simp only;omega,d,f⟩)⟩) (kc.1 n);have q:=S7 (AT g) 4 g.ins 0 _ _ _ c1 (λo b _ i d f=>ba (ba (bQ ⟨rfl,by simp only;omega,by simp only;omega,d,f⟩))) (kc.1 aT);have s:=S7 (AT g) 7 g.outs 0 _ _ _ c2 (λo b _ i d f=>ba (ba (ba (bQ ⟨rfl,by simp only;omega,by simp only;omega,d,f⟩)))) (kc.1 p);rw[DS]at e;split at e;rename_i j;have a3:=q.all j.1;have a4:=s.all j.2;intro r m x c;obtain⟨o,k,rfl⟩:=cO.1 m;rw[List.mem_range]at k;rcases eI.1 c with c|c;rcases eI.1 c with c|c;exact TW a3 o x c;rw[hZ]at c;subst c;exact ba (ba (ba (ba ⟨rfl,by simp only;omega,by simp only;omega,rfl⟩)));exact TW a4 o x c;cases e
theorem AT.three{x:cm}(h:AT g x):3<=x.k:=by
 rcases h with⟨h,_⟩|⟨h,_⟩|⟨h,_⟩|⟨h,_⟩|⟨h,_⟩<;>omega
structure jC.rt(p:jC)(T:Int):Prop where
 m0:0<=p.mem
 m1:p.mem<=1024
 e5:0<=p.br
 c1:p.br<=17
 i0:0<=p.ins
 i1:p.ins<=16
 pn:0<=p.outs
 j8:p.outs<=16
 W1:p.parts.length<=32
 li:p.lines.length<=96
 op:p.ops.length<=131072
 sX:∀x∈p.parts,(b6 x.tag x.a8).1=0
 ck:∀x∈p.lines,0<=x.base/\0<=x.size/\x.base+x.size<=p.mem/\(x.st.length:Int)<=x.size
 snd:∀i(ai:i<p.ops.length),CQ p i p.ops[i]
 last:∃l,p.ops=l++[⟨0,0,0⟩]
 walk:nZ p.ops p.ops 0 [(-1,0)]=some [(-1,T)]
 rI:T<=131072
theorem abO:∀f,o2 f->∀len op,(gf au f len op).length<=jf au f:=by
 intro f;induction f with
 |nil=>intro _ _ _;exact dM _
 |cons t n b r a d=>
  intro hp len op;obtain⟨h1,ae,g⟩:=hp;rw[Tj,jf];have i:=ah3 t op len (bif b.leaf then au.getD n.toNat []else gf au b (len+fL t) (op+fL t));have j:=d g (len+(kw t op len (bif b.leaf then au.getD n.toNat []else gf au b (len+fL t) (op+fL t))).length) op;have i1:(bif b.leaf then au.getD n.toNat []else gf au b (len+fL t) (op+fL t)).length<=(bif b.leaf then(au.getD n.toNat []).length else jf au b):=by
   cases b.leaf with
   |true=>exact dM _
   |false=>exact a ae _ _
  generalize(bif b.leaf then(au.getD n.toNat []).length else jf au b)=u at i1⊢;split;rename_i c;have e:fL t=1:=aS c;have h:2*(u+1)<=t.toNat*(u+1):=Nat.mul_le_mul_right _ I;omega;rename_i c;have e:fL t=0:=aC c;omega
theorem aA4{b:List dv}{T:Int}{f:e3}{p:jC}(g0:iV g=0)(hk:b.length=g.aP.length)(t0:0<=T)(H:T<=1024)(A:∀i s(E:i<g.aP.length),0<=b[i].1/\0<=b[i].2/\b[i].1+b[i].2<=T/\((g.aP[i]).st.length:Int)<=b[i].2)(av:wZ f=0)(m:Nq g b T f p):p.rt (jf (gU g) f+1:Nat):=by
 obtain⟨m1,m2,m3,m4,m5,m6,m7⟩:=m;have o:=ts g0;obtain⟨w,y⟩:=aaX av;have hp:=(NT av).1;have v:=acz g0;have C:∀r∈gU g,r.length<=33:=λr l=>TD l;have F:=(Q4 C f hp).1;have M:=S8 f 0 0 0 0 w I I;have J:=abO (au:=gU g) f hp 0 0;have gW:p.parts.length=g.aY.length:=by have:=eu fv m5;simpa using this
 have G:p.lines.length=g.aP.length:=by have:=eu fv m6;simpa[hk]using this
 have L:p.ops.length=(gf (gU g) f 0 0).length+1:=by rw[m7];simp
 have a32:=o.a32;have K:=o.o6;have i16:=o.i16;have N:=o.r2;refine⟨I,I,I,I,I,I,I,I,I,I,I,λx c=>?_,λx c=>?_,λi s=>?_,⟨_,m7⟩,?_,I⟩;have h1:=List.mem_map_of_mem (f:=λx:n7=>(x.tag,x.a8)) c;rw[m5]at h1;obtain⟨a,z,e⟩:=cO.1 h1;have:=o.sX a z;rw[Hk]at e;rw[<-e.1,<-e.2];exact this;obtain⟨i,s,rfl⟩:=n4 c;have u:i<g.aP.length:=I;have j:i<b.length:=I;have h1:(p.lines.map λx=>(x.base,x.size,x.st))[i]?=some (p.lines[i].base,p.lines[i].size,p.lines[i].st):=by rw[de,bK s];rfl
 rw[m6,List.getElem?_zipWith,bK u,bK j]at h1;simp only[Sf,Hk]at h1;obtain⟨h,d,t,n⟩:=A i j u;rw[<-h1.1,<-h1.2.1,<-h1.2.2,m1];exact⟨h,d,t,n⟩;by_cases al:i<(gf (gU g) f 0 0).length;have ex:p.ops[i]=(gf (gU g) f 0 0)[i]:=by simp only[m7];rw[List.getElem_append_left al]
 have hm:=b3 al;rw[<-ex]at hm;generalize p.ops[i]=x at hm;rcases Tk (gU g) f 0 0 0 hp x hm with⟨r,l,c⟩|⟨h,d,t,n,D⟩|⟨h,d,t,n,D⟩;rcases v r l x c with⟨k,q⟩|⟨k,q⟩|⟨k,q⟩|⟨k,q⟩|⟨k,q⟩;exact ba (ba (ba (bQ ⟨k,I,I,I,I⟩)));exact ba (ba (ba (ba (bQ ⟨k,I,I,I,I⟩))));exact ba (ba (ba (ba (ba (bQ ⟨k,I,I,I,I⟩)))));exact ba (ba (ba (ba (ba (ba (bQ ⟨k,I,I,I,I⟩))))));exact ba (ba (ba (ba (ba (ba (ba ⟨k,I,I,I⟩))))));exact ba (bQ ⟨h,d,I,n,I⟩);exact ba (ba (bQ ⟨h,d,I,n,I⟩));have B:i=(gf (gU g) f 0 0).length:=I;refine bQ ⟨?_,I⟩;simp only[m7];rw[amD I];simp[B];have hw:=Yt (gU g) (λr l x c=>(v r l x c).three) p.ops f 0 0 [] [⟨0,0,0⟩] (-1) 0 [] hp rfl (by rw[m7];rfl) bc I I;conv=>lhs;arg 2;rw[m7]
 rw[Rk,hw,ue,nZ];have:∀i,vZ p.ops i ⟨0,0,0⟩ [(-1,0+(jf (gU g) f:Int))]=some [(-1,min (0+(jf (gU g) f:Int)+1) 131073)]:=λi=>rfl;rw[this,ue,nZ];rw[show min (0+(jf (gU g) f:Int)+1) 131073=((jf (gU g) f+1:Nat):Int) by omega]
end Go.Sx
namespace Go.Sx
open Go.Proofs
set_option maxRecDepth 100000
set_option maxHeartbeats 0
set_option linter.all false
theorem aHI(p:jC) T h(ok:p.ok h)(a:p.rt T):Fn aD 141 #[.agg p.cells.toArray] h λv j=>v=eA #[R T,R 0]/\h.le j:=by
 have B:=a.e5;have f:=a.c1;have Q:=a.i0;have ml:=a.i1;have X:=a.pn;have rz:=a.j8;have wU:=a.W1;have Z:=a.li;have u:=a.op;have z:=a.rI;obtain⟨l,al⟩:=a.last;have b':0<p.ops.length:=by rw[al];simp
 have Y:p.cells=[R p.mem,R p.br,R p.ins,R p.outs,ab p.j' p.parts.length p.c7,ab p.fg p.lines.length p.lc,ab p.cn p.ops.length p.bT]:=rfl;rw[Y];refine bU It rfl ?_;refine ay λfD G eT=>?_;refine G _ _ _ ?_;refine ay λfy E d9=>?_;refine E _ _ _ ?_;refine ay λfz D eZ=>?_;refine ay λfE H dH=>?_;refine H _ _ _ ?_;refine ew λS K gN=>?_;refine .Xc [.s 1 0 1 1] ?_;refine .mk λb n=>?_;have L:s5 h (h.put b (Obj.cells #[bC .i64 (-1),bC .i64 0] 374 (0,0))) (some ⟨b,0,none⟩) 1 1 [(-1,0)]:=⟨J.d' n,⟨rfl,ba ⟨b,_,rfl,J.b8 _ _ _,dM _,aH,rfl,rfl⟩⟩,λg d=>by injection d with d;subst d;exact n,rfl,nofun⟩;refine aHJ S _ p h _ ok u ⟨B,I⟩ ⟨Q,I⟩ ⟨X,I⟩ I I a.snd T b 1 L a.walk rfl λe j A c he x=>?_;refine K _ _ _ (D _ _ _ ?_);rw[<-fi [1,4] e,he];obtain⟨f,wH,rfl,_,M,_⟩:=x.top;have t:=SY (F:=[]) M (k:=1) (o:=1) rfl rfl;obtain⟨C,hO⟩:=ok.ops.b4 I;have y:p.ops.length-1<p.ops.length:=I;have w:p.ops[p.ops.length-1]=⟨0,0,0⟩:=by
  simp only[al];rw[amD bc];simp
 have W:=(ok.ops.mono x.le).row hO (i:=p.ops.length-1) (r:=cm.cells ⟨0,0,0⟩) (by rw[de,bK y,w];rfl);refine ay λgL O gG=>?_;refine ay λjl N hU=>?_;refine N _ _ _ ?_;refine ay λkd P j3=>?_;conv=>whnf
 rw[jn I];refine .bl ?_;refine .m C hO ?_;refine .hp _ (by rw[show((p.ops.length:Int)-1).toNat=p.ops.length-1 by omega];exact W 0 _ rfl) ?_;refine P _ _ _ ?_;refine O _ _ _ ?_;refine ay λjU V iD=>?_;refine ay λkQ U kH=>?_;refine .mk ⟨f,0,none⟩ rfl aH aH ?_;refine .hp (R T) t ?_;refine U _ _ _ ?_;refine aW (λq=>I) (λ_=>?_);refine V _ _ _ ?_;refine .mk ⟨f,0,none⟩ rfl aH aH ?_;refine .hp (R T) t ?_;exact .ag ⟨rfl,x.le⟩
theorem QY{tag:Int}{l:List Int}(h:(b6 tag l).1=0):l.length<=16:=by
 by_cases q:l.length<=16;exact q;unfold b6 at h;split at h;cases h;dsimp only at h;rw[aC I,aC I,aC I,aC I,aC I,aC I,aC I,aC I,aC I,aC I]at h;cases h
theorem aC' Q(e:cg) p h(ok:p.ok h)(H:p.parts.length<=32)(u:∀x∈p.parts,(b6 x.tag x.a8).1=0/\x.n<=1000)(he:[1,51,52,53].map e=[.p 0 0,.v (ab p.j' p.parts.length p.c7),.v (R p.parts.length),.v (R (0:Nat))])(l:∀e d,[1].map e=[.p 0 0]->h.le d->Q (.exit 0) e [.own (tR p) 42] d):jk (λQ e L h=>dq aD 108 axR Q e L h) Q e [.own (tR p) 42] h:=by
 unfold tR at l⊢;refine .mk Nat [1,51,52,53] (λk=>[.p 0 0,.v (ab p.j' p.parts.length p.c7),.v (R p.parts.length),.v (R k)]) (λ_=>[.own [.v (R p.mem),.v (R p.br),.v (R p.ins),.v (R p.outs),.v (ab p.j' p.parts.length p.c7),.v (ab p.fg p.lines.length p.lc),.v (ab p.cn p.ops.length p.bT)] 42]) (λk d=>h.le d/\k<=p.parts.length) (λk=>p.parts.length-k) 0 (λ_=>rfl) ⟨J.le_refl _,cU _⟩ he rfl ?_;refineλo e d⟨le,hk⟩=>ay λO z M=>z _ _ _ (ay λS y C=>aW (λq=>?_) (λq=>?_));have f:o<p.parts.length:=I;obtain⟨g,j⟩:=ok.parts.b4 I;have c:=(ok.parts.mono le).row j (i:=o) (r:=n7.cells p.parts[o]) (by rw[de,bK f];rfl);obtain⟨s1,s2⟩:=u _ (b3 f);have s:=(ok.part _ (b3 f)).mono le;generalize p.parts[o]=x at c s1 s2 s;obtain⟨tag,A,n,jW,t⟩:=x;refine y _ _ _ (ay λT w N=>ew λP K D=>ay λU E X=>.m g j (.hp [bC .u8 tag,ab A n jW] rfl (by rw[bn];exact c) (E _ _ _ (ay λW G V=>.ag (.mk _ (IW tag A n jW t d s (by simp only at s2;omega)) ?_)))));rintro _ ae ⟨a,b,rfl,B,_,_⟩;simp only at s1;rw[s1];exact G _ _ _ (ay λZ F Y=>F _ _ _ (D _ _ _ _ nofun (w _ _ _ (.bl (⟨o+1,rfl,rfl,⟨J.le_trans le B,I⟩,by show p.parts.length- (o+1)<p.parts.length-o;omega⟩)))));exact C _ _ _ _ nofun (l _ _ rfl le)
theorem aAK Q(e:cg) p h(ok:p.ok h)(G:p.lines.length<=96)(hm:0<=p.mem/\p.mem<=1024)(s:∀x∈p.lines,0<=x.base/\0<=x.size/\x.base+x.size<=p.mem/\(x.n:Int)<=x.size)(he:[1,71,72,73].map e=[.p 0 0,.v (ab p.fg p.lines.length p.lc),.v (R p.lines.length),.v (R (0:Nat))])(d:∀e,[1].map e=[.p 0 0]->Q (.exit 2) e [.own (tR p) 42] h):jk (λQ e L h=>dq aD 108 axS Q e L h) Q e [.own (tR p) 42] h:=by
 unfold tR at d⊢;refine .mk Nat [1,71,72,73] (λk=>[.p 0 0,.v (ab p.fg p.lines.length p.lc),.v (R p.lines.length),.v (R k)]) (λ_=>[.own [.v (R p.mem),.v (R p.br),.v (R p.ins),.v (R p.outs),.v (ab p.j' p.parts.length p.c7),.v (ab p.fg p.lines.length p.lc),.v (ab p.cn p.ops.length p.bT)] 42]) (λk l=>l=h/\k<=p.lines.length) (λk=>p.lines.length-k) 0 (λ_=>rfl) ⟨rfl,cU _⟩ he rfl ?_;refineλo e _⟨rfl,hk⟩=>ay λM w J=>w _ _ _ (ay λO u y=>aW (λq=>?_) (λq=>?_));have a:o<p.lines.length:=I;obtain⟨g,b⟩:=ok.lines.b4 I;have c:=ok.lines.row b (i:=o) (r:=ho.cells p.lines[o]) (by rw[de,bK a];rfl);obtain⟨s1,s2,f,j⟩:=s _ (b3 a);generalize p.lines[o]=x at c s1 s2 f j;obtain⟨base,size,A,n,jW,st⟩:=x;simp only at s1 s2 f j;refine u _ _ _ (ay λP t K=>ew λN H z=>ay λS B V=>.m g b (.hp [R base,R size,ab A n jW] rfl (by rw[bn];exact c) (B _ _ _ (ay λU D T=>ay λjl C W=>C _ _ _ (ay λkd E Y=>.ag (.mk _ (GO _ _ _) ?_))))));rintro _ _ ⟨rfl,rfl⟩;rw[hr I,hr I];refine .bl (.ag (.mk _ (GO _ _ _) ?_));rintro _ _ ⟨rfl,rfl⟩;rw[hr I,hr I];exact E _ _ _ (D _ _ _ (ay λZ F X=>F _ _ _ (aW (λq=>I) (λ_=>z _ _ _ _ nofun (t _ _ _ (.bl (⟨o+1,rfl,rfl,⟨rfl,I⟩,by show p.lines.length- (o+1)<p.lines.length-o;omega⟩)))))));exact y _ _ _ _ nofun (d _ rfl)
theorem aFV(p:jC) T h(ok:p.ok h)(a:p.rt T):Fn aD 96 #[.agg p.cells.toArray] h λv d=>v=eA #[R T,R 0]/\h.le d:=by
 have a0:=a.m0;have o:=a.m1;have K:=a.e5;have L:=a.c1;have W:=a.i0;have ml:=a.i1;have mL:=a.pn;have rz:=a.j8;have G:=a.W1;have g:=a.li;have H:=a.op;have j:=a.rI;have F:p.cells=[R p.mem,R p.br,R p.ins,R p.outs,ab p.j' p.parts.length p.c7,ab p.fg p.lines.length p.lc,ab p.cn p.ops.length p.bT]:=rfl;have c:=λd(le:h.le d)=>aHI p T d (ok.mono le) a;have i:∀x∈p.parts,(b6 x.tag x.a8).1=0/\x.n<=1000:=λx b=>⟨a.sX x b,by
  have h1:=QY (a.sX x b);have ae:x.a8.length=x.n:=by simpa using(ok.part x b).len
  omega⟩
 have rg:∀x∈p.lines,0<=x.base/\0<=x.size/\x.base+x.size<=p.mem/\(x.n:Int)<=x.size:=λx b=>by
  have ae:x.st.length=x.n:=by simpa using(ok.line x b).len
  have:=a.ck x b;omega
 rw[F]at c⊢;refine bU VH rfl (ay λQ m O=>m _ _ _ (ay λU l M=>ay λV k P=>.ag (.mk _ (GO _ _ _) ?_)));rintro _ b ⟨rfl,ex⟩;rw[ex,hr I,hr I];refine .ag (.mk _ (GO _ _ _) ?_);rintro _ b ⟨rfl,ex⟩;rw[ex,hr I,hr I];refine .ag (.mk _ (GO _ _ _) ?_);rintro _ b ⟨rfl,ex⟩;rw[ex,hr I,hr I];refine .ag (.mk _ (GO _ _ _) ?_);rintro _ b ⟨rfl,ex⟩;rw[ex,hr I,hr I];refine k _ _ _ (l _ _ _ (ay λS s N=>ay λX t gN=>?_));conv=>whnf
 rw[jn I];conv=>whnf
 rw[jn I];refine t _ _ _ (aW (λq=>I) (λ_=>s _ _ _ (ay λZ w Y=>ay λjl u hU=>u _ _ _ (ew λB y j3=>.jG (.ag (aC' B _ p h ok G i rfl λe h1 he f=>y _ _ _ (w _ _ _ ?_)))))));rw[<-fi [1] e,he];refine ay λjU A iD=>ay λkQ z kH=>z _ _ _ (ew λE C qs=>.jG (.ag (aAK E _ p h1 (ok.mono f) g ⟨a0,o⟩ rg rfl λe he=>C _ _ _ (A _ _ _ ?_))));rw[<-fi [1] e,he];refine ay λoE D nn=>.ag (.mk _ (c h1 f) ?_);rintro _ ae ⟨rfl,r⟩;exact D _ _ _ (.ag ⟨rfl,J.le_trans f r⟩)
theorem apP(p:jC) T h(ok:p.ok h)(d:p.rt T):Fn aD 38 #[.agg p.cells.toArray] h λv b=>v=R 0/\h.le b:=by
 have e:p.cells=[R p.mem,R p.br,R p.ins,R p.outs,ab p.j' p.parts.length p.c7,ab p.fg p.lines.length p.lc,ab p.cn p.ops.length p.bT]:=rfl;have a:=aFV p T h ok d;rw[e]at a⊢;refine bU azt rfl (.ag (.mk _ a ?_));rintro _ ae ⟨rfl,c⟩;exact .ag ⟨rfl,c⟩
end Go.Sx
