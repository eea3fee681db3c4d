/- A part of the proof that the statement holds. Conditions: none. -/
import Derived.Test.YtlbdbpaelcnfgaaGreatDoorAS
open Classical renaming not_not->jL
open Go.Proofs.Tryz renaming prog->aB
open Go.Value renaming int->bA,slice->ab,tuple->ey
open Int renaming toNat_natCast->bz
open List renaming all_eq_true->rl,getD_eq_getElem?_getD->cx,getElem?_eq_getElem->bZ,getElem?_eq_none->l6,getElem?_map->dH,getElem_append_right->akZ,getElem_mem->cG,getElem_of_mem->oe,length->fi,length_cons->iv,length_map->gz,mem_append->ej,mem_map->cU,mem_singleton->hV,replicate->bh
open Nat renaming le_refl->dz,zero_le->cW
open Option renaming bind_some->ta,getD_some->ps,map_some->rp
open Option.some renaming injEq->Qz
open Or renaming inl->bW,inr->bl
open Prod.mk renaming injEq->wZ
namespace Go.Sx
set_option maxRecDepth 100000
set_option maxHeartbeats 0
set_option linter.all false
variable {ar:List (List cr)}{g:c8}
def ut(l:List Int):Prop:=∀r∈l,1<=r/\r<=64
theorem ut.rep{n:Nat}{m:Int}(h1:1<=m)(ae:m<=64):ut (bh n m):=λr a=>by
 obtain⟨_,rfl⟩:=List.mem_replicate.1 a;exact⟨h1,ae⟩
theorem ut.one{m:Int}(h1:1<=m)(ae:m<=64):ut [m]:=λr a=>by
 rw[hV]at a;subst a;exact⟨h1,ae⟩
theorem ut.nil:ut []:=λr a=>by cases a
def Iy(x:Int×List Int×List Int):Prop:=ut x.2.1/\ut x.2.2
theorem Iy.ite{p:Prop}[Decidable p]{a b:Int×List Int×List Int}(c:p->Iy a)(d:Iy b):Iy (if p then a else b):=by
 by_cases h:p;rw[aP h];exact c h;rw[aD h];exact d
theorem Ld tag l:Iy (b3 tag l):=by
 have mul:∀{n m:Int},1<=n->1<=m->1<=n*m:=λh1 b=>by
  have:=Int.mul_le_mul h1 b aM I;omega
 refine .ite (λ_=>⟨.nil,.nil⟩) (.ite (λ_=>⟨.one aM aM,.one aM aM⟩) (.ite (λh=>⟨.one aM aM,.one h.2.2.1 h.2.2.2⟩) (.ite (λh=>⟨.one h.2.2.1 h.2.2.2,.one aM aM⟩) (.ite (λh=>⟨.rep h.2.2.2.1.1 h.2.2.2.1.2,.one (mul h.2.2.1.1 h.2.2.2.1.1) h.2.2.2.2⟩) (.ite (λh=>⟨.one (mul h.2.2.1.1 h.2.2.2.1.1) h.2.2.2.2,.rep h.2.2.2.1.1 h.2.2.2.1.2⟩) (.ite (λ_=>⟨.rep aM aM,.one aM aM⟩) ?_))))));refine .ite (λ_=>⟨λr a=>by
  rcases List.mem_cons.1 a with rfl|a;exact⟨aM,aM⟩;exact ut.one aM aM r a,.one aM aM⟩) ?_
 exact .ite (λ_=>⟨.one aM aM,.rep aM aM⟩) (.ite (λ_=>⟨.nil,.one aM aM⟩) (.ite (λh=>⟨.one h.2.2.1 h.2.2.2,.nil⟩) ⟨.nil,.nil⟩))
structure vk(B:List (List Bool))(ar:List (List cr))(G:cr->Prop):Prop where
 len:B.map fi=ar.map fi
 sn:∀o q,(B.getD o []).getD q false=true->G ((ar.getD o []).getD q ⟨0,0,0⟩)
 VP:∀o q,q<(ar.getD o []).length->1<=((ar.getD o []).getD q ⟨0,0,0⟩).b/\((ar.getD o []).getD q ⟨0,0,0⟩).b<=64
theorem M0{α:Type}(l:List α) i o x d:(l.set i x).getD o d=if i=o/\o<l.length then x else l.getD o d:=by
 simp only[cx,List.getElem?_set];by_cases h:i=o;subst h;by_cases ae:i<l.length;rw[aP rfl,aP ae,aP ⟨rfl,ae⟩];rfl;rw[aP rfl,aD ae,aD (λq=>ae q.2),l6 I];rw[aD h,aD (λq=>h q.1)]
theorem Ur{α β:Type}{B:List (List α)}{ar:List (List β)}(h:B.map fi=ar.map fi) o:B.length=ar.length/\(B.getD o []).length=(ar.getD o []).length:=by
 have h1:=ee fi h;have ae:=ee (λl=>l.getD o 0) h;simp only[gz]at h1;refine⟨h1,?_⟩;simp only[cx,dH]at ae⊢;cases a:B[o]? <;>cases b:ar[o]? <;>simp only[a,b,rp,Option.map_none,ps,Option.getD_none]at ae⊢;rfl;exact ae;exact ae;exact ae
theorem vk.UL{B:List (List Bool)}{G:cr->Prop}(c:vk B ar G){a p:Int}{k:Nat}{i:Int}(g:∀b,1<=b->b<=64->G ⟨k,i,b⟩):vk (n9 B a p) (mark ar a.toNat p.toNat k i) G:=by
 obtain⟨l,j⟩:=Ur c.len a.toNat;have val:∀o q,((mark ar a.toNat p.toNat k i).getD o []).getD q ⟨0,0,0⟩=if a.toNat=o/\o<ar.length/\p.toNat=q/\q<(ar.getD o []).length then⟨k,i,((ar.getD o []).getD q ⟨0,0,0⟩).b⟩else(ar.getD o []).getD q ⟨0,0,0⟩:=by
  intro o q;rw[mark,M0];by_cases h:a.toNat=o/\o<ar.length;obtain⟨rfl,ae⟩:=h;rw[aP ⟨rfl,ae⟩,M0];by_cases d:p.toNat=q/\q<(ar.getD a.toNat []).length;obtain⟨rfl,f⟩:=d;rw[aP ⟨rfl,f⟩,aP ⟨rfl,ae,rfl,f⟩];rw[aD d,aD (λq=>d q.2.2)];rw[aD h,aD (λq=>h ⟨q.1,q.2.1⟩)]
 have e:(mark ar a.toNat p.toNat k i).map fi=ar.map fi:=CG ar _ _ _ _;refine⟨?_,λo q h=>?_,λo q h=>?_⟩;rw[HO,e];exact c.len;rw[val];rw[n9,M0]at h;split;rename_i h1;have:=c.VP o q h1.2.2.2;exact g _ this.1 this.2;rename_i h1;by_cases ae:a.toNat=o/\o<B.length;rw[aP ae,M0]at h;obtain⟨rfl,ae⟩:=ae;by_cases d:p.toNat=q/\q<(B.getD a.toNat []).length;exact absurd ⟨rfl,I,d.1,I⟩ h1;rw[aD d]at h;exact c.sn _ _ h;rw[aD ae]at h;exact c.sn _ _ h;rw[(Ur e o).2]at h;rw[val];split;exact c.VP o q h;exact c.VP o q h
theorem ZJ G H:∀(l:List GE) i aZ ro ar S,vk aZ ar G->vk ro S H->(∀o b,i<=o->o<i+l.length->1<=b->b<=64->G ⟨3,o,b⟩/\H ⟨6,o,b⟩)->(mb aZ ro l).1=0->vk (mb aZ ro l).2.1 (p6 l i (ar,S)).1 G/\vk (mb aZ ro l).2.2 (p6 l i (ar,S)).2 H
 |[],i,aZ,ro,ar,S,c1,c2,_,_=>⟨c1,c2⟩
 |x::l,i,aZ,ro,ar,S,c1,c2,d,e=>by
  rw[mb]at e⊢;split at e;rename_i h;exact absurd e h;rename_i h1;rw[aD h1];split at e;rename_i h;exact absurd e h;rename_i ae;rw[aD ae];split at e;cases e;rename_i f;rw[aD f,p6];rw[iv]at d;exact ZJ G H l (i+1) _ _ _ _ (c1.UL λb c a=>(d i b (dz _) I c a).1) (c2.UL λb c a=>(d i b (dz _) I c a).2) (λo b c a=>d o b I I) e
theorem Rp G k:∀(l:List l5) i bs rs ar,vk rs ar G->(∀o b,i<=o->o<i+l.length->1<=b->b<=64->G ⟨k,o,b⟩)->(lD bs rs l).1=0->vk (lD bs rs l).2.2 (pQ k l i ar) G
 |[],i,bs,rs,ar,c,_,_=>c
 |x::l,i,bs,rs,ar,c,a,e=>by
  rw[lD]at e⊢;split at e;rename_i h;exact absurd e h;rename_i h1;rw[aD h1];split at e;rename_i h;exact absurd e h;rename_i ae;rw[aD ae,pQ];rw[iv]at a;exact Rp G k l (i+1) _ _ _ (c.UL λb f d=>a i b (dz _) I f d) (λo b f d=>a o b I I) e
theorem vk.all{B:List (List Bool)}{ar:List (List cr)}{G:cr->Prop}(c:vk B ar G)(f:B.all (λl=>l.all id)=true):∀r∈ar,∀x∈r,G x:=by
 intro r k x h;obtain⟨o,i,rfl⟩:=oe k;obtain⟨q,m,rfl⟩:=oe h;obtain⟨n,g⟩:=Ur c.len o;have b:o<B.length:=I;have e:ar.getD o []=ar[o]:=by rw[cx,bZ i];rfl
 have d:B.getD o []=B[o]:=by rw[cx,bZ b];rfl
 rw[e,d]at g;have a:q<B[o].length:=I;have j:=rl.1 (rl.1 f _ (cG b)) _ (cG a);have:=c.sn o q (by rw[d,cx,bZ a];exact j);rwa[e,cx,bZ m]at this
theorem ZK{l:List iC}{f:iC->List Int}(c:∀a,ut (f a)) G:vk (l.map λa=>bh (f a).length false) (l.map λa=>(f a).map λr=>(⟨0,0,r⟩:cr)) G:=by
 refine⟨bd,λo q h=>?_,λo q h=>?_⟩;exfalso;simp only[cx,dH]at h;cases b:l[o]?with
 |none=>simp[b]at h
 |some a=>
  simp only[b,rp,ps,List.getElem?_replicate]at h;split at h<;>cases h
 simp only[cx,dH]at h⊢;cases b:l[o]?with
 |none=>simp[b]at h
 |some a=>
  simp only[b,rp,ps,gz,dH]at h⊢;rw[bZ h];exact c a _ (cG h)
def zF(g:c8)(x:cr):Prop:=(x.k=3/\0<=x.a/\x.a<g.be.length/\1<=x.b/\x.b<=64)\/(x.k=6/\0<=x.a/\x.a<g.be.length/\1<=x.b/\x.b<=64)\/(x.k=4/\0<=x.a/\x.a<g.ins.length/\1<=x.b/\x.b<=64)\/(x.k=7/\0<=x.a/\x.a<g.outs.length/\1<=x.b/\x.b<=64)\/(x.k=5/\0<=x.a/\x.a<g.a8.length/\x.b=0)
theorem Sf{G:cr->Prop}(h:∀r∈ar,∀x∈r,G x) o:∀x∈ar.getD o [],G x:=by
 by_cases a:o<ar.length;rw[cx,bZ a];exact h _ (cG a);rw[cx,l6 I];exactλx b=>by cases b
theorem aa6(e:iG g=0):∀r∈gd g,∀x∈r,zF g x:=by
 rw[iG]at e;split at e;rename_i h;exact absurd e h;split at e;rename_i h;exact absurd e h;dsimp only at e;split at e;rename_i h;exact absurd e h;split at e;rename_i h;exact absurd e h;split at e;rename_i h;exact absurd e h;rename_i h1 ae p k q;obtain⟨c1,c2⟩:=ZJ (zF g) (zF g) g.be 0 _ _ _ _ (ZK (l:=g.a8) (λa=>(Ld a.tag a.a6).1) (zF g)) (ZK (l:=g.a8) (λa=>(Ld a.tag a.a6).2) (zF g)) (λo b _ j d f=>⟨bW ⟨rfl,by simp only;omega,by simp only;omega,d,f⟩,bl (bW ⟨rfl,by simp only;omega,by simp only;omega,d,f⟩)⟩) (jL.1 p);have s:=Rp (zF g) 4 g.ins 0 _ _ _ c1 (λo b _ j d f=>bl (bl (bW ⟨rfl,by simp only;omega,by simp only;omega,d,f⟩))) (jL.1 k);have t:=Rp (zF g) 7 g.outs 0 _ _ _ c2 (λo b _ j d f=>bl (bl (bl (bW ⟨rfl,by simp only;omega,by simp only;omega,d,f⟩)))) (jL.1 q);rw[CL]at e;split at e;rename_i i;have a3:=s.all i.1;have a4:=t.all i.2;intro r n x c;obtain⟨o,m,rfl⟩:=cU.1 n;rw[List.mem_range]at m;rcases ej.1 c with c|c;rcases ej.1 c with c|c;exact Sf a3 o x c;rw[hV]at c;subst c;exact bl (bl (bl (bl ⟨rfl,by simp only;omega,by simp only;omega,rfl⟩)));exact Sf a4 o x c;cases e
theorem zF.three{x:cr}(h:zF g x):3<=x.k:=by
 rcases h with⟨h,_⟩|⟨h,_⟩|⟨h,_⟩|⟨h,_⟩|⟨h,_⟩<;>omega
structure iw.qy(p:iw)(T:Int):Prop where
 m0:0<=p.mem
 m1:p.mem<=1024
 gl:0<=p.bj
 c1:p.bj<=17
 i0:0<=p.ins
 i1:p.ins<=16
 oG:0<=p.outs
 iI:p.outs<=16
 Vs:p.parts.length<=32
 li:p.lines.length<=96
 op:p.ops.length<=131072
 t8:∀x∈p.parts,(b3 x.tag x.a6).1=0
 cd:∀x∈p.lines,0<=x.base/\0<=x.size/\x.base+x.size<=p.mem/\(x.st.length:Int)<=x.size
 snd:∀i(ai:i<p.ops.length),BL p i p.ops[i]
 last:∃l,p.ops=l++[⟨0,0,0⟩]
 walk:nc p.ops p.ops 0 [(-1,0)]=some [(-1,T)]
 rA:T<=131072
theorem aal:∀f,oh f->∀len op,(fC ar f len op).length<=h' ar f:=by
 intro f;induction f with
 |nil=>intro _ _ _;exact dz _
 |cons t n b r a d=>
  intro hp len op;obtain⟨h1,ae,g⟩:=hp;rw[RE,h'];have i:=ags t op len (bif b.leaf then ar.getD n.toNat []else fC ar b (len+fk t) (op+fk t));have j:=d g (len+(jR t op len (bif b.leaf then ar.getD n.toNat []else fC ar b (len+fk t) (op+fk t))).length) op;have i1:(bif b.leaf then ar.getD n.toNat []else fC ar b (len+fk t) (op+fk t)).length<=(bif b.leaf then(ar.getD n.toNat []).length else h' ar b):=by
   cases b.leaf with
   |true=>exact dz _
   |false=>exact a ae _ _
  generalize(bif b.leaf then(ar.getD n.toNat []).length else h' ar b)=u at i1⊢;split;rename_i c;have e:fk t=1:=aP c;have h:2*(u+1)<=t.toNat*(u+1):=Nat.mul_le_mul_right _ I;omega;rename_i c;have e:fk t=0:=aD c;omega
theorem ay9{b:List c9}{T:Int}{f:eJ}{p:iw}(g0:iG g=0)(hk:b.length=g.be.length)(t0:0<=T)(J:T<=1024)(y:∀i s(F:i<g.be.length),0<=b[i].1/\0<=b[i].2/\b[i].1+b[i].2<=T/\((g.be[i]).st.length:Int)<=b[i].2)(ay:vO f=0)(m:L2 g b T f p):p.qy (h' (gd g) f+1:Nat):=by
 obtain⟨m1,m2,m3,m4,m5,m6,m7⟩:=m;have o:=yB g0;obtain⟨w,z⟩:=Zw ay;have hp:=(Ms ay).1;have v:=aa6 g0;have B:∀r∈gd g,r.length<=33:=λr l=>RY l;have G:=(Pt B f hp).1;have L:=Rq f 0 0 0 0 w I I;have K:=aal (ar:=gd g) f hp 0 0;have hM:p.parts.length=g.a8.length:=by have:=ee fi m5;simpa using this
 have H:p.lines.length=g.be.length:=by have:=ee fi m6;simpa[hk]using this
 have M:p.ops.length=(fC (gd g) f 0 0).length+1:=by rw[m7];simp
 have a32:=o.a32;have N:=o.xe;have i16:=o.i16;have E:=o.E1;refine⟨I,I,I,I,I,I,I,I,I,I,I,λx c=>?_,λx c=>?_,λi s=>?_,⟨_,m7⟩,?_,I⟩;have h1:=List.mem_map_of_mem (f:=λx:nj=>(x.tag,x.a6)) c;rw[m5]at h1;obtain⟨a,A,e⟩:=cU.1 h1;have:=o.t8 a A;rw[wZ]at e;rw[<-e.1,<-e.2];exact this;obtain⟨i,s,rfl⟩:=oe c;have u:i<g.be.length:=I;have j:i<b.length:=I;have h1:(p.lines.map λx=>(x.base,x.size,x.st))[i]?=some (p.lines[i].base,p.lines[i].size,p.lines[i].st):=by rw[dH,bZ s];rfl
 rw[m6,List.getElem?_zipWith,bZ u,bZ j]at h1;simp only[Qz,wZ]at h1;obtain⟨h,d,t,n⟩:=y i j u;rw[<-h1.1,<-h1.2.1,<-h1.2.2,m1];exact⟨h,d,t,n⟩;by_cases ak:i<(fC (gd g) f 0 0).length;have ex:p.ops[i]=(fC (gd g) f 0 0)[i]:=by simp only[m7];rw[List.getElem_append_left ak]
 have hm:=cG ak;rw[<-ex]at hm;generalize p.ops[i]=x at hm;rcases RF (gd g) f 0 0 0 hp x hm with⟨r,l,c⟩|⟨h,d,t,n,D⟩|⟨h,d,t,n,D⟩;rcases v r l x c with⟨k,q⟩|⟨k,q⟩|⟨k,q⟩|⟨k,q⟩|⟨k,q⟩;exact bl (bl (bl (bW ⟨k,I,I,I,I⟩)));exact bl (bl (bl (bl (bW ⟨k,I,I,I,I⟩))));exact bl (bl (bl (bl (bl (bW ⟨k,I,I,I,I⟩)))));exact bl (bl (bl (bl (bl (bl (bW ⟨k,I,I,I,I⟩))))));exact bl (bl (bl (bl (bl (bl (bl ⟨k,I,I,I⟩))))));exact bl (bW ⟨h,d,I,n,I⟩);exact bl (bl (bW ⟨h,d,I,n,I⟩));have C:i=(fC (gd g) f 0 0).length:=I;refine bW ⟨?_,I⟩;simp only[m7];rw[akZ I];simp[C];have hw:=WZ (gd g) (λr l x c=>(v r l x c).three) p.ops f 0 0 [] [⟨0,0,0⟩] (-1) 0 [] hp rfl (by rw[m7];rfl) bd I I;conv=>lhs;arg 2;rw[m7]
 rw[PL,hw,ta,nc];have:∀i,u3 p.ops i ⟨0,0,0⟩ [(-1,0+(h' (gd g) f:Int))]=some [(-1,min (0+(h' (gd g) f:Int)+1) 131073)]:=λi=>rfl;rw[this,ta,nc];rw[show min (0+(h' (gd g) f:Int)+1) 131073=((h' (gd g) f+1:Nat):Int) by omega]
end Go.Sx
namespace Go.Sx
open Go.Proofs
set_option maxRecDepth 100000
set_option maxHeartbeats 0
set_option linter.all false
theorem aFM(p:iw) T h(ok:p.ok h)(a:p.qy T):Fn aB 141 #[.agg p.cells.toArray] h λv j=>v=ey #[R T,R 0]/\h.le j:=by
 have B:=a.gl;have f:=a.c1;have S:=a.i0;have lr:=a.i1;have W:=a.oG;have qC:=a.iI;have vJ:=a.Vs;have z6:=a.li;have u:=a.op;have z:=a.rA;obtain⟨l,ak⟩:=a.last;have Z:0<p.ops.length:=by rw[ak];simp
 have Y:p.cells=[R p.mem,R p.bj,R p.ins,R p.outs,ab p.jf p.parts.length p.cN,ab p.eU p.lines.length p.lc,ab p.cj p.ops.length p.bO]:=rfl;rw[Y];refine b6 G4 rfl ?_;refine az λgE K gm=>?_;refine K _ _ _ ?_;refine az λgA H ev=>?_;refine H _ _ _ ?_;refine az λgj D fD=>?_;refine az λgk G ez=>?_;refine G _ _ _ ?_;refine fb λV E hE=>?_;refine .VH [.s 1 0 1 1] ?_;refine .mk λb n=>?_;have N:r4 h (h.put b (Obj.cells #[bA .i64 (-1),bA .i64 0] 374 (0,0))) (some ⟨b,0,none⟩) 1 1 [(-1,0)]:=⟨J.dI n,⟨rfl,bl ⟨b,_,rfl,J.b1 _ _ _,dz _,aM,rfl,rfl⟩⟩,λg d=>by injection d with d;subst d;exact n,rfl,nofun⟩;refine aFN V _ p h _ ok u ⟨B,I⟩ ⟨S,I⟩ ⟨W,I⟩ I I a.snd T b 1 N a.walk rfl λe j A c he x=>?_;refine E _ _ _ (D _ _ _ ?_);rw[<-fK [1,4] e,he];obtain⟨f,vw,rfl,_,O,_⟩:=x.top;have t:=Rg (F:=[]) O (k:=1) (o:=1) rfl rfl;obtain⟨C,hO⟩:=ok.ops.cg I;have y:p.ops.length-1<p.ops.length:=I;have w:p.ops[p.ops.length-1]=⟨0,0,0⟩:=by
  simp only[ak];rw[akZ bd];simp
 have X:=(ok.ops.mono x.le).row hO (i:=p.ops.length-1) (r:=cr.cells ⟨0,0,0⟩) (by rw[dH,bZ y,w];rfl);refine az λgZ M g6=>?_;refine az λiK L hg=>?_;refine L _ _ _ ?_;refine az λjl P jc=>?_;conv=>whnf
 rw[io I];refine .bg ?_;refine .m C hO ?_;refine .hp _ (by rw[show((p.ops.length:Int)-1).toNat=p.ops.length-1 by omega];exact X 0 _ rfl) ?_;refine P _ _ _ ?_;refine M _ _ _ ?_;refine az λjV U h6=>?_;refine az λkD Q kl=>?_;refine .mk ⟨f,0,none⟩ rfl aM aM ?_;refine .hp (R T) t ?_;refine Q _ _ _ ?_;refine aY (λq=>I) (λ_=>?_);refine U _ _ _ ?_;refine .mk ⟨f,0,none⟩ rfl aM aM ?_;refine .hp (R T) t ?_;exact .ah ⟨rfl,x.le⟩
theorem Wk{tag:Int}{l:List Int}(h:(b3 tag l).1=0):l.length<=16:=by
 by_cases q:l.length<=16;exact q;unfold b3 at h;split at h;cases h;dsimp only at h;rw[aD I,aD I,aD I,aD I,aD I,aD I,aD I,aD I,aD I,aD I]at h;cases h
theorem aBd Q(e:cy) p h(ok:p.ok h)(H:p.parts.length<=32)(u:∀x∈p.parts,(b3 x.tag x.a6).1=0/\x.n<=1000)(he:[1,51,52,53].map e=[.p 0 0,.v (ab p.jf p.parts.length p.cN),.v (R p.parts.length),.v (R (0:Nat))])(l:∀e d,[1].map e=[.p 0 0]->h.le d->Q (.exit 0) e [.own (sQ p) 42] d):kB (λQ e L h=>di aB 108 av5 Q e L h) Q e [.own (sQ p) 42] h:=by
 unfold sQ at l⊢;refine .mk Nat [1,51,52,53] (λk=>[.p 0 0,.v (ab p.jf p.parts.length p.cN),.v (R p.parts.length),.v (R k)]) (λ_=>[.own [.v (R p.mem),.v (R p.bj),.v (R p.ins),.v (R p.outs),.v (ab p.jf p.parts.length p.cN),.v (ab p.eU p.lines.length p.lc),.v (ab p.cj p.ops.length p.bO)] 42]) (λk d=>h.le d/\k<=p.parts.length) (λk=>p.parts.length-k) 0 (λ_=>rfl) ⟨J.le_refl _,cW _⟩ he rfl ?_;refineλo e d⟨le,hk⟩=>az λP C V=>C _ _ _ (az λO B F=>aY (λq=>?_) (λq=>?_));have f:o<p.parts.length:=I;obtain⟨g,j⟩:=ok.parts.cg I;have c:=(ok.parts.mono le).row j (i:=o) (r:=nj.cells p.parts[o]) (by rw[dH,bZ f];rfl);obtain⟨s1,s2⟩:=u _ (cG f);have s:=(ok.part _ (cG f)).mono le;generalize p.parts[o]=x at c s1 s2 s;obtain⟨tag,A,n,jo,t⟩:=x;refine B _ _ _ (az λT y M=>fb λU K G=>az λY z W=>.m g j (.hp [bA .u8 tag,ab A n jo] rfl (by rw[bz];exact c) (z _ _ _ (az λS E N=>.ah (.mk _ (Hq tag A n jo t d s (by simp only at s2;omega)) ?_)))));rintro _ ae ⟨a,b,rfl,w,_,_⟩;simp only at s1;rw[s1];exact E _ _ _ (az λZ D X=>D _ _ _ (G _ _ _ _ nofun (y _ _ _ (.bg (⟨o+1,rfl,rfl,⟨J.le_trans le w,I⟩,by show p.parts.length- (o+1)<p.parts.length-o;omega⟩)))));exact F _ _ _ _ nofun (l _ _ rfl le)
theorem ayQ Q(e:cy) p h(ok:p.ok h)(G:p.lines.length<=96)(hm:0<=p.mem/\p.mem<=1024)(s:∀x∈p.lines,0<=x.base/\0<=x.size/\x.base+x.size<=p.mem/\(x.n:Int)<=x.size)(he:[1,71,72,73].map e=[.p 0 0,.v (ab p.eU p.lines.length p.lc),.v (R p.lines.length),.v (R (0:Nat))])(d:∀e,[1].map e=[.p 0 0]->Q (.exit 2) e [.own (sQ p) 42] h):kB (λQ e L h=>di aB 108 av6 Q e L h) Q e [.own (sQ p) 42] h:=by
 unfold sQ at d⊢;refine .mk Nat [1,71,72,73] (λk=>[.p 0 0,.v (ab p.eU p.lines.length p.lc),.v (R p.lines.length),.v (R k)]) (λ_=>[.own [.v (R p.mem),.v (R p.bj),.v (R p.ins),.v (R p.outs),.v (ab p.jf p.parts.length p.cN),.v (ab p.eU p.lines.length p.lc),.v (ab p.cj p.ops.length p.bO)] 42]) (λk l=>l=h/\k<=p.lines.length) (λk=>p.lines.length-k) 0 (λ_=>rfl) ⟨rfl,cW _⟩ he rfl ?_;refineλo e _⟨rfl,hk⟩=>az λN y T=>y _ _ _ (az λM w C=>aY (λq=>?_) (λq=>?_));have a:o<p.lines.length:=I;obtain⟨g,b⟩:=ok.lines.cg I;have c:=ok.lines.row b (i:=o) (r:=iU.cells p.lines[o]) (by rw[dH,bZ a];rfl);obtain⟨s1,s2,f,j⟩:=s _ (cG a);generalize p.lines[o]=x at c s1 s2 f j;obtain⟨base,size,A,n,jo,st⟩:=x;simp only at s1 s2 f j;refine w _ _ _ (az λP t J=>fb λS H D=>az λX u V=>.m g b (.hp [R base,R size,ab A n jo] rfl (by rw[bz];exact c) (u _ _ _ (az λO B K=>az λY z W=>z _ _ _ (az λjl E jc=>.ah (.mk _ (Fx _ _ _) ?_))))));rintro _ _ ⟨rfl,rfl⟩;rw[gG I,gG I];refine .bg (.ah (.mk _ (Fx _ _ _) ?_));rintro _ _ ⟨rfl,rfl⟩;rw[gG I,gG I];exact E _ _ _ (B _ _ _ (az λZ F U=>F _ _ _ (aY (λq=>I) (λ_=>D _ _ _ _ nofun (t _ _ _ (.bg (⟨o+1,rfl,rfl,⟨rfl,I⟩,by show p.lines.length- (o+1)<p.lines.length-o;omega⟩)))))));exact C _ _ _ _ nofun (d _ rfl)
theorem aDU(p:iw) T h(ok:p.ok h)(a:p.qy T):Fn aB 96 #[.agg p.cells.toArray] h λv d=>v=ey #[R T,R 0]/\h.le d:=by
 have a0:=a.m0;have l:=a.m1;have K:=a.gl;have L:=a.c1;have hd:=a.i0;have lr:=a.i1;have lQ:=a.oG;have qC:=a.iI;have F:=a.Vs;have G:=a.li;have H:=a.op;have i:=a.rA;have E:p.cells=[R p.mem,R p.bj,R p.ins,R p.outs,ab p.jf p.parts.length p.cN,ab p.eU p.lines.length p.lc,ab p.cj p.ops.length p.bO]:=rfl;have c:=λd(le:h.le d)=>aFM p T d (ok.mono le) a;have g:∀x∈p.parts,(b3 x.tag x.a6).1=0/\x.n<=1000:=λx b=>⟨a.t8 x b,by
  have h1:=Wk (a.t8 x b);have ae:x.a6.length=x.n:=by simpa using(ok.part x b).len
  omega⟩
 have rg:∀x∈p.lines,0<=x.base/\0<=x.size/\x.base+x.size<=p.mem/\(x.n:Int)<=x.size:=λx b=>by
  have ae:x.st.length=x.n:=by simpa using(ok.line x b).len
  have:=a.cd x b;omega
 rw[E]at c⊢;refine b6 T1 rfl (az λS s X=>s _ _ _ (az λQ r M=>az λV k O=>.ah (.mk _ (Fx _ _ _) ?_)));rintro _ b ⟨rfl,ex⟩;rw[ex,gG I,gG I];refine .ah (.mk _ (Fx _ _ _) ?_);rintro _ b ⟨rfl,ex⟩;rw[ex,gG I,gG I];refine .ah (.mk _ (Fx _ _ _) ?_);rintro _ b ⟨rfl,ex⟩;rw[ex,gG I,gG I];refine .ah (.mk _ (Fx _ _ _) ?_);rintro _ b ⟨rfl,ex⟩;rw[ex,gG I,gG I];refine k _ _ _ (r _ _ _ (az λW o N=>az λhs m Z=>?_));conv=>whnf
 rw[io I];conv=>whnf
 rw[io I];refine m _ _ _ (aY (λq=>I) (λ_=>o _ _ _ (az λU u P=>az λiK t hg=>t _ _ _ (fb λA w jc=>.kY (.ah (aBd A _ p h ok F g rfl λe h1 he f=>w _ _ _ (u _ _ _ ?_)))))));rw[<-fK [1] e,he];refine az λjV z Y=>az λkD y kl=>y _ _ _ (fb λD B rO=>.kY (.ah (ayQ D _ p h1 (ok.mono f) G ⟨a0,l⟩ rg rfl λe he=>B _ _ _ (z _ _ _ ?_))));rw[<-fK [1] e,he];refine az λpt C oD=>.ah (.mk _ (c h1 f) ?_);rintro _ ae ⟨rfl,j⟩;exact C _ _ _ (.ah ⟨rfl,J.le_trans f j⟩)
theorem an9(p:iw) T h(ok:p.ok h)(d:p.qy T):Fn aB 38 #[.agg p.cells.toArray] h λv b=>v=R 0/\h.le b:=by
 have e:p.cells=[R p.mem,R p.bj,R p.ins,R p.outs,ab p.jf p.parts.length p.cN,ab p.eU p.lines.length p.lc,ab p.cj p.ops.length p.bO]:=rfl;have a:=aDU p T h ok d;rw[e]at a⊢;refine b6 axC rfl (.ah (.mk _ a ?_));rintro _ ae ⟨rfl,c⟩;exact .ah ⟨rfl,c⟩
end Go.Sx
