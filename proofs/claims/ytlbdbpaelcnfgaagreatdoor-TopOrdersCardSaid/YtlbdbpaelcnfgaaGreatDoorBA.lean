/- A part of the proof that the statement holds. Conditions: none. -/
import Derived.Test.YtlbdbpaelcnfgaaGreatDoorAC
import Derived.Test.YtlbdbpaelcnfgaaGreatDoorAP
import Derived.Test.YtlbdbpaelcnfgaaGreatDoorAQ
import Derived.Test.YtlbdbpaelcnfgaaGreatDoorAS
import Derived.Test.YtlbdbpaelcnfgaaGreatDoorAX
import Derived.Test.YtlbdbpaelcnfgaaGreatDoorAY
open Bool renaming and_eq_true->h0,eq_false_iff->FG
open ByteArray renaming empty->aGu
open Classical renaming byContradiction->Xp,choose->aj6,choose_spec->Xq,not_not->jL
open Decidable renaming byContradiction->wJ,em->aGz
open Int renaming add_assoc->XK,emod_eq_of_lt->akC,le_refl->vp,lt_or_le->XM,natCast_add->LP,toNat->x6,toNat_natCast->bz,toNat_of_nonneg->pr
open List renaming all_eq_true->rl,any_eq_true->Qk,append_assoc->kC,append_nil->s7,cons_append->wP,count_append->XP,count_cons->Bt,count_erase->akK,count_pos_iff->LR,drop_left->akN,eq_nil_iff_forall_not_mem->akP,ext_getElem->um,flatten_cons->oR,foldl_append->XT,getD_eq_getElem?_getD->cx,getElem?_append_left->FN,getElem?_append_right->FO,getElem?_eq_getElem->bZ,getElem?_eq_none->l6,getElem?_eq_some_iff->pZ,getElem?_map->dH,getElem?_range->Dm,getElem?_replicate->zO,getElem?_set->s8,getElem?_take_of_lt->akW,getElem?_zipWith->akX,getElem_map->Dn,getElem_mem->cG,getElem_of_mem->oe,getElem_zip->ak0,length->fi,length_append->fc,length_cons->iv,length_drop->mF,length_map->gz,length_pos_iff->ak3,length_replicate->wR,length_set->h2,length_take->ni,length_zip->ak5,map_append->fF,map_congr_left->mG,map_cons->ec,map_fst_zip->XY,map_id->ak6,map_map->iD,map_snd_zip->ak7,mem_append->ej,mem_cons->ek,mem_cons_of_mem->gX,mem_cons_self->hU,mem_iff_getElem->ak',mem_iff_getElem?->Il,mem_map->cU,mem_of_getElem?->Bw,mem_range->uo,nodup_append->oS,nodup_cons->iV,nodup_iff_pairwise_ne->X0,of_mem_zip->By,pairwise_iff_getElem->LW,perm_append_comm->ald,prefix_refl->LX,range->fL,range'->LY,range'_succ->Qr,range_eq_range'->In,replicate->bh,replicate_succ->wS,set_comm->Io,set_set->alf,take_left->BA,zipWith->rn,zip_map_right->ali
open List.IsPrefix renaming trans->akH
open List.Pairwise renaming imp_of_mem->aGF
open List.Sublist renaming refl->aGG
open Nat renaming add_mul->BD,add_sub_cancel_left->Dq,le_of_not_lt->X5,le_refl->dz,one_mul->alB,zero_add->dM,zero_le->cW
open Ne renaming symm->d'
open Option renaming bind_eq_some_iff->wW,getD_some->ps,map_some->rp
open Option.some renaming injEq->Qz
open Or renaming inl->bW,inr->bl
open Prod renaming ext->L8,ext_iff->alO,fst->gQ,snd->er
open Prod.mk renaming inj->r7,injEq->wZ
namespace Go.Sx
open Go.Proofs
set_option maxRecDepth 100000
set_option maxHeartbeats 0
set_option linter.all false
variable {base size:Int}{aE f mem rs xs:List Int}{l:List Nat}{bc:List c9}{ops:List cr}{C n v:Nat}{α:Type}{g:c8}{c:e1}
abbrev Slot:=Int×Int
def pn(rs:List (List Bool))(S:List Slot):List (List Bool):=S.foldl (λr x=>n9 r x.1 x.2) rs
def zG:List Slot->List (List Bool)->Prop
 |[],_=>True
 |x::l,rs=>ve rs x.1 x.2=0/\zG l (n9 rs x.1 x.2)
theorem R':∀S a rs,zG S rs->zG a (pn rs S)->zG (S++a) rs
 |[],_,_,_,h=>h
 |_::S,a,_,h,b=>⟨h.1,R' S a _ h.2 b⟩
theorem aaf:∀l aZ ro,(mb aZ ro l).1=0->(mb aZ ro l).2.1=pn aZ (l.map λx=>(x.dst,x.iM))/\(mb aZ ro l).2.2=pn ro (l.map λx=>(x.src,x.sp))/\zG (l.map λx=>(x.dst,x.iM)) aZ/\zG (l.map λx=>(x.src,x.sp)) ro
 |[],_,_,_=>⟨rfl,rfl,trivial,trivial⟩
 |x::l,aZ,ro,e=>by
  rw[mb]at e⊢;split at e;rename_i h;exact absurd e h;split at e;rename_i h;exact absurd e h;split at e;cases e;rename_i h1 ae f;rw[aD h1,aD ae,aD f];obtain⟨a,b,c,d⟩:=aaf l _ _ e;exact⟨a,b,⟨jL.1 ae,c⟩,jL.1 h1,d⟩
theorem VC:∀l bs rs,(lD bs rs l).1=0->(lD bs rs l).2.2=pn rs (l.map λx=>(x.act,x.port))/\zG (l.map λx=>(x.act,x.port)) rs
 |[],_,_,_=>⟨rfl,trivial⟩
 |x::l,bs,rs,e=>by
  rw[lD]at e⊢;split at e;rename_i h;exact absurd e h;split at e;rename_i h;exact absurd e h;rename_i h1 ae;rw[aD h1,aD ae];obtain⟨a,b⟩:=VC l _ _ e;exact⟨a,jL.1 ae,b⟩
def uY(rs:List (List Bool))(a p:Nat):Bool:=(rs.getD a []).getD p false
theorem azt rs a p b q(e:a<rs.length)(hp:p<(rs.getD a []).length):uY (rs.set a ((rs.getD a []).set p true)) b q=(uY rs b q||decide (b=a/\q=p)):=by
 unfold uY;by_cases c:b=a;subst c;simp only[cx,s8,aP e]at hp⊢;by_cases d:q=p;subst d;simp[hp];simp[d,d' d];simp[cx,d' c,c]
theorem aEu{rs:List (List Bool)}{a p:Int}(e:ve rs a p=0):0<=a/\a.toNat<rs.length/\0<=p/\p.toNat<(rs.getD a.toNat []).length/\uY rs a.toNat p.toNat=false:=by
 rw[ve]at e;split at e;cases e;split at e;cases e;split at e;cases e;rename_i h1 ae b;refine⟨I,I,I,I,?_⟩;unfold uY;simpa using b
theorem MY:∀S rs,zG S rs->(∀x∈S,0<=x.1/\0<=x.2/\uY rs x.1.toNat x.2.toNat=false)/\S.Nodup/\∀a p,uY (pn rs S) a p=(uY rs a p||decide (((a:Int),(p:Int))∈S))
 |[],rs,_=>⟨nofun,List.nodup_nil,λa p=>by simp[pn]⟩
 |x::S,rs,h=>by
  obtain⟨h1,ae⟩:=h;obtain⟨i1,i2,i3⟩:=MY S _ ae;obtain⟨t1,t2,t3,t4,t5⟩:=aEu h1;have ms:=λb q=>azt rs x.1.toNat x.2.toNat b q t2 t4;have ao:n9 rs x.1 x.2=rs.set x.1.toNat ((rs.getD x.1.toNat []).set x.2.toNat true):=rfl;rw[ao]at i1 i3;refine⟨λy c=>?_,iV.2 ⟨λe=>?_,i2⟩,λa p=>?_⟩;rcases ek.1 c with rfl|c;exact⟨t1,t3,t5⟩;obtain⟨g,f,d⟩:=i1 y c;rw[ms,Bool.or_eq_false_iff]at d;exact⟨g,f,d.1⟩;have:=(i1 x e).2.2;rw[ms]at this;simp at this;show uY (pn (n9 rs x.1 x.2) S) a p=_;rw[ao,i3,ms,Bool.or_assoc];congr 1;rw[<-Bool.decide_or];congr 1;rw[ek];refine propext (or_congr ?_ Iff.rfl);rw[alO];show a=x.1.toNat/\p=x.2.toNat↔(a:Int)=x.1/\(p:Int)=x.2;omega
structure Mb(n:Nat)(w:Nat->Nat)(S:List Slot):Prop where
 nodup:S.Nodup
 full:∀a p:Nat,a<n->p<w a->((a:Int),(p:Int))∈S
theorem aif{rs:List (List Bool)}{w:Nat->Nat}{S:List Slot}(m:rs.length=n)(j:∀a p,uY rs a p=false)(h:zG S rs)(c:(pn rs S).all nS=true)(hw:∀a,a<n->w a=(rs.getD a []).length)(ak:∀a,((pn rs S).getD a []).length=(rs.getD a []).length)(o:(pn rs S).length=rs.length):Mb n w S:=by
 obtain⟨_,ae,k⟩:=MY S rs h;refine⟨ae,λa p l hp=>?_⟩;have b:=k a p;rw[j,Bool.false_or]at b;rw[rl]at c;have d:a<(pn rs S).length:=I;have g:=c _ (cG d);have e:(pn rs S).getD a []=(pn rs S)[a]:=by simp[cx,d]
 have f:p<((pn rs S)[a]).length:=by rw[<-e,ak,<-hw a l];exact hp
 rw[nS,rl]at g;have i:=g _ (cG f);unfold uY at b;rw[e,cx,bZ f]at b;simp only[ps]at b;simp only[id]at i;rw[i]at b;exact q2 b.symm
theorem Lb:∀S rs,(pn rs S).length=rs.length/\∀a,((pn rs S).getD a []).length=(rs.getD a []).length
 |[],_=>⟨rfl,λ_=>rfl⟩
 |x::S,rs=>by
  obtain⟨h1,ae⟩:=Lb S (n9 rs x.1 x.2);refine⟨h1.trans (by simp[n9]),λa=>(ae a).trans ?_⟩;unfold n9;simp only[cx,s8];split;rename_i e;subst e;split;simp;rename_i h;simp[l6 (X5 h)];rfl
def NL(g:c8):List Slot:=g.be.map (λx=>(x.dst,x.iM))++g.ins.map λx=>(x.act,x.port)
def OR(g:c8):List Slot:=g.be.map (λx=>(x.src,x.sp))++g.outs.map λx=>(x.act,x.port)
theorem aq3(e:iG g=0):Mb g.a8.length (λa=>(ki g a).length) (NL g)/\Mb g.a8.length (λa=>(lW g a).length) (OR g):=by
 rw[iG]at e;split at e;rename_i h;exact absurd e h;split at e;rename_i h;exact absurd e h;dsimp only at e;split at e;rename_i h;exact absurd e h;split at e;rename_i h;exact absurd e h;split at e;rename_i h;exact absurd e h;rename_i m l o;obtain⟨j,a2,a3,a4⟩:=aaf _ _ _ (jL.1 m);obtain⟨n,k⟩:=VC _ _ _ (jL.1 l);obtain⟨c1,c2⟩:=VC _ _ _ (jL.1 o);rw[CL]at e;split at e;rename_i b;rw[n,c1,j,a2]at b;rw[j]at k;rw[a2]at c2;have i:∀rs:List (List Bool),∀S d:List Slot,pn (pn rs S) d=pn rs (S++d):=λrs S d=>by unfold pn;rw[XT]
 rw[i,i]at b;have rep:∀(f:iC->Nat)(a p:Nat),uY (g.a8.map λx=>bh (f x) false) a p=false:=λf a p=>by
  unfold uY;simp only[cx,dH];cases g.a8[a]?with
  |none=>rfl
  |some x=>
   simp only[rp,ps,zO];split<;>rfl
 refine⟨aif (gz ..) (rep _) (R' _ _ _ a3 k) b.1 (λa c=>?_) (Lb _ _).2 (Lb _ _).1,aif (gz ..) (rep _) (R' _ _ _ a4 c2) b.2 (λa c=>?_) (Lb _ _).2 (Lb _ _).1⟩;simp[ki,cx,bZ c];simp[lW,cx,bZ c];cases e
abbrev BC:=Slot×(Nat×Int)
def q0(ar:List (List cr))(M:List BC):List (List cr):=M.foldl (λq m=>mark q m.1.1.toNat m.1.2.toNat m.2.1 m.2.2) ar
def uu(ar:List (List cr))(a p:Nat):Option cr:=(ar.getD a [])[p]?
theorem azg ar a p k i b q:uu (mark ar a p k i) b q=if b=a/\q=p then(uu ar a p).map λU=>⟨k,i,U.b⟩else uu ar b q:=by
 unfold uu mark;simp only[cx,s8];by_cases c:b=a;subst c;by_cases e:b<ar.length;simp only[aP e,lY,ps,s8];by_cases d:q=p;subst d;by_cases hp:q<((ar[b]?).getD []).length;simp[aP hp,bZ hp];simp[aD hp,l6 (X5 hp)];simp[d' d,d];simp[e];simp[d' c,c]
theorem afp:∀M ar,(∀m∈M,0<=m.1.1/\0<=m.1.2)->(M.map gQ).Nodup->∀a p:Nat,(∀s,(((a:Int),(p:Int)),s)∈M->uu (q0 ar M) a p=(uu ar a p).map λU=>⟨s.1,s.2,U.b⟩)/\(((a:Int),(p:Int))∉M.map gQ->uu (q0 ar M) a p=uu ar a p)
 |[],_,_,_,_,_=>⟨nofun,λ_=>rfl⟩
 |m::M,ar,al,c,a,p=>by
  rw[ec,iV]at c;obtain⟨i1,i2⟩:=afp M (mark ar m.1.1.toNat m.1.2.toNat m.2.1 m.2.2) (λx f=>al x (gX _ f)) c.2 a p;have e:q0 ar (m::M)=q0 (mark ar m.1.1.toNat m.1.2.toNat m.2.1 m.2.2) M:=rfl;have hm:=al m (hU ..);have d:=azg ar m.1.1.toNat m.1.2.toNat m.2.1 m.2.2 a p;have key:(a=m.1.1.toNat/\p=m.1.2.toNat)↔((a:Int),(p:Int))=m.1:=by
   rw[alO];show _↔(a:Int)=m.1.1/\(p:Int)=m.1.2;omega
  rw[e];refine⟨λs ao=>?_,λao=>?_⟩;rcases ek.1 ao with q|q;rw[i2 (by rw[show((a:Int),(p:Int))=m.1 by rw[<-q]];exact c.1),d,aP (key.2 (by rw[<-q]))];have h1:a=m.1.1.toNat/\p=m.1.2.toNat:=key.2 (by rw[<-q]);rw[<-h1.1,<-h1.2,<-q];rw[i1 s q,d,aD];intro h;exact c.1 (by rw[<-key.1 h];exact cU.2 ⟨_,q,rfl⟩);rw[ec,ek,not_or]at ao;rw[i2 ao.2,d,aD λh=>ao.1 (key.1 h)]
structure p4(M:List BC)(v:Nat)(rs:List Int)(ops:List cr)(eF:List (Nat×Int)):Prop where
 len:eF.length=rs.length
 ops:ops=rn (λs r=>⟨s.1,s.2,r⟩) eF rs
 mem:∀(p:Nat)(s:Nat×Int),eF[p]?=some s↔p<rs.length/\(((v:Int),(p:Int)),s)∈M
theorem afq{w:Nat->Nat}{ar:List (List cr)}{M:List BC}(al:∀m∈M,0<=m.1.1/\0<=m.1.2)(ao:Mb n w (M.map gQ))(j:v<n)(o:rs.length=w v)(g:∀p,uu ar v p=(rs[p]?).map λr=>⟨0,0,r⟩):∃eF,p4 M v rs ((q0 ar M).getD v []) eF:=by
 have ex:∀p:Nat,p<rs.length->∃s,(((v:Int),(p:Int)),s)∈M:=λp hp=>by
  obtain⟨m,hm,e⟩:=cU.1 (ao.full v p j I);exact⟨m.2,by rw[<-e];exact hm⟩
 have un:∀(x:Slot) s t,(x,s)∈M->(x,t)∈M->s=t:=λx s t h1 ae=>by
  have d:=ao.nodup;clear ex g al ao;induction M with
  |nil=>cases h1
  |cons m M k=>
   rw[ec,iV]at d;rcases ek.1 h1 with b|b<;>rcases ek.1 ae with a|a;rw[<-b]at a;exact(r7 a).2.symm;exact absurd (cU.2 ⟨_,a,by rw[<-b]⟩) d.1;exact absurd (cU.2 ⟨_,b,by rw[<-a]⟩) d.1;exact k b a d.2
 obtain⟨eF,h1,ae⟩:=Mt (λp(s:Nat×Int)=>(((v:Int),(p:Int)),s)∈M) rs.length ex;have l:∀(p:Nat)(s:Nat×Int),eF[p]?=some s↔p<rs.length/\(((v:Int),(p:Int)),s)∈M:=λp s=>by
  refine⟨λh=>⟨by rw[<-h1];exact(pZ.1 h).1,ae p s h⟩,λ⟨h,hm⟩=>?_⟩;have hp:p<eF.length:=I;rw[bZ hp,un _ _ _ (ae p _ (bZ hp)) hm]
 refine⟨eF,h1,?_,l⟩;apply List.ext_getElem?;intro p;have f:=afp M ar al ao.nodup v p;show uu (q0 ar M) v p=_;rw[akX];by_cases hp:p<rs.length;have i:p<eF.length:=I;rw[f.1 _ (ae p _ (bZ i)),g,bZ hp,bZ i];rfl;have c:uu ar v p=none:=by rw[g,l6 I];rfl
 rw[l6 (by omega:eF.length<=p)];by_cases hm:((v:Int),(p:Int))∈M.map gQ;obtain⟨m,hm,e⟩:=cU.1 hm;rw[f.1 m.2 (by rw[<-e];exact hm),c];rfl;rw[f.2 hm,c]
def pJ(g:c8):List BC:=(fL g.be.length).zipWith (λ(i:Nat) x=>((x.dst,x.iM),(3,(i:Int)))) g.be++(fL g.ins.length).zipWith (λ(i:Nat) x=>((x.act,x.port),(4,(i:Int)))) g.ins
def rV(g:c8):List BC:=(fL g.be.length).zipWith (λ(i:Nat) x=>((x.src,x.sp),(6,(i:Int)))) g.be++(fL g.outs.length).zipWith (λ(i:Nat) x=>((x.act,x.port),(7,(i:Int)))) g.outs
theorem RB:∀l k q,(p6 l k q).1=q0 q.1 ((LY k l.length).zipWith (λ(i:Nat) x=>((x.dst,x.iM),(3,i))) l)/\(p6 l k q).2=q0 q.2 ((LY k l.length).zipWith (λ(i:Nat) x=>((x.src,x.sp),(6,i))) l)
 |[],_,_=>⟨rfl,rfl⟩
 |x::l,k,q=>by
  obtain⟨h1,ae⟩:=RB l (k+1) (mark q.1 x.dst.toNat x.iM.toNat 3 k,mark q.2 x.src.toNat x.sp.toNat 6 k);rw[p6,iv,Qr];exact⟨h1,ae⟩
theorem VB da:∀l k q,pQ da l k q=q0 q ((LY k l.length).zipWith (λ(i:Nat) x=>((x.act,x.port),(da,i))) l)
 |[],_,_=>rfl
 |x::l,k,q=>by
  rw[pQ,iv,Qr];exact VB da l (k+1) _
theorem apY g:Cd g=q0 (g.a8.map qU) (pJ g):=by
 unfold Cd pJ;rw[VB,(RB _ _ _).1,In,In,q0,q0,q0,XT]
theorem apZ g:Ce g=q0 (g.a8.map q3) (rV g):=by
 unfold Ce rV;rw[VB,(RB _ _ _).2,In,In,q0,q0,q0,XT]
theorem PW(f:Nat->α->BC) s(h:∀i x,(f i x).1=s x) l:((fL l.length).zipWith f l).map gQ=l.map s:=by
 apply um bd;intro i h1 ae;simp[h]
theorem C'(f:Nat->α->BC) l m:m∈(fL l.length).zipWith f l↔∃i x,l[i]?=some x/\m=f i x:=by
 constructor;intro h;obtain⟨i,a,e⟩:=oe h;have ak:i<l.length:=by simp at a;exact a
 exact⟨i,l[i],bZ ak,by rw[<-e];simp⟩;rintro⟨i,x,h,rfl⟩;obtain⟨a,rfl⟩:=pZ.1 h;refine ak'.2 ⟨i,by simpa using a,bd⟩
theorem adx g:(pJ g).map gQ=NL g:=by
 unfold pJ NL;rw[fF,PW _ (λx:GE=>(x.dst,x.iM)) λ_ _=>rfl,PW _ (λx:l5=>(x.act,x.port)) λ_ _=>rfl]
theorem agG g:(rV g).map gQ=OR g:=by
 unfold rV OR;rw[fF,PW _ (λx:GE=>(x.src,x.sp)) λ_ _=>rfl,PW _ (λx:l5=>(x.act,x.port)) λ_ _=>rfl]
theorem YV f(l:List iC) v p:uu (l.map λa=>(f a).map λr=>(⟨0,0,r⟩:cr)) v p=(((l[v]?).map f).getD [])[p]?.map λr=>⟨0,0,r⟩:=by
 unfold uu;rw[cx,dH];cases l[v]?with
 |none=>simp
 |some a=>simp
theorem RZ(e:iG g=0)(d:v<g.a8.length):∃eF ha,p4 (pJ g) v (ki g v) ((Cd g).getD v []) eF/\p4 (rV g) v (lW g v) ((Ce g).getD v []) ha:=by
 obtain⟨s1,s2⟩:=aq3 e;have c:=yB e;have k:∀m∈pJ g,0<=m.1.1/\0<=m.1.2:=λm hm=>by
  have:m.1∈NL g:=by rw[<-adx];exact cU.2 ⟨m,hm,rfl⟩
  rcases ej.1 this with q|q<;>obtain⟨x,b,q⟩:=cU.1 q<;>rw[<-q];have:=c.qI x b;exact⟨this.2.1.1,this.2.1.2.2.1⟩;have:=c.NN x b;exact⟨this.1,this.2.2.1⟩
 have j:∀m∈rV g,0<=m.1.1/\0<=m.1.2:=λm hm=>by
  have:m.1∈OR g:=by rw[<-agG];exact cU.2 ⟨m,hm,rfl⟩
  rcases ej.1 this with q|q<;>obtain⟨x,b,q⟩:=cU.1 q<;>rw[<-q];have:=c.qI x b;exact⟨this.1.1,this.1.2.2.1⟩;have:=c.OS x b;exact⟨this.1,this.2.2.1⟩
 rw[apY,apZ];rw[<-adx]at s1;rw[<-agG]at s2;have i:=bZ d;obtain⟨eF,f⟩:=afq k s1 d (rs:=ki g v) rfl (ar:=g.a8.map qU) (λp=>by
  rw[show qU=λa=>((b3 a.tag a.a6).2.1).map λr=>(⟨0,0,r⟩:cr)from rfl,YV];simp[ki,i])
 obtain⟨ha,h⟩:=afq j s2 d (rs:=lW g v) rfl (ar:=g.a8.map q3) (λp=>by
  rw[show q3=λa=>((b3 a.tag a.a6).2.2).map λr=>(⟨0,0,r⟩:cr)from rfl,YV];simp[lW,i])
 exact⟨eF,ha,f,h⟩
structure iE where
 l:List Int
 k:Nat
variable {t:iE}
structure uh(mem:List Int)(x:kp)(t:iE):Prop where
 k:t.k<=t.l.length
 bj:x.bj=(t.l.length:Int)-t.k
 fit:x.bj<=x.size
 base:0<=x.base
 top:x.base+x.size<=mem.length
 at_:0<=x.at_
 eq:∀o:Nat,(o:Int)<x.bj->mem.getD (x.base+(x.at_+o)%x.size).toNat 0=t.l.getD (t.k+o) 0
theorem afB{s z:Int}{i o:Nat}(h:i<o)(a:o-i<z):(s+i)%z≠(s+o)%z:=λe=>by
 have h1:=Int.emod_eq_emod_iff_emod_sub_eq_zero.1 e.symm;rw[show s+(o:Int)- (s+i)=(o:Int)-i by omega,akC I a]at h1;omega
theorem CH{s z:Int}(h:0<z):0<=s%z/\s%z<z:=⟨Int.emod_nonneg _ I,Int.emod_lt_of_pos _ h⟩
theorem uh.take{mem:List Int}{x:kp}{t:iE}(b:uh mem x t){n:Nat}(c:n<=x.bj):ub mem x.base x.size x.at_ n=(t.l.drop t.k).take n/\uh mem ⟨x.base,x.size,(x.at_+n)%x.size,x.bj-n⟩ ⟨t.l,t.k+n⟩:=by
 have hk:=b.k;have ay:=b.bj;refine⟨?_,⟨by show t.k+n<=t.l.length;omega,by show x.bj-n=(t.l.length:Int)- (t.k+n:Nat);omega,by have:=b.fit;show x.bj-n<=x.size;omega,b.base,b.top,?_,λo a=>?_⟩⟩;apply um;rw[HT,ni,mF];omega;intro o h1 ae;rw[HT]at h1;have:=b.eq o I;simp only[ub,lb,Dn,List.getElem_range,List.getElem_take,List.getElem_drop];rw[this,cx,bZ I,ps];show 0<=(x.at_+n)%x.size;rcases XM 0 x.size with q|q;exact(CH q).1;have:x.size=0:=by have:=b.fit;omega
 rw[this,Int.emod_zero];have:=b.at_;omega;have d:(o:Int)<x.bj-n:=a;have:=b.eq (n+o) I;show mem.getD (x.base+((x.at_+n)%x.size+o)%x.size).toNat 0=t.l.getD (t.k+n+o) 0;rw[Int.emod_add_emod,XK,<-LP,this,Nat.add_assoc]
theorem N5:∀cs mem dX c,(∀x∈cs,x.toNat≠c)->(nx mem cs dX).getD c 0=mem.getD c 0
 |[],mem,_,_,_=>by rw[nx];simp
 |_::_,mem,[],_,_=>by rw[nx];simp
 |x::cs,mem,t::dX,c,h=>by
  rw[nx,N5 cs _ dX c λy a=>h y (gX _ a)];have:=h x (hU ..);simp[cx,s8,this]
theorem aeL:∀cs mem dX(i:Nat) c t,(cs.map x6).Nodup->cs[i]?=some c->dX[i]?=some t->c.toNat<mem.length->(nx mem cs dX).getD c.toNat 0=t
 |[],_,_,_,_,_,_,h,_,_=>by cases h
 |_::_,_,[],_,_,_,_,_,h,_=>by cases h
 |x::cs,mem,y::dX,0,c,t,a,ay,b,hm=>by
  rw[ec,iV]at a;injection ay with ay;injection b with b;subst ay b;rw[nx,N5 cs _ dX _ λz d e=>a.1 (cU.2 ⟨z,d,e⟩)];simp[cx,hm]
 |x::cs,mem,y::dX,i+1,c,t,a,ay,b,hm=>by
  rw[ec,iV]at a;rw[nx];exact aeL cs _ dX i c t a.2 ay b (by rw[h2];exact hm)
theorem an6{s:Int}(g:0<=base)(f:n<=size):((lb base size s n).map x6).Nodup:=by
 rw[lb,iD,X0,List.pairwise_map];refine aGF ?_ (List.pairwise_lt_range);intro i o c b d e;rw[uo]at c b;have a:0<size:=I;have h1:=CH (s:=s+i) a;have ae:=CH (s:=s+o) a;have:=afB (s:=s) d (by omega:(o:Int)-i<size);simp only[Function.comp]at e;omega
theorem an5{s c:Int}(a:0<size)(h:c∈lb base size s n):base<=c/\c<base+size:=by
 obtain⟨k,_,rfl⟩:=cU.1 h;have:=CH (s:=s+k) a;omega
theorem uh.fH{x:kp}(b:uh mem x t)(j:x.bj+xs.length<=x.size):uh (nx mem (lb x.base x.size (x.at_+x.bj) xs.length) xs) ⟨x.base,x.size,x.at_,x.bj+xs.length⟩ ⟨t.l++xs,t.k⟩:=by
 have hk:=b.k;have ay:=b.bj;have h:=b.base;have p:=b.top;refine⟨by show t.k<=(t.l++xs).length;rw[fc];omega,by show x.bj+xs.length=((t.l++xs).length:Int)-t.k;rw[fc];omega,j,h,by rw[Kk];exact p,b.at_,λo g=>?_⟩;have g:(o:Int)<x.bj+xs.length:=g;have a:0<x.size:=I;show(nx mem _ xs).getD (x.base+(x.at_+o)%x.size).toNat 0=(t.l++xs).getD (t.k+o) 0;rcases XM o x.bj with q|q;rw[N5,b.eq o q,cx,cx,FN I];intro c r e;obtain⟨k,d,rfl⟩:=cU.1 r;rw[uo]at d;obtain⟨m,hm⟩:∃m:Nat,x.bj=m:=⟨x.bj.toNat,I⟩;have h1:=CH (s:=x.at_+o) a;have ae:=CH (s:=x.at_+x.bj+k) a;have n:=afB (s:=x.at_) (z:=x.size) (i:=o) (o:=m+k) I I;rw[LP,<-XK,<-hm]at n;omega;obtain⟨k,d⟩:∃k:Nat,(o:Int)=x.bj+k:=⟨(o-x.bj).toNat,I⟩;have f:k<xs.length:=I;have h1:=CH (s:=x.at_+x.bj+k) a;rw[d,<-XK,aeL _ _ xs k _ xs[k] (an6 h I) (Rh f) (bZ f) I];rw[cx,show t.k+o=t.l.length+k by omega,FO I,Dq,bZ f];rfl
theorem uh.other{y:kp}(b:uh mem y t){s:Int} xs(g:0<=base)(d:n<=size)(h:y.bj=0\/n=0\/y.base+y.size<=base\/base+size<=y.base):uh (nx mem (lb base size s n) xs) y t:=by
 refine⟨b.k,b.bj,b.fit,b.base,by rw[Kk];exact b.top,b.at_,λo a=>?_⟩;rw[N5,b.eq o a];intro c ay e;have f:0<n:=by
  rcases Nat.eq_zero_or_pos n with q|q;rw[q]at ay;cases ay;exact q
 have h1:=an5 I ay;have ae:=CH (s:=y.at_+o) (z:=y.size) (by have:=b.fit;omega);have:=b.base;omega
structure fx where
 fm:List iE
 ins:List iE
 outs:List (List Int)
 dB:List gy
variable {a s:fx}
def fP:iE:=⟨[],0⟩
def iE.yl(t:iE)(n:Nat):iE:=⟨t.l,t.k+n⟩
def iE.cut(t:iE)(n:Nat):List Int:=(t.l.drop t.k).take n
structure Inv(g:c8)(bc:List c9)(c:e1)(s:fx):Prop where
 gL:c.lines.length=g.be.length
 le:s.fm.length=g.be.length
 buf:∀i,i<g.be.length->uh c.mem (c.lines.getD i je) (s.fm.getD i fP)
 cd:∀i,i<g.be.length->(c.lines.getD i je).base=(bc.getD i (0,0)).1/\(c.lines.getD i je).size=(bc.getD i (0,0)).2
 kv:c.cL.length=g.ins.length
 oB:s.ins.length=g.ins.length
 cL:∀i,i<g.ins.length->c.cL.getD i []=(s.ins.getD i fP).l.drop (s.ins.getD i fP).k/\(s.ins.getD i fP).k<=(s.ins.getD i fP).l.length
 wr:c.wr=s.outs
 ol:c.wr.length=g.outs.length
 kt:c.fy=s.dB
abbrev fj:=Nat×Int
variable {L:List (fj×Nat)}{eF ha:List fj}{fg q:fj}
def tape(s:fx)(q:fj):iE:=if q.1=3 then s.fm.getD q.2.toNat fP else s.ins.getD q.2.toNat fP
def jp(s:fx)(q:fj)(n:Nat):fx:=if q.1=3 then{s with fm:=s.fm.set q.2.toNat ((tape s q).yl n)}else{s with ins:=s.ins.set q.2.toNat ((tape s q).yl n)}
def short(s:fx)(q:fj)(n:Nat):Prop:=(tape s q).l.length<(tape s q).k+n
instance (s:fx)(q:fj)(n:Nat):Decidable (short s q n):=inferInstanceAs (Decidable (_<_))
def n3(g:c8)(q:fj):Prop:=(q.1=3/\0<=q.2/\q.2<g.be.length)\/(q.1=4/\0<=q.2/\q.2<g.ins.length)
theorem nr(l:List α) a i x d:(l.set a x).getD i d=if a=i/\a<l.length then x else l.getD i d:=by
 simp only[cx,s8];split;rename_i h;subst h;by_cases ae:a<l.length;simp[ae];simp[ae];rename_i h;simp[h]
theorem Py(h:n3 g q)(j:n3 g fg)(ne:q≠fg):tape (jp s q n) fg=tape s fg:=by
 obtain⟨a,b⟩:=q;obtain⟨f,i⟩:=fg;unfold tape jp;dsimp only[n3]at h j⊢;by_cases d:a=3;subst d;by_cases c:f=3;subst c;have:b≠i:=λe=>ne (by rw[e]);simp only[lY,nr];rw[aD I];simp[c];by_cases c:f=3;simp[d,c];have:b≠i:=λe=>ne (by rw[e,show a=4 by omega,show f=4 by omega]);simp only[aD d,aD c,nr];rw[aD I]
theorem anv x a b:cP x ⟨3,a,b⟩=if(x.lines.getD a.toNat je).bj<b.toNat\/64<x.hand.length+b.toNat then(x,4)else(ua x a.toNat (x.lines.getD a.toNat je) b.toNat,0):=rfl
theorem YP x a b:cP x ⟨4,a,b⟩=if 64<x.hand.length+b.toNat then(x,4)else if(x.cL.getD a.toNat []).length<b.toNat then(x,2)else(zh x a.toNat b.toNat,0):=rfl
theorem anw(x:e1)(a b:Int):cP x ⟨5,a,b⟩=if(x.hand.length:Int)=x.hP.getD a.toNat 0 then
 match nQ (x.fy.getD a.toNat g5) (jO x.hand (x.fy.getD a.toNat g5).ins)with
 |(some outs,b)=>(uy x a.toNat b outs,0)
 |(none,b)=>({x with fy:=x.fy.set a.toNat b},3)
 else(x,4):=rfl
theorem anx x a b:cP x ⟨6,a,b⟩=if x.hand.length<b.toNat\/(x.lines.getD a.toNat je).size<(x.lines.getD a.toNat je).bj+b.toNat then(x,4)else(vV x a.toNat (x.lines.getD a.toNat je) b.toNat,0):=rfl
theorem anz x a b:cP x ⟨7,a,b⟩=if x.hand.length<b.toNat then(x,4)else(zt x a.toNat b.toNat,0):=rfl
theorem take_one(i:Inv g bc c s)(ok:n3 g q)(u:c.hand.length+n<=64)(ay:q.1=3->¬short s q n):
 if short s q n then cP c ⟨q.1,q.2,n⟩=(c,2)else(cP c ⟨q.1,q.2,n⟩).2=0/\Inv g bc (cP c ⟨q.1,q.2,n⟩).1 (jp s q n)/\(cP c ⟨q.1,q.2,n⟩).1.hand=c.hand++(tape s q).cut n/\(cP c ⟨q.1,q.2,n⟩).1.hP=c.hP:=by
 obtain⟨a,b⟩:=q
 rcases ok with⟨m,t,p⟩|⟨j,t,p⟩
 have m:a=3:=m
 subst m
 rw[aD (ay rfl)]
 have ay:=ay rfl
 have d:b.toNat<g.be.length:=by have:b<g.be.length:=p;omega
 have cc:=i.buf b.toNat d
 have r:(n:Int)<=(c.lines.getD b.toNat je).bj:=by
  rw[cc.bj];have:tape s (3,b)=s.fm.getD b.toNat fP:=rfl;unfold short at ay;rw[this]at ay;omega
 have e:cP c ⟨3,b,(n:Int)⟩=(ua c b.toNat (c.lines.getD b.toNat je) n,0):=by
  rw[anv,bz,aD I]
 obtain⟨t1,t2⟩:=cc.take r
 rw[e]
 refine⟨rfl,⟨by show(c.lines.set _ _).length=_;rw[h2];exact i.gL,by show(s.fm.set _ _).length=_;rw[h2];exact i.le,λo f=>?_,λo f=>?_,i.kv,i.oB,i.cL,i.wr,i.ol,i.kt⟩,by show c.hand++_=_;rw[t1];rfl,rfl⟩
 show uh c.mem ((c.lines.set _ _).getD o je) ((s.fm.set _ _).getD o fP)
 rw[nr,nr,i.gL,i.le]
 by_cases q:b.toNat=o
 rw[aP ⟨q,d⟩,aP ⟨q,d⟩];exact t2
 rw[aD (λx=>q x.1),aD (λx=>q x.1)];exact i.buf o f
 show((c.lines.set _ _).getD o je).base=_/\((c.lines.set _ _).getD o je).size=_
 rw[nr,i.gL]
 by_cases q:b.toNat=o
 rw[aP ⟨q,d⟩,<-q];exact i.cd _ d
 rw[aD (λx=>q x.1)];exact i.cd o f
 have j:a=4:=j
 subst j
 have d:b.toNat<g.ins.length:=by have:b<g.ins.length:=p;omega
 obtain⟨f1,f2⟩:=i.cL b.toNat d
 have h:tape s (4,b)=s.ins.getD b.toNat fP:=rfl
 have v:(c.cL.getD b.toNat []).length=(s.ins.getD b.toNat fP).l.length- (s.ins.getD b.toNat fP).k:=by rw[f1,mF]
 by_cases ao:short s (4,b) n
 rw[aP ao]
 unfold short at ao
 rw[h]at ao
 show cP c ⟨4,b,(n:Int)⟩=(c,2)
 rw[YP,bz,aD I,aP I]
 rw[aD ao]
 unfold short at ao
 rw[h]at ao
 have e:cP c ⟨4,b,(n:Int)⟩=(zh c b.toNat n,0):=by
  rw[YP,bz,aD I,aD I]
 rw[e]
 refine⟨rfl,⟨i.gL,i.le,i.buf,i.cd,by show(c.cL.set _ _).length=_;rw[h2];exact i.kv,by show(s.ins.set _ _).length=_;rw[h2];exact i.oB,λo f=>?_,i.wr,i.ol,i.kt⟩,by show c.hand++_=_;rw[f1,h];rfl,rfl⟩
 show(c.cL.set _ _).getD o []=((s.ins.set _ _).getD o fP).l.drop ((s.ins.set _ _).getD o fP).k/\((s.ins.set _ _).getD o fP).k<=((s.ins.set _ _).getD o fP).l.length
 rw[nr,nr,i.kv,i.oB]
 by_cases q:b.toNat=o
 rw[aP ⟨q,d⟩,aP ⟨q,d⟩,f1,h]
 exact⟨List.drop_drop,by show(s.ins.getD b.toNat fP).k+n<=(s.ins.getD b.toNat fP).l.length;omega⟩
 rw[aD (λx=>q x.1),aD (λx=>q x.1)];exact i.cL o f
def hQ:List (fj×Nat)->fx->fx
 |[],s=>s
 |x::L,s=>hQ L (jp s x.1 x.2)
def sO(L:List (fj×Nat)):List cr:=L.map λx=>⟨x.1.1,x.1.2,(x.2:Int)⟩
def Fr(L:List (fj×Nat)):Nat:=(L.map er).sum
open Classical in
theorem aiN{g:c8}{bc:List c9}:∀(L:List (fj×Nat))(c:e1)(s:fx),Inv g bc c s->(∀x∈L,n3 g x.1)->(L.map gQ).Nodup->c.hand.length+Fr L<=64->(∀x∈L,x.1.1=3->¬short s x.1 x.2)->
 if∃x∈L,short s x.1 x.2 then(fI (sO L) c).2=2/\(fI (sO L) c).1.wr=c.wr else(fI (sO L) c).2=0/\Inv g bc (fI (sO L) c).1 (hQ L s)/\(fI (sO L) c).1.hand=c.hand++(L.map λx=>(tape s x.1).cut x.2).flatten/\(fI (sO L) c).1.hP=c.hP
 |[],c,s,i,_,_,_,_=>by
  rw[aD (by rintro⟨x,d,_⟩;cases d)];exact⟨rfl,i,by show c.hand=c.hand++[];rw[s7],rfl⟩
 |x::L,c,s,i,ok,j,u,ay=>by
  rw[ec,iV]at j;have t:Fr (x::L)=x.2+Fr L:=by simp[Fr]
  have one:=take_one i (ok x (hU ..)) (n:=x.2) I (ay x (hU ..));by_cases ao:short s x.1 x.2;rw[aP ao]at one;rw[aP ⟨x,hU ..,ao⟩];show(fI (_::sO L) c).2=2/\(fI (_::sO L) c).1.wr=c.wr;rw[fI,one,aD (show¬((2:Nat)=0) by decide)];exact⟨rfl,rfl⟩;rw[aD ao]at one;obtain⟨q,l,m,r⟩:=one;have k:∀y∈L,tape (jp s x.1 x.2) y.1=tape s y.1:=λy a=>Py (ok x (hU ..)) (ok y (gX _ a)) λe=>j.1 (cU.2 ⟨y,a,e.symm⟩);have f:∀y∈L,short (jp s x.1 x.2) y.1 y.2↔short s y.1 y.2:=λy a=>by unfold short;rw[k y a]
  have o:((tape s x.1).cut x.2).length<=x.2:=by unfold iE.cut;rw[ni];omega
  have b:=aiN L _ _ l (λy a=>ok y (gX _ a)) j.2 (by rw[m,fc];omega) (λy a p=>by rw[f y a];exact ay y (gX _ a) p);have row:fI (sO (x::L)) c=fI (sO L) (cP c ⟨x.1.1,x.1.2,(x.2:Int)⟩).1:=by
   show fI (_::sO L) c=_;rw[fI,aP q]
  have ex:(∃y∈x::L,short s y.1 y.2)↔∃y∈L,short (jp s x.1 x.2) y.1 y.2:=by
   constructor;rintro⟨y,a,h⟩;rcases ek.1 a with rfl|a;exact absurd h ao;exact⟨y,a,(f y a).2 h⟩;rintro⟨y,a,h⟩;exact⟨y,gX _ a,(f y a).1 h⟩
  rw[row];by_cases d:∃y∈L,short (jp s x.1 x.2) y.1 y.2;rw[aP (ex.2 d)];rw[aP d]at b;exact⟨b.1,b.2.trans (l.wr.trans (by rw[i.wr];unfold jp;split<;>rfl))⟩;rw[aD λh=>d (ex.1 h)];rw[aD d]at b;refine⟨b.1,b.2.1,?_,b.2.2.2.trans r⟩;rw[b.2.2.1,m,kC,ec,oR];congr 3;exact mG λy a=>by rw[k y a]
def iE.put(t:iE)(xs:List Int):iE:=⟨t.l++xs,t.k⟩
def iE.bj(t:iE):Int:=(t.l.length:Int)-t.k
def ns(s:fx)(q:fj)(xs:List Int):fx:=if q.1=6 then{s with fm:=s.fm.set q.2.toNat ((s.fm.getD q.2.toNat fP).put xs)}else{s with outs:=s.outs.set q.2.toNat (s.outs.getD q.2.toNat []++xs)}
def okO(g:c8)(q:fj):Prop:=(q.1=6/\0<=q.2/\q.2<g.be.length)\/(q.1=7/\0<=q.2/\q.2<g.outs.length)
def FB(bc:List c9)(i o:Nat):Prop:=(bc.getD i (0,0)).1+(bc.getD i (0,0)).2<=(bc.getD o (0,0)).1\/(bc.getD o (0,0)).1+(bc.getD o (0,0)).2<=(bc.getD i (0,0)).1
theorem aqZ(i:Inv g bc c s)(ok:okO g q){d:List Int}(n:c.hand=xs++d)(A:q.1=6->(s.fm.getD q.2.toNat fP).bj+xs.length<=(bc.getD q.2.toNat (0,0)).2/\(xs≠[]->∀o,o<g.be.length->o≠q.2.toNat->0<(s.fm.getD o fP).bj->FB bc q.2.toNat o)):(cP c ⟨q.1,q.2,(xs.length:Int)⟩).2=0/\Inv g bc (cP c ⟨q.1,q.2,(xs.length:Int)⟩).1 (ns s q xs)/\(cP c ⟨q.1,q.2,(xs.length:Int)⟩).1.hand=d/\(cP c ⟨q.1,q.2,(xs.length:Int)⟩).1.hP=c.hP:=by
 obtain⟨a,b⟩:=q;have ak:c.hand.length=xs.length+d.length:=by rw[n,fc]
 have t:c.hand.take xs.length=xs:=by rw[n,BA]
 have r:c.hand.drop xs.length=d:=by rw[n,akN]
 rcases ok with⟨m,C,w⟩|⟨l,C,w⟩;have m:a=6:=m;subst m;obtain⟨g1,g2⟩:=A rfl;have f:b.toNat<g.be.length:=by have:b<g.be.length:=w;omega
 have cc:=i.buf b.toNat f;obtain⟨B,v⟩:=i.cd b.toNat f;have ay:(s.fm.getD b.toNat fP).bj=(c.lines.getD b.toNat je).bj:=cc.bj.symm;have g1:(s.fm.getD b.toNat fP).bj+xs.length<=(bc.getD b.toNat (0,0)).2:=g1;rw[ay,<-v]at g1;have e:cP c ⟨6,b,(xs.length:Int)⟩=(vV c b.toNat (c.lines.getD b.toNat je) xs.length,0):=by
  rw[anx,bz,aD I]
 show(cP c ⟨6,b,(xs.length:Int)⟩).2=0/\Inv g bc (cP c ⟨6,b,(xs.length:Int)⟩).1 _/\(cP c ⟨6,b,(xs.length:Int)⟩).1.hand=d/\(cP c ⟨6,b,(xs.length:Int)⟩).1.hP=c.hP;rw[e];refine⟨rfl,⟨by show(c.lines.set _ _).length=_;rw[h2];exact i.gL,by show(s.fm.set _ _).length=_;rw[h2];exact i.le,λo h=>?_,λo h=>?_,i.kv,i.oB,i.cL,i.wr,i.ol,i.kt⟩,r,rfl⟩;show uh (nx c.mem _ (c.hand.take xs.length)) ((c.lines.set _ _).getD o je) ((s.fm.set _ _).getD o fP);rw[t,nr,nr,i.gL,i.le];by_cases q:b.toNat=o;rw[aP ⟨q,f⟩,aP ⟨q,f⟩];exact cc.fH g1;rw[aD (λx=>q x.1),aD (λx=>q x.1)];have j:=i.buf o h;have p:=i.cd o h;have:=cc.bj;have:=cc.k;refine j.other xs cc.base I ?_;have al:0<=(c.lines.getD o je).bj:=by rw[j.bj];have:=j.k;omega
 rcases XM 0 (c.lines.getD o je).bj with y|y;right;by_cases u:xs=[];left;rw[u];rfl;right;have:=g2 u o h (d' q) (by have:(s.fm.getD o fP).bj=(c.lines.getD o je).bj:=j.bj.symm;omega);unfold FB at this;have z:((6,b):fj).2.toNat=b.toNat:=rfl;rw[z]at this;rw[B,v,p.1,p.2];omega;left;omega;show((c.lines.set _ _).getD o je).base=_/\((c.lines.set _ _).getD o je).size=_;rw[nr,i.gL];by_cases q:b.toNat=o;rw[aP ⟨q,f⟩,<-q];exact i.cd _ f;rw[aD (λx=>q x.1)];exact i.cd o h;have l:a=7:=l;subst l;have e:cP c ⟨7,b,(xs.length:Int)⟩=(zt c b.toNat xs.length,0):=by
  rw[anz,bz,aD I]
 show(cP c ⟨7,b,(xs.length:Int)⟩).2=0/\Inv g bc (cP c ⟨7,b,(xs.length:Int)⟩).1 _/\(cP c ⟨7,b,(xs.length:Int)⟩).1.hand=d/\(cP c ⟨7,b,(xs.length:Int)⟩).1.hP=c.hP;rw[e];refine⟨rfl,⟨i.gL,i.le,i.buf,i.cd,i.kv,i.oB,i.cL,?_,by show(c.wr.set _ _).length=_;rw[h2];exact i.ol,i.kt⟩,r,rfl⟩;show c.wr.set b.toNat (c.wr.getD b.toNat []++c.hand.take xs.length)=s.outs.set b.toNat (s.outs.getD b.toNat []++xs);rw[t,i.wr]
def js:List (fj×List Int)->fx->fx
 |[],s=>s
 |x::L,s=>js L (ns s x.1 x.2)
def CM(L:List (fj×List Int)):List cr:=L.map λx=>⟨x.1.1,x.1.2,(x.2.length:Int)⟩
theorem Rz(ok:okO g q)(ak:s.fm.length=g.be.length) o:(ns s q xs).fm.getD o fP=if q=(6,(o:Int))then(s.fm.getD o fP).put xs else s.fm.getD o fP:=by
 obtain⟨a,b⟩:=q;unfold ns;rcases ok with⟨f,c,h⟩|⟨d,c,h⟩;have f:a=6:=f;have c:0<=b:=c;have h:b<g.be.length:=h;subst f;show(s.fm.set b.toNat _).getD o fP=_;rw[nr];by_cases q:b.toNat=o;subst q;rw[aP ⟨rfl,I⟩,aP (by rw[pr c])];rw[aD λx=>q x.1,aD λe=>q (by have:=(r7 e).2;omega)];have d:a=7:=d;subst d;rw[aD bd];rfl
theorem abB{g:c8}{bc:List c9}:∀L c s a,Inv g bc c s->(∀x∈L,okO g x.1)->(L.map gQ).Nodup->c.hand=(L.map er).flatten++a->(∀x∈L,x.1.1=6->(s.fm.getD x.1.2.toNat fP).bj+x.2.length<=(bc.getD x.1.2.toNat (0,0)).2/\(x.2≠[]->∀o,o<g.be.length->o≠x.1.2.toNat->(0<(s.fm.getD o fP).bj\/∃aO,aO≠[]/\((6,(o:Int)),aO)∈L)->FB bc x.1.2.toNat o))->(fI (CM L) c).2=0/\Inv g bc (fI (CM L) c).1 (js L s)/\(fI (CM L) c).1.hand=a/\(fI (CM L) c).1.hP=c.hP
 |[],c,s,a,i,_,_,f,_=>⟨rfl,i,show c.hand=a by simpa using f,rfl⟩
 |x::L,c,s,a,i,ok,p,f,r=>by
  rw[ec,iV]at p;have j:=ok x (hU ..);rw[ec,oR,kC]at f;obtain⟨A,v,B,D⟩:=aqZ i j f λh=>⟨(r x (hU ..) h).1,λt o n k hp=>(r x (hU ..) h).2 t o n k (bW hp)⟩;have row:fI (CM (x::L)) c=fI (CM L) (cP c ⟨x.1.1,x.1.2,(x.2.length:Int)⟩).1:=by
   show fI (_::CM L) c=_;rw[fI,aP A]
  have d:=abB L _ _ a v (λy b=>ok y (gX _ b)) p.2 B (λy b h=>by
   obtain⟨w,z⟩:=r y (gX _ b) h;have l:=ok y (gX _ b);have ne:∀o:Nat,y.1=(6,(o:Int))->x.1≠(6,(o:Int)):=λo e u=>p.1 (cU.2 ⟨y,b,by rw[e,u]⟩);have m:y.1=(6,(y.1.2.toNat:Int)):=by
    have:0<=y.1.2:=by rcases l with q|q<;>exact q.2.1
    exact L8 h (pr this).symm
   refine⟨by rw[Rz j i.le,aD (ne _ m)];exact w,λC o n k hp=>z C o n k ?_⟩;rcases hp with hp|⟨aO,h1,ae⟩;rw[Rz j i.le]at hp;split at hp;rename_i e;rcases aGz (x.2=[])with q|q;left;rw[q]at hp;simpa[iE.bj,iE.put]using hp;right;exact⟨x.2,q,by rw[<-e];exact hU ..⟩;exact bW hp;exact bl ⟨aO,h1,gX _ ae⟩)
  rw[row];exact⟨d.1,d.2.1,d.2.2.1,d.2.2.2.trans D⟩
theorem ahv:∀l m x,fI (l++m) x=if(fI l x).2=0 then fI m (fI l x).1 else fI l x
 |[],m,x=>rfl
 |U::l,m,x=>by
  rw[wP,fI,fI];by_cases h:(cP x U).2=0;rw[aP h,aP h];exact ahv l m _;rw[aD h,aD h,aD h]
theorem Rs:∀rows ins,rows.map (λl=>(l.length:Int))=ins->jO rows.flatten ins=rows
 |[],ins,h=>by subst h;rfl
 |r::rows,ins,h=>by
  subst h;rw[ec,jO,oR,bz,BA,akN,Rs rows _ rfl]
theorem Wx:∀(rows:List (List Int)),(rows.flatten.length:Int)=g9 (rows.map λl=>(l.length:Int))
 |[]=>rfl
 |r::rows=>by rw[oR,fc,ec,C2,<-Wx rows];omega
noncomputable def sm(s:fx)(v:Nat)(L:List (fj×Nat))(ha:List fj):fx×Nat:=open Classical in
 if∃x∈L,short s x.1 x.2 then(s,2)else
  match nQ (s.dB.getD v g5) (L.map λx=>(tape s x.1).cut x.2)with
  |(none,_)=>(s,3)
  |(some jb,b)=>(js (ha.zip jb) {hQ L s with dB:=s.dB.set v b},0)
theorem Px:∀L s,(hQ L s).dB=s.dB/\(hQ L s).outs=s.outs
 |[],_=>⟨rfl,rfl⟩
 |x::L,s=>by
  obtain⟨h1,ae⟩:=Px L (jp s x.1 x.2);rw[hQ,h1,ae];unfold jp;split<;>exact⟨rfl,rfl⟩
theorem Jm:∀L s,(js L s).dB=s.dB/\(js L s).ins=s.ins
 |[],_=>⟨rfl,rfl⟩
 |x::L,s=>by
  obtain⟨h1,ae⟩:=Jm L (ns s x.1 x.2);rw[js,h1,ae];unfold ns;split<;>exact⟨rfl,rfl⟩
theorem aqi(i:Inv g bc c s)(H:c.hand=[])(an:v<s.dB.length)(bv:k3 (C+1) (s.dB.getD v g5))(W:c.hP.getD v 0=g9 (s.dB.getD v g5).ins)(B:∀x∈L,n3 g x.1)(D:(L.map gQ).Nodup)(t:L.map (λx=>(x.2:Int))=(s.dB.getD v g5).ins)(G:∀x∈L,x.1.1=3->¬short s x.1 x.2)(k:∀x∈ha,okO g x)(z:ha.Nodup)(Z:ha.length=(s.dB.getD v g5).outs.length)(K:∀y∈ha.zip (s.dB.getD v g5).outs,y.1.1=6->((hQ L s).fm.getD y.1.2.toNat fP).bj+y.2<=(bc.getD y.1.2.toNat (0,0)).2/\∀o,o<g.be.length->o≠y.1.2.toNat->(0<((hQ L s).fm.getD o fP).bj\/(6,(o:Int))∈ha)->FB bc y.1.2.toNat o)(E:ops=sO L++[⟨5,v,0⟩]++(ha.zip (s.dB.getD v g5).outs).map λy=>⟨y.1.1,y.1.2,y.2⟩):(fI ops c).2=(sm s v L ha).2/\((fI ops c).2≠0->(fI ops c).1.wr=(sm s v L ha).1.outs)/\((fI ops c).2=0->Inv g bc (fI ops c).1 (sm s v L ha).1/\(fI ops c).1.hand=[]/\(fI ops c).1.hP=c.hP/\∃b,k3 C b/\b.ins=(s.dB.getD v g5).ins/\b.outs=(s.dB.getD v g5).outs/\(sm s v L ha).1.dB=s.dB.set v b):=by
 have JY:(Fr L:Int)=g9 (s.dB.getD v g5).ins:=by
  rw[<-t];clear t G D B K E;induction L with
  |nil=>rfl
  |cons x L Y=>rw[ec,C2,<-Y];unfold Fr;rw[ec,List.sum_cons];omega
 have zi:=bv.zi;have R:g9 (s.dB.getD v g5).ins<=64:=by
  rcases bv.inv with⟨_,_,_,h1,ae⟩|⟨_,h1,ae⟩|⟨_,n,_,_,h1,ae⟩|⟨_,n,_,_,h1,ae⟩|⟨_,n,m,_,_,_,h,h1,ae⟩|⟨_,n,m,_,_,_,h,h1,ae⟩|⟨_,n,_,_,h1,ae⟩|⟨_,h1,ae⟩|⟨_,n,_,_,h1,ae⟩|⟨_,_,h1,ae⟩|⟨_,n,_,_,h1,ae⟩<;>rw[h1]<;>simp[C2,aiy,show g9 []=0 from rfl];all_goals first|omega|exact_mod_cast h
 have d:=aiN L c s i B D (by rw[H];show 0+Fr L<=64;omega) G;subst E;rw[kC,ahv];unfold sm;by_cases ao:∃x∈L,short s x.1 x.2;rw[aP ao]at d;rw[aP ao,aD (by rw[d.1];decide)];exact⟨d.1,λ_=>by rw[d.2,i.wr],λh=>by rw[d.1]at h;cases h⟩;rw[aD ao]at d;obtain⟨t1,t2,t3,t4⟩:=d;rw[aP t1,aD ao];have bs:∀x∈L,¬short s x.1 x.2:=λx a h=>ao ⟨x,a,h⟩;generalize kG:(fI (sO L) c).1=c1 at t2 t3 t4;generalize yU:(L.map λx=>(tape s x.1).cut x.2)=rows at t3;rw[H,List.nil_append]at t3;have M:rows.map (λl=>(l.length:Int))=(s.dB.getD v g5).ins:=by
  rw[<-t,<-yU,iD];refine mG λx a=>?_;have:=bs x a;unfold short at this;show(((tape s x.1).cut x.2).length:Int)=x.2;unfold iE.cut;rw[ni,mF];omega
 have j:c1.fy=s.dB:=by rw[t2.kt,(Px L s).1]
 have q:jO c1.hand (c1.fy.getD v g5).ins=rows:=by rw[j,t3];exact Rs rows _ M
 have N:(c1.hand.length:Int)=g9 (s.dB.getD v g5).ins:=by rw[t3,Wx,M]
 have A:=MT bv c1.hand N;rw[j]at q;rw[q]at A;have a5:cP c1 ⟨5,(v:Int),0⟩=match nQ (s.dB.getD v g5) rows with
  |(some outs,b)=>(uy c1 v b outs,0)
  |(none,b)=>({c1 with fy:=c1.fy.set v b},3):=by
  rw[anw,bz,aP (by rw[N,t4];exact W.symm),j,q]<;>rfl
 have J:(nQ (s.dB.getD v g5) rows).2.outs=(s.dB.getD v g5).outs:=by
  unfold nQ;cases(oK (s.dB.getD v g5) rows).1<;>rfl
 rw[show∀X,fI ([(⟨5,(v:Int),0⟩:cr)]++X) c1=if(cP c1 ⟨5,(v:Int),0⟩).2=0 then fI X (cP c1 ⟨5,(v:Int),0⟩).1 else cP c1 ⟨5,(v:Int),0⟩fromλ_=>rfl,a5];obtain⟨f1,f2,f3⟩:=A;generalize nQ (s.dB.getD v g5) rows=F at f1 f2 f3 J;obtain⟨r,b⟩:=F;cases r with
 |none=>
  dsimp only;rw[aD aM];exact⟨rfl,λ_=>by show c1.wr=_;rw[t2.wr,(Px L s).2],λh=>by cases h⟩
 |some jb=>
  have f3:=f3 jb rfl;dsimp only at f1 f2⊢;rw[aP rfl];have V:jb.length=ha.length:=by rw[Z,<-f3,gz]
  have i2:Inv g bc (uy c1 v b jb) {hQ L s with dB:=s.dB.set v b}:=⟨t2.gL,t2.le,t2.buf,t2.cd,t2.kv,t2.oB,t2.cL,t2.wr,t2.ol,by show c1.fy.set v b=_;rw[j]⟩;have O:((ha.zip (s.dB.getD v g5).outs).map λy=>(⟨y.1.1,y.1.2,y.2⟩:cr))=CM (ha.zip jb):=by
   rw[<-f3,ali,iD];rfl
  have VU:=bv.VU;have f:=abB (ha.zip jb) (uy c1 v b jb) _ [] i2 (λx a=>k _ (By a).1) (by rw[XY I];exact z) (by rw[ak7 I,s7];rfl) (λx a u=>by
   obtain⟨p,hp,e⟩:=oe a;have xz:p<ha.length:=by rw[ak5]at hp;omega
   have o5:p<jb.length:=I;have En:p<(s.dB.getD v g5).outs.length:=I;have T:(s.dB.getD v g5).outs[p]=(jb[p].length:Int):=by
    have:=Dn (λl:List Int=>(l.length:Int)) (l:=jb) (i:=p) (h:=by simpa using o5);rw[<-this];congr 1;exact f3.symm
   rw[ak0]at e;subst e;obtain⟨S,Q⟩:=K (ha[p],(s.dB.getD v g5).outs[p]) (ak'.2 ⟨p,by rw[ak5];omega,by rw[ak0]⟩) u;refine⟨by rw[<-T];exact S,λ_ o U P w=>Q o U P ?_⟩;rcases w with w|⟨aO,_,ae⟩;exact bW w;exact bl (By ae).1)
  rw[O];refine⟨f.1,λh=>absurd f.1 h,λ_=>⟨f.2.1,f.2.2.1,f.2.2.2.trans t4,b,f1,f2,J,(Jm _ _).1⟩⟩
theorem aoA{c:Nat}(h:n3 g q)(d:n3 g fg)(ne:q≠fg):jp (jp s q n) fg c=jp (jp s fg c) q n:=by
 have t1:=Py (s:=s) (n:=n) h d ne;have t2:=Py (s:=s) (n:=c) d h ne.symm;have m:jp (jp s q n) fg c=if fg.1=3 then{jp s q n with fm:=(jp s q n).fm.set fg.2.toNat ((tape s fg).yl c)}else{jp s q n with ins:=(jp s q n).ins.set fg.2.toNat ((tape s fg).yl c)}:=by rw[<-t1];rfl
 have l:jp (jp s fg c) q n=if q.1=3 then{jp s fg c with fm:=(jp s fg c).fm.set q.2.toNat ((tape s q).yl n)}else{jp s fg c with ins:=(jp s fg c).ins.set q.2.toNat ((tape s q).yl n)}:=by rw[<-t2];rfl
 rw[m,l];unfold jp;obtain⟨a,b⟩:=q;obtain⟨j,i⟩:=fg;dsimp only[n3]at h d⊢;by_cases f:a=3<;>by_cases k:j=3<;>simp only[f,k,lY,mm];rw[Io _ _ (λe=>ne (by rw[f,k,show b=i by omega]))];rw[Io _ _ (λe=>ne (by rw[show a=4 by omega,show j=4 by omega,show b=i by omega]))]
theorem aEx{b:List (fj×Nat)}(p:L.Perm b):∀s,(∀x∈L,n3 g x.1)->(L.map gQ).Nodup->hQ L s=hQ b s:=by
 induction p with
 |nil=>intro _ _ _;rfl
 |cons x p f=>
  intro s ok a;rw[ec,iV]at a;exact f _ (λy c=>ok y (gX _ c)) a.2
 |swap x y l=>
  intro s ok a;rw[ec,ec,iV]at a;simp only[hQ];rw[aoA (ok y bd) (ok x bd) λe=>a.1 (by rw[e];simp)]
 |trans p q i1 i2=>
  intro s ok a;rw[i1 s ok a,i2 s (λx d=>ok x (p.mem_iff.2 d)) ((p.map _).nodup_iff.1 a)]
theorem aqX{aO:List Int}(h:okO g q)(k:okO g fg)(ne:q≠fg):ns (ns s q xs) fg aO=ns (ns s fg aO) q xs:=by
 unfold ns;obtain⟨a,b⟩:=q;obtain⟨i,d⟩:=fg;dsimp only[okO]at h k⊢;by_cases f:a=6<;>by_cases j:i=6<;>simp only[f,j,lY,mm,nr];have c:b.toNat≠d.toNat:=λe=>ne (by rw[f,j,show b=d by omega]);rw[aD (λx=>c x.1),aD (λx=>c.symm x.1),Io _ _ c];have c:b.toNat≠d.toNat:=λe=>ne (by rw[show a=7 by omega,show i=7 by omega,show b=d by omega]);rw[aD (λx=>c x.1),aD (λx=>c.symm x.1),Io _ _ c]
theorem aq1{L b:List (fj×List Int)}(p:L.Perm b):∀s,(∀x∈L,okO g x.1)->(L.map gQ).Nodup->js L s=js b s:=by
 induction p with
 |nil=>intro _ _ _;rfl
 |cons x p f=>
  intro s ok a;rw[ec,iV]at a;exact f _ (λy c=>ok y (gX _ c)) a.2
 |swap x y l=>
  intro s ok a;rw[ec,ec,iV]at a;simp only[js];rw[aqX (ok y bd) (ok x bd) λe=>a.1 (by rw[e];simp)]
 |trans p q i1 i2=>
  intro s ok a;rw[i1 s ok a,i2 s (λx d=>ok x (p.mem_iff.2 d)) ((p.map _).nodup_iff.1 a)]
def vc{α:Type}(f:α->Slot)(da:Nat)(v:Int):Nat->List α->List (Nat×fj)
 |_,[]=>[]
 |k,x::l=>if(f x).1=v then((f x).2.toNat,(da,(k:Int)))::vc f da v (k+1) l else vc f da v (k+1) l
theorem A9{α:Type}(f:α->Slot) da v:∀l k p s,(p,s)∈vc f da v k l↔∃i x,l[i]?=some x/\(f x).1=v/\p=(f x).2.toNat/\s=(da,((k+i:Nat):Int))
 |[],k,p,s=>by simp[vc]
 |x::l,k,p,s=>by
  have c:=A9 f da v l (k+1) p s;have key:(∃i y,(x::l)[i]?=some y/\(f y).1=v/\p=(f y).2.toNat/\s=(da,((k+i:Nat):Int)))↔((f x).1=v/\p=(f x).2.toNat/\s=(da,(k:Int)))\/∃i y,l[i]?=some y/\(f y).1=v/\p=(f y).2.toNat/\s=(da,((k+1+i:Nat):Int)):=by
   constructor;rintro⟨i,y,h1,ae,b,a⟩;cases i with
   |zero=>injection h1 with h1;subst h1;exact bW ⟨ae,b,a⟩
   |succ i=>exact bl ⟨i,y,h1,ae,b,by rw[a,show k+(i+1)=k+1+i by omega]⟩
   rintro(⟨ae,b,a⟩|⟨i,y,h1,ae,b,a⟩);exact⟨0,x,rfl,ae,b,a⟩;exact⟨i+1,y,h1,ae,b,by rw[a,show k+(i+1)=k+1+i by omega]⟩
  rw[key,vc];split;rename_i h;rw[ek,c,wZ];simp[h];rename_i h;rw[c];simp[h]
def aoW(x:GE):Slot:=(x.dst,x.iM)
def aoZ(x:GE):Slot:=(x.src,x.sp)
def agP(x:l5):Slot:=(x.act,x.port)
def NK(g:c8)(v:Nat):List (Nat×fj):=vc agP 4 v 0 g.ins++vc aoW 3 v 0 g.be
def OQ(g:c8)(v:Nat):List (Nat×fj):=vc aoZ 6 v 0 g.be++vc agP 7 v 0 g.outs
theorem CZ(f:α->Slot) da v l k:∀x∈vc f da v k l,x.2.1=da:=λx a=>by
 obtain⟨_,_,_,_,_,h⟩:=(A9 f da v l k x.1 x.2).1 a;rw[h]
theorem CQ{v:Int}{a p:Int}{q:Nat}(b:0<=p):(a=v/\q=p.toNat)↔(v,(q:Int))=(a,p):=by
 rw[wZ];omega
theorem adz(e:iG g=0) v p s:(p,s)∈NK g v↔(((v:Int),(p:Int)),s)∈pJ g:=by
 have b:=yB e;unfold NK pJ;rw[ej,ej,A9,A9,C',C'];constructor;rintro(⟨i,x,h1,ae,a,c⟩|⟨i,x,h1,ae,a,c⟩);have:=b.NN x (Bw h1);exact bl ⟨i,x,h1,L8 ((CQ this.2.2.1).1 ⟨ae,a⟩) (by rw[c,dM])⟩;have:=b.qI x (Bw h1);exact bW ⟨i,x,h1,L8 ((CQ this.2.1.2.2.1).1 ⟨ae,a⟩) (by rw[c,dM])⟩;rintro(⟨i,x,h1,ae⟩|⟨i,x,h1,ae⟩);have:=b.qI x (Bw h1);have a:=(CQ this.2.1.2.2.1).2 (r7 ae).1;exact bl ⟨i,x,h1,a.1,a.2,by rw[(r7 ae).2,dM]⟩;have:=b.NN x (Bw h1);have a:=(CQ this.2.2.1).2 (r7 ae).1;exact bW ⟨i,x,h1,a.1,a.2,by rw[(r7 ae).2,dM]⟩
theorem agH(e:iG g=0) v p s:(p,s)∈OQ g v↔(((v:Int),(p:Int)),s)∈rV g:=by
 have b:=yB e;unfold OQ rV;rw[ej,ej,A9,A9,C',C'];constructor;rintro(⟨i,x,h1,ae,a,c⟩|⟨i,x,h1,ae,a,c⟩);have:=b.qI x (Bw h1);exact bW ⟨i,x,h1,L8 ((CQ this.1.2.2.1).1 ⟨ae,a⟩) (by rw[c,dM])⟩;have:=b.OS x (Bw h1);exact bl ⟨i,x,h1,L8 ((CQ this.2.2.1).1 ⟨ae,a⟩) (by rw[c,dM])⟩;rintro(⟨i,x,h1,ae⟩|⟨i,x,h1,ae⟩);have:=b.qI x (Bw h1);have a:=(CQ this.1.2.2.1).2 (r7 ae).1;exact bW ⟨i,x,h1,a.1,a.2,by rw[(r7 ae).2,dM]⟩;have:=b.OS x (Bw h1);have a:=(CQ this.2.2.1).2 (r7 ae).1;exact bl ⟨i,x,h1,a.1,a.2,by rw[(r7 ae).2,dM]⟩
theorem ao0(ok:n3 g q)(ak:s.fm.length=g.be.length) o:(jp s q n).fm.getD o fP=if q=(3,(o:Int))then(s.fm.getD o fP).yl n else s.fm.getD o fP:=by
 obtain⟨a,b⟩:=q;unfold jp;rcases ok with⟨f,c,h⟩|⟨d,c,h⟩;have f:a=3:=f;have c:0<=b:=c;have h:b<g.be.length:=h;subst f;show(s.fm.set b.toNat _).getD o fP=_;rw[nr];by_cases q:b.toNat=o;subst q;rw[aP ⟨rfl,I⟩,aP (by rw[pr c])];rfl;rw[aD λx=>q x.1,aD λe=>q (by have:=(r7 e).2;omega)];have d:a=4:=d;subst d;rw[aD bd];rfl
theorem aoC s q n:(jp s q n).fm.length=s.fm.length:=by unfold jp;split<;>simp
theorem aqY s q xs:(ns s q xs).fm.length=s.fm.length:=by unfold ns;split<;>simp
theorem WI{g:c8}(o:Nat):∀L s,(∀x∈L,n3 g x.1)->(L.map gQ).Nodup->s.fm.length=g.be.length->(hQ L s).fm.length=g.be.length/\(∀n,((3,(o:Int)),n)∈L->(hQ L s).fm.getD o fP=(s.fm.getD o fP).yl n)/\((∀n,((3,(o:Int)),n)∉L)->(hQ L s).fm.getD o fP=s.fm.getD o fP)
 |[],s,_,_,ak=>⟨ak,nofun,λ_=>rfl⟩
 |x::L,s,ok,c,ak=>by
  rw[ec,iV]at c;have f:=ok x (hU ..);obtain⟨i0,i1,i2⟩:=WI o L (jp s x.1 x.2) (λy h=>ok y (gX _ h)) c.2 ((aoC ..).trans ak);rw[hQ];have d:=ao0 (n:=x.2) f ak o;refine⟨i0,λn a=>?_,λa=>?_⟩;rcases ek.1 a with q|q;have b:x.1=(3,(o:Int)):=by rw[<-q]
  rw[i2 λm hm=>c.1 (cU.2 ⟨_,hm,b.symm⟩),d,aP b,<-q];have b:x.1≠(3,(o:Int)):=λe=>c.1 (cU.2 ⟨_,q,e.symm⟩);rw[i1 n q,d,aD b];rw[i2 λm hm=>a m (gX _ hm),d,aD λe=>a x.2 (by rw[<-e];exact hU ..)]
theorem Sj{g:c8}(o:Nat):∀L s,(∀x∈L,okO g x.1)->(L.map gQ).Nodup->s.fm.length=g.be.length->(js L s).fm.length=g.be.length/\(∀n,((6,(o:Int)),n)∈L->(js L s).fm.getD o fP=(s.fm.getD o fP).put n)/\((∀n,((6,(o:Int)),n)∉L)->(js L s).fm.getD o fP=s.fm.getD o fP)
 |[],s,_,_,ak=>⟨ak,nofun,λ_=>rfl⟩
 |x::L,s,ok,c,ak=>by
  rw[ec,iV]at c;have f:=ok x (hU ..);obtain⟨i0,i1,i2⟩:=Sj o L (ns s x.1 x.2) (λy h=>ok y (gX _ h)) c.2 ((aqY ..).trans ak);rw[js];have d:=Rz (xs:=x.2) f ak o;refine⟨i0,λn a=>?_,λa=>?_⟩;rcases ek.1 a with q|q;have b:x.1=(6,(o:Int)):=by rw[<-q]
  rw[i2 λm hm=>c.1 (cU.2 ⟨_,hm,b.symm⟩),d,aP b,<-q];have b:x.1≠(6,(o:Int)):=λe=>c.1 (cU.2 ⟨_,q,e.symm⟩);rw[i1 n q,d,aD b];rw[i2 λm hm=>a m (gX _ hm),d,aD λe=>a x.2 (by rw[<-e];exact hU ..)]
theorem CY{f:α->Slot}{da:Nat}{v:Int}{l:List α}{p:Nat}{s:fj}(h:(p,s)∈vc f da v 0 l):∃(i:Nat)(x:α),l[i]?=some x/\(f x).1=v/\p=(f x).2.toNat/\s=(da,(i:Int)):=by
 obtain⟨i,x,h1,ae,b,a⟩:=(A9 ..).1 h;exact⟨i,x,h1,ae,b,by rw[a,dM]⟩
theorem Pq{f:α->Slot}{da:Nat}{v:Int}{l:List α}{p l0:Nat}{s:fj}(h:(p,s)∈vc f da v 0 l)(d:(l0,s)∈vc f da v 0 l):p=l0:=by
 obtain⟨i,x,h1,ae,g,c⟩:=CY h;obtain⟨j,n,b,m,k,a⟩:=CY d;have:i=j:=by rw[c]at a;have:=(r7 a).2;omega
 subst this;rw[h1]at b;injection b with e;rw[g,k,e]
theorem aid(e:iG g=0)(S:p4 (pJ g) v rs ops eF){i:Nat} c(p:Nat):eF[p]?=some (3,(i:Int))↔p<rs.length/\g.be[i].dst=v/\p=g.be[i].iM.toNat:=by
 rw[S.mem,<-adz e];refine and_congr_right λ_=>?_;unfold NK;rw[ej];constructor;rintro(h|h);obtain⟨k,x,h1,ae,a,b⟩:=CY h;cases(r7 b).1;obtain⟨k,x,h1,ae,a,b⟩:=CY h;have:k=i:=by have:=(r7 b).2;omega
 subst this;rw[bZ c]at h1;injection h1 with h1;subst h1;exact⟨ae,a⟩;rintro⟨ae,a⟩;exact bl ((A9 ..).2 ⟨i,_,bZ c,ae,a,by rw[dM]⟩)
theorem Ps(e:iG g=0)(S:p4 (rV g) v rs ops eF){i:Nat} c(p:Nat):eF[p]?=some (6,(i:Int))↔p<rs.length/\g.be[i].src=v/\p=g.be[i].sp.toNat:=by
 rw[S.mem,<-agH e];refine and_congr_right λ_=>?_;unfold OQ;rw[ej];constructor;rintro(h|h);obtain⟨k,x,h1,ae,a,b⟩:=CY h;have:k=i:=by have:=(r7 b).2;omega
 subst this;rw[bZ c]at h1;injection h1 with h1;subst h1;exact⟨ae,a⟩;obtain⟨k,x,h1,ae,a,b⟩:=CY h;cases(r7 b).1;rintro⟨ae,a⟩;exact bW ((A9 ..).2 ⟨i,_,bZ c,ae,a,by rw[dM]⟩)
theorem afl{l:List α}{i:Nat}{x:α}(h:l[i]?=some x):i<l.length:=(pZ.1 h).1
theorem Le(e:iG g=0)(S:p4 (pJ g) v rs ops eF):(∀x∈eF,n3 g x)/\eF.Nodup:=by
 have al:∀p s,eF[p]?=some s->(p,s)∈NK g v:=λp s h=>(adz e v p s).2 ((S.mem p s).1 h).2;refine⟨λx i=>?_,?_⟩;obtain⟨p,hp⟩:=Il.1 i;rcases ej.1 (al p x hp)with h|h<;>obtain⟨k,y,h1,_,_,f⟩:=CY h<;>subst f<;>have:=afl h1;exact bl ⟨rfl,by show(0:Int)<=k;omega,by show(k:Int)<_;omega⟩;exact bW ⟨rfl,by show(0:Int)<=k;omega,by show(k:Int)<_;omega⟩;rw[X0,LW];intro p l0 hp j l eq;have a:=al p _ (bZ hp);have b:=al l0 _ (bZ j);rw[<-eq]at b;have:p=l0:=by
  rcases ej.1 a with a|a<;>rcases ej.1 b with b|b;exact Pq a b;have d:=CZ _ _ _ _ _ (p,eF[p]) a;have c:=CZ _ _ _ _ _ (l0,eF[p]) b;dsimp only at d c;omega;have d:=CZ _ _ _ _ _ (p,eF[p]) a;have c:=CZ _ _ _ _ _ (l0,eF[p]) b;dsimp only at d c;omega;exact Pq a b
 omega
theorem Pr(e:iG g=0)(S:p4 (rV g) v rs ops eF):(∀x∈eF,okO g x)/\eF.Nodup:=by
 have al:∀p s,eF[p]?=some s->(p,s)∈OQ g v:=λp s h=>(agH e v p s).2 ((S.mem p s).1 h).2;refine⟨λx i=>?_,?_⟩;obtain⟨p,hp⟩:=Il.1 i;rcases ej.1 (al p x hp)with h|h<;>obtain⟨k,y,h1,_,_,f⟩:=CY h<;>subst f<;>have:=afl h1;exact bW ⟨rfl,by show(0:Int)<=k;omega,by show(k:Int)<_;omega⟩;exact bl ⟨rfl,by show(0:Int)<=k;omega,by show(k:Int)<_;omega⟩;rw[X0,LW];intro p l0 hp j l eq;have a:=al p _ (bZ hp);have b:=al l0 _ (bZ j);rw[<-eq]at b;have:p=l0:=by
  rcases ej.1 a with a|a<;>rcases ej.1 b with b|b;exact Pq a b;have d:=CZ _ _ _ _ _ (p,eF[p]) a;have c:=CZ _ _ _ _ _ (l0,eF[p]) b;dsimp only at d c;omega;have d:=CZ _ _ _ _ _ (p,eF[p]) a;have c:=CZ _ _ _ _ _ (l0,eF[p]) b;dsimp only at d c;omega;exact Pq a b
 omega
theorem Xc{α β a:Type}(f:α->β->a):∀l m,rn f l m=(l.zip m).map λx=>f x.1 x.2
 |[],_=>rfl
 |_::_,[]=>rfl
 |x::l,y::m=>by rw[List.zipWith_cons_cons,Xc f l m];rfl
def hr(g:c8)(v:Nat)(eF:List fj):List (fj×Nat):=eF.zip ((ki g v).map x6)
def FI(g:c8)(f:List Int)(s:fx):Prop:=∀(i:Nat)(h:i<g.be.length),(s.fm.getD i fP).bj=ob f (nq g g.be[i])
theorem LF{β:Type}{l:List α}{m:List β}{x:α×β}:x∈l.zip m↔∃p:Nat,l[p]?=some x.1/\m[p]?=some x.2:=by
 rw[Il];exact exists_congr λp=>List.getElem?_zip_eq_some
theorem afm(e:iG g=0)(S:p4 (pJ g) v (ki g v) ops eF){i:Nat} b:(g.be[i].dst=v->((3,(i:Int)),(nq g g.be[i]).take.toNat)∈hr g v eF)/\∀n,((3,(i:Int)),n)∈hr g v eF->g.be[i].dst=v/\n=(nq g g.be[i]).take.toNat:=by
 have f:=(yB e).qI _ (cG b);unfold hr;refine⟨λa=>LF.2 ⟨g.be[i].iM.toNat,?_,?_⟩,λn h=>?_⟩;exact(aid e S b _).2 ⟨by have:=f.2.1;rw[a]at this;omega,a,rfl⟩;have h1:=f.2.1;rw[a]at h1;show(List.map x6 _)[_]?=some ((ki g g.be[i].dst).getD _ 0).toNat;rw[dH,a,cx,bZ I];rfl;obtain⟨p,h1,ae⟩:=LF.1 h;obtain⟨d,c,j⟩:=(aid e S b p).1 h1;refine⟨c,?_⟩;show n=((ki g g.be[i].dst).getD _ 0).toNat;rw[dH,bZ d]at ae;injection ae with ae;have ae:(ki g v)[p].toNat=n:=ae;rw[<-ae,c,<-j,cx,bZ d];rfl
theorem UA(S:p4 (pJ g) v (ki g v) ops eF):(hr g v eF).map gQ=eF:=by
 unfold hr;rw[XY];rw[S.len,gz];exact dz _
theorem Ji(ao:e' g.a8.length (dv g)=0){i:Nat} a:oH g.a8.length (nq g g.be[i])=0:=(lT ao).2.2.2 _ (cU.2 ⟨_,cG a,rfl⟩)
theorem aEv(e:iG g=0)(ao:e' g.a8.length (dv g)=0)(ak:s.fm.length=g.be.length)(S:p4 (pJ g) v (ki g v) ops eF):(hQ (hr g v eF) s).fm.length=g.be.length/\∀i b,((hQ (hr g v eF) s).fm.getD i fP).bj=(s.fm.getD i fP).bj-if g.be[i].dst=v then(nq g g.be[i]).take else 0:=by
 obtain⟨l,k⟩:=Le e S;have ok:∀x∈hr g v eF,n3 g x.1:=λx f=>l _ (By f).1;have c:((hr g v eF).map gQ).Nodup:=by rw[UA S];exact k
 refine⟨(WI 0 _ s ok c ak).1,λi b=>?_⟩;obtain⟨_,t1,t2⟩:=WI i _ s ok c ak;obtain⟨h,j⟩:=afm e S b;have:=rT (Ji ao b);split;rename_i a;rw[t1 _ (h a)];unfold iE.bj iE.yl;dsimp only;omega;rename_i a;rw[t2 λn d=>a (j n d).1];omega
theorem aqW(e:iG g=0)(ak:s.fm.length=g.be.length)(S:p4 (rV g) v (lW g v) ops ha){jb:List (List Int)}(c:jb.map (λl=>(l.length:Int))=lW g v):(js (ha.zip jb) s).fm.length=g.be.length/\∀i b,((js (ha.zip jb) s).fm.getD i fP).bj=(s.fm.getD i fP).bj+if g.be[i].src=v then(nq g g.be[i]).fH else 0:=by
 obtain⟨o,k⟩:=Pr e S;have mN:jb.length=(lW g v).length:=by rw[<-c,gz]
 have ok:∀x∈ha.zip jb,okO g x.1:=λx h=>o _ (By h).1;have d:((ha.zip jb).map gQ).Nodup:=by rw[XY (by rw[S.len,mN];exact dz _)];exact k
 refine⟨(Sj 0 _ s ok d ak).1,λi b=>?_⟩;obtain⟨_,t1,t2⟩:=Sj i _ s ok d ak;have m:=((yB e).qI _ (cG b)).1;split;rename_i a;rw[a]at m;have hp:g.be[i].sp.toNat<jb.length:=I;rw[t1 jb[g.be[i].sp.toNat] (LF.2 ⟨g.be[i].sp.toNat,(Ps e S b _).2 ⟨I,a,rfl⟩,bZ hp⟩)];have j:(jb[g.be[i].sp.toNat].length:Int)=(nq g g.be[i]).fH:=by
  show _=(lW g g.be[i].src).getD _ 0;rw[a,<-c,cx,dH,bZ hp];rfl
 unfold iE.bj iE.put;dsimp only;rw[fc];omega;rename_i a;rw[t2 λn f=>?_];omega;obtain⟨p,h1,_⟩:=LF.1 f;exact a ((Ps e S b p).1 h1).2.1
theorem af2(e:iG g=0)(ao:e' g.a8.length (dv g)=0)(S:p4 (pJ g) v (ki g v) ops eF)(w:FI g f s)(hm:may g.a8.length (dv g) f v=true):∀x∈hr g v eF,x.1.1=3->¬short s x.1 x.2:=λx d h=>by
 obtain⟨t,B⟩:=Le e S;have p:∀x∈hr g v eF,n3 g x.1:=λx d=>t _ (By d).1;obtain⟨_,u⟩:=Om.1 hm;have r:∀(o:Nat)(c:o<g.be.length),g.be[o].dst=v->(nq g g.be[o]).take<=ob f (nq g g.be[o]):=λo c i=>u _ (cU.2 ⟨_,cG c,rfl⟩) i;obtain⟨⟨a,b⟩,n⟩:=x;have h:a=3:=h;subst h;have y:=p _ d;rcases y with⟨_,m,j⟩|⟨q,_⟩;have m:0<=b:=m;have j:b<g.be.length:=j;obtain⟨o,rfl⟩:∃o:Nat,b=o:=⟨b.toNat,I⟩;have c:o<g.be.length:=I;obtain⟨i,z⟩:=(afm e S c).2 n d;have h1:=r o c i;have ae:=w o c;have A:=rT (Ji ao c);unfold short;show¬(s.fm.getD ((o:Int).toNat) fP).l.length<(s.fm.getD ((o:Int).toNat) fP).k+n;rw[bz];unfold iE.bj at ae;omega;cases q
theorem ap5(e:iG g=0)(i:Inv g bc c s)(bL:c.hand=[])(W:v<g.a8.length)(tr:s.dB.length=g.a8.length)(bv:k3 (C+1) (s.dB.getD v g5))(w:(s.dB.getD v g5).ins=ki g v)(u:(s.dB.getD v g5).outs=lW g v)(av:c.hP.getD v 0=g9 (ki g v))(kv:f.length=g.a8.length)(ao:e' g.a8.length (dv g)=0)(G:FI g f s)(hm:may g.a8.length (dv g) f v=true){rows:List (List Int)}{dd:List Int}(fin:Fin rows g.be.length dd bc)(pe:FZ rows g.be.length dd)(B:dx (dv g) (bump f v)∈rows)(S:p4 (pJ g) v (ki g v) ((Cd g).getD v []) eF)(T:p4 (rV g) v (lW g v) ((Ce g).getD v []) ha):(fI ((gd g).getD v []) c).2=(sm s v (hr g v eF) ha).2/\((fI ((gd g).getD v []) c).2≠0->(fI ((gd g).getD v []) c).1.wr=(sm s v (hr g v eF) ha).1.outs)/\((fI ((gd g).getD v []) c).2=0->Inv g bc (fI ((gd g).getD v []) c).1 (sm s v (hr g v eF) ha).1/\(fI ((gd g).getD v []) c).1.hand=[]/\(fI ((gd g).getD v []) c).1.hP=c.hP/\FI g (bump f v) (sm s v (hr g v eF) ha).1/\∃b,k3 C b/\b.ins=ki g v/\b.outs=lW g v/\(sm s v (hr g v eF) ha).1.dB=s.dB.set v b):=by
 obtain⟨iI,ew⟩:=Le e S;obtain⟨Z,hl⟩:=Pr e T;have Hs:∀x∈hr g v eF,n3 g x.1:=λx j=>iI _ (By j).1;have Oy:((hr g v eF).map gQ).Nodup:=by rw[UA S];exact ew
 have Q:=bv.zi;rw[w]at Q;have V:(hr g v eF).map (λx=>(x.2:Int))=ki g v:=by
  have:(hr g v eF).map (λx=>(x.2:Int))=((hr g v eF).map er).map λn:Nat=>(n:Int):=by rw[iD];rfl
  rw[this,hr,ak7 (by rw[S.len,gz];exact dz _),iD];refine(mG λr B=>?_).trans (ak6 _);have:=Q r B;show((r.toNat:Nat):Int)=r;omega
 obtain⟨_,kc⟩:=Om.1 hm;have R:∀(o:Nat)(d:o<g.be.length),ob (bump f v) (nq g g.be[o])=ob f (nq g g.be[o])- (if g.be[o].dst=v then(nq g g.be[o]).take else 0)+(if g.be[o].src=v then(nq g g.be[o]).fH else 0):=λo d=>WQ (Ji ao d) kv W;have UH:∀(o:Nat)(d:o<g.be.length),g.be[o].dst=v->(nq g g.be[o]).take<=ob f (nq g g.be[o]):=λo d L=>kc _ (cU.2 ⟨_,cG d,rfl⟩) L;obtain⟨cF,P⟩:=aEv e ao i.le S;have au:=af2 e ao S G hm;have gl:∀(o:Nat)(d:o<g.be.length),0<=((hQ (hr g v eF) s).fm.getD o fP).bj:=λo d=>by
  rw[P o d];split;rename_i L;have:=UH o d L;have:=G o d;omega;have:=(i.buf o d).k;unfold iE.bj;omega
 have A:∀(o:Nat)(d:o<g.be.length),(dx (dv g) (bump f v)).getD o 0=((hQ (hr g v eF) s).fm.getD o fP).bj+if g.be[o].src=v then(nq g g.be[o]).fH else 0:=λo d=>by
  have fz:o<(dv g).length:=by unfold dv;rw[gz];exact d
  rw[P o d,G o d,<-R o d];unfold dx dv;rw[cx,dH,dH,bZ d];rfl
 have Tj:(gd g).getD v []=sO (hr g v eF)++[⟨5,(v:Int),0⟩]++(ha.zip (s.dB.getD v g5).outs).map λy=>⟨y.1.1,y.1.2,y.2⟩:=by
  unfold gd;rw[cx,dH,Dm W,rp,ps,S.ops,T.ops,u,Xc,Xc];congr 2;unfold sO hr;rw[ali,iD];refine mG λx j=>?_;have:=Q _ (By j).2;show(⟨x.1.1,x.1.2,x.2⟩:cr)=⟨x.1.1,x.1.2,((x.2.toNat:Nat):Int)⟩;rw[pr I]
 have H:=aqi i bL I bv (by rw[w];exact av) Hs Oy (by rw[w];exact V) au Z hl (by rw[u];exact T.len) (λy N O=>by
  obtain⟨⟨a,b⟩,r⟩:=y;have O:a=6:=O;subst O;have nz:=Z _ (By N).1;rcases nz with⟨_,X,E⟩|⟨q,_⟩;have X:0<=b:=X;have E:b<g.be.length:=E;obtain⟨o,rfl⟩:∃o:Nat,b=o:=⟨b.toNat,I⟩;have d:o<g.be.length:=I;rw[u]at N;obtain⟨p,fq,gD⟩:=LF.1 N;obtain⟨aL,U,bp⟩:=(Ps e T d p).1 fq;have aHZ:r=(nq g g.be[o]).fH:=by
   show r=(lW g g.be[o].src).getD _ 0;rw[U,<-bp,cx,gD];rfl
  have aGP:=rT (Ji ao d);have O9:=A o d;rw[aP U]at O9;have up:=pe.up o d _ B;have gW:=fin.size o d;unfold hN pd at gW;show((hQ (hr g v eF) s).fm.getD ((o:Int).toNat) fP).bj+r<=(bc.getD ((o:Int).toNat) (0,0)).2/\∀k,k<g.be.length->k≠(o:Int).toNat->_->FB bc ((o:Int).toNat) k;rw[bz];refine⟨I,λk hk b' D=>?_⟩;have A5:=A k hk;have b0:=rT (Ji ao hk);have K:0<(dx (dv g) (bump f v)).getD k 0:=by
   rw[A5];have:=gl k hk;rcases D with D|D;split<;>omega;obtain⟨l0,mR⟩:=Il.1 D;have:=((Ps e T hk l0).1 mR).2.1;rw[aP this];omega
  have J:0<(dx (dv g) (bump f v)).getD o 0:=by have:=gl o d;omega
  have UI:wo rows o k=true:=Qk.2 ⟨_,B,by show(decide _&&decide _)=true;rw[gG J,gG K];rfl⟩;have ap:=fin.apart o d k hk ((ZA d hk (d' b')).2 UI);rw[FG,ne_eq,Fj]at ap;have M:=fin.size k hk;have aIy:=pe.up k hk _ B;unfold hN pd at M;unfold hN at ap;unfold FB;omega;cases q) Tj
 refine⟨H.1,H.2.1,λal=>?_⟩;obtain⟨eM,dW,dU,b,E,cu,hd,lr⟩:=H.2.2 al;refine⟨eM,dW,dU,?_,b,E,cu.trans w,hd.trans u,lr⟩;have m:=H.1.symm.trans al;unfold sm at m⊢;split at m;cases m;rename_i z;rw[aD z];have bs:∀x∈hr g v eF,¬short s x.1 x.2:=λx j h=>z ⟨x,j,h⟩;generalize yU:((hr g v eF).map λx=>(tape s x.1).cut x.2)=rws at m⊢;have Y:rws.map (λl=>(l.length:Int))=(s.dB.getD v g5).ins:=by
  rw[w,<-V,<-yU,iD];refine mG λx j=>?_;have:=bs x j;unfold short at this;show(((tape s x.1).cut x.2).length:Int)=x.2;unfold iE.cut;rw[ni,mF];omega
 have t:=(MT bv rws.flatten (by rw[Wx,Y])).2.2;rw[Rs rws _ Y,u]at t;generalize nQ (s.dB.getD v g5) rws=F at t m⊢;obtain⟨r,dA⟩:=F;cases r with
 |none=>cases m
 |some jb=>
  have t:=t jb rfl;dsimp only;intro o d;rw[(aqW e (s:={hQ (hr g v eF) s with dB:=s.dB.set v dA}) cF T t).2 o d,R o d,<-G o d,<-P o d]
def path{S:Type}(st:Nat->S->Option S):List Nat->S->Option S
 |[],s=>some s
 |v::l,s=>(st v s).bind (path st l)
section
variable {S:Type}{st:Nat->S->Option S}(I0:∀u v s a b,u≠v->st u s=some a->st v s=some b->∃c,st v a=some c/\st u b=some c)
include I0
theorem agX:∀(α:List Nat)(s t b:S)(v:Nat),path st α s=some t->st v s=some b->(v∈α->path st (α.erase v) b=some t)/\(v∉α->∃c,st v t=some c/\path st α b=some c)
 |[],s,t,b,v,h,d=>⟨λh=>(by cases h),λ_=>by cases h;exact⟨b,d,rfl⟩⟩
 |u::α,s,t,b,v,h,d=>by
  obtain⟨a,g,h⟩:=wW.1 h;by_cases e:u=v;subst e;rw[g]at d;cases d;refine⟨λ_=>?_,λq=>absurd (hU ..) q⟩;rw[List.erase_cons_head];exact h;obtain⟨f,h1,ae⟩:=I0 u v s a b e g d;obtain⟨i1,i2⟩:=agX α a t f v h h1;refine⟨λq=>?_,λq=>?_⟩;have fg:v∈α:=by
   rcases ek.1 q with x|x;exact absurd x.symm e;exact x
  rw[List.erase_cons_tail (by simpa using e)];exact wW.2 ⟨f,ae,i1 fg⟩;obtain⟨c,i,j⟩:=i2 λx=>q (gX _ x);exact⟨c,i,wW.2 ⟨f,ae,j⟩⟩
theorem Vw:∀(β α:List Nat)(s t r:S),path st α s=some t->path st β s=some r->∃c a f,path st f t=some c/\path st a r=some c/\(∀w,a.count w=α.count w-β.count w)/\∀w,f.count w=β.count w-α.count w
 |[],α,s,t,r,h,d=>by cases d;exact⟨t,α,[],rfl,h,λw=>bd,λw=>bd⟩
 |v::β,α,s,t,r,h,d=>by
  obtain⟨b,m,d⟩:=wW.1 d;obtain⟨f1,f2⟩:=agX I0 α s t b v h m;by_cases q:v∈α;obtain⟨c,a,f,g,i,j,k⟩:=Vw β (α.erase v) b t r (f1 q) d;have hp:=LR.2 q;refine⟨c,a,f,g,i,λw=>?_,λw=>?_⟩;rw[j,Bt,akK];by_cases e:v=w;subst e;simp;omega;simp[e,d' e];rw[k,Bt,akK];by_cases e:v=w;subst e;simp;omega;simp[e,d' e];obtain⟨l,n,o⟩:=f2 q;obtain⟨c,a,f,g,i,j,k⟩:=Vw β α b l r o d;have al:=List.count_eq_zero.2 q;refine⟨c,a,v::f,wW.2 ⟨l,n,g⟩,i,λw=>?_,λw=>?_⟩;rw[j,Bt];by_cases e:v=w;subst e;rw[al];omega;simp[e];rw[Bt,Bt,k];by_cases e:v=w;subst e;rw[al];omega;simp[e]
end
theorem Vv{S:Type}{st:Nat->S->Option S}{H:Nat->S->Prop}(al:∀v s,H v s->st v s=none)(h1:∀u v s a,u≠v->H v s->st u s=some a->H v a):∀(b:List Nat)(s c:S)(v:Nat),path st b s=some c->H v s->v∉b
 |[],_,_,_,_,_=>nofun
 |u::b,s,c,v,h,f=>λq=>by
  obtain⟨a,d,h⟩:=wW.1 h;by_cases e:u=v;subst e;rw[al _ _ f]at d;cases d;rcases ek.1 q with x|x;exact e x.symm;exact Vv al h1 b a c v h (h1 u v s a e f d) x
theorem Vx{S:Type}{st:Nat->S->Option S}{ar:S->S->Prop}(al:∀s,ar s s)(h1:∀v s a c,st v s=some a->ar a c->ar s c):∀(b:List Nat)(s c:S),path st b s=some c->ar s c
 |[],s,c,h=>by cases h;exact al s
 |v::b,s,c,h=>by
  obtain⟨a,d,h⟩:=wW.1 h;exact h1 v s a c d (Vx al h1 b a c h)
theorem agW{S:Type}{st:Nat->S->Option S}:∀(α β:List Nat)(s t:S),path st α s=some t->path st (α++β) s=path st β t
 |[],β,s,t,h=>by cases h;rfl
 |v::α,β,s,t,h=>by
  obtain⟨a,b,h⟩:=wW.1 h;rw[wP,path,b];exact agW α β a t h
theorem ayg{S:Type}{st:Nat->S->Option S}(I0:∀u v s a b,u≠v->st u s=some a->st v s=some b->∃c,st v a=some c/\st u b=some c){H:Nat->S->Prop}(al:∀v s,H v s->st v s=none)(h1:∀u v s a,u≠v->H v s->st u s=some a->H v a){ar:S->S->Prop}(y:∀s,ar s s)(x:∀v s a c,st v s=some a->ar a c->ar s c){full:Nat->Nat}{α β:List Nat}{s t r:S}(B:path st α s=some t)(C:path st β s=some r){p q:Prop}(j:p->∀w,α.count w=full w)(d:q->∀w,β.count w=full w)(f:¬p->∃v,α.count v<full v/\H v t)(g:¬q->∃v,β.count v<full v/\H v r):(p↔q)/\(p->t=r)/\∃c,ar t c/\ar r c:=by
 obtain⟨c,n,o,l,k,m,J'⟩:=Vw I0 β α s t r B C;have e:p↔q:=by
  constructor;intro hp;refine Xp λh=>?_;obtain⟨v,D,i⟩:=g h;refine Vv al h1 n r c v k i (LR.1 ?_);rw[m,j hp];omega;intro h;refine Xp λhp=>?_;obtain⟨v,D,i⟩:=f hp;refine Vv al h1 o t c v l i (LR.1 ?_);rw[J',d h];omega
 refine⟨e,λhp=>?_,c,Vx y x _ _ _ l,Vx y x _ _ _ k⟩;have A:n=[]:=akP.2 λw hw=>by
  have:=LR.2 hw;rw[m,j hp,d (e.1 hp)]at this;omega
 have z:o=[]:=akP.2 λw hw=>by
  have:=LR.2 hw;rw[J',j hp,d (e.1 hp)]at this;omega
 subst A z;cases l;cases k;rfl
theorem aFG(l:List α)(d:α)(i o:Nat)(f k:α->α)(h:i=o->∀x,f (k x)=k (f x)):(l.set i (f (l.getD i d))).set o (k ((l.set i (f (l.getD i d))).getD o d))=(l.set o (k (l.getD o d))).set i (f ((l.set o (k (l.getD o d))).getD i d)):=by
 by_cases e:i=o;subst e;by_cases a:i<l.length;rw[alf,alf,nr,nr,aP ⟨rfl,a⟩,aP ⟨rfl,a⟩,h rfl];have q:∀x,l.set i x=l:=λx=>List.set_eq_of_length_le I;simp only[q];rw[nr,nr,aD (λq=>e q.1),aD (λq=>e q.1.symm),Io _ _ e]
theorem aoB(s:fx)(q fg:fj)(n:Nat)(xs:List Int):jp (ns s fg xs) q n=ns (jp s q n) fg xs:=by
 unfold jp ns tape;by_cases h:q.1=3<;>by_cases a:fg.1=6;simp only[aP h,aP a];rw[aFG s.fm fP fg.2.toNat q.2.toNat (λt=>t.put xs) (λt=>t.yl n) λ_ _=>rfl];simp only[aP h,aD a];simp only[aD h,aP a];simp only[aD h,aD a]
theorem aiO(fg:fj)(xs:List Int):∀(L:List (fj×Nat))(s:fx),hQ L (ns s fg xs)=ns (hQ L s) fg xs
 |[],_=>rfl
 |x::L,s=>by rw[hQ,hQ,aoB,aiO fg xs L]
theorem WJ(L:List (fj×Nat)):∀(M:List (fj×List Int))(s:fx),hQ L (js M s)=js M (hQ L s)
 |[],_=>rfl
 |y::M,s=>by rw[js,js,WJ L M,aiO]
theorem WK(B:List gy):∀(L:List (fj×Nat))(s:fx),hQ L {s with dB:=B}={hQ L s with dB:=B}
 |[],_=>rfl
 |x::L,s=>by
  rw[hQ,hQ,<-WK B L];congr 1;unfold jp tape;by_cases h:x.1.1=3;simp only[aP h];simp only[aD h]
theorem Sk(B:List gy):∀(M:List (fj×List Int))(s:fx),js M {s with dB:=B}={js M s with dB:=B}
 |[],_=>rfl
 |x::L,s=>by
  rw[js,js,<-Sk B L];congr 1;unfold ns;by_cases h:x.1.1=6;simp only[aP h];simp only[aD h]
def ri(t g':iE)(b:Bool):Prop:=∃e,g'=⟨t.l++e,t.k⟩/\(b=true->e=[])
theorem ri.K3(t:iE)(b:Bool):ri t t b:=⟨[],by rw[s7],λ_=>rfl⟩
theorem ri.trans{u w:iE}{b:Bool}(h:ri t u b)(k:ri u w b):ri t w b:=by
 obtain⟨e,rfl,ae⟩:=h;obtain⟨f,rfl,a⟩:=k;exact⟨e++f,by rw[kC],λq=>by rw[ae q,a q];rfl⟩
theorem aEz(s:fx)(q fg:fj)(xs:List Int):ri (tape s q) (tape (ns s fg xs) q) (decide (q.1≠3)):=by
 unfold tape ns;by_cases h:q.1=3;simp only[aP h];by_cases a:fg.1=6;simp only[aP a];rw[nr];split;rename_i e;rw[e.1];exact⟨xs,rfl,λk=>absurd h (q2 k)⟩;exact ri.K3 _ _;simp only[aD a];exact ri.K3 _ _;simp only[aD h];by_cases a:fg.1=6;simp only[aP a];exact ri.K3 _ _;simp only[aD a];exact ri.K3 _ _
theorem aiP(q:fj):∀(M:List (fj×List Int))(s:fx),ri (tape s q) (tape (js M s) q) (decide (q.1≠3))
 |[],_=>ri.K3 _ _
 |x::M,s=>(aEz s q x.1 x.2).trans (aiP q M _)
theorem ri.Of{b:Bool}(x:ri (tape s q) (tape a q) b)(h:¬short s q n):¬short a q n/\(tape a q).cut n=(tape s q).cut n:=by
 obtain⟨e,h1,_⟩:=x;unfold short at h⊢;rw[h1];unfold iE.cut;dsimp only;refine⟨by rw[fc];omega,?_⟩;rw[List.drop_append_of_le_length I,List.take_append_of_le_length (by rw[mF];omega)]
theorem abC(k:Nat):∀(M:List (fj×List Int))(s:fx),s.outs.getD k []<+:(js M s).outs.getD k []
 |[],s=>LX _
 |x::M,s=>by
  refine akH ?_ (abC k M _);unfold ns;split;exact LX _;dsimp only;rw[nr];split;rename_i e;rw[e.1];exact List.prefix_append _ _;exact LX _
theorem ajQ:∀(ha:List fj)(l:List (List Int)),((ha.zip l).map gQ).Sublist ha
 |[],_=>aGG _
 |_::_,[]=>List.nil_sublist _
 |a::ha,b::l=>by rw[List.zip_cons_cons,ec];exact(ajQ ha l).cons_cons _
theorem WH:∀(L M:List (fj×Nat))(s:fx),hQ (L++M) s=hQ M (hQ L s)
 |[],_,_=>rfl
 |x::L,M,s=>by rw[wP,hQ,hQ,WH L M]
theorem Si:∀(L M:List (fj×List Int))(s:fx),js (L++M) s=js M (js L s)
 |[],_,_=>rfl
 |x::L,M,s=>by rw[wP,js,js,Si L M]
theorem aiQ{g:c8}:∀(L:List (fj×Nat))(s:fx)(q:fj),(∀x∈L,n3 g x.1)->n3 g q->q∉L.map gQ->tape (hQ L s) q=tape s q
 |[],_,_,_,_,_=>rfl
 |x::L,s,q,ok,b,a=>by
  rw[ec,ek,not_or]at a;rw[hQ,aiQ L _ q (λy c=>ok y (gX _ c)) b a.2,Py (ok x (hU ..)) b (d' a.1)]
theorem aEy{M:List (fj×Nat)}(ak:∀x∈L,n3 g x.1)(hm:∀x∈M,n3 g x.1)(b:((L++M).map gQ).Nodup)(s:fx):hQ L (hQ M s)=hQ M (hQ L s):=by
 rw[<-WH,<-WH];exact(aEx ald s (λx a=>(ej.1 a).elim (ak x) (hm x)) b).symm
theorem aq0{L M:List (fj×List Int)}(ak:∀x∈L,okO g x.1)(hm:∀x∈M,okO g x.1)(b:((L++M).map gQ).Nodup)(s:fx):js L (js M s)=js M (js L s):=by
 rw[<-Si,<-Si];exact(aq1 ald s (λx a=>(ej.1 a).elim (ak x) (hm x)) b).symm
theorem adA{x y:Slot}(h:(x,q)∈pJ g)(c:(y,q)∈pJ g):x=y:=by
 unfold pJ at h c;rcases ej.1 h with h|h<;>rcases ej.1 c with c|c<;>obtain⟨i,a,h1,ae⟩:=(C' _ _ _).1 h<;>obtain⟨o,b,f,d⟩:=(C' _ _ _).1 c<;>rw[wZ]at ae d<;>have e:=ae.2.symm.trans d.2<;>rw[wZ]at e;have:i=o:=I;subst this;rw[h1]at f;cases f;exact ae.1.trans d.1.symm;exact absurd e.1 aM;exact absurd e.1 aM;have:i=o:=I;subst this;rw[h1]at f;cases f;exact ae.1.trans d.1.symm
theorem aAW{x y:Slot}(h:(x,q)∈rV g)(c:(y,q)∈rV g):x=y:=by
 unfold rV at h c;rcases ej.1 h with h|h<;>rcases ej.1 c with c|c<;>obtain⟨i,a,h1,ae⟩:=(C' _ _ _).1 h<;>obtain⟨o,b,f,d⟩:=(C' _ _ _).1 c<;>rw[wZ]at ae d<;>have e:=ae.2.symm.trans d.2<;>rw[wZ]at e;have:i=o:=I;subst this;rw[h1]at f;cases f;exact ae.1.trans d.1.symm;exact absurd e.1 aM;exact absurd e.1 aM;have:i=o:=I;subst this;rw[h1]at f;cases f;exact ae.1.trans d.1.symm
theorem Wm{M:List BC}(one:∀x y q,(x,q)∈M->(y,q)∈M->x=y){u:Nat}{r b:List Int}{U c:List cr}(S:p4 M u r U eF)(T:p4 M v b c ha)(ne:u≠v):∀q∈eF,q∉ha:=λq h a=>by
 obtain⟨p,hp⟩:=Il.1 h;obtain⟨l0,d⟩:=Il.1 a;have:=one _ _ _ ((S.mem p q).1 hp).2 ((T.mem l0 q).1 d).2;rw[wZ]at this;omega
noncomputable def mA(g:c8)(v:Nat):List fj:=open Classical in if h:iG g=0/\v<g.a8.length then aj6 (RZ h.1 h.2)else[]
noncomputable def Fi(g:c8)(v:Nat):List fj:=open Classical in if h:iG g=0/\v<g.a8.length then aj6 (Xq (RZ h.1 h.2))else[]
theorem A7(e:iG g=0)(a:v<g.a8.length):p4 (pJ g) v (ki g v) ((Cd g).getD v []) (mA g v)/\p4 (rV g) v (lW g v) ((Ce g).getD v []) (Fi g v):=by
 unfold mA Fi;rw[dif_pos ⟨e,a⟩,dif_pos ⟨e,a⟩];exact Xq (Xq (RZ e a))
noncomputable def qL(g:c8)(v:Nat)(s:fx):fx×Nat:=sm s v (hr g v (mA g v)) (Fi g v)
noncomputable def n'(g:c8)(v:Nat)(s:fx):Option fx:=if v<g.a8.length/\(qL g v s).2=0 then some (qL g v s).1 else none
def Bq(g:c8)(v:Nat)(s:fx):Prop:=v<g.a8.length/\(∀x∈hr g v (mA g v),x.1.1=3->¬short s x.1 x.2)/\(qL g v s).2≠0
theorem Lh(h:n' g v s=some a):v<g.a8.length/\(∀x∈hr g v (mA g v),¬short s x.1 x.2)/\∃jb b,nQ (s.dB.getD v g5) ((hr g v (mA g v)).map λx=>(tape s x.1).cut x.2)=(some jb,b)/\a=js ((Fi g v).zip jb) {hQ (hr g v (mA g v)) s with dB:=s.dB.set v b}:=by
 unfold n' at h;split at h;rename_i q;cases h;refine⟨q.1,?_⟩;have c:=q.2;unfold qL sm at c⊢;split at c;cases c;rename_i k;refine⟨λx d ao=>k ⟨x,d,ao⟩,?_⟩;rw[aD k];split at c;cases c;rename_i jb b e;exact⟨jb,b,e,rfl⟩;cases h
theorem Ws(c:v<g.a8.length)(h:∀x∈hr g v (mA g v),¬short s x.1 x.2){jb:List (List Int)}{b:gy}(e:nQ (s.dB.getD v g5) ((hr g v (mA g v)).map λx=>(tape s x.1).cut x.2)=(some jb,b)):n' g v s=some (js ((Fi g v).zip jb) {hQ (hr g v (mA g v)) s with dB:=s.dB.set v b}):=by
 have:qL g v s=(js ((Fi g v).zip jb) {hQ (hr g v (mA g v)) s with dB:=s.dB.set v b},0):=by
  unfold qL sm;rw[aD λ⟨x,a,ao⟩=>h x a ao,e]
 unfold n';rw[this,aP ⟨c,rfl⟩]
section
variable {g:c8}(e:iG g=0)
include e
theorem Kw(c:v<g.a8.length):(∀x∈hr g v (mA g v),n3 g x.1)/\(hr g v (mA g v)).map gQ=mA g v/\(mA g v).Nodup:=by
 obtain⟨S,_⟩:=A7 e c;obtain⟨h1,ae⟩:=Le e S;have a:=UA S;exact⟨λx b=>h1 _ (by rw[<-a];exact cU.2 ⟨x,b,rfl⟩),a,ae⟩
theorem Wt{u:Nat}(ne:u≠v)(d:v<g.a8.length)(h:n' g u s=some a):a.dB.getD v g5=s.dB.getD v g5/\∀q∈mA g v,ri (tape s q) (tape a q) (decide (q.1≠3)):=by
 obtain⟨hu,_,jb,b,_,rfl⟩:=Lh h;obtain⟨i,f1,l⟩:=Kw e hu;obtain⟨m,f2,j⟩:=Kw e d;refine⟨?_,λq f=>?_⟩;rw[(Jm _ _).1];dsimp only;rw[nr,aD λk=>ne k.1];have h1:=aiP q ((Fi g u).zip jb) {hQ (hr g u (mA g u)) s with dB:=s.dB.set u b};have ae:tape {hQ (hr g u (mA g u)) s with dB:=s.dB.set u b} q=tape s q:=by
  have c:n3 g q:=(Le e (A7 e d).1).1 q f;rw[<-aiQ (hr g u (mA g u)) s q i c (by rw[f1];exactλk=>Wm (λx y q=>adA) (A7 e hu).1 (A7 e d).1 ne q k f)];rfl
 rw[ae]at h1;exact h1
theorem aDE(u v:Nat)(s a b:fx)(ne:u≠v)(h:n' g u s=some a)(A:n' g v s=some b):∃c,n' g v a=some c/\n' g u b=some c:=by
 obtain⟨hu,o,r,p,T,t⟩:=Lh h;obtain⟨j,bH,n,bv,tn,cO⟩:=Lh A;obtain⟨Q,f1,L⟩:=Kw e hu;obtain⟨N,f2,J⟩:=Kw e j;obtain⟨E,D⟩:=Wt e ne j h;obtain⟨H,R⟩:=Wt e (d' ne) hu A;have C:=λx(d:x∈hr g v (mA g v))=>(D x.1 (by rw[<-f2];exact cU.2 ⟨x,d,rfl⟩)).Of (bH x d);have B:=λx(d:x∈hr g u (mA g u))=>(R x.1 (by rw[<-f1];exact cU.2 ⟨x,d,rfl⟩)).Of (o x d);have M:=Ws j (λx d=>(C x d).1) (s:=a) (jb:=n) (b:=bv) (by rw[E,<-tn];congr 1;exact mG λx d=>(C x d).2);have K:=Ws hu (λx d=>(B x d).1) (s:=b) (jb:=r) (b:=p) (by rw[H,<-T];congr 1;exact mG λx d=>(B x d).2);refine⟨_,M,?_⟩;rw[K];congr 1;obtain⟨_,w⟩:=A7 e hu;obtain⟨_,z⟩:=A7 e j;obtain⟨O,P⟩:=Pr e w;obtain⟨S,U⟩:=Pr e z;have m:∀(ha:List fj)(l:List (List Int)),∀x∈(ha.zip l).map gQ,x∈ha:=λha l x d=>by
  obtain⟨y,f,rfl⟩:=cU.1 d;exact(By f).1
 have i:∀(ha:List fj)(l:List (List Int)),ha.Nodup->((ha.zip l).map gQ).Nodup:=λha l F=>by
  exact F.sublist (ajQ ha l)
 have G:b.dB=s.dB.set v bv:=by rw[cO,(Jm _ _).1]
 have I:a.dB=s.dB.set u p:=by rw[t,(Jm _ _).1]
 rw[G,I,t,cO,WJ,WJ,WK (s.dB.set v bv) (hr g u (mA g u)),WK (s.dB.set u p) (hr g v (mA g v)),<-Sk,<-Sk];dsimp only;rw[aEy Q N (by rw[fF,f1,f2];exact oS.2 ⟨L,J,λx d y f k=>Wm (λx y q=>adA) (A7 e hu).1 (A7 e j).1 ne x d (by rw[k];exact f)⟩),Io _ _ ne];exact aq0 (g:=g) (λx d=>O _ (m _ r _ (cU.2 ⟨x,d,rfl⟩))) (λx d=>S _ (m _ n _ (cU.2 ⟨x,d,rfl⟩))) (by rw[fF];exact oS.2 ⟨i _ _ P,i _ _ U,λx d y f k=>Wm (λx y q=>aAW) w z ne x (m _ r _ d) (by rw[k];exact m _ n _ f)⟩) _
theorem arG(u v:Nat)(s a:fx)(ne:u≠v)(h:Bq g v s)(r:n' g u s=some a):Bq g v a:=by
 obtain⟨d,l,p⟩:=h;obtain⟨o,m⟩:=Wt e ne d r;obtain⟨B,f2,A⟩:=Kw e d;have f:=λx(c:x∈hr g v (mA g v))=>m x.1 (by rw[<-f2];exact cU.2 ⟨x,c,rfl⟩);refine⟨d,λx c k=>((f x c).Of (l x c k)).1,λz=>p ?_⟩;have i:n' g v a=some (qL g v a).1:=by unfold n';rw[aP ⟨d,z⟩]
 obtain⟨_,s1,n,bv,tn,_⟩:=Lh i;have bs:∀x∈hr g v (mA g v),¬short s x.1 x.2:=λx c k=>by
  by_cases q:x.1.1=3;exact l x c q k;obtain⟨w,t,y⟩:=f x c;have j:=s1 x c;unfold short at k j;rw[t,y (gG q),s7]at j;exact j k
 have:=Ws d bs (jb:=n) (b:=bv) (by rw[<-o,<-tn];congr 1;exact mG λx c=>((f x c).Of (bs x c)).2.symm);unfold n' at this;split at this;rename_i q;exact q.2;cases this
omit e in
theorem arF(v:Nat)(s:fx)(h:Bq g v s):n' g v s=none:=by
 unfold n';rw[aD λq=>h.2.2 q.2]
omit e in
theorem aDF(v:Nat)(s a:fx)(h:n' g v s=some a)(k:Nat):s.outs.getD k []<+:a.outs.getD k []:=by
 obtain⟨_,_,jb,b,_,rfl⟩:=Lh h;refine akH ?_ (abC k _ _);dsimp only;rw[(Px _ _).2];exact LX _
end
structure Sync(g:c8)(bc:List c9)(c:e1)(s:fx)(C:Nat)(f:List Int):Prop where
 inv:Inv g bc c s
 hand:c.hand=[]
 b7:s.dB.length=g.a8.length
 kt:∀v:Nat,v<g.a8.length->k3 C (s.dB.getD v g5)/\(s.dB.getD v g5).ins=ki g v/\(s.dB.getD v g5).outs=lW g v
 mB:∀v:Nat,v<g.a8.length->c.hP.getD v 0=g9 (ki g v)
 bj:FI g f s
section
variable {g:c8}(e:iG g=0){bc:List c9}(ao:e' g.a8.length (dv g)=0){rows:List (List Int)}{dd:List Int}(fin:Fin rows g.be.length dd bc)(pe:FZ rows g.be.length dd)
include e ao fin pe
omit e ao fin pe in
theorem ahB:∀(aE f:List Int),(fS g.a8.length (dv g) aE f).1=0->(dx (dv g) f::(fS g.a8.length (dv g) aE f).2).getLastD []=dx (dv g) (aE.foldl (λf v=>bump f v.toNat) f)
 |[],f,_=>rfl
 |v::aE,f,a=>by
  rw[fS]at a⊢;split at a;cases a;rename_i b;rw[aD b];split at a;rename_i hm;rw[aP hm];exact ahB aE _ a;cases a
omit e ao fin pe in
theorem aoj{b:List Int}(h:dx (dv g) f=dx (dv g) b)(c:FI g f s):FI g b s:=λi a=>by
 rw[c i a];have:=ee (λl:List Int=>l[i]?) h;simp only[dx,dv,dH,bZ a,rp,Qz]at this;exact this
end
theorem ayu{l:List Int}{b o:Nat}(d:b+l.length<=mem.length)(a:o<l.length):(rP mem b l).getD (b+o) 0=l.getD o 0:=by
 have c:(mem.take b).length=b:=by rw[ni];omega
 rw[rP,kC,cx,cx,FO I,c,Dq,FN a]
theorem ayv{l:List Int}{b c:Nat}(d:b+l.length<=mem.length)(ay:c<b\/b+l.length<=c):(rP mem b l).getD c 0=mem.getD c 0:=by
 have a:(mem.take b).length=b:=by rw[ni];omega
 rw[rP,kC,cx,cx];rcases ay with h|h;rw[FN I,akW h];rw[FO I,a,FO I,List.getElem?_drop];congr 2;omega
theorem afw:∀(l:List iU)(m:List Int) T,m.length=T->(∀x∈l,0<=x.base/\x.base+x.st.length<=T)->∀c:Nat,(∀x∈l,c<x.base\/x.base+x.st.length<=c)->(q1 l m).getD c 0=m.getD c 0
 |[],_,_,_,_,_,_=>rfl
 |x::l,m,T,hm,e,c,ay=>by
  have b:=e x (hU ..);have d:=ay x (hU ..);rw[q1,afw l _ T (by rw[N4 I];exact hm) (λy a=>e y (gX _ a)) c λy a=>ay y (gX _ a)];exact ayv I I
def P6(x y:iU):Prop:=x.st=[]\/y.st=[]\/x.base+x.st.length<=y.base\/y.base+y.st.length<=x.base
theorem afv:∀(l:List iU)(m:List Int) T,m.length=T->(∀x∈l,0<=x.base/\x.base+x.st.length<=T)->l.Pairwise P6->∀x∈l,∀o,o<x.st.length->(q1 l m).getD (x.base.toNat+o) 0=x.st.getD o 0
 |[],_,_,_,_,_,_,h,_,_=>by cases h
 |x::l,m,T,hm,d,hp,y,e,o,c=>by
  obtain⟨f,g⟩:=List.pairwise_cons.1 hp;have b:=d x (hU ..);have ak:(rP m x.base.toNat x.st).length=T:=by rw[N4 I];exact hm
  rw[q1];rcases ek.1 e with rfl|e;rw[afw l _ T ak (λz a=>d z (gX _ a)) _ λz a=>?_];exact ayu I c;have:=d z (gX _ a);rcases f z a with q|q|q|q;rw[q]at c;cases c;rw[q];show _\/z.base+(0:Nat)<=_;omega;omega;omega;exact afv l _ T ak (λz a=>d z (gX _ a)) g y e o c
def z8(a:iC):gy:=⟨a.tag.toNat,a.a6,zo a.tag.toNat a.a6,0,(b3 a.tag a.a6).2.1,(b3 a.tag a.a6).2.2⟩
def ag2(g:c8)(F:List (List Int)):fx:=⟨g.be.map λx=>⟨x.st,0⟩,(fL g.ins.length).map λi=>⟨F.getD i [],0⟩,bh g.outs.length [],g.a8.map z8⟩
theorem apM(F:List (List Int)){i:Nat}(a:i<n):(F.take n++bh (n-F.length) []).getD i []=F.getD i []:=by
 rw[cx,cx];by_cases h:i<F.length;rw[FN (by rw[ni];omega),akW a];rw[FO (by rw[ni];omega),l6 (X5 h),zO];split<;>rfl
theorem aDM(e:iG g=0)(L:∀x∈g.be,x.st.length=x.n){T:Int}{f:eJ}{p:iw}(md:L2 g bc T f p)(F:List (List Int)){rows:List (List Int)}{dd:List Int}(fin:Fin rows g.be.length dd bc)(pe:FZ rows g.be.length dd)(H:dx (dv g) (bh g.a8.length 0)∈rows)(G:∀i,i<g.be.length->(hN bc i).1+(hN bc i).2<=T)(hC:C<=100000000):Sync g bc (core {h8 p with cL:=F.take p.ins.toNat++bh (p.ins.toNat-F.length) []}) (ag2 g F) C (bh g.a8.length 0):=by
 obtain⟨m1,m2,m3,m4,m5,m6,m7⟩:=md;have S:=yB e;have R:p.lines.length=g.be.length:=by
  have:=ee fi m6;rw[gz,List.length_zipWith,fin.len,Nat.min_self]at this;exact this
 have r:∀i(d:i<g.be.length),(p.lines[i]'I).base=(hN bc i).1/\(p.lines[i]'I).size=(hN bc i).2/\(p.lines[i]'I).st=g.be[i].st:=λi d=>by
  have E:i<bc.length:=by rw[fin.len];exact d
  have h:=ee (λl=>l[i]?) m6;simp only[dH,akX,bZ d,bZ E,bZ (by omega:i<p.lines.length),rp,Qz,wZ]at h;unfold hN;rw[cx,bZ E];exact h
 have t:∀i(d:i<g.be.length),(dx (dv g) (bh g.a8.length 0)).getD i 0=(g.be[i].st.length:Int):=λi d=>by
  have z:∀k,(bh g.a8.length (0:Int)).getD k 0=0:=λk=>by
   rw[cx,zO];split<;>rfl
  rw[L _ (cG d)];unfold dx dv;rw[cx,dH,dH,bZ d];show(g.be[i].n:Int)+_*(bh g.a8.length (0:Int)).getD _ 0-_*(bh g.a8.length (0:Int)).getD _ 0=_;rw[z,z];omega
 have fit:∀i(d:i<g.be.length),(g.be[i].st.length:Int)<=(hN bc i).2:=λi d=>by
  rw[<-t i d,fin.size i d];exact pe.up i d _ H
 have D:∀x∈p.lines,0<=x.base/\x.base+x.st.length<=p.mem.toNat:=λx N=>by
  obtain⟨i,d,rfl⟩:=oe N;have m:i<g.be.length:=I;obtain⟨a,b,c⟩:=r i m;rw[a,c];have:=fit i m;have:=fin.base i m;have:=G i m;omega
 have V:p.lines.Pairwise P6:=by
  rw[LW];intro i o d w tu;have m:i<g.be.length:=I;have s:o<g.be.length:=I;obtain⟨a,b,c⟩:=r i m;obtain⟨Q,X,P⟩:=r o s;unfold P6;rw[a,c,Q,P];by_cases q:g.be[i].st=[];exact bW q;by_cases fg:g.be[o].st=[];exact bl (bW fg);have Y:=ak3.2 q;have Z:=ak3.2 fg;have J:wo rows i o=true:=Qk.2 ⟨_,H,by simp only[oJ,t i m,t o s,h0,uB];omega⟩;have ap:=fin.apart i m o s ((ZA m s I).2 J);rw[FG,ne_eq,Fj]at ap;have:=fit i m;have:=fit o s;right;right;omega
 have A:(q1 p.lines (bh p.mem.toNat 0)).length=p.mem.toNat:=On _ _ _ bd D;have pl:p.parts.length=g.a8.length:=by
  have:=ee fi m5;rwa[gz,gz]at this
 have dB:p.parts.map z7=g.a8.map z8:=by
  have h1:p.parts.map z7=(p.parts.map λx=>(x.tag,x.a6)).map λx=>z8 ⟨aGu,x.1,none,0,0,x.2⟩:=by rw[iD];rfl
  rw[h1,m5,iD];rfl
 have y:∀v:Nat,(j:v<g.a8.length)->(g.a8.map z8).getD v g5=z8 g.a8[v]:=λv j=>by
  rw[cx,dH,bZ j];rfl
 have B:∀v:Nat,(j:v<g.a8.length)->ki g v=(b3 g.a8[v].tag g.a8[v].a6).2.1/\lW g v=(b3 g.a8[v].tag g.a8[v].a6).2.2:=λv j=>by
  simp[ki,lW,bZ j]
 refine⟨⟨?_,?_,λi d=>?_,λi d=>?_,?_,?_,λi d=>?_,?_,?_,?_⟩,rfl,?_,λv j=>?_,λv j=>?_,λi d=>?_⟩;show(p.lines.map _).length=_;rw[gz];exact R;show(g.be.map _).length=_;rw[gz];obtain⟨a,b,c⟩:=r i d;have M:(p.lines.map λx=>(⟨x.base,x.size,0,x.st.length⟩:kp)).getD i je=⟨(hN bc i).1,(hN bc i).2,0,g.be[i].st.length⟩:=by
  rw[cx,dH,bZ (by omega:i<p.lines.length),<-a,<-b,<-c];rfl
 have u:(g.be.map λx=>(⟨x.st,0⟩:iE)).getD i fP=⟨g.be[i].st,0⟩:=by
  rw[cx,dH,bZ d];rfl
 show uh (q1 p.lines (bh p.mem.toNat 0)) ((p.lines.map λx=>(⟨x.base,x.size,0,x.st.length⟩:kp)).getD i je) ((g.be.map λx=>(⟨x.st,0⟩:iE)).getD i fP);rw[M,u];have K:=fit i d;have O:=fin.base i d;have W:=G i d;refine⟨cW _,by show(g.be[i].st.length:Int)=g.be[i].st.length- (0:Nat);omega,K,O,by rw[A];show(hN bc i).1+(hN bc i).2<=_;omega,vp _,λo w=>?_⟩;have w:(o:Int)<g.be[i].st.length:=w;show(q1 p.lines (bh p.mem.toNat 0)).getD ((hN bc i).1+(0+(o:Int))% (hN bc i).2).toNat 0=g.be[i].st.getD (0+o) 0;have:=afv p.lines (bh p.mem.toNat 0) p.mem.toNat bd D V (p.lines[i]'I) (cG _) o (by rw[c];omega);rw[a,c]at this;rw[Int.zero_add,dM,akC I I,<-this];congr 1;omega;obtain⟨a,b,c⟩:=r i d;show((p.lines.map λx=>(⟨x.base,x.size,0,x.st.length⟩:kp)).getD i je).base=_/\((p.lines.map λx=>(⟨x.base,x.size,0,x.st.length⟩:kp)).getD i je).size=_;rw[cx,dH,bZ (by omega:i<p.lines.length)];exact⟨a,b⟩;show(F.take p.ins.toNat++bh (p.ins.toNat-F.length) []).length=_;rw[fc,ni,wR];omega;show((fL g.ins.length).map _).length=_;simp;have u:((fL g.ins.length).map λi=>(⟨F.getD i [],0⟩:iE)).getD i fP=⟨F.getD i [],0⟩:=by
  rw[cx,dH,Dm d];rfl
 show(F.take p.ins.toNat++bh (p.ins.toNat-F.length) []).getD i []=(((fL g.ins.length).map λi=>(⟨F.getD i [],0⟩:iE)).getD i fP).l.drop (((fL g.ins.length).map λi=>(⟨F.getD i [],0⟩:iE)).getD i fP).k/\(((fL g.ins.length).map λi=>(⟨F.getD i [],0⟩:iE)).getD i fP).k<=(((fL g.ins.length).map λi=>(⟨F.getD i [],0⟩:iE)).getD i fP).l.length;rw[u,apM F (by omega:i<p.ins.toNat)];exact⟨rfl,cW _⟩;show bh p.outs.toNat []=bh g.outs.length [];rw[m4];rfl;show(bh p.outs.toNat []).length=_;rw[m4];simp;exact dB;show(g.a8.map z8).length=_;rw[gz];have U:=S.t8 _ (cG j);show k3 C ((g.a8.map z8).getD v g5)/\((g.a8.map z8).getD v g5).ins=_/\((g.a8.map z8).getD v g5).outs=_;rw[y v j,(B v j).1,(B v j).2];exact⟨Y8 (x:=⟨g.a8[v].tag,none,0,0,g.a8[v].a6⟩) U hC,rfl,rfl⟩;show(p.parts.map λx=>g9 (b3 x.tag x.a6).2.1).getD v 0=_;have h1:(p.parts.map λx=>g9 (b3 x.tag x.a6).2.1)=(p.parts.map λx=>(x.tag,x.a6)).map λx=>g9 (b3 x.1 x.2).2.1:=by rw[iD];rfl
 rw[h1,m5,iD,cx,dH,bZ j,(B v j).1];rfl;show((g.be.map λx=>(⟨x.st,0⟩:iE)).getD i fP).bj=_;rw[cx,dH,bZ d];have:=t i d;unfold dx dv at this;rw[cx,dH,dH,bZ d]at this;refine Eq.trans ?_ this.symm;show(g.be[i].st.length:Int)- (0:Nat)=_;omega
theorem ap2(g:c8)(v:Nat)(s:fx)(h:(qL g v s).2≠0):2<=(qL g v s).2/\(qL g v s).1=s:=by
 unfold qL sm at h⊢;split;exact⟨dz 2,rfl⟩;rename_i k;rw[aD k]at h;split;exact⟨by show 2<=3;decide,rfl⟩;rename_i e;rw[e]at h;exact absurd rfl h
def s5(g:c8)(full:List Nat)(s:fx)(wr:List (List Int))(code:Nat):Prop:=∃α t,path (n' g) α s=some t/\wr=t.outs/\((code=0/\α=full)\/(2<=code/\∃v β,full=α++v::β/\Bq g v t))
theorem s5.pre{full:List Nat}{t:fx}{wr:List (List Int)}{code:Nat}(h:path (n' g) l s=some t)(e:s5 g full t wr code):s5 g (l++full) s wr code:=by
 obtain⟨α,g',p,w,k⟩:=e;refine⟨l++α,g',by rw[agW _ _ _ _ h];exact p,w,?_⟩;rcases k with⟨a,b⟩|⟨a,v,β,b,c⟩;exact bW ⟨a,by rw[b]⟩;exact bl ⟨a,v,β,by rw[b,kC],c⟩
theorem s5.post{full:List Nat}{wr:List (List Int)}{code:Nat}(e:s5 g l s wr code)(h:code≠0):s5 g (l++full) s wr code:=by
 obtain⟨α,g',p,w,k⟩:=e;rcases k with⟨a,b⟩|⟨a,v,β,b,c⟩;exact absurd a h;exact⟨α,g',p,w,bl ⟨a,v,β++full,by rw[b,kC];rfl,c⟩⟩
section
variable {g:c8}(e:iG g=0){bc:List c9}(ao:e' g.a8.length (dv g)=0){rows:List (List Int)}{dd:List Int}(fin:Fin rows g.be.length dd bc)(pe:FZ rows g.be.length dd)
include e ao fin pe
theorem aEi(y:Sync g bc c s (C+1) f)(p:f.length=g.a8.length)(hm:may g.a8.length (dv g) f v=true)(k:dx (dv g) (bump f v)∈rows):((fI ((gd g).getD v []) c).2=0->∃t,n' g v s=some t/\Sync g bc (fI ((gd g).getD v []) c).1 t C (bump f v))/\((fI ((gd g).getD v []) c).2≠0->2<=(fI ((gd g).getD v []) c).2/\Bq g v s/\(fI ((gd g).getD v []) c).1.wr=s.outs):=by
 have a:v<g.a8.length:=(Om.1 hm).1;obtain⟨S,T⟩:=A7 e a;obtain⟨l,n,o⟩:=y.kt v a;obtain⟨d,j,m⟩:=ap5 e y.inv y.hand a y.b7 l n o (y.mB v a) p ao y.bj hm fin pe k S T;have d:(fI ((gd g).getD v []) c).2=(qL g v s).2:=d;refine⟨λh=>?_,λh=>?_⟩;obtain⟨i1,i2,i3,i4,b,i5,i6,i7,i8⟩:=m h;refine⟨(qL g v s).1,by unfold n';rw[aP ⟨a,by rw[<-d];exact h⟩],?_⟩;refine⟨i1,i2,by unfold qL;rw[i8,h2];exact y.b7,λu hu=>?_,λu hu=>by rw[i3];exact y.mB u hu,i4⟩;unfold qL;rw[i8,nr];split;rename_i h;rw[<-h.1];exact⟨i5,i6,i7⟩;obtain⟨c1,c2⟩:=y.kt u hu;exact⟨c1.less,c2⟩;have i:(qL g v s).2≠0:=by rw[<-d];exact h
 obtain⟨g1,g2⟩:=ap2 g v s i;refine⟨by rw[d];exact g1,⟨a,af2 e ao S y.bj hm,i⟩,(j h).trans ?_⟩;show(qL g v s).1.outs=s.outs;rw[g2]
theorem aiA:∀(aE f:List Int)(c:e1)(s:fx)(C:Nat),Sync g bc c s (C+aE.length) f->f.length=g.a8.length->(fS g.a8.length (dv g) aE f).1=0->(∀r∈(fS g.a8.length (dv g) aE f).2,r∈rows)->((h7 (gd g) aE c).2=0->∃t,path (n' g) (aE.map x6) s=some t/\Sync g bc (h7 (gd g) aE c).1 t C (aE.foldl (λf v=>bump f v.toNat) f))/\((h7 (gd g) aE c).2≠0->s5 g (aE.map x6) s (h7 (gd g) aE c).1.wr (h7 (gd g) aE c).2)
 |[],f,c,s,C,y,_,_,_=>⟨λ_=>⟨s,rfl,y⟩,λh=>absurd rfl h⟩
 |v::aE,f,c,s,C,y,k,a,b=>by
  rw[fS]at a b;split at a;cases a;rename_i o;rw[aD o]at b;split at a;rename_i hm;rw[aP hm]at b;have w:((v.toNat:Nat):Int)=v:=I;obtain⟨n,m⟩:=aEi e ao fin pe (v:=v.toNat) y k (by rw[w];exact hm) (b _ (hU ..));rw[h7,ec];by_cases h:(fI ((gd g).getD v.toNat []) c).2=0;rw[aP h];obtain⟨t,j,q⟩:=n h;obtain⟨d,i⟩:=aiA aE (bump f v.toNat) _ _ C q (by unfold bump;rw[h2];exact k) a λr x=>b r (gX _ x);refine⟨λz=>?_,λz=>?_⟩;obtain⟨g',u,A⟩:=d z;exact⟨g',wW.2 ⟨t,j,u⟩,A⟩;exact s5.pre (l:=[v.toNat]) (wW.2 ⟨t,j,rfl⟩) (i z);rw[aD h];obtain⟨d,i,p⟩:=m h;exact⟨λz=>absurd z h,λ_=>⟨[],s,rfl,p,bl ⟨d,_,_,rfl,i⟩⟩⟩;cases a
theorem aiB{aE f:List Int}(j:f.length=g.a8.length)(d:(fS g.a8.length (dv g) aE f).1=0)(i:∀r∈(fS g.a8.length (dv g) aE f).2,r∈rows)(home:dx (dv g) (aE.foldl (λf v=>bump f v.toNat) f)=dx (dv g) f):∀(n:Nat)(c:e1)(s:fx),Sync g bc c s (n*aE.length) f->s5 g (bh n (aE.map x6)).flatten s (u4 (gd g) aE n c).1.wr (u4 (gd g) aE n c).2
 |0,c,s,y=>⟨[],s,rfl,y.inv.wr,bW ⟨rfl,rfl⟩⟩
 |n+1,c,s,y=>by
  have a:Sync g bc c s (n*aE.length+aE.length) f:=by rw[BD,alB]at y;exact y
  obtain⟨l,k⟩:=aiA e ao fin pe aE f c s (n*aE.length) a j d i;rw[u4,wS,oR];by_cases h:(h7 (gd g) aE c).2=0;obtain⟨t,m,b⟩:=l h;have hp:ql (gd g) aE c=h7 (gd g) aE c:=by
   unfold ql;rw[aD (λx=>x.2 b.hand)]
  rw[hp,aP h];exact s5.pre m (aiB j d i home n _ _ {b with bj:=aoj home b.bj});have hp:ql (gd g) aE c=h7 (gd g) aE c:=by
   unfold ql;rw[aD (λx=>h x.1)]
  rw[hp,aD h];exact(k h).post h
end
theorem ah8(N:Nat)(ad:List bT)(a:List Nat)(w:Nat):∀(n:Nat)(f:List Int)(left l:List Nat),(t' N ad a n f left l).2.count w+(t' N ad a n f left l).1.getD w 0=l.count w+left.getD w 0
 |0,_,_,_=>rfl
 |n+1,f,left,l=>by
  rw[t'];split;rfl;rename_i v b;obtain⟨hp,_⟩:=Q2 b;have c:v<left.length:=by
   refine Xp λq=>?_;rw[cx,l6 I]at hp;exact Nat.lt_irrefl _ hp
  rw[ah8 N ad a w n,XP];by_cases e:v=w;subst e;have ae:[v].count v=1:=bd;rw[ae,nr,aP ⟨rfl,c⟩];omega;have ae:[v].count w=0:=by simp[e]
  rw[ae,nr,aD λq=>e q.1];omega
theorem ah'{N:Nat}{ad:List bT}{dw:List Nat}(h:q' N ad dw aE=some l)(w:Nat):l.count w=dw.getD w 0:=by
 unfold q' at h;split at h;split at h;rename_i q;cases h;have:=ah8 N ad (wx N aE) w (dw.sum+1) (bh N 0) dw [];have z:(t' N ad (wx N aE) (dw.sum+1) (bh N 0) dw []).1.getD w 0=0:=by
  rw[cx];cases k:(t' N ad (wx N aE) (dw.sum+1) (bh N 0) dw []).1[w]?with
  |none=>rfl
  |some x=>exact q x (Bw k)
 rw[z]at this;simpa using this;cases h;cases h
theorem azN(l:List Nat):(jG l).map x6=l:=by
 unfold jG;rw[iD];exact(mG λx _=>bd).trans (ak6 l)
theorem aox(w n:Nat)(l:List Nat):(bh n l).flatten.count w=n*l.count w:=by
 induction n with
 |zero=>simp
 |succ n a=>rw[wS,oR,XP,a,BD,alB,Nat.add_comm]
theorem zP.ends{h:J}{x:Dp}(m:zP g aE h x)(D:∀e∈g.be,e.st.length=e.n)(F:List (List Int))(w:n<=8):∃r code,runM (n*(h' (gd g) x.cQ.bM+1)+1) {h8 x.p with cL:=F.take x.p.ins.toNat++bh (x.p.ins.toNat-F.length) []} (0+(n:Int))=some r/\r.2=(if code=0 then 1 else code)/\s5 g (bh n x.l).flatten (ag2 g F) r.1.wr code:=by
 have A:=m.tg.e';have z:=m.tg.kv;rw[EX]at A z;obtain⟨hp,G⟩:=Ms A;obtain⟨dw,os,bc,dT,P,O,j,L,M,N,md,DR⟩:=m.ex;have H:∀r∈gd g,∀U∈r,3<=U.k:=λr d U E=>(aa6 m.g0 r d U E).three;have ay:iy x.cQ.bM 0 0<=({h8 x.p with cL:=F.take x.p.ins.toNat++bh (x.p.ins.toNat-F.length) []}:e1).cS.length:=by
  show _<=(bh x.p.bj.toNat (0:Int)).length;rw[wR];have:=md.2.1;omega
 obtain⟨r,d,c,b⟩:=aCP (gd g) H x.cQ.bM hp (WL _ hp G) n {h8 x.p with cL:=F.take x.p.ins.toNat++bh (x.p.ins.toNat-F.length) []} md.2.2.2.2.2.2 rfl ay;rw[z]at c b;have a:=Ux j;have mN:(dv g).length=g.be.length:=gz ..;have pe:=(Ku a).1;have B:∀i,0<=pd (lm (eo g.a8.length (dv g) (jG x.l)).2) i:=λi=>by
  by_cases u:i<(dv g).length;exact((Ku a).2 i u).1;unfold pd;rw[cx,l6 (by rw[pe.len];omega)];exact vp _
 have fin:=ahG M B L;rw[mN]at pe fin;have s:e' g.a8.length (dv g)=0:=by
  refine wJ λq=>?_;unfold eo at a;rw[aD q]at a;exact q a
 have K:(jG x.l).length<=2048:=by
  refine wJ λq=>?_;unfold eo at a;rw[aP s,aP I]at a;cases a
 have o:eo g.a8.length (dv g) (jG x.l)=((fS g.a8.length (dv g) (jG x.l) (bh g.a8.length 0)).1,dx (dv g) (bh g.a8.length 0)::(fS g.a8.length (dv g) (jG x.l) (bh g.a8.length 0)).2):=by
  unfold eo;rw[aP s,aD I];rfl
 have y:(fS g.a8.length (dv g) (jG x.l) (bh g.a8.length 0)).1=0:=by rw[o]at a;exact a
 have home:AE g.a8.length (dv g) (jG x.l)=true:=by
  refine wJ λq=>?_;unfold mo at j;rw[aD (λk=>k a),aD q]at j;cases j
 have hm:dx (dv g) ((jG x.l).foldl (λf v=>bump f v.toNat) (bh g.a8.length 0))=dx (dv g) (bh g.a8.length 0):=by
  unfold AE at home;rw[h0,uB,uB,o]at home;rw[<-ahB (jG x.l) _ y,<-home.2];rfl
 have t:=aDM m.g0 D md F fin pe (by rw[o];exact hU ..) (λi u=>by rw[N];exact apS fin u) (C:=n*(jG x.l).length) (by
  have:n*(jG x.l).length<=8*2048:=Nat.mul_le_mul w K;omega)
 have q:=aiB m.g0 s fin pe (wR ..) y (λr d=>by rw[o];exact gX _ d) hm n _ _ t;rw[azN]at q;refine⟨r,_,d,b,?_⟩;have:r.1.wr=(core r.1).wr:=rfl;rw[this,c];exact q
theorem zP.aAT{R:List Int}{h E:J}{x y:Dp}(m:zP g aE h x)(K:zP g R E y){d e:List (List Int)}{f i:Nat}(ex:s5 g (bh n x.l).flatten s d f)(A:s5 g (bh n y.l).flatten s e i):(f=0↔i=0)/\(f=0->d=e)/\∀k,d.getD k []<+:e.getD k []\/e.getD k []<+:d.getD k []:=by
 obtain⟨dw,_,_,_,L,a2,_⟩:=m.ex;obtain⟨C,_,_,_,p,N,_⟩:=K.ex;rw[L]at p;cases p;obtain⟨α,t,O,rfl,o⟩:=ex;obtain⟨β,r,Q,rfl,u⟩:=A;have full:∀l:List Nat,(∀w,l.count w=dw.getD w 0)->∀w,(bh n l).flatten.count w=n*dw.getD w 0:=λl ak w=>by rw[aox,ak]
 have f1:=full x.l (ah' a2);have f2:=full y.l (ah' N);have b:∀{α full:List Nat}{t:fx}{c:Nat},(∀w,full.count w=n*dw.getD w 0)->((c=0/\α=full)\/(2<=c/\∃v β,full=α++v::β/\Bq g v t))->(c=0->∀w,α.count w=n*dw.getD w 0)/\(¬c=0->∃v,α.count v<n*dw.getD v 0/\Bq g v t):=by
  intro α full t c j k;rcases k with⟨P,rfl⟩|⟨c2,v,β,rfl,F⟩;exact⟨λ_=>j,λq=>absurd P q⟩;refine⟨λq=>I,λ_=>⟨v,?_,F⟩⟩;have:=j v;rw[XP,List.count_cons_self]at this;omega
 obtain⟨D,B,c,G,M⟩:=ayg (st:=n' g) (H:=Bq g) (ar:=λs t=>∀k,s.outs.getD k []<+:t.outs.getD k []) (aDE m.g0) arF (arG m.g0) (λs k=>LX _) (λv s a c h1 ae k=>(aDF v s a h1 k).trans (ae k)) O Q (b f1 o).1 (b f2 u).1 (b f1 o).2 (b f2 u).2;exact⟨D,λz=>by rw[B z],λk=>List.prefix_or_prefix_of_prefix (G k) (M k)⟩
end Go.Sx
