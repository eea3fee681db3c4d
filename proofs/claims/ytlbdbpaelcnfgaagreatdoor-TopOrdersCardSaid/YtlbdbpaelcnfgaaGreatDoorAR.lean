/- A part of the proof that the statement holds. Conditions: none. -/
import Derived.WalkKit
import Derived.Test.YtlbdbpaelcnfgaaGreatDoorAO
import Derived.Test.YtlbdbpaelcnfgaaGreatDoorAQ
open Array renaming toArray_toList->FD
open Bool renaming and_eq_true->h0,and_false->Xj,false_and->Bk,or_eq_false_iff->Xk,true_and->zB
open Classical renaming not_not->jL
open Go renaming Addr->aI,Program->eN,Value->ax,World->bw,callsD_of_wpS->Zm,execOp->dk,maxLen->eD,recoverD->KY,undef->fp,wpOpsS->Ls,wpS_cond->ajD,wpS_of_wp->ajE,wpS_region->Lt,wpS_seq->Lu,wp_mono->xW
open Go.Addr renaming mk->nI
open Go.Exit renaming thenS->H9
open Go.Obj renaming cells->bb
open Go.Proofs.Tryz renaming func151->alX,func155->QK,ntmps155->amd,prog->aB,results155->amf
open Go.Region renaming wanted->hF
open Go.Value renaming bool->c5,int->bA,oneCell'->zX,pointer->gv,slice->ab,tuple->ey
open Int renaming toNat_natCast->bz,toNat_of_nonneg->pr
open List renaming all_eq_false->Qj,all_eq_true->rl,count_cons->Bt,count_le_length->akL,getD_eq_getElem?_getD->cx,getElem?_eq_getElem->bZ,getElem?_eq_none->l6,getElem?_eq_some_iff->pZ,getElem?_map->dH,getElem?_range->Dm,getElem?_replicate->zO,getElem?_set->s8,getElem_mem->cG,getElem_of_mem->oe,length_append->fc,length_cons->iv,length_set->h2,map_append->fF,map_cons->ec,map_map->iD,map_replicate->s9,map_set->lM,mem_append->ej,mem_append_left->Bv,mem_flatten->ak9,mem_map->cU,range->fL,replicate->bh,set_cons_succ->LZ,take_length->r5,take_of_length_le->lN
open Nat renaming add_zero->zQ,and_two_pow_sub_one_eq_mod->Ir,ble->p0,div_eq_of_lt->L3,div_le_self->oT,div_pos->alo,gcd->h3,gcd_le_right->alq,gcd_pos_of_pos_right->Qv,le_refl->dz,le_trans->og,mod_eq_of_lt->Is,mul_le_mul->lP,mul_one->eV,mul_pos->alA,strongRecOn->Qx,succ_mul->zS,zero_add->dM,zero_le->cW,zero_mod->alE,zero_mul->FV
open Ne renaming symm->d'
open Option renaming map_eq_some_iff->ye
open Or renaming inl->bW,inr->bl
namespace Go.Sx
open Go.Proofs
set_option maxRecDepth 100000
set_option maxHeartbeats 0
set_option linter.all false
variable {a b x:Nat}
def v'(x y:Nat):Nat:=
 let t:=((x/2^32)*(y&&&4294967295)%18446744073709551616+((x&&&4294967295)*(y&&&4294967295)%18446744073709551616)/2^32)%18446744073709551616
 (((x/2^32)*(y/2^32)%18446744073709551616+t/2^32)%18446744073709551616+(((t&&&4294967295)+(x&&&4294967295)*(y/2^32)%18446744073709551616)%18446744073709551616)/2^32)%18446744073709551616
theorem UM x y h(R:x<18446744073709551616)(O:y<18446744073709551616):Fn aB 148 #[eh x,eh y] h λv Q=>v=ey #[eh (v' x y),eh (x*y%18446744073709551616)]/\Q=h:=by
 obtain⟨a,s⟩:∃z,z=x&&&4294967295:=⟨_,rfl⟩;obtain⟨c,r⟩:∃z,z=x/2^32:=⟨_,rfl⟩;obtain⟨d,A⟩:∃z,z=y&&&4294967295:=⟨_,rfl⟩;obtain⟨b,C⟩:∃z,z=y/2^32:=⟨_,rfl⟩;obtain⟨a',J⟩:∃z,z=a*d%18446744073709551616:=⟨_,rfl⟩;obtain⟨D,L⟩:∃z,z=c*d%18446744073709551616:=⟨_,rfl⟩;obtain⟨F,M⟩:∃z,z=a'/2^32:=⟨_,rfl⟩;obtain⟨t,f⟩:∃z,z=(D+F)%18446744073709551616:=⟨_,rfl⟩;obtain⟨B,j⟩:∃z,z=t&&&4294967295:=⟨_,rfl⟩;obtain⟨E,e⟩:∃z,z=t/2^32:=⟨_,rfl⟩;obtain⟨H,k⟩:∃z,z=a*b%18446744073709551616:=⟨_,rfl⟩;obtain⟨G,l⟩:∃z,z=(B+H)%18446744073709551616:=⟨_,rfl⟩;obtain⟨K,m⟩:∃z,z=c*b%18446744073709551616:=⟨_,rfl⟩;obtain⟨N,n⟩:∃z,z=(K+E)%18446744073709551616:=⟨_,rfl⟩;obtain⟨g,o⟩:∃z,z=G/2^32:=⟨_,rfl⟩;obtain⟨u,p⟩:∃z,z=(N+g)%18446744073709551616:=⟨_,rfl⟩;obtain⟨T,q⟩:∃z,z=x*y%18446744073709551616:=⟨_,rfl⟩;have i:v' x y=u:=by rw[p,o,n,m,l,k,e,j,f,M,L,J,C,A,r,s];rfl
 have S:t<18446744073709551616:=I;rw[i,<-q];clear i;exact b6 awH rfl (.mk (eh a) (λP w=>by rw[s];exact PF R aM) (.mk (eh c) (λP w=>by rw[r];exact C7 (y:=32) aM) (.mk (eh d) (λP w=>by rw[A];exact PF O aM) (.mk (eh b) (λP w=>by rw[C];exact C7 (y:=32) aM) (.mk (eh a') (λP w=>by rw[J];rfl) (.mk (eh D) (λP w=>by rw[L];rfl) (.mk (eh F) (λP w=>by rw[M];exact C7 (y:=32) aM) (.mk (eh t) (λP w=>by rw[f];rfl) (.mk (eh B) (λP w=>by rw[j];exact PF S aM) (.mk (eh E) (λP w=>by rw[e];exact C7 (y:=32) aM) (.mk (eh H) (λP w=>by rw[k];rfl) (.mk (eh G) (λP w=>by rw[l];rfl) (.mk (eh K) (λP w=>by rw[m];rfl) (.mk (eh N) (λP w=>by rw[n];rfl) (.mk (eh g) (λP w=>by rw[o];exact C7 (y:=32) aM) (.mk (eh u) (λP w=>by rw[p];rfl) (.mk (eh T) (λP w=>by rw[q];rfl) (.ah ⟨rfl,rfl⟩))))))))))))))))))
theorem asL{y:Nat}(b:x<4294967296)(a:y<4294967296):v' x y=0:=by
 have h1:x/2^32=0:=L3 b;have ae:y/2^32=0:=L3 a;have d:x&&&4294967295=x:=by rw[show(4294967295:Nat)=2^32-1 from rfl,Ir];omega
 have c:y&&&4294967295=y:=by rw[show(4294967295:Nat)=2^32-1 from rfl,Ir];omega
 have g:x*y<=4294967295*4294967295:=lP I I;have e:x*y%18446744073709551616=x*y:=Is I;have f:x*y/4294967296<4294967296:=I;have h:x*y/4294967296&&&4294967295=x*y/4294967296:=by rw[show(4294967295:Nat)=2^32-1 from rfl,Ir];omega
 unfold v'
 grind
theorem asK(c:x<9223372036854775808):v' x 1=0:=by
 have ae:(1:Nat)/2^32=0:=aM;have a:(1:Nat)&&&4294967295=1:=aM;have b:x&&&4294967295=x%4294967296:=by rw[show(4294967295:Nat)=2^32-1 from rfl,Ir]
 unfold v';simp only[ae,a,b,Nat.mul_zero,alE,dM,eV,show(2:Nat)^32=4294967296 from rfl];rw[show(x/4294967296%18446744073709551616+x%4294967296%18446744073709551616/4294967296)%18446744073709551616=x/4294967296 by omega];have d:x/4294967296&&&4294967295=x/4294967296:=by
  rw[show(4294967295:Nat)=2^32-1 from rfl,Ir];omega
 omega
theorem asJ(c:x<9223372036854775808):v' 1 x=0:=by
 have ae:(1:Nat)/2^32=0:=aM;have a:(1:Nat)&&&4294967295=1:=aM;have b:x&&&4294967295=x%4294967296:=by rw[show(4294967295:Nat)=2^32-1 from rfl,Ir]
 unfold v';simp only[ae,a,b,FV,alE,dM,Nat.one_mul,show(2:Nat)^32=4294967296 from rfl];rw[show x%4294967296%18446744073709551616/4294967296%18446744073709551616=0 by omega]
 grind
theorem afD x y h(c:x<4294967296)(a:y<4294967296):Fn aB 148 #[eh x,eh y] h λv b=>v=ey #[eh 0,eh (x*y)]/\b=h:=by
 have:=UM x y h I I;rw[asL c a,Is (Nat.lt_of_le_of_lt (lP (show x<=4294967295 by omega) (show y<=4294967295 by omega)) aM)]at this;omega
def vM:Nat->Nat->Nat->Nat
 |0,a,_=>a
 |n+1,a,b=>if b=0 then a else if b/2^lG b<a then vM n (b/2^lG b) (a-b/2^lG b)else vM n a (b/2^lG b-a)
def qH(a b:Nat):Nat:=if a=0\/b=0 then a|||b else vM (a/2^lG a+b+1) (a/2^lG a) b*2^lG (a|||b)
def PD:Nat->Bool
 |0=>true
 |n+1=>p0 1 ((n+1)/2^lG (n+1))&&p0 (lG (n+1)) 13&&PD n
theorem ajb:∀n,PD n=true->∀x,0<x->x<=n->1<=x/2^lG x/\lG x<=13
 |0,_,x,al,h1=>by omega
 |n+1,h,x,al,h1=>by
  simp only[PD,h0,Nat.ble_eq]at h;by_cases a:x=n+1
  grind
  exact ajb n h.2 x al I
theorem aFu:PD 8191=true:=e2
theorem HU(al:0<x)(h1:x<=8191):1<=x/2^lG x/\lG x<=13:=ajb _ aFu x al h1
theorem Q4:∀n a b,1<=a->a<=4096->b<=4096->a+b<n->1<=vM n a b/\vM n a b<=4096
 |0,_,_,_,_,_,h=>by omega
 |n+1,a,b,h1,ae,e,c=>by
  unfold vM;split;exact⟨h1,ae⟩;rename_i d;have⟨t1,_⟩:=HU (x:=b) I I;have t2:=oT b (2^lG b);split;exact Q4 n _ _ t1 I I I;exact Q4 n _ _ h1 ae I I
theorem OO(c:a<=4096)(d:b<=4096):a|||b<=8191:=by
 have:=Nat.or_lt_two_pow (n:=13) (show a<2^13 by omega) (show b<2^13 by omega);omega
theorem agA(h:¬(a=0/\b=0)):0<a|||b:=by
 rcases Nat.eq_zero_or_pos (a|||b)with e|e;exact absurd (Nat.or_eq_zero_iff.1 e) h;exact e
theorem ah4{s:Nat}(b:a<=4096)(c:s<=13):a*2^s<=33554432:=lP b (Nat.pow_le_pow_right aM c:2^s<=2^13)
theorem ZV(e:a<=4096)(c:b<=4096)(h:¬(a=0/\b=0)):1<=qH a b/\qH a b<=33554432:=by
 have d:=OO e c;have hp:=agA h;unfold qH;split;omega;have⟨t1,_⟩:=HU (x:=a) I I;have t2:=oT a (2^lG a);have⟨_,t3⟩:=HU hp d;have⟨f,g⟩:=Q4 (a/2^lG a+b+1) _ b t1 I c I;exact⟨alA f (Nat.pow_pos aM),ah4 g t3⟩
theorem ZU a b h(t:a<=4096)(m:b<=4096)(p:vz h):Fn aB 149 #[eh a,eh b] h λv l=>v=eh (qH a b)/\l=h:=by
 refine b6 awI rfl ?_;obtain⟨U,d⟩:∃U,U=a|||b:=⟨_,rfl⟩;have o:∀(P:eN)(w:bw),(binOp .or 0 (eh a) (eh b)).run P w= .ok (eh U) w:=λP w=>by rw[d];exact aFx I I
 have g:=OO t m;rw[<-d]at g;refine aY (λC=>?_) (λC=>?_);exact .mk _ o (.ah ⟨by show eh U=_;rw[qH,aP I,d],rfl⟩);refine aY (λA=>?_) (λA=>?_);exact .mk _ o (.ah ⟨by show eh U=_;rw[qH,aP I,d],rfl⟩);have r:0<U:=by rw[d];exact agA I
 have G:qH a b=vM (a/2^lG a+b+1) (a/2^lG a) b*2^lG U:=by rw[qH,aD I,d]
 rw[G];obtain⟨i,B⟩:=HU (x:=a) I I;obtain⟨_,j⟩:=HU r g;obtain⟨k,aT⟩:∃z,z=a/2^lG a:=⟨_,rfl⟩;rw[<-aT]at i⊢;have F:k<=4096:=by rw[aT];exact og (oT _ _) t
 obtain⟨s,dr⟩:∃z,z=lG U:=⟨_,rfl⟩;rw[<-dr]at j⊢;refine .mk _ o (.ah (.mk _ (WU U h r I p) ?_));rintro _ h1 ⟨rfl,rfl⟩;rw[<-dr];refine .ah (.mk _ (WU a _ I I p) ?_);rintro _ h1 ⟨rfl,rfl⟩;refine .mk (eh k) (λP w=>by rw[aT];exact C7 I) (.mk (Nat×Nat) [0,1,5] (λ(x,y)=>[.v (eh x),.v (eh y),.v (R s)]) (λ_=>[]) (λ(x,y) l=>l=h1/\1<=x/\x<=4096/\y<=4096/\∃n,x+y<n/\vM n x y=vM (k+b+1) k b) (λ(x,y)=>x+y) (k,b) (λ_=>rfl) ⟨rfl,i,F,m,_,I,rfl⟩ rfl rfl ?_);rintro⟨x,y⟩ e l ⟨rfl,H,E,K,n,J,f⟩;refine aY (λq=>?_) (λq=>?_);cases n with
 |zero=>omega
 |succ n=>
  obtain⟨t1,t2⟩:=HU (x:=y) I I;have t3:=oT y (2^lG y);rw[vM,aD I]at f;obtain⟨c,ay⟩:∃c,c=y/2^lG y:=⟨_,rfl⟩;rw[<-ay]at t1 t3 f;refine .ah (.mk _ (WU y _ I I p) ?_);rintro _ ae ⟨rfl,rfl⟩;refine .mk (eh c) (λP w=>by rw[ay];exact C7 I) (aY (λD=>?_) (λD=>?_));refine .mk (eh (x-c)) (λP w=>ajd I I) ?_;refine⟨(c,x-c),rfl,rfl,⟨rfl,t1,I,I,n,I,?_⟩,by show c+(x-c)<x+y;omega⟩;rw[<-f,aP I];refine .mk (eh (c-x)) (λP w=>ajd I I) (⟨(x,c-x),rfl,rfl,⟨rfl,H,I,I,n,I,?_⟩,by show x+(c-x)<x+y;omega⟩);rw[<-f,aD I]
 have u:y=0:=I;subst u;have m:vM n x 0=x:=by
  cases n with
  |zero=>rfl
  |succ n=>rw[vM,aP rfl]
 rw[m]at f;exact .mk (eh (x*2^s)) (λP w=>aFz I (by have:=ah4 E j;omega)) (.ah ⟨by show eh _=_;rw[f],rfl⟩)
def wj(k d:Nat):Nat:=if k=0\/d=0 then 0 else 1/qH 1 k*k/qH (1/qH 1 k*k) d*d
theorem aeO{k:Nat}(hk:k<=4096):1/qH 1 k*k<=4096:=by
 have h1:1/qH 1 k<=1:=oT _ _;have:=lP h1 hk;omega
theorem ayx{k d:Nat}(hk:k<=4096)(a:d<=4096):wj k d<=16777216:=by
 unfold wj;split;omega;have h1:=aeO hk;exact lP (og (oT _ _) h1) a
theorem ayw(k d:Nat) B h(hk:k<=4096)(l:d<=4096)(x:vz h)(y:h B=some (bb #[R k,R d] 3 (0,0))):Fn aB 109 #[ab (some ⟨B,0,none⟩) 2 2] h λv n=>v=ey #[R (wj k d),c5 true]/\n=h:=by
 refine b6 awd rfl ?_;obtain⟨m1,hm⟩:∃z,z=1/qH 1 k*k:=⟨_,rfl⟩;have u:m1<=4096:=by rw[hm];exact aeO hk
 obtain⟨m2,c⟩:∃z,z=m1/qH m1 d*d:=⟨_,rfl⟩;have C:k≠0->d≠0->wj k d=m2:=λa b=>by rw[wj,aD I,c,hm]
 have f:k=0\/d=0->wj k d=0:=λa=>by rw[wj,aP a]
 refine .mk (Nat×Nat) [4,5,10,11,12] (λ(i,m)=>[.v (eh m),.v (c5 true),.v (ab (some ⟨B,0,none⟩) 2 2),.v (R 2),.v (R i)]) (λ_=>[]) (λ(i,m) n=>n=h/\((i=0/\m=1)\/(i=1/\m=m1/\k≠0)\/(i=2/\m=m2/\k≠0/\d≠0))) (λ(i,_)=>2-i) (0,1) (λ_=>rfl) ⟨rfl,bW ⟨rfl,rfl⟩⟩ rfl rfl ?_;have A:h.cell? ((nI B 0 none).add 0)=some (R k):=bV y rfl;have c1:h.cell? ((nI B 0 none).add 1)=some (R d):=bV y rfl;rintro⟨i,m⟩ e n ⟨rfl,g|g|g⟩;obtain⟨rfl,rfl⟩:=g;refine .r (.hp _ A (aY (λq=>?_) (λq=>?_)));exact .ah ⟨by rw[f (bW I)];rfl,rfl⟩;obtain⟨D,j⟩:∃z,z=qH 1 k:=⟨_,rfl⟩;have o:=(ZV (a:=1) (b:=k) I hk I).1;rw[<-j]at o hm;obtain⟨w,hw⟩:∃z,z=1/D:=⟨_,rfl⟩;have E:w<=1:=by rw[hw];exact oT _ _
 rw[<-hw]at hm;refine .mk _ (HQ k _ I) (λv ae q=>by rw[q.2];exact J.le_refl _) ?_;rintro _ _ ⟨rfl,rfl⟩;refine .mk _ (ZU 1 k _ I hk x) (λv ae q=>by rw[q.2];exact J.le_refl _) ?_;rintro _ _ ⟨rfl,rfl⟩;rw[<-j];refine .mk (eh w) (λP bk=>by rw[hw];exact PG I I) (.mk _ (HQ k _ I) (λv ae q=>by rw[q.2];exact J.le_refl _) ?_);rintro _ _ ⟨rfl,rfl⟩;refine .mk _ (afD w k _ I I) (λv ae q=>by rw[q.2];exact J.le_refl _) ?_;rintro _ _ ⟨rfl,rfl⟩;rw[<-hm];refine .bg ?_;have p:decide (((m1:Nat):Int)<=9223372036854775807)=true:=gG I;exact⟨(1,m1),by show[aK.v (eh m1),aK.v (c5 (decide (((m1:Nat):Int)<=9223372036854775807))),_,_,_]=_;rw[p];rfl,rfl,⟨rfl,bl (bW ⟨rfl,rfl,I⟩)⟩,by show 2-1<2-0;decide⟩;obtain⟨rfl,rfl,t⟩:=g;refine .r (.hp _ c1 (aY (λq=>?_) (λq=>?_)));exact .ah ⟨by rw[f (bl I)];rfl,rfl⟩;obtain⟨D,j⟩:∃z,z=qH m d:=⟨_,rfl⟩;have o:=(ZV (a:=m) (b:=d) u l I).1;rw[<-j]at o c;obtain⟨w,hw⟩:∃z,z=m/D:=⟨_,rfl⟩;have E:w<=m:=by rw[hw];exact oT _ _
 rw[<-hw]at c;have s:m2<=4096*4096:=by rw[c];exact lP I l
 refine .mk _ (HQ d _ I) (λv ae q=>by rw[q.2];exact J.le_refl _) ?_;rintro _ _ ⟨rfl,rfl⟩;refine .mk _ (ZU m d _ u l x) (λv ae q=>by rw[q.2];exact J.le_refl _) ?_;rintro _ _ ⟨rfl,rfl⟩;rw[<-j];refine .mk (eh w) (λP bk=>by rw[hw];exact PG I I) (.mk _ (HQ d _ I) (λv ae q=>by rw[q.2];exact J.le_refl _) ?_);rintro _ _ ⟨rfl,rfl⟩;refine .mk _ (afD w d _ I I) (λv ae q=>by rw[q.2];exact J.le_refl _) ?_;rintro _ _ ⟨rfl,rfl⟩;rw[<-c];refine .bg ?_;have p:decide (((m2:Nat):Int)<=9223372036854775807)=true:=gG I;exact⟨(2,m2),by show[aK.v (eh m2),aK.v (c5 (decide (((m2:Nat):Int)<=9223372036854775807))),_,_,_]=_;rw[p];rfl,rfl,⟨rfl,bl (bl ⟨rfl,rfl,t,I⟩)⟩,by show 2-2<2-1;decide⟩;obtain⟨rfl,rfl,t,oy⟩:=g;have s:m<=4096*4096:=by rw[c];exact lP (og (oT _ _) u) l
 exact .mk I I (.ah ⟨by rw[C t oy];rfl,rfl⟩)
end Go.Sx
namespace Go.Sx
open Go.RowKit
set_option maxRecDepth 100000
set_option maxHeartbeats 0
set_option linter.all false
def OX:Op->Option eb
 |.panic x=>some (bS x)
 |_=>none
def HY(P:eN)(n:Nat)(Q:k7):List cK->cy->List LE->J->Prop
 |[],e,L,h=>Q .normal e L h
 |U::r,e,L,h=>(match U.g,U.k with
  |none,.raw op=>(match OX op with
   |some x=>(match x.get e with
    |.v (.iface t v)=>Q (.panic [{v:=.iface t v,recovered:=false}]) e L h
    |_=>False)
   |none=>hS P n U e L h λe L h=>HY P n Q r e L h)
  |_,_=>hS P n U e L h λe L h=>HY P n Q r e L h)
def Fy(P:eN)(n:Nat):IR->k7->cy->List LE->J->Prop
 |.seq a b,Q,e,L,h=>Fy P n a (λx e L h=>match x with|.normal=>Fy P n b Q e L h|x=>Q x e L h) e L h
 |.cond c x y,Q,e,L,h=>(match c.get e with
  |.v (.bool b)=>fT b (Fy P n x Q (zl e c true) L h) (Fy P n y Q (zl e c false) L h)
  |_=>False)
 |.cd ops,Q,e,L,h=>HY P n Q ops e L h
 |oC,Q,e,L,h=>di P n oC Q e L h
section
variable {P:eN}{al:J}{a':bw}{n:Nat}{β:Nat->Nat}{L:List LE}{h:J}{e:cy}{a:Act}{w:bw}
theorem ay4{U op:Op}(h:bQ P U= .raw op)(a:OX op≠none):U=op:=by
 cases U<;>simp only[bQ]at h<;>(try cases h;rfl)<;>exfalso<;>revert h<;>(repeat' split)<;>intro h<;>cases h<;>simp[OX]at a
theorem ajB{ops:Array Oper}{Q:k7}:∀l β e L h a w,cX al a' β L h w->dn n β L e a->dN L->HY P n Q (l.map (fX P ops)) e L h->wpList P ops (lift al a' n Q) l a w
 |[],β,e,L,h,a,w,m,r,c,hp=>⟨β,e,L,h,m,r,c,hp⟩
 |U::l,β,e,L,h,a,w,m,r,c,hp=>by
  have p:=ajB (ops:=ops) (Q:=Q) l;refine wpList_step λnext u=>?_
  have plain:hS P n (fX P ops U) e L h (λe L h=>HY P n Q (l.map (fX P ops)) e L h)->if hF U (yielded ops a.tmps)then U.wp P a w next (lift al a' n Q)else next (a.put U.dst fp) w:=λhp=>Lr (λβ e L h a w _ m r c hk=>u _ _ (p β e L h a w m r c hk)) m r c hp
  rw[ec]at hp;unfold HY at hp;split at hp;rename_i op f hk;split at hp;rename_i x d;split at hp;rename_i t v k;unfold fX at hk f;cases i:xI ops U.guard with
  |none=>grind
  |some z=>
   rw[i]at hk f;simp only at hk f;subst f;have g:U.guard=none:=by
    cases g:U.guard with
    |none=>rfl
    |some s=>
     obtain⟨o,b⟩:=s;rw[g]at i
     grind [xI]
   have j:U.op=op:=ay4 hk aJ;have hw:hF U (yielded ops a.tmps)=true:=by simp[hF,g]
   rw[aP hw];cases op with
   |panic y=>
    simp only[OX]at d;injection d with d;subst d;have q:a.eval y= .iface t v:=by rw[r.eval,k];rfl
    unfold Oper.wp;have:(dk a.eval U).run P w= .halt (.panic (.iface t v)) w:=by simp[dk,j,q,Instr.panic]
    rw[this,Oper.upon_panic];exact⟨β,e,L,h,m,r,c,hp⟩
   |_=>cases d
  grind
  grind
  grind
theorem aFV{cm:List Nat}(F:P.follows .mixedOrders=true):∀c Q β e L h a w,cX al a' β L h w->dn n β L e a->dN L->Fy P n (lower P cm c) Q e L h->c.wp P (lift al a' n Q) a w:=by
 intro c;have i:∀(c:Code)(Q:k7) β e L h a w,cX al a' β L h w->dn n β L e a->dN L->di P n (lower P cm c) Q e L h->c.wp P (lift al a' n Q) a w:=λc Q β e L h a w m r g hp=>PN F c Q β e L h a w m r g hp;induction c with
 |seq x y j k=>
  intro Q β e L h a w m r g hp;refine wp_seq (xW (j _ β e L h a w m r g hp) ?_);rintro ex E bk ⟨z,s,v,o,u,A,B,q⟩;cases ex with
  |normal=>exact k Q z s v o E bk u A B q
  |_=>exact⟨z,s,v,o,u,A,B,q⟩
 |region id ops d=>
  intro Q β e L h a w m r g hp;cases d with
  |false=>exact wp_region_list (ajB ops.toList β e L h a w m r g hp)
  |true=>
   refine i _ Q β e L h a w m r g ?_;simp only[lower]at hp⊢;split at hp;rename_i l;rw[aP l];exact hp;rename_i l;rw[aD l];exact hp
 |cond c x y j k=>
  intro Q β e L h a w m r g hp;simp only[lower,Fy]at hp;split at hp;rename_i b p;have ay:=r.eval c;rw[p]at ay;have C:zl e (bS c) b=e:=by
   cases c with
   |tmp t=>exact nb p
   |_=>rfl
  cases b with
  |true=>
   simp only[fT]at hp;rw[C]at hp;exact wp_cond_true ay (j Q β e L h a w m r g hp)
  |false=>
   simp only[fT]at hp;rw[C]at hp;exact wp_cond_false ay (k Q β e L h a w m r g hp)
  grind
 |skip=>exactλQ β e L h a w m r g hp=>i _ Q β e L h a w m r g hp
 |block=>exactλQ β e L h a w m r g hp=>i _ Q β e L h a w m r g hp
 |loop=>exactλQ β e L h a w m r g hp=>i _ Q β e L h a w m r g hp
 |rangeFunc f D x y=>intro Q β e L h a w m r g hp;cases D;exact i _ Q β e L h a w m r g hp
 |exit=>exactλQ β e L h a w m r g hp=>i _ Q β e L h a w m r g hp
 |scope=>exactλQ β e L h a w m r g hp=>i _ Q β e L h a w m r g hp
 |label=>exactλQ β e L h a w m r g hp=>i _ Q β e L h a w m r g hp
 |goto=>exactλQ β e L h a w m r g hp=>i _ Q β e L h a w m r g hp
 |ret=>exactλQ β e L h a w m r g hp=>i _ Q β e L h a w m r g hp
 |refuse=>exactλQ β e L h a w m r g hp=>i _ Q β e L h a w m r g hp
theorem Dd.intro{cm:List Nat}{f:FuncId}{fn:Func}{c:Code}{oC:IR}{args:List ax}{h:J}{v:ax}(C:P.follows .mixedOrders=true)(d:P.funcs[f]?=some fn)(t:fn.body=some c)(k:(fn.name== "runtime.NumGoroutine")=false)(p:fn.ntmps=n)(j:lower P cm c=oC)(B:p0 args.length n=true)(A:Fy P n oC (λx _ _ g=>match x with|.panic b=>b=[{v:=v,recovered:=false}]/\g=h|_=>False) (sk args) [] h):Dd P f args.toArray h v:=by
 refine⟨⟨fn,d,aJ,k⟩,λw hw=>?_⟩;subst j;subst p;refine calls_of_wp d t ?_;have m:cX h w (λ_=>0) [] h w:=⟨⟨hw,(λi l ak=>by cases ak)⟩,(λi l ak=>by cases ak),(λi o l cw ak=>by cases ak),(λi l ak=>by cases ak),(λi l ak=>by cases ak),rfl,rfl,rfl,dz _,(λ_ _ _=>rfl),(λo r=>.inl r)⟩;have q:dN []:=λi cs ty s=>by cases s
 have u:=aFV C (al:=h) (a':=w) (n:=fn.ntmps) c _ (λ_=>0) (sk args) [] h _ w m (I6 (Nat.le_of_ble_eq_true B) _) q A;refine xW u ?_;rintro ex D bk ⟨β,e,L,g,a,z,E,y⟩;cases ex with
 |panic b=>
  obtain⟨rfl,rfl⟩:=y;exact⟨z.defers,rfl,a.cA.hw,a.os,a.tape,a.output,a.size,a.frame,a.fresh⟩
 |_=>grind
end
end Go.Sx
namespace Go.Sx
open Go.Proofs
set_option maxRecDepth 100000
set_option maxHeartbeats 0
set_option linter.all false
variable {al cC h:J}{dp:List Bool}{fv gO gf left:List Nat}{sp:List ax}{ad:List bT}{N b bq cl dst fT g gI gt iq m u v x y:Nat}{L:Nat->Nat->Prop}{f:Nat->ax}{p:Nat×Nat}{α:Type}{V z:ax}
theorem aub x y:Idle aB 151 #[x,y]:=by
 refine⟨⟨_,alX,rfl,aM⟩,λw=>Zm alX rfl λa cs hu=>?_⟩;have b:KY (a::cs)=none:=by simp[KY,hu]
 apply Lu;apply Lt;simp[Ls,go_sem,b,Tryz.ntmps151,H9];apply Lu;apply Lt;simp[Ls,go_sem,H9];exact ajD (t:=false) dC (ajE (wp_skip (⟨rfl,_,by rw[<-hu],ey #[],by simp[results,Tryz.results151],⟨_,rfl⟩,rfl,.refl w⟩)))
def qg(a b:Nat):Bool:=decide (v' a b=0)&&decide (a*b%18446744073709551616<=9223372036854775807)
def tR(a b:Nat):Nat:=a*b%18446744073709551616
theorem afC(a b:Nat) h(j:a<9223372036854775808)(k:b<9223372036854775808):Fn aB 191 #[R a,R b] h λv i=>v=(if qg a b=true then ey #[R (tR a b),c5 true]else ey #[R 0,c5 false])/\i=h:=by
 refine b6 aek rfl ?_;have e:=UM a b h I I;obtain⟨c,ay⟩:∃c,c=tR a b:=⟨_,rfl⟩;obtain⟨d,f⟩:∃c,c=v' a b:=⟨_,rfl⟩;have bn:qg a b=(decide (d=0)&&decide (c<=9223372036854775807)):=by rw[qg,f,ay];rfl
 rw[<-ay,bn];rw[<-f,show a*b%18446744073709551616=c by rw[ay];rfl]at e;refine .ah (.mk _ (HQ a h I) ?_);rintro _ _ ⟨rfl,rfl⟩;refine .ah (.mk _ (HQ b _ I) ?_);rintro _ _ ⟨rfl,rfl⟩;refine .ah (.mk _ e ?_);rintro _ _ ⟨rfl,rfl⟩;refine aY (λq=>?_) (λq=>?_);exact .ah ⟨by rw[io (show¬d=0 by omega)];rfl,rfl⟩;refine aY (λg=>?_) (λg=>?_);exact .ah ⟨by rw[io (show¬c<=9223372036854775807 by omega),Xj];rfl,rfl⟩;exact .mk I I (.ah ⟨by rw[gG (show d=0 by omega),gG (show c<=9223372036854775807 by omega)];rfl,rfl⟩)
theorem aiS a b h(d:a<9223372036854775808)(f:b<9223372036854775808)(c:qg a b=true):Fn aB 156 #[R a,R b] h λv e=>v=R (tR a b)/\e=h:=by
 have m:=afC a b h d f;rw[aP c]at m;refine b6 aef rfl (.ah (.mk _ m ?_));rintro _ _ ⟨rfl,rfl⟩;exact .ah ⟨rfl,rfl⟩
theorem ao'{w:bw}:vm aB (.makeInterface 51 (.const (.int .i64 4))) [.int .i64 4] w (.iface 51 (.int .i64 4)) w:=by
 intro c q b a;simp_all[Op.operands,dk,b,a,Instr.makeInterface]
theorem ZS a b h(d:a<9223372036854775808)(e:b<9223372036854775808)(c:qg a b=false):Dd aB 156 #[R a,R b] h (.iface 51 (.int .i64 4)):=by
 have m:=afC a b h d e;rw[c]at m;refine Dd.intro (args:=[R a,R b]) Hg Tryz.func156 rfl aM Tryz.ntmps156 (aef.low rfl) rfl (.ah (.mk _ m ?_));rintro _ _ ⟨rfl,rfl⟩;exact .ah (.mk _ (λw _=>ao') (⟨rfl,rfl⟩))
theorem ah7 n h(b:n<9223372036854775808):Fn aB 189 #[c5 false,eh n] h λv a=>v=R n/\a=h:=by
 refine b6 awZ rfl (aY (λq=>?_) (λq=>I));exact .mk I I (.ah ⟨rfl,rfl⟩)
def yA(n d:Nat):ax:=.agg #[R n,R d]
theorem Uz a b h(f:a<9223372036854775808)(j:b<9223372036854775808)(al:0<b):Fn aB 152 #[c5 false,eh a,eh b] h λv i=>v=yA (a/h3 a b) (b/h3 a b)/\h.le i:=by
 refine b6 awJ rfl ?_;have k:0<h3 a b:=Qv a al;obtain⟨g,e⟩:∃g,g=h3 a b:=⟨_,rfl⟩;rw[<-e]at k⊢;have l:=oT a g;have m:=oT b g;obtain⟨x,d⟩:∃x,x=a/g:=⟨_,rfl⟩;obtain⟨y,c⟩:∃x,x=b/g:=⟨_,rfl⟩;rw[<-d]at l;rw[<-c]at m;rw[<-d,<-c];refine .ah (.mk _ (ZF a b h f j) ?_);rintro _ _ ⟨rfl,rfl⟩;rw[<-e];refine .mk (eh x) (λP w=>by rw[d];exact PG I I) (.mk (eh y) (λP w=>by rw[c];exact PG I I) (.mk _ (ah7 x _ I) (λv ae q=>by rw[q.2];exact J.le_refl _) ?_));rintro _ _ ⟨rfl,rfl⟩;refine .mk _ (ah7 y _ I) (λv ae q=>by rw[q.2];exact J.le_refl _) ?_;rintro _ _ ⟨rfl,rfl⟩;exact .ah ⟨rfl,J.le_refl _⟩
def nG(n d:Nat):Bool:=decide (0<d)&&decide (h3 n d=1)
theorem aFH n d h(b:n<9223372036854775808)(c:d<9223372036854775808):Fn aB 190 #[yA n d] h λv a=>v=c5 (nG n d)/\a=h:=by
 refine b6 aw0 rfl (aY (λq=>?_) (λq=>?_));refine .mk _ (CX n h I) (λv ae q=>by rw[q.2];exact J.le_refl _) ?_;rintro _ _ ⟨rfl,rfl⟩;refine .mk _ (CX d _ I) (λv ae q=>by rw[q.2];exact J.le_refl _) ?_;rintro _ _ ⟨rfl,rfl⟩;refine .mk _ (ZF n d _ I I) (λv ae q=>by rw[q.2];exact J.le_refl _) ?_;rintro _ _ ⟨rfl,rfl⟩;refine .ah ⟨?_,rfl⟩;show c5 (decide ((h3 n d:Int)=1))=_;rw[nG,gG (show 0<d by omega),zB];congr 1
 grind
 refine .ah ⟨?_,rfl⟩;rw[nG,io (show¬0<d by omega),Bk];rfl
theorem aqA(l:List (Nat×Nat)):∀r∈l.map (λp=>[R p.1,R p.2]),r.length=2:=by
 grind
theorem aCp A m c(l:List (Nat×Nat)) h(d:bf h 2 A m (l.map λp=>[R (p.1:Nat),R (p.2:Nat)]))(hm:m<=1000)(n:∀p∈l,p.1<9223372036854775808/\p.2<9223372036854775808):Fn aB 154 #[ab A m c] h λv a=>v=c5 (l.all λp=>nG p.1 p.2)/\h.le a:=by
 have ak:l.length=m:=by have:=d.len;grind
 refine b6 awL rfl (.mk Nat [5,6,7] (λk=>[.v (ab A m c),.v (R m),.v (R k)]) (λ_=>[]) (λk a=>h.le a/\k<=m/\∀p∈l.take k,nG p.1 p.2=true) (λk=>m-k) 0 (λ_=>rfl) ⟨J.le_refl _,cW _,bd⟩ rfl rfl (λk e a⟨le,hk,i⟩=>aY (λq=>?_) (λq=>?_)));have b:k<l.length:=I;obtain⟨g,f⟩:=d.cg I;have hp:=n l[k] (cG b);refine .m g f (.hp [R l[k].1,R l[k].2] rfl (by rw[bz];exact(d.mono le).row f (iP b)) (.ah (.mk _ (aFH l[k].1 l[k].2 _ hp.1 hp.2) ?_)));rintro _ _ ⟨rfl,rfl⟩;cases j:nG l[k].1 l[k].2;refine .ah ⟨?_,le⟩;have:(l.all λp=>nG p.1 p.2)=false:=Qj.2 ⟨l[k],cG b,aJ⟩;rw[this];rfl;refine .bg ?_;refine⟨k+1,rfl,rfl,⟨le,I,λp hp=>?_⟩,I⟩;rw[List.take_add_one,bZ b]at hp
 grind
 refine .ah ⟨?_,le⟩;rw[lN I]at i;rw[rl.2 λp hp=>i p hp];rfl
theorem ag6{a b:Nat}{c f:Obj}(d:(h.put a c) b=none):((h.put a c).put b f) a=some c:=by
 have:a≠b:=λe=>by rw[<-e,J.b1]at d;cases d
 rw[J.cB _ _ this,J.b1]
theorem ll{a:J}{U:Obj}(d:h b=none)(le:h.le a):h.le (a.put b U):=λo p c=>by
 have:o≠b:=λe=>by grind
 rw[J.cB _ _ this];exact le o p c
theorem U4{c b:Nat}{d:Obj}(a:(h.put c d) b=none):h b=none:=by
 have:b≠c:=λe=>by rw[e,J.b1]at a;cases a
 rwa[J.cB _ _ this]at a
theorem az1(n d:Nat) h(l:n<9223372036854775808)(m:d<9223372036854775808)(al:0<d):Fn aB 110 #[R n,R d] h λv p=>v=ey #[yA (n/h3 n d) (d/h3 n d),R 0]/\h.le p:=by
 refine akp.intro (args:=[R n,R d]) Hg Tryz.func110 rfl aM Tryz.ntmps110 rfl (awe.low rfl) rfl ?_;have u:0<h3 n d:=Qv n al;obtain⟨x,f⟩:∃x,x=n/h3 n d:=⟨_,rfl⟩;obtain⟨y,c⟩:∃x,x=d/h3 n d:=⟨_,rfl⟩;rw[<-f,<-c];refine aY (λq=>I) (λq=>.mk λi j=>.mk λg a=>⟨aub _ _,?_⟩);have k:=U4 a;refine .ah (.mk _ (CX n _ I) ?_);rintro _ _ ⟨rfl,rfl⟩;refine .ah (.mk _ (CX d _ I) ?_);rintro _ _ ⟨rfl,rfl⟩;refine .ah (.mk _ (Uz n d _ l m al) ?_);rintro _ s ⟨rfl,b⟩;rw[<-f,<-c];have le:h.le s:=J.le_trans (J.le_trans (J.dI j) (J.dI a)) b;refine .hp i 0 167 [R 0,R 0] [R x,R y] rfl (b _ _ (ag6 a)) rfl (.hp g 0 51 [R 0] [R 0] rfl (by rw[J.cB _ _ (λe=>by rw[e,J.b1]at a;cases a)];exact b _ _ (J.b1 _ _ _)) rfl ?_);have t:i≠g:=λe=>by rw[<-e,J.b1]at a;cases a
 exact .hp [R x,R y] rfl (λo v r=>by rw[add_lit,dM];exact bV (by rw[J.cB _ _ t,J.b1]) r) (.hp _ (bV (J.b1 _ _ _) rfl) (.ah ⟨rfl,ll k (ll j le)⟩))
def sK(p q:Nat×Nat):Option (Nat×Nat):=
 if qg (p.1/h3 p.1 q.2) (q.1/h3 q.1 p.2)&&qg (q.2/h3 p.1 q.2) (p.2/h3 q.1 p.2)then some (tR (p.1/h3 p.1 q.2) (q.1/h3 q.1 p.2),tR (q.2/h3 p.1 q.2) (p.2/h3 q.1 p.2))else none
theorem azA{n d:Nat}(a:n<9223372036854775808)(b:d<9223372036854775808):sK (1,1) (n,d)=some (n,d):=by
 have h1:qg 1 n=true:=by simp[qg,asJ a];omega
 have ae:qg d 1=true:=by simp[qg,asK b];omega
 simp[sK,h1,ae,tR];omega
theorem auc x y:Idle aB 155 #[x,y]:=by
 refine⟨⟨_,QK,rfl,aM⟩,λw=>Zm QK rfl λa cs hu=>?_⟩;have b:KY (a::cs)=none:=by simp[KY,hu]
 apply Lu;apply Lt;simp[Ls,go_sem,b,amd,H9];apply Lu;apply Lt;simp[Ls,go_sem,H9];exact ajD (t:=false) dC (ajE (wp_skip (⟨rfl,_,by rw[<-hu],ey #[],by simp[results,amf],⟨_,rfl⟩,rfl,.refl w⟩)))
theorem BH.mono{P:eN}{d:Deferred}{v:ax}{h:J}{Q b:J->Prop}(x:BH P d v h Q)(y:∀a,Q a->b a):BH P d v h b:=by
 obtain⟨g,cap,h1,ae,c⟩:=x;refine⟨g,cap,h1,ae,λw hw=>CallsD.mono (c w hw) ?_⟩
 grind
theorem ahl c a q x y z h(H:q=#[R x,R y])(al:h c=some (bb q 167 (0,0)))(h1:h a=some (bb #[R z] 51 (0,0)))(D:c≠a):BH aB {target:=.fn (.func 155) #[gv (some ⟨c,0,none⟩),gv (some ⟨a,0,none⟩)],args:=#[]} (.iface 51 (.int .i64 4)) h λj=>j=(h.put c (bb #[R 0,R 0] 167 (0,0))).put a (bb #[R 4] 51 (0,0)):=by
 subst H;refine⟨155,_,rfl,⟨_,QK,rfl,aM⟩,λw hw=>?_⟩;have f:=aee.low (b:=_) rfl;refine Zm QK rfl λp cs hu=>?_;have C:KY (p::cs)=some (.iface 51 (.int .i64 4),{p with mode:=.panicking [{v:=.iface 51 (.int .i64 4),recovered:=true}]}::cs):=by simp[KY,hu]
 apply Lu;apply Lt;simp[Ls,go_sem,C,amd,H9];apply Lu;apply Lt;simp[Ls,go_sem,H9];injection f with _ f;injection f with _ f;injection f with _ f _;refine ajD (t:=true) dC ?_;simp only[lY];refine ajE ?_;generalize r:(#[gv (some ⟨c,0,none⟩),gv (some ⟨a,0,none⟩)]++((((Array.replicate 5 fp).setIfInBounds 1 (Value.iface 51 (.int .i64 4))).setIfInBounds 0 (.iface 51 (.int .i64 4))).setIfInBounds 2 (.iface 51 (.int .i64 4))).setIfInBounds 3 (c5 true))=T;have B:T.size=7:=aJ;have t0:T.getD 0 fp=gv (some ⟨c,0,none⟩):=by simp[<-r]
 have t1:T.getD 1 fp=gv (some ⟨a,0,none⟩):=by simp[<-r]
 obtain⟨d,he⟩:∃d:cy,d=λt=>aK.v (T.getD t fp):=⟨_,rfl⟩;have k:d 0= .v (gv (some ⟨c,0,none⟩)):=aJ;have I:d 1= .v (gv (some ⟨a,0,none⟩)):=aJ;have E:dn 7 (λ_=>0) [] d {tmps:=T,defers:=[]}:=⟨rfl,B,λt=>by rw[he];rfl,λt=>by rw[he];trivial⟩;have F:d=ji (ji d 1 (.v (gv (some ⟨a,0,none⟩)))) 0 (.v (gv (some ⟨c,0,none⟩))):=by rw[nb I,nb k]
 have m:cX h w (λ_=>0) [] h w:=⟨⟨hw,(λi l ak=>by cases ak)⟩,(λi l ak=>by cases ak),(λi o l cw ak=>by cases ak),(λi l ak=>by cases ak),(λi l ak=>by cases ak),rfl,rfl,rfl,dz _,(λ_ _ _=>rfl),(λo u=>bW u)⟩;have s:di aB 7 (.cd adO) (λx _ _ j=>x= .normal/\j=(h.put c (bb #[R 0,R 0] 167 (0,0))).put a (bb #[R 4] 51 (0,0))) d [] h:=by
  rw[F];exact .hp c 0 167 [R x,R y] [R 0,R 0] rfl al rfl (.hp a 0 51 [R z] [R 4] rfl (by rw[J.cB _ _ (d' D)];exact h1) rfl (⟨rfl,rfl⟩))
 rw[<-show _=IR.cd adO from f]at s;have n:=PN Hg _ _ _ _ _ _ _ _ m E (λi cs ty A=>by cases A) s;refine xW n ?_;rintro ex K bk ⟨β,e,L,j,g,G,M,rfl,rfl⟩;exact⟨G.defers,_,rfl,ey #[],by simp[results,amf],⟨_,rfl⟩,rfl,⟨g.cA.hw,g.os,g.tape,g.output,g.size,g.frame,g.fresh⟩⟩
theorem azx(B:Nat)(c d1 f d2:Nat)(h:J)(b9:h B=some (bb #[R c,R d1,R f,R d2] 167 (0,0)))(h1:c<9223372036854775808)(ae:d1<9223372036854775808)(au:f<9223372036854775808)(aU:d2<9223372036854775808):Fn aB 111 #[ab (some ⟨B,0,none⟩) 2 2] h λv D=>h.le D/\v=if(nG c d1&&nG f d2)=true then(match sK (c,d1) (f,d2)with|some r=>ey #[yA r.1 r.2,R 0]|none=>ey #[yA 0 0,R 4])else ey #[yA 0 0,R 1]:=by
 refine akq.intro (args:=[ab (some ⟨B,0,none⟩) 2 2]) Hg Tryz.func111 rfl aM Tryz.ntmps111 rfl (awf.low rfl) rfl ?_;have W:bf h 2 (some ⟨B,0,none⟩) 2 ([(c,d1),(f,d2)].map λp:Nat×Nat=>[R (p.1:Nat),R (p.2:Nat)]):=by
  refine⟨rfl,aqA _,λ_=>⟨_,rfl⟩,λg T i r aq o v y=>?_⟩;injection T with T;subst T;rw[add_lit,dM];refine bV b9 ?_
  grind
 have aq:=aCp _ _ 2 _ h W aM aJ;have U:=azA h1 ae;refine .ah (.mk _ aq ?_);rintro _ cE ⟨rfl,G⟩;have gF:([(c,d1),(f,d2)].all λp=>nG p.1 p.2)=(nG c d1&&nG f d2):=bd;rw[gF];cases y:(nG c d1&&nG f d2);exact .ah ⟨G,rfl⟩;have JD:0<d1:=by
  grind [nG]
 have vZ:0<d2:=by
  grind [nG]
 refine .mk λk A=>.mk λz F=>⟨auc _ _,?_⟩;have N:=U4 F;have w:k≠z:=λe=>by rw[<-e,J.b1]at F;cases F
 refine .hp k 0 167 [R 0,R 0] [R 1,R 1] rfl (ag6 F) rfl (.mk (Nat×Nat×Nat) [2,3,14,15,16] (λ(i,_,_)=>[.p 0 0,.p 1 0,.v (ab (some ⟨B,0,none⟩) 2 2),.v (R 2),.v (R i)]) (λ_=>[.b4 k,.b4 z]) (λ(i,a,b) D=>cE.le D/\D k=some (bb #[R a,R b] 167 (0,0))/\D z=some (bb #[R 0] 51 (0,0))/\((i=0/\a=1/\b=1)\/(i=1/\a=c/\b=d1)\/(i=2/\sK (c,d1) (f,d2)=some (a,b)))) (λ(i,_,_)=>2-i) (0,1,1) (λ_=>rfl) ⟨?_,J.b1 _ _ _,?_,bW ⟨rfl,rfl,rfl⟩⟩ rfl rfl ?_);exact ll A (J.le_trans (J.dI A) (J.dI F));rw[J.cB _ _ (d' w),J.b1];rfl;rintro⟨i,a,b⟩ e e6 ⟨Z,C,kG,ai⟩;have g7:=J.le_trans G Z;refine aY (λq=>?_) (λq=>?_)
 .obtain⟨n,d,aV,aj,aA,aC,V,oy,ju,yN⟩:∃n d:Nat,a<9223372036854775808/\b<9223372036854775808/\n<9223372036854775808/\d<9223372036854775808/\0<b/\0<d/\(∀o v,[R n,R d][o]?=some v->e6.cell? (((nI B 0 none).add (i*2)).add o)=some v)/\((i=0/\sK (a,b) (n,d)=some (c,d1))\/(i=1/\sK (a,b) (n,d)=sK (c,d1) (f,d2))):=by
   rcases ai with⟨rfl,rfl,rfl⟩|⟨rfl,rfl,rfl⟩|⟨rfl,_⟩;exact⟨c,d1,aM,aM,h1,ae,aM,JD,λo v S=>(W.mono g7).row rfl (i:=0) rfl o v S,bW ⟨rfl,U⟩⟩;exact⟨f,d2,h1,ae,au,aU,JD,vZ,λo v S=>(W.mono g7).row rfl (i:=1) rfl o v S,bl ⟨rfl,rfl⟩⟩;omega
  obtain⟨s,Q⟩:∃x,x=a/h3 a d:=⟨_,rfl⟩;obtain⟨l,P⟩:∃x,x=d/h3 a d:=⟨_,rfl⟩;obtain⟨j,X⟩:∃x,x=n/h3 n b:=⟨_,rfl⟩;obtain⟨m,Y⟩:∃x,x=b/h3 n b:=⟨_,rfl⟩;have df:s<=a:=by rw[Q];exact oT _ _
  have dg:l<=d:=by rw[P];exact oT _ _
  have hv:j<=n:=by rw[X];exact oT _ _
  have h4:m<=b:=by rw[Y];exact oT _ _
  have vR:sK (a,b) (n,d)=if qg s j&&qg l m then some (tR s j,tR l m)else none:=by rw[Q,P,X,Y];rfl
  refine .r (.hp [R n,R d] rfl aJ (.hp (R a) (bV C rfl) (.hp (R a) (bV C rfl) (⟨?_,?_⟩))));all_goals refine .mk _ (CX a _ I) (λv ae q=>by rw[q.2];exact J.le_refl _) ?_
  all_goals rintro _ _ ⟨rfl,rfl⟩
  all_goals conv=>whnf
  all_goals try refine⟨?_,?_⟩
  all_goals refine .mk _ (CX d _ I) (λv ae q=>by rw[q.2];exact J.le_refl _) ?_
  all_goals rintro _ _ ⟨rfl,rfl⟩
  all_goals conv=>whnf
  all_goals try refine⟨?_,?_⟩
  all_goals refine .mk _ (Uz a d _ I I oy) (λv ae q=>q.2) ?_
  all_goals rintro _ L ⟨rfl,K⟩
  all_goals rw[<-Q,<-P]
  all_goals conv=>whnf
  all_goals refine .hp (R b) (bV (K _ _ C) rfl) ?_
  all_goals conv=>whnf
  all_goals refine⟨?_,?_⟩
  all_goals refine .mk _ (CX n _ I) (λv ae q=>by rw[q.2];exact J.le_refl _) ?_
  all_goals rintro _ _ ⟨rfl,rfl⟩
  all_goals conv=>whnf
  all_goals try refine⟨?_,?_⟩
  all_goals refine .mk _ (CX b _ I) (λv ae q=>by rw[q.2];exact J.le_refl _) ?_
  all_goals rintro _ _ ⟨rfl,rfl⟩
  all_goals conv=>whnf
  all_goals try refine⟨?_,?_⟩
  all_goals refine .mk _ (Uz n b _ I I V) (λv ae q=>q.2) ?_
  all_goals rintro _ sq ⟨rfl,rR⟩
  all_goals rw[<-X,<-Y]
  all_goals conv=>whnf
  all_goals have O:=rR _ _ (K _ _ C)
  all_goals have d8:=rR _ _ (K _ _ kG)
  all_goals have M:=J.le_trans Z (J.le_trans K rR)
  all_goals by_cases f1:qg s j=true
  all_goals first
   |(
    refine .go ?_
    refine .mk _ (aiS s j _ I I f1) (λv ae q=>by rw[q.2];exact J.le_refl _) ?_
    rintro _ _ ⟨rfl,rfl⟩
    by_cases f2:qg l m=true
    refine .go ?_
    refine .mk _ (aiS l m _ I I f2) (λv ae q=>by rw[q.2];exact J.le_refl _) ?_
    rintro _ _ ⟨rfl,rfl⟩
    refine .hp k 0 167 [R a,R b] [R (tR s j),R (tR l m)] rfl O rfl ?_
    refine .bg ?_
    rw[f1,f2]at vR
    refine⟨(i+1,tR s j,tR l m),rfl,rfl,⟨ll A M,J.b1 _ _ _,by rw[J.cB _ _ (d' w)];exact d8,?_⟩,aJ⟩
    grind
    have f2:qg l m=false:=aJ
    refine .die 156 _ [R l,R m] _ rfl rfl rfl (ZS l m _ I I f2) ?_
    intro t H
    have g2:t 2= .p 0 0:=(H 2 aM).trans rfl
    have g3:t 3= .p 1 0:=(H 3 aM).trans rfl
    rw[show t=ji (ji t 3 (.p 1 0)) 2 (.p 0 0) by rw[nb g3,nb g2]]
    refine⟨rfl,?_⟩
    refine BH.mono (ahl k z _ a b 0 _ rfl O d8 w) ?_
    rintro _ rfl
    refine .hp [R 0,R 0] rfl (λo v y=>by rw[add_lit,dM];exact bV (by rw[J.cB _ _ w,J.b1]) y) ?_
    refine .hp (R 4) (bV (J.b1 _ _ _) rfl) ?_
    refine .ah ⟨J.le_trans G (ll N (ll A M)),?_⟩
    rcases yN with⟨_,u⟩|⟨_,u⟩
    grind
    rw[vR,f2,Xj]at u;rw[<-u];rfl)
   |(
    have f1:qg s j=false:=by grind
    refine .die 156 _ [R s,R j] _ rfl rfl rfl (ZS s j _ I I f1) (λt H=>?_)
    have g2:t 2= .p 0 0:=(H 2 aM).trans rfl
    have g3:t 3= .p 1 0:=(H 3 aM).trans rfl
    rw[show t=ji (ji t 3 (.p 1 0)) 2 (.p 0 0) by rw[nb g3,nb g2]]
    refine⟨rfl,(BH.mono (ahl k z _ a b 0 _ rfl O d8 w) ?_)⟩
    rintro _ rfl
    refine .hp [R 0,R 0] rfl (λo v y=>by rw[add_lit,dM];exact bV (by rw[J.cB _ _ w,J.b1]) y) (.hp (R 4) (bV (J.b1 _ _ _) rfl) (.ah ⟨J.le_trans G (ll N (ll A M)),?_⟩))
    rcases yN with⟨_,u⟩|⟨_,u⟩
    grind
    rw[vR,f1,Bk]at u;rw[<-u];rfl)
 have:i=2/\sK (c,d1) (f,d2)=some (a,b):=by
  grind
 obtain⟨rfl,si⟩:=this;rw[si];have E:∀L:J,L k=some (bb #[R a,R b] 167 (0,0))->∀(o:Nat)(v:ax),[R a,R b][o]?=some v->L.cell? ((nI k 0 none).add o)=some v:=λL u o v y=>by rw[add_lit,dM];exact bV u y
 exact .hp [R a,R b] rfl (E _ C) (.hp k 0 167 [R a,R b] [R a,R b] rfl C rfl (.hp z 0 51 [R 0] [R 0] rfl (by rw[J.cB _ _ (d' w)];exact kG) rfl (.hp [R a,R b] rfl (E _ (by rw[J.cB _ _ w,J.b1])) (.hp (R 0) (bV (J.b1 _ _ _) rfl) (.ah ⟨J.le_trans G (ll N (ll A Z)),rfl⟩)))))
def lF(p:Nat×Nat)(x y:Nat):(Nat×Nat)×Bool:=
 if nG p.1 p.2&&nG (x/h3 x y) (y/h3 x y)then(match sK p (x/h3 x y,y/h3 x y)with
  |some m=>(m,decide (m.1<=4096)&&decide (m.2<=4096))
  |none=>((0,0),false))else((0,0),false)
def zA(p:Nat×Nat):Prop:=p.1<9223372036854775808/\p.2<9223372036854775808
theorem azz{q m:Nat×Nat}(h:sK p q=some m):zA m:=by
 unfold sK at h;split at h;rename_i a;simp[qg]at a;injection h with h;subst h;unfold tR zA;omega
 grind
theorem aED p x y:zA (lF p x y).1:=by
 unfold lF;split;split;rename_i h;exact azz h;exact⟨aM,aM⟩;exact⟨aM,aM⟩
theorem aEE(h:(lF p x y).2=true):(lF p x y).1.1<=4096/\(lF p x y).1.2<=4096:=by
 unfold lF at h⊢
 grind
theorem aiU(h:(lF p x y).2=true)(h1:p.1<=4096)(ae:p.2<=4096)(g:y<=64):0<(lF p x y).1.2:=by
 unfold lF at h⊢;split;rename_i a;rw[aP a]at h;simp only[h0,nG,uB]at a;obtain⟨⟨hp,_⟩,b,_⟩:=a;split;rename_i m hm;unfold sK at hm;split at hm;injection hm with hm;subst hm;simp only at b⊢;have g1:0<y/h3 x y/h3 p.1 (y/h3 x y):=alo (alq _ b) (Qv _ b);have g2:0<p.2/h3 (x/h3 x y) p.2:=alo (alq _ hp) (Qv _ hp);have f:y/h3 x y/h3 p.1 (y/h3 x y)<=64:=og (oT _ _) (og (oT _ _) g);have e:p.2/h3 (x/h3 x y) p.2<=4096:=og (oT _ _) ae;unfold tR;generalize y/h3 x y/h3 p.1 (y/h3 x y)=c at g1 f⊢;generalize p.2/h3 (x/h3 x y) p.2=d at g2 e⊢;have:=lP f e;have:=alA g1 g2;omega
 grind
 grind
 grind
theorem aiT p(x y:Nat) h(hp:zA p)(u:x<=64)(s:y<=64)(i:0<y):Fn aB 49 #[yA p.1 p.2,R x,R y] h λv k=>h.le k/\v=ey #[yA (lF p x y).1.1 (lF p x y).1.2,c5 (lF p x y).2]:=by
 obtain⟨n,d⟩:=p;obtain⟨h1,ae⟩:=hp;simp only at h1 ae;refine b6 axI rfl ?_;obtain⟨b,e⟩:∃z,z=x/h3 x y:=⟨_,rfl⟩;obtain⟨a,c⟩:∃z,z=y/h3 x y:=⟨_,rfl⟩;have A:b<=x:=by rw[e];exact oT _ _
 have C:a<=y:=by rw[c];exact oT _ _
 have r:lF (n,d) x y=if nG n d&&nG b a then(match sK (n,d) (b,a)with
  |some m=>(m,decide (m.1<=4096)&&decide (m.2<=4096))
  |none=>((0,0),false))else((0,0),false):=by
  rw[lF,<-e,<-c]
 rw[r];refine .ah (.mk _ (az1 x y h I I i) ?_);rintro _ t ⟨rfl,f⟩;rw[<-e,<-c];refine .mk λB o=>?_;refine .ah (.mk _ (azx B n d b a _ (J.b1 _ _ _) h1 ae I I) ?_);rintro _ l ⟨g,rfl⟩;have le:h.le l:=J.le_trans f (J.le_trans (J.dI o) g);cases w:(nG n d&&nG b a)
 .refine⟨?_,?_⟩;all_goals conv=>whnf
  all_goals exact .ah ⟨le,rfl⟩
 cases hm:sK (n,d) (b,a)with
 |none=>
  refine⟨?_,?_⟩;all_goals conv=>whnf
  all_goals exact .ah ⟨le,rfl⟩
 |some m=>
  obtain⟨m1,m2⟩:=m;refine aY (λq=>?_) (λq=>?_);all_goals conv=>whnf
  all_goals refine⟨?_,?_⟩
  all_goals conv=>whnf
  all_goals refine .ah ⟨le,?_⟩
  all_goals have j:decide ((m2:Int)<=4096)=decide (m2<=4096):=decide_eq_decide.2 I
  all_goals simp only[lY]
  show ey #[yA m1 m2,c5 (decide ((m2:Int)<=4096))]=_
  grind
  show ey #[yA m1 m2,c5 (decide ((m2:Int)<=4096))]=_
  grind
  rw[io (show¬m1<=4096 by omega),Bk];rfl;rw[io (show¬m1<=4096 by omega),Bk];rfl
def DQ(up:List Nat):Nat->Nat->Nat
 |0,v=>v
 |f+1,v=>if up.getD v v=v then v else DQ up f (up.getD v v)
def ku(up:List Nat)(v:Nat):Nat:=DQ up (v+1) v
structure yk(N:Nat)(up:List Nat):Prop where
 len:up.length=N
 le:∀v,up.getD v v<=v
theorem apU{up:List Nat}(ok:yk N up):∀v f a,v<f->v<a->DQ up f v=DQ up a v:=by
 intro v;induction v using Qx with
 |_ v c=>
  intro f a h1 ae;obtain⟨f,rfl⟩:∃k,f=k+1:=⟨f-1,I⟩;obtain⟨a,rfl⟩:∃k,a=k+1:=⟨a-1,I⟩;unfold DQ;split;rfl;rename_i b;have:=ok.le v
  grind
theorem MS{up:List Nat}(ok:yk N up)(h:up.getD v v≠v):ku up (up.getD v v)=ku up v:=by
 have:=ok.le v;unfold ku;conv=>rhs;unfold DQ
 rw[aD h];exact apU ok _ _ _ I I
theorem I'{up:List Nat}(h:up.getD v v=v):ku up v=v:=by
 unfold ku DQ
 grind
theorem RX{up:List Nat}(ok:yk N up):∀v,ku up v<=v:=by
 intro v;induction v using Qx with
 |_ v a=>
  by_cases h:up.getD v v=v;rw[I' h];omega;have:=ok.le v;rw[<-MS ok h]
  grind
theorem RT b g N up v h(c:h b=some (bb #[ab (some ⟨g,0,none⟩) N N] 27 (0,0)))(f:h g=some (bb (up.map λz:Nat=>R z).toArray 3 (0,0)))(ok:yk N up)(n:v<N):Fn aB 107 #[R v,gv (some ⟨b,0,none⟩)] h λr a=>r=R (ku up v)/\a=h:=by
 refine b6 awb rfl (.mk Nat [0,1] (λx=>[.v (R x),.v (gv (some ⟨b,0,none⟩))]) (λ_=>[]) (λx a=>a=h/\x<=v/\ku up x=ku up v) (λx=>x) v (λ_=>rfl) ⟨rfl,dz _,rfl⟩ rfl rfl (λx e a⟨rfl,m,i⟩=>?_));have j:x<up.length:=by grind [ok.len]
 have ay:a.cell? ((nI g 0 none).add (x*1))=some (R (up.getD x x)):=by
  rw[add_lit,dM,eV];exact bV f aJ
 have k:=ok.le x;have l:=MS ok (v:=x);have d:=I' (up:=up) (v:=x);generalize up.getD x x=y at ay k l d;refine .hp _ (bV c rfl) ?_;refine .r ?_;refine .hp _ (by rw[bz];exact ay) ?_;refine aY (λq=>?_) (λq=>?_);refine .hp _ (bV c rfl) ?_;refine .r ?_;refine .hp _ (by rw[bz];exact ay) ?_;exact⟨y,rfl,rfl,⟨rfl,I,I⟩,I⟩;exact .ah ⟨by rw[<-i,d I];rfl,rfl⟩
def Fq(b:List Nat×List Nat)(i:Nat)(a:bT):List Nat×List Nat:=
 if ku b.1 a.src.toNat=ku b.1 a.dst.toNat then b else(b.1.set (max (ku b.1 a.src.toNat) (ku b.1 a.dst.toNat)) (min (ku b.1 a.src.toNat) (ku b.1 a.dst.toNat)),b.2++[i])
def gH(N:Nat)(ad:List bT):Nat->List Nat×List Nat
 |0=>(fL N,[])
 |k+1=>match ad[k]?with
  |some a=>Fq (gH N ad k) k a
  |none=>gH N ad k
def e4(N:Nat)(ad:List bT):List Nat:=(gH N ad ad.length).2
def hY(N:Nat)(ad:List bT):List Nat:=(fL N).map (ku (gH N ad ad.length).1)
theorem yk.set{N:Nat}{up:List Nat}(ok:yk N up){i o:Nat}(h:o<=i):yk N (up.set i o):=by
 refine⟨by simp[ok.len],λv=>?_⟩;rw[cx,s8];split;rename_i e;subst e;split;exact h;exact dz _;rw[<-cx];exact ok.le v
theorem aFF N:yk N (fL N):=by
 refine⟨bd,λv=>?_⟩;rw[cx];by_cases h:v<N;rw[Dm h];exact dz _;rw[l6 (by simpa using h)];exact dz _
theorem Jg N ad:∀k,yk N (gH N ad k).1
 |0=>aFF N
 |k+1=>by
  have a:=Jg N ad k;unfold gH;split;unfold Fq;split;exact a;exact a.set I;exact a
theorem MX N ad:∀k,(gH N ad k).2.length<=k
 |0=>by simp[gH]
 |k+1=>by
  have a:=MX N ad k;unfold gH;split;unfold Fq;split;omega;simp;omega;omega
def akr(h:J)(N:Nat)(ad:List bT)(v:ax)(a:J):Prop:=
 h.le a/\(e' N ad≠0->v=ey #[.agg #[ab none 0 0,ab none 0 0],R (e' N ad)])/\
  (e' N ad=0->∃T c H,v=ey #[.agg #[ab T (e4 N ad).length c,ab (some H) N N],R 0]/\bf a 1 T (e4 N ad).length ((e4 N ad).map λz:Nat=>[R (z:Int)])/\bf a 1 (some H) N ((hY N ad).map λz:Nat=>[R (z:Int)]))
def rB(f:Nat->ax)(z:ax)(m k:Nat):List ax:=(fL k).map f++bh (m-k) z
theorem aaX{k:Nat}(h:k<=m):(rB f z m k).length=m:=by simp[rB];omega
theorem aaY{k:Nat}(h:k<m):(rB f z m k).set k (f k)=rB f z m (k+1):=by
 unfold rB;rw[List.set_append_right _ _ bd,List.length_map,List.length_range,Nat.sub_self,List.range_succ,fF,List.append_assoc];congr 1;rw[show m-k=(m- (k+1))+1 by omega,List.replicate_succ];rfl
theorem aaW:rB f z m m=(fL m).map f:=by simp[rB]
theorem bJ.af9{n c:Nat}{A:Option aI}{l:List Nat}(x:bJ h 3 1 A n c (l.map λz:Nat=>R z)):bf h 1 A n (l.map λz:Nat=>[R z]):=by
 have:=x.eQ;rw[iD]at this;exact this
theorem agi(N n B:Nat) A ad h(F:bf h 5 A n (ad.map bT.cells))(aA:n<=9223372036854775806):Fn aB 46 #[mW N A n B] h λv t=>akr h N ad v t:=by
 have ak:ad.length=n:=by simpa using F.len
 refine b6 axF rfl (.ah (.mk _ (Mr N A n B ad h F aA) ?_));rintro _ _ ⟨rfl,rfl⟩;refine aY (λq=>?_) (λq=>?_);exact .ah ⟨J.le_refl _,λ_=>rfl,λe=>absurd e q⟩;have ao:e' N ad=0:=jL.1 q;obtain⟨Jv,vX,xu,eK⟩:=lT ao;refine .one N (R 0) rfl rfl rfl rfl I I λeX=>.mk Nat [1,2,5,24,25] (λk=>[.p 0 0,.p 1 0,.p 3 0,.v (R N),.v (R k)]) (λk=>[.own [.v (R N),.v (ab A n B)] 33,.own [.v (ab none 0 0),.v (ab none 0 0)] 159,.row 3 1 (some eX) N N (tT N k),.own [.v (ab (some eX) N N)] 27]) (λk t=>t=_/\k<=N) (λk=>N-k) 0 (λ_=>rfl) ⟨rfl,cW _⟩ rfl (by simp[tT,R]) (λk e h1⟨rfl,hk⟩=>aY (λaL=>?_) (λaL=>?_));have w:k<N:=I;exact .m eX rfl (.row 2 3 1 eX N N (tT N k) (tT N (k+1)) k rfl (by rw[bz,eV]) (by rw[ih _ _ _ (by rw[agB hk];exact w),agC w]) (.bg (⟨k+1,rfl,rfl,⟨rfl,w⟩,by show N- (k+1)<N-k;omega⟩)));have Aw:N=k:=I;subst Aw;refine .mk λj M8=>.one N (R 0) rfl rfl rfl rfl I I λl=>.kY (.b4 2 3 1 (some eX) N N (tT N N) rfl λae b8 H f2=>.abs 3 1 none 0 0 [] ⟨rfl,bW ⟨rfl,rfl,rfl⟩⟩ (.ah ?_));obtain⟨_,H|⟨b,bm,X,mg,_,_,fN,ox⟩⟩:=H;cases H.1;injection X with X;subst X;have P:bm=((gH N ad 0).1.map λz:Nat=>R (z:Int)).toArray:=by
  rw[lN (by simp[fN])]at ox;rw[<-FD (xs:=bm),ox];simp[tT,gH]
 have Nk:h1 b=none:=by
  have:=f2 _ rfl;simp only at this;exact U4 this
 have Tw:b≠j:=λe=>by
  have:=f2 _ rfl;simp only at this;rw[e,J.b1]at this;cases this
 obtain⟨a,D⟩:∃a:Nat->J,a=λk=>ae.put b (bb ((gH N ad k).1.map λz:Nat=>R (z:Int)).toArray 3 (0,0)):=⟨_,rfl⟩;have y:∀k,a k=ae.put b (bb ((gH N ad k).1.map λz:Nat=>R (z:Int)).toArray 3 (0,0)):=λk=>by rw[D]
 clear D;have K:ae=a 0:=by rw[y];exact(J.sT (by rw[mg,P])).symm
 have s:∀k,a k j=some (bb #[ab (some ⟨b,0,none⟩) N N] 27 (0,0)):=λk=>by
  rw[y,J.cB _ _ (d' Tw)];exact b8 _ _ (J.b1 _ _ _)
 have f:∀k,a k b=some (bb ((gH N ad k).1.map λz:Nat=>R (z:Int)).toArray 3 (0,0)):=λk=>by rw[y];exact J.b1 _ _ _
 have C:∀k,h1.le (a k):=λk=>by
  rw[y];exact ll Nk (J.le_trans (J.dI M8) b8)
 have E:∀k u,u=(gH N ad (k+1)).1->(a k).put b (bb (u.map λz:Nat=>R (z:Int)).toArray 3 (0,0))=a (k+1):=λk u hu=>by
  rw[y,y,hu];funext o;unfold J.put;split<;>rfl
 refine .mk (Nat×Option aI×Nat) [2,5,7,8,39,40,41] (λ(k,_,_)=>[.p 1 0,.p 3 0,.v (.func (.func 107) #[] #[gv (some ⟨j,0,none⟩)]),.p 5 0,.v (ab A n B),.v (R n),.v (R k)]) (λ(k,T,c)=>[.own [.v (R N),.v (ab A n B)] 33,.own [.v (ab none 0 0),.v (ab none 0 0)] 159,.gone,.b4 j,.row 3 1 (some l) N N (bh N (R 0)),.own [.v (ab T (gH N ad k).2.length c),.v (ab (some l) N N)] 159,.row 3 1 T (gH N ad k).2.length c ((gH N ad k).2.map λz:Nat=>R (z:Int))]) (λ(k,_,_) t=>t=a k/\k<=n) (λ(k,_,_)=>n-k) (0,none,0) (λ_=>rfl) ⟨K,cW _⟩ rfl rfl ?_;rintro⟨k,T,c⟩ Z au ⟨rfl,Ej⟩;have x:=Jg N ad k;refine aY (λaH=>?_) (λaH=>?_);have w:k<ad.length:=I;have uT:=eK ad[k] (cG w);obtain⟨g,am⟩:=F.cg I;refine .m g am (.hp ad[k].cells rfl (by rw[bz];exact(F.mono (C k)).row am (iP w)) ?_);obtain⟨qn,s1,d0,d1,_⟩:=rT uT;have V:=RT j b N (gH N ad k).1 ad[k].src.toNat (a k) (s k) (f k) x I;have fd:=RT j b N (gH N ad k).1 ad[k].dst.toNat (a k) (s k) (f k) x I;have ls:=RX x ad[k].src.toNat;have ld:=RX x ad[k].dst.toNat;rw[pr qn]at V;rw[pr d0]at fd;have i:gH N ad (k+1)=Fq (gH N ad k) k ad[k]:=by rw[gH,bZ w]
 unfold Fq at i;generalize Cz:ku (gH N ad k).1 ad[k].src.toNat=xs at V ls i;generalize aH6:ku (gH N ad k).1 ad[k].dst.toNat=d at fd ld i;refine .mk _ V (λv ae q=>by rw[q.2];exact J.le_refl _) ?_;rintro _ _ ⟨rfl,rfl⟩;refine .ah (.mk _ fd ?_);rintro _ _ ⟨rfl,U⟩;subst U;refine aY (λW=>?_) (λW=>?_);have S:¬xs=d:=I;rw[aD S]at i;have hI:=MX N ad k;refine .ah (.c3 6 _ [R k] rfl rfl (by simp[zX,R]) (by simp[eD];omega) I λL br aHi=>.hp _ (bV (s k) rfl) ?_);conv=>whnf
 have JN:max (xs:Int) d=((max xs d:Nat):Int):=I;have Q:min (xs:Int) d=((min xs d:Nat):Int):=I;rw[JN,Q];refine .r (.hp b (max xs d) 3 ((gH N ad k).1.map λz:Nat=>R (z:Int)) (((gH N ad k).1.set (max xs d) (min xs d)).map λz:Nat=>R (z:Int)) (by rw[add_lit,dM,bz,eV]) (f k) (by rw[ih _ _ _ (by simp[x.len];omega),lM];rfl) (.bg ?_));have aR:(gH N ad (k+1)).1=(gH N ad k).1.set (max xs d) (min xs d):=by rw[i]
 have Z:(gH N ad (k+1)).2=(gH N ad k).2++[k]:=by rw[i]
 refine⟨(k+1,L,br),?_,?_,⟨E k _ aR.symm,I⟩,by show n- (k+1)<n-k;omega⟩;rfl;simp only[Z];simp;have S:xs=d:=I;rw[aP S]at i;refine .bg (⟨(k+1,T,c),rfl,?_,⟨?_,I⟩,by show n- (k+1)<n-k;omega⟩);simp only[i];rfl;rw[<-E k (gH N ad k).1 (by rw[i]),J.sT (f k)];have pF:ad.length=k:=I;subst pF;obtain⟨up,Y⟩:∃u,u=(gH N ad ad.length).1:=⟨_,rfl⟩;have s:=s ad.length;have f:=f ad.length;have C:=C ad.length;rw[<-Y]at x f;generalize a ad.length=eY at s f C;have M:bh N (R 0)=rB (λz=>R (ku up z:Nat)) (R 0) N 0:=by simp[rB]
 refine .mk Nat [2,7,8,74,75] (λo=>[.p 1 0,.v (.func (.func 107) #[] #[gv (some ⟨j,0,none⟩)]),.p 5 0,.v (R N),.v (R o)]) (λo=>[.own [.v (R N),.v (ab A n B)] 33,.own [.v (ab none 0 0),.v (ab none 0 0)] 159,.gone,.b4 j,.row 3 1 (some l) N N (rB (λz=>R (ku up z:Nat)) (R 0) N o),.own [.v (ab T (e4 N ad).length c),.v (ab (some l) N N)] 159,.row 3 1 T (e4 N ad).length c ((e4 N ad).map λz:Nat=>R (z:Int))]) (λo t=>t=eY/\o<=N) (λo=>N-o) 0 (λ_=>rfl) ⟨rfl,cW _⟩ rfl (by simp only[M];rfl) ?_;refineλo cV au⟨rfl,ag⟩=>aY (λW=>?_) (λW=>?_);have G:o<N:=I;refine .mk _ (RT j b N up o _ s f x G) (λv ae q=>by rw[q.2];exact J.le_refl _) ?_;rintro _ _ ⟨rfl,U⟩;subst U;refine .m l rfl ?_;refine .row 4 3 1 l N N _ (rB (λz=>R (ku up z:Nat)) (R 0) N (o+1)) o rfl (by rw[bz,eV]) (by rw[ih _ _ _ (by rw[aaX ag];exact G)];exact ee some (aaY G)) ?_;refine .bg ?_;exact⟨o+1,rfl,rfl,⟨rfl,G⟩,by show N- (o+1)<N-o;omega⟩;have O:N=o:=I;subst O;rw[aaW];refine .b4 4 3 1 (some l) N N _ rfl λcE gn my f5=>.b4 6 3 1 T (e4 N ad).length c _ rfl λe6 iz qm f6=>.ah ⟨J.le_trans C (J.le_trans gn iz),λe=>absurd ao e,λ_=>⟨T,c,l,?_,?_,?_⟩⟩;rfl;exact qm.af9;rw[hY,<-Y];have:=(my.mono iz).eQ;rw[iD]at this;rw[iD];exact this
def m8(p:Int×Bool):List ax:=[R p.1,c5 p.2]
structure QD(h:J)(ix j8 off cap:Nat)(bm:List ax)(fv:List Nat):Prop where
 box:h ix=some (bb #[ab (some ⟨j8,off,none⟩) fv.length cap] 27 (0,0))
 p5:h j8=some (bb bm.toArray 3 (0,0))
 aeM:fv.length<=cap
 room:off+cap<=bm.length
 at_:∀o u,(fv.map λz:Nat=>R (z:Int))[o]?=some u->bm[off+o]?=some u
structure wY(N l7 l8 k' ix gI me fs:Nat)(al h:J)(dp:List Bool)(gO fv:List Nat):Prop where
 ft:h l7=some (bb #[ab (some ⟨gI,0,none⟩) N N] 193 (0,0))
 dE:h l8=some (bb #[ab (some ⟨me,0,none⟩) N N] 78 (0,0))
 hI:h k'=some (bb #[ab (some ⟨fs,0,none⟩) N N] 27 (0,0))
 tV:h gI=some (bb (dp.map c5).toArray 4 (0,0))
 pg:∃ig:List (Int×Bool),ig.length=N/\h me=some (bb (ig.map m8).flatten.toArray 173 (0,0))
 u5:h fs=some (bb (gO.map λz:Nat=>R (z:Int)).toArray 3 (0,0))
 y2:dp.length=N
 cF:gO.length=N
 q:∃j8 off cap bm,QD h ix j8 off cap bm fv/\j8≠fs/\al j8=none
 Mk:k'≠ix
 le:al.le h
 DO:al gI=none
 tk:al me=none
 jX:al fs=none
 DP:al ix=none
theorem lC{a:Nat}{x y:Array ax}{t:Nat}(c:h a=some (bb x t (0,0)))(d:h b=some (bb y u (0,0)))(f:t≠u):a≠b:=λe=>by
 rw[e,d]at c;injection c with c;injection c with _ c;exact f c.symm
theorem aDQ(l:List (Int×Bool)):∀i p,i<l.length->over (l.map m8).flatten (i*2) (m8 p)=some ((l.set i p).map m8).flatten:=by
 induction l with
 |nil=>intro i p h;simp at h
 |cons a l c=>
  intro i p h;cases i with
  |zero=>
   rw[FV];show over (R a.1::c5 a.2::(l.map m8).flatten) 0 [R p.1,c5 p.2]=_;simp[over,m8]
  |succ i=>
   have b:=c i p (by simpa using h);rw[zS];show over (R a.1::c5 a.2::(l.map m8).flatten) (i*2+2) (m8 p)=_;simp only[over,b];simp[m8]
def wm(dp:List Bool)(u:Nat):List Bool:=if dp.getD u false=true then dp else dp.set u true
def AS(dp:List Bool)(gO:List Nat)(u b:Nat):List Nat:=if dp.getD u false=true then gO else gO.set u b
def y4(dp:List Bool)(fv:List Nat)(u:Nat):List Nat:=if dp.getD u false=true then fv else fv++[u]
theorem ae1(N G C s c gI j d u b:Nat)(z:Int)(t:Bool)(al h:J)(dp:List Bool)(gO fv:List Nat)(p:wY N G C s c gI j d al h dp gO fv)(hu:u<N)(hw:fv.length<=1000):Fn aB 112 #[R u,R b,.agg #[R z,c5 t],gv (some ⟨G,0,none⟩),gv (some ⟨C,0,none⟩),gv (some ⟨s,0,none⟩),gv (some ⟨c,0,none⟩)] h λ_ aa=>wY N G C s c gI j d al aa (wm dp u) (AS dp gO u b) (y4 dp fv u):=by
 refine b6 awg rfl ?_;have Cq:u<dp.length:=by rw[p.y2];exact hu
 have ay:h.cell? ((nI gI 0 none).add (u*1))=some (c5 (dp.getD u false)):=by
  rw[add_lit,dM,eV];exact bV p.tV (by rw[dH,bZ Cq,cx,bZ Cq];rfl)
 refine .hp _ (bV p.ft rfl) ?_;refine .r ?_;refine .hp _ (by rw[bz];exact ay) ?_;cases hk:dp.getD u false
 .obtain⟨F,GU,w⟩:=p.pg;obtain⟨n,off,cap,bm,Q,Cm,Jo⟩:=p.q;have K:=lC p.tV w aM;have L:=lC p.tV p.u5 aM;have T:=lC w p.u5 aM;have O:=lC p.tV p.dE aM;have P:=lC p.tV p.hI aM;have S:=lC p.tV Q.box aM;have azD:=lC p.tV p.ft aM;have M:=lC p.tV Q.p5 aM;have azG:=lC w p.dE aM;have W:=lC w p.hI aM;have X:=lC w Q.box aM;have azF:=lC w p.ft aM;have V:=lC w Q.p5 aM;have azJ:=lC p.u5 p.dE aM;have azK:=lC p.u5 p.hI aM;have Y:=lC p.u5 Q.box aM;have azI:=lC p.u5 p.ft aM;obtain⟨aT,l⟩:∃q,q=h.put gI (bb ((dp.set u true).map c5).toArray 4 (0,0)):=⟨_,rfl⟩;obtain⟨b9,y⟩:∃q,q=aT.put j (bb (((F.set u (z,t)).map m8).flatten).toArray 173 (0,0)):=⟨_,rfl⟩;obtain⟨hC,A⟩:∃q,q=b9.put d (bb ((gO.set u b).map λz:Nat=>R (z:Int)).toArray 3 (0,0)):=⟨_,rfl⟩;have IE:aT C=some (bb #[ab (some ⟨j,0,none⟩) N N] 78 (0,0)):=by rw[l,J.cB _ _ (d' O)];exact p.dE
  have BT:aT s=some (bb #[ab (some ⟨d,0,none⟩) N N] 27 (0,0)):=by rw[l,J.cB _ _ (d' P)];exact p.hI
  have anE:b9 s=some (bb #[ab (some ⟨d,0,none⟩) N N] 27 (0,0)):=by rw[y,J.cB _ _ (d' W)];exact BT
  have ank:aT j=some (bb (F.map m8).flatten.toArray 173 (0,0)):=by rw[l,J.cB _ _ (d' K)];exact w
  have anK:b9 d=some (bb (gO.map λz:Nat=>R (z:Int)).toArray 3 (0,0)):=by rw[y,J.cB _ _ (d' T),l,J.cB _ _ (d' L)];exact p.u5
  have Ab:hC c=some (bb #[ab (some ⟨n,off,none⟩) fv.length cap] 27 (0,0)):=by rw[A,J.cB _ _ (d' Y),y,J.cB _ _ (d' X),l,J.cB _ _ (d' S)];exact Q.box
  refine .hp _ (bV p.ft rfl) ?_;refine .r ?_;have age:over (dp.map c5) u [c5 true]=some ((dp.set u true).map c5):=by rw[ih _ _ _ (by simpa using Cq),lM]
  have U7:over (F.map m8).flatten (u*2) [R z,c5 t]=some ((F.set u (z,t)).map m8).flatten:=aDQ F u (z,t) I;have U8:over (gO.map λz:Nat=>R (z:Int)) u [R b]=some ((gO.set u b).map λz:Nat=>R (z:Int)):=by rw[ih _ _ _ (by simp[p.cF];exact hu),lM]
  have cg:∀g k,(nI g 0 none).add ((u:Int).toNat*k)=⟨g,u*k,none⟩:=λg k=>by rw[add_lit,dM,bz]
  have an7:hC n=some (bb bm.toArray 3 (0,0)):=by rw[A,J.cB _ _ Cm,y,J.cB _ _ (d' V),l,J.cB _ _ (d' M)];exact Q.p5
  have Z:=lC Q.p5 Q.box aM;have H:∀o U,o≠gI->o≠j->o≠d->h o=some U->hC o=some U:=λo U uW tD AN a=>by
   rw[A,J.cB _ _ AN,y,J.cB _ _ tD,l,J.cB _ _ uW];exact a
  have fin:∀bn:J,(∃Sc OK i ZN,QD bn c Sc OK i ZN (fv++[u])/\Sc≠d/\al Sc=none)->(∀o U,o≠c->o≠n->hC o=some U->bn o=some U)->wY N G C s c gI j d al bn (wm dp u) (AS dp gO u b) (y4 dp fv u):=λbn aw B=>by
   have wh:dp.getD u false≠true:=by rw[hk];decide
   rw[wm,AS,y4,aD wh,aD wh,aD wh];have Sd:∀o ty cs,h o=some (bb cs ty (0,0))->ty≠3->o≠n:=λo ty cs a f=>lC a Q.p5 f;refine⟨B _ _ (lC p.ft Q.box aM) (Sd _ _ _ p.ft aM) (H _ _ (d' azD) (d' azF) (d' azI) p.ft),B _ _ (lC p.dE Q.box aM) (Sd _ _ _ p.dE aM) (H _ _ (d' O) (d' azG) (d' azJ) p.dE),B _ _ p.Mk (Sd _ _ _ p.hI aM) (H _ _ (d' P) (d' W) (d' azK) p.hI),B _ _ S M ?_,⟨F.set u (z,t),by simp[GU],B _ _ X V ?_⟩,B _ _ Y (d' Cm) ?_,by simp[p.y2],by simp[p.cF],aw,p.Mk,λo U a=>?_,p.DO,p.tk,p.jX,p.DP⟩;rw[A,J.cB _ _ L,y,J.cB _ _ K,l,J.b1];rw[A,J.cB _ _ T,y,J.b1];rw[A,J.b1];have f:∀{x:Nat},al x=none->o≠x:=λaf e=>by rw[e,af]at a;cases a
   exact B _ _ (f p.DP) (f Jo) (H _ _ (f p.DO) (f p.tk) (f p.jX) (p.le _ _ a))
  have apQ:fv.length+1<=cap->wY N G C s c gI j d al ((hC.put n (bb (bm.set (off+fv.length) (R u)).toArray 3 (0,0))).put c (bb #[ab (some ⟨n,off,none⟩) (fv.length+1) cap] 27 (0,0))) (wm dp u) (AS dp gO u b) (y4 dp fv u):=λcJ=>by
   refine fin _ ⟨n,off,cap,bm.set (off+fv.length) (R u),⟨by rw[J.b1,fc];rfl,by rw[J.cB _ _ Z,J.b1],by simp;exact cJ,by rw[h2];exact Q.room,λo v a=>?_⟩,Cm,Jo⟩ λo U uW tD a=>by rw[J.cB _ _ uW,J.cB _ _ tD];exact a
   rw[fF,List.getElem?_append]at a;have yT:=Q.room;rw[s8];split at a;rename_i eS;simp at eS;rw[aD I];exact Q.at_ o v a;rename_i Nj;simp at Nj;have S5:o=fv.length:=by
    have:=(pZ.1 a).1;simp at this;omega
   subst S5;rw[aP rfl,aP I];simpa using a
  have apR:∀(m:aI)(i:Nat)(D:J),(hC.put c (bb #[ab (some m) (fv.length+1) i] 27 (0,0))).le D->bJ D 3 1 (some m) (fv.length+1) i ((fv.map λz:Nat=>R (z:Int))++[R u])->(∀g,some m=some g->(hC.put c (bb #[ab (some m) (fv.length+1) i] 27 (0,0))) g.block=none)->wY N G C s c gI j d al D (wm dp u) (AS dp gO u b) (y4 dp fv u):=λm i D iz qm f6=>by
   obtain⟨_,qm|⟨E,aoz,dP,asb,sB,sC,fN,ox⟩⟩:=qm;cases qm.1;injection dP with dP;subst dP;have GM:=f6 _ rfl;simp only at GM;have Cn:E≠c:=λe=>by rw[e,J.b1]at GM;cases GM
   have Nh:hC E=none:=by rwa[J.cB _ _ Cn]at GM
   have asA:E≠d:=λe=>by rw[e,A,J.b1]at Nh;cases Nh
   refine fin _ ⟨E,0,i,aoz.toList,⟨iz _ _ (by rw[J.b1,fc];rfl),asb,by simp;exact sB,by simp[fN],λo v a=>?_⟩,asA,?_⟩ λo U uW tD a=>iz _ _ (by rw[J.cB _ _ uW];exact a);rw[fF,ec,List.map_nil,<-ox]at a;rw[dM];rw[List.getElem?_take]at a;split at a;exact a;cases a;cases dO:al E with
   |none=>rfl
   |some U=>
    have f:∀{x:Nat},al x=none->E≠x:=λaf e=>by rw[e,af]at dO;cases dO
    rw[H _ _ (f p.DO) (f p.tk) (f p.jX) (p.le _ _ dO)]at Nh;cases Nh
  repeat'(first
   |(refine⟨?_,?_⟩<;>conv=>whnf)
   |(refine .hp _ (bV p.dE rfl) ?_;conv=>whnf)
   |(refine .hp _ (bV IE rfl) ?_;conv=>whnf)
   |(refine .hp _ (bV p.hI rfl) ?_;conv=>whnf)
   |(refine .hp _ (bV BT rfl) ?_;conv=>whnf)
   |(refine .hp _ (bV anE rfl) ?_;conv=>whnf)
   |(refine .r ?_;conv=>whnf)
   |(refine .hp gI u 4 _ _ (by rw[cg,eV]) p.tV age ?_;rw[<-l];conv=>whnf)
   |(refine .hp j (u*2) 173 _ _ (by rw[cg]) ank U7 ?_;rw[<-y];conv=>whnf)
   |(refine .hp d u 3 _ _ (by rw[cg,eV]) anK U8 ?_;rw[<-A];conv=>whnf))
  all_goals refine .hp _ (bV Ab rfl) ?_
  all_goals conv=>whnf
  all_goals refine .ah (.mem n off bm (bm.set (off+fv.length) (R u)) [R u] (fv.map λz:Nat=>R (z:Int)) rfl an7 rfl (by simp[zX,R]) aM bd Q.at_ (λcJ=>by rw[eV,ih _ _ _ (by have:=Q.room;omega)]) (by simp[eD];omega) I (λcJ=>?_) (λeS m i cJ=>?_))
  all_goals conv=>whnf
  all_goals refine .hp c 0 27 _ [_] rfl (by first|exact Ab|(rw[J.cB _ _ (d' Z)];exact Ab)) rfl ?_
  all_goals conv=>whnf
  all_goals first
   |exact .ah (apQ cJ)
   |exact .b4 2 3 1 (some m) (fv.length+1) i _ rfl λD iz qm f6=>.ah (apR m i D iz qm f6)
 exact .ah (by rw[wm,AS,y4,aP hk,aP hk,aP hk];exact p)
inductive kA(L:Nat->Nat->Prop):Nat->Nat->Prop
 |refl (u:Nat):kA L u u
 |step {u v w:Nat} (h:L u v) (c:kA L v w):kA L u w
theorem kA.trans{w:Nat}(x:kA L u v)(y:kA L v w):kA L u w:=by
 induction x with
 |refl=>exact y
 |step h _ a=>exact .step h (a y)
theorem kA.symm(a:∀u v,L u v->L v u)(x:kA L u v):kA L v u:=by
 induction x with
 |refl=>exact .refl _
 |step h _ b=>exact b.trans (.step (a _ _ h) (.refl _))
theorem kA.mono{a:Nat->Nat->Prop}(b:∀u v,L u v->a u v)(x:kA L u v):kA a u v:=by
 induction x with
 |refl=>exact .refl _
 |step h _ c=>exact .step (b _ _ h) c
def nK(ad:List bT)(b:List Nat)(u v:Nat):Prop:=∃i∈b,∃a,ad[i]?=some a/\((a.src.toNat=u/\a.dst.toNat=v)\/(a.dst.toNat=u/\a.src.toNat=v))
theorem nK.symm{b:List Nat} u v(h:nK ad b u v):nK ad b v u:=by
 obtain⟨i,d,a,c,h⟩:=h;exact⟨i,d,a,c,h.elim (λq=>bl ⟨q.2,q.1⟩) (λq=>bW ⟨q.2,q.1⟩)⟩
theorem nK.mono{c b:List Nat}(f:∀i∈c,i∈b) u v(h:nK ad c u v):nK ad b u v:=by
 obtain⟨i,e,a,d,h⟩:=h;exact⟨i,f i e,a,d,h⟩
theorem RW{up:List Nat}(ok:yk N up)(h:∀v,kA L v (up.getD v v)):∀v,kA L v (ku up v):=by
 intro v;induction v using Qx with
 |_ v a=>
  by_cases e:up.getD v v=v;rw[I' e];exact .refl _;have:=ok.le v;rw[<-MS ok e];exact(h v).trans (a _ I)
theorem R8 N ad:∀k v,kA (nK ad (gH N ad k).2) v ((gH N ad k).1.getD v v)
 |0,v=>by
  have:(gH N ad 0).1.getD v v=v:=by
   show(fL N).getD v v=v;rw[cx];by_cases h:v<N;rw[Dm h];rfl;rw[l6 (by simpa using h)];rfl
  rw[this];exact .refl _
 |k+1,v=>by
  have b:=R8 N ad k;have g:=RW (Jg N ad k) b;unfold gH;split;rename_i a j;unfold Fq;split;exact b v;have up:∀u w,kA (nK ad (gH N ad k).2) u w->kA (nK ad ((gH N ad k).2++[k])) u w:=λu w c=>c.mono (nK.mono λi l=>Bv _ l);have hk:nK ad ((gH N ad k).2++[k]) a.src.toNat a.dst.toNat:=⟨k,bd,a,j,bW ⟨rfl,rfl⟩⟩;have d:kA (nK ad ((gH N ad k).2++[k])) (ku (gH N ad k).1 a.src.toNat) (ku (gH N ad k).1 a.dst.toNat):=(kA.symm nK.symm (up _ _ (g a.src.toNat))).trans (.step hk (up _ _ (g a.dst.toNat)));generalize ku (gH N ad k).1 a.src.toNat=x at d⊢;generalize ku (gH N ad k).1 a.dst.toNat=y at d⊢;show kA _ v (((gH N ad k).1.set (max x y) (min x y)).getD v v);rw[cx,s8];split;rename_i e;subst e;split;show kA _ _ (min x y);by_cases f:x<=y;rw[Nat.max_eq_right f,Nat.min_eq_left f];exact kA.symm nK.symm d;rw[Nat.max_eq_left I,Nat.min_eq_right I];exact d;exact .refl _;rw[<-cx];exact up _ _ (b v);exact b v
theorem atg(hu:u<N)(c:v<N)(h:(hY N ad).getD u 0=(hY N ad).getD v 0):kA (nK ad (e4 N ad)) u v:=by
 have a:∀w,w<N->(hY N ad).getD w 0=ku (gH N ad ad.length).1 w:=λw hw=>by
  rw[hY,cx,dH,Dm hw];rfl
 rw[a u hu,a v c]at h;have b:=RW (Jg N ad ad.length) (R8 N ad ad.length);exact(b u).trans (by rw[h];exact kA.symm nK.symm (b v))
theorem WS N ad:∀k,∀i∈(gH N ad k).2,i<k
 |0,i,a=>by simp[gH]at a
 |k+1,i,a=>by
  have b:=WS N ad k;unfold gH at a;split at a;unfold Fq at a;split at a;have:=b i a;omega;rcases ej.1 a with a|a;have:=b i a;omega;simp at a;omega;have:=b i a;omega
structure rh(N dst:Nat)(L:Nat->Nat->Prop)(AZ:Nat->Prop)(dp:List Bool)(gO fv:List Nat):Prop where
 y2:dp.length=N
 cF:gO.length=N
 root:dp.getD dst false=true
 hD:∀u∈fv,dp.getD u false=true
 done:∀u,dp.getD u false=true->u∉fv->¬AZ u->∀v,L u v->dp.getD v false=true
 gf:∃r:Nat->Nat,(∀u,dp.getD u false=true->r u+dp.count false+1<=N)/\∀u,dp.getD u false=true->u≠dst->dp.getD (gO.getD u 0) false=true/\r (gO.getD u 0)<r u
theorem ayj(h:dp.getD u false=true):u<dp.length:=by
 rw[cx]at h;rcases Nat.lt_or_ge u dp.length with a|a;exact a;rw[l6 a]at h;simp at h
theorem Sg(l:List α) i o x d(a:i<l.length):(l.set i x).getD o d=if o=i then x else l.getD o d:=by
 rw[cx,s8];split;rename_i e;subst e;rw[aP rfl];simp;rename_i e;rw[aD (d' e),<-cx]
theorem ZI(dp:List Bool):∀u,u<dp.length->dp.getD u false=false->(dp.set u true).count false+1=dp.count false:=by
 induction dp with
 |nil=>intro u h;simp at h
 |cons a l c=>
  intro u h b;cases u with
  |zero=>
   simp at b;subst b;simp
  |succ u=>
   have:=c u (by simpa using h) (by simpa using b);rw[LZ,Bt,Bt];omega
theorem rh.ae0{j:Nat->Prop}(b:rh N dst L j dp gO fv)(hu:u<N)(c:dp.getD v false=true):rh N dst L j (wm dp u) (AS dp gO u v) (y4 dp fv u)/\(wm dp u).getD u false=true/\(∀w,dp.getD w false=true->(wm dp u).getD w false=true)/\(wm dp u).count false+(y4 dp fv u).length=dp.count false+fv.length:=by
 by_cases hk:dp.getD u false=true;rw[wm,AS,y4,aP hk,aP hk,aP hk];exact⟨b,hk,λ_ h=>h,rfl⟩;rw[wm,AS,y4,aD hk,aD hk,aD hk];have k:u<dp.length:=by rw[b.y2];exact hu
 have g:u<gO.length:=by rw[b.cF];exact hu
 have f:dp.getD u false=false:=by simpa using hk
 have a:∀o,(dp.set u true).getD o false=if o=u then true else dp.getD o false:=λo=>Sg _ _ _ _ _ k;have gt:∀o,(gO.set u v).getD o 0=if o=u then v else gO.getD o 0:=λo=>Sg _ _ _ _ _ g;have mono:∀w,dp.getD w false=true->(dp.set u true).getD w false=true:=λw h=>by rw[a];split;rfl;exact h
 have ay:=ZI dp u k f;obtain⟨r,l,t⟩:=b.gf;refine⟨⟨by simp[b.y2],by simp[b.cF],mono _ b.root,λw hw=>?_,λw h1 ae q x p=>?_,λx=>if x=u then r v+1 else r x,λw hw=>?_,λw hw m=>?_⟩,by rw[a,aP rfl],mono,by simp;omega⟩;rcases ej.1 hw with hw|hw;exact mono _ (b.hD w hw);simp at hw;rw[hw,a,aP rfl];by_cases e:w=u;exact absurd (by simp[e]) ae;rw[a,aD e]at h1;exact mono _ (b.done w h1 (λh=>ae (Bv _ h)) q x p);simp only;by_cases e:w=u;rw[aP e];have:=l v c;omega;rw[aD e];rw[a,aD e]at hw;have:=l w hw;omega;simp only;have i:v≠u:=λe=>by rw[e]at c;exact hk c
 by_cases e:w=u;subst e;rw[gt,aP rfl,aP rfl,aD i];exact⟨mono _ c,I⟩;rw[a,aD e]at hw;obtain⟨d,n⟩:=t w hw m;rw[gt,aD e,aD e];have s:gO.getD w 0≠u:=λh=>by rw[h]at d;exact hk d
 rw[aD s];exact⟨mono _ d,n⟩
theorem rh.all(a:∀u v,L u v->L v u)(b:rh N dst L (λ_=>False) dp gO [])(c:kA L u dst):dp.getD u false=true:=by
 have key:∀{x y:Nat},kA L x y->dp.getD x false=true->dp.getD y false=true:=λ{x y} c=>by
  induction c with
  |refl=>exact id
  |step h _ d=>exactλhk=>d (b.done _ hk bd bd _ h)
 exact key (kA.symm a c) b.root
theorem rh.start(L:Nat->Nat->Prop)(b:dst<N)(gO:List Nat)(c:gO.length=N):rh N dst L (λ_=>False) ((bh N false).set dst true) gO [dst]/\((bh N false).set dst true).count false+1=N:=by
 have ak:dst<(bh N false).length:=by simpa using b
 have a:∀o,((bh N false).set dst true).getD o false=if o=dst then true else false:=λo=>by
  rw[Sg _ _ _ _ _ ak];split;rfl;rw[cx,zO];split<;>rfl
 have ay:=ZI (bh N false) dst ak (by rw[cx,zO];split<;>rfl);rw[List.count_replicate_self]at ay;refine⟨⟨bd,c,by rw[a,aP rfl],λu hu=>by simp at hu;rw[hu,a,aP rfl],λu h1 ae _=>?_,λ_=>0,λu _=>by simp only;omega,λu h1 ae=>?_⟩,ay⟩;rw[a]at h1;split at h1;rename_i e;exact absurd (by simp[e]) ae;cases h1;rw[a,aD ae]at h1;cases h1
theorem rh.pop(b:rh N dst L (λ_=>False) dp gO (v::fv)):rh N dst L (λu=>u=v) dp gO fv:=⟨b.y2,b.cF,b.root,λu hu=>b.hD u (by simp[hu]),λu h1 ae a=>b.done u h1 (by simp;exact⟨a,ae⟩) bd,b.gf⟩
theorem rh.close(b:rh N dst L (λu=>u=v) dp gO fv)(h:∀w,L v w->dp.getD w false=true):rh N dst L (λ_=>False) dp gO fv:=
 ⟨b.y2,b.cF,b.root,b.hD,λu h1 ae _=>by
  by_cases e:u=v;rw[e];exact h;exact b.done u h1 ae e,b.gf⟩
def alM(h:J)(v:ax)(a:J):Prop:=h.le a/\∃A m c e,∃b:List (Int×Bool),v=ey #[ab A m c,R e]/\m<=64/\bf a 2 A m (b.map m8)
theorem wY.pop{m n l c q g b off cap:Nat}{f:List ax}(p:wY N m n l c gI q g al h dp gO (v::fv))(Q:QD h c b off cap f (v::fv))(i:b≠g)(j:al b=none){B:Option aI}(s:1<cap->B=(some (nI b off none)).map (·.add (1*1)))(t:1=cap->B=some ⟨b,off,none⟩):wY N m n l c gI q g al (h.put c (bb #[ab B fv.length (cap-1)] 27 (0,0))) dp gO fv:=by
 have a:∀{o:Nat}{ty:Nat}{cs:Array ax},h o=some (bb cs ty (0,0))->ty≠27->o≠c:=λd r=>lC d Q.box r;obtain⟨x,w,k⟩:=p.pg;have ay:=Q.aeM;have y:=Q.room;simp only[iv]at ay;refine⟨by rw[J.cB _ _ (a p.ft aM)];exact p.ft,by rw[J.cB _ _ (a p.dE aM)];exact p.dE,by rw[J.cB _ _ p.Mk];exact p.hI,by rw[J.cB _ _ (a p.tV aM)];exact p.tV,⟨x,w,by rw[J.cB _ _ (a k aM)];exact k⟩,by rw[J.cB _ _ (a p.u5 aM)];exact p.u5,p.y2,p.cF,?_,p.Mk,ll p.DP p.le,p.DO,p.tk,p.jX,p.DP⟩;by_cases e:1<cap;refine⟨b,off+1,cap-1,f,⟨by rw[J.b1,s e];rfl,by rw[J.cB _ _ (a Q.p5 aM)];exact Q.p5,I,I,λo u d=>?_⟩,i,j⟩;have:=Q.at_ (o+1) u aJ
 grind
 have hw:fv=[]:=List.eq_nil_of_length_eq_zero I;subst hw;refine⟨b,off,cap-1,f,⟨by rw[J.b1,t I],by rw[J.cB _ _ (a Q.p5 aM)];exact Q.p5,bd,I,λo u d=>aJ⟩,i,j⟩
theorem azb m:(madeCells (#[R 0,c5 false]:Array ax) (m*2)).toList=((bh m (0,false)).map m8).flatten:=by
 rw[UG (s:=2) rfl m,s9];rfl
theorem aBh(N n ck src dst:Nat) A(ad:List bT) h(av:bf h 5 A n (ad.map bT.cells))(aA:n<=9223372036854775806)(AI:src<N)(SV:dst<N):Fn aB 50 #[mW N A n ck,R src,R dst] h λv V=>alM h v V:=by
 have ak:ad.length=n:=by simpa using av.len
 refine b6 axJ rfl (.ah (.mk _ (agi N n ck A ad h av aA) ?_));rintro _ h1 ⟨ct,f1,f2⟩;by_cases ao:e' N ad=0;obtain⟨T,c,H,rfl,pT,zp⟩:=f2 ao;obtain⟨Jv,vX,xu,eK⟩:=lT ao;have EN:(hY N ad).length=N:=by simp[hY]
 have yt:∀u,u<N->h1.cell? (H.add (u*1))=some (R ((hY N ad).getD u 0:Nat)):=λu hu=>by
  have jE:u<(hY N ad).length:=I;rw[cx,bZ jE];exact zp.one rfl (i:=u) (iP jE) rfl
 refine aY (λq=>I) (λq=>?_);refine aY (λq=>I) (λq=>?_);refine .r ?_;refine .hp _ (by rw[bz];exact yt src AI) ?_;refine .r ?_;refine .hp _ (by rw[bz];exact yt dst SV) ?_;refine aY (λG=>?_) (λG=>?_);exact .ah ⟨ct,none,0,0,110,[],rfl,aM,bf.nil _ _ _⟩;have asa:=atg (ad:=ad) AI SV I;refine .mk N rfl rfl I I λIE=>.one N (R 0) rfl rfl rfl rfl I I λBT=>.one N (c5 false) rfl rfl rfl rfl I I λID=>.m ID rfl (.row 6 4 1 ID N N (bh N (c5 false)) ((bh N (c5 false)).set dst (c5 true)) dst rfl bd (by rw[ih _ _ _ aJ]) (.mk λt SK=>.mk λC SL=>.mk λs SM=>.mk λF S1=>.mk λk Jz=>?_));have aL:h1.le (h1.put t (bb #[ab (some ID) N N] 193 (0,0))):=J.dI SK;have G:=J.dI (U:=bb #[ab (some IE) N N] 78 (0,0)) SL;have j:=J.dI (U:=bb #[ab (some BT) N N] 27 (0,0)) SM;have D:=J.dI (U:=bb #[R dst] 3 (0,0)) S1;have M:=J.dI (U:=bb #[ab (some ⟨F,0,none⟩) 1 1] 27 (0,0)) Jz;have ajN:h1 t=none:=SK;have aII:h1 C=none:=J.none_le aL SL;have aIJ:h1 s=none:=J.none_le (J.le_trans aL G) SM;have W':h1 F=none:=J.none_le (J.le_trans aL (J.le_trans G j)) S1;have aGo:h1 k=none:=J.none_le (J.le_trans aL (J.le_trans G (J.le_trans j D))) Jz;have eM:=J.le_trans G (J.le_trans j (J.le_trans D M)) _ _ (J.b1 _ _ _);have dW:=J.le_trans j (J.le_trans D M) _ _ (J.b1 _ _ _);have dU:=J.le_trans D M _ _ (J.b1 _ _ _);have ga:=M _ _ (J.b1 _ _ _);have my:=J.b1 ((((h1.put t (bb #[ab (some ID) N N] 193 (0,0))).put C (bb #[ab (some IE) N N] 78 (0,0))).put s (bb #[ab (some BT) N N] 27 (0,0))).put F (bb #[R dst] 3 (0,0))) k (bb #[ab (some ⟨F,0,none⟩) 1 1] 27 (0,0));have azH:s≠k:=λe=>by
  rw[<-e,D _ _ (J.b1 _ _ _)]at Jz;cases Jz
 have CE:=J.le_trans aL (J.le_trans G (J.le_trans j (J.le_trans D M)));clear aL G j D M SK SL SM S1 Jz;refine .kY (.b4 2 173 2 (some IE) N N _ rfl λae b8 pg tk=>.b4 4 3 1 (some BT) N N _ rfl λau ds u5 jX=>.b4 6 4 1 (some ID) N N _ rfl λaU dh tV DO=>.ah ?_);have Z:=J.le_trans b8 (J.le_trans ds dh);have nD:=b8 _ _ ga;have yh:=Z _ _ eM;have vw:=Z _ _ dW;have Ya:=Z _ _ dU;have Yb:=Z _ _ ga;have F2:=Z _ _ my;have eU:=J.le_trans CE Z;obtain⟨_,pg|⟨Y,Zg,uE,ar5,_,_,aC0,aiE⟩⟩:=pg;omega;injection uE with uE;subst uE;obtain⟨_,u5|⟨O,kN,j6,ar6,_,_,aC1,aiF⟩⟩:=u5;omega;injection j6 with j6;subst j6;obtain⟨_,tV|⟨gI,IU,h5,aHo,_,_,aCZ,aiD⟩⟩:=tV;omega;injection h5 with h5;subst h5;have U7:Zg=((bh N ((0:Int),false)).map m8).flatten.toArray:=by
  rw[lN (by simp[aC0])]at aiE;rw[<-FD (xs:=Zg),aiE];exact ee List.toArray (azb N)
 have U8:kN=((bh N 0).map λz:Nat=>R (z:Int)).toArray:=by
  rw[lN (by simp[aC1])]at aiF;rw[<-FD (xs:=kN),aiF,s9];rfl
 have age:IU=(((bh N false).set dst true).map c5).toArray:=by
  rw[lN (by simp[aCZ])]at aiD;rw[<-FD (xs:=IU),aiD,lM,s9]
 have aGr:h1 Y=none:=J.none_le CE (tk _ rfl);have aGs:h1 O=none:=J.none_le (J.le_trans CE b8) (jX _ rfl);have aGq:h1 gI=none:=J.none_le (J.le_trans CE (J.le_trans b8 ds)) (DO _ rfl);have azL:F≠O:=λe=>by
  grind
 have FY:wY N t C s k gI Y O h1 aU ((bh N false).set dst true) (bh N 0) [dst]:=by
  refine⟨yh,vw,Ya,aJ,⟨bh N (0,false),bd,by rw[dh _ _ (ds _ _ ar5),U7]⟩,by rw[dh _ _ ar6,U8],bd,bd,⟨F,0,1,[R dst],⟨F2,Yb,bd,bd,λo u W=>aJ⟩,azL,W'⟩,azH,eU,aGq,aGr,aGs,aGo⟩
 have rK:(e4 N ad).length<=ad.length:=MX N ad ad.length;obtain⟨zz,gl⟩:=rh.start (nK ad (e4 N ad)) SV (bh N 0) bd;clear yh vw Ya Yb F2 eM dW dU ga my nD Z tk jX DO;refine .mk (List Bool×List Nat×List Nat) [1,2,3,8,10,11,13,14] (λ_=>[.v (R src),.v (R dst),.p 0 0,.p 1 0,.p 3 0,.p 5 0,.p 9 0,.v (.func (.func 112) #[] #[gv (some ⟨t,0,none⟩),gv (some ⟨C,0,none⟩),gv (some ⟨s,0,none⟩),gv (some ⟨k,0,none⟩)])]) (λ_=>[.own [.v (R N),.v (ab A n ck)] 33,.own [.v (ab T (e4 N ad).length c),.v (ab (some H) N N)] 159,.gone,.b4 C,.gone,.b4 s,.gone,.b4 t,.b4 F,.b4 k]) (λ(dp,gO,fv) V=>wY N t C s k gI Y O h1 V dp gO fv/\rh N dst (nK ad (e4 N ad)) (λ_=>False) dp gO fv/\dp.count false+fv.length<=N) (λ(dp,_,fv)=>dp.count false+fv.length) ((bh N false).set dst true,bh N 0,[dst]) (λ_=>rfl) ⟨FY,zz,aJ⟩ rfl rfl ?_;rintro⟨dp,gO,fv⟩ e cE ⟨p,b,JC⟩;obtain⟨aG5,off,cap,bm,Q,Cm,aq7⟩:=p.q;refine .hp _ (bV Q.box rfl) (aY (λj=>?_) (λj=>?_));match fv,p,b,JC,Q,j with
 |[],_,_,_,_,j=>grind
 |v::fv,p,b,JC,Q,j=>
  simp only[iv]at JC;have K:=b.hD v bd;have atN:v<N:=by grind [b.y2]
  refine .hp _ (bV Q.box rfl) (.mk _ rfl aM bd (.hp (R v) (by rw[add_lit];exact bV Q.p5 (Q.at_ 0 _ rfl)) (.hp _ (bV Q.box rfl) (.mk 1 (fv.length+1) rfl rfl I Q.aeM λB bI cu=>.hp k 0 27 _ [ab B fv.length (cap-1)] rfl Q.box rfl ?_))));have hl:=p.pop Q Cm aq7 bI cu;have hd:=b.pop;generalize cE.put k (bb [ab B fv.length (cap-1)].toArray 27 (0,0))=e6 at hl;obtain⟨S,dr⟩:∃S,S=dp.count false+fv.length:=⟨_,rfl⟩;refine .mk (Nat×List Bool×List Nat×List Nat) [1,2,3,8,10,11,13,14,15,79,80,81] (λ(i,_)=>[.v (R src),.v (R dst),.p 0 0,.p 1 0,.p 3 0,.p 5 0,.p 9 0,.v (.func (.func 112) #[] #[gv (some ⟨t,0,none⟩),gv (some ⟨C,0,none⟩),gv (some ⟨s,0,none⟩),gv (some ⟨k,0,none⟩)]),.v (R v),.v (ab T (e4 N ad).length c),.v (R (e4 N ad).length),.v (R i)]) (λ_=>[.own [.v (R N),.v (ab A n ck)] 33,.own [.v (ab T (e4 N ad).length c),.v (ab (some H) N N)] 159,.gone,.b4 C,.gone,.b4 s,.gone,.b4 t,.b4 F,.b4 k]) (λ(i,dp,gO,fv) V=>wY N t C s k gI Y O h1 V dp gO fv/\rh N dst (nK ad (e4 N ad)) (λu=>u=v) dp gO fv/\dp.getD v false=true/\dp.count false+fv.length<=S/\i<=(e4 N ad).length/\∀o<i,∀x a,(e4 N ad)[o]?=some x->ad[x]?=some a->(a.dst.toNat=v->dp.getD a.src.toNat false=true)/\(a.src.toNat=v->dp.getD a.dst.toNat false=true)) (λ(i,_)=>(e4 N ad).length-i) (0,dp,gO,fv) (λ_=>rfl) ⟨hl,hd,K,I,cW _,λo W=>I⟩ rfl rfl ?_;clear hl hd K b p Q;refineλ⟨i,dp,gO,W5⟩ aQ nT⟨p,b,K,aHn,ai,oz⟩=>aY (λD=>?_) (λD=>?_);have dQ:i<(e4 N ad).length:=I;have E:=WS N ad ad.length _ (cG dQ);have EE:(e4 N ad)[i]?=some (e4 N ad)[i]:=bZ dQ;obtain⟨g,am⟩:=pT.cg I;obtain⟨eX,uL⟩:=av.cg I;have kN:=(pT.mono p.le).one am (iP dQ) rfl;generalize(e4 N ad)[i]=x at E EE kN;have pf:=(av.mono (J.le_trans ct p.le)).row uL (iP E);have uT:=rT (eK ad[x] (cG E));have D9:ad[x]?=some ad[x]:=bZ E;generalize ad[x]=a at pf uT D9;obtain⟨qn,s1,d0,d1,_⟩:=uT;refine .m g am (.hp (R x) (by simp_all) (.m eX uL (.hp a.cells rfl (by simp_all) (aY (λM=>?_) (λM=>?_)))));have AT:=ae1 N t C s k gI Y O a.src.toNat v x false h1 nT dp gO W5 p I I;rw[pr qn]at AT;obtain⟨cu,b2,X,e8⟩:=b.ae0 (u:=a.src.toNat) I K;refine .ah (.mk _ AT (λ_ sq Vr=>.bg (⟨(i+1,_,_,_),rfl,rfl,⟨Vr,cu,X _ K,I,dQ,λo W y eO d f=>?_⟩,aJ⟩)));by_cases mP:o=i;subst mP;rw[EE]at d;injection d with d;subst d;rw[D9]at f;injection f with f;subst f;exact⟨λ_=>b2,λ_=>by simp_all⟩;obtain⟨jj,z2⟩:=oz o I y eO d f;exact⟨λL=>X _ (jj L),λL=>X _ (z2 L)⟩;refine aY (λl1=>?_) (λl1=>?_);have AT:=ae1 N t C s k gI Y O a.dst.toNat v x true h1 nT dp gO W5 p I I;rw[pr d0]at AT;obtain⟨cu,b2,X,e8⟩:=b.ae0 (u:=a.dst.toNat) I K;refine .ah (.mk _ AT (λ_ sq Vr=>.bg (⟨(i+1,_,_,_),rfl,rfl,⟨Vr,cu,X _ K,I,dQ,λo W y eO d f=>?_⟩,aJ⟩)));by_cases mP:o=i;subst mP;rw[EE]at d;injection d with d;subst d;rw[D9]at f;injection f with f;subst f;exact⟨λL=>I,λ_=>b2⟩;obtain⟨jj,z2⟩:=oz o I y eO d f;exact⟨λL=>X _ (jj L),λL=>X _ (z2 L)⟩;refine .bg (⟨(i+1,_,_,_),rfl,rfl,⟨p,b,K,I,dQ,λo W y eO d f=>?_⟩,aJ⟩);by_cases mP:o=i;subst mP;rw[EE]at d;injection d with d;subst d;rw[D9]at f;injection f with f;subst f;omega;exact oz o I y eO d f;refine⟨(dp,gO,W5),rfl,rfl,⟨p,b.close λw hw=>?_,I⟩,aJ⟩;obtain⟨x,E,a,aV,aC⟩:=hw;obtain⟨o,W,aHF⟩:=oe E;obtain⟨jj,z2⟩:=oz o I x a aJ aV;rcases aC with⟨aR,aQ⟩|⟨aR,aQ⟩
  grind
  grind
 match fv,p,b,JC,Q,j with
 |_::_,_,_,_,_,j=>exact absurd bd j
 |[],p,b,JC,Q,j=>
  have yK:=b.all nK.symm asa;obtain⟨r,A3,hn⟩:=b.gf;obtain⟨ig,GU,o4⟩:=p.pg;refine .kY (.abs 173 2 none 0 0 [] ⟨rfl,bW ⟨rfl,rfl,rfl⟩⟩ (.ah ?_));refine .mk (Nat×Option aI×Nat×List (Int×Bool)) [2,10,11,19,20] (λ(x,P,br,l)=>[.v (R dst),.p 3 0,.p 5 0,.v (ab P l.length br),.v (R x)]) (λ(_,P,br,l)=>[.own [.v (R N),.v (ab A n ck)] 33,.own [.v (ab T (e4 N ad).length c),.v (ab (some H) N N)] 159,.gone,.b4 C,.gone,.b4 s,.gone,.b4 t,.b4 F,.b4 k,.row 173 2 P l.length br (l.map m8).flatten]) (λ(x,_,_,l) V=>V=cE/\dp.getD x false=true/\l.length+r x<=N) (λ(x,_,_,_)=>r x) (src,none,0,[]) (λ_=>rfl) ⟨rfl,yK,by have:=A3 src yK;simp;omega⟩ rfl rfl ?_;rintro⟨x,P,br,l⟩ aQ e6 ⟨rfl,E,Ax⟩;have atZ:x<N:=by have:=ayj E;rw[b.y2]at this;exact this
  refine aY (λD=>?_) (λD=>?_);obtain⟨fQ,gi⟩:=hn x E I;have adl:x<gO.length:=by rw[p.cF];exact atZ
  have at1:x<ig.length:=I;have Zh:∀o v,(m8 ig[x])[o]?=some v->e6.cell? (((nI Y 0 none).add (x*2)).add o)=some v:=λo v W=>by
   rw[add_lit,add_lit,dM];exact bV o4 (DS (size:=2) (ig.map m8) (λr aq=>by obtain⟨p,_,rfl⟩:=cU.1 aq;rfl) x o _ v (iP at1) W)
  have BZ:e6.cell? ((nI O 0 none).add (x*1))=some (R (gO.getD x 0:Nat)):=by
   rw[add_lit,dM,eV];exact bV p.u5 (by rw[dH,bZ adl,cx,bZ adl];rfl)
  generalize ig[x]=sp at Zh;generalize gO.getD x 0=y at fQ gi BZ;refine .hp _ (bV p.dE rfl) (.r (.hp (m8 sp) rfl (by rw[bz];exact Zh) (.ah (.c3 10 _ (m8 sp) rfl rfl (by simp[m8,zX,R]) (by simp[eD];omega) I λFX c2 aHh=>.hp _ (bV p.hI rfl) (.r (.hp _ (by rw[bz];exact BZ) (⟨(y,FX,c2,l++[sp]),by simp only[fc,iv,List.length_nil];rfl,?_,⟨rfl,fQ,by simp;omega⟩,gi⟩)))))));simp;rfl;refine .b4 10 173 2 P l.length br _ rfl λnT n1 KX f7=>.ah ⟨J.le_trans ct (J.le_trans p.le n1),P,l.length,br,0,l,rfl,I,KX.dV (λr aq=>by obtain⟨p,_,rfl⟩:=cU.1 aq;rfl) aM⟩
 obtain rfl:=f1 ao;refine aY (λq=>?_) (λq=>absurd ao (by simpa using q));exact .ah ⟨ct,none,0,0,_,[],rfl,aM,bf.nil _ _ _⟩
def lf(p:Nat×Nat):List ax:=[R p.1,R p.2]
structure w3(N l9 jr kM:Nat)(al h:J)(s:List (Nat×Nat))(f:Bool):Prop where
 dr:h l9=some (bb #[ab (some ⟨jr,0,none⟩) N N] 162 (0,0))
 VL:h jr=some (bb (s.map lf).flatten.toArray 167 (0,0))
 bn:h kM=some (bb #[c5 f] 4 (0,0))
 Fk:s.length=N
 le:al.le h
 ajO:al jr=none
 PU:al kM=none
def lo(s:List (Nat×Nat)×Bool)(u v x y:Nat):Bool×(List (Nat×Nat)×Bool):=
 if s.1.getD u (0,0)=(0,0)\/s.1.getD v (0,0)≠(0,0)then(false,s)else((lF (s.1.getD u (0,0)) x y).2,(s.1.set v (lF (s.1.getD u (0,0)) x y).1,s.2&&(lF (s.1.getD u (0,0)) x y).2))
theorem R9(s:List (Nat×Nat)):∀r∈s.map lf,r.length=2:=λr a=>by obtain⟨p,_,rfl⟩:=cU.1 a;rfl
theorem abm(l:List (Nat×Nat)):∀i p,i<l.length->over (l.map lf).flatten (i*2) (lf p)=some ((l.set i p).map lf).flatten:=by
 induction l with
 |nil=>intro i p h;simp at h
 |cons a l c=>
  intro i p h;cases i with
  |zero=>
   rw[FV];show over (R a.1::R a.2::(l.map lf).flatten) 0 [R p.1,R p.2]=_;simp[over,lf]
  |succ i=>
   have b:=c i p (by simpa using h);rw[zS];show over (R a.1::R a.2::(l.map lf).flatten) (i*2+2) (lf p)=_;simp only[over,b];simp[lf]
theorem w3.row{e c d:Nat}{s:List (Nat×Nat)}{f:Bool}(x:w3 N e c d al h s f)(hu:u<N):∀o v,(lf (s.getD u (0,0)))[o]?=some v->h.cell? (((nI c 0 none).add (u*2)).add o)=some v:=λo v a=>by
 have b:u<s.length:=by rw[x.Fk];exact hu
 rw[cx,bZ b]at a;rw[add_lit,add_lit,dM];exact bV x.VL (DS (size:=2) (s.map lf) (R9 s) u o _ v (iP b) a)
theorem ais(N o j d u v x y:Nat) al h s f(p:w3 N o j d al h s f)(hu:u<N)(D:v<N)(L:x<=64)(I:y<=64)(G:0<y)(M:∀q∈s,zA q):Fn aB 108 #[R u,R v,R x,R y,gv (some ⟨o,0,none⟩),gv (some ⟨d,0,none⟩)] h λr K=>r=c5 (lo (s,f) u v x y).1/\w3 N o j d al K (lo (s,f) u v x y).2.1 (lo (s,f) u v x y).2.2:=by
 refine b6 awc rfl ?_;have t:=p.row hu;have C:=p.row D;have E:zA (s.getD u (0,0)):=by
  have F:u<s.length:=by rw[p.Fk];exact hu
  rw[cx,bZ F];exact M _ (cG F)
 have Q:lo (s,f) u v x y=if s.getD u (0,0)=(0,0)\/s.getD v (0,0)≠(0,0)then(false,(s,f))else((lF (s.getD u (0,0)) x y).2,(s.set v (lF (s.getD u (0,0)) x y).1,f&&(lF (s.getD u (0,0)) x y).2)):=rfl;rw[Q];generalize s.getD u (0,0)=a at t E⊢;generalize s.getD v (0,0)=b at C⊢;obtain⟨e,a2⟩:=a;obtain⟨A,B⟩:=b;have t49:=λh=>aiT (e,a2) x y h E L I G;generalize lF (e,a2) x y=g at t49⊢;obtain⟨⟨g1,g2⟩,n⟩:=g;refine .hp _ (bV p.dr rfl) (.r (.hp (lf (e,a2)) rfl (by rw[bz];exact t) (uw (λq=>?_) (λq=>?_))));have:(e,a2)=(0,0):=by simp[flip]at q;simp;omega
 rw[aP (bW this)];exact .ah ⟨rfl,p⟩;have P:¬(e,a2)=(0,0):=by simp[flip]at q;simp;omega
 refine .hp _ (bV p.dr rfl) (.r (.hp (lf (A,B)) rfl (by rw[bz];exact C) (uw (λw=>?_) (λw=>?_))));have:(A,B)≠(0,0):=by simp[flip]at w;simp;omega
 rw[aP (bl this)];exact .ah ⟨rfl,p⟩;have O:¬(A,B)≠(0,0):=by simp[flip]at w;simp;omega
 rw[aD (by rintro(h1|h1);exact P h1;exact O h1)];refine .hp _ (bV p.dr rfl) (.r (.hp (lf (e,a2)) rfl (by rw[bz];exact t) (.ah (.mk _ (t49 h) ?_))));rintro _ h1 ⟨l,rfl⟩;have m:=l _ _ p.dr;have i:=l _ _ p.VL;have c:=l _ _ p.bn;refine .hp _ (bV m rfl) ?_;refine .hp _ (bV c rfl) ?_;have fin:∀z,z=(f&&n)->w3 N o j d al ((h1.put j (bb ((s.set v (g1,g2)).map lf).flatten.toArray 167 (0,0))).put d (bb #[c5 z] 4 (0,0))) (s.set v (g1,g2)) (f&&n):=λz H=>by
  subst H;exact⟨by rw[J.cB _ _ (lC m c aM),J.cB _ _ (lC m i aM)];exact m,by rw[J.cB _ _ (lC i c aM),J.b1],J.b1 _ _ _,by simp[p.Fk],ll p.PU (ll p.ajO (J.le_trans p.le l)),p.ajO,p.PU⟩
 have k:=abm s v (g1,g2) (by rw[p.Fk];exact D);cases f;exact .r (.hp j (v*2) 167 _ _ (by rw[add_lit,dM,bz]) i k (.hp d 0 4 [c5 false] [c5 false] rfl (by rw[J.cB _ _ (d' (lC i c aM))];exact c) rfl (.ah ⟨rfl,fin false bd⟩)));exact .r (.hp j (v*2) 167 _ _ (by rw[add_lit,dM,bz]) i k (.hp d 0 4 [c5 true] [c5 n] rfl (by rw[J.cB _ _ (d' (lC i c aM))];exact c) rfl (.ah ⟨rfl,fin n bd⟩)))
abbrev p3:=List (Nat×Nat)×Bool
def yo(s:p3)(b:Bool)(a:bT):p3×Bool:=
 if(lo s a.src.toNat a.dst.toNat a.fH.toNat a.take.toNat).1=true then((lo s a.src.toNat a.dst.toNat a.fH.toNat a.take.toNat).2,true)else
 ((lo (lo s a.src.toNat a.dst.toNat a.fH.toNat a.take.toNat).2 a.dst.toNat a.src.toNat a.take.toNat a.fH.toNat).2,(lo (lo s a.src.toNat a.dst.toNat a.fH.toNat a.take.toNat).2 a.dst.toNat a.src.toNat a.take.toNat a.fH.toNat).1||b)
def mz(ad:List bT)(b:List Nat)(s:p3):Nat->p3×Bool
 |0=>(s,false)
 |k+1=>match b[k]?with
  |some i=>(match ad[i]?with
   |some a=>yo (mz ad b s k).1 (mz ad b s k).2 a
   |none=>mz ad b s k)
  |none=>mz ad b s k
def q8(ad:List bT)(a:List Nat)(s:p3):p3×Bool:=mz ad a s a.length
def zn(ad:List bT)(a:List Nat):Nat->p3->p3
 |0,s=>s
 |f+1,s=>if(q8 ad a s).2=true/\(q8 ad a s).1.2=true then zn ad a f (q8 ad a s).1 else(q8 ad a s).1
def l2(N:Nat)(home:List Nat)(k:Nat):List (Nat×Nat):=(fL N).map λv=>if v<k/\home.getD v 0=v then(1,1)else(0,0)
def jJ(N:Nat)(ad:List bT):p3:=zn ad (e4 N ad) (N+1) (l2 N (hY N ad) N,true)
structure zU(N:Nat)(s:p3):Prop where
 len:s.1.length=N
 DC:∀q∈s.1,zA q
 fit:s.2=true->∀q∈s.1,q.1<=4096/\q.2<=4096/\(q=(0,0)\/0<q.2)
def oO(s:p3):Nat:=s.1.count (0,0)
theorem afx{l:List α}{i:Nat}{x y:α}(h:y∈l.set i x):y∈l\/y=x:=by
 rcases List.mem_or_eq_of_mem_set h with h|h;exact bW h;exact bl h
theorem Gz{l:List α}{i:Nat}{d:α}(h:i<l.length):l.getD i d∈l:=by
 rw[cx,bZ h];exact cG h
theorem aoy(l:List (Nat×Nat)):∀u g,u<l.length->l.getD u (0,0)=(0,0)->g≠(0,0)->(l.set u g).count (0,0)+1=l.count (0,0):=by
 induction l with
 |nil=>intro u g h;simp at h
 |cons a l d=>
  intro u g h b c;cases u with
  |zero=>
   have:a=(0,0):=b;subst this;rw[List.set_cons_zero,List.count_cons_of_ne c,List.count_cons_self]
  |succ u=>
   have:=d u g (by simpa using h) (by simpa using b) c;rw[LZ,Bt,Bt];omega
theorem Wv{s:p3}(U:zU N s)(hu:u<N)(l:v<N)(i:y<=64):zU N (lo s u v x y).2/\((lo s u v x y).2.2=true->s.2=true/\((lo s u v x y).1=false->(lo s u v x y).2=s/\(s.1.getD u (0,0)≠(0,0)->s.1.getD v (0,0)≠(0,0)))/\((lo s u v x y).1=true->oO (lo s u v x y).2<oO s))/\(∀w,s.1.getD w (0,0)≠(0,0)->(lo s u v x y).2.1.getD w (0,0)≠(0,0)):=by
 unfold lo;split;rename_i ay;refine⟨U,λh=>⟨h,λ_=>⟨rfl,λh1 ae=>?_⟩,(λh=>by cases h)⟩,λw h=>h⟩;rcases ay with ay|ay;exact h1 ay;exact ay ae;rename_i ay;have k:v<s.1.length:=by rw[U.len];exact l
 have j:u<s.1.length:=by rw[U.len];exact hu
 have g:s.1.getD v (0,0)=(0,0):=by
  by_cases e:s.1.getD v (0,0)=(0,0);exact e;exact absurd (bl e) ay
 have c:=Gz (d:=(0,0)) j;refine⟨⟨by simp[U.len],λq b=>?_,λa q b=>?_⟩,λa=>?_,λw hw=>?_⟩;rcases afx b with b|rfl;exact U.DC q b;exact aED _ _ _;simp only[h0]at a;rcases afx b with b|rfl;exact U.fit a.1 q b;have:=aEE a.2;obtain⟨f,a2,_⟩:=U.fit a.1 _ c;exact⟨this.1,this.2,bl (aiU a.2 f a2 i)⟩;simp only[h0]at a;refine⟨a.1,(λh=>by rw[a.2]at h;cases h),λ_=>?_⟩;obtain⟨f,a2,_⟩:=U.fit a.1 _ c;have hp:=aiU a.2 f a2 i;have:=aoy s.1 v (lF (s.1.getD u (0,0)) x y).1 k g (λe=>by rw[e]at hp;simp at hp);unfold oO;simp only;omega;simp only;rw[cx,s8];split;rename_i e;subst e;exact absurd g hw;rw[<-cx];exact hw
structure QG(N:Nat)(s t7:p3)(rS:Bool):Prop where
 ok:zU N t7
 mono:∀w,s.1.getD w (0,0)≠(0,0)->t7.1.getD w (0,0)≠(0,0)
 f:t7.2=true->s.2=true/\(rS=false->t7=s)/\(rS=true->oO t7<oO s)/\oO t7<=oO s
theorem anu{l s:p3}{d:Bool}(U:QG N l s d){a:bT}(D:oH N a=0):QG N l (yo s d a).1 (yo s d a).2/\((yo s d a).1.2=true->(yo s d a).2=false->(l.1.getD a.src.toNat (0,0)≠(0,0)↔l.1.getD a.dst.toNat (0,0)≠(0,0)))/\((yo s d a).1.2=true->s.2=true)/\((yo s d a).2=false->d=false):=by
 obtain⟨z0,F,z2,z3,z4,z5,B,C,_⟩:=rT D;obtain⟨n,g,p⟩:=Wv U.ok (u:=a.src.toNat) (v:=a.dst.toNat) (x:=a.fH.toNat) (y:=a.take.toNat) I I I;unfold yo;generalize lo s a.src.toNat a.dst.toNat a.fH.toNat a.take.toNat=t at n g p;split;rename_i h1;refine⟨⟨n,λw hw=>p w (U.mono w hw),λb=>?_⟩,(λ_ h=>by cases h),λb=>(g b).1,(λh=>by cases h)⟩;obtain⟨i,c,k⟩:=g b;obtain⟨q,_,_,j⟩:=U.f i;have:=k h1;exact⟨q,(λh=>by cases h),(λ_=>by simp only;omega),by simp only;omega⟩;rename_i h1;have h1:t.1=false:=by simpa using h1
 obtain⟨t1,t2,t3⟩:=Wv n (u:=a.dst.toNat) (v:=a.src.toNat) (x:=a.take.toNat) (y:=a.fH.toNat) I I I;generalize lo t.2 a.dst.toNat a.src.toNat a.take.toNat a.fH.toNat=r at t1 t2 t3;refine⟨⟨t1,λw hw=>t3 w (p w (U.mono w hw)),λb=>?_⟩,λb hm=>?_,λb=>(g (t2 b).1).1,λhm=>by simp only[Xk]at hm;exact hm.2⟩;obtain⟨i,c,k⟩:=t2 b;obtain⟨v1,v2,v3⟩:=g i;obtain⟨q,o,E,j⟩:=U.f v1;obtain⟨m,_⟩:=v2 h1;rw[m]at c k;refine⟨q,λh=>?_,λh=>?_,?_⟩;simp only[Xk]at h;exact(c h.1).1.trans (o h.2);cases e:r.1 with
 |true=>have:=k e;simp only;omega
 |false=>
  rw[e]at h;simp only;rw[(c e).1];exact E (by simpa using h)
 cases e:r.1 with
 |true=>have:=k e;simp only;omega
 |false=>simp only;rw[(c e).1];exact j
 simp only[Xk]at hm;obtain⟨i,c,_⟩:=t2 b;obtain⟨v1,v2,_⟩:=g i;obtain⟨m,z⟩:=v2 h1;rw[m]at c;obtain⟨_,A⟩:=c hm.1;obtain⟨_,o,_⟩:=U.f v1;rw[o hm.2]at z A;exact⟨z,A⟩
theorem VT{N:Nat}{ad:List bT} f{s:p3}(U:zU N s)(r:∀a∈ad,oH N a=0):∀k,QG N s (mz ad f s k).1 (mz ad f s k).2/\((mz ad f s k).1.2=true->(mz ad f s k).2=false->∀o<k,∀i a,f[o]?=some i->ad[i]?=some a->(s.1.getD a.src.toNat (0,0)≠(0,0)↔s.1.getD a.dst.toNat (0,0)≠(0,0)))
 |0=>⟨⟨U,λ_ h=>h,λh=>⟨h,λ_=>rfl,(λh=>by cases h),dz _⟩⟩,λ_ _ o m=>I⟩
 |k+1=>by
  obtain⟨n,p⟩:=VT f U r k;unfold mz;split;rename_i i t;split;rename_i a q;obtain⟨h1,ae,v,u⟩:=anu n (r a (List.mem_of_getElem? q));refine⟨h1,λd hm o m j g b c=>?_⟩;by_cases e:o=k;subst e;rw[t]at b;injection b with b;subst b;rw[q]at c;injection c with c;subst c;exact ae d hm;exact p (v d) (u hm) o I j g b c;refine⟨n,λd hm o m j g b c=>?_⟩;by_cases e:o=k;subst e;rename_i l;rw[t]at b;injection b with b;subst b;rw[l]at c;cases c;exact p d hm o I j g b c;refine⟨n,λd hm o m j g b c=>?_⟩;by_cases e:o=k;subst e;rename_i l;rw[l]at b;cases b;exact p d hm o I j g b c
theorem aim{N:Nat}{ad:List bT}(j:∀a∈ad,oH N a=0) b:∀f s,zU N s->s.2=true->oO s<f->zU N (zn ad b f s)/\(∀w,s.1.getD w (0,0)≠(0,0)->(zn ad b f s).1.getD w (0,0)≠(0,0))/\((zn ad b f s).2=true->∀u v,nK ad b u v->((zn ad b f s).1.getD u (0,0)≠(0,0)↔(zn ad b f s).1.getD v (0,0)≠(0,0)))
 |0,s,_,_,h=>by omega
 |f+1,s,U,z,y=>by
  obtain⟨r,x⟩:=VT b U j b.length;unfold zn;split;rename_i ay;have:=(r.f ay.2).2.2.1 ay.1;unfold q8 at ay;obtain⟨q,a2,a3⟩:=aim j b f (q8 ad b s).1 r.ok ay.2 (by unfold q8;omega);exact⟨q,λw hw=>a2 w (r.mono w hw),a3⟩;rename_i ay;refine⟨r.ok,r.mono,λc u v ak=>?_⟩;unfold q8 at ay c⊢;have hm:(mz ad b s b.length).2=false:=by
   cases e:(mz ad b s b.length).2 with
   |false=>rfl
   |true=>exact absurd ⟨e,c⟩ ay
  have n:=(r.f c).2.1 hm;rw[n];obtain⟨i,p,a,l,m⟩:=ak;obtain⟨o,k,t⟩:=oe p;have:=x c hm o k i a (by rw[bZ k,t]) l;rcases m with⟨g,d⟩|⟨g,d⟩;rw[<-g,<-d];exact this;rw[<-g,<-d];exact this.symm
theorem CW N home k:(l2 N home k).length=N:=by simp[l2]
theorem aDj{home:List Nat}{k:Nat}(a:v<N):(l2 N home k).getD v (0,0)=if v<k/\home.getD v 0=v then(1,1)else(0,0):=by
 rw[l2,cx,dH,Dm a];rfl
theorem ah3 N home k:zU N (l2 N home k,true):=by
 have key:∀q∈l2 N home k,q=(1,1)\/q=(0,0):=λq a=>by
  obtain⟨v,_,rfl⟩:=cU.1 a;split;exact bW rfl;exact bl rfl
 refine⟨CW _ _ _,λq a=>?_,λ_ q a=>?_⟩;rcases key q a with rfl|rfl<;>exact⟨aM,aM⟩;rcases key q a with rfl|rfl<;>decide
theorem ath(b:v<N):(hY N ad).getD v 0<=v/\(hY N ad).getD ((hY N ad).getD v 0) 0=(hY N ad).getD v 0/\kA (nK ad (e4 N ad)) v ((hY N ad).getD v 0):=by
 have ok:=Jg N ad ad.length;have a:∀w,w<N->(hY N ad).getD w 0=ku (gH N ad ad.length).1 w:=λw hw=>by
  rw[hY,cx,dH,Dm hw];rfl
 have d:=RX ok v;rw[a v b,a _ I];refine⟨d,?_,RW ok (R8 N ad ad.length) v⟩;have root:∀w,(gH N ad ad.length).1.getD (ku (gH N ad ad.length).1 w) (ku (gH N ad ad.length).1 w)=ku (gH N ad ad.length).1 w:=by
  intro w;induction w using Qx with
  |_ w c=>
   by_cases e:(gH N ad ad.length).1.getD w w=w;rw[I' e];exact e;have:=ok.le w;rw[<-MS ok e];exact c _ I
 exact I' (root v)
theorem aot{p:Nat->Prop}(h:∀u v,L u v->(p u↔p v))(c:kA L u v):p u↔p v:=by
 induction c with
 |refl=>exact Iff.rfl
 |step ak _ a=>exact(h _ _ ak).trans a
theorem aDD(g:∀a∈ad,oH N a=0):zU N (jJ N ad)/\((jJ N ad).2=true->∀v,v<N->0<((jJ N ad).1.getD v (0,0)).2/\((jJ N ad).1.getD v (0,0)).1<=4096/\((jJ N ad).1.getD v (0,0)).2<=4096):=by
 have f:oO (l2 N (hY N ad) N,true)<N+1:=by
  have:=akL (a:=((0:Nat),(0:Nat))) (l:=l2 N (hY N ad) N);rw[CW]at this;unfold oO;simp only;omega
 obtain⟨U,m,l⟩:=aim g (e4 N ad) (N+1) (l2 N (hY N ad) N,true) (ah3 _ _ _) rfl f;refine⟨U,λb v c=>?_⟩;obtain⟨h1,ae,i⟩:=ath (ad:=ad) c;have h:(jJ N ad).1.getD ((hY N ad).getD v 0) (0,0)≠(0,0):=m _ (by
  show(l2 N (hY N ad) N).getD _ _≠_;rw[aDj I,aP ⟨I,ae⟩];decide)
 have j:=(aot (p:=λu=>(jJ N ad).1.getD u (0,0)≠(0,0)) (l b) i).2 h;have e:v<(jJ N ad).1.length:=by rw[show(jJ N ad).1.length=N from U.len];exact c
 obtain⟨k,a2,a3⟩:=U.fit b _ (Gz (d:=(0,0)) e);refine⟨?_,k,a2⟩;rcases a3 with a3|a3;exact absurd a3 j;exact a3
theorem ay' m:(madeCells (#[R 0,R 0]:Array ax) (m*2)).toList=((bh m (0,0)).map lf).flatten:=by
 rw[UG (s:=2) rfl m,s9];rfl
theorem aDl N home:l2 N home 0=bh N (0,0):=by
 unfold l2;apply List.ext_getElem;simp;intro i h1 ae;simp
theorem aDk{home:List Nat}{k:Nat}(hk:k<N):l2 N home (k+1)=if home.getD k 0=k then(l2 N home k).set k (1,1)else l2 N home k:=by
 have e:∀k v,v<N->(l2 N home k)[v]?=some (if v<k/\home.getD v 0=v then(1,1)else(0,0)):=λk v a=>by
  rw[l2,dH,Dm a];rfl
 have ne:∀k v,¬v<N->(l2 N home k)[v]?=none:=λk v a=>l6 (by rw[CW];omega);apply List.ext_getElem?;intro v;by_cases a:v<N;by_cases c:v=k;subst c;rw[e _ _ a];by_cases b:home.getD v 0=v;rw[aP b,aP ⟨I,b⟩,s8,aP rfl,aP (by rw[CW];exact hk)];rw[aD b,aD (λh=>b h.2),e _ _ a,aD (λh=>b h.2)];have d:(v<k+1/\home.getD v 0=v)↔(v<k/\home.getD v 0=v):=⟨λh=>⟨I,h.2⟩,λh=>⟨I,h.2⟩⟩;rw[e _ _ a];simp only[d];split;rename_i h1;split;rw[s8,aD (d' c),e _ _ a,aP h1];rw[e _ _ a,aP h1];rename_i h1;split;rw[s8,aD (d' c),e _ _ a,aD h1];rw[e _ _ a,aD h1];rw[ne _ _ a];split;rw[l6 (by rw[h2,CW];omega)];rw[ne _ _ a]
def Yh(h:J)(N:Nat)(s:p3)(v:ax)(a:J):Prop:=h.le a/\∃g,v=ey #[ab (some ⟨g,0,none⟩) N N,c5 s.2]/\a g=some (bb (s.1.map lf).flatten.toArray 167 (0,0))
theorem aDC(N n O c:Nat) A T H ad h(av:bf h 5 A n (ad.map bT.cells))(ao:e' N ad=0)(pT:bf h 1 T (e4 N ad).length ((e4 N ad).map λz:Nat=>[R z]))(zp:bf h 1 (some H) N ((hY N ad).map λz:Nat=>[R z])):Fn aB 47 #[mW N A n O,.agg #[ab T (e4 N ad).length c,ab (some H) N N]] h λv o=>Yh h N (jJ N ad) v o:=by
 have ak:ad.length=n:=by simpa using av.len
 obtain⟨Jv,vX,xu,eK⟩:=lT ao;have EN:(hY N ad).length=N:=by simp[hY]
 have rK:(e4 N ad).length<=ad.length:=MX N ad ad.length;refine b6 axG rfl (.mk N rfl rfl I I λeX=>?_);refine .mk Nat [2,3,6,19,20,21] (λk=>[.p 0 0,.p 1 0,.p 3 0,.v (ab (some H) N N),.v (R N),.v (R k)]) (λk=>[.own [.v (R N),.v (ab A n O)] 33,.own [.v (ab T (e4 N ad).length c),.v (ab (some H) N N)] 159,.row 167 2 (some eX) N N ((l2 N (hY N ad) k).map lf).flatten,.own [.v (ab (some eX) N N)] 162]) (λk o=>o=h/\k<=N) (λk=>N-k) 0 (λ_=>rfl) ⟨rfl,cW _⟩ rfl (by rw[aDl,<-ay'];rfl) ?_;rintro k e h1 ⟨rfl,hk⟩;refine aY (λaL=>?_) (λaL=>?_);have t:k<N:=I;have yt:h1.cell? (H.add (k*1))=some (R ((hY N ad).getD k 0:Nat)):=by
  have jE:k<(hY N ad).length:=I;rw[cx,bZ jE];exact zp.one rfl (i:=k) (iP jE) rfl
 have P:=aDk (home:=hY N ad) t;refine .m H rfl ?_;refine .hp _ (by rw[bz];exact yt) ?_;refine aY (λaH=>?_) (λaH=>?_);rw[aP I]at P;exact .m eX rfl (.row 2 167 2 eX N N _ ((l2 N (hY N ad) (k+1)).map lf).flatten (k*2) rfl (by rw[bz]) (by rw[P];exact abm _ k (1,1) (by rw[CW];exact t)) (.bg (⟨k+1,rfl,rfl,⟨rfl,t⟩,by show N- (k+1)<N-k;omega⟩)));rw[aD I]at P;exact .bg (⟨k+1,rfl,by simp only[P];rfl,⟨rfl,t⟩,by show N- (k+1)<N-k;omega⟩);have Aw:N=k:=I;subst Aw;refine .mk λd Y=>.mk λb F=>?_;have V:=J.dI (U:=bb #[ab (some eX) N N] 162 (0,0)) Y;have y3:=J.dI (U:=bb #[c5 true] 4 (0,0)) F;have PU:h1 b=none:=J.none_le V F;have S:=J.le_trans V y3;have eM:=y3 _ _ (J.b1 h1 d (bb #[ab (some eX) N N] 162 (0,0)));have dW:=J.b1 (h1.put d (bb #[ab (some eX) N N] 162 (0,0))) b (bb #[c5 true] 4 (0,0));refine .kY (.b4 2 167 2 (some eX) N N _ rfl λae M pg tk=>.ah ?_);have yh:=M _ _ eM;have vw:=M _ _ dW;have W':=J.none_le S (tk _ rfl);have eU:=J.le_trans S M;obtain⟨_,pg|⟨B,bm,lu,mg,_,_,fN,ox⟩⟩:=pg;cases pg.1;injection lu with lu;subst lu;have U9:bm=((l2 N (hY N ad) N).map lf).flatten.toArray:=by
  rw[lN (by simp[fN])]at ox;rw[<-FD (xs:=bm),ox]
 have FY:w3 N d B b h1 ae (l2 N (hY N ad) N) true:=⟨yh,by rw[mg,U9],vw,CW _ _ _,eU,W',PU⟩;have W:=ah3 N (hY N ad) N;have a1:oO (l2 N (hY N ad) N,true)<N+1:=by
  have:=akL (a:=((0:Nat),(0:Nat))) (l:=l2 N (hY N ad) N);rw[CW]at this;unfold oO;simp only;omega
 clear yh vw eM dW V y3 S tk M eU;refine .mk (Nat×p3×Bool) [2,3,6,9,10,11] (λ(_,_,m)=>[.p 0 0,.p 1 0,.p 3 0,.p 4 0,.v (.func (.func 108) #[] #[gv (some ⟨d,0,none⟩),gv (some ⟨b,0,none⟩)]),.v (c5 m)]) (λ_=>[.own [.v (R N),.v (ab A n O)] 33,.own [.v (ab T (e4 N ad).length c),.v (ab (some H) N N)] 159,.gone,.b4 d,.b4 b]) (λ(f,s,m) o=>w3 N d B b h1 o s.1 s.2/\zU N s/\((m=true/\s.2=true/\oO s<f/\zn ad (e4 N ad) f s=jJ N ad)\/((m=false\/s.2=false)/\s=jJ N ad))) (λ(f,_,m)=>if m=true then f+1 else 0) (N+1,(l2 N (hY N ad) N,true),true) (λ_=>rfl) ⟨FY,W,bW ⟨rfl,rfl,a1,rfl⟩⟩ rfl rfl ?_;rintro⟨f,s,m⟩ cV au ⟨p,U,hm⟩;rcases hm with⟨rfl,ml,aH8,C⟩|⟨Z,C⟩;have bn:=p.bn;rw[ml]at bn;refine .hp _ (bV bn rfl) ?_;obtain⟨f,rfl⟩:∃g,f=g+1:=⟨f-1,I⟩;have c':=VT (e4 N ad) U eK;refine .mk Nat [2,3,6,9,10,11,40,41,42] (λk=>[.p 0 0,.p 1 0,.p 3 0,.p 4 0,.v (.func (.func 108) #[] #[gv (some ⟨d,0,none⟩),gv (some ⟨b,0,none⟩)]),.v (c5 (mz ad (e4 N ad) s k).2),.v (ab T (e4 N ad).length c),.v (R (e4 N ad).length),.v (R k)]) (λ_=>[.own [.v (R N),.v (ab A n O)] 33,.own [.v (ab T (e4 N ad).length c),.v (ab (some H) N N)] 159,.gone,.b4 d,.b4 b]) (λk o=>w3 N d B b h1 o (mz ad (e4 N ad) s k).1.1 (mz ad (e4 N ad) s k).1.2/\k<=(e4 N ad).length) (λk=>(e4 N ad).length-k) 0 (λ_=>rfl) ⟨p,cW _⟩ rfl rfl ?_;refineλk fr aU⟨D,aHG⟩=>aY (λch=>?_) (λch=>?_);have t:k<(e4 N ad).length:=I;have L:=WS N ad ad.length _ (cG t);have EE:(e4 N ad)[k]?=some (e4 N ad)[k]:=bZ t;obtain⟨g,am⟩:=pT.cg I;obtain⟨eX,uL⟩:=av.cg I;have kN:=(pT.mono D.le).one am (iP t) rfl;generalize(e4 N ad)[k]=x at L EE kN;have pf:=(av.mono D.le).row uL (iP L);have uT:=rT (eK ad[x] (cG L));have D9:ad[x]?=some ad[x]:=bZ L;have j:mz ad (e4 N ad) s (k+1)=yo (mz ad (e4 N ad) s k).1 (mz ad (e4 N ad) s k).2 ad[x]:=by rw[mz,EE];simp only[D9]
 have hO:=(c' k).1.ok;generalize ad[x]=a at pf uT D9 j;obtain⟨qn,s1,d0,d1,g0,g1,t0,t1,_⟩:=uT;obtain⟨E,_,_⟩:=Wv hO (u:=a.src.toNat) (v:=a.dst.toNat) (x:=a.fH.toNat) (y:=a.take.toNat) I I I;have st1:=ais N d B b a.src.toNat a.dst.toNat a.fH.toNat a.take.toNat h1 aU _ _ D I I I I I hO.DC;have st2:=λG(K:p3)(Q:w3 N d B b h1 G K.1 K.2)(lQ:∀q∈K.1,zA q)=>ais N d B b a.dst.toNat a.src.toNat a.take.toNat a.fH.toNat h1 G K.1 K.2 Q I I I I I lQ;rw[pr qn,pr d0,pr (show 0<=a.fH by omega),pr (show 0<=a.take by omega)]at st1;simp only[pr qn,pr d0,pr (show 0<=a.fH by omega),pr (show 0<=a.take by omega)]at st2;unfold yo at j;generalize NA:(mz ad (e4 N ad) s k).2=m0 at j;have st1:Fn aB 108 #[R a.src,R a.dst,R a.fH,R a.take,gv (some ⟨d,0,none⟩),gv (some ⟨b,0,none⟩)] aU λr o=>r=c5 (lo (mz ad (e4 N ad) s k).1 a.src.toNat a.dst.toNat a.fH.toNat a.take.toNat).1/\w3 N d B b h1 o (lo (mz ad (e4 N ad) s k).1 a.src.toNat a.dst.toNat a.fH.toNat a.take.toNat).2.1 (lo (mz ad (e4 N ad) s k).1 a.src.toNat a.dst.toNat a.fH.toNat a.take.toNat).2.2:=st1;generalize lo (mz ad (e4 N ad) s k).1 a.src.toNat a.dst.toNat a.fH.toNat a.take.toNat=w at E st1 j;obtain⟨gC,w⟩:=w;refine .m g am (.hp (R x) (by rw[bz];exact kN) (.m eX uL (.hp a.cells rfl (by rw[bz];exact pf) (.ah (.mk _ st1 ?_)))));rintro _ G ⟨rfl,Q⟩;cases gC;have st2:Fn aB 108 #[R a.dst,R a.src,R a.take,R a.fH,gv (some ⟨d,0,none⟩),gv (some ⟨b,0,none⟩)] G λr o=>r=c5 (lo w a.dst.toNat a.src.toNat a.take.toNat a.fH.toNat).1/\w3 N d B b h1 o (lo w a.dst.toNat a.src.toNat a.take.toNat a.fH.toNat).2.1 (lo w a.dst.toNat a.src.toNat a.take.toNat a.fH.toNat).2.2:=st2 G w Q E.DC;simp only[Bool.false_eq_true,mm]at j;generalize lo w a.dst.toNat a.src.toNat a.take.toNat a.fH.toNat=z at st2 j;obtain⟨Xa,z⟩:=z;refine .ah (.mk _ st2 ?_);rintro _ e6 ⟨rfl,KQ⟩;cases Xa;refine .bg ?_;refine⟨k+1,?_,rfl,⟨by rw[j];exact KQ,t⟩,by show(e4 N ad).length- (k+1)<(e4 N ad).length-k;omega⟩;rw[j,<-NA];rfl;refine .bg ?_;refine⟨k+1,?_,rfl,⟨by rw[j];exact KQ,t⟩,by show(e4 N ad).length- (k+1)<(e4 N ad).length-k;omega⟩;rw[j];rfl;simp only[lY]at j;refine .bg ?_;refine⟨k+1,?_,rfl,⟨by rw[j];exact Q,t⟩,by show(e4 N ad).length- (k+1)<(e4 N ad).length-k;omega⟩;rw[j];rfl;have pF:k=(e4 N ad).length:=I;have hO:=(c' k).1;have X:mz ad (e4 N ad) s k=q8 ad (e4 N ad) s:=by rw[pF];rfl
 rw[X]at hO D;rw[zn]at C;by_cases ay:(q8 ad (e4 N ad) s).2=true/\(q8 ad (e4 N ad) s).1.2=true;rw[aP ay]at C;have:=(hO.f ay.2).2.2.1 ay.1;exact⟨(f,(q8 ad (e4 N ad) s).1,(q8 ad (e4 N ad) s).2),by rw[X];rfl,rfl,⟨D,hO.ok,bW ⟨ay.1,ay.2,I,C⟩⟩,by simp only[ay.1,lY];omega⟩;rw[aD ay]at C;refine⟨(0,(q8 ad (e4 N ad) s).1,(q8 ad (e4 N ad) s).2),by rw[X];rfl,rfl,⟨D,hO.ok,bl ⟨?_,C⟩⟩,?_⟩;cases h1:(q8 ad (e4 N ad) s).2 with
 |false=>exact bW rfl
 |true=>
  cases ae:(q8 ad (e4 N ad) s).1.2 with
  |false=>exact bl rfl
  |true=>exact absurd ⟨h1,ae⟩ ay
 simp only[lY];split<;>omega;have fin:Yh h1 N (jJ N ad) (ey #[ab (some ⟨B,0,none⟩) N N,c5 s.2]) au:=⟨p.le,B,by rw[C],by rw[<-C];exact p.VL⟩;cases m;exact .hp _ (bV p.dr rfl) (.hp _ (bV p.bn rfl) (.ah fin));have ml:s.2=false:=by
  rcases Z with h|h;cases h;exact h
 have bn:=p.bn;rw[ml]at bn;exact .hp _ (bV bn rfl) (.hp _ (bV p.dr rfl) (.hp _ (bV p.bn rfl) (.ah fin)))
def AQ(home:List Nat)(s:List (Nat×Nat))(hm:Nat):Nat->Option Nat
 |0=>some 1
 |v+1=>match AQ home s hm v with
  |none=>none
  |some k=>if home.getD v 0=hm then(if 4096<wj k (s.getD v (0,0)).2 then none else some (wj k (s.getD v (0,0)).2))else some k
def u9(home:List Nat)(s:List (Nat×Nat))(hm k:Nat)(r:List Nat):Nat->Option (List Nat)
 |0=>some r
 |v+1=>match u9 home s hm k r v with
  |none=>none
  |some r=>if home.getD v 0=hm then(if 4096<k/(s.getD v (0,0)).2*(s.getD v (0,0)).1 then none else some (r.set v (k/(s.getD v (0,0)).2*(s.getD v (0,0)).1)))else some r
def CU(N:Nat)(home:List Nat)(s:List (Nat×Nat))(hm:Nat)(r:List Nat):Option (List Nat):=match AQ home s hm N with
 |none=>none
 |some k=>u9 home s hm k r N
theorem aeN{home:List Nat}{s:List (Nat×Nat)}{hm:Nat}:∀d v,AQ home s hm v=none->AQ home s hm (v+d)=none
 |0,v,h=>h
 |d+1,v,h=>by
  have:=aeN d v h;show AQ home s hm (v+d+1)=none;rw[AQ,this]
theorem ahp{home:List Nat}{s:List (Nat×Nat)}{hm k:Nat}{r:List Nat}:∀d v,u9 home s hm k r v=none->u9 home s hm k r (v+d)=none
 |0,v,h=>h
 |d+1,v,h=>by
  have:=ahp d v h;show u9 home s hm k r (v+d+1)=none;rw[u9,this]
structure vx(N e5:Nat)(al h:J)(r:List Nat):Prop where
 p5:h e5=some (bb (r.map λz:Nat=>R (z:Int)).toArray 3 (0,0))
 len:r.length=N
 le:al.le h
 z:al e5=none
theorem vx.up{b:Nat}{a:J}{r:List Nat}(p:vx N b al h r)(le:h.le a):vx N b al a r:=⟨le _ _ p.p5,p.len,J.le_trans p.le le,p.z⟩
theorem aC'(N g hm c cF:Nat)(T:Option aI)(S H:aI)(home:List Nat)(s:List (Nat×Nat))(al h:J)(r:List Nat)(p:vx N g al h r)(dE:N<=32)(rY:vz al)(zp:bf al 1 (some H) N (home.map λz:Nat=>[R (z:Int)]))(P:bf al 2 (some S) N (s.map lf))(Y:∀v,v<N->0<(s.getD v (0,0)).2/\(s.getD v (0,0)).1<=4096/\(s.getD v (0,0)).2<=4096):
 Fn aB 48 #[.agg #[ab T cF c,ab (some H) N N],ab (some S) N N,R hm,ab (some ⟨g,0,none⟩) N N] h λv o=>match CU N home s hm r with
  |some b=>v=c5 true/\vx N g al o b
  |none=>v=c5 false/\∃b,vx N g al o b:=by
 refine b6 axH rfl ?_
 have EN:home.length=N:=by simpa using zp.len
 have N3:s.length=N:=by simpa using P.len
 have yt:∀{h1:J}{v:Nat},al.le h1->v<N->h1.cell? (H.add (v*1))=some (R (home.getD v 0:Nat)):=λ{h1 v} le a=>by
  have y:v<home.length:=I;rw[cx,bZ y];exact(zp.mono le).one rfl (i:=v) (iP y) rfl
 have V:∀{h1:J}{v:Nat},al.le h1->v<N->h1.cell? ((S.add (v*2)).add 0)=some (R ((s.getD v (0,0)).1:Nat))/\h1.cell? ((S.add (v*2)).add 1)=some (R ((s.getD v (0,0)).2:Nat)):=λ{h1 v} le a=>by
  have y:v<s.length:=I;rw[cx,bZ y];have:=(P.mono le).row rfl (i:=v) (iP y);exact⟨this 0 _ rfl,this 1 _ rfl⟩
 refine .mk (Nat×Nat) [1,2,3,4,9,17,18,19] (λ(v,k)=>[.v (ab (some S) N N),.v (R hm),.v (ab (some ⟨g,0,none⟩) N N),.p 0 0,.v (R k),.v (ab (some H) N N),.v (R N),.v (R v)]) (λ_=>[.own [.v (ab T cF c),.v (ab (some H) N N)] 159]) (λ(v,k) o=>vx N g al o r/\v<=N/\k<=4096/\AQ home s hm v=some k) (λ(v,_)=>N-v) (0,1) (λ_=>rfl) ⟨p,cW _,aM,rfl⟩ rfl rfl ?_
 rintro⟨v,k⟩ e h1 ⟨p,atN,hk,X⟩
 refine aY (λq=>?_) (λq=>?_)
 have a:v<N:=I
 have n:AQ home s hm (v+1)=if home.getD v 0=hm then(if 4096<wj k (s.getD v (0,0)).2 then none else some (wj k (s.getD v (0,0)).2))else some k:=by rw[AQ,X]
 obtain⟨C,A,t⟩:=Y v a
 obtain⟨c1,c2⟩:=V p.le a
 refine .m H rfl ?_
 refine .hp _ (by rw[bz];exact yt p.le a) ?_
 refine aY (λE=>?_) (λE=>?_)
 rw[aD I]at n
 exact .bg (⟨(v+1,k),rfl,rfl,⟨p,a,hk,n⟩,by show N- (v+1)<N-v;omega⟩)
 rw[aP I]at n
 generalize s.getD v (0,0)=f at n C A t c1 c2
 obtain⟨f1,f2⟩:=f
 have Q:=ayx hk t
 have u:=λB ae=>ayw k f2 B ae hk t
 simp only at n Q
 generalize wj k f2=l at n Q u
 refine .m S rfl (.hp (R f2) (by rw[bz];exact c2) (.mk λB Z=>.ah (.mk _ (u B _ (rY.mono (J.le_trans p.le (J.dI Z))) (J.b1 _ _ _)) ?_)))
 rintro _ _ ⟨rfl,rfl⟩
 have hl:=p.up (J.dI (U:=bb #[R k,R f2] 3 (0,0)) Z)
 refine aY (λK=>?_) (λK=>?_)
 rw[aP I]at n
 have M:CU N home s hm r=none:=by
  have:=aeN (N- (v+1)) _ n;rw[show v+1+(N- (v+1))=N by omega]at this;rw[CU,this]
 refine .ah ?_
 rw[M]
 exact⟨rfl,r,hl⟩
 rw[aD I]at n
 exact .bg (⟨(v+1,l),rfl,rfl,⟨hl,a,I,n⟩,by show N- (v+1)<N-v;omega⟩)
 have Ty:v=N:=I
 subst Ty
 have py:CU v home s hm r=u9 home s hm k r v:=by rw[CU,X]
 refine .mk (Nat×List Nat) [1,2,3,9,47,48,49] (λ(w,_)=>[.v (ab (some S) v v),.v (R hm),.v (ab (some ⟨g,0,none⟩) v v),.v (R k),.v (ab (some H) v v),.v (R v),.v (R w)]) (λ_=>[]) (λ(w,b) o=>vx v g al o b/\w<=v/\u9 home s hm k r w=some b) (λ(w,_)=>v-w) (0,r) (λ_=>rfl) ⟨p,cW _,rfl⟩ rfl rfl ?_
 rintro⟨w,b⟩ aQ ae ⟨p,aH5,c'⟩
 refine aY (λE=>?_) (λE=>?_)
 have a:w<v:=I
 have j:u9 home s hm k r (w+1)=if home.getD w 0=hm then(if 4096<k/(s.getD w (0,0)).2*(s.getD w (0,0)).1 then none else some (b.set w (k/(s.getD w (0,0)).2*(s.getD w (0,0)).1)))else some b:=by rw[u9,c']
 obtain⟨C,A,t⟩:=Y w a
 obtain⟨c1,c2⟩:=V p.le a
 refine .m H rfl ?_
 refine .hp _ (by rw[bz];exact yt p.le a) ?_
 refine aY (λK=>?_) (λK=>?_)
 rw[aP I]at j
 generalize s.getD w (0,0)=f at j C A t c1 c2
 obtain⟨f1,f2⟩:=f
 simp only at C A t c1 c2 j
 have W:k/f2<=4096:=og (oT _ _) hk
 have rG:k/f2*f1<=4096*4096:=lP W A
 have O:(k:Int).tdiv f2=((k/f2:Nat):Int):=by rw[Int.tdiv_eq_ediv_of_nonneg I];simp
 generalize k/f2=d at W rG O j
 have wa:(d:Int)*f1=((d*f1:Nat):Int):=bd
 generalize d*f1=x at rG wa j
 refine .m S rfl (.hp (R f2) (by rw[bz];exact c2) (.mk I ?_))
 rw[O]
 refine .bg (.m S rfl (.hp (R f1) (by rw[bz];exact c1) ?_))
 conv=>whnf
 rw[wa]
 refine .bg (.r ?_)
 have D:over (b.map λz:Nat=>R (z:Int)) w [R x]=some ((b.set w x).map λz:Nat=>R (z:Int)):=by rw[ih _ _ _ (by simp[p.len];exact a),lM]
 refine .hp g w 3 _ _ (by rw[add_lit,dM,bz,eV]) p.p5 D ?_
 have L:vx v g al (ae.put g (bb ((b.set w x).map λz:Nat=>R (z:Int)).toArray 3 (0,0))) (b.set w x):=⟨J.b1 _ _ _,by simp[p.len],ll p.z p.le,p.z⟩
 have F:(ae.put g (bb ((b.set w x).map λz:Nat=>R (z:Int)).toArray 3 (0,0))).cell? ((nI g 0 none).add (w*1))=some (R x):=by
  rw[add_lit,dM,eV];exact bV L.p5 (by rw[dH,s8,aP rfl,aP (by rw[p.len];exact a)];rfl)
 refine .r (.hp (R x) (by rw[bz];exact F) (aY (λch=>?_) (λch=>?_)))
 rw[aP I]at j
 have M:u9 home s hm k r v=none:=by
  have:=ahp (v- (w+1)) _ j;rw[show w+1+(v- (w+1))=v by omega]at this;exact this
 refine .ah ?_
 rw[py,M]
 exact⟨rfl,_,L⟩
 rw[aD I]at j
 exact .bg (⟨(w+1,_),rfl,rfl,⟨L,a,j⟩,by show v- (w+1)<v-w;omega⟩)
 rw[aD I]at j
 exact .bg (⟨(w+1,b),rfl,rfl,⟨p,a,j⟩,by show v- (w+1)<v-w;omega⟩)
 have G:w=v:=I
 subst G
 refine .ah ?_
 rw[py,c']
 exact⟨rfl,p⟩
def pS(N:Nat)(ad:List bT):Nat->Option (List Nat)
 |0=>if(jJ N ad).2=true then some (bh N 0)else none
 |v+1=>match pS N ad v with
  |none=>none
  |some r=>if(hY N ad).getD v 0=v then CU N (hY N ad) (jJ N ad).1 v r else some r
def DM(s:List (Nat×Nat))(a:bT):Bool:=(lF (s.getD a.src.toNat (0,0)) a.fH.toNat a.take.toNat).2&&decide ((lF (s.getD a.src.toNat (0,0)) a.fH.toNat a.take.toNat).1=s.getD a.dst.toNat (0,0))
def wA(N:Nat)(ad:List bT):Option (List Nat):=if e' N ad=0 then(match pS N ad N with
 |none=>none
 |some r=>if(ad.all (DM (jJ N ad).1))=true then some r else none)else none
def alV(h:J)(N:Nat)(ad:List bT)(v:ax)(a:J):Prop:=h.le a/\match wA N ad with
 |some r=>r.length=N/\∃ar,v=ey #[.agg #[bA .u8 1,ab (some ar) N N,ab none 0 0],R 0]/\bf a 1 (some ar) N (r.map λz:Nat=>[R (z:Int)])
 |none=>∃(k e:Int)(cY:Option aI)(b rc:Nat)(c:Option aI)(d jo:Nat),v=ey #[.agg #[bA .u8 k,ab cY b rc,ab c d jo],R e]/\¬(k=1/\e=0)
theorem aqz{s:List (Nat×Nat)}(b:h g=some (bb (s.map lf).flatten.toArray 167 (0,0)))(ak:s.length=N):bf h 2 (some ⟨g,0,none⟩) N (s.map lf):=by
 refine⟨by simpa using ak,R9 s,λ_=>⟨_,rfl⟩,λe a i r d o v c=>?_⟩;injection a with a;subst a;rw[add_lit,dM];exact bV b (DS (size:=2) (s.map lf) (R9 s) i o r v d c)
theorem af6{s:List Nat}(f:h g=some (bb (s.map λz:Nat=>R z).toArray 3 (0,0)))(ak:s.length=N):bf h 1 (some ⟨g,0,none⟩) N (s.map λz:Nat=>[R z]):=by
 refine⟨by simpa using ak,λr b=>by obtain⟨p,_,rfl⟩:=cU.1 b;rfl,λ_=>⟨_,rfl⟩,λj c i r b o v a=>?_⟩;injection c with c;subst c;rw[add_lit,dM];rw[dH,ye]at b;obtain⟨z,d,rfl⟩:=b;have e:o=0:=by
  have:=(pZ.1 a).1;simp at this;omega
 subst e;injection a with a;subst a;exact bV f (by rw[dH,eV,zQ,d];rfl)
theorem aDs(N n s:Nat) A ad h(D:bf h 5 A n (ad.map bT.cells))(aA:n<=9223372036854775806)(rY:vz h):Fn aB 22 #[mW N A n s] h λv C=>alV h N ad v C:=by
 have ak:ad.length=n:=by simpa using D.len
 refine b6 axc rfl (.ah (.mk _ (agi N n s A ad h D aA) (λ_ h1⟨V,f1,f2⟩=>?_)));by_cases j:e' N ad≠0;obtain rfl:=f1 j;refine aY (λq=>?_) (λq=>absurd j q);exact .ah ⟨V,by rw[wA,aD j];exact⟨0,e' N ad,_,_,_,_,_,_,rfl,λh=>absurd h.1 aM⟩⟩;have j:=jL.1 j;obtain⟨T,c,H,rfl,pT,zp⟩:=f2 j;obtain⟨Jv,vX,xu,eK⟩:=lT j;have EN:(hY N ad).length=N:=by simp[hY]
 obtain⟨hO,arw⟩:=aDD eK;refine .ah (.mk _ (aDC N n s c A T H ad h1 (D.mono V) j pT zp) ?_);rintro _ ae ⟨U,W,rfl,asz⟩;have Lk:=aqz asz hO.len;refine .one N (R 0) rfl rfl rfl rfl I I λeX=>.kY (.b4 3 3 1 (some eX) N N _ rfl λau ds pg tk=>.ah ?_);obtain⟨_,pg|⟨t,bm,lu,mg,_,_,fN,ox⟩⟩:=pg;cases pg.1;injection lu with lu;subst lu;have aGn:=tk _ rfl;have U9:bm=((bh N 0).map λz:Nat=>R (z:Int)).toArray:=by
  rw[lN (by simp[fN])]at ox;rw[<-FD (xs:=bm),ox,s9];rfl
 have FY:vx N t ae au (bh N 0):=⟨by rw[mg,U9],bd,ds,aGn⟩;have aFp:=rY.mono (J.le_trans V U);refine .mk Nat [1,2,4,6,7,8,36,37,38] (λv=>[.p 0 0,.p 1 0,.p 2 0,.v (ab (some ⟨W,0,none⟩) N N),.v (c5 (pS N ad v).isSome),.v (ab (some ⟨t,0,none⟩) N N),.v (ab (some H) N N),.v (R N),.v (R v)]) (λ_=>[.own [.v (R N),.v (ab A n s)] 33,.own [.v (bA .u8 0),.v (ab none 0 0),.v (ab none 0 0)] 80,.own [.v (ab T (e4 N ad).length c),.v (ab (some H) N N)] 159]) (λv C=>v<=N/\match pS N ad v with|some r=>vx N t ae C r|none=>∃r,vx N t ae C r) (λv=>N-v) 0 (λ_=>rfl) ⟨cW _,?_⟩ ?_ rfl ?_;unfold pS;split;rename_i r M;split at M;injection M with M;subst M;exact FY;cases M;exact⟨_,FY⟩;have:(pS N ad 0).isSome=(jJ N ad).2:=by
  unfold pS;cases(jJ N ad).2<;>rfl
 rw[this];rfl;rintro v e L ⟨an,b⟩;have dh:ae.le L:=by
  split at b;exact b.le;obtain⟨r,b⟩:=b;exact b.le
 refine aY (λq=>?_) (λq=>?_);have X:v<N:=I;have yt:L.cell? (H.add (v*1))=some (R ((hY N ad).getD v 0:Nat)):=by
  have O:v<(hY N ad).length:=I;rw[cx,bZ O];exact(zp.mono (J.le_trans U dh)).one rfl (i:=v) (iP O) rfl
 have f:pS N ad (v+1)=match pS N ad v with
  |none=>none
  |some r=>if(hY N ad).getD v 0=v then CU N (hY N ad) (jJ N ad).1 v r else some r:=rfl
 generalize(hY N ad).getD v 0=w at yt f;refine .m H rfl (.hp _ (by rw[bz];exact yt) ?_);cases hk:pS N ad v with
 |none=>
  rw[hk]at b f;exact .bg (⟨v+1,by rw[f];rfl,rfl,⟨X,by rw[f];exact b⟩,by show N- (v+1)<N-v;omega⟩)
 |some r=>
  rw[hk]at b f;simp only at f b;refine aY (λaH=>?_) (λaH=>?_);have pI:v=w:=I;subst pI;rw[aP rfl]at f;have a7:(jJ N ad).2=true:=by
   have key:∀v r,pS N ad v=some r->(jJ N ad).2=true:=by
    intro v;induction v with
    |zero=>
     intro r h;unfold pS at h;split at h;assumption;cases h
    |succ v bG=>
     intro r h;unfold pS at h;split at h;cases h;rename_i dq pH;exact bG dq pH
   exact key v r hk
  have aCY:=aC' N t v c (e4 N ad).length T ⟨W,0,none⟩ H (hY N ad) (jJ N ad).1 ae L r b I aFp (zp.mono U) Lk (arw a7);refine .ah (.mk _ aCY (λV9 cE k=>?_));rw[<-f]at k;cases G:pS N ad (v+1)with
  |none=>
   rw[G]at k;obtain⟨rfl,k⟩:=k;exact .bg (⟨v+1,by rw[G];rfl,rfl,⟨X,by rw[G];exact k⟩,by show N- (v+1)<N-v;omega⟩)
  |some dW=>
   rw[G]at k;obtain⟨rfl,k⟩:=k;exact .bg (⟨v+1,by rw[G];rfl,rfl,⟨X,by rw[G];exact k⟩,by show N- (v+1)<N-v;omega⟩)
  rw[aD I]at f;exact .bg (⟨v+1,by rw[f];rfl,rfl,⟨X,by rw[f];exact b⟩,by show N- (v+1)<N-v;omega⟩)
 have Ty:N=v:=I;subst Ty;have d:wA N ad=match pS N ad N with
  |none=>none
  |some r=>if(ad.all (DM (jJ N ad).1))=true then some r else none:=by rw[wA,aP j]
 have Q:h.le L:=J.le_trans V (J.le_trans U dh);cases hk:pS N ad N with
 |none=>
  rw[hk]at d;exact .ah ⟨Q,by rw[d];exact⟨3,0,_,_,_,_,_,_,rfl,λh=>absurd h.1 aM⟩⟩
 |some r=>
  rw[hk]at d b;simp only at d b;refine .mk Nat [1,2,6,8,59,60,61] (λi=>[.p 0 0,.p 1 0,.v (ab (some ⟨W,0,none⟩) N N),.v (ab (some ⟨t,0,none⟩) N N),.v (ab A n s),.v (R n),.v (R i)]) (λ_=>[.own [.v (R N),.v (ab A n s)] 33,.own [.v (bA .u8 0),.v (ab none 0 0),.v (ab none 0 0)] 80]) (λi C=>L.le C/\i<=n/\∀a∈ad.take i,DM (jJ N ad).1 a=true) (λi=>n-i) 0 (λ_=>rfl) ⟨J.le_refl _,cW _,bd⟩ rfl rfl ?_;refineλi aQ cE⟨F,ai,c0⟩=>aY (λbp=>?_) (λbp=>?_)
  .have dQ:i<ad.length:=I;obtain⟨g,am⟩:=D.cg I;have pf:=(D.mono (J.le_trans Q F)).row am (iP dQ);have o3:=cG dQ;have uT:=rT (eK ad[i] o3);have j6:ad.take (i+1)=ad.take i++[ad[i]]:=kJ dQ;generalize ad[i]=a at pf uT j6 o3;obtain⟨qn,s1,d0,d1,g0,g1,t0,t1,_⟩:=uT;have Fk:∀u,u<N->∀o v,(lf ((jJ N ad).1.getD u (0,0)))[o]?=some v->cE.cell? (((nI W 0 none).add (u*2)).add o)=some v:=λu hu o v S=>by
    have O:u<(jJ N ad).1.length:=by rw[hO.len];exact hu
    rw[cx,bZ O]at S;exact(Lk.mono (J.le_trans dh F)).row rfl (i:=u) (iP O) o v S
   have rs:=Fk a.src.toNat I;have rd:=Fk a.dst.toNat I;have DC:zA ((jJ N ad).1.getD a.src.toNat (0,0)):=hO.DC _ (Gz (by rw[hO.len];omega));have K:DM (jJ N ad).1 a=((lF ((jJ N ad).1.getD a.src.toNat (0,0)) a.fH.toNat a.take.toNat).2&&decide ((lF ((jJ N ad).1.getD a.src.toNat (0,0)) a.fH.toNat a.take.toNat).1=(jJ N ad).1.getD a.dst.toNat (0,0))):=rfl;have vY:DM (jJ N ad).1 a=false->(ad.all (DM (jJ N ad).1))=false:=λh=>Qj.2 ⟨a,o3,by simp[h]⟩;generalize(jJ N ad).1.getD a.src.toNat (0,0)=x at rs DC K;generalize(jJ N ad).1.getD a.dst.toNat (0,0)=y at rd K;have t49:=aiT x a.fH.toNat a.take.toNat cE DC I I I;rw[pr (show 0<=a.fH by omega),pr (show 0<=a.take by omega)]at t49;generalize lF x a.fH.toNat a.take.toNat=z at t49 K;obtain⟨⟨jj,z2⟩,Xa⟩:=z;obtain⟨fq,gD⟩:=y;obtain⟨gP,e9⟩:=x;have Z:=λe6(jd:h.le e6)=>aBh N n s a.dst.toNat a.src.toNat A ad e6 (D.mono jd) aA I I;simp only[pr qn,pr d0]at Z;refine .m g am (.hp a.cells rfl (by rw[bz];exact pf) (.r (.hp (lf (gP,e9)) rfl rs (⟨?_,?_⟩))));all_goals refine .mk _ t49 (λv ae q=>q.1) ?_
   all_goals rintro _ e6 ⟨iz,rfl⟩
   all_goals have E:=J.le_trans Q (J.le_trans F iz)
   all_goals cases Xa
   all_goals conv=>whnf
   all_goals first
    |(
     refine .ah (.mk _ (Z _ E) ?_)
     rintro _ nT ⟨P,nj,pm,cN,rW,ig,rfl,atq,oM⟩
     have Y:=vY (by rw[K];rfl)
     rw[Y]at d
     refine aY (λe0=>?_) (λe0=>?_)
     exact .ah ⟨J.le_trans E P,by rw[d];exact⟨0,rW,_,_,_,_,_,_,rfl,λh=>absurd h.1 aM⟩⟩
     refine .mk λanP ar3=>?_
     refine .ah (.c3 5 _ _ rfl (oM.src _) (λu hu=>by obtain⟨l,ak,hu⟩:=ak9.1 hu;obtain⟨p,_,rfl⟩:=cU.1 ak;simp[m8]at hu;rcases hu with rfl|rfl<;>rfl) (by simp[eD];omega) I λalL sP yR=>?_)
     exact .ah ⟨J.le_trans E P,by rw[d];exact⟨2,0,_,_,_,_,_,_,rfl,λh=>absurd h.1 aM⟩⟩)
    |(
     refine .r ?_
     refine .hp (lf (fq,gD)) rfl (λo v S=>J.la iz (rd o v S)) ?_
     refine uw (λch=>?_) (λch=>?_)
     refine .ah (.mk _ (Z _ E) ?_)
     rintro _ nT ⟨P,nj,pm,cN,rW,ig,rfl,atq,oM⟩
     have Y:=vY (by rw[K];simp[flip]at ch;simp;omega)
     rw[Y]at d
     refine aY (λe0=>?_) (λe0=>?_)
     exact .ah ⟨J.le_trans E P,by rw[d];exact⟨0,rW,_,_,_,_,_,_,rfl,λh=>absurd h.1 aM⟩⟩
     exact .mk λanP ar3=>.ah (.c3 5 _ _ rfl (oM.src _) (λu hu=>by obtain⟨l,ak,hu⟩:=ak9.1 hu;obtain⟨p,_,rfl⟩:=cU.1 ak;simp[m8]at hu;rcases hu with rfl|rfl<;>rfl) (by simp[eD];omega) I λalL sP yR=>.ah ⟨J.le_trans E P,by rw[d];exact⟨2,0,_,_,_,_,_,_,rfl,λh=>absurd h.1 aM⟩⟩)
     have aR:DM (jJ N ad).1 a=true:=by rw[K];simp[flip]at ch;simp;omega
     refine .bg (⟨i+1,rfl,rfl,⟨J.le_trans F iz,I,λeO B=>?_⟩,by show n- (i+1)<n-i;omega⟩)
     rw[j6]at B
     rcases ej.1 B with B|B
     exact c0 eO B
     simp at B;rw[B];exact aR)
  have Au:i=ad.length:=I;rw[Au,r5]at c0;rw[aP (rl.2 c0)]at d;exact .ah ⟨J.le_trans Q F,by rw[d];exact⟨b.len,⟨t,0,none⟩,rfl,(af6 b.p5 b.len).mono F⟩⟩
def Fb(q:Nat):Bool:=decide (1<=q)&&decide (q<=4096)
def Ml(r:List Nat)(a:bT):Bool:=decide (a.fH.toNat*r.getD a.src.toNat 0=a.take.toNat*r.getD a.dst.toNat 0)
def AD(ad:List bT)(r:List Nat):Bool:=r.all Fb&&ad.all (Ml r)
theorem CJ{ar:Option aI}{r:List Nat}(t:bf h 1 ar m (r.map λz:Nat=>[R z])){g:aI}(b:ar=some g){i:Nat}(c:i<m):h.cell? (g.add (i*1))=some (R (r.getD i 0:Nat)):=by
 have ak:r.length=m:=by simpa using t.len
 have a:i<r.length:=I;rw[cx,bZ a];exact t.one b (i:=i) (iP a) rfl
theorem ate(N n C m c:Nat) A ar ad r h(G:bf h 5 A n (ad.map bT.cells))(Y:n<=9223372036854775806)(o:bf h 1 ar m (r.map λz:Nat=>[R z]))(P:∀q∈r,q<=1000000)(hm:m<=1000):Fn aB 51 #[mW N A n C,ab ar m c] h λv s=>s=h/\v=if e' N ad≠0 then ey #[c5 false,R (e' N ad)]else if m≠N then ey #[c5 false,R 1]else ey #[c5 (AD ad r),R 0]:=by
 have ak:ad.length=n:=by simpa using G.len
 have Ax:r.length=m:=by simpa using o.len
 refine b6 axK rfl (.ah (.mk _ (Mr N A n C ad h G Y) ?_));rintro _ _ ⟨rfl,bL⟩;subst bL;refine aY (λq=>?_) (λq=>?_);exact .ah ⟨rfl,by rw[aP q];rfl⟩;have ao:=jL.1 q;obtain⟨Jv,vX,xu,eK⟩:=lT ao;rw[aD q];refine aY (λZ=>?_) (λZ=>?_);exact .ah ⟨rfl,by rw[aP I];rfl⟩;rw[aD I];have X:m=N:=I;subst X;refine .mk Nat [1,2,21,22,23] (λi=>[.v (ab ar m c),.p 0 0,.v (ab ar m c),.v (R m),.v (R i)]) (λ_=>[.own [.v (R m),.v (ab A n C)] 33]) (λi s=>s=_/\i<=m/\∀q∈r.take i,Fb q=true) (λi=>m-i) 0 (λ_=>rfl) ⟨rfl,cW _,bd⟩ rfl rfl ?_;rintro i e h1 ⟨rfl,ai,f⟩;refine aY (λL=>?_) (λL=>?_);have j:i<r.length:=I;obtain⟨g,B⟩:=o.cg I;have O:=CJ o B (i:=i) I;have xh:r.getD i 0=r[i]:=by rw[cx,bZ j];rfl
 rw[xh]at O;have D:r.take (i+1)=r.take i++[r[i]]:=kJ j;have E:=cG j;have l:Fb r[i]=false->AD ad r=false:=λh=>by
  rw[AD,Qj.2 ⟨_,E,by simp[h]⟩,Bk]
 generalize r[i]=z at O D l;refine .m g B ?_;refine .hp _ (by rw[bz];exact O) ?_;refine aY (λM=>?_) (λM=>?_);exact .ah ⟨rfl,by rw[l (by simp[Fb];omega)];rfl⟩;refine aY (λch=>?_) (λch=>?_);exact .ah ⟨rfl,by rw[l (by simp[Fb];omega)];rfl⟩;refine .bg (⟨i+1,rfl,rfl,⟨rfl,I,λq b=>?_⟩,by show m- (i+1)<m-i;omega⟩);rw[D]at b;rcases ej.1 b with b|b;exact f q b;simp at b;subst b;simp[Fb];omega;have K:i=r.length:=I;rw[K,r5]at f;have aT:=rl.2 f;refine .mk Nat [1,2,35,36,37] (λi=>[.v (ab ar m c),.p 0 0,.v (ab A n C),.v (R n),.v (R i)]) (λ_=>[.own [.v (R m),.v (ab A n C)] 33]) (λi s=>s=_/\i<=n/\∀a∈ad.take i,Ml r a=true) (λi=>n-i) 0 (λ_=>rfl) ⟨rfl,cW _,bd⟩ rfl rfl (λi aQ h1⟨rfl,ai,f⟩=>aY (λL=>?_) (λL=>?_));have j:i<ad.length:=I;obtain⟨g,B⟩:=G.cg I;have U:=G.row B (iP j);have E:=cG j;have V:=rT (eK ad[i] E);have D:ad.take (i+1)=ad.take i++[ad[i]]:=kJ j;have l:Ml r ad[i]=false->AD ad r=false:=λh=>by
  rw[AD,Qj.2 ⟨_,E,by simp[h]⟩,Xj]
 generalize ad[i]=a at U V D E l;obtain⟨qn,s1,d0,d1,g0,g1,t0,t1,_⟩:=V;obtain⟨T,F⟩:=o.cg I;have c1:=CJ o F (i:=a.src.toNat) I;have c2:=CJ o F (i:=a.dst.toNat) I;have Q:r.getD a.src.toNat 0<=1000000:=P _ (Gz I);have S:r.getD a.dst.toNat 0<=1000000:=P _ (Gz I);have d:Ml r a=decide (a.fH.toNat*r.getD a.src.toNat 0=a.take.toNat*r.getD a.dst.toNat 0):=rfl;generalize r.getD a.src.toNat 0=x at c1 Q d;generalize r.getD a.dst.toNat 0=y at c2 S d;obtain⟨J,t⟩:∃k:Nat,a.fH=k:=⟨a.fH.toNat,I⟩;obtain⟨H,W⟩:∃k:Nat,a.take=k:=⟨a.take.toNat,I⟩;have m1:J*x<=64*1000000:=lP I Q;have m2:H*y<=64*1000000:=lP I S;rw[t,W,bz,bz]at d;refine .m g B (.hp a.cells rfl (by rw[bz];exact U) (.m T F (.hp _ c1 ?_)));conv=>whnf
 rw[t,show(J:Int)*x=((J*x:Nat):Int) by simp];refine .bg (.m T F (.hp _ c2 ?_));conv=>whnf
 rw[W,show(H:Int)*y=((H*y:Nat):Int) by simp];refine .bg ?_;generalize J*x=u at m1 d;generalize H*y=w at m2 d;refine aY (λM=>?_) (λM=>?_);exact .ah ⟨rfl,by rw[l (by rw[d];simp;omega)];rfl⟩;refine .bg (⟨i+1,rfl,rfl,⟨rfl,I,λq b=>?_⟩,by show n- (i+1)<n-i;omega⟩);rw[D]at b;rcases ej.1 b with b|b;exact f q b;simp at b;subst b;rw[d];simp;omega;have K:i=ad.length:=I;rw[K,r5]at f;exact .ah ⟨rfl,by rw[AD,aT,rl.2 f];rfl⟩
def u6(N:Nat)(aE:List Int):Nat->List Nat
 |0=>(fL N).map λv=>aE.length+N-v
 |o+1=>(u6 N aE o).set (aE.getD (aE.length-1-o) 0).toNat (aE.length-1-o)
theorem VN N aE:∀o,(u6 N aE o).length=N
 |0=>by simp[u6]
 |o+1=>by rw[u6,h2,VN N aE o]
def wx(N:Nat)(aE:List Int):List Nat:=u6 N aE aE.length
theorem EI{ar:Option aI}{r:List Int}(t:bf h 1 ar m (r.map λz=>[R z])){g:aI}(b:ar=some g){i:Nat}(c:i<m):h.cell? (g.add (i*1))=some (R (r.getD i 0)):=by
 have ak:r.length=m:=by simpa using t.len
 have a:i<r.length:=I;rw[cx,bZ a];exact t.one b (i:=i) (iP a) rfl
theorem aBP(N m c:Nat) P(aE:List Int) h(j:bf h 1 P m (aE.map λz=>[R z]))(hm:m<=70368744177664)(U:N<=32)(A:∀z∈aE,0<=z/\z<N)(C:0<N):Fn aB 53 #[R N,ab P m c] h λv a=>h.le a/\∃g,v=ab (some ⟨g,0,none⟩) N N/\a g=some (bb ((wx N aE).map λz:Nat=>R z).toArray 3 (0,0))/\h g=none:=by
 have ak:aE.length=m:=by simpa using j.len
 refine b6 axL rfl (.one N (R 0) rfl rfl rfl rfl I I λeX=>?_);have E:bh N (R 0)=rB (λv=>R ((m+N-v:Nat):Int)) (R 0) N 0:=by simp[rB]
 refine .mk Nat [0,1,5,11,12] (λk=>[.v (R N),.v (ab P m c),.v (ab (some eX) N N),.v (R N),.v (R k)]) (λk=>[.row 3 1 (some eX) N N (rB (λv=>R ((m+N-v:Nat):Int)) (R 0) N k)]) (λk a=>a=h/\k<=N) (λk=>N-k) 0 (λ_=>rfl) ⟨rfl,cW _⟩ rfl (by simp only[<-E];rfl) (λk e h1⟨rfl,hk⟩=>aY (λq=>?_) (λq=>?_));have b:k<N:=I;refine .bg (.bg (.m eX rfl ?_));have K:(m:Int)+N-k=((m+N-k:Nat):Int):=I;exact .row 0 3 1 eX N N _ (rB (λv=>R ((m+N-v:Nat):Int)) (R 0) N (k+1)) k rfl (by rw[bz,eV]) (by rw[ih _ _ _ (by rw[aaX hk];exact b),<-aaY b];exact ee (λx=>some ((rB (λv=>R ((m+N-v:Nat):Int)) (R 0) N k).set k (R x))) K) (.bg (⟨k+1,rfl,rfl,⟨rfl,b⟩,by show N- (k+1)<N-k;omega⟩));have w:N=k:=I;subst w;refine .bg (.mk Nat [1,5,7] (λo=>[.v (ab P m c),.v (ab (some eX) N N),.v (R ((m:Int)-1-o))]) (λo=>[.row 3 1 (some eX) N N ((u6 N aE o).map λz:Nat=>R (z:Int))]) (λo a=>a=h1/\o<=m) (λo=>m-o) 0 (λ_=>rfl) ⟨rfl,cW _⟩ (by show[aK.v (ab P m c),aK.v (ab (some eX) N N),aK.v (R ((m:Int)-1))]=[aK.v (ab P m c),aK.v (ab (some eX) N N),aK.v (R ((m:Int)-1- ((0:Nat):Int)))];rw[show((m:Int)-1- ((0:Nat):Int))=(m:Int)-1 by omega]) (by rw[aaW,u6,iD,ak];rfl) ?_);rintro o Q ae ⟨rfl,S⟩;refine aY (λB=>?_) (λB=>?_);have H:m-1-o<m:=I;obtain⟨g,t⟩:=j.cg I;have p:(m:Int)-1-o=((m-1-o:Nat):Int):=I;have r:=EI j t H;have O:=A _ (Gz (l:=aE) (d:=0) (i:=m-1-o) I);have s:u6 N aE (o+1)=(u6 N aE o).set (aE.getD (m-1-o) 0).toNat (m-1-o):=by rw[u6,ak]
 generalize aE.getD (m-1-o) 0=z at r O s;refine .m g t ?_;refine .hp _ (by rw[p,bz];exact r) ?_;refine .m eX rfl ?_;refine .row 0 3 1 eX N N _ ((u6 N aE (o+1)).map λz:Nat=>R (z:Int)) z.toNat rfl (by rw[eV]) (by rw[ih _ _ _ (by simp[VN];omega),s,lM];exact ee (λx=>some (((u6 N aE o).map λz:Nat=>R (z:Int)).set z.toNat (R x))) p) ?_;refine .bg ?_;exact⟨o+1,by show[aK.v (ab P m c),aK.v (ab (some eX) N N),aK.v (R ((m:Int)-1-o-1))]=[aK.v (ab P m c),aK.v (ab (some eX) N N),aK.v (R ((m:Int)-1- ((o+1:Nat):Int)))];rw[show(m:Int)-1-o-1=(m:Int)-1- ((o+1:Nat):Int) by omega],rfl,⟨rfl,I⟩,by show m- (o+1)<m-o;omega⟩;have y:o=m:=I;have L:wx N aE=u6 N aE o:=by rw[wx,ak,y]
 refine .b4 0 3 1 (some eX) N N _ rfl λT F n M=>.ah ?_;obtain⟨_,n|⟨gI,D,f,J,_,_,G,u⟩⟩:=n;cases n.1;injection f with f;subst f;refine⟨F,gI,rfl,?_,M _ rfl⟩;rw[lN (by simp[G])]at u;rw[J,<-FD (xs:=D),u,L]
theorem U5{s:List Nat}(j:h g=some (bb ((s.map λz:Nat=>R z)++sp).toArray 3 (0,0)))(ak:s.length=N):bf h 1 (some ⟨g,0,none⟩) N (s.map λz:Nat=>[R z]):=by
 refine⟨by simpa using ak,λr b=>by obtain⟨p,_,rfl⟩:=cU.1 b;rfl,λ_=>⟨_,rfl⟩,λk c i r b o v a=>?_⟩;injection c with c;subst c;rw[add_lit,dM];rw[dH,ye]at b;obtain⟨z,d,rfl⟩:=b;have e:o=0:=by
  have:=(pZ.1 a).1;simp at this;omega
 subst e;injection a with a;subst a;have f:=(pZ.1 d).1;exact bV j (by rw[eV,zQ,List.getElem?_append_left (by simpa using f),dH,d];rfl)
structure w0(cC:J)(fT b iq gI N cl:Nat)(sp:List ax)(left gf:List Nat)(V:ax):Prop where
 box:cC fT=some (bb #[h9 b,ab (some ⟨iq,0,none⟩) N cl,ab (some ⟨gI,0,none⟩) N N,V] 182 (0,0))
 lB:cC iq=some (bb ((left.map λz:Nat=>R (z:Int))++sp).toArray 3 (0,0))
 A5:cC gI=some (bb (gf.map λz:Nat=>R (z:Int)).toArray 3 (0,0))
 gL:left.length=N
 xO:gf.length=N
theorem w0.mono(r:w0 cC fT b iq gI N cl sp left gf V)(le:cC.le h):w0 h fT b iq gI N cl sp left gf V:=⟨le _ _ r.box,le _ _ r.lB,le _ _ r.A5,r.gL,r.xO⟩
def Q3(gf:List Nat)(v:Option Nat)(w:Nat):Bool:=match v with
 |none=>true
 |some v=>decide (gf.getD w 0<gf.getD v 0)
def px(N:Nat)(ad:List bT)(cR:List Int)(left gf:List Nat):Nat->Option Nat
 |0=>none
 |w+1=>if(decide (0<left.getD w 0)&&(xJ N ad cR w&&Q3 gf (px N ad cR left gf w) w))=true then some w else px N ad cR left gf w
def BX:Option Nat->Int
 |none=> -1
 |some v=>v
theorem Q1{N:Nat}{ad:List bT}{cR:List Int}{left gf:List Nat}:∀{w v:Nat},px N ad cR left gf w=some v->v<w
 |0,v,h=>by cases h
 |w+1,v,h=>by
  unfold px at h;split at h;injection h with h;omega;have:=Q1 h;omega
theorem Y3(w:sb cC b gt bq N ad)(r:w0 cC fT b iq gI N cl sp left gf V) cR cI(C:cR.length=ad.length)(A:ad.length<=96)(H:N<=32):Fn aB 54 #[h9 fT] (st cC gt bq cR cI) λv g=>v=R (BX (px N ad cR left gf N))/\g=st cC gt bq cR cI:=by
 obtain⟨K,M,P,G,ci,co,F,O,a'⟩:=w.ex;have x:cC.le (st cC gt bq cR cI):=J.jZ a'.ov a'.ou;have m24:=λv=>afs w cR cI C A v;have r:=r.mono x;generalize st cC gt bq cR cI=h at r m24;have B:∀v,v<N->h.cell? ((nI iq 0 none).add (v*1))=some (R (left.getD v 0:Nat)):=λv c=>CJ (U5 r.lB r.gL) rfl c;have j:∀v,v<N->h.cell? ((nI gI 0 none).add (v*1))=some (R (gf.getD v 0:Nat)):=λv c=>CJ (af6 r.A5 r.xO) rfl c;refine b6 axM rfl (.hp _ (bV r.box rfl) (.mk Nat [0,3,9,10] (λk=>[.v (h9 fT),.v (R (BX (px N ad cR left gf k))),.v (R N),.v (R k)]) (λ_=>[]) (λk g=>g=h/\k<=N) (λk=>N-k) 0 (λ_=>rfl) ⟨rfl,cW _⟩ rfl rfl ?_));rintro k e h1 ⟨rfl,hk⟩;refine aY (λq=>?_) (λq=>?_);have i:k<N:=I;have a:px N ad cR left gf (k+1)=if(decide (0<left.getD k 0)&&(xJ N ad cR k&&Q3 gf (px N ad cR left gf k) k))=true then some k else px N ad cR left gf k:=rfl;have c1:=B k i;have n:=λv=>@Q1 N ad cR left gf k v;have next:∀v,v=px N ad cR left gf (k+1)->∃d:Nat,[aK.v (h9 fT),aK.v (R (BX v)),aK.v (R N),aK.v (R (k+1:Nat))]=[aK.v (h9 fT),aK.v (R (BX (px N ad cR left gf d))),aK.v (R N),aK.v (R d)]/\([]:List LE)=[]/\(h1=h1/\d<=N)/\N-d<N-k:=λv c=>⟨k+1,by rw[c],rfl,⟨rfl,i⟩,I⟩
 generalize left.getD k 0=l at c1 a;have m:=m24 k;generalize xJ N ad cR k=z at m a;generalize E:px N ad cR left gf k=f at a n;refine .hp _ (bV r.box rfl) ?_;refine .r ?_;refine .hp _ (by rw[bz];exact c1) ?_;refine aY (λs=>?_) (λs=>?_);rw[gG (show 0<l by omega),zB]at a;refine .hp _ (bV r.box rfl) (.mk _ m (λv ae q=>by rw[q.2];exact J.le_refl _) ?_);rintro _ _ ⟨rfl,t⟩;subst t;cases z;rw[Bk]at a;refine .bg ?_;exact next f (by rw[a];rfl)
 rw[zB]at a;cases f with
 |none=>
  refine .bg ?_;exact next (some k) (by rw[a];rfl)
 |some v=>
  have c:=n v rfl;have c2:=j k i;have o:=j v I;have D:Q3 gf (some v) k=decide (gf.getD k 0<gf.getD v 0):=rfl;rw[D]at a;generalize gf.getD k 0=L at c2 a;generalize gf.getD v 0=y at o a;refine .hp _ (bV r.box rfl) ?_;refine .r ?_;refine .hp _ (by rw[bz];exact c2) ?_;refine .hp _ (bV r.box rfl) ?_;refine .mk _ rfl (by show(0:Int)<=(v:Int);omega) (by show(v:Int)<(N:Int);omega) ?_;refine .hp (R y) o ?_;refine aY (λu=>?_) (λu=>?_);refine .bg ?_;exact next (some k) (by rw[a,aP (by simp;omega)])
  exact .bg (next (some v) (by rw[a,aD (by simp;omega)]))
 rw[io (show¬0<l by omega),Bk]at a;exact .bg (next f (by rw[a];rfl));have p:k=N:=I;subst p;exact .ah ⟨rfl,rfl⟩
theorem ap6(w:sb cC b gt bq N ad) cR cI(i:cI.length=N)(t:N<=32):Fn aB 117 #[h9 b] (st cC gt bq cR cI) λr a=>∃g c,r=ab (some g) N c/\(st cC gt bq cR cI).le a/\bJ a 3 1 (some g) N c (cI.map R):=by
 obtain⟨v,y,A,q,ci,co,p,O,a'⟩:=w.ex;have x:cC.le (st cC gt bq cR cI):=J.jZ a'.ov a'.ou;have f:st cC gt bq cR cI bq=some (hh cI):=HR;have d:=WF f;rw[i]at d;generalize n:st cC gt bq cR cI=h at x f d;refine b6 awk rfl (.hp _ (J.la x (bV a'.head (o:=4) rfl)) (.mk λs u=>.ah (.c3 1 _ _ rfl (d.src _) (by rw[xj];exact KE _) (by simp[eD];omega) I λj e aT=>.b4 1 3 1 j (0+N) e _ rfl λa m l i=>?_)));have k:bJ a 3 1 j (0+N) e (cI.map λz=>[R z]).flatten:=l;rw[dM,xj]at k;obtain⟨g,rfl⟩:=Wq aT.1;exact .ah ⟨g,e,by rw[dM];rfl,m,k⟩
theorem anN(w:sb cC b gt bq N ad)(r:w0 cC fT b iq gI N cl sp left gf V) cR cI(T:cR.length=ad.length)(S:ad.length<=96)(L:N<=32)(E:cI.length=N):Fn aB 56 #[h9 fT] (st cC gt bq cR cI) λv d=>(st cC gt bq cR cI).le d/\∃A k c,v=ab A k c/\(k=0↔∀x∈left,x=0):=by
 obtain⟨fl,hy,hz,Z,ci,co,Y,O,a'⟩:=w.ex;have x:cC.le (st cC gt bq cR cI):=J.jZ a'.ov a'.ou;have f117:=ap6 w cR cI E L;have r:=r.mono x;have f:∀ae,(st cC gt bq cR cI).le ae->∀v:Nat,Fn aB 118 #[h9 b,R v] ae λr d=>(∃z,r=R z)/\ae.le d:=λae le v=>by
  obtain⟨hH,e,K,Q,z2⟩:=Li a'.ne a'.ov a'.ou le;rw[e];exact(ah5 (w.mono K Q z2) cR cI T S v).mono λr d q=>⟨⟨_,q.1⟩,by rw[q.2];exact J.le_refl _⟩
 generalize st cC gt bq cR cI=h at r f117 f;refine b6 axO rfl (.hp _ (bV r.box rfl) (.ah (.mk _ f117 ?_)));rintro _ h1 ⟨P,C,rfl,u,j⟩;have y:=r.mono u;refine .hp _ (bV y.box rfl) ?_;refine .kY (.abs 273 3 none 0 0 [] ⟨rfl,bW ⟨rfl,rfl,rfl⟩⟩ (.ah ?_));refine .mk (Nat×Option aI×Nat×Nat×List ax) [0,3,4,15,16,17] (λ(k,A,m,c,_)=>[.v (h9 fT),.v (ab A m c),.v (ab (some P) N C),.v (ab (some ⟨iq,0,none⟩) N cl),.v (R N),.v (R k)]) (λ(_,A,m,c,xs)=>[.row 273 3 A m c xs]) (λ(k,_,m,_,_) d=>h1.le d/\k<=N/\m<=k/\(m=0↔∀x∈left.take k,x=0)) (λ(k,_)=>N-k) (0,none,0,0,[]) (λ_=>rfl) ⟨J.le_refl _,cW _,dz _,bd⟩ rfl rfl ?_;rintro⟨k,A,m,c,xs⟩ e ae ⟨g,hk,hm,s⟩;have o:=y.mono g;have le:=J.le_trans u g;refine aY (λq=>?_) (λq=>?_);have t:k<left.length:=by rw[r.gL];omega
 have p:left.take (k+1)=left.take k++[left[k]]:=kJ t;have U:left.getD k 0=left[k]:=by rw[cx,bZ t];rfl
 have c1:=CJ (U5 o.lB o.gL) rfl (i:=k) I;rw[U]at c1;generalize left[k]=l at c1 p;refine .r ?_;refine .hp _ (by rw[bz];exact c1) ?_;refine aY (λF=>?_) (λF=>?_);have n:=(j.mono g).kd;have c2:=EI n rfl (i:=k) I;refine .r (.hp _ (by rw[bz];exact c2) (.hp _ (bV o.box rfl) (.mk _ (f ae le k) (λv ae q=>q.2) ?_)));rintro _ X ⟨⟨z,rfl⟩,M⟩;refine .c3 0 _ _ rfl rfl (by simp[zX,R]) (by simp[eD];omega) I λG H W=>.bg (⟨(k+1,G,m+1,H,_),rfl,rfl,⟨J.le_trans g M,I,I,?_⟩,by show N- (k+1)<N-k;omega⟩);rw[p];refine⟨λh=>I,λh=>?_⟩;have:=h l bd;omega;refine .bg (⟨(k+1,A,m,c,xs),rfl,rfl,⟨g,I,I,?_⟩,by show N- (k+1)<N-k;omega⟩);have D:l=0:=I;rw[p,s,D];simp;exact⟨λh x a=>by rcases a with a|a;exact h x a;exact a,λh x a=>h x (bW a)⟩;have B:k=N:=I;rw[B,lN (by rw[r.gL];omega)]at s;exact .ah ⟨le,A,m,c,rfl,s⟩
def t'(N:Nat)(ad:List bT)(gf:List Nat):Nat->List Int->List Nat->List Nat->List Nat×List Nat
 |0,_,left,l=>(left,l)
 |n+1,f,left,l=>match px N ad (dx ad f) left gf N with
  |none=>(left,l)
  |some v=>t' N ad gf n (bump f v) (left.set v (left.getD v 0-1)) (l++[v])
def q'(N:Nat)(ad:List bT)(dw:List Nat)(aE:List Int):Option (List Nat):=
 if e' N ad=0/\dw.length=N/\AD ad dw=true/\dw.sum<=2048/\(∀z∈aE,0<=z/\z<N)then(if∀x∈(t' N ad (wx N aE) (dw.sum+1) (bh N 0) dw []).1,x=0 then some (t' N ad (wx N aE) (dw.sum+1) (bh N 0) dw []).2 else none)else none
theorem Q2{N:Nat}{ad:List bT}{cR:List Int}{left gf:List Nat}:∀{w v:Nat},px N ad cR left gf w=some v->0<left.getD v 0/\xJ N ad cR v=true
 |0,v,h=>by cases h
 |w+1,v,h=>by
  unfold px at h;split at h;rename_i ay;injection h with h;subst h;simp only[h0,uB]at ay;exact⟨ay.1,ay.2.1⟩;exact Q2 h
theorem aD3(l:List Nat):∀v,v<l.length->0<l.getD v 0->(l.set v (l.getD v 0-1)).sum+1=l.sum:=by
 induction l with
 |nil=>intro v h;simp at h
 |cons a l b=>
  intro v h hp;cases v with
  |zero=>simp at hp⊢;omega
  |succ v=>
   have:=b v (by simpa using h) (by simpa using hp);simp only[LZ,List.sum_cons,List.getD_cons_succ];omega
theorem air{o:Nat}{t f:List Int}(h1:o≠gt)(ae:o≠bq) U:(st cC gt bq t f).put o U=st (cC.put o U) gt bq t f:=by
 funext k;unfold st J.put;by_cases a:k=o;subst a;simp[h1,ae];by_cases b:k=bq;subst b;simp[a];by_cases c:k=gt;subst c;simp[a,b];simp[a,b,c]
def Yg(h:J)(N:Nat)(ad:List bT)(dw:List Nat)(aE:List Int)(v:ax)(a:J):Prop:=h.le a/\match q' N ad dw aE with
 |some l=>l.length<=2048/\∃A c,v=ey #[.agg #[ab A l.length c,ab none 0 0],R 0]/\bf a 1 A l.length (l.map λz:Nat=>[R (z:Int)])
 |none=>∃(d:Option aI)(b c2:Nat)(A:Option aI)(k c:Nat)(e:Int),v=ey #[.agg #[ab d b c2,ab A k c],R e]/\¬(e=0/\k=0)
end Go.Sx
