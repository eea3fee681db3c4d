/- A part of the proof that the statement holds. Conditions: none. -/
import Derived.WalkKit
import Derived.Test.YtlbdbpaelcnfgaaGreatDoorAO
import Derived.Test.YtlbdbpaelcnfgaaGreatDoorAQ
open Array renaming toArray_toList->GV
open Bool renaming and_eq_true->iv,and_false->YP,false_and->Cv,or_eq_false_iff->YQ,true_and->AP
open Classical renaming not_not->kc
open Go renaming Addr->aE,Program->fk,Value->aA,World->bD,callsD_of_wpS->aaO,execOp->dD,maxLen->eQ,recoverD->Mr,undef->fS,wpOpsS->MV,wpS_cond->alk,wpS_of_wp->alm,wpS_region->MW,wpS_seq->MX,wp_mono->yV
open Go.Addr renaming mk->oA
open Go.Exit renaming thenS->JH
open Go.IntKind renaming bits->RQ
open Go.Obj renaming cells->bb
open Go.Op renaming operands->He
open Go.Proofs.Tryz renaming func151->anA,func155->Sn,ntmps155->anR,prog->aD,results155->anT
open Go.Region renaming wanted->ih
open Go.Value renaming bool->dh,int->bC,oneCell'->Bd,pointer->gR,slice->ab,tuple->eA
open Int renaming toNat_natCast->bn,toNat_of_nonneg->p6
open List renaming all_eq_false->RT,all_eq_true->se,count_cons->RV,count_le_length->amp,getD_eq_getElem?_getD->cc,getElem?_eq_getElem->bK,getElem?_eq_none->l2,getElem?_eq_some_iff->qO,getElem?_map->de,getElem?_range->EG,getElem?_replicate->A3,getElem?_set->ub,getElem_mem->b3,getElem_of_mem->n4,length_append->fb,length_cons->iJ,length_set->fI,map_append->fw,map_cons->er,map_map->ig,map_replicate->p7,map_set->kB,mem_append->eI,mem_append_left->wz,mem_flatten->amK,mem_map->cO,range->fJ,replicate->bp,set_cons_succ->JX,take_length->rv,take_of_length_le->mJ
open Nat renaming add_zero->A6,and_two_pow_sub_one_eq_mod->J0,ble->qQ,div_eq_of_lt->Nr,div_le_self->pz,div_pos->am0,gcd->iF,gcd_comm->am2,gcd_le_right->am3,gcd_pos_of_pos_right->Sb,le_refl->dM,le_trans->lf,lt_of_le_of_lt->am7,mod_eq_of_lt->J1,mul_le_mul->mh,mul_one->e4,mul_pos->ana,strongRecOn->Sd,succ_mul->A9,zero_add->dZ,zero_le->cU,zero_mod->anf,zero_mul->Hd
open Ne renaming symm->eh
open Option renaming map_eq_some_iff->zc
open Or renaming inl->bQ,inr->ba
namespace Go.Sx
open Go.Proofs
set_option maxRecDepth 100000
set_option maxHeartbeats 0
set_option linter.all false
variable {a b x:Nat}
theorem Jl(a:Nat) h(c:a<9223372036854775808):Fn aD 150 #[R a] h λv b=>v=eG a/\b=h:=by
 exact bU afH rfl (.mk I I (.ag ⟨rfl,rfl⟩))
theorem Eb(a:Nat) h(c:a<9223372036854775808):Fn aD 153 #[R a] h λv b=>v=eG a/\b=h:=by
 exact bU ayy rfl (.mk I I (.ag ⟨rfl,rfl⟩))
theorem aa7 a b h(f:a<9223372036854775808)(i:b<9223372036854775808):Fn aD 188 #[eG a,eG b] h λv c=>v=eG (iF a b)/\c=h:=by
 refine bU ayO rfl (.mk (Nat×Nat) [0,1] (λ(x,y)=>[.v (eG x),.v (eG y)]) (λ_=>[]) (λ(x,y) c=>c=h/\x<9223372036854775808/\y<9223372036854775808/\iF x y=iF a b) (λ(_,y)=>y) (a,b) (λ_=>rfl) ⟨rfl,f,i,rfl⟩ rfl rfl (λ⟨x,y⟩ e c⟨rfl,g,d,j⟩=>aW (λq=>?_) (λq=>?_)));refine .mk (eG (x%y)) (λP w=>aHw I) (⟨(y,x%y),rfl,rfl,⟨rfl,d,am7 (Nat.mod_le _ _) g,?_⟩,Nat.mod_lt _ I⟩);rw[<-j,am2,<-Nat.gcd_rec,am2];have:y=0:=I;subst this;exact .ag ⟨by show eG x=_;grind,rfl⟩
def AE:List Nat:=[0,1,56,2,57,49,28,3,61,58,42,50,38,29,17,4,62,47,59,36,45,43,51,22,53,39,33,30,24,18,12,5,63,55,48,27,60,41,37,16,46,35,44,21,52,32,23,11,54,26,40,15,34,20,31,10,25,14,19,9,13,8,7,6]
def Rc(x:Nat):Nat:=(x&&&(18446744073709551616-x))*285870213051353865%18446744073709551616/288230376151711744
def mD(x:Nat):Nat:=AE.getD (Rc x) 0
def wK(h:J):Prop:=∀k,k<64->h.cell? ⟨0,k,none⟩=some (bC .u8 (AE.getD k 0:Nat))
theorem wK.mono{h a:J}(t:wK h)(le:h.le a):wK a:=λk hk=>J.l5 le (t k hk)
theorem aHp x:Rc x<64:=by
 unfold Rc;omega
theorem aBX{y:Nat}(am:0<x)(e:x<18446744073709551616)(d:y=18446744073709551616-x){a:Operand}{w:bD}:wu aD (.unOp .neg 247 a) [eG x] w (eG y) w:=by
 intro f q c b;simp[He]at b;simp[dD,c,b,Op.unary,Op.intArith,M1];omega
theorem wrap_small{z:Int}(am: -9223372036854775808<=z)(h1:z<=9223372036854775807):IntKind.i64.wrap z=z:=by
 have:∀z:Int,IntKind.i64.wrap z=if 9223372036854775808<=z%18446744073709551616 then z%18446744073709551616-18446744073709551616 else z%18446744073709551616:=λz=>by
  unfold IntKind.wrap;simp[RQ,IntKind.signed]
 grind
theorem aHr:∀k,k<64->AE.getD k 0<=63:=aH
theorem aHq x:mD x<=63:=aHr _ (aHp x)
theorem Yl x h(am:0<x)(b:x<18446744073709551616)(j:wK h):Fn aD 187 #[eG x] h λv i=>v=R (mD x)/\i=h:=by
 refine bU ayN rfl ?_;obtain⟨e,h1⟩:∃y,y=18446744073709551616-x:=⟨_,rfl⟩;obtain⟨d,ae⟩:∃y,y=x&&&e:=⟨_,rfl⟩;obtain⟨f,c⟩:∃y,y=d*285870213051353865%18446744073709551616:=⟨_,rfl⟩;obtain⟨a,aT⟩:∃y,y=f/2^58:=⟨_,rfl⟩;have k:a=Rc x:=by rw[aT,c,ae,h1];rfl
 have l:a<64:=I;have g:AE.getD a 0=mD x:=by rw[k];rfl
 have m:=aHq x;generalize mD x=y at g m;exact aW (λq=>I) (λq=>.ag (.mk (eG e) (λw _=>aBX am b h1) (.mk (eG d) (λP w=>by rw[ae];exact Rd b I) (.mk (eG f) (λP w=>by rw[c];rfl) (.mk (eG a) (λP w=>by rw[aT];exact Eo (y:=58) aH) (.mk I I (.hp (bC .u8 (y:Nat)) (by simp only[add_lit,dZ,bn,e4];rw[<-g];exact j _ l) (.ag ⟨by show R _=_;rw[wrap_small I I],rfl⟩))))))))
def w'(x y:Nat):Nat:=
 let t:=((x/2^32)*(y&&&4294967295)%18446744073709551616+((x&&&4294967295)*(y&&&4294967295)%18446744073709551616)/2^32)%18446744073709551616
 (((x/2^32)*(y/2^32)%18446744073709551616+t/2^32)%18446744073709551616+(((t&&&4294967295)+(x&&&4294967295)*(y/2^32)%18446744073709551616)%18446744073709551616)/2^32)%18446744073709551616
theorem Wi x y h(R:x<18446744073709551616)(O:y<18446744073709551616):Fn aD 148 #[eG x,eG y] h λv Q=>v=eA #[eG (w' x y),eG (x*y%18446744073709551616)]/\Q=h:=by
 obtain⟨i,s⟩:∃z,z=x&&&4294967295:=⟨_,rfl⟩;obtain⟨k,u⟩:∃z,z=x/2^32:=⟨_,rfl⟩;obtain⟨l,B⟩:∃z,z=y&&&4294967295:=⟨_,rfl⟩;obtain⟨j,C⟩:∃z,z=y/2^32:=⟨_,rfl⟩;obtain⟨bh,J⟩:∃z,z=i*l%18446744073709551616:=⟨_,rfl⟩;obtain⟨F,L⟩:∃z,z=k*l%18446744073709551616:=⟨_,rfl⟩;obtain⟨G,M⟩:∃z,z=bh/2^32:=⟨_,rfl⟩;obtain⟨t,o⟩:∃z,z=(F+G)%18446744073709551616:=⟨_,rfl⟩;obtain⟨D,r⟩:∃z,z=t&&&4294967295:=⟨_,rfl⟩;obtain⟨E,n⟩:∃z,z=t/2^32:=⟨_,rfl⟩;obtain⟨K,c⟩:∃z,z=i*j%18446744073709551616:=⟨_,rfl⟩;obtain⟨H,d⟩:∃z,z=(D+K)%18446744073709551616:=⟨_,rfl⟩;obtain⟨m,e⟩:∃z,z=k*j%18446744073709551616:=⟨_,rfl⟩;obtain⟨N,f⟩:∃z,z=(m+E)%18446744073709551616:=⟨_,rfl⟩;obtain⟨p,g⟩:∃z,z=H/2^32:=⟨_,rfl⟩;obtain⟨A,a⟩:∃z,z=(N+p)%18446744073709551616:=⟨_,rfl⟩;obtain⟨T,b⟩:∃z,z=x*y%18446744073709551616:=⟨_,rfl⟩;have q:w' x y=A:=by rw[a,g,f,e,d,c,n,r,o,M,L,J,C,B,u,s];rfl
 have S:t<18446744073709551616:=I;rw[q,<-b];clear q;exact bU ayv rfl (.mk (eG i) (λP w=>by rw[s];exact Rd R aH) (.mk (eG k) (λP w=>by rw[u];exact Eo (y:=32) aH) (.mk (eG l) (λP w=>by rw[B];exact Rd O aH) (.mk (eG j) (λP w=>by rw[C];exact Eo (y:=32) aH) (.mk (eG bh) (λP w=>by rw[J];rfl) (.mk (eG F) (λP w=>by rw[L];rfl) (.mk (eG G) (λP w=>by rw[M];exact Eo (y:=32) aH) (.mk (eG t) (λP w=>by rw[o];rfl) (.mk (eG D) (λP w=>by rw[r];exact Rd S aH) (.mk (eG E) (λP w=>by rw[n];exact Eo (y:=32) aH) (.mk (eG K) (λP w=>by rw[c];rfl) (.mk (eG H) (λP w=>by rw[d];rfl) (.mk (eG m) (λP w=>by rw[e];rfl) (.mk (eG N) (λP w=>by rw[f];rfl) (.mk (eG p) (λP w=>by rw[g];exact Eo (y:=32) aH) (.mk (eG A) (λP w=>by rw[a];rfl) (.mk (eG T) (λP w=>by rw[b];rfl) (.ag ⟨rfl,rfl⟩))))))))))))))))))
theorem aui{y:Nat}(b:x<4294967296)(a:y<4294967296):w' x y=0:=by
 have h1:x/2^32=0:=Nr b;have ae:y/2^32=0:=Nr a;have c:x&&&4294967295=x:=by rw[show(4294967295:Nat)=2^32-1 from rfl,J0];omega
 have aT:y&&&4294967295=y:=by rw[show(4294967295:Nat)=2^32-1 from rfl,J0];omega
 have f:x*y<=4294967295*4294967295:=mh I I;have d:x*y%18446744073709551616=x*y:=J1 I;have e:x*y/4294967296<4294967296:=I;have g:x*y/4294967296&&&4294967295=x*y/4294967296:=by rw[show(4294967295:Nat)=2^32-1 from rfl,J0];omega
 unfold w'
 grind
theorem auh(b:x<9223372036854775808):w' x 1=0:=by
 have ae:(1:Nat)/2^32=0:=aH;have aT:(1:Nat)&&&4294967295=1:=aH;have a:x&&&4294967295=x%4294967296:=by rw[show(4294967295:Nat)=2^32-1 from rfl,J0]
 unfold w';simp only[ae,aT,a,Nat.mul_zero,anf,dZ,e4,show(2:Nat)^32=4294967296 from rfl];rw[show(x/4294967296%18446744073709551616+x%4294967296%18446744073709551616/4294967296)%18446744073709551616=x/4294967296 by omega];have c:x/4294967296&&&4294967295=x/4294967296:=by
  rw[show(4294967295:Nat)=2^32-1 from rfl,J0];omega
 omega
theorem aug(b:x<9223372036854775808):w' 1 x=0:=by
 have ae:(1:Nat)/2^32=0:=aH;have aT:(1:Nat)&&&4294967295=1:=aH;have a:x&&&4294967295=x%4294967296:=by rw[show(4294967295:Nat)=2^32-1 from rfl,J0]
 unfold w';simp only[ae,aT,a,Hd,anf,dZ,Nat.one_mul,show(2:Nat)^32=4294967296 from rfl];rw[show x%4294967296%18446744073709551616/4294967296%18446744073709551616=0 by omega]
 grind
theorem ahb x y h(c:x<4294967296)(a:y<4294967296):Fn aD 148 #[eG x,eG y] h λv b=>v=eA #[eG 0,eG (x*y)]/\b=h:=by
 have:=Wi x y h I I;rw[aui c a,J1 (am7 (mh (show x<=4294967295 by omega) (show y<=4294967295 by omega)) aH)]at this;omega
def wX:Nat->Nat->Nat->Nat
 |0,a,_=>a
 |n+1,a,b=>if b=0 then a else if b/2^mD b<a then wX n (b/2^mD b) (a-b/2^mD b)else wX n a (b/2^mD b-a)
def rD(a b:Nat):Nat:=if a=0\/b=0 then a|||b else wX (a/2^mD a+b+1) (a/2^mD a) b*2^mD (a|||b)
def Rb:Nat->Bool
 |0=>true
 |n+1=>qQ 1 ((n+1)/2^mD (n+1))&&qQ (mD (n+1)) 13&&Rb n
theorem akT:∀n,Rb n=true->∀x,0<x->x<=n->1<=x/2^mD x/\mD x<=13
 |0,_,x,am,h1=>by omega
 |n+1,h,x,am,h1=>by
  simp only[Rb,iv,Nat.ble_eq]at h;by_cases a:x=n+1
  grind
  exact akT n h.2 x am I
theorem aHs:Rb 8191=true:=fl
theorem Js(am:0<x)(h1:x<=8191):1<=x/2^mD x/\mD x<=13:=akT _ aHs x am h1
theorem SI:∀n a b,1<=a->a<=4096->b<=4096->a+b<n->1<=wX n a b/\wX n a b<=4096
 |0,_,_,_,_,_,h=>by omega
 |n+1,a,b,h1,ae,d,aT=>by
  unfold wX;split;exact⟨h1,ae⟩;rename_i c;have⟨t1,_⟩:=Js (x:=b) I I;have t2:=pz b (2^mD b);split;exact SI n _ _ t1 I I I;exact SI n _ _ h1 ae I I
theorem Qm(c:a<=4096)(d:b<=4096):a|||b<=8191:=by
 have:=Nat.or_lt_two_pow (n:=13) (show a<2^13 by omega) (show b<2^13 by omega);omega
theorem aia(h:¬(a=0/\b=0)):0<a|||b:=by
 rcases Nat.eq_zero_or_pos (a|||b)with e|e;exact absurd (Nat.or_eq_zero_iff.1 e) h;exact e
theorem ajK{s:Nat}(b:a<=4096)(c:s<=13):a*2^s<=33554432:=mh b (Nat.pow_le_pow_right aH c:2^s<=2^13)
theorem abn(e:a<=4096)(c:b<=4096)(h:¬(a=0/\b=0)):1<=rD a b/\rD a b<=33554432:=by
 have d:=Qm e c;have hp:=aia h;unfold rD;split;omega;have⟨t1,_⟩:=Js (x:=a) I I;have t2:=pz a (2^mD a);have⟨_,t3⟩:=Js hp d;have⟨f,g⟩:=SI (a/2^mD a+b+1) _ b t1 I c I;exact⟨ana f (Nat.pow_pos aH),ajK g t3⟩
theorem abm a b h(t:a<=4096)(m:b<=4096)(p:wK h):Fn aD 149 #[eG a,eG b] h λv l=>v=eG (rD a b)/\l=h:=by
 refine bU ayw rfl ?_;obtain⟨U,d⟩:∃U,U=a|||b:=⟨_,rfl⟩;have o:∀(P:fk)(w:bD),(binOp .or 0 (eG a) (eG b)).run P w= .ok (eG U) w:=λP w=>by rw[d];exact aHv I I
 have g:=Qm t m;rw[<-d]at g;refine aW (λC=>?_) (λC=>?_);exact .mk _ o (.ag ⟨by show eG U=_;rw[rD,aS I,d],rfl⟩);refine aW (λA=>?_) (λA=>?_);exact .mk _ o (.ag ⟨by show eG U=_;rw[rD,aS I,d],rfl⟩);have r:0<U:=by rw[d];exact aia I
 have G:rD a b=wX (a/2^mD a+b+1) (a/2^mD a) b*2^mD U:=by rw[rD,aC I,d]
 rw[G];obtain⟨j,B⟩:=Js (x:=a) I I;obtain⟨_,i⟩:=Js r g;obtain⟨k,aK⟩:∃z,z=a/2^mD a:=⟨_,rfl⟩;rw[<-aK]at j⊢;have F:k<=4096:=by rw[aK];exact lf (pz _ _) t
 obtain⟨s,dy⟩:∃z,z=mD U:=⟨_,rfl⟩;rw[<-dy]at i⊢;refine .mk _ o (.ag (.mk _ (Yl U h r I p) ?_));rintro _ h1 ⟨rfl,rfl⟩;rw[<-dy];refine .ag (.mk _ (Yl a _ I I p) ?_);rintro _ h1 ⟨rfl,rfl⟩;refine .mk (eG k) (λP w=>by rw[aK];exact Eo I) (.mk (Nat×Nat) [0,1,5] (λ(x,y)=>[.v (eG x),.v (eG y),.v (R s)]) (λ_=>[]) (λ(x,y) l=>l=h1/\1<=x/\x<=4096/\y<=4096/\∃n,x+y<n/\wX n x y=wX (k+b+1) k b) (λ(x,y)=>x+y) (k,b) (λ_=>rfl) ⟨rfl,j,F,m,_,I,rfl⟩ rfl rfl ?_);rintro⟨x,y⟩ e l ⟨rfl,H,E,K,n,J,f⟩;refine aW (λq=>?_) (λq=>?_);cases n with
 |zero=>omega
 |succ n=>
  obtain⟨t1,t2⟩:=Js (x:=y) I I;have t3:=pz y (2^mD y);rw[wX,aC I]at f;obtain⟨c,av⟩:∃c,c=y/2^mD y:=⟨_,rfl⟩;rw[<-av]at t1 t3 f;refine .ag (.mk _ (Yl y _ I I p) ?_);rintro _ ae ⟨rfl,rfl⟩;refine .mk (eG c) (λP w=>by rw[av];exact Eo I) (aW (λD=>?_) (λD=>?_));refine .mk (eG (x-c)) (λP w=>akV I I) ?_;refine⟨(c,x-c),rfl,rfl,⟨rfl,t1,I,I,n,I,?_⟩,by show c+(x-c)<x+y;omega⟩;rw[<-f,aS I];refine .mk (eG (c-x)) (λP w=>akV I I) (⟨(x,c-x),rfl,rfl,⟨rfl,H,I,I,n,I,?_⟩,by show x+(c-x)<x+y;omega⟩);rw[<-f,aC I]
 have u:y=0:=I;subst u;have m:wX n x 0=x:=by
  cases n with
  |zero=>rfl
  |succ n=>rw[wX,aS rfl]
 rw[m]at f;exact .mk (eG (x*2^s)) (λP w=>aHx I (by have:=ajK E i;omega)) (.ag ⟨by show eG _=_;rw[f],rfl⟩)
def xj(k d:Nat):Nat:=if k=0\/d=0 then 0 else 1/rD 1 k*k/rD (1/rD 1 k*k) d*d
theorem age{k:Nat}(hk:k<=4096):1/rD 1 k*k<=4096:=by
 have h1:1/rD 1 k<=1:=pz _ _;have:=mh h1 hk;omega
theorem aAs{k d:Nat}(hk:k<=4096)(a:d<=4096):xj k d<=16777216:=by
 unfold xj;split;omega;have h1:=age hk;exact mh (lf (pz _ _) h1) a
theorem aAr(k d:Nat) B h(hk:k<=4096)(n:d<=4096)(x:wK h)(y:h B=some (bb #[R k,R d] 3 (0,0))):Fn aD 109 #[ab (some ⟨B,0,none⟩) 2 2] h λv l=>v=eA #[R (xj k d),dh true]/\l=h:=by
 refine bU ax2 rfl ?_;obtain⟨m1,hm⟩:∃z,z=1/rD 1 k*k:=⟨_,rfl⟩;have u:m1<=4096:=by rw[hm];exact age hk
 obtain⟨m2,c⟩:∃z,z=m1/rD m1 d*d:=⟨_,rfl⟩;have C:k≠0->d≠0->xj k d=m2:=λa b=>by rw[xj,aC I,c,hm]
 have f:k=0\/d=0->xj k d=0:=λa=>by rw[xj,aS a]
 refine .mk (Nat×Nat) [4,5,10,11,12] (λ(i,m)=>[.v (eG m),.v (dh true),.v (ab (some ⟨B,0,none⟩) 2 2),.v (R 2),.v (R i)]) (λ_=>[]) (λ(i,m) l=>l=h/\((i=0/\m=1)\/(i=1/\m=m1/\k≠0)\/(i=2/\m=m2/\k≠0/\d≠0))) (λ(i,_)=>2-i) (0,1) (λ_=>rfl) ⟨rfl,bQ ⟨rfl,rfl⟩⟩ rfl rfl ?_;have A:h.cell? ((oA B 0 none).add 0)=some (R k):=b1 y rfl;have c1:h.cell? ((oA B 0 none).add 1)=some (R d):=b1 y rfl;rintro⟨i,m⟩ e l ⟨rfl,g|g|g⟩;obtain⟨rfl,rfl⟩:=g;refine .r (.hp _ A (aW (λq=>?_) (λq=>?_)));exact .ag ⟨by rw[f (bQ I)];rfl,rfl⟩;obtain⟨D,j⟩:∃z,z=rD 1 k:=⟨_,rfl⟩;have o:=(abn (a:=1) (b:=k) I hk I).1;rw[<-j]at o hm;obtain⟨w,hw⟩:∃z,z=1/D:=⟨_,rfl⟩;have E:w<=1:=by rw[hw];exact pz _ _
 rw[<-hw]at hm;refine .mk _ (Jl k _ I) (λv ae q=>by rw[q.2];exact J.le_refl _) ?_;rintro _ _ ⟨rfl,rfl⟩;refine .mk _ (abm 1 k _ I hk x) (λv ae q=>by rw[q.2];exact J.le_refl _) ?_;rintro _ _ ⟨rfl,rfl⟩;rw[<-j];refine .mk (eG w) (λP bz=>by rw[hw];exact Re I I) (.mk _ (Jl k _ I) (λv ae q=>by rw[q.2];exact J.le_refl _) ?_);rintro _ _ ⟨rfl,rfl⟩;refine .mk _ (ahb w k _ I I) (λv ae q=>by rw[q.2];exact J.le_refl _) ?_;rintro _ _ ⟨rfl,rfl⟩;rw[<-hm];refine .bl ?_;have s:decide (((m1:Nat):Int)<=9223372036854775807)=true:=hr I;exact⟨(1,m1),by show[aN.v (eG m1),aN.v (dh (decide (((m1:Nat):Int)<=9223372036854775807))),_,_,_]=_;rw[s];rfl,rfl,⟨rfl,ba (bQ ⟨rfl,rfl,I⟩)⟩,by show 2-1<2-0;decide⟩;obtain⟨rfl,rfl,t⟩:=g;refine .r (.hp _ c1 (aW (λq=>?_) (λq=>?_)));exact .ag ⟨by rw[f (ba I)];rfl,rfl⟩;obtain⟨D,j⟩:∃z,z=rD m d:=⟨_,rfl⟩;have o:=(abn (a:=m) (b:=d) u n I).1;rw[<-j]at o c;obtain⟨w,hw⟩:∃z,z=m/D:=⟨_,rfl⟩;have E:w<=m:=by rw[hw];exact pz _ _
 rw[<-hw]at c;have p:m2<=4096*4096:=by rw[c];exact mh I n
 refine .mk _ (Jl d _ I) (λv ae q=>by rw[q.2];exact J.le_refl _) ?_;rintro _ _ ⟨rfl,rfl⟩;refine .mk _ (abm m d _ u n x) (λv ae q=>by rw[q.2];exact J.le_refl _) ?_;rintro _ _ ⟨rfl,rfl⟩;rw[<-j];refine .mk (eG w) (λP bz=>by rw[hw];exact Re I I) (.mk _ (Jl d _ I) (λv ae q=>by rw[q.2];exact J.le_refl _) ?_);rintro _ _ ⟨rfl,rfl⟩;refine .mk _ (ahb w d _ I I) (λv ae q=>by rw[q.2];exact J.le_refl _) ?_;rintro _ _ ⟨rfl,rfl⟩;rw[<-c];refine .bl ?_;have s:decide (((m2:Nat):Int)<=9223372036854775807)=true:=hr I;exact⟨(2,m2),by show[aN.v (eG m2),aN.v (dh (decide (((m2:Nat):Int)<=9223372036854775807))),_,_,_]=_;rw[s];rfl,rfl,⟨rfl,ba (ba ⟨rfl,rfl,t,I⟩)⟩,by show 2-2<2-1;decide⟩;obtain⟨rfl,rfl,t,pd⟩:=g;have p:m<=4096*4096:=by rw[c];exact mh (lf (pz _ _) u) n
 exact .mk I I (.ag ⟨by rw[C t pd];rfl,rfl⟩)
end Go.Sx
namespace Go.Sx
open Go.RowKit
set_option maxRecDepth 100000
set_option maxHeartbeats 0
set_option linter.all false
def Qu:Op->Option eC
 |.panic x=>some (bZ x)
 |_=>none
def Jw(P:fk)(n:Nat)(Q:mi):List cY->cg->List LE->J->Prop
 |[],e,L,h=>Q .normal e L h
 |U::r,e,L,h=>(match U.g,U.k with
  |none,.raw op=>(match Qu op with
   |some x=>(match x.get e with
    |.v (.iface t v)=>Q (.panic [{v:=.iface t v,recovered:=false}]) e L h
    |_=>False)
   |none=>iu P n U e L h λe L h=>Jw P n Q r e L h)
  |_,_=>iu P n U e L h λe L h=>Jw P n Q r e L h)
def GP(P:fk)(n:Nat):IR->mi->cg->List LE->J->Prop
 |.seq a b,Q,e,L,h=>GP P n a (λx e L h=>match x with|.normal=>GP P n b Q e L h|x=>Q x e L h) e L h
 |.cond c x y,Q,e,L,h=>(match c.get e with
  |.v (.bool b)=>gw b (GP P n x Q (Av e c true) L h) (GP P n y Q (Av e c false) L h)
  |_=>False)
 |.ck ops,Q,e,L,h=>Jw P n Q ops e L h
 |pj,Q,e,L,h=>dq P n pj Q e L h
section
variable {P:fk}{am:J}{bh:bD}{n:Nat}{β:Nat->Nat}{L:List LE}{h:J}{e:cg}{a:Act}{w:bD}
theorem aAY{U op:Op}(h:bW P U= .raw op)(a:Qu op≠none):U=op:=by
 cases U<;>simp only[bW]at h<;>(try cases h;rfl)<;>exfalso<;>revert h<;>(repeat' split)<;>intro h<;>cases h<;>simp[Qu]at a
theorem ali{ops:Array Oper}{Q:mi}:∀l β e L h a w,dm am bh β L h w->dF n β L e a->ei L->Jw P n Q (l.map (gz P ops)) e L h->wpList P ops (lift am bh n Q) l a w
 |[],β,e,L,h,a,w,m,r,c,hp=>⟨β,e,L,h,m,r,c,hp⟩
 |U::l,β,e,L,h,a,w,m,r,c,hp=>by
  have p:=ali (ops:=ops) (Q:=Q) l;refine wpList_step λnext u=>?_
  have plain:iu P n (gz P ops U) e L h (λe L h=>Jw P n Q (l.map (gz P ops)) e L h)->if ih U (yielded ops a.tmps)then U.wp P a w next (lift am bh n Q)else next (a.put U.dst fS) w:=λhp=>MU (λβ e L h a w _ m r c hk=>u _ _ (p β e L h a w m r c hk)) m r c hp
  rw[er]at hp;unfold Jw at hp;split at hp;rename_i op f hk;split at hp;rename_i x d;split at hp;rename_i t v k;unfold gz at hk f;cases i:yE ops U.guard with
  |none=>grind
  |some z=>
   rw[i]at hk f;simp only at hk f;subst f;have g:U.guard=none:=by
    cases g:U.guard with
    |none=>rfl
    |some s=>
     obtain⟨o,b⟩:=s;rw[g]at i
     grind [yE]
   have j:U.op=op:=aAY hk aL;have hw:ih U (yielded ops a.tmps)=true:=by simp[ih,g]
   rw[aS hw];cases op with
   |panic y=>
    simp only[Qu]at d;injection d with d;subst d;have q:a.eval y= .iface t v:=by rw[r.eval,k];rfl
    unfold Oper.wp;have:(dD a.eval U).run P w= .halt (.panic (.iface t v)) w:=by simp[dD,j,q,Instr.panic]
    rw[this,Oper.upon_panic];exact⟨β,e,L,h,m,r,c,hp⟩
   |_=>cases d
  grind
  grind
  grind
theorem aHR{cu:List Nat}(F:P.follows .mixedOrders=true):∀c Q β e L h a w,dm am bh β L h w->dF n β L e a->ei L->GP P n (lower P cu c) Q e L h->c.wp P (lift am bh n Q) a w:=by
 intro c;have i:∀(c:Code)(Q:mi) β e L h a w,dm am bh β L h w->dF n β L e a->ei L->dq P n (lower P cu c) Q e L h->c.wp P (lift am bh n Q) a w:=λc Q β e L h a w m r g hp=>Rm F c Q β e L h a w m r g hp;induction c with
 |seq x y j k=>
  intro Q β e L h a w m r g hp;refine wp_seq (yV (j _ β e L h a w m r g hp) ?_);rintro ex E bz ⟨z,v,s,p,u,A,B,o⟩;cases ex with
  |normal=>exact k Q z v s p E bz u A B o
  |_=>exact⟨z,v,s,p,u,A,B,o⟩
 |region id ops d=>
  intro Q β e L h a w m r g hp;cases d with
  |false=>exact wp_region_list (ali ops.toList β e L h a w m r g hp)
  |true=>
   refine i _ Q β e L h a w m r g ?_;simp only[lower]at hp⊢;split at hp;rename_i l;rw[aS l];exact hp;rename_i l;rw[aC l];exact hp
 |cond c x y j k=>
  intro Q β e L h a w m r g hp;simp only[lower,GP]at hp;split at hp;rename_i b q;have av:=r.eval c;rw[q]at av;have C:Av e (bZ c) b=e:=by
   cases c with
   |tmp t=>exact nY q
   |_=>rfl
  cases b with
  |true=>
   simp only[gw]at hp;rw[C]at hp;exact wp_cond_true av (j Q β e L h a w m r g hp)
  |false=>
   simp only[gw]at hp;rw[C]at hp;exact wp_cond_false av (k Q β e L h a w m r g hp)
  grind
 |skip=>exactλQ β e L h a w m r g hp=>i _ Q β e L h a w m r g hp
 |block=>exactλQ β e L h a w m r g hp=>i _ Q β e L h a w m r g hp
 |loop=>exactλQ β e L h a w m r g hp=>i _ Q β e L h a w m r g hp
 |rangeFunc f D x y=>intro Q β e L h a w m r g hp;cases D;exact i _ Q β e L h a w m r g hp
 |exit=>exactλQ β e L h a w m r g hp=>i _ Q β e L h a w m r g hp
 |scope=>exactλQ β e L h a w m r g hp=>i _ Q β e L h a w m r g hp
 |label=>exactλQ β e L h a w m r g hp=>i _ Q β e L h a w m r g hp
 |goto=>exactλQ β e L h a w m r g hp=>i _ Q β e L h a w m r g hp
 |ret=>exactλQ β e L h a w m r g hp=>i _ Q β e L h a w m r g hp
 |refuse=>exactλQ β e L h a w m r g hp=>i _ Q β e L h a w m r g hp
theorem Ew.intro{cu:List Nat}{f:FuncId}{fn:Func}{c:Code}{pj:IR}{args:List aA}{h:J}{v:aA}(C:P.follows .mixedOrders=true)(g:P.funcs[f]?=some fn)(u:fn.body=some c)(k:(fn.name== "runtime.NumGoroutine")=false)(q:fn.ntmps=n)(j:lower P cu c=pj)(B:qQ args.length n=true)(A:GP P n pj (λx _ _ d=>match x with|.panic b=>b=[{v:=v,recovered:=false}]/\d=h|_=>False) (tm args) [] h):Ew P f args.toArray h v:=by
 refine⟨⟨fn,g,aL,k⟩,λw hw=>?_⟩;subst j;subst q;refine calls_of_wp g u ?_;have m:dm h w (λ_=>0) [] h w:=⟨⟨hw,(λi l al=>by cases al)⟩,(λi l al=>by cases al),(λi o l cC al=>by cases al),(λi l al=>by cases al),(λi l al=>by cases al),rfl,rfl,rfl,dM _,(λ_ _ _=>rfl),(λo s=>.inl s)⟩;have r:ei []:=λi cs ty t=>by cases t
 have y:=aHR C (am:=h) (bh:=w) (n:=fn.ntmps) c _ (λ_=>0) (tm args) [] h _ w m (KE (Nat.le_of_ble_eq_true B) _) r A;refine yV y ?_;rintro ex D bz ⟨β,e,L,d,a,z,E,p⟩;cases ex with
 |panic b=>
  obtain⟨rfl,rfl⟩:=p;exact⟨z.defers,rfl,a.cJ.hw,a.os,a.tape,a.output,a.size,a.frame,a.fresh⟩
 |_=>grind
end
end Go.Sx
namespace Go.Sx
open Go.Proofs
set_option maxRecDepth 100000
set_option maxHeartbeats 0
set_option linter.all false
variable {am cE h:J}{dL:List Bool}{fY gZ hl left:List Nat}{sp:List aA}{ad:List b2}{N b bx cl dst g g9 gt gw iG m u v x y:Nat}{L:Nat->Nat->Prop}{f:Nat->aA}{p:Nat×Nat}{α:Type}{V z:aA}
theorem avJ x y:Idle aD 151 #[x,y]:=by
 refine⟨⟨_,anA,rfl,aH⟩,λw=>aaO anA rfl λa cs hu=>?_⟩;have b:Mr (a::cs)=none:=by simp[Mr,hu]
 apply MX;apply MW;simp[MV,go_sem,b,Tryz.ntmps151,JH];apply MX;apply MW;simp[MV,go_sem,JH];exact alk (t:=false) dW (alm (wp_skip (⟨rfl,_,by rw[<-hu],eA #[],by simp[results,Tryz.results151],⟨_,rfl⟩,rfl,.refl w⟩)))
def q9(a b:Nat):Bool:=decide (w' a b=0)&&decide (a*b%18446744073709551616<=9223372036854775807)
def uW(a b:Nat):Nat:=a*b%18446744073709551616
theorem aha(a b:Nat) h(j:a<9223372036854775808)(k:b<9223372036854775808):Fn aD 191 #[R a,R b] h λv i=>v=(if q9 a b=true then eA #[R (uW a b),dh true]else eA #[R 0,dh false])/\i=h:=by
 refine bU afO rfl ?_;have e:=Wi a b h I I;obtain⟨c,av⟩:∃c,c=uW a b:=⟨_,rfl⟩;obtain⟨d,f⟩:∃c,c=w' a b:=⟨_,rfl⟩;have bs:q9 a b=(decide (d=0)&&decide (c<=9223372036854775807)):=by rw[q9,f,av];rfl
 rw[<-av,bs];rw[<-f,show a*b%18446744073709551616=c by rw[av];rfl]at e;refine .ag (.mk _ (Jl a h I) ?_);rintro _ _ ⟨rfl,rfl⟩;refine .ag (.mk _ (Jl b _ I) ?_);rintro _ _ ⟨rfl,rfl⟩;refine .ag (.mk _ e ?_);rintro _ _ ⟨rfl,rfl⟩;refine aW (λq=>?_) (λq=>?_);exact .ag ⟨by rw[jn (show¬d=0 by omega)];rfl,rfl⟩;refine aW (λg=>?_) (λg=>?_);exact .ag ⟨by rw[jn (show¬c<=9223372036854775807 by omega),YP];rfl,rfl⟩;exact .mk I I (.ag ⟨by rw[hr (show d=0 by omega),hr (show c<=9223372036854775807 by omega)];rfl,rfl⟩)
theorem aky a b h(c:a<9223372036854775808)(e:b<9223372036854775808)(f:q9 a b=true):Fn aD 156 #[R a,R b] h λv d=>v=R (uW a b)/\d=h:=by
 have m:=aha a b h c e;rw[aS f]at m;refine bU afJ rfl (.ag (.mk _ m ?_));rintro _ _ ⟨rfl,rfl⟩;exact .ag ⟨rfl,rfl⟩
theorem aqR{w:bD}:wu aD (.makeInterface 51 (.const (.int .i64 4))) [.int .i64 4] w (.iface 51 (.int .i64 4)) w:=by
 intro c q a b;simp_all[He,dD,a,b,Instr.makeInterface]
theorem abk a b h(c:a<9223372036854775808)(d:b<9223372036854775808)(e:q9 a b=false):Ew aD 156 #[R a,R b] h (.iface 51 (.int .i64 4)):=by
 have m:=aha a b h c d;rw[e]at m;refine Ew.intro (args:=[R a,R b]) IK Tryz.func156 rfl aH Tryz.ntmps156 (afJ.low rfl) rfl (.ag (.mk _ m ?_));rintro _ _ ⟨rfl,rfl⟩;exact .ag (.mk _ (λw _=>aqR) (⟨rfl,rfl⟩))
theorem ajN n h(b:n<9223372036854775808):Fn aD 189 #[dh false,eG n] h λv a=>v=R n/\a=h:=by
 refine bU ayP rfl (aW (λq=>?_) (λq=>I));exact .mk I I (.ag ⟨rfl,rfl⟩)
def zw(n d:Nat):aA:=.agg #[R n,R d]
theorem V9 a b h(f:a<9223372036854775808)(j:b<9223372036854775808)(am:0<b):Fn aD 152 #[dh false,eG a,eG b] h λv i=>v=zw (a/iF a b) (b/iF a b)/\h.le i:=by
 refine bU ayx rfl ?_;have k:0<iF a b:=Sb a am;obtain⟨g,e⟩:∃g,g=iF a b:=⟨_,rfl⟩;rw[<-e]at k⊢;have m:=pz a g;have l:=pz b g;obtain⟨x,d⟩:∃x,x=a/g:=⟨_,rfl⟩;obtain⟨y,c⟩:∃x,x=b/g:=⟨_,rfl⟩;rw[<-d]at m;rw[<-c]at l;rw[<-d,<-c];refine .ag (.mk _ (aa7 a b h f j) ?_);rintro _ _ ⟨rfl,rfl⟩;rw[<-e];refine .mk (eG x) (λP w=>by rw[d];exact Re I I) (.mk (eG y) (λP w=>by rw[c];exact Re I I) (.mk _ (ajN x _ I) (λv ae q=>by rw[q.2];exact J.le_refl _) ?_));rintro _ _ ⟨rfl,rfl⟩;refine .mk _ (ajN y _ I) (λv ae q=>by rw[q.2];exact J.le_refl _) ?_;rintro _ _ ⟨rfl,rfl⟩;exact .ag ⟨rfl,J.le_refl _⟩
def oy(n d:Nat):Bool:=decide (0<d)&&decide (iF n d=1)
theorem aHE n d h(b:n<9223372036854775808)(c:d<9223372036854775808):Fn aD 190 #[zw n d] h λv a=>v=dh (oy n d)/\a=h:=by
 refine bU ayQ rfl (aW (λq=>?_) (λq=>?_));refine .mk _ (Eb n h I) (λv ae q=>by rw[q.2];exact J.le_refl _) ?_;rintro _ _ ⟨rfl,rfl⟩;refine .mk _ (Eb d _ I) (λv ae q=>by rw[q.2];exact J.le_refl _) ?_;rintro _ _ ⟨rfl,rfl⟩;refine .mk _ (aa7 n d _ I I) (λv ae q=>by rw[q.2];exact J.le_refl _) ?_;rintro _ _ ⟨rfl,rfl⟩;refine .ag ⟨?_,rfl⟩;show dh (decide ((iF n d:Int)=1))=_;rw[oy,hr (show 0<d by omega),AP];congr 1
 grind
 refine .ag ⟨?_,rfl⟩;rw[oy,jn (show¬0<d by omega),Cv];rfl
theorem ase(l:List (Nat×Nat)):∀r∈l.map (λp=>[R p.1,R p.2]),r.length=2:=by
 grind
theorem aEq A m c(l:List (Nat×Nat)) h(d:bg h 2 A m (l.map λp=>[R (p.1:Nat),R (p.2:Nat)]))(hm:m<=1000)(n:∀p∈l,p.1<9223372036854775808/\p.2<9223372036854775808):Fn aD 154 #[ab A m c] h λv a=>v=dh (l.all λp=>oy p.1 p.2)/\h.le a:=by
 have al:l.length=m:=by have:=d.len;grind
 refine bU ayz rfl (.mk Nat [5,6,7] (λk=>[.v (ab A m c),.v (R m),.v (R k)]) (λ_=>[]) (λk a=>h.le a/\k<=m/\∀p∈l.take k,oy p.1 p.2=true) (λk=>m-k) 0 (λ_=>rfl) ⟨J.le_refl _,cU _,bc⟩ rfl rfl (λk e a⟨le,hk,i⟩=>aW (λq=>?_) (λq=>?_)));have b:k<l.length:=I;obtain⟨g,f⟩:=d.b4 I;have hp:=n l[k] (b3 b);refine .m g f (.hp [R l[k].1,R l[k].2] rfl (by rw[bn];exact(d.mono le).row f (jx b)) (.ag (.mk _ (aHE l[k].1 l[k].2 _ hp.1 hp.2) ?_)));rintro _ _ ⟨rfl,rfl⟩;cases j:oy l[k].1 l[k].2;refine .ag ⟨?_,le⟩;have:(l.all λp=>oy p.1 p.2)=false:=RT.2 ⟨l[k],b3 b,aL⟩;rw[this];rfl;refine .bl ?_;refine⟨k+1,rfl,rfl,⟨le,I,λp hp=>?_⟩,I⟩;rw[List.take_add_one,bK b]at hp
 grind
 refine .ag ⟨?_,le⟩;rw[mJ I]at i;rw[se.2 λp hp=>i p hp];rfl
theorem aiF{a b:Nat}{c f:Obj}(d:(h.put a c) b=none):((h.put a c).put b f) a=some c:=by
 have:a≠b:=λe=>by rw[<-e,J.b8]at d;cases d
 rw[J.cD _ _ this,J.b8]
theorem lK{a:J}{U:Obj}(d:h b=none)(le:h.le a):h.le (a.put b U):=λo p c=>by
 have:o≠b:=λe=>by grind
 rw[J.cD _ _ this];exact le o p c
theorem WB{c b:Nat}{d:Obj}(a:(h.put c d) b=none):h b=none:=by
 have:b≠c:=λe=>by rw[e,J.b8]at a;cases a
 rwa[J.cD _ _ this]at a
theorem aBZ(n d:Nat) h(l:n<9223372036854775808)(r:d<9223372036854775808)(am:0<d):Fn aD 110 #[R n,R d] h λv m=>v=eA #[zw (n/iF n d) (d/iF n d),R 0]/\h.le m:=by
 refine al6.intro (args:=[R n,R d]) IK Tryz.func110 rfl aH Tryz.ntmps110 rfl (ax3.low rfl) rfl ?_;have u:0<iF n d:=Sb n am;obtain⟨x,f⟩:∃x,x=n/iF n d:=⟨_,rfl⟩;obtain⟨y,c⟩:∃x,x=d/iF n d:=⟨_,rfl⟩;rw[<-f,<-c];refine aW (λq=>I) (λq=>.mk λi j=>.mk λg a=>⟨avJ _ _,?_⟩);have k:=WB a;refine .ag (.mk _ (Eb n _ I) ?_);rintro _ _ ⟨rfl,rfl⟩;refine .ag (.mk _ (Eb d _ I) ?_);rintro _ _ ⟨rfl,rfl⟩;refine .ag (.mk _ (V9 n d _ l r am) ?_);rintro _ s ⟨rfl,b⟩;rw[<-f,<-c];have le:h.le s:=J.le_trans (J.le_trans (J.d' j) (J.d' a)) b;refine .hp i 0 167 [R 0,R 0] [R x,R y] rfl (b _ _ (aiF a)) rfl (.hp g 0 51 [R 0] [R 0] rfl (by rw[J.cD _ _ (λe=>by rw[e,J.b8]at a;cases a)];exact b _ _ (J.b8 _ _ _)) rfl ?_);have t:i≠g:=λe=>by rw[<-e,J.b8]at a;cases a
 exact .hp [R x,R y] rfl (λo v p=>by rw[add_lit,dZ];exact b1 (by rw[J.cD _ _ t,J.b8]) p) (.hp _ (b1 (J.b8 _ _ _) rfl) (.ag ⟨rfl,lK k (lK j le)⟩))
def tM(p q:Nat×Nat):Option (Nat×Nat):=
 if q9 (p.1/iF p.1 q.2) (q.1/iF q.1 p.2)&&q9 (q.2/iF p.1 q.2) (p.2/iF q.1 p.2)then some (uW (p.1/iF p.1 q.2) (q.1/iF q.1 p.2),uW (q.2/iF p.1 q.2) (p.2/iF q.1 p.2))else none
theorem aBy{n d:Nat}(a:n<9223372036854775808)(b:d<9223372036854775808):tM (1,1) (n,d)=some (n,d):=by
 have h1:q9 1 n=true:=by simp[q9,aug a];omega
 have ae:q9 d 1=true:=by simp[q9,auh b];omega
 simp[tM,h1,ae,uW];omega
theorem avK x y:Idle aD 155 #[x,y]:=by
 refine⟨⟨_,Sn,rfl,aH⟩,λw=>aaO Sn rfl λa cs hu=>?_⟩;have b:Mr (a::cs)=none:=by simp[Mr,hu]
 apply MX;apply MW;simp[MV,go_sem,b,anR,JH];apply MX;apply MW;simp[MV,go_sem,JH];exact alk (t:=false) dW (alm (wp_skip (⟨rfl,_,by rw[<-hu],eA #[],by simp[results,anT],⟨_,rfl⟩,rfl,.refl w⟩)))
theorem CM.mono{P:fk}{d:Deferred}{v:aA}{h:J}{Q b:J->Prop}(x:CM P d v h Q)(y:∀a,Q a->b a):CM P d v h b:=by
 obtain⟨g,cap,h1,ae,c⟩:=x;refine⟨g,cap,h1,ae,λw hw=>CallsD.mono (c w hw) ?_⟩
 grind
theorem aiX c a r x y z h(H:r=#[R x,R y])(am:h c=some (bb r 167 (0,0)))(h1:h a=some (bb #[R z] 51 (0,0)))(D:c≠a):CM aD {target:=.fn (.func 155) #[gR (some ⟨c,0,none⟩),gR (some ⟨a,0,none⟩)],args:=#[]} (.iface 51 (.int .i64 4)) h λj=>j=(h.put c (bb #[R 0,R 0] 167 (0,0))).put a (bb #[R 4] 51 (0,0)):=by
 subst H;refine⟨155,_,rfl,⟨_,Sn,rfl,aH⟩,λw hw=>?_⟩;have f:=afI.low (b:=_) rfl;refine aaO Sn rfl λq cs hu=>?_;have C:Mr (q::cs)=some (.iface 51 (.int .i64 4),{q with mode:=.panicking [{v:=.iface 51 (.int .i64 4),recovered:=true}]}::cs):=by simp[Mr,hu]
 apply MX;apply MW;simp[MV,go_sem,C,anR,JH];apply MX;apply MW;simp[MV,go_sem,JH];injection f with _ f;injection f with _ f;injection f with _ f _;refine alk (t:=true) dW ?_;simp only[mO];refine alm ?_;generalize s:(#[gR (some ⟨c,0,none⟩),gR (some ⟨a,0,none⟩)]++((((Array.replicate 5 fS).setIfInBounds 1 (Value.iface 51 (.int .i64 4))).setIfInBounds 0 (.iface 51 (.int .i64 4))).setIfInBounds 2 (.iface 51 (.int .i64 4))).setIfInBounds 3 (dh true))=T;have B:T.size=7:=aL;have t0:T.getD 0 fS=gR (some ⟨c,0,none⟩):=by simp[<-s]
 have t1:T.getD 1 fS=gR (some ⟨a,0,none⟩):=by simp[<-s]
 obtain⟨d,he⟩:∃d:cg,d=λt=>aN.v (T.getD t fS):=⟨_,rfl⟩;have k:d 0= .v (gR (some ⟨c,0,none⟩)):=aL;have I:d 1= .v (gR (some ⟨a,0,none⟩)):=aL;have G:dF 7 (λ_=>0) [] d {tmps:=T,defers:=[]}:=⟨rfl,B,λt=>by rw[he];rfl,λt=>by rw[he];trivial⟩;have F:d=jR (jR d 1 (.v (gR (some ⟨a,0,none⟩)))) 0 (.v (gR (some ⟨c,0,none⟩))):=by rw[nY I,nY k]
 have m:dm h w (λ_=>0) [] h w:=⟨⟨hw,(λi l al=>by cases al)⟩,(λi l al=>by cases al),(λi o l cC al=>by cases al),(λi l al=>by cases al),(λi l al=>by cases al),rfl,rfl,rfl,dM _,(λ_ _ _=>rfl),(λo u=>bQ u)⟩;have p:dq aD 7 (.ck afg) (λx _ _ j=>x= .normal/\j=(h.put c (bb #[R 0,R 0] 167 (0,0))).put a (bb #[R 4] 51 (0,0))) d [] h:=by
  rw[F];exact .hp c 0 167 [R x,R y] [R 0,R 0] rfl am rfl (.hp a 0 51 [R z] [R 4] rfl (by rw[J.cD _ _ (eh D)];exact h1) rfl (⟨rfl,rfl⟩))
 rw[<-show _=IR.ck afg from f]at p;have n:=Rm IK _ _ _ _ _ _ _ _ m G (λi cs ty A=>by cases A) p;refine yV n ?_;rintro ex K bz ⟨β,e,L,j,g,E,M,rfl,rfl⟩;exact⟨E.defers,_,rfl,eA #[],by simp[results,anT],⟨_,rfl⟩,rfl,⟨g.cJ.hw,g.os,g.tape,g.output,g.size,g.frame,g.fresh⟩⟩
theorem aBv(B:Nat)(c d1 f d2:Nat)(h:J)(cy:h B=some (bb #[R c,R d1,R f,R d2] 167 (0,0)))(h1:c<9223372036854775808)(ae:d1<9223372036854775808)(ax:f<9223372036854775808)(aT:d2<9223372036854775808):Fn aD 111 #[ab (some ⟨B,0,none⟩) 2 2] h λv D=>h.le D/\v=if(oy c d1&&oy f d2)=true then(match tM (c,d1) (f,d2)with|some r=>eA #[zw r.1 r.2,R 0]|none=>eA #[zw 0 0,R 4])else eA #[zw 0 0,R 1]:=by
 refine al7.intro (args:=[ab (some ⟨B,0,none⟩) 2 2]) IK Tryz.func111 rfl aH Tryz.ntmps111 rfl (ax4.low rfl) rfl ?_;have W:bg h 2 (some ⟨B,0,none⟩) 2 ([(c,d1),(f,d2)].map λp:Nat×Nat=>[R (p.1:Nat),R (p.2:Nat)]):=by
  refine⟨rfl,ase _,λ_=>⟨_,rfl⟩,λg T i r aq o v y=>?_⟩;injection T with T;subst T;rw[add_lit,dZ];refine b1 cy ?_
  grind
 have aq:=aEq _ _ 2 _ h W aH aL;have U:=aBy h1 ae;refine .ag (.mk _ aq ?_);rintro _ cr ⟨rfl,G⟩;have c8:([(c,d1),(f,d2)].all λp=>oy p.1 p.2)=(oy c d1&&oy f d2):=bc;rw[c8];cases y:(oy c d1&&oy f d2);exact .ag ⟨G,rfl⟩;have K6:0<d1:=by
  grind [oy]
 have l9:0<d2:=by
  grind [oy]
 refine .mk λj A=>.mk λz F=>⟨avK _ _,?_⟩;have N:=WB F;have w:j≠z:=λe=>by rw[<-e,J.b8]at F;cases F
 refine .hp j 0 167 [R 0,R 0] [R 1,R 1] rfl (aiF F) rfl (.mk (Nat×Nat×Nat) [2,3,14,15,16] (λ(i,_,_)=>[.p 0 0,.p 1 0,.v (ab (some ⟨B,0,none⟩) 2 2),.v (R 2),.v (R i)]) (λ_=>[.b5 j,.b5 z]) (λ(i,a,b) D=>cr.le D/\D j=some (bb #[R a,R b] 167 (0,0))/\D z=some (bb #[R 0] 51 (0,0))/\((i=0/\a=1/\b=1)\/(i=1/\a=c/\b=d1)\/(i=2/\tM (c,d1) (f,d2)=some (a,b)))) (λ(i,_,_)=>2-i) (0,1,1) (λ_=>rfl) ⟨?_,J.b8 _ _ _,?_,bQ ⟨rfl,rfl,rfl⟩⟩ rfl rfl ?_);exact lK A (J.le_trans (J.d' A) (J.d' F));rw[J.cD _ _ (eh w),J.b8];rfl;rintro⟨i,a,b⟩ e eX ⟨Z,C,lu,ai⟩;have hd:=J.le_trans G Z;refine aW (λq=>?_) (λq=>?_)
 .obtain⟨n,d,aZ,aj,aF,ar,V,pd,j1,zI⟩:∃n d:Nat,a<9223372036854775808/\b<9223372036854775808/\n<9223372036854775808/\d<9223372036854775808/\0<b/\0<d/\(∀o v,[R n,R d][o]?=some v->eX.cell? (((oA B 0 none).add (i*2)).add o)=some v)/\((i=0/\tM (a,b) (n,d)=some (c,d1))\/(i=1/\tM (a,b) (n,d)=tM (c,d1) (f,d2))):=by
   rcases ai with⟨rfl,rfl,rfl⟩|⟨rfl,rfl,rfl⟩|⟨rfl,_⟩;exact⟨c,d1,aH,aH,h1,ae,aH,K6,λo v S=>(W.mono hd).row rfl (i:=0) rfl o v S,bQ ⟨rfl,U⟩⟩;exact⟨f,d2,h1,ae,ax,aT,K6,l9,λo v S=>(W.mono hd).row rfl (i:=1) rfl o v S,ba ⟨rfl,rfl⟩⟩;omega
  obtain⟨s,P⟩:∃x,x=a/iF a d:=⟨_,rfl⟩;obtain⟨k,Q⟩:∃x,x=d/iF a d:=⟨_,rfl⟩;obtain⟨l,X⟩:∃x,x=n/iF n b:=⟨_,rfl⟩;obtain⟨m,Y⟩:∃x,x=b/iF n b:=⟨_,rfl⟩;have cN:s<=a:=by rw[P];exact pz _ _
  have cG:k<=d:=by rw[Q];exact pz _ _
  have hG:l<=n:=by rw[X];exact pz _ _
  have iI:m<=b:=by rw[Y];exact pz _ _
  have w2:tM (a,b) (n,d)=if q9 s l&&q9 k m then some (uW s l,uW k m)else none:=by rw[P,Q,X,Y];rfl
  refine .r (.hp [R n,R d] rfl aL (.hp (R a) (b1 C rfl) (.hp (R a) (b1 C rfl) (⟨?_,?_⟩))));all_goals refine .mk _ (Eb a _ I) (λv ae q=>by rw[q.2];exact J.le_refl _) ?_
  all_goals rintro _ _ ⟨rfl,rfl⟩
  all_goals conv=>whnf
  all_goals try refine⟨?_,?_⟩
  all_goals refine .mk _ (Eb d _ I) (λv ae q=>by rw[q.2];exact J.le_refl _) ?_
  all_goals rintro _ _ ⟨rfl,rfl⟩
  all_goals conv=>whnf
  all_goals try refine⟨?_,?_⟩
  all_goals refine .mk _ (V9 a d _ I I pd) (λv ae q=>q.2) ?_
  all_goals rintro _ K ⟨rfl,L⟩
  all_goals rw[<-P,<-Q]
  all_goals conv=>whnf
  all_goals refine .hp (R b) (b1 (L _ _ C) rfl) ?_
  all_goals conv=>whnf
  all_goals refine⟨?_,?_⟩
  all_goals refine .mk _ (Eb n _ I) (λv ae q=>by rw[q.2];exact J.le_refl _) ?_
  all_goals rintro _ _ ⟨rfl,rfl⟩
  all_goals conv=>whnf
  all_goals try refine⟨?_,?_⟩
  all_goals refine .mk _ (Eb b _ I) (λv ae q=>by rw[q.2];exact J.le_refl _) ?_
  all_goals rintro _ _ ⟨rfl,rfl⟩
  all_goals conv=>whnf
  all_goals try refine⟨?_,?_⟩
  all_goals refine .mk _ (V9 n b _ I I V) (λv ae q=>q.2) ?_
  all_goals rintro _ tt ⟨rfl,sR⟩
  all_goals rw[<-X,<-Y]
  all_goals conv=>whnf
  all_goals have O:=sR _ _ (L _ _ C)
  all_goals have d8:=sR _ _ (L _ _ lu)
  all_goals have M:=J.le_trans Z (J.le_trans L sR)
  all_goals by_cases f1:q9 s l=true
  all_goals first
   |(
    refine .go ?_
    refine .mk _ (aky s l _ I I f1) (λv ae q=>by rw[q.2];exact J.le_refl _) ?_
    rintro _ _ ⟨rfl,rfl⟩
    by_cases f2:q9 k m=true
    refine .go ?_
    refine .mk _ (aky k m _ I I f2) (λv ae q=>by rw[q.2];exact J.le_refl _) ?_
    rintro _ _ ⟨rfl,rfl⟩
    refine .hp j 0 167 [R a,R b] [R (uW s l),R (uW k m)] rfl O rfl ?_
    refine .bl ?_
    rw[f1,f2]at w2
    refine⟨(i+1,uW s l,uW k m),rfl,rfl,⟨lK A M,J.b8 _ _ _,by rw[J.cD _ _ (eh w)];exact d8,?_⟩,aL⟩
    grind
    have f2:q9 k m=false:=aL
    refine .die 156 _ [R k,R m] _ rfl rfl rfl (abk k m _ I I f2) ?_
    intro t H
    have g2:t 2= .p 0 0:=(H 2 aH).trans rfl
    have g3:t 3= .p 1 0:=(H 3 aH).trans rfl
    rw[show t=jR (jR t 3 (.p 1 0)) 2 (.p 0 0) by rw[nY g3,nY g2]]
    refine⟨rfl,?_⟩
    refine CM.mono (aiX j z _ a b 0 _ rfl O d8 w) ?_
    rintro _ rfl
    refine .hp [R 0,R 0] rfl (λo v y=>by rw[add_lit,dZ];exact b1 (by rw[J.cD _ _ w,J.b8]) y) ?_
    refine .hp (R 4) (b1 (J.b8 _ _ _) rfl) ?_
    refine .ag ⟨J.le_trans G (lK N (lK A M)),?_⟩
    rcases zI with⟨_,u⟩|⟨_,u⟩
    grind
    rw[w2,f2,YP]at u;rw[<-u];rfl)
   |(
    have f1:q9 s l=false:=by grind
    refine .die 156 _ [R s,R l] _ rfl rfl rfl (abk s l _ I I f1) (λt H=>?_)
    have g2:t 2= .p 0 0:=(H 2 aH).trans rfl
    have g3:t 3= .p 1 0:=(H 3 aH).trans rfl
    rw[show t=jR (jR t 3 (.p 1 0)) 2 (.p 0 0) by rw[nY g3,nY g2]]
    refine⟨rfl,(CM.mono (aiX j z _ a b 0 _ rfl O d8 w) ?_)⟩
    rintro _ rfl
    refine .hp [R 0,R 0] rfl (λo v y=>by rw[add_lit,dZ];exact b1 (by rw[J.cD _ _ w,J.b8]) y) (.hp (R 4) (b1 (J.b8 _ _ _) rfl) (.ag ⟨J.le_trans G (lK N (lK A M)),?_⟩))
    rcases zI with⟨_,u⟩|⟨_,u⟩
    grind
    rw[w2,f1,Cv]at u;rw[<-u];rfl)
 have:i=2/\tM (c,d1) (f,d2)=some (a,b):=by
  grind
 obtain⟨rfl,tk⟩:=this;rw[tk];have E:∀K:J,K j=some (bb #[R a,R b] 167 (0,0))->∀(o:Nat)(v:aA),[R a,R b][o]?=some v->K.cell? ((oA j 0 none).add o)=some v:=λK u o v y=>by rw[add_lit,dZ];exact b1 u y
 exact .hp [R a,R b] rfl (E _ C) (.hp j 0 167 [R a,R b] [R a,R b] rfl C rfl (.hp z 0 51 [R 0] [R 0] rfl (by rw[J.cD _ _ (eh w)];exact lu) rfl (.hp [R a,R b] rfl (E _ (by rw[J.cD _ _ w,J.b8])) (.hp (R 0) (b1 (J.b8 _ _ _) rfl) (.ag ⟨J.le_trans G (lK N (lK A Z)),rfl⟩)))))
def mC(p:Nat×Nat)(x y:Nat):(Nat×Nat)×Bool:=
 if oy p.1 p.2&&oy (x/iF x y) (y/iF x y)then(match tM p (x/iF x y,y/iF x y)with
  |some m=>(m,decide (m.1<=4096)&&decide (m.2<=4096))
  |none=>((0,0),false))else((0,0),false)
def AN(p:Nat×Nat):Prop:=p.1<9223372036854775808/\p.2<9223372036854775808
theorem aBx{q m:Nat×Nat}(h:tM p q=some m):AN m:=by
 unfold tM at h;split at h;rename_i a;simp[q9]at a;injection h with h;subst h;unfold uW AN;omega
 grind
theorem aGz p x y:AN (mC p x y).1:=by
 unfold mC;split;split;rename_i h;exact aBx h;exact⟨aH,aH⟩;exact⟨aH,aH⟩
theorem aGA(h:(mC p x y).2=true):(mC p x y).1.1<=4096/\(mC p x y).1.2<=4096:=by
 unfold mC at h⊢
 grind
theorem akA(h:(mC p x y).2=true)(h1:p.1<=4096)(ae:p.2<=4096)(g:y<=64):0<(mC p x y).1.2:=by
 unfold mC at h⊢;split;rename_i b;rw[aS b]at h;simp only[iv,oy,vx]at b;obtain⟨⟨hp,_⟩,a,_⟩:=b;split;rename_i m hm;unfold tM at hm;split at hm;injection hm with hm;subst hm;simp only at a⊢;have g1:0<y/iF x y/iF p.1 (y/iF x y):=am0 (am3 _ a) (Sb _ a);have g2:0<p.2/iF (x/iF x y) p.2:=am0 (am3 _ hp) (Sb _ hp);have f:y/iF x y/iF p.1 (y/iF x y)<=64:=lf (pz _ _) (lf (pz _ _) g);have e:p.2/iF (x/iF x y) p.2<=4096:=lf (pz _ _) ae;unfold uW;generalize y/iF x y/iF p.1 (y/iF x y)=c at g1 f⊢;generalize p.2/iF (x/iF x y) p.2=d at g2 e⊢;have:=mh f e;have:=ana g1 g2;omega
 grind
 grind
 grind
theorem akz p(x y:Nat) h(hp:AN p)(u:x<=64)(s:y<=64)(f:0<y):Fn aD 49 #[zw p.1 p.2,R x,R y] h λv k=>h.le k/\v=eA #[zw (mC p x y).1.1 (mC p x y).1.2,dh (mC p x y).2]:=by
 obtain⟨n,d⟩:=p;obtain⟨h1,ae⟩:=hp;simp only at h1 ae;refine bU azz rfl ?_;obtain⟨b,c⟩:∃z,z=x/iF x y:=⟨_,rfl⟩;obtain⟨a,e⟩:∃z,z=y/iF x y:=⟨_,rfl⟩;have C:b<=x:=by rw[c];exact pz _ _
 have A:a<=y:=by rw[e];exact pz _ _
 have r:mC (n,d) x y=if oy n d&&oy b a then(match tM (n,d) (b,a)with
  |some m=>(m,decide (m.1<=4096)&&decide (m.2<=4096))
  |none=>((0,0),false))else((0,0),false):=by
  rw[mC,<-c,<-e]
 rw[r];refine .ag (.mk _ (aBZ x y h I I f) ?_);rintro _ t ⟨rfl,g⟩;rw[<-c,<-e];refine .mk λB o=>?_;refine .ag (.mk _ (aBv B n d b a _ (J.b8 _ _ _) h1 ae I I) ?_);rintro _ l ⟨i,rfl⟩;have le:h.le l:=J.le_trans g (J.le_trans (J.d' o) i);cases w:(oy n d&&oy b a)
 .refine⟨?_,?_⟩;all_goals conv=>whnf
  all_goals exact .ag ⟨le,rfl⟩
 cases hm:tM (n,d) (b,a)with
 |none=>
  refine⟨?_,?_⟩;all_goals conv=>whnf
  all_goals exact .ag ⟨le,rfl⟩
 |some m=>
  obtain⟨m1,m2⟩:=m;refine aW (λq=>?_) (λq=>?_);all_goals conv=>whnf
  all_goals refine⟨?_,?_⟩
  all_goals conv=>whnf
  all_goals refine .ag ⟨le,?_⟩
  all_goals have j:decide ((m2:Int)<=4096)=decide (m2<=4096):=decide_eq_decide.2 I
  all_goals simp only[mO]
  show eA #[zw m1 m2,dh (decide ((m2:Int)<=4096))]=_
  grind
  show eA #[zw m1 m2,dh (decide ((m2:Int)<=4096))]=_
  grind
  rw[jn (show¬m1<=4096 by omega),Cv];rfl;rw[jn (show¬m1<=4096 by omega),Cv];rfl
def E'(up:List Nat):Nat->Nat->Nat
 |0,v=>v
 |f+1,v=>if up.getD v v=v then v else E' up f (up.getD v v)
def lk(up:List Nat)(v:Nat):Nat:=E' up (v+1) v
structure zj(N:Nat)(up:List Nat):Prop where
 len:up.length=N
 le:∀v,up.getD v v<=v
theorem arB{up:List Nat}(ok:zj N up):∀v f a,v<f->v<a->E' up f v=E' up a v:=by
 intro v;induction v using Sd with
 |_ v c=>
  intro f a h1 ae;obtain⟨f,rfl⟩:∃k,f=k+1:=⟨f-1,I⟩;obtain⟨a,rfl⟩:∃k,a=k+1:=⟨a-1,I⟩;unfold E';split;rfl;rename_i b;have:=ok.le v
  grind
theorem Oj{up:List Nat}(ok:zj N up)(h:up.getD v v≠v):lk up (up.getD v v)=lk up v:=by
 have:=ok.le v;unfold lk;conv=>rhs;unfold E'
 rw[aC h];exact arB ok _ _ _ I I
theorem KI{up:List Nat}(h:up.getD v v=v):lk up v=v:=by
 unfold lk E'
 grind
theorem TC{up:List Nat}(ok:zj N up):∀v,lk up v<=v:=by
 intro v;induction v using Sd with
 |_ v a=>
  by_cases h:up.getD v v=v;rw[KI h];omega;have:=ok.le v;rw[<-Oj ok h]
  grind
theorem Ty b g N up v h(c:h b=some (bb #[ab (some ⟨g,0,none⟩) N N] 27 (0,0)))(f:h g=some (bb (up.map λz:Nat=>R z).toArray 3 (0,0)))(ok:zj N up)(n:v<N):Fn aD 107 #[R v,gR (some ⟨b,0,none⟩)] h λr a=>r=R (lk up v)/\a=h:=by
 refine bU ax0 rfl (.mk Nat [0,1] (λx=>[.v (R x),.v (gR (some ⟨b,0,none⟩))]) (λ_=>[]) (λx a=>a=h/\x<=v/\lk up x=lk up v) (λx=>x) v (λ_=>rfl) ⟨rfl,dM _,rfl⟩ rfl rfl (λx e a⟨rfl,m,i⟩=>?_));have j:x<up.length:=by grind [ok.len]
 have av:a.cell? ((oA g 0 none).add (x*1))=some (R (up.getD x x)):=by
  rw[add_lit,dZ,e4];exact b1 f aL
 have k:=ok.le x;have l:=Oj ok (v:=x);have d:=KI (up:=up) (v:=x);generalize up.getD x x=y at av k l d;refine .hp _ (b1 c rfl) ?_;refine .r ?_;refine .hp _ (by rw[bn];exact av) ?_;refine aW (λq=>?_) (λq=>?_);refine .hp _ (b1 c rfl) ?_;refine .r ?_;refine .hp _ (by rw[bn];exact av) ?_;exact⟨y,rfl,rfl,⟨rfl,I,I⟩,I⟩;exact .ag ⟨by rw[<-i,d I];rfl,rfl⟩
def GJ(b:List Nat×List Nat)(i:Nat)(a:b2):List Nat×List Nat:=
 if lk b.1 a.src.toNat=lk b.1 a.dst.toNat then b else(b.1.set (max (lk b.1 a.src.toNat) (lk b.1 a.dst.toNat)) (min (lk b.1 a.src.toNat) (lk b.1 a.dst.toNat)),b.2++[i])
def g8(N:Nat)(ad:List b2):Nat->List Nat×List Nat
 |0=>(fJ N,[])
 |k+1=>match ad[k]?with
  |some a=>GJ (g8 N ad k) k a
  |none=>g8 N ad k
def fp(N:Nat)(ad:List b2):List Nat:=(g8 N ad ad.length).2
def iB(N:Nat)(ad:List b2):List Nat:=(fJ N).map (lk (g8 N ad ad.length).1)
theorem zj.set{N:Nat}{up:List Nat}(ok:zj N up){i o:Nat}(h:o<=i):zj N (up.set i o):=by
 refine⟨by simp[ok.len],λv=>?_⟩;rw[cc,ub];split;rename_i e;subst e;split;exact h;exact dM _;rw[<-cc];exact ok.le v
theorem aHD N:zj N (fJ N):=by
 refine⟨bc,λv=>?_⟩;rw[cc];by_cases h:v<N;rw[EG h];exact dM _;rw[l2 (by simpa using h)];exact dM _
theorem KN N ad:∀k,zj N (g8 N ad k).1
 |0=>aHD N
 |k+1=>by
  have a:=KN N ad k;unfold g8;split;unfold GJ;split;exact a;exact a.set I;exact a
theorem Oq N ad:∀k,(g8 N ad k).2.length<=k
 |0=>by simp[g8]
 |k+1=>by
  have a:=Oq N ad k;unfold g8;split;unfold GJ;split;omega;simp;omega;omega
def al8(h:J)(N:Nat)(ad:List b2)(v:aA)(a:J):Prop:=
 h.le a/\(fF N ad≠0->v=eA #[.agg #[ab none 0 0,ab none 0 0],R (fF N ad)])/\
  (fF N ad=0->∃T c H,v=eA #[.agg #[ab T (fp N ad).length c,ab (some H) N N],R 0]/\bg a 1 T (fp N ad).length ((fp N ad).map λz:Nat=>[R (z:Int)])/\bg a 1 (some H) N ((iB N ad).map λz:Nat=>[R (z:Int)]))
def ss(f:Nat->aA)(z:aA)(m k:Nat):List aA:=(fJ k).map f++bp (m-k) z
theorem acp{k:Nat}(h:k<=m):(ss f z m k).length=m:=by simp[ss];omega
theorem acq{k:Nat}(h:k<m):(ss f z m k).set k (f k)=ss f z m (k+1):=by
 unfold ss;rw[List.set_append_right _ _ bc,List.length_map,List.length_range,Nat.sub_self,List.range_succ,fw,List.append_assoc];congr 1;rw[show m-k=(m- (k+1))+1 by omega,List.replicate_succ];rfl
theorem aco:ss f z m m=(fJ m).map f:=by simp[ss]
theorem bw.ahI{n c:Nat}{A:Option aE}{l:List Nat}(x:bw h 3 1 A n c (l.map λz:Nat=>R z)):bg h 1 A n (l.map λz:Nat=>[R z]):=by
 have:=x.e2;rw[ig]at this;exact this
theorem ahR(N n B:Nat) A ad h(F:bg h 5 A n (ad.map b2.cells))(aF:n<=9223372036854775806):Fn aD 46 #[nQ N A n B] h λv t=>al8 h N ad v t:=by
 have al:ad.length=n:=by simpa using F.len
 refine bU azw rfl (.ag (.mk _ (NS N A n B ad h F aF) ?_));rintro _ _ ⟨rfl,rfl⟩;refine aW (λq=>?_) (λq=>?_);exact .ag ⟨J.le_refl _,λ_=>rfl,λe=>absurd e q⟩;have Z:fF N ad=0:=kc.1 q;obtain⟨KY,w6,yp,e7⟩:=mM Z;refine .one N (R 0) rfl rfl rfl rfl I I λe6=>.mk Nat [1,2,5,24,25] (λk=>[.p 0 0,.p 1 0,.p 3 0,.v (R N),.v (R k)]) (λk=>[.own [.v (R N),.v (ab A n B)] 33,.own [.v (ab none 0 0),.v (ab none 0 0)] 159,.row 3 1 (some e6) N N (uZ N k),.own [.v (ab (some e6) N N)] 27]) (λk t=>t=_/\k<=N) (λk=>N-k) 0 (λ_=>rfl) ⟨rfl,cU _⟩ rfl (by simp[uZ,R]) (λk e h1⟨rfl,hk⟩=>aW (λaO=>?_) (λaO=>?_));have w:k<N:=I;exact .m e6 rfl (.row 2 3 1 e6 N N (uZ N k) (uZ N (k+1)) k rfl (by rw[bn,e4]) (by rw[io _ _ _ (by rw[aib hk];exact w),aic w]) (.bl (⟨k+1,rfl,rfl,⟨rfl,w⟩,by show N- (k+1)<N-k;omega⟩)));have BI:N=k:=I;subst BI;refine .mk λj OE=>.one N (R 0) rfl rfl rfl rfl I I λl=>.jG (.b5 2 3 1 (some e6) N N (uZ N N) rfl λae cj H f2=>.abs 3 1 none 0 0 [] ⟨rfl,bQ ⟨rfl,rfl,rfl⟩⟩ (.ag ?_));obtain⟨_,H|⟨d,be,V,ng,_,_,gq,pc⟩⟩:=H;cases H.1;injection V with V;subst V;have L:be=((g8 N ad 0).1.map λz:Nat=>R (z:Int)).toArray:=by
  rw[mJ (by simp[gq])]at pc;rw[<-GV (xs:=be),pc];simp[uZ,g8]
 have OQ:h1 d=none:=by
  have:=f2 _ rfl;simp only at this;exact WB this
 have U9:d≠j:=λe=>by
  have:=f2 _ rfl;simp only at this;rw[e,J.b8]at this;cases this
 obtain⟨a,D⟩:∃a:Nat->J,a=λk=>ae.put d (bb ((g8 N ad k).1.map λz:Nat=>R (z:Int)).toArray 3 (0,0)):=⟨_,rfl⟩;have y:∀k,a k=ae.put d (bb ((g8 N ad k).1.map λz:Nat=>R (z:Int)).toArray 3 (0,0)):=λk=>by rw[D]
 clear D;have Dl:ae=a 0:=by rw[y];exact(J.tT (by rw[ng,L])).symm
 have s:∀k,a k j=some (bb #[ab (some ⟨d,0,none⟩) N N] 27 (0,0)):=λk=>by
  rw[y,J.cD _ _ (eh U9)];exact cj _ _ (J.b8 _ _ _)
 have f:∀k,a k d=some (bb ((g8 N ad k).1.map λz:Nat=>R (z:Int)).toArray 3 (0,0)):=λk=>by rw[y];exact J.b8 _ _ _
 have C:∀k,h1.le (a k):=λk=>by
  rw[y];exact lK OQ (J.le_trans (J.d' OE) cj)
 have E:∀k u,u=(g8 N ad (k+1)).1->(a k).put d (bb (u.map λz:Nat=>R (z:Int)).toArray 3 (0,0))=a (k+1):=λk u hu=>by
  rw[y,y,hu];funext o;unfold J.put;split<;>rfl
 refine .mk (Nat×Option aE×Nat) [2,5,7,8,39,40,41] (λ(k,_,_)=>[.p 1 0,.p 3 0,.v (.func (.func 107) #[] #[gR (some ⟨j,0,none⟩)]),.p 5 0,.v (ab A n B),.v (R n),.v (R k)]) (λ(k,T,c)=>[.own [.v (R N),.v (ab A n B)] 33,.own [.v (ab none 0 0),.v (ab none 0 0)] 159,.gone,.b5 j,.row 3 1 (some l) N N (bp N (R 0)),.own [.v (ab T (g8 N ad k).2.length c),.v (ab (some l) N N)] 159,.row 3 1 T (g8 N ad k).2.length c ((g8 N ad k).2.map λz:Nat=>R (z:Int))]) (λ(k,_,_) t=>t=a k/\k<=n) (λ(k,_,_)=>n-k) (0,none,0) (λ_=>rfl) ⟨Dl,cU _⟩ rfl rfl ?_;rintro⟨k,T,c⟩ X ax ⟨rfl,FD⟩;have x:=KN N ad k;refine aW (λaG=>?_) (λaG=>?_);have w:k<ad.length:=I;have vQ:=e7 ad[k] (b3 w);obtain⟨g,Y⟩:=F.b4 I;refine .m g Y (.hp ad[k].cells rfl (by rw[bn];exact(F.mono (C k)).row Y (jx w)) ?_);obtain⟨fW,s1,d0,d1,_⟩:=sT vQ;have S:=Ty j d N (g8 N ad k).1 ad[k].src.toNat (a k) (s k) (f k) x I;have fd:=Ty j d N (g8 N ad k).1 ad[k].dst.toNat (a k) (s k) (f k) x I;have ls:=TC x ad[k].src.toNat;have ld:=TC x ad[k].dst.toNat;rw[p6 fW]at S;rw[p6 d0]at fd;have i:g8 N ad (k+1)=GJ (g8 N ad k) k ad[k]:=by rw[g8,bK w]
 unfold GJ at i;generalize DH:lk (g8 N ad k).1 ad[k].src.toNat=xs at S ls i;generalize aJ0:lk (g8 N ad k).1 ad[k].dst.toNat=b at fd ld i;refine .mk _ S (λv ae q=>by rw[q.2];exact J.le_refl _) ?_;rintro _ _ ⟨rfl,rfl⟩;refine .ag (.mk _ fd ?_);rintro _ _ ⟨rfl,Q⟩;subst Q;refine aW (λU=>?_) (λU=>?_);have P:¬xs=b:=I;rw[aC P]at i;have hs:=Oq N ad k;refine .ag (.c0 6 _ [R k] rfl rfl (by simp[Bd,R]) (by simp[eQ];omega) I λNC bj aJc=>.hp _ (b1 (s k) rfl) ?_);conv=>whnf
 have Le:max (xs:Int) b=((max xs b:Nat):Int):=I;have M:min (xs:Int) b=((min xs b:Nat):Int):=I;rw[Le,M];refine .r (.hp d (max xs b) 3 ((g8 N ad k).1.map λz:Nat=>R (z:Int)) (((g8 N ad k).1.set (max xs b) (min xs b)).map λz:Nat=>R (z:Int)) (by rw[add_lit,dZ,bn,e4]) (f k) (by rw[io _ _ _ (by simp[x.len];omega),kB];rfl) (.bl ?_));have aQ:(g8 N ad (k+1)).1=(g8 N ad k).1.set (max xs b) (min xs b):=by rw[i]
 have X:(g8 N ad (k+1)).2=(g8 N ad k).2++[k]:=by rw[i]
 refine⟨(k+1,NC,bj),?_,?_,⟨E k _ aQ.symm,I⟩,by show n- (k+1)<n-k;omega⟩;rfl;simp only[X];simp;have P:xs=b:=I;rw[aS P]at i;refine .bl (⟨(k+1,T,c),rfl,?_,⟨?_,I⟩,by show n- (k+1)<n-k;omega⟩);simp only[i];rfl;rw[<-E k (g8 N ad k).1 (by rw[i]),J.tT (f k)];have ql:ad.length=k:=I;subst ql;obtain⟨up,W⟩:∃u,u=(g8 N ad ad.length).1:=⟨_,rfl⟩;have s:=s ad.length;have f:=f ad.length;have C:=C ad.length;rw[<-W]at x f;generalize a ad.length=fe at s f C;have K:bp N (R 0)=ss (λz=>R (lk up z:Nat)) (R 0) N 0:=by simp[ss]
 refine .mk Nat [2,7,8,74,75] (λo=>[.p 1 0,.v (.func (.func 107) #[] #[gR (some ⟨j,0,none⟩)]),.p 5 0,.v (R N),.v (R o)]) (λo=>[.own [.v (R N),.v (ab A n B)] 33,.own [.v (ab none 0 0),.v (ab none 0 0)] 159,.gone,.b5 j,.row 3 1 (some l) N N (ss (λz=>R (lk up z:Nat)) (R 0) N o),.own [.v (ab T (fp N ad).length c),.v (ab (some l) N N)] 159,.row 3 1 T (fp N ad).length c ((fp N ad).map λz:Nat=>R (z:Int))]) (λo t=>t=fe/\o<=N) (λo=>N-o) 0 (λ_=>rfl) ⟨rfl,cU _⟩ rfl (by simp only[K];rfl) ?_;refineλo di ax⟨rfl,ah⟩=>aW (λU=>?_) (λU=>?_);have G:o<N:=I;refine .mk _ (Ty j d N up o _ s f x G) (λv ae q=>by rw[q.2];exact J.le_refl _) ?_;rintro _ _ ⟨rfl,Q⟩;subst Q;refine .m l rfl ?_;refine .row 4 3 1 l N N _ (ss (λz=>R (lk up z:Nat)) (R 0) N (o+1)) o rfl (by rw[bn,e4]) (by rw[io _ _ _ (by rw[acp ah];exact G)];exact eu some (acq G)) ?_;refine .bl ?_;exact⟨o+1,rfl,rfl,⟨rfl,G⟩,by show N- (o+1)<N-o;omega⟩;have O:N=o:=I;subst O;rw[aco];refine .b5 4 3 1 (some l) N N _ rfl λcr gh lP f5=>.b5 6 3 1 T (fp N ad).length c _ rfl λeX im pW f6=>.ag ⟨J.le_trans C (J.le_trans gh im),λe=>absurd Z e,λ_=>⟨T,c,l,?_,?_,?_⟩⟩;rfl;exact pW.ahI;rw[iB,<-W];have:=(lP.mono im).e2;rw[ig]at this;rw[ig];exact this
def nV(p:Int×Bool):List aA:=[R p.1,dh p.2]
structure Sh(h:J)(jg kX off cap:Nat)(be:List aA)(fY:List Nat):Prop where
 box:h jg=some (bb #[ab (some ⟨kX,off,none⟩) fY.length cap] 27 (0,0))
 qV:h kX=some (bb be.toArray 3 (0,0))
 agc:fY.length<=cap
 room:off+cap<=be.length
 at_:∀o u,(fY.map λz:Nat=>R (z:Int))[o]?=some u->be[off+o]?=some u
structure xS(N mW mX l4 jg g9 nd fB:Nat)(am h:J)(dL:List Bool)(hl fY:List Nat):Prop where
 fG:h mW=some (bb #[ab (some ⟨g9,0,none⟩) N N] 193 (0,0))
 dX:h mX=some (bb #[ab (some ⟨nd,0,none⟩) N N] 78 (0,0))
 hs:h l4=some (bb #[ab (some ⟨fB,0,none⟩) N N] 27 (0,0))
 u2:h g9=some (bb (dL.map dh).toArray 4 (0,0))
 pX:∃iY:List (Int×Bool),iY.length=N/\h nd=some (bb (iY.map nV).flatten.toArray 173 (0,0))
 v8:h fB=some (bb (hl.map λz:Nat=>R (z:Int)).toArray 3 (0,0))
 z7:dL.length=N
 cK:hl.length=N
 q:∃kX off cap be,Sh h jg kX off cap be fY/\kX≠fB/\am kX=none
 NL:l4≠jg
 le:am.le h
 E8:am g9=none
 uq:am nd=none
 kE:am fB=none
 E9:am jg=none
theorem mx{a:Nat}{x y:Array aA}{t:Nat}(c:h a=some (bb x t (0,0)))(d:h b=some (bb y u (0,0)))(f:t≠u):a≠b:=λe=>by
 rw[e,d]at c;injection c with c;injection c with _ c;exact f c.symm
theorem aFR(l:List (Int×Bool)):∀i p,i<l.length->over (l.map nV).flatten (i*2) (nV p)=some ((l.set i p).map nV).flatten:=by
 induction l with
 |nil=>intro i p h;simp at h
 |cons a l c=>
  intro i p h;cases i with
  |zero=>
   rw[Hd];show over (R a.1::dh a.2::(l.map nV).flatten) 0 [R p.1,dh p.2]=_;simp[over,nV]
  |succ i=>
   have b:=c i p (by simpa using h);rw[A9];show over (R a.1::dh a.2::(l.map nV).flatten) (i*2+2) (nV p)=_;simp only[over,b];simp[nV]
def xl(dL:List Bool)(u:Nat):List Bool:=if dL.getD u false=true then dL else dL.set u true
def B3(dL:List Bool)(hl:List Nat)(u b:Nat):List Nat:=if dL.getD u false=true then hl else hl.set u b
def Ab(dL:List Bool)(fY:List Nat)(u:Nat):List Nat:=if dL.getD u false=true then fY else fY++[u]
theorem agt(N G C s c g9 j d u b:Nat)(z:Int)(t:Bool)(am h:J)(dL:List Bool)(hl fY:List Nat)(p:xS N G C s c g9 j d am h dL hl fY)(hu:u<N)(hw:fY.length<=1000):Fn aD 112 #[R u,R b,.agg #[R z,dh t],gR (some ⟨G,0,none⟩),gR (some ⟨C,0,none⟩),gR (some ⟨s,0,none⟩),gR (some ⟨c,0,none⟩)] h λ_ aa=>xS N G C s c g9 j d am aa (xl dL u) (B3 dL hl u b) (Ab dL fY u):=by
 refine bU ax5 rfl ?_;have Du:u<dL.length:=by rw[p.z7];exact hu
 have av:h.cell? ((oA g9 0 none).add (u*1))=some (dh (dL.getD u false)):=by
  rw[add_lit,dZ,e4];exact b1 p.u2 (by rw[de,bK Du,cc,bK Du];rfl)
 refine .hp _ (b1 p.fG rfl) ?_;refine .r ?_;refine .hp _ (by rw[bn];exact av) ?_;cases hk:dL.getD u false
 .obtain⟨F,Ii,w⟩:=p.pX;obtain⟨n,off,cap,be,Q,Dq,KS⟩:=p.q;have K:=mx p.u2 w aH;have L:=mx p.u2 p.v8 aH;have T:=mx w p.v8 aH;have O:=mx p.u2 p.dX aH;have P:=mx p.u2 p.hs aH;have S:=mx p.u2 Q.box aH;have aBB:=mx p.u2 p.fG aH;have M:=mx p.u2 Q.qV aH;have aBE:=mx w p.dX aH;have W:=mx w p.hs aH;have X:=mx w Q.box aH;have aBD:=mx w p.fG aH;have V:=mx w Q.qV aH;have aBH:=mx p.v8 p.dX aH;have aBI:=mx p.v8 p.hs aH;have Y:=mx p.v8 Q.box aH;have aBG:=mx p.v8 p.fG aH;obtain⟨aK,l⟩:∃q,q=h.put g9 (bb ((dL.set u true).map dh).toArray 4 (0,0)):=⟨_,rfl⟩;obtain⟨cy,y⟩:∃q,q=aK.put j (bb (((F.set u (z,t)).map nV).flatten).toArray 173 (0,0)):=⟨_,rfl⟩;obtain⟨hC,A⟩:∃q,q=cy.put d (bb ((hl.set u b).map λz:Nat=>R (z:Int)).toArray 3 (0,0)):=⟨_,rfl⟩;have Kf:aK C=some (bb #[ab (some ⟨j,0,none⟩) N N] 78 (0,0)):=by rw[l,J.cD _ _ (eh O)];exact p.dX
  have CY:aK s=some (bb #[ab (some ⟨d,0,none⟩) N N] 27 (0,0)):=by rw[l,J.cD _ _ (eh P)];exact p.hs
  have ape:cy s=some (bb #[ab (some ⟨d,0,none⟩) N N] 27 (0,0)):=by rw[y,J.cD _ _ (eh W)];exact CY
  have aoX:aK j=some (bb (F.map nV).flatten.toArray 173 (0,0)):=by rw[l,J.cD _ _ (eh K)];exact w
  have apj:cy d=some (bb (hl.map λz:Nat=>R (z:Int)).toArray 3 (0,0)):=by rw[y,J.cD _ _ (eh T),l,J.cD _ _ (eh L)];exact p.v8
  have Bl:hC c=some (bb #[ab (some ⟨n,off,none⟩) fY.length cap] 27 (0,0)):=by rw[A,J.cD _ _ (eh Y),y,J.cD _ _ (eh X),l,J.cD _ _ (eh S)];exact Q.box
  refine .hp _ (b1 p.fG rfl) ?_;refine .r ?_;have ahO:over (dL.map dh) u [dh true]=some ((dL.set u true).map dh):=by rw[io _ _ _ (by simpa using Du),kB]
  have WF:over (F.map nV).flatten (u*2) [R z,dh t]=some ((F.set u (z,t)).map nV).flatten:=aFR F u (z,t) I;have WG:over (hl.map λz:Nat=>R (z:Int)) u [R b]=some ((hl.set u b).map λz:Nat=>R (z:Int)):=by rw[io _ _ _ (by simp[p.cK];exact hu),kB]
  have b4:∀g k,(oA g 0 none).add ((u:Int).toNat*k)=⟨g,u*k,none⟩:=λg k=>by rw[add_lit,dZ,bn]
  have apN:hC n=some (bb be.toArray 3 (0,0)):=by rw[A,J.cD _ _ Dq,y,J.cD _ _ (eh V),l,J.cD _ _ (eh M)];exact Q.qV
  have Z:=mx Q.qV Q.box aH;have H:∀o U,o≠g9->o≠j->o≠d->h o=some U->hC o=some U:=λo U qq zX BY a=>by
   rw[A,J.cD _ _ BY,y,J.cD _ _ zX,l,J.cD _ _ qq];exact a
  have fin:∀bs:J,(∃TU Qh i abe,Sh bs c TU Qh i abe (fY++[u])/\TU≠d/\am TU=none)->(∀o U,o≠c->o≠n->hC o=some U->bs o=some U)->xS N G C s c g9 j d am bs (xl dL u) (B3 dL hl u b) (Ab dL fY u):=λbs aB B=>by
   have xh:dL.getD u false≠true:=by rw[hk];decide
   rw[xl,B3,Ab,aC xh,aC xh,aC xh];have TV:∀o ty cs,h o=some (bb cs ty (0,0))->ty≠3->o≠n:=λo ty cs a f=>mx a Q.qV f;refine⟨B _ _ (mx p.fG Q.box aH) (TV _ _ _ p.fG aH) (H _ _ (eh aBB) (eh aBD) (eh aBG) p.fG),B _ _ (mx p.dX Q.box aH) (TV _ _ _ p.dX aH) (H _ _ (eh O) (eh aBE) (eh aBH) p.dX),B _ _ p.NL (TV _ _ _ p.hs aH) (H _ _ (eh P) (eh W) (eh aBI) p.hs),B _ _ S M ?_,⟨F.set u (z,t),by simp[Ii],B _ _ X V ?_⟩,B _ _ Y (eh Dq) ?_,by simp[p.z7],by simp[p.cK],aB,p.NL,λo U a=>?_,p.E8,p.uq,p.kE,p.E9⟩;rw[A,J.cD _ _ L,y,J.cD _ _ K,l,J.b8];rw[A,J.cD _ _ T,y,J.b8];rw[A,J.b8];have f:∀{x:Nat},am x=none->o≠x:=λaf e=>by rw[e,af]at a;cases a
   exact B _ _ (f p.E9) (f KS) (H _ _ (f p.E8) (f p.uq) (f p.kE) (p.le _ _ a))
  have arx:fY.length+1<=cap->xS N G C s c g9 j d am ((hC.put n (bb (be.set (off+fY.length) (R u)).toArray 3 (0,0))).put c (bb #[ab (some ⟨n,off,none⟩) (fY.length+1) cap] 27 (0,0))) (xl dL u) (B3 dL hl u b) (Ab dL fY u):=λcP=>by
   refine fin _ ⟨n,off,cap,be.set (off+fY.length) (R u),⟨by rw[J.b8,fb];rfl,by rw[J.cD _ _ Z,J.b8],by simp;exact cP,by rw[fI];exact Q.room,λo v a=>?_⟩,Dq,KS⟩ λo U qq zX a=>by rw[J.cD _ _ qq,J.cD _ _ zX];exact a
   rw[fw,List.getElem?_append]at a;have zN:=Q.room;rw[ub];split at a;rename_i e';simp at e';rw[aC I];exact Q.at_ o v a;rename_i OP;simp at OP;have UI:o=fY.length:=by
    have:=(qO.1 a).1;simp at this;omega
   subst UI;rw[aS rfl,aS I];simpa using a
  have ary:∀(m:aE)(i:Nat)(E:J),(hC.put c (bb #[ab (some m) (fY.length+1) i] 27 (0,0))).le E->bw E 3 1 (some m) (fY.length+1) i ((fY.map λz:Nat=>R (z:Int))++[R u])->(∀g,some m=some g->(hC.put c (bb #[ab (some m) (fY.length+1) i] 27 (0,0))) g.block=none)->xS N G C s c g9 j d am E (xl dL u) (B3 dL hl u b) (Ab dL fY u):=λm i E im pW f6=>by
   obtain⟨_,pW|⟨D,aqd,c9,atL,tD,tE,gq,pc⟩⟩:=pW;cases pW.1;injection c9 with c9;subst c9;have H':=f6 _ rfl;simp only at H';have Dr:D≠c:=λe=>by rw[e,J.b8]at H';cases H'
   have ON:hC D=none:=by rwa[J.cD _ _ Dr]at H'
   have at9:D≠d:=λe=>by rw[e,A,J.b8]at ON;cases ON
   refine fin _ ⟨D,0,i,aqd.toList,⟨im _ _ (by rw[J.b8,fb];rfl),atL,by simp;exact tD,by simp[gq],λo v a=>?_⟩,at9,?_⟩ λo U qq zX a=>im _ _ (by rw[J.cD _ _ qq];exact a);rw[fw,er,List.map_nil,<-pc]at a;rw[dZ];rw[List.getElem?_take]at a;split at a;exact a;cases a;cases dG:am D with
   |none=>rfl
   |some U=>
    have f:∀{x:Nat},am x=none->D≠x:=λaf e=>by rw[e,af]at dG;cases dG
    rw[H _ _ (f p.E8) (f p.uq) (f p.kE) (p.le _ _ dG)]at ON;cases ON
  repeat'(first
   |(refine⟨?_,?_⟩<;>conv=>whnf)
   |(refine .hp _ (b1 p.dX rfl) ?_;conv=>whnf)
   |(refine .hp _ (b1 Kf rfl) ?_;conv=>whnf)
   |(refine .hp _ (b1 p.hs rfl) ?_;conv=>whnf)
   |(refine .hp _ (b1 CY rfl) ?_;conv=>whnf)
   |(refine .hp _ (b1 ape rfl) ?_;conv=>whnf)
   |(refine .r ?_;conv=>whnf)
   |(refine .hp g9 u 4 _ _ (by rw[b4,e4]) p.u2 ahO ?_;rw[<-l];conv=>whnf)
   |(refine .hp j (u*2) 173 _ _ (by rw[b4]) aoX WF ?_;rw[<-y];conv=>whnf)
   |(refine .hp d u 3 _ _ (by rw[b4,e4]) apj WG ?_;rw[<-A];conv=>whnf))
  all_goals refine .hp _ (b1 Bl rfl) ?_
  all_goals conv=>whnf
  all_goals refine .ag (.mem n off be (be.set (off+fY.length) (R u)) [R u] (fY.map λz:Nat=>R (z:Int)) rfl apN rfl (by simp[Bd,R]) aH bc Q.at_ (λcP=>by rw[e4,io _ _ _ (by have:=Q.room;omega)]) (by simp[eQ];omega) I (λcP=>?_) (λe' m i cP=>?_))
  all_goals conv=>whnf
  all_goals refine .hp c 0 27 _ [_] rfl (by first|exact Bl|(rw[J.cD _ _ (eh Z)];exact Bl)) rfl ?_
  all_goals conv=>whnf
  all_goals first
   |exact .ag (arx cP)
   |exact .b5 2 3 1 (some m) (fY.length+1) i _ rfl λE im pW f6=>.ag (ary m i E im pW f6)
 exact .ag (by rw[xl,B3,Ab,aS hk,aS hk,aS hk];exact p)
inductive lp(L:Nat->Nat->Prop):Nat->Nat->Prop
 |refl (u:Nat):lp L u u
 |step {u v w:Nat} (h:L u v) (c:lp L v w):lp L u w
theorem lp.trans{w:Nat}(x:lp L u v)(y:lp L v w):lp L u w:=by
 induction x with
 |refl=>exact y
 |step h _ a=>exact .step h (a y)
theorem lp.symm(a:∀u v,L u v->L v u)(x:lp L u v):lp L v u:=by
 induction x with
 |refl=>exact .refl _
 |step h _ b=>exact b.trans (.step (a _ _ h) (.refl _))
theorem lp.mono{a:Nat->Nat->Prop}(b:∀u v,L u v->a u v)(x:lp L u v):lp a u v:=by
 induction x with
 |refl=>exact .refl _
 |step h _ c=>exact .step (b _ _ h) c
def oC(ad:List b2)(b:List Nat)(u v:Nat):Prop:=∃i∈b,∃a,ad[i]?=some a/\((a.src.toNat=u/\a.dst.toNat=v)\/(a.dst.toNat=u/\a.src.toNat=v))
theorem oC.symm{b:List Nat} u v(h:oC ad b u v):oC ad b v u:=by
 obtain⟨i,d,a,c,h⟩:=h;exact⟨i,d,a,c,h.elim (λq=>ba ⟨q.2,q.1⟩) (λq=>bQ ⟨q.2,q.1⟩)⟩
theorem oC.mono{c b:List Nat}(f:∀i∈c,i∈b) u v(h:oC ad c u v):oC ad b u v:=by
 obtain⟨i,e,a,d,h⟩:=h;exact⟨i,f i e,a,d,h⟩
theorem TB{up:List Nat}(ok:zj N up)(h:∀v,lp L v (up.getD v v)):∀v,lp L v (lk up v):=by
 intro v;induction v using Sd with
 |_ v a=>
  by_cases e:up.getD v v=v;rw[KI e];exact .refl _;have:=ok.le v;rw[<-Oj ok e];exact(h v).trans (a _ I)
theorem TM N ad:∀k v,lp (oC ad (g8 N ad k).2) v ((g8 N ad k).1.getD v v)
 |0,v=>by
  have:(g8 N ad 0).1.getD v v=v:=by
   show(fJ N).getD v v=v;rw[cc];by_cases h:v<N;rw[EG h];rfl;rw[l2 (by simpa using h)];rfl
  rw[this];exact .refl _
 |k+1,v=>by
  have b:=TM N ad k;have jE:=TB (KN N ad k) b;unfold g8;split;rename_i a g;unfold GJ;split;exact b v;have up:∀u w,lp (oC ad (g8 N ad k).2) u w->lp (oC ad ((g8 N ad k).2++[k])) u w:=λu w c=>c.mono (oC.mono λi j=>wz _ j);have hk:oC ad ((g8 N ad k).2++[k]) a.src.toNat a.dst.toNat:=⟨k,bc,a,g,bQ ⟨rfl,rfl⟩⟩;have d:lp (oC ad ((g8 N ad k).2++[k])) (lk (g8 N ad k).1 a.src.toNat) (lk (g8 N ad k).1 a.dst.toNat):=(lp.symm oC.symm (up _ _ (jE a.src.toNat))).trans (.step hk (up _ _ (jE a.dst.toNat)));generalize lk (g8 N ad k).1 a.src.toNat=x at d⊢;generalize lk (g8 N ad k).1 a.dst.toNat=y at d⊢;show lp _ v (((g8 N ad k).1.set (max x y) (min x y)).getD v v);rw[cc,ub];split;rename_i e;subst e;split;show lp _ _ (min x y);by_cases f:x<=y;rw[Nat.max_eq_right f,Nat.min_eq_left f];exact lp.symm oC.symm d;rw[Nat.max_eq_left I,Nat.min_eq_right I];exact d;exact .refl _;rw[<-cc];exact up _ _ (b v);exact b v
theorem auO(hu:u<N)(b:v<N)(h:(iB N ad).getD u 0=(iB N ad).getD v 0):lp (oC ad (fp N ad)) u v:=by
 have a:∀w,w<N->(iB N ad).getD w 0=lk (g8 N ad ad.length).1 w:=λw hw=>by
  rw[iB,cc,de,EG hw];rfl
 rw[a u hu,a v b]at h;have jE:=TB (KN N ad ad.length) (TM N ad ad.length);exact(jE u).trans (by rw[h];exact lp.symm oC.symm (jE v))
theorem Yk N ad:∀k,∀i∈(g8 N ad k).2,i<k
 |0,i,a=>by simp[g8]at a
 |k+1,i,a=>by
  have b:=Yk N ad k;unfold g8 at a;split at a;unfold GJ at a;split at a;have:=b i a;omega;rcases eI.1 a with a|a;have:=b i a;omega;simp at a;omega;have:=b i a;omega
structure r'(N dst:Nat)(L:Nat->Nat->Prop)(Ca:Nat->Prop)(dL:List Bool)(hl fY:List Nat):Prop where
 z7:dL.length=N
 cK:hl.length=N
 root:dL.getD dst false=true
 hv:∀u∈fY,dL.getD u false=true
 done:∀u,dL.getD u false=true->u∉fY->¬Ca u->∀v,L u v->dL.getD v false=true
 gZ:∃r:Nat->Nat,(∀u,dL.getD u false=true->r u+dL.count false+1<=N)/\∀u,dL.getD u false=true->u≠dst->dL.getD (hl.getD u 0) false=true/\r (hl.getD u 0)<r u
theorem aAe(h:dL.getD u false=true):u<dL.length:=by
 rw[cc]at h;rcases Nat.lt_or_ge u dL.length with a|a;exact a;rw[l2 a]at h;simp at h
theorem TX(l:List α) i o x d(a:i<l.length):(l.set i x).getD o d=if o=i then x else l.getD o d:=by
 rw[cc,ub];split;rename_i e;subst e;rw[aS rfl];simp;rename_i e;rw[aC (eh e),<-cc]
theorem aa'(dL:List Bool):∀u,u<dL.length->dL.getD u false=false->(dL.set u true).count false+1=dL.count false:=by
 induction dL with
 |nil=>intro u h;simp at h
 |cons a l c=>
  intro u h b;cases u with
  |zero=>
   simp at b;subst b;simp
  |succ u=>
   have:=c u (by simpa using h) (by simpa using b);rw[JX,RV,RV];omega
theorem r'.ags{j:Nat->Prop}(b:r' N dst L j dL hl fY)(hu:u<N)(c:dL.getD v false=true):r' N dst L j (xl dL u) (B3 dL hl u v) (Ab dL fY u)/\(xl dL u).getD u false=true/\(∀w,dL.getD w false=true->(xl dL u).getD w false=true)/\(xl dL u).count false+(Ab dL fY u).length=dL.count false+fY.length:=by
 by_cases hk:dL.getD u false=true;rw[xl,B3,Ab,aS hk,aS hk,aS hk];exact⟨b,hk,λ_ h=>h,rfl⟩;rw[xl,B3,Ab,aC hk,aC hk,aC hk];have k:u<dL.length:=by rw[b.z7];exact hu
 have g:u<hl.length:=by rw[b.cK];exact hu
 have f:dL.getD u false=false:=by simpa using hk
 have a:∀o,(dL.set u true).getD o false=if o=u then true else dL.getD o false:=λo=>TX _ _ _ _ _ k;have gt:∀o,(hl.set u v).getD o 0=if o=u then v else hl.getD o 0:=λo=>TX _ _ _ _ _ g;have mono:∀w,dL.getD w false=true->(dL.set u true).getD w false=true:=λw h=>by rw[a];split;rfl;exact h
 have av:=aa' dL u k f;obtain⟨r,l,t⟩:=b.gZ;refine⟨⟨by simp[b.z7],by simp[b.cK],mono _ b.root,λw hw=>?_,λw h1 ae q x n=>?_,λx=>if x=u then r v+1 else r x,λw hw=>?_,λw hw p=>?_⟩,by rw[a,aS rfl],mono,by simp;omega⟩;rcases eI.1 hw with hw|hw;exact mono _ (b.hv w hw);simp at hw;rw[hw,a,aS rfl];by_cases e:w=u;exact absurd (by simp[e]) ae;rw[a,aC e]at h1;exact mono _ (b.done w h1 (λh=>ae (wz _ h)) q x n);simp only;by_cases e:w=u;rw[aS e];have:=l v c;omega;rw[aC e];rw[a,aC e]at hw;have:=l w hw;omega;simp only;have i:v≠u:=λe=>by rw[e]at c;exact hk c
 by_cases e:w=u;subst e;rw[gt,aS rfl,aS rfl,aC i];exact⟨mono _ c,I⟩;rw[a,aC e]at hw;obtain⟨d,m⟩:=t w hw p;rw[gt,aC e,aC e];have s:hl.getD w 0≠u:=λh=>by rw[h]at d;exact hk d
 rw[aC s];exact⟨mono _ d,m⟩
theorem r'.all(a:∀u v,L u v->L v u)(b:r' N dst L (λ_=>False) dL hl [])(c:lp L u dst):dL.getD u false=true:=by
 have key:∀{x y:Nat},lp L x y->dL.getD x false=true->dL.getD y false=true:=λ{x y} c=>by
  induction c with
  |refl=>exact id
  |step h _ d=>exactλhk=>d (b.done _ hk bc bc _ h)
 exact key (lp.symm a c) b.root
theorem r'.start(L:Nat->Nat->Prop)(b:dst<N)(hl:List Nat)(c:hl.length=N):r' N dst L (λ_=>False) ((bp N false).set dst true) hl [dst]/\((bp N false).set dst true).count false+1=N:=by
 have al:dst<(bp N false).length:=by simpa using b
 have a:∀o,((bp N false).set dst true).getD o false=if o=dst then true else false:=λo=>by
  rw[TX _ _ _ _ _ al];split;rfl;rw[cc,A3];split<;>rfl
 have av:=aa' (bp N false) dst al (by rw[cc,A3];split<;>rfl);rw[List.count_replicate_self]at av;refine⟨⟨bc,c,by rw[a,aS rfl],λu hu=>by simp at hu;rw[hu,a,aS rfl],λu h1 ae _=>?_,λ_=>0,λu _=>by simp only;omega,λu h1 ae=>?_⟩,av⟩;rw[a]at h1;split at h1;rename_i e;exact absurd (by simp[e]) ae;cases h1;rw[a,aC ae]at h1;cases h1
theorem r'.pop(b:r' N dst L (λ_=>False) dL hl (v::fY)):r' N dst L (λu=>u=v) dL hl fY:=⟨b.z7,b.cK,b.root,λu hu=>b.hv u (by simp[hu]),λu h1 ae a=>b.done u h1 (by simp;exact⟨a,ae⟩) bc,b.gZ⟩
theorem r'.close(b:r' N dst L (λu=>u=v) dL hl fY)(h:∀w,L v w->dL.getD w false=true):r' N dst L (λ_=>False) dL hl fY:=
 ⟨b.z7,b.cK,b.root,b.hv,λu h1 ae _=>by
  by_cases e:u=v;rw[e];exact h;exact b.done u h1 ae e,b.gZ⟩
def anp(h:J)(v:aA)(a:J):Prop:=h.le a/\∃A m c e,∃b:List (Int×Bool),v=eA #[ab A m c,R e]/\m<=64/\bg a 2 A m (b.map nV)
theorem xS.pop{m n l c q g b off cap:Nat}{f:List aA}(p:xS N m n l c g9 q g am h dL hl (v::fY))(Q:Sh h c b off cap f (v::fY))(i:b≠g)(j:am b=none){B:Option aE}(s:1<cap->B=(some (oA b off none)).map (·.add (1*1)))(t:1=cap->B=some ⟨b,off,none⟩):xS N m n l c g9 q g am (h.put c (bb #[ab B fY.length (cap-1)] 27 (0,0))) dL hl fY:=by
 have a:∀{o:Nat}{ty:Nat}{cs:Array aA},h o=some (bb cs ty (0,0))->ty≠27->o≠c:=λd r=>mx d Q.box r;obtain⟨x,w,k⟩:=p.pX;have av:=Q.agc;have y:=Q.room;simp only[iJ]at av;refine⟨by rw[J.cD _ _ (a p.fG aH)];exact p.fG,by rw[J.cD _ _ (a p.dX aH)];exact p.dX,by rw[J.cD _ _ p.NL];exact p.hs,by rw[J.cD _ _ (a p.u2 aH)];exact p.u2,⟨x,w,by rw[J.cD _ _ (a k aH)];exact k⟩,by rw[J.cD _ _ (a p.v8 aH)];exact p.v8,p.z7,p.cK,?_,p.NL,lK p.E9 p.le,p.E8,p.uq,p.kE,p.E9⟩;by_cases e:1<cap;refine⟨b,off+1,cap-1,f,⟨by rw[J.b8,s e];rfl,by rw[J.cD _ _ (a Q.qV aH)];exact Q.qV,I,I,λo u d=>?_⟩,i,j⟩;have:=Q.at_ (o+1) u aL
 grind
 have hw:fY=[]:=List.eq_nil_of_length_eq_zero I;subst hw;refine⟨b,off,cap-1,f,⟨by rw[J.b8,t I],by rw[J.cD _ _ (a Q.qV aH)];exact Q.qV,bc,I,λo u d=>aL⟩,i,j⟩
theorem aA7 m:(madeCells (#[R 0,dh false]:Array aA) (m*2)).toList=((bp m (0,false)).map nV).flatten:=by
 rw[PT (s:=2) rfl m,p7];rfl
theorem aDd(N n cw src dst:Nat) A(ad:List b2) h(aw:bg h 5 A n (ad.map b2.cells))(aF:n<=9223372036854775806)(BT:src<N)(Ux:dst<N):Fn aD 50 #[nQ N A n cw,R src,R dst] h λv V=>anp h v V:=by
 have al:ad.length=n:=by simpa using aw.len
 refine bU azA rfl (.ag (.mk _ (ahR N n cw A ad h aw aF) ?_));rintro _ h1 ⟨ct,f1,f2⟩;by_cases an:fF N ad=0;obtain⟨T,c,H,rfl,qG,AB⟩:=f2 an;obtain⟨KY,w6,yp,e7⟩:=mM an;have F7:(iB N ad).length=N:=by simp[iB]
 have zr:∀u,u<N->h1.cell? (H.add (u*1))=some (R ((iB N ad).getD u 0:Nat)):=λu hu=>by
  have kf:u<(iB N ad).length:=I;rw[cc,bK kf];exact AB.one rfl (i:=u) (jx kf) rfl
 refine aW (λq=>I) (λq=>?_);refine aW (λq=>I) (λq=>?_);refine .r ?_;refine .hp _ (by rw[bn];exact zr src BT) ?_;refine .r ?_;refine .hp _ (by rw[bn];exact zr dst Ux) ?_;refine aW (λG=>?_) (λG=>?_);exact .ag ⟨ct,none,0,0,110,[],rfl,aH,bg.nil _ _ _⟩;have atK:=auO (ad:=ad) BT Ux I;refine .mk N rfl rfl I I λKf=>.one N (R 0) rfl rfl rfl rfl I I λCY=>.one N (dh false) rfl rfl rfl rfl I I λKe=>.m Ke rfl (.row 6 4 1 Ke N N (bp N (dh false)) ((bp N (dh false)).set dst (dh true)) dst rfl bc (by rw[io _ _ _ aL]) (.mk λt Un=>.mk λC Uo=>.mk λs Up=>.mk λF UE=>.mk λk K3=>?_));have aO:h1.le (h1.put t (bb #[ab (some Ke) N N] 193 (0,0))):=J.d' Un;have G:=J.d' (U:=bb #[ab (some Kf) N N] 78 (0,0)) Uo;have j:=J.d' (U:=bb #[ab (some CY) N N] 27 (0,0)) Up;have D:=J.d' (U:=bb #[R dst] 3 (0,0)) UE;have O:=J.d' (U:=bb #[ab (some ⟨F,0,none⟩) 1 1] 27 (0,0)) K3;have alv:h1 t=none:=Un;have aKB:h1 C=none:=J.none_le aO Uo;have aKC:h1 s=none:=J.none_le (J.le_trans aO G) Up;have YE:h1 F=none:=J.none_le (J.le_trans aO (J.le_trans G j)) UE;have aIj:h1 k=none:=J.none_le (J.le_trans aO (J.le_trans G (J.le_trans j D))) K3;have e0:=J.le_trans G (J.le_trans j (J.le_trans D O)) _ _ (J.b8 _ _ _);have dS:=J.le_trans j (J.le_trans D O) _ _ (J.b8 _ _ _);have eb:=J.le_trans D O _ _ (J.b8 _ _ _);have fC:=O _ _ (J.b8 _ _ _);have lP:=J.b8 ((((h1.put t (bb #[ab (some Ke) N N] 193 (0,0))).put C (bb #[ab (some Kf) N N] 78 (0,0))).put s (bb #[ab (some CY) N N] 27 (0,0))).put F (bb #[R dst] 3 (0,0))) k (bb #[ab (some ⟨F,0,none⟩) 1 1] 27 (0,0));have aBF:s≠k:=λe=>by
  rw[<-e,D _ _ (J.b8 _ _ _)]at K3;cases K3
 have DK:=J.le_trans aO (J.le_trans G (J.le_trans j (J.le_trans D O)));clear aO G j D O Un Uo Up UE K3;refine .jG (.b5 2 173 2 (some Kf) N N _ rfl λae cj pX uq=>.b5 4 3 1 (some CY) N N _ rfl λax d7 v8 kE=>.b5 6 4 1 (some Ke) N N _ rfl λaT c3 u2 E8=>.ag ?_);have Z:=J.le_trans cj (J.le_trans d7 c3);have ov:=cj _ _ fC;have zf:=Z _ _ e0;have wH:=Z _ _ dS;have ZC:=Z _ _ eb;have ZD:=Z _ _ fC;have Hl:=Z _ _ lP;have fg:=J.le_trans DK Z;obtain⟨_,pX|⟨Y,aaI,vA,atE,_,_,aE2,akk⟩⟩:=pX;omega;injection vA with vA;subst vA;obtain⟨_,v8|⟨M,kS,kT,atF,_,_,aE3,akl⟩⟩:=v8;omega;injection kT with kT;subst kT;obtain⟨_,u2|⟨g9,Kr,iL,aJi,_,_,aE1,akj⟩⟩:=u2;omega;injection iL with iL;subst iL;have WF:aaI=((bp N ((0:Int),false)).map nV).flatten.toArray:=by
  rw[mJ (by simp[aE2])]at akk;rw[<-GV (xs:=aaI),akk];exact eu List.toArray (aA7 N)
 have WG:kS=((bp N 0).map λz:Nat=>R (z:Int)).toArray:=by
  rw[mJ (by simp[aE3])]at akl;rw[<-GV (xs:=kS),akl,p7];rfl
 have ahO:Kr=(((bp N false).set dst true).map dh).toArray:=by
  rw[mJ (by simp[aE1])]at akj;rw[<-GV (xs:=Kr),akj,kB,p7]
 have aIm:h1 Y=none:=J.none_le DK (uq _ rfl);have aIn:h1 M=none:=J.none_le (J.le_trans DK cj) (kE _ rfl);have aIl:h1 g9=none:=J.none_le (J.le_trans DK (J.le_trans cj d7)) (E8 _ rfl);have aBJ:F≠M:=λe=>by
  grind
 have Hg:xS N t C s k g9 Y M h1 aT ((bp N false).set dst true) (bp N 0) [dst]:=by
  refine⟨zf,wH,ZC,aL,⟨bp N (0,false),bc,by rw[c3 _ _ (d7 _ _ atE),WF]⟩,by rw[c3 _ _ atF,WG],bc,bc,⟨F,0,1,[R dst],⟨Hl,ZD,bc,bc,λo u W=>aL⟩,aBJ,YE⟩,aBF,fg,aIl,aIm,aIn,aIj⟩
 have sJ:(fp N ad).length<=ad.length:=Oq N ad ad.length;obtain⟨kz,e5⟩:=r'.start (oC ad (fp N ad)) Ux (bp N 0) bc;clear zf wH ZC ZD Hl e0 dS eb fC lP ov Z uq kE E8;refine .mk (List Bool×List Nat×List Nat) [1,2,3,8,10,11,13,14] (λ_=>[.v (R src),.v (R dst),.p 0 0,.p 1 0,.p 3 0,.p 5 0,.p 9 0,.v (.func (.func 112) #[] #[gR (some ⟨t,0,none⟩),gR (some ⟨C,0,none⟩),gR (some ⟨s,0,none⟩),gR (some ⟨k,0,none⟩)])]) (λ_=>[.own [.v (R N),.v (ab A n cw)] 33,.own [.v (ab T (fp N ad).length c),.v (ab (some H) N N)] 159,.gone,.b5 C,.gone,.b5 s,.gone,.b5 t,.b5 F,.b5 k]) (λ(dL,hl,fY) V=>xS N t C s k g9 Y M h1 V dL hl fY/\r' N dst (oC ad (fp N ad)) (λ_=>False) dL hl fY/\dL.count false+fY.length<=N) (λ(dL,_,fY)=>dL.count false+fY.length) ((bp N false).set dst true,bp N 0,[dst]) (λ_=>rfl) ⟨Hg,kz,aL⟩ rfl rfl ?_;rintro⟨dL,hl,fY⟩ e cr ⟨p,b,K5⟩;obtain⟨aI0,off,cap,be,Q,Dq,asK⟩:=p.q;refine .hp _ (b1 Q.box rfl) (aW (λj=>?_) (λj=>?_));match fY,p,b,K5,Q,j with
 |[],_,_,_,_,j=>grind
 |v::fY,p,b,K5,Q,j=>
  simp only[iJ]at K5;have K:=b.hv v bc;have avk:v<N:=by grind [b.z7]
  refine .hp _ (b1 Q.box rfl) (.mk _ rfl aH bc (.hp (R v) (by rw[add_lit];exact b1 Q.qV (Q.at_ 0 _ rfl)) (.hp _ (b1 Q.box rfl) (.mk 1 (fY.length+1) rfl rfl I Q.agc λB bN cB=>.hp k 0 27 _ [ab B fY.length (cap-1)] rfl Q.box rfl ?_))));have je:=p.pop Q Dq asK bN cB;have g7:=b.pop;generalize cr.put k (bb [ab B fY.length (cap-1)].toArray 27 (0,0))=eX at je;obtain⟨S,dy⟩:∃S,S=dL.count false+fY.length:=⟨_,rfl⟩;refine .mk (Nat×List Bool×List Nat×List Nat) [1,2,3,8,10,11,13,14,15,79,80,81] (λ(i,_)=>[.v (R src),.v (R dst),.p 0 0,.p 1 0,.p 3 0,.p 5 0,.p 9 0,.v (.func (.func 112) #[] #[gR (some ⟨t,0,none⟩),gR (some ⟨C,0,none⟩),gR (some ⟨s,0,none⟩),gR (some ⟨k,0,none⟩)]),.v (R v),.v (ab T (fp N ad).length c),.v (R (fp N ad).length),.v (R i)]) (λ_=>[.own [.v (R N),.v (ab A n cw)] 33,.own [.v (ab T (fp N ad).length c),.v (ab (some H) N N)] 159,.gone,.b5 C,.gone,.b5 s,.gone,.b5 t,.b5 F,.b5 k]) (λ(i,dL,hl,fY) V=>xS N t C s k g9 Y M h1 V dL hl fY/\r' N dst (oC ad (fp N ad)) (λu=>u=v) dL hl fY/\dL.getD v false=true/\dL.count false+fY.length<=S/\i<=(fp N ad).length/\∀o<i,∀x a,(fp N ad)[o]?=some x->ad[x]?=some a->(a.dst.toNat=v->dL.getD a.src.toNat false=true)/\(a.src.toNat=v->dL.getD a.dst.toNat false=true)) (λ(i,_)=>(fp N ad).length-i) (0,dL,hl,fY) (λ_=>rfl) ⟨je,g7,K,I,cU _,λo W=>I⟩ rfl rfl ?_;clear je g7 K b p Q;refineλ⟨i,dL,hl,Yz⟩ aR o'⟨p,b,K,aJh,ai,pf⟩=>aW (λD=>?_) (λD=>?_);have cX:i<(fp N ad).length:=I;have E:=Yk N ad ad.length _ (b3 cX);have FW:(fp N ad)[i]?=some (fp N ad)[i]:=bK cX;obtain⟨g,ak⟩:=qG.b4 I;obtain⟨e6,vI⟩:=aw.b4 I;have kS:=(qG.mono p.le).one ak (jx cX) rfl;generalize(fp N ad)[i]=x at E FW kS;have ou:=(aw.mono (J.le_trans ct p.le)).row vI (jx E);have vQ:=sT (e7 ad[x] (b3 E));have Fu:ad[x]?=some ad[x]:=bK E;generalize ad[x]=a at ou vQ Fu;obtain⟨fW,s1,d0,d1,_⟩:=vQ;refine .m g ak (.hp (R x) (by simp_all) (.m e6 vI (.hp a.cells rfl (by simp_all) (aW (λO=>?_) (λO=>?_)))));have B4:=agt N t C s k g9 Y M a.src.toNat v x false h1 o' dL hl Yz p I I;rw[p6 fW]at B4;obtain⟨cB,cz,X,fs⟩:=b.ags (u:=a.src.toNat) I K;refine .ag (.mk _ B4 (λ_ tt W0=>.bl (⟨(i+1,_,_,_),rfl,rfl,⟨W0,cB,X _ K,I,cX,λo W y eV d f=>?_⟩,aL⟩)));by_cases nJ:o=i;subst nJ;rw[FW]at d;injection d with d;subst d;rw[Fu]at f;injection f with f;subst f;exact⟨λ_=>cz,λ_=>by simp_all⟩;obtain⟨jS,z2⟩:=pf o I y eV d f;exact⟨λL=>X _ (jS L),λL=>X _ (z2 L)⟩;refine aW (λmR=>?_) (λmR=>?_);have B4:=agt N t C s k g9 Y M a.dst.toNat v x true h1 o' dL hl Yz p I I;rw[p6 d0]at B4;obtain⟨cB,cz,X,fs⟩:=b.ags (u:=a.dst.toNat) I K;refine .ag (.mk _ B4 (λ_ tt W0=>.bl (⟨(i+1,_,_,_),rfl,rfl,⟨W0,cB,X _ K,I,cX,λo W y eV d f=>?_⟩,aL⟩)));by_cases nJ:o=i;subst nJ;rw[FW]at d;injection d with d;subst d;rw[Fu]at f;injection f with f;subst f;exact⟨λL=>I,λ_=>cz⟩;obtain⟨jS,z2⟩:=pf o I y eV d f;exact⟨λL=>X _ (jS L),λL=>X _ (z2 L)⟩;refine .bl (⟨(i+1,_,_,_),rfl,rfl,⟨p,b,K,I,cX,λo W y eV d f=>?_⟩,aL⟩);by_cases nJ:o=i;subst nJ;rw[FW]at d;injection d with d;subst d;rw[Fu]at f;injection f with f;subst f;omega;exact pf o I y eV d f;refine⟨(dL,hl,Yz),rfl,rfl,⟨p,b.close λw hw=>?_,I⟩,aL⟩;obtain⟨x,E,a,aZ,ar⟩:=hw;obtain⟨o,W,aJz⟩:=n4 E;obtain⟨jS,z2⟩:=pf o I x a aL aZ;rcases ar with⟨aQ,aR⟩|⟨aQ,aR⟩
  grind
  grind
 match fY,p,b,K5,Q,j with
 |_::_,_,_,_,_,j=>exact absurd bc j
 |[],p,b,K5,Q,j=>
  have zF:=b.all oC.symm atK;obtain⟨r,u3,hj⟩:=b.gZ;obtain⟨iY,Ii,sH⟩:=p.pX;refine .jG (.abs 173 2 none 0 0 [] ⟨rfl,bQ ⟨rfl,rfl,rfl⟩⟩ (.ag ?_));refine .mk (Nat×Option aE×Nat×List (Int×Bool)) [2,10,11,19,20] (λ(x,P,bj,l)=>[.v (R dst),.p 3 0,.p 5 0,.v (ab P l.length bj),.v (R x)]) (λ(_,P,bj,l)=>[.own [.v (R N),.v (ab A n cw)] 33,.own [.v (ab T (fp N ad).length c),.v (ab (some H) N N)] 159,.gone,.b5 C,.gone,.b5 s,.gone,.b5 t,.b5 F,.b5 k,.row 173 2 P l.length bj (l.map nV).flatten]) (λ(x,_,_,l) V=>V=cr/\dL.getD x false=true/\l.length+r x<=N) (λ(x,_,_,_)=>r x) (src,none,0,[]) (λ_=>rfl) ⟨rfl,zF,by have:=u3 src zF;simp;omega⟩ rfl rfl ?_;rintro⟨x,P,bj,l⟩ aR eX ⟨rfl,E,BJ⟩;have avv:x<N:=by have:=aAe E;rw[b.z7]at this;exact this
  refine aW (λD=>?_) (λD=>?_);obtain⟨gE,gT⟩:=hj x E I;have aeQ:x<hl.length:=by rw[p.cK];exact avv
  have avx:x<iY.length:=I;have aaJ:∀o v,(nV iY[x])[o]?=some v->eX.cell? (((oA Y 0 none).add (x*2)).add o)=some v:=λo v W=>by
   rw[add_lit,add_lit,dZ];exact b1 sH (Fc (size:=2) (iY.map nV) (λr aq=>by obtain⟨p,_,rfl⟩:=cO.1 aq;rfl) x o _ v (jx avx) W)
  have C6:eX.cell? ((oA M 0 none).add (x*1))=some (R (hl.getD x 0:Nat)):=by
   rw[add_lit,dZ,e4];exact b1 p.v8 (by rw[de,bK aeQ,cc,bK aeQ];rfl)
  generalize iY[x]=sp at aaJ;generalize hl.getD x 0=y at gE gT C6;refine .hp _ (b1 p.dX rfl) (.r (.hp (nV sp) rfl (by rw[bn];exact aaJ) (.ag (.c0 10 _ (nV sp) rfl rfl (by simp[nV,Bd,R]) (by simp[eQ];omega) I λann c2 aJb=>.hp _ (b1 p.hs rfl) (.r (.hp _ (by rw[bn];exact C6) (⟨(y,ann,c2,l++[sp]),by simp only[fb,iJ,List.length_nil];rfl,?_,⟨rfl,gE,by simp;omega⟩,gT⟩)))))));simp;rfl;refine .b5 10 173 2 P l.length bj _ rfl λo' oQ Gs f7=>.ag ⟨J.le_trans ct (J.le_trans p.le oQ),P,l.length,bj,0,l,rfl,I,Gs.dK (λr aq=>by obtain⟨p,_,rfl⟩:=cO.1 aq;rfl) aH⟩
 obtain rfl:=f1 an;refine aW (λq=>?_) (λq=>absurd an (by simpa using q));exact .ag ⟨ct,none,0,0,_,[],rfl,aH,bg.nil _ _ _⟩
def l7(p:Nat×Nat):List aA:=[R p.1,R p.2]
structure xX(N mY jY lC:Nat)(am h:J)(s:List (Nat×Nat))(f:Bool):Prop where
 dy:h mY=some (bb #[ab (some ⟨jY,0,none⟩) N N] 162 (0,0))
 Xj:h jY=some (bb (s.map l7).flatten.toArray 167 (0,0))
 bs:h lC=some (bb #[dh f] 4 (0,0))
 GD:s.length=N
 le:am.le h
 alw:am jY=none
 Rs:am lC=none
def me(s:List (Nat×Nat)×Bool)(u v x y:Nat):Bool×(List (Nat×Nat)×Bool):=
 if s.1.getD u (0,0)=(0,0)\/s.1.getD v (0,0)≠(0,0)then(false,s)else((mC (s.1.getD u (0,0)) x y).2,(s.1.set v (mC (s.1.getD u (0,0)) x y).1,s.2&&(mC (s.1.getD u (0,0)) x y).2))
theorem TO(s:List (Nat×Nat)):∀r∈s.map l7,r.length=2:=λr a=>by obtain⟨p,_,rfl⟩:=cO.1 a;rfl
theorem acV(l:List (Nat×Nat)):∀i p,i<l.length->over (l.map l7).flatten (i*2) (l7 p)=some ((l.set i p).map l7).flatten:=by
 induction l with
 |nil=>intro i p h;simp at h
 |cons a l c=>
  intro i p h;cases i with
  |zero=>
   rw[Hd];show over (R a.1::R a.2::(l.map l7).flatten) 0 [R p.1,R p.2]=_;simp[over,l7]
  |succ i=>
   have b:=c i p (by simpa using h);rw[A9];show over (R a.1::R a.2::(l.map l7).flatten) (i*2+2) (l7 p)=_;simp only[over,b];simp[l7]
theorem xX.row{e b d:Nat}{s:List (Nat×Nat)}{f:Bool}(x:xX N e b d am h s f)(hu:u<N):∀o v,(l7 (s.getD u (0,0)))[o]?=some v->h.cell? (((oA b 0 none).add (u*2)).add o)=some v:=λo v a=>by
 have c:u<s.length:=by rw[x.GD];exact hu
 rw[cc,bK c]at a;rw[add_lit,add_lit,dZ];exact b1 x.Xj (Fc (size:=2) (s.map l7) (TO s) u o _ v (jx c) a)
theorem aj7(N o j d u v x y:Nat) am h s f(p:xX N o j d am h s f)(hu:u<N)(D:v<N)(L:x<=64)(I:y<=64)(G:0<y)(M:∀q∈s,AN q):Fn aD 108 #[R u,R v,R x,R y,gR (some ⟨o,0,none⟩),gR (some ⟨d,0,none⟩)] h λr K=>r=dh (me (s,f) u v x y).1/\xX N o j d am K (me (s,f) u v x y).2.1 (me (s,f) u v x y).2.2:=by
 refine bU ax1 rfl ?_;have t:=p.row hu;have C:=p.row D;have E:AN (s.getD u (0,0)):=by
  have F:u<s.length:=by rw[p.GD];exact hu
  rw[cc,bK F];exact M _ (b3 F)
 have Q:me (s,f) u v x y=if s.getD u (0,0)=(0,0)\/s.getD v (0,0)≠(0,0)then(false,(s,f))else((mC (s.getD u (0,0)) x y).2,(s.set v (mC (s.getD u (0,0)) x y).1,f&&(mC (s.getD u (0,0)) x y).2)):=rfl;rw[Q];generalize s.getD u (0,0)=a at t E⊢;generalize s.getD v (0,0)=b at C⊢;obtain⟨e,a2⟩:=a;obtain⟨A,B⟩:=b;have t49:=λh=>akz (e,a2) x y h E L I G;generalize mC (e,a2) x y=g at t49⊢;obtain⟨⟨g1,g2⟩,n⟩:=g;refine .hp _ (b1 p.dy rfl) (.r (.hp (l7 (e,a2)) rfl (by rw[bn];exact t) (vr (λq=>?_) (λq=>?_))));have:(e,a2)=(0,0):=by simp[flip]at q;simp;omega
 rw[aS (bQ this)];exact .ag ⟨rfl,p⟩;have P:¬(e,a2)=(0,0):=by simp[flip]at q;simp;omega
 refine .hp _ (b1 p.dy rfl) (.r (.hp (l7 (A,B)) rfl (by rw[bn];exact C) (vr (λw=>?_) (λw=>?_))));have:(A,B)≠(0,0):=by simp[flip]at w;simp;omega
 rw[aS (ba this)];exact .ag ⟨rfl,p⟩;have O:¬(A,B)≠(0,0):=by simp[flip]at w;simp;omega
 rw[aC (by rintro(h1|h1);exact P h1;exact O h1)];refine .hp _ (b1 p.dy rfl) (.r (.hp (l7 (e,a2)) rfl (by rw[bn];exact t) (.ag (.mk _ (t49 h) ?_))));rintro _ h1 ⟨l,rfl⟩;have m:=l _ _ p.dy;have i:=l _ _ p.Xj;have c:=l _ _ p.bs;refine .hp _ (b1 m rfl) ?_;refine .hp _ (b1 c rfl) ?_;have fin:∀z,z=(f&&n)->xX N o j d am ((h1.put j (bb ((s.set v (g1,g2)).map l7).flatten.toArray 167 (0,0))).put d (bb #[dh z] 4 (0,0))) (s.set v (g1,g2)) (f&&n):=λz H=>by
  subst H;exact⟨by rw[J.cD _ _ (mx m c aH),J.cD _ _ (mx m i aH)];exact m,by rw[J.cD _ _ (mx i c aH),J.b8],J.b8 _ _ _,by simp[p.GD],lK p.Rs (lK p.alw (J.le_trans p.le l)),p.alw,p.Rs⟩
 have k:=acV s v (g1,g2) (by rw[p.GD];exact D);cases f;exact .r (.hp j (v*2) 167 _ _ (by rw[add_lit,dZ,bn]) i k (.hp d 0 4 [dh false] [dh false] rfl (by rw[J.cD _ _ (eh (mx i c aH))];exact c) rfl (.ag ⟨rfl,fin false bc⟩)));exact .r (.hp j (v*2) 167 _ _ (by rw[add_lit,dZ,bn]) i k (.hp d 0 4 [dh true] [dh n] rfl (by rw[J.cD _ _ (eh (mx i c aH))];exact c) rfl (.ag ⟨rfl,fin n bc⟩)))
abbrev qU:=List (Nat×Nat)×Bool
def zm(s:qU)(more:Bool)(a:b2):qU×Bool:=
 if(me s a.src.toNat a.dst.toNat a.gm.toNat a.take.toNat).1=true then((me s a.src.toNat a.dst.toNat a.gm.toNat a.take.toNat).2,true)else
 ((me (me s a.src.toNat a.dst.toNat a.gm.toNat a.take.toNat).2 a.dst.toNat a.src.toNat a.take.toNat a.gm.toNat).2,(me (me s a.src.toNat a.dst.toNat a.gm.toNat a.take.toNat).2 a.dst.toNat a.src.toNat a.take.toNat a.gm.toNat).1||more)
def nu(ad:List b2)(b:List Nat)(s:qU):Nat->qU×Bool
 |0=>(s,false)
 |k+1=>match b[k]?with
  |some i=>(match ad[i]?with
   |some a=>zm (nu ad b s k).1 (nu ad b s k).2 a
   |none=>nu ad b s k)
  |none=>nu ad b s k
def r6(ad:List b2)(a:List Nat)(s:qU):qU×Bool:=nu ad a s a.length
def Az(ad:List b2)(a:List Nat):Nat->qU->qU
 |0,s=>s
 |f+1,s=>if(r6 ad a s).2=true/\(r6 ad a s).1.2=true then Az ad a f (r6 ad a s).1 else(r6 ad a s).1
def mS(N:Nat)(home:List Nat)(k:Nat):List (Nat×Nat):=(fJ N).map λv=>if v<k/\home.getD v 0=v then(1,1)else(0,0)
def kl(N:Nat)(ad:List b2):qU:=Az ad (fp N ad) (N+1) (mS N (iB N ad) N,true)
structure Ba(N:Nat)(s:qU):Prop where
 len:s.1.length=N
 EW:∀q∈s.1,AN q
 fit:s.2=true->∀q∈s.1,q.1<=4096/\q.2<=4096/\(q=(0,0)\/0<q.2)
def pv(s:qU):Nat:=s.1.count (0,0)
theorem ag5{l:List α}{i:Nat}{x y:α}(h:y∈l.set i x):y∈l\/y=x:=by
 rcases List.mem_or_eq_of_mem_set h with h|h;exact bQ h;exact ba h
theorem HZ{l:List α}{i:Nat}{d:α}(h:i<l.length):l.getD i d∈l:=by
 rw[cc,bK h];exact b3 h
theorem aqc(l:List (Nat×Nat)):∀u g,u<l.length->l.getD u (0,0)=(0,0)->g≠(0,0)->(l.set u g).count (0,0)+1=l.count (0,0):=by
 induction l with
 |nil=>intro u g h;simp at h
 |cons a l d=>
  intro u g h c b;cases u with
  |zero=>
   have:a=(0,0):=c;subst this;rw[List.set_cons_zero,List.count_cons_of_ne b,List.count_cons_self]
  |succ u=>
   have:=d u g (by simpa using h) (by simpa using c) b;rw[JX,RV,RV];omega
theorem X0{s:qU}(U:Ba N s)(hu:u<N)(l:v<N)(i:y<=64):Ba N (me s u v x y).2/\((me s u v x y).2.2=true->s.2=true/\((me s u v x y).1=false->(me s u v x y).2=s/\(s.1.getD u (0,0)≠(0,0)->s.1.getD v (0,0)≠(0,0)))/\((me s u v x y).1=true->pv (me s u v x y).2<pv s))/\(∀w,s.1.getD w (0,0)≠(0,0)->(me s u v x y).2.1.getD w (0,0)≠(0,0)):=by
 unfold me;split;rename_i av;refine⟨U,λh=>⟨h,λ_=>⟨rfl,λh1 ae=>?_⟩,(λh=>by cases h)⟩,λw h=>h⟩;rcases av with av|av;exact h1 av;exact av ae;rename_i av;have k:v<s.1.length:=by rw[U.len];exact l
 have j:u<s.1.length:=by rw[U.len];exact hu
 have g:s.1.getD v (0,0)=(0,0):=by
  by_cases e:s.1.getD v (0,0)=(0,0);exact e;exact absurd (ba e) av
 have c:=HZ (d:=(0,0)) j;refine⟨⟨by simp[U.len],λq b=>?_,λa q b=>?_⟩,λa=>?_,λw hw=>?_⟩;rcases ag5 b with b|rfl;exact U.EW q b;exact aGz _ _ _;simp only[iv]at a;rcases ag5 b with b|rfl;exact U.fit a.1 q b;have:=aGA a.2;obtain⟨f,a2,_⟩:=U.fit a.1 _ c;exact⟨this.1,this.2,ba (akA a.2 f a2 i)⟩;simp only[iv]at a;refine⟨a.1,(λh=>by rw[a.2]at h;cases h),λ_=>?_⟩;obtain⟨f,a2,_⟩:=U.fit a.1 _ c;have hp:=akA a.2 f a2 i;have:=aqc s.1 v (mC (s.1.getD u (0,0)) x y).1 k g (λe=>by rw[e]at hp;simp at hp);unfold pv;simp only;omega;simp only;rw[cc,ub];split;rename_i e;subst e;exact absurd g hw;rw[<-cc];exact hw
structure Sk(N:Nat)(s dx:qU)(more:Bool):Prop where
 ok:Ba N dx
 mono:∀w,s.1.getD w (0,0)≠(0,0)->dx.1.getD w (0,0)≠(0,0)
 f:dx.2=true->s.2=true/\(more=false->dx=s)/\(more=true->pv dx<pv s)/\pv dx<=pv s
theorem ao6{k s:qU}{more:Bool}(U:Sk N k s more){a:b2}(C:po N a=0):Sk N k (zm s more a).1 (zm s more a).2/\((zm s more a).1.2=true->(zm s more a).2=false->(k.1.getD a.src.toNat (0,0)≠(0,0)↔k.1.getD a.dst.toNat (0,0)≠(0,0)))/\((zm s more a).1.2=true->s.2=true)/\((zm s more a).2=false->more=false):=by
 obtain⟨z0,E,z2,z3,z4,z5,B,A,_⟩:=sT C;obtain⟨m,e,o⟩:=X0 U.ok (u:=a.src.toNat) (v:=a.dst.toNat) (x:=a.gm.toNat) (y:=a.take.toNat) I I I;unfold zm;generalize me s a.src.toNat a.dst.toNat a.gm.toNat a.take.toNat=r at m e o;split;rename_i h1;refine⟨⟨m,λw hw=>o w (U.mono w hw),λb=>?_⟩,(λ_ h=>by cases h),λb=>(e b).1,(λh=>by cases h)⟩;obtain⟨g,c,j⟩:=e b;obtain⟨p,_,_,i⟩:=U.f g;have:=j h1;exact⟨p,(λh=>by cases h),(λ_=>by simp only;omega),by simp only;omega⟩;rename_i h1;have h1:r.1=false:=by simpa using h1
 obtain⟨t1,t2,t3⟩:=X0 m (u:=a.dst.toNat) (v:=a.src.toNat) (x:=a.take.toNat) (y:=a.gm.toNat) I I I;generalize me r.2 a.dst.toNat a.src.toNat a.take.toNat a.gm.toNat=q at t1 t2 t3;refine⟨⟨t1,λw hw=>t3 w (o w (U.mono w hw)),λb=>?_⟩,λb hm=>?_,λb=>(e (t2 b).1).1,λhm=>by simp only[YQ]at hm;exact hm.2⟩;obtain⟨g,c,j⟩:=t2 b;obtain⟨v1,v2,v3⟩:=e g;obtain⟨p,n,D,i⟩:=U.f v1;obtain⟨l,_⟩:=v2 h1;rw[l]at c j;refine⟨p,λh=>?_,λh=>?_,?_⟩;simp only[YQ]at h;exact(c h.1).1.trans (n h.2);cases d:q.1 with
 |true=>have:=j d;simp only;omega
 |false=>
  rw[d]at h;simp only;rw[(c d).1];exact D (by simpa using h)
 cases d:q.1 with
 |true=>have:=j d;simp only;omega
 |false=>simp only;rw[(c d).1];exact i
 simp only[YQ]at hm;obtain⟨g,c,_⟩:=t2 b;obtain⟨v1,v2,_⟩:=e g;obtain⟨l,t⟩:=v2 h1;rw[l]at c;obtain⟨_,z⟩:=c hm.1;obtain⟨_,n,_⟩:=U.f v1;rw[n hm.2]at t z;exact⟨t,z⟩
theorem Xs{N:Nat}{ad:List b2} f{s:qU}(U:Ba N s)(r:∀a∈ad,po N a=0):∀k,Sk N s (nu ad f s k).1 (nu ad f s k).2/\((nu ad f s k).1.2=true->(nu ad f s k).2=false->∀o<k,∀i a,f[o]?=some i->ad[i]?=some a->(s.1.getD a.src.toNat (0,0)≠(0,0)↔s.1.getD a.dst.toNat (0,0)≠(0,0)))
 |0=>⟨⟨U,λ_ h=>h,λh=>⟨h,λ_=>rfl,(λh=>by cases h),dM _⟩⟩,λ_ _ o m=>I⟩
 |k+1=>by
  obtain⟨n,p⟩:=Xs f U r k;unfold nu;split;rename_i i t;split;rename_i a q;obtain⟨h1,ae,u,aT⟩:=ao6 n (r a (List.mem_of_getElem? q));refine⟨h1,λd hm o m j g b c=>?_⟩;by_cases e:o=k;subst e;rw[t]at b;injection b with b;subst b;rw[q]at c;injection c with c;subst c;exact ae d hm;exact p (u d) (aT hm) o I j g b c;refine⟨n,λd hm o m j g b c=>?_⟩;by_cases e:o=k;subst e;rename_i l;rw[t]at b;injection b with b;subst b;rw[l]at c;cases c;exact p d hm o I j g b c;refine⟨n,λd hm o m j g b c=>?_⟩;by_cases e:o=k;subst e;rename_i l;rw[l]at b;cases b;exact p d hm o I j g b c
theorem aj0{N:Nat}{ad:List b2}(j:∀a∈ad,po N a=0) b:∀f s,Ba N s->s.2=true->pv s<f->Ba N (Az ad b f s)/\(∀w,s.1.getD w (0,0)≠(0,0)->(Az ad b f s).1.getD w (0,0)≠(0,0))/\((Az ad b f s).2=true->∀u v,oC ad b u v->((Az ad b f s).1.getD u (0,0)≠(0,0)↔(Az ad b f s).1.getD v (0,0)≠(0,0)))
 |0,s,_,_,h=>by omega
 |f+1,s,U,z,y=>by
  obtain⟨r,x⟩:=Xs b U j b.length;unfold Az;split;rename_i av;have:=(r.f av.2).2.2.1 av.1;unfold r6 at av;obtain⟨q,a2,a3⟩:=aj0 j b f (r6 ad b s).1 r.ok av.2 (by unfold r6;omega);exact⟨q,λw hw=>a2 w (r.mono w hw),a3⟩;rename_i av;refine⟨r.ok,r.mono,λc u v al=>?_⟩;unfold r6 at av c⊢;have hm:(nu ad b s b.length).2=false:=by
   cases e:(nu ad b s b.length).2 with
   |false=>rfl
   |true=>exact absurd ⟨e,c⟩ av
  have m:=(r.f c).2.1 hm;rw[m];obtain⟨i,n,a,l,p⟩:=al;obtain⟨o,k,t⟩:=n4 n;have:=x c hm o k i a (by rw[bK k,t]) l;rcases p with⟨g,d⟩|⟨g,d⟩;rw[<-g,<-d];exact this;rw[<-g,<-d];exact this.symm
theorem Ea N home k:(mS N home k).length=N:=by simp[mS]
theorem aFk{home:List Nat}{k:Nat}(a:v<N):(mS N home k).getD v (0,0)=if v<k/\home.getD v 0=v then(1,1)else(0,0):=by
 rw[mS,cc,de,EG a];rfl
theorem ajJ N home k:Ba N (mS N home k,true):=by
 have key:∀q∈mS N home k,q=(1,1)\/q=(0,0):=λq a=>by
  obtain⟨v,_,rfl⟩:=cO.1 a;split;exact bQ rfl;exact ba rfl
 refine⟨Ea _ _ _,λq a=>?_,λ_ q a=>?_⟩;rcases key q a with rfl|rfl<;>exact⟨aH,aH⟩;rcases key q a with rfl|rfl<;>decide
theorem auP(b:v<N):(iB N ad).getD v 0<=v/\(iB N ad).getD ((iB N ad).getD v 0) 0=(iB N ad).getD v 0/\lp (oC ad (fp N ad)) v ((iB N ad).getD v 0):=by
 have ok:=KN N ad ad.length;have a:∀w,w<N->(iB N ad).getD w 0=lk (g8 N ad ad.length).1 w:=λw hw=>by
  rw[iB,cc,de,EG hw];rfl
 have d:=TC ok v;rw[a v b,a _ I];refine⟨d,?_,TB ok (TM N ad ad.length) v⟩;have root:∀w,(g8 N ad ad.length).1.getD (lk (g8 N ad ad.length).1 w) (lk (g8 N ad ad.length).1 w)=lk (g8 N ad ad.length).1 w:=by
  intro w;induction w using Sd with
  |_ w c=>
   by_cases e:(g8 N ad ad.length).1.getD w w=w;rw[KI e];exact e;have:=ok.le w;rw[<-Oj ok e];exact c _ I
 exact KI (root v)
theorem ap9{p:Nat->Prop}(h:∀u v,L u v->(p u↔p v))(c:lp L u v):p u↔p v:=by
 induction c with
 |refl=>exact Iff.rfl
 |step al _ a=>exact(h _ _ al).trans a
theorem aFF(g:∀a∈ad,po N a=0):Ba N (kl N ad)/\((kl N ad).2=true->∀v,v<N->0<((kl N ad).1.getD v (0,0)).2/\((kl N ad).1.getD v (0,0)).1<=4096/\((kl N ad).1.getD v (0,0)).2<=4096):=by
 have f:pv (mS N (iB N ad) N,true)<N+1:=by
  have:=amp (a:=((0:Nat),(0:Nat))) (l:=mS N (iB N ad) N);rw[Ea]at this;unfold pv;simp only;omega
 obtain⟨U,m,l⟩:=aj0 g (fp N ad) (N+1) (mS N (iB N ad) N,true) (ajJ _ _ _) rfl f;refine⟨U,λc v b=>?_⟩;obtain⟨h1,ae,i⟩:=auP (ad:=ad) b;have h:(kl N ad).1.getD ((iB N ad).getD v 0) (0,0)≠(0,0):=m _ (by
  show(mS N (iB N ad) N).getD _ _≠_;rw[aFk I,aS ⟨I,ae⟩];decide)
 have j:=(ap9 (p:=λu=>(kl N ad).1.getD u (0,0)≠(0,0)) (l c) i).2 h;have e:v<(kl N ad).1.length:=by rw[show(kl N ad).1.length=N from U.len];exact b
 obtain⟨k,a2,a3⟩:=U.fit c _ (HZ (d:=(0,0)) e);refine⟨?_,k,a2⟩;rcases a3 with a3|a3;exact absurd a3 j;exact a3
theorem aA5 m:(madeCells (#[R 0,R 0]:Array aA) (m*2)).toList=((bp m (0,0)).map l7).flatten:=by
 rw[PT (s:=2) rfl m,p7];rfl
theorem aFm N home:mS N home 0=bp N (0,0):=by
 unfold mS;apply List.ext_getElem;simp;intro i h1 ae;simp
theorem aFl{home:List Nat}{k:Nat}(hk:k<N):mS N home (k+1)=if home.getD k 0=k then(mS N home k).set k (1,1)else mS N home k:=by
 have e:∀k v,v<N->(mS N home k)[v]?=some (if v<k/\home.getD v 0=v then(1,1)else(0,0)):=λk v a=>by
  rw[mS,de,EG a];rfl
 have ne:∀k v,¬v<N->(mS N home k)[v]?=none:=λk v a=>l2 (by rw[Ea];omega);apply List.ext_getElem?;intro v;by_cases a:v<N;by_cases c:v=k;subst c;rw[e _ _ a];by_cases b:home.getD v 0=v;rw[aS b,aS ⟨I,b⟩,ub,aS rfl,aS (by rw[Ea];exact hk)];rw[aC b,aC (λh=>b h.2),e _ _ a,aC (λh=>b h.2)];have d:(v<k+1/\home.getD v 0=v)↔(v<k/\home.getD v 0=v):=⟨λh=>⟨I,h.2⟩,λh=>⟨I,h.2⟩⟩;rw[e _ _ a];simp only[d];split;rename_i h1;split;rw[ub,aC (eh c),e _ _ a,aS h1];rw[e _ _ a,aS h1];rename_i h1;split;rw[ub,aC (eh c),e _ _ a,aC h1];rw[e _ _ a,aC h1];rw[ne _ _ a];split;rw[l2 (by rw[fI,Ea];omega)];rw[ne _ _ a]
def ZJ(h:J)(N:Nat)(s:qU)(v:aA)(a:J):Prop:=h.le a/\∃g,v=eA #[ab (some ⟨g,0,none⟩) N N,dh s.2]/\a g=some (bb (s.1.map l7).flatten.toArray 167 (0,0))
theorem aFE(N n O c:Nat) A T H ad h(Z:bg h 5 A n (ad.map b2.cells))(an:fF N ad=0)(qG:bg h 1 T (fp N ad).length ((fp N ad).map λz:Nat=>[R z]))(AB:bg h 1 (some H) N ((iB N ad).map λz:Nat=>[R z])):Fn aD 47 #[nQ N A n O,.agg #[ab T (fp N ad).length c,ab (some H) N N]] h λv o=>ZJ h N (kl N ad) v o:=by
 have al:ad.length=n:=by simpa using Z.len
 obtain⟨KY,w6,yp,e7⟩:=mM an;have F7:(iB N ad).length=N:=by simp[iB]
 have sJ:(fp N ad).length<=ad.length:=Oq N ad ad.length;refine bU azx rfl (.mk N rfl rfl I I λe6=>?_);refine .mk Nat [2,3,6,19,20,21] (λk=>[.p 0 0,.p 1 0,.p 3 0,.v (ab (some H) N N),.v (R N),.v (R k)]) (λk=>[.own [.v (R N),.v (ab A n O)] 33,.own [.v (ab T (fp N ad).length c),.v (ab (some H) N N)] 159,.row 167 2 (some e6) N N ((mS N (iB N ad) k).map l7).flatten,.own [.v (ab (some e6) N N)] 162]) (λk o=>o=h/\k<=N) (λk=>N-k) 0 (λ_=>rfl) ⟨rfl,cU _⟩ rfl (by rw[aFm,<-aA5];rfl) ?_;rintro k e h1 ⟨rfl,hk⟩;refine aW (λaO=>?_) (λaO=>?_);have t:k<N:=I;have zr:h1.cell? (H.add (k*1))=some (R ((iB N ad).getD k 0:Nat)):=by
  have kf:k<(iB N ad).length:=I;rw[cc,bK kf];exact AB.one rfl (i:=k) (jx kf) rfl
 have P:=aFl (home:=iB N ad) t;refine .m H rfl ?_;refine .hp _ (by rw[bn];exact zr) ?_;refine aW (λaG=>?_) (λaG=>?_);rw[aS I]at P;exact .m e6 rfl (.row 2 167 2 e6 N N _ ((mS N (iB N ad) (k+1)).map l7).flatten (k*2) rfl (by rw[bn]) (by rw[P];exact acV _ k (1,1) (by rw[Ea];exact t)) (.bl (⟨k+1,rfl,rfl,⟨rfl,t⟩,by show N- (k+1)<N-k;omega⟩)));rw[aC I]at P;exact .bl (⟨k+1,rfl,by simp only[P];rfl,⟨rfl,t⟩,by show N- (k+1)<N-k;omega⟩);have BI:N=k:=I;subst BI;refine .mk λd X=>.mk λb E=>?_;have tJ:=J.d' (U:=bb #[ab (some e6) N N] 162 (0,0)) X;have z':=J.d' (U:=bb #[dh true] 4 (0,0)) E;have Rs:h1 b=none:=J.none_le tJ E;have S:=J.le_trans tJ z';have e0:=z' _ _ (J.b8 h1 d (bb #[ab (some e6) N N] 162 (0,0)));have dS:=J.b8 (h1.put d (bb #[ab (some e6) N N] 162 (0,0))) b (bb #[dh true] 4 (0,0));refine .jG (.b5 2 167 2 (some e6) N N _ rfl λae M pX uq=>.ag ?_);have zf:=M _ _ e0;have wH:=M _ _ dS;have YE:=J.none_le S (uq _ rfl);have fg:=J.le_trans S M;obtain⟨_,pX|⟨B,be,mn,ng,_,_,gq,pc⟩⟩:=pX;cases pX.1;injection mn with mn;subst mn;have WH:be=((mS N (iB N ad) N).map l7).flatten.toArray:=by
  rw[mJ (by simp[gq])]at pc;rw[<-GV (xs:=be),pc]
 have Hg:xX N d B b h1 ae (mS N (iB N ad) N) true:=⟨zf,by rw[ng,WH],wH,Ea _ _ _,fg,YE,Rs⟩;have V:=ajJ N (iB N ad) N;have a7:pv (mS N (iB N ad) N,true)<N+1:=by
  have:=amp (a:=((0:Nat),(0:Nat))) (l:=mS N (iB N ad) N);rw[Ea]at this;unfold pv;simp only;omega
 clear zf wH e0 dS tJ z' S uq M fg;refine .mk (Nat×qU×Bool) [2,3,6,9,10,11] (λ(_,_,m)=>[.p 0 0,.p 1 0,.p 3 0,.p 4 0,.v (.func (.func 108) #[] #[gR (some ⟨d,0,none⟩),gR (some ⟨b,0,none⟩)]),.v (dh m)]) (λ_=>[.own [.v (R N),.v (ab A n O)] 33,.own [.v (ab T (fp N ad).length c),.v (ab (some H) N N)] 159,.gone,.b5 d,.b5 b]) (λ(f,s,m) o=>xX N d B b h1 o s.1 s.2/\Ba N s/\((m=true/\s.2=true/\pv s<f/\Az ad (fp N ad) f s=kl N ad)\/((m=false\/s.2=false)/\s=kl N ad))) (λ(f,_,m)=>if m=true then f+1 else 0) (N+1,(mS N (iB N ad) N,true),true) (λ_=>rfl) ⟨Hg,V,bQ ⟨rfl,rfl,a7,rfl⟩⟩ rfl rfl ?_;rintro⟨f,s,m⟩ di ax ⟨p,U,hm⟩;rcases hm with⟨rfl,mu,aJ2,C⟩|⟨Y,C⟩;have bs:=p.bs;rw[mu]at bs;refine .hp _ (b1 bs rfl) ?_;obtain⟨f,rfl⟩:∃g,f=g+1:=⟨f-1,I⟩;have dt:=Xs (fp N ad) U e7;refine .mk Nat [2,3,6,9,10,11,40,41,42] (λk=>[.p 0 0,.p 1 0,.p 3 0,.p 4 0,.v (.func (.func 108) #[] #[gR (some ⟨d,0,none⟩),gR (some ⟨b,0,none⟩)]),.v (dh (nu ad (fp N ad) s k).2),.v (ab T (fp N ad).length c),.v (R (fp N ad).length),.v (R k)]) (λ_=>[.own [.v (R N),.v (ab A n O)] 33,.own [.v (ab T (fp N ad).length c),.v (ab (some H) N N)] 159,.gone,.b5 d,.b5 b]) (λk o=>xX N d B b h1 o (nu ad (fp N ad) s k).1.1 (nu ad (fp N ad) s k).1.2/\k<=(fp N ad).length) (λk=>(fp N ad).length-k) 0 (λ_=>rfl) ⟨p,cU _⟩ rfl rfl ?_;refineλk fV aT⟨D,aJA⟩=>aW (λcp=>?_) (λcp=>?_);have t:k<(fp N ad).length:=I;have L:=Yk N ad ad.length _ (b3 t);have FW:(fp N ad)[k]?=some (fp N ad)[k]:=bK t;obtain⟨g,ak⟩:=qG.b4 I;obtain⟨e6,vI⟩:=Z.b4 I;have kS:=(qG.mono D.le).one ak (jx t) rfl;generalize(fp N ad)[k]=x at L FW kS;have ou:=(Z.mono D.le).row vI (jx L);have vQ:=sT (e7 ad[x] (b3 L));have Fu:ad[x]?=some ad[x]:=bK L;have j:nu ad (fp N ad) s (k+1)=zm (nu ad (fp N ad) s k).1 (nu ad (fp N ad) s k).2 ad[x]:=by rw[nu,FW];simp only[Fu]
 have hO:=(dt k).1.ok;generalize ad[x]=a at ou vQ Fu j;obtain⟨fW,s1,d0,d1,g0,g1,t0,t1,_⟩:=vQ;obtain⟨F,_,_⟩:=X0 hO (u:=a.src.toNat) (v:=a.dst.toNat) (x:=a.gm.toNat) (y:=a.take.toNat) I I I;have st1:=aj7 N d B b a.src.toNat a.dst.toNat a.gm.toNat a.take.toNat h1 aT _ _ D I I I I I hO.EW;have st2:=λG(K:qU)(Q:xX N d B b h1 G K.1 K.2)(mL:∀q∈K.1,AN q)=>aj7 N d B b a.dst.toNat a.src.toNat a.take.toNat a.gm.toNat h1 G K.1 K.2 Q I I I I I mL;rw[p6 fW,p6 d0,p6 (show 0<=a.gm by omega),p6 (show 0<=a.take by omega)]at st1;simp only[p6 fW,p6 d0,p6 (show 0<=a.gm by omega),p6 (show 0<=a.take by omega)]at st2;unfold zm at j;generalize DB:(nu ad (fp N ad) s k).2=m0 at j;have st1:Fn aD 108 #[R a.src,R a.dst,R a.gm,R a.take,gR (some ⟨d,0,none⟩),gR (some ⟨b,0,none⟩)] aT λr o=>r=dh (me (nu ad (fp N ad) s k).1 a.src.toNat a.dst.toNat a.gm.toNat a.take.toNat).1/\xX N d B b h1 o (me (nu ad (fp N ad) s k).1 a.src.toNat a.dst.toNat a.gm.toNat a.take.toNat).2.1 (me (nu ad (fp N ad) s k).1 a.src.toNat a.dst.toNat a.gm.toNat a.take.toNat).2.2:=st1;generalize me (nu ad (fp N ad) s k).1 a.src.toNat a.dst.toNat a.gm.toNat a.take.toNat=w at F st1 j;obtain⟨g6,w⟩:=w;refine .m g ak (.hp (R x) (by rw[bn];exact kS) (.m e6 vI (.hp a.cells rfl (by rw[bn];exact ou) (.ag (.mk _ st1 ?_)))));rintro _ G ⟨rfl,Q⟩;cases g6;have st2:Fn aD 108 #[R a.dst,R a.src,R a.take,R a.gm,gR (some ⟨d,0,none⟩),gR (some ⟨b,0,none⟩)] G λr o=>r=dh (me w a.dst.toNat a.src.toNat a.take.toNat a.gm.toNat).1/\xX N d B b h1 o (me w a.dst.toNat a.src.toNat a.take.toNat a.gm.toNat).2.1 (me w a.dst.toNat a.src.toNat a.take.toNat a.gm.toNat).2.2:=st2 G w Q F.EW;simp only[Bool.false_eq_true,nk]at j;generalize me w a.dst.toNat a.src.toNat a.take.toNat a.gm.toNat=z at st2 j;obtain⟨YF,z⟩:=z;refine .ag (.mk _ st2 ?_);rintro _ eX ⟨rfl,Mk⟩;cases YF;refine .bl ?_;refine⟨k+1,?_,rfl,⟨by rw[j];exact Mk,t⟩,by show(fp N ad).length- (k+1)<(fp N ad).length-k;omega⟩;rw[j,<-DB];rfl;refine .bl ?_;refine⟨k+1,?_,rfl,⟨by rw[j];exact Mk,t⟩,by show(fp N ad).length- (k+1)<(fp N ad).length-k;omega⟩;rw[j];rfl;simp only[mO]at j;refine .bl ?_;refine⟨k+1,?_,rfl,⟨by rw[j];exact Q,t⟩,by show(fp N ad).length- (k+1)<(fp N ad).length-k;omega⟩;rw[j];rfl;have ql:k=(fp N ad).length:=I;have hO:=(dt k).1;have W:nu ad (fp N ad) s k=r6 ad (fp N ad) s:=by rw[ql];rfl
 rw[W]at hO D;rw[Az]at C;by_cases av:(r6 ad (fp N ad) s).2=true/\(r6 ad (fp N ad) s).1.2=true;rw[aS av]at C;have:=(hO.f av.2).2.2.1 av.1;exact⟨(f,(r6 ad (fp N ad) s).1,(r6 ad (fp N ad) s).2),by rw[W];rfl,rfl,⟨D,hO.ok,bQ ⟨av.1,av.2,I,C⟩⟩,by simp only[av.1,mO];omega⟩;rw[aC av]at C;refine⟨(0,(r6 ad (fp N ad) s).1,(r6 ad (fp N ad) s).2),by rw[W];rfl,rfl,⟨D,hO.ok,ba ⟨?_,C⟩⟩,?_⟩;cases h1:(r6 ad (fp N ad) s).2 with
 |false=>exact bQ rfl
 |true=>
  cases ae:(r6 ad (fp N ad) s).1.2 with
  |false=>exact ba rfl
  |true=>exact absurd ⟨h1,ae⟩ av
 simp only[mO];split<;>omega;have fin:ZJ h1 N (kl N ad) (eA #[ab (some ⟨B,0,none⟩) N N,dh s.2]) ax:=⟨p.le,B,by rw[C],by rw[<-C];exact p.Xj⟩;cases m;exact .hp _ (b1 p.dy rfl) (.hp _ (b1 p.bs rfl) (.ag fin));have mu:s.2=false:=by
  rcases Y with h|h;cases h;exact h
 have bs:=p.bs;rw[mu]at bs;exact .hp _ (b1 bs rfl) (.hp _ (b1 p.dy rfl) (.hp _ (b1 p.bs rfl) (.ag fin)))
def B0(home:List Nat)(s:List (Nat×Nat))(hm:Nat):Nat->Option Nat
 |0=>some 1
 |v+1=>match B0 home s hm v with
  |none=>none
  |some k=>if home.getD v 0=hm then(if 4096<xj k (s.getD v (0,0)).2 then none else some (xj k (s.getD v (0,0)).2))else some k
def wb(home:List Nat)(s:List (Nat×Nat))(hm k:Nat)(r:List Nat):Nat->Option (List Nat)
 |0=>some r
 |v+1=>match wb home s hm k r v with
  |none=>none
  |some r=>if home.getD v 0=hm then(if 4096<k/(s.getD v (0,0)).2*(s.getD v (0,0)).1 then none else some (r.set v (k/(s.getD v (0,0)).2*(s.getD v (0,0)).1)))else some r
def D6(N:Nat)(home:List Nat)(s:List (Nat×Nat))(hm:Nat)(r:List Nat):Option (List Nat):=match B0 home s hm N with
 |none=>none
 |some k=>wb home s hm k r N
theorem agd{home:List Nat}{s:List (Nat×Nat)}{hm:Nat}:∀d v,B0 home s hm v=none->B0 home s hm (v+d)=none
 |0,v,h=>h
 |d+1,v,h=>by
  have:=agd d v h;show B0 home s hm (v+d+1)=none;rw[B0,this]
theorem ai2{home:List Nat}{s:List (Nat×Nat)}{hm k:Nat}{r:List Nat}:∀d v,wb home s hm k r v=none->wb home s hm k r (v+d)=none
 |0,v,h=>h
 |d+1,v,h=>by
  have:=ai2 d v h;show wb home s hm k r (v+d+1)=none;rw[wb,this]
structure wI(N fr:Nat)(am h:J)(r:List Nat):Prop where
 qV:h fr=some (bb (r.map λz:Nat=>R (z:Int)).toArray 3 (0,0))
 len:r.length=N
 le:am.le h
 z:am fr=none
theorem wI.up{b:Nat}{a:J}{r:List Nat}(p:wI N b am h r)(le:h.le a):wI N b am a r:=⟨le _ _ p.qV,p.len,J.le_trans p.le le,p.z⟩
theorem aE9(N g hm c cK:Nat)(T:Option aE)(S H:aE)(home:List Nat)(s:List (Nat×Nat))(am h:J)(r:List Nat)(p:wI N g am h r)(dX:N<=32)(xB:wK am)(P:bg am 1 (some H) N (home.map λz:Nat=>[R (z:Int)]))(V:bg am 2 (some S) N (s.map l7))(Y:∀v,v<N->0<(s.getD v (0,0)).2/\(s.getD v (0,0)).1<=4096/\(s.getD v (0,0)).2<=4096):
 Fn aD 48 #[.agg #[ab T cK c,ab (some H) N N],ab (some S) N N,R hm,ab (some ⟨g,0,none⟩) N N] h λv o=>match D6 N home s hm r with
  |some b=>v=dh true/\wI N g am o b
  |none=>v=dh false/\∃b,wI N g am o b:=by
 refine bU azy rfl ?_
 have F7:home.length=N:=by simpa using P.len
 have tJ:s.length=N:=by simpa using V.len
 have zr:∀{h1:J}{v:Nat},am.le h1->v<N->h1.cell? (H.add (v*1))=some (R (home.getD v 0:Nat)):=λ{h1 v} le a=>by
  have A:v<home.length:=I;rw[cc,bK A];exact(P.mono le).one rfl (i:=v) (jx A) rfl
 have u:∀{h1:J}{v:Nat},am.le h1->v<N->h1.cell? ((S.add (v*2)).add 0)=some (R ((s.getD v (0,0)).1:Nat))/\h1.cell? ((S.add (v*2)).add 1)=some (R ((s.getD v (0,0)).2:Nat)):=λ{h1 v} le a=>by
  have A:v<s.length:=I;rw[cc,bK A];have:=(V.mono le).row rfl (i:=v) (jx A);exact⟨this 0 _ rfl,this 1 _ rfl⟩
 refine .mk (Nat×Nat) [1,2,3,4,9,17,18,19] (λ(v,k)=>[.v (ab (some S) N N),.v (R hm),.v (ab (some ⟨g,0,none⟩) N N),.p 0 0,.v (R k),.v (ab (some H) N N),.v (R N),.v (R v)]) (λ_=>[.own [.v (ab T cK c),.v (ab (some H) N N)] 159]) (λ(v,k) o=>wI N g am o r/\v<=N/\k<=4096/\B0 home s hm v=some k) (λ(v,_)=>N-v) (0,1) (λ_=>rfl) ⟨p,cU _,aH,rfl⟩ rfl rfl ?_
 rintro⟨v,k⟩ e h1 ⟨p,avk,hk,X⟩
 refine aW (λq=>?_) (λq=>?_)
 have a:v<N:=I
 have n:B0 home s hm (v+1)=if home.getD v 0=hm then(if 4096<xj k (s.getD v (0,0)).2 then none else some (xj k (s.getD v (0,0)).2))else some k:=by rw[B0,X]
 obtain⟨D,C,t⟩:=Y v a
 obtain⟨c1,c2⟩:=u p.le a
 refine .m H rfl ?_
 refine .hp _ (by rw[bn];exact zr p.le a) ?_
 refine aW (λF=>?_) (λF=>?_)
 rw[aC I]at n
 exact .bl (⟨(v+1,k),rfl,rfl,⟨p,a,hk,n⟩,by show N- (v+1)<N-v;omega⟩)
 rw[aS I]at n
 generalize s.getD v (0,0)=f at n D C t c1 c2
 obtain⟨f1,f2⟩:=f
 have W:=aAs hk t
 have y:=λB ae=>aAr k f2 B ae hk t
 simp only at n W
 generalize xj k f2=l at n W y
 refine .m S rfl (.hp (R f2) (by rw[bn];exact c2) (.mk λB cy=>.ag (.mk _ (y B _ (xB.mono (J.le_trans p.le (J.d' cy))) (J.b8 _ _ _)) ?_)))
 rintro _ _ ⟨rfl,rfl⟩
 have je:=p.up (J.d' (U:=bb #[R k,R f2] 3 (0,0)) cy)
 refine aW (λL=>?_) (λL=>?_)
 rw[aS I]at n
 have O:D6 N home s hm r=none:=by
  have:=agd (N- (v+1)) _ n;rw[show v+1+(N- (v+1))=N by omega]at this;rw[D6,this]
 refine .ag ?_
 rw[O]
 exact⟨rfl,r,je⟩
 rw[aC I]at n
 exact .bl (⟨(v+1,l),rfl,rfl,⟨je,a,I,n⟩,by show N- (v+1)<N-v;omega⟩)
 have Va:v=N:=I
 subst Va
 have qd:D6 v home s hm r=wb home s hm k r v:=by rw[D6,X]
 refine .mk (Nat×List Nat) [1,2,3,9,47,48,49] (λ(w,_)=>[.v (ab (some S) v v),.v (R hm),.v (ab (some ⟨g,0,none⟩) v v),.v (R k),.v (ab (some H) v v),.v (R v),.v (R w)]) (λ_=>[]) (λ(w,b) o=>wI v g am o b/\w<=v/\wb home s hm k r w=some b) (λ(w,_)=>v-w) (0,r) (λ_=>rfl) ⟨p,cU _,rfl⟩ rfl rfl ?_
 rintro⟨w,b⟩ aR ae ⟨p,aJZ,dt⟩
 refine aW (λF=>?_) (λF=>?_)
 have a:w<v:=I
 have j:wb home s hm k r (w+1)=if home.getD w 0=hm then(if 4096<k/(s.getD w (0,0)).2*(s.getD w (0,0)).1 then none else some (b.set w (k/(s.getD w (0,0)).2*(s.getD w (0,0)).1)))else some b:=by rw[wb,dt]
 obtain⟨D,C,t⟩:=Y w a
 obtain⟨c1,c2⟩:=u p.le a
 refine .m H rfl ?_
 refine .hp _ (by rw[bn];exact zr p.le a) ?_
 refine aW (λL=>?_) (λL=>?_)
 rw[aS I]at j
 generalize s.getD w (0,0)=f at j D C t c1 c2
 obtain⟨f1,f2⟩:=f
 simp only at D C t c1 c2 j
 have Z:k/f2<=4096:=lf (pz _ _) hk
 have pM:k/f2*f1<=4096*4096:=mh Z C
 have Q:(k:Int).tdiv f2=((k/f2:Nat):Int):=by rw[Int.tdiv_eq_ediv_of_nonneg I];simp
 generalize k/f2=d at Z pM Q j
 have xa:(d:Int)*f1=((d*f1:Nat):Int):=bc
 generalize d*f1=x at pM xa j
 refine .m S rfl (.hp (R f2) (by rw[bn];exact c2) (.mk I ?_))
 rw[Q]
 refine .bl (.m S rfl (.hp (R f1) (by rw[bn];exact c1) ?_))
 conv=>whnf
 rw[xa]
 refine .bl (.r ?_)
 have E:over (b.map λz:Nat=>R (z:Int)) w [R x]=some ((b.set w x).map λz:Nat=>R (z:Int)):=by rw[io _ _ _ (by simp[p.len];exact a),kB]
 refine .hp g w 3 _ _ (by rw[add_lit,dZ,bn,e4]) p.qV E ?_
 have M:wI v g am (ae.put g (bb ((b.set w x).map λz:Nat=>R (z:Int)).toArray 3 (0,0))) (b.set w x):=⟨J.b8 _ _ _,by simp[p.len],lK p.z p.le,p.z⟩
 have G:(ae.put g (bb ((b.set w x).map λz:Nat=>R (z:Int)).toArray 3 (0,0))).cell? ((oA g 0 none).add (w*1))=some (R x):=by
  rw[add_lit,dZ,e4];exact b1 M.qV (by rw[de,ub,aS rfl,aS (by rw[p.len];exact a)];rfl)
 refine .r (.hp (R x) (by rw[bn];exact G) (aW (λcp=>?_) (λcp=>?_)))
 rw[aS I]at j
 have O:wb home s hm k r v=none:=by
  have:=ai2 (v- (w+1)) _ j;rw[show w+1+(v- (w+1))=v by omega]at this;exact this
 refine .ag ?_
 rw[qd,O]
 exact⟨rfl,_,M⟩
 rw[aC I]at j
 exact .bl (⟨(w+1,_),rfl,rfl,⟨M,a,j⟩,by show v- (w+1)<v-w;omega⟩)
 rw[aC I]at j
 exact .bl (⟨(w+1,b),rfl,rfl,⟨p,a,j⟩,by show v- (w+1)<v-w;omega⟩)
 have K:w=v:=I
 subst K
 refine .ag ?_
 rw[qd,dt]
 exact⟨rfl,p⟩
def qE(N:Nat)(ad:List b2):Nat->Option (List Nat)
 |0=>if(kl N ad).2=true then some (bp N 0)else none
 |v+1=>match qE N ad v with
  |none=>none
  |some r=>if(iB N ad).getD v 0=v then D6 N (iB N ad) (kl N ad).1 v r else some r
def E6(s:List (Nat×Nat))(a:b2):Bool:=(mC (s.getD a.src.toNat (0,0)) a.gm.toNat a.take.toNat).2&&decide ((mC (s.getD a.src.toNat (0,0)) a.gm.toNat a.take.toNat).1=s.getD a.dst.toNat (0,0))
def xy(N:Nat)(ad:List b2):Option (List Nat):=if fF N ad=0 then(match qE N ad N with
 |none=>none
 |some r=>if(ad.all (E6 (kl N ad).1))=true then some r else none)else none
def anz(h:J)(N:Nat)(ad:List b2)(v:aA)(a:J):Prop:=h.le a/\match xy N ad with
 |some r=>r.length=N/\∃au,v=eA #[.agg #[bC .u8 1,ab (some au) N N,ab none 0 0],R 0]/\bg a 1 (some au) N (r.map λz:Nat=>[R (z:Int)])
 |none=>∃(k e:Int)(bM:Option aE)(b rc:Nat)(c:Option aE)(d jW:Nat),v=eA #[.agg #[bC .u8 k,ab bM b rc,ab c d jW],R e]/\¬(k=1/\e=0)
theorem asd{s:List (Nat×Nat)}(b:h g=some (bb (s.map l7).flatten.toArray 167 (0,0)))(al:s.length=N):bg h 2 (some ⟨g,0,none⟩) N (s.map l7):=by
 refine⟨by simpa using al,TO s,λ_=>⟨_,rfl⟩,λe a i r d o v c=>?_⟩;injection a with a;subst a;rw[add_lit,dZ];exact b1 b (Fc (size:=2) (s.map l7) (TO s) i o r v d c)
theorem ahF{s:List Nat}(f:h g=some (bb (s.map λz:Nat=>R z).toArray 3 (0,0)))(al:s.length=N):bg h 1 (some ⟨g,0,none⟩) N (s.map λz:Nat=>[R z]):=by
 refine⟨by simpa using al,λr b=>by obtain⟨p,_,rfl⟩:=cO.1 b;rfl,λ_=>⟨_,rfl⟩,λj c i r b o v a=>?_⟩;injection c with c;subst c;rw[add_lit,dZ];rw[de,zc]at b;obtain⟨z,d,rfl⟩:=b;have e:o=0:=by
  have:=(qO.1 a).1;simp at this;omega
 subst e;injection a with a;subst a;exact b1 f (by rw[de,e4,A6,d];rfl)
theorem aFu(N n s:Nat) A ad h(D:bg h 5 A n (ad.map b2.cells))(aF:n<=9223372036854775806)(xB:wK h):Fn aD 22 #[nQ N A n s] h λv C=>anz h N ad v C:=by
 have al:ad.length=n:=by simpa using D.len
 refine bU ay3 rfl (.ag (.mk _ (ahR N n s A ad h D aF) (λ_ h1⟨U,f1,f2⟩=>?_)));by_cases j:fF N ad≠0;obtain rfl:=f1 j;refine aW (λq=>?_) (λq=>absurd j q);exact .ag ⟨U,by rw[xy,aC j];exact⟨0,fF N ad,_,_,_,_,_,_,rfl,λh=>absurd h.1 aH⟩⟩;have j:=kc.1 j;obtain⟨T,c,H,rfl,qG,X⟩:=f2 j;obtain⟨KY,w6,yp,e7⟩:=mM j;have F7:(iB N ad).length=N:=by simp[iB]
 obtain⟨hO,as8⟩:=aFF e7;refine .ag (.mk _ (aFE N n s c A T H ad h1 (D.mono U) j qG X) ?_);rintro _ ae ⟨S,W,rfl,at8⟩;have MM:=asd at8 hO.len;refine .one N (R 0) rfl rfl rfl rfl I I λe6=>.jG (.b5 3 3 1 (some e6) N N _ rfl λax d7 pX uq=>.ag ?_);obtain⟨_,pX|⟨t,be,mn,ng,_,_,gq,pc⟩⟩:=pX;cases pX.1;injection mn with mn;subst mn;have aIi:=uq _ rfl;have WH:be=((bp N 0).map λz:Nat=>R (z:Int)).toArray:=by
  rw[mJ (by simp[gq])]at pc;rw[<-GV (xs:=be),pc,p7];rfl
 have Hg:wI N t ae ax (bp N 0):=⟨by rw[ng,WH],bc,d7,aIi⟩;have aHo:=xB.mono (J.le_trans U S);refine .mk Nat [1,2,4,6,7,8,36,37,38] (λv=>[.p 0 0,.p 1 0,.p 2 0,.v (ab (some ⟨W,0,none⟩) N N),.v (dh (qE N ad v).isSome),.v (ab (some ⟨t,0,none⟩) N N),.v (ab (some H) N N),.v (R N),.v (R v)]) (λ_=>[.own [.v (R N),.v (ab A n s)] 33,.own [.v (bC .u8 0),.v (ab none 0 0),.v (ab none 0 0)] 80,.own [.v (ab T (fp N ad).length c),.v (ab (some H) N N)] 159]) (λv C=>v<=N/\match qE N ad v with|some r=>wI N t ae C r|none=>∃r,wI N t ae C r) (λv=>N-v) 0 (λ_=>rfl) ⟨cU _,?_⟩ ?_ rfl ?_;unfold qE;split;rename_i r L;split at L;injection L with L;subst L;exact Hg;cases L;exact⟨_,Hg⟩;have:(qE N ad 0).isSome=(kl N ad).2:=by
  unfold qE;cases(kl N ad).2<;>rfl
 rw[this];rfl;rintro v e aT ⟨ao,b⟩;have c3:ae.le aT:=by
  split at b;exact b.le;obtain⟨r,b⟩:=b;exact b.le
 refine aW (λq=>?_) (λq=>?_);have V:v<N:=I;have zr:aT.cell? (H.add (v*1))=some (R ((iB N ad).getD v 0:Nat)):=by
  have M:v<(iB N ad).length:=I;rw[cc,bK M];exact(X.mono (J.le_trans S c3)).one rfl (i:=v) (jx M) rfl
 have f:qE N ad (v+1)=match qE N ad v with
  |none=>none
  |some r=>if(iB N ad).getD v 0=v then D6 N (iB N ad) (kl N ad).1 v r else some r:=rfl
 generalize(iB N ad).getD v 0=w at zr f;refine .m H rfl (.hp _ (by rw[bn];exact zr) ?_);cases hk:qE N ad v with
 |none=>
  rw[hk]at b f;exact .bl (⟨v+1,by rw[f];rfl,rfl,⟨V,by rw[f];exact b⟩,by show N- (v+1)<N-v;omega⟩)
 |some r=>
  rw[hk]at b f;simp only at f b;refine aW (λaG=>?_) (λaG=>?_);have qo:v=w:=I;subst qo;rw[aS rfl]at f;have bf:(kl N ad).2=true:=by
   have key:∀v r,qE N ad v=some r->(kl N ad).2=true:=by
    intro v;induction v with
    |zero=>
     intro r h;unfold qE at h;split at h;assumption;cases h
    |succ v bI=>
     intro r h;unfold qE at h;split at h;cases h;rename_i dY rT;exact bI dY rT
   exact key v r hk
  have aEZ:=aE9 N t v c (fp N ad).length T ⟨W,0,none⟩ H (iB N ad) (kl N ad).1 ae aT r b I aHo (X.mono S) MM (as8 bf);refine .ag (.mk _ aEZ (λXH cr k=>?_));rw[<-f]at k;cases G:qE N ad (v+1)with
  |none=>
   rw[G]at k;obtain⟨rfl,k⟩:=k;exact .bl (⟨v+1,by rw[G];rfl,rfl,⟨V,by rw[G];exact k⟩,by show N- (v+1)<N-v;omega⟩)
  |some dS=>
   rw[G]at k;obtain⟨rfl,k⟩:=k;exact .bl (⟨v+1,by rw[G];rfl,rfl,⟨V,by rw[G];exact k⟩,by show N- (v+1)<N-v;omega⟩)
  rw[aC I]at f;exact .bl (⟨v+1,by rw[f];rfl,rfl,⟨V,by rw[f];exact b⟩,by show N- (v+1)<N-v;omega⟩)
 have Va:N=v:=I;subst Va;have d:xy N ad=match qE N ad N with
  |none=>none
  |some r=>if(ad.all (E6 (kl N ad).1))=true then some r else none:=by rw[xy,aS j]
 have P:h.le aT:=J.le_trans U (J.le_trans S c3);cases hk:qE N ad N with
 |none=>
  rw[hk]at d;exact .ag ⟨P,by rw[d];exact⟨3,0,_,_,_,_,_,_,rfl,λh=>absurd h.1 aH⟩⟩
 |some r=>
  rw[hk]at d b;simp only at d b;refine .mk Nat [1,2,6,8,59,60,61] (λi=>[.p 0 0,.p 1 0,.v (ab (some ⟨W,0,none⟩) N N),.v (ab (some ⟨t,0,none⟩) N N),.v (ab A n s),.v (R n),.v (R i)]) (λ_=>[.own [.v (R N),.v (ab A n s)] 33,.own [.v (bC .u8 0),.v (ab none 0 0),.v (ab none 0 0)] 80]) (λi C=>aT.le C/\i<=n/\∀a∈ad.take i,E6 (kl N ad).1 a=true) (λi=>n-i) 0 (λ_=>rfl) ⟨J.le_refl _,cU _,bc⟩ rfl rfl ?_;refineλi aR cr⟨E,ai,dp⟩=>aW (λbt=>?_) (λbt=>?_)
  .have cX:i<ad.length:=I;obtain⟨g,ak⟩:=D.b4 I;have ou:=(D.mono (J.le_trans P E)).row ak (jx cX);have pN:=b3 cX;have vQ:=sT (e7 ad[i] pN);have kT:ad.take (i+1)=ad.take i++[ad[i]]:=lz cX;generalize ad[i]=a at ou vQ kT pN;obtain⟨fW,s1,d0,d1,g0,g1,t0,t1,_⟩:=vQ;have GD:∀u,u<N->∀o v,(l7 ((kl N ad).1.getD u (0,0)))[o]?=some v->cr.cell? (((oA W 0 none).add (u*2)).add o)=some v:=λu hu o v Q=>by
    have M:u<(kl N ad).1.length:=by rw[hO.len];exact hu
    rw[cc,bK M]at Q;exact(MM.mono (J.le_trans c3 E)).row rfl (i:=u) (jx M) o v Q
   have rs:=GD a.src.toNat I;have rd:=GD a.dst.toNat I;have EW:AN ((kl N ad).1.getD a.src.toNat (0,0)):=hO.EW _ (HZ (by rw[hO.len];omega));have K:E6 (kl N ad).1 a=((mC ((kl N ad).1.getD a.src.toNat (0,0)) a.gm.toNat a.take.toNat).2&&decide ((mC ((kl N ad).1.getD a.src.toNat (0,0)) a.gm.toNat a.take.toNat).1=(kl N ad).1.getD a.dst.toNat (0,0))):=rfl;have w7:E6 (kl N ad).1 a=false->(ad.all (E6 (kl N ad).1))=false:=λh=>RT.2 ⟨a,pN,by simp[h]⟩;generalize(kl N ad).1.getD a.src.toNat (0,0)=x at rs EW K;generalize(kl N ad).1.getD a.dst.toNat (0,0)=y at rd K;have t49:=akz x a.gm.toNat a.take.toNat cr EW I I I;rw[p6 (show 0<=a.gm by omega),p6 (show 0<=a.take by omega)]at t49;generalize mC x a.gm.toNat a.take.toNat=z at t49 K;obtain⟨⟨jS,z2⟩,YF⟩:=z;obtain⟨fT,gJ⟩:=y;obtain⟨hn,fu⟩:=x;have Z:=λeX(ks:h.le eX)=>aDd N n s a.dst.toNat a.src.toNat A ad eX (D.mono ks) aF I I;simp only[p6 fW,p6 d0]at Z;refine .m g ak (.hp a.cells rfl (by rw[bn];exact ou) (.r (.hp (l7 (hn,fu)) rfl rs (⟨?_,?_⟩))));all_goals refine .mk _ t49 (λv ae q=>q.1) ?_
   all_goals rintro _ eX ⟨im,rfl⟩
   all_goals have F:=J.le_trans P (J.le_trans E im)
   all_goals cases YF
   all_goals conv=>whnf
   all_goals first
    |(
     refine .ag (.mk _ (Z _ F) ?_)
     rintro _ o' ⟨O,n7,pm,c7,sV,iY,rfl,auY,p2⟩
     have Y:=w7 (by rw[K];rfl)
     rw[Y]at d
     refine aW (λfh=>?_) (λfh=>?_)
     exact .ag ⟨J.le_trans F O,by rw[d];exact⟨0,sV,_,_,_,_,_,_,rfl,λh=>absurd h.1 aH⟩⟩
     refine .mk λapr atC=>?_
     refine .ag (.c0 5 _ _ rfl (p2.src _) (λu hu=>by obtain⟨l,al,hu⟩:=amK.1 hu;obtain⟨p,_,rfl⟩:=cO.1 al;simp[nV]at hu;rcases hu with rfl|rfl<;>rfl) (by simp[eQ];omega) I λano tQ zL=>?_)
     exact .ag ⟨J.le_trans F O,by rw[d];exact⟨2,0,_,_,_,_,_,_,rfl,λh=>absurd h.1 aH⟩⟩)
    |(
     refine .r ?_
     refine .hp (l7 (fT,gJ)) rfl (λo v Q=>J.l5 im (rd o v Q)) ?_
     refine vr (λcp=>?_) (λcp=>?_)
     refine .ag (.mk _ (Z _ F) ?_)
     rintro _ o' ⟨O,n7,pm,c7,sV,iY,rfl,auY,p2⟩
     have Y:=w7 (by rw[K];simp[flip]at cp;simp;omega)
     rw[Y]at d
     refine aW (λfh=>?_) (λfh=>?_)
     exact .ag ⟨J.le_trans F O,by rw[d];exact⟨0,sV,_,_,_,_,_,_,rfl,λh=>absurd h.1 aH⟩⟩
     exact .mk λapr atC=>.ag (.c0 5 _ _ rfl (p2.src _) (λu hu=>by obtain⟨l,al,hu⟩:=amK.1 hu;obtain⟨p,_,rfl⟩:=cO.1 al;simp[nV]at hu;rcases hu with rfl|rfl<;>rfl) (by simp[eQ];omega) I λano tQ zL=>.ag ⟨J.le_trans F O,by rw[d];exact⟨2,0,_,_,_,_,_,_,rfl,λh=>absurd h.1 aH⟩⟩)
     have aQ:E6 (kl N ad).1 a=true:=by rw[K];simp[flip]at cp;simp;omega
     refine .bl (⟨i+1,rfl,rfl,⟨J.le_trans E im,I,λeV B=>?_⟩,by show n- (i+1)<n-i;omega⟩)
     rw[kT]at B
     rcases eI.1 B with B|B
     exact dp eV B
     simp at B;rw[B];exact aQ)
  have BG:i=ad.length:=I;rw[BG,rv]at dp;rw[aS (se.2 dp)]at d;exact .ag ⟨J.le_trans P E,by rw[d];exact⟨b.len,⟨t,0,none⟩,rfl,(ahF b.qV b.len).mono E⟩⟩
def Gu(q:Nat):Bool:=decide (1<=q)&&decide (q<=4096)
def NM(r:List Nat)(a:b2):Bool:=decide (a.gm.toNat*r.getD a.src.toNat 0=a.take.toNat*r.getD a.dst.toNat 0)
def BO(ad:List b2)(r:List Nat):Bool:=r.all Gu&&ad.all (NM r)
theorem DQ{au:Option aE}{r:List Nat}(t:bg h 1 au m (r.map λz:Nat=>[R z])){g:aE}(b:au=some g){i:Nat}(c:i<m):h.cell? (g.add (i*1))=some (R (r.getD i 0:Nat)):=by
 have al:r.length=m:=by simpa using t.len
 have a:i<r.length:=I;rw[cc,bK a];exact t.one b (i:=i) (jx a) rfl
theorem auM(N n C m c:Nat) A au ad r h(G:bg h 5 A n (ad.map b2.cells))(Y:n<=9223372036854775806)(o:bg h 1 au m (r.map λz:Nat=>[R z]))(P:∀q∈r,q<=1000000)(hm:m<=1000):Fn aD 51 #[nQ N A n C,ab au m c] h λv s=>s=h/\v=if fF N ad≠0 then eA #[dh false,R (fF N ad)]else if m≠N then eA #[dh false,R 1]else eA #[dh (BO ad r),R 0]:=by
 have al:ad.length=n:=by simpa using G.len
 have BJ:r.length=m:=by simpa using o.len
 refine bU azB rfl (.ag (.mk _ (NS N A n C ad h G Y) ?_));rintro _ _ ⟨rfl,bP⟩;subst bP;refine aW (λq=>?_) (λq=>?_);exact .ag ⟨rfl,by rw[aS q];rfl⟩;have an:=kc.1 q;obtain⟨KY,w6,yp,e7⟩:=mM an;rw[aC q];refine aW (λZ=>?_) (λZ=>?_);exact .ag ⟨rfl,by rw[aS I];rfl⟩;rw[aC I];have X:m=N:=I;subst X;refine .mk Nat [1,2,21,22,23] (λi=>[.v (ab au m c),.p 0 0,.v (ab au m c),.v (R m),.v (R i)]) (λ_=>[.own [.v (R m),.v (ab A n C)] 33]) (λi s=>s=_/\i<=m/\∀q∈r.take i,Gu q=true) (λi=>m-i) 0 (λ_=>rfl) ⟨rfl,cU _,bc⟩ rfl rfl ?_;rintro i e h1 ⟨rfl,ai,j⟩;refine aW (λL=>?_) (λL=>?_);have d:i<r.length:=I;obtain⟨g,B⟩:=o.b4 I;have O:=DQ o B (i:=i) I;have yc:r.getD i 0=r[i]:=by rw[cc,bK d];rfl
 rw[yc]at O;have D:r.take (i+1)=r.take i++[r[i]]:=lz d;have E:=b3 d;have l:Gu r[i]=false->BO ad r=false:=λh=>by
  rw[BO,RT.2 ⟨_,E,by simp[h]⟩,Cv]
 generalize r[i]=z at O D l;refine .m g B ?_;refine .hp _ (by rw[bn];exact O) ?_;refine aW (λM=>?_) (λM=>?_);exact .ag ⟨rfl,by rw[l (by simp[Gu];omega)];rfl⟩;refine aW (λcp=>?_) (λcp=>?_);exact .ag ⟨rfl,by rw[l (by simp[Gu];omega)];rfl⟩;refine .bl (⟨i+1,rfl,rfl,⟨rfl,I,λq b=>?_⟩,by show m- (i+1)<m-i;omega⟩);rw[D]at b;rcases eI.1 b with b|b;exact j q b;simp at b;subst b;simp[Gu];omega;have K:i=r.length:=I;rw[K,rv]at j;have aK:=se.2 j;refine .mk Nat [1,2,35,36,37] (λi=>[.v (ab au m c),.p 0 0,.v (ab A n C),.v (R n),.v (R i)]) (λ_=>[.own [.v (R m),.v (ab A n C)] 33]) (λi s=>s=_/\i<=n/\∀a∈ad.take i,NM r a=true) (λi=>n-i) 0 (λ_=>rfl) ⟨rfl,cU _,bc⟩ rfl rfl (λi aR h1⟨rfl,ai,j⟩=>aW (λL=>?_) (λL=>?_));have d:i<ad.length:=I;obtain⟨g,B⟩:=G.b4 I;have U:=G.row B (jx d);have E:=b3 d;have V:=sT (e7 ad[i] E);have D:ad.take (i+1)=ad.take i++[ad[i]]:=lz d;have l:NM r ad[i]=false->BO ad r=false:=λh=>by
  rw[BO,RT.2 ⟨_,E,by simp[h]⟩,YP]
 generalize ad[i]=a at U V D E l;obtain⟨fW,s1,d0,d1,g0,g1,t0,t1,_⟩:=V;obtain⟨T,F⟩:=o.b4 I;have c1:=DQ o F (i:=a.src.toNat) I;have c2:=DQ o F (i:=a.dst.toNat) I;have Q:r.getD a.src.toNat 0<=1000000:=P _ (HZ I);have S:r.getD a.dst.toNat 0<=1000000:=P _ (HZ I);have f:NM r a=decide (a.gm.toNat*r.getD a.src.toNat 0=a.take.toNat*r.getD a.dst.toNat 0):=rfl;generalize r.getD a.src.toNat 0=x at c1 Q f;generalize r.getD a.dst.toNat 0=y at c2 S f;obtain⟨J,t⟩:∃k:Nat,a.gm=k:=⟨a.gm.toNat,I⟩;obtain⟨H,W⟩:∃k:Nat,a.take=k:=⟨a.take.toNat,I⟩;have m1:J*x<=64*1000000:=mh I Q;have m2:H*y<=64*1000000:=mh I S;rw[t,W,bn,bn]at f;refine .m g B (.hp a.cells rfl (by rw[bn];exact U) (.m T F (.hp _ c1 ?_)));conv=>whnf
 rw[t,show(J:Int)*x=((J*x:Nat):Int) by simp];refine .bl (.m T F (.hp _ c2 ?_));conv=>whnf
 rw[W,show(H:Int)*y=((H*y:Nat):Int) by simp];refine .bl ?_;generalize J*x=u at m1 f;generalize H*y=w at m2 f;refine aW (λM=>?_) (λM=>?_);exact .ag ⟨rfl,by rw[l (by rw[f];simp;omega)];rfl⟩;refine .bl (⟨i+1,rfl,rfl,⟨rfl,I,λq b=>?_⟩,by show n- (i+1)<n-i;omega⟩);rw[D]at b;rcases eI.1 b with b|b;exact j q b;simp at b;subst b;rw[f];simp;omega;have K:i=ad.length:=I;rw[K,rv]at j;exact .ag ⟨rfl,by rw[BO,aK,se.2 j];rfl⟩
def v'(N:Nat)(az:List Int):Nat->List Nat
 |0=>(fJ N).map λv=>az.length+N-v
 |o+1=>(v' N az o).set (az.getD (az.length-1-o) 0).toNat (az.length-1-o)
theorem Xl N az:∀o,(v' N az o).length=N
 |0=>by simp[v']
 |o+1=>by rw[v',fI,Xl N az o]
def Cf(N:Nat)(az:List Int):List Nat:=v' N az az.length
theorem F0{au:Option aE}{r:List Int}(t:bg h 1 au m (r.map λz=>[R z])){g:aE}(b:au=some g){i:Nat}(c:i<m):h.cell? (g.add (i*1))=some (R (r.getD i 0)):=by
 have al:r.length=m:=by simpa using t.len
 have a:i<r.length:=I;rw[cc,bK a];exact t.one b (i:=i) (jx a) rfl
theorem aDO(N m c:Nat) P(az:List Int) h(n:bg h 1 P m (az.map λz=>[R z]))(hm:m<=70368744177664)(U:N<=32)(A:∀z∈az,0<=z/\z<N)(C:0<N):Fn aD 53 #[R N,ab P m c] h λv a=>h.le a/\∃g,v=ab (some ⟨g,0,none⟩) N N/\a g=some (bb ((Cf N az).map λz:Nat=>R z).toArray 3 (0,0))/\h g=none:=by
 have al:az.length=m:=by simpa using n.len
 refine bU azC rfl (.one N (R 0) rfl rfl rfl rfl I I λe6=>?_);have F:bp N (R 0)=ss (λv=>R ((m+N-v:Nat):Int)) (R 0) N 0:=by simp[ss]
 refine .mk Nat [0,1,5,11,12] (λk=>[.v (R N),.v (ab P m c),.v (ab (some e6) N N),.v (R N),.v (R k)]) (λk=>[.row 3 1 (some e6) N N (ss (λv=>R ((m+N-v:Nat):Int)) (R 0) N k)]) (λk a=>a=h/\k<=N) (λk=>N-k) 0 (λ_=>rfl) ⟨rfl,cU _⟩ rfl (by simp only[<-F];rfl) (λk e h1⟨rfl,hk⟩=>aW (λq=>?_) (λq=>?_));have f:k<N:=I;refine .bl (.bl (.m e6 rfl ?_));have J:(m:Int)+N-k=((m+N-k:Nat):Int):=I;exact .row 0 3 1 e6 N N _ (ss (λv=>R ((m+N-v:Nat):Int)) (R 0) N (k+1)) k rfl (by rw[bn,e4]) (by rw[io _ _ _ (by rw[acp hk];exact f),<-acq f];exact eu (λx=>some ((ss (λv=>R ((m+N-v:Nat):Int)) (R 0) N k).set k (R x))) J) (.bl (⟨k+1,rfl,rfl,⟨rfl,f⟩,by show N- (k+1)<N-k;omega⟩));have w:N=k:=I;subst w;refine .bl (.mk Nat [1,5,7] (λo=>[.v (ab P m c),.v (ab (some e6) N N),.v (R ((m:Int)-1-o))]) (λo=>[.row 3 1 (some e6) N N ((v' N az o).map λz:Nat=>R (z:Int))]) (λo a=>a=h1/\o<=m) (λo=>m-o) 0 (λ_=>rfl) ⟨rfl,cU _⟩ (by show[aN.v (ab P m c),aN.v (ab (some e6) N N),aN.v (R ((m:Int)-1))]=[aN.v (ab P m c),aN.v (ab (some e6) N N),aN.v (R ((m:Int)-1- ((0:Nat):Int)))];rw[show((m:Int)-1- ((0:Nat):Int))=(m:Int)-1 by omega]) (by rw[aco,v',ig,al];rfl) ?_);rintro o Q ae ⟨rfl,S⟩;refine aW (λB=>?_) (λB=>?_);have G:m-1-o<m:=I;obtain⟨g,s⟩:=n.b4 I;have t:(m:Int)-1-o=((m-1-o:Nat):Int):=I;have r:=F0 n s G;have O:=A _ (HZ (l:=az) (d:=0) (i:=m-1-o) I);have b:v' N az (o+1)=(v' N az o).set (az.getD (m-1-o) 0).toNat (m-1-o):=by rw[v',al]
 generalize az.getD (m-1-o) 0=z at r O b;refine .m g s ?_;refine .hp _ (by rw[t,bn];exact r) ?_;refine .m e6 rfl ?_;refine .row 0 3 1 e6 N N _ ((v' N az (o+1)).map λz:Nat=>R (z:Int)) z.toNat rfl (by rw[e4]) (by rw[io _ _ _ (by simp[Xl];omega),b,kB];exact eu (λx=>some (((v' N az o).map λz:Nat=>R (z:Int)).set z.toNat (R x))) t) ?_;refine .bl ?_;exact⟨o+1,by show[aN.v (ab P m c),aN.v (ab (some e6) N N),aN.v (R ((m:Int)-1-o-1))]=[aN.v (ab P m c),aN.v (ab (some e6) N N),aN.v (R ((m:Int)-1- ((o+1:Nat):Int)))];rw[show(m:Int)-1-o-1=(m:Int)-1- ((o+1:Nat):Int) by omega],rfl,⟨rfl,I⟩,by show m- (o+1)<m-o;omega⟩;have y:o=m:=I;have L:Cf N az=v' N az o:=by rw[Cf,al,y]
 refine .b5 0 3 1 (some e6) N N _ rfl λT E p M=>.ag ?_;obtain⟨_,p|⟨g9,D,j,K,_,_,H,u⟩⟩:=p;cases p.1;injection j with j;subst j;refine⟨E,g9,rfl,?_,M _ rfl⟩;rw[mJ (by simp[H])]at u;rw[K,<-GV (xs:=D),u,L]
theorem WC{s:List Nat}(j:h g=some (bb ((s.map λz:Nat=>R z)++sp).toArray 3 (0,0)))(al:s.length=N):bg h 1 (some ⟨g,0,none⟩) N (s.map λz:Nat=>[R z]):=by
 refine⟨by simpa using al,λr b=>by obtain⟨p,_,rfl⟩:=cO.1 b;rfl,λ_=>⟨_,rfl⟩,λk c i r b o v a=>?_⟩;injection c with c;subst c;rw[add_lit,dZ];rw[de,zc]at b;obtain⟨z,d,rfl⟩:=b;have e:o=0:=by
  have:=(qO.1 a).1;simp at this;omega
 subst e;injection a with a;subst a;have f:=(qO.1 d).1;exact b1 j (by rw[e4,A6,List.getElem?_append_left (by simpa using f),de,d];rfl)
structure xU(cE:J)(gw b iG g9 N cl:Nat)(sp:List aA)(left gZ:List Nat)(V:aA):Prop where
 box:cE gw=some (bb #[iR b,ab (some ⟨iG,0,none⟩) N cl,ab (some ⟨g9,0,none⟩) N N,V] 182 (0,0))
 mw:cE iG=some (bb ((left.map λz:Nat=>R (z:Int))++sp).toArray 3 (0,0))
 Cg:cE g9=some (bb (gZ.map λz:Nat=>R (z:Int)).toArray 3 (0,0))
 hf:left.length=N
 yM:gZ.length=N
theorem xU.mono(r:xU cE gw b iG g9 N cl sp left gZ V)(le:cE.le h):xU h gw b iG g9 N cl sp left gZ V:=⟨le _ _ r.box,le _ _ r.mw,le _ _ r.Cg,r.hf,r.yM⟩
def SH(gZ:List Nat)(v:Option Nat)(w:Nat):Bool:=match v with
 |none=>true
 |some v=>decide (gZ.getD w 0<gZ.getD v 0)
def qa(N:Nat)(ad:List b2)(dc:List Int)(left gZ:List Nat):Nat->Option Nat
 |0=>none
 |w+1=>if(decide (0<left.getD w 0)&&(yF N ad dc w&&SH gZ (qa N ad dc left gZ w) w))=true then some w else qa N ad dc left gZ w
def C3:Option Nat->Int
 |none=> -1
 |some v=>v
theorem SG{N:Nat}{ad:List b2}{dc:List Int}{left gZ:List Nat}:∀{w v:Nat},qa N ad dc left gZ w=some v->v<w
 |0,v,h=>by cases h
 |w+1,v,h=>by
  unfold qa at h;split at h;injection h with h;omega;have:=SG h;omega
theorem aat(w:tc cE b gt bx N ad)(r:xU cE gw b iG g9 N cl sp left gZ V) dc cW(C:dc.length=ad.length)(A:ad.length<=96)(H:N<=32):Fn aD 54 #[iR gw] (st cE gt bx dc cW) λv g=>v=R (C3 (qa N ad dc left gZ N))/\g=st cE gt bx dc cW:=by
 obtain⟨K,M,L,G,ci,co,F,O,bh⟩:=w.ex;have x:cE.le (st cE gt bx dc cW):=J.kI bh.o9 bh.o8;have m24:=λv=>ag0 w dc cW C A v;have r:=r.mono x;generalize st cE gt bx dc cW=h at r m24;have B:∀v,v<N->h.cell? ((oA iG 0 none).add (v*1))=some (R (left.getD v 0:Nat)):=λv c=>DQ (WC r.mw r.hf) rfl c;have j:∀v,v<N->h.cell? ((oA g9 0 none).add (v*1))=some (R (gZ.getD v 0:Nat)):=λv c=>DQ (ahF r.Cg r.yM) rfl c;refine bU azD rfl (.hp _ (b1 r.box rfl) (.mk Nat [0,3,9,10] (λk=>[.v (iR gw),.v (R (C3 (qa N ad dc left gZ k))),.v (R N),.v (R k)]) (λ_=>[]) (λk g=>g=h/\k<=N) (λk=>N-k) 0 (λ_=>rfl) ⟨rfl,cU _⟩ rfl rfl ?_));rintro k e h1 ⟨rfl,hk⟩;refine aW (λq=>?_) (λq=>?_);have i:k<N:=I;have a:qa N ad dc left gZ (k+1)=if(decide (0<left.getD k 0)&&(yF N ad dc k&&SH gZ (qa N ad dc left gZ k) k))=true then some k else qa N ad dc left gZ k:=rfl;have c1:=B k i;have n:=λv=>@SG N ad dc left gZ k v;have next:∀v,v=qa N ad dc left gZ (k+1)->∃d:Nat,[aN.v (iR gw),aN.v (R (C3 v)),aN.v (R N),aN.v (R (k+1:Nat))]=[aN.v (iR gw),aN.v (R (C3 (qa N ad dc left gZ d))),aN.v (R N),aN.v (R d)]/\([]:List LE)=[]/\(h1=h1/\d<=N)/\N-d<N-k:=λv c=>⟨k+1,by rw[c],rfl,⟨rfl,i⟩,I⟩
 generalize left.getD k 0=l at c1 a;have m:=m24 k;generalize yF N ad dc k=y at m a;generalize E:qa N ad dc left gZ k=f at a n;refine .hp _ (b1 r.box rfl) ?_;refine .r ?_;refine .hp _ (by rw[bn];exact c1) ?_;refine aW (λs=>?_) (λs=>?_);rw[hr (show 0<l by omega),AP]at a;refine .hp _ (b1 r.box rfl) (.mk _ m (λv ae q=>by rw[q.2];exact J.le_refl _) ?_);rintro _ _ ⟨rfl,t⟩;subst t;cases y;rw[Cv]at a;refine .bl ?_;exact next f (by rw[a];rfl)
 rw[AP]at a;cases f with
 |none=>
  refine .bl ?_;exact next (some k) (by rw[a];rfl)
 |some v=>
  have c:=n v rfl;have c2:=j k i;have o:=j v I;have D:SH gZ (some v) k=decide (gZ.getD k 0<gZ.getD v 0):=rfl;rw[D]at a;generalize gZ.getD k 0=P at c2 a;generalize gZ.getD v 0=z at o a;refine .hp _ (b1 r.box rfl) ?_;refine .r ?_;refine .hp _ (by rw[bn];exact c2) ?_;refine .hp _ (b1 r.box rfl) ?_;refine .mk _ rfl (by show(0:Int)<=(v:Int);omega) (by show(v:Int)<(N:Int);omega) ?_;refine .hp (R z) o ?_;refine aW (λu=>?_) (λu=>?_);refine .bl ?_;exact next (some k) (by rw[a,aS (by simp;omega)])
  exact .bl (next (some v) (by rw[a,aC (by simp;omega)]))
 rw[jn (show¬0<l by omega),Cv]at a;exact .bl (next f (by rw[a];rfl));have p:k=N:=I;subst p;exact .ag ⟨rfl,rfl⟩
theorem arN(w:tc cE b gt bx N ad) dc cW(f:cW.length=N)(q:N<=32):Fn aD 117 #[iR b] (st cE gt bx dc cW) λr a=>∃g c,r=ab (some g) N c/\(st cE gt bx dc cW).le a/\bw a 3 1 (some g) N c (cW.map R):=by
 obtain⟨t,v,u,p,ci,co,l,O,bh⟩:=w.ex;have x:cE.le (st cE gt bx dc cW):=J.kI bh.o9 bh.o8;have e:st cE gt bx dc cW bx=some (hP cW):=Jm;have d:=X8 e;rw[f]at d;generalize m:st cE gt bx dc cW=h at x e d;refine bU ax9 rfl (.hp _ (J.l5 x (b1 bh.head (o:=4) rfl)) (.mk λn s=>.ag (.c0 1 _ _ rfl (d.src _) (by rw[vD];exact Gh _) (by simp[eQ];omega) I λbo bj aK=>.b5 1 3 1 bo (0+N) bj _ rfl λa k j f=>?_)));have i:bw a 3 1 bo (0+N) bj (cW.map λz=>[R z]).flatten:=j;rw[dZ,vD]at i;obtain⟨g,rfl⟩:=XX aK.1;exact .ag ⟨g,bj,by rw[dZ];rfl,k,i⟩
theorem apm(w:tc cE b gt bx N ad)(r:xU cE gw b iG g9 N cl sp left gZ V) dc cW(Q:dc.length=ad.length)(M:ad.length<=96)(K:N<=32)(F:cW.length=N):Fn aD 56 #[iR gw] (st cE gt bx dc cW) λv d=>(st cE gt bx dc cW).le d/\∃A k c,v=ab A k c/\(k=0↔∀x∈left,x=0):=by
 obtain⟨Y,h9,Z,X,ci,co,W,O,bh⟩:=w.ex;have x:cE.le (st cE gt bx dc cW):=J.kI bh.o9 bh.o8;have f117:=arN w dc cW F K;have r:=r.mono x;have f:∀ae,(st cE gt bx dc cW).le ae->∀v:Nat,Fn aD 118 #[iR b,R v] ae λr d=>(∃z,r=R z)/\ae.le d:=λae le v=>by
  obtain⟨hH,e,G,L,z2⟩:=MJ bh.ne bh.o9 bh.o8 le;rw[e];exact(ajL (w.mono G L z2) dc cW Q M v).mono λr d q=>⟨⟨_,q.1⟩,by rw[q.2];exact J.le_refl _⟩
 generalize st cE gt bx dc cW=h at r f117 f;refine bU azF rfl (.hp _ (b1 r.box rfl) (.ag (.mk _ f117 ?_)));rintro _ h1 ⟨P,C,rfl,u,j⟩;have y:=r.mono u;refine .hp _ (b1 y.box rfl) ?_;refine .jG (.abs 273 3 none 0 0 [] ⟨rfl,bQ ⟨rfl,rfl,rfl⟩⟩ (.ag ?_));refine .mk (Nat×Option aE×Nat×Nat×List aA) [0,3,4,15,16,17] (λ(k,A,m,c,_)=>[.v (iR gw),.v (ab A m c),.v (ab (some P) N C),.v (ab (some ⟨iG,0,none⟩) N cl),.v (R N),.v (R k)]) (λ(_,A,m,c,xs)=>[.row 273 3 A m c xs]) (λ(k,_,m,_,_) d=>h1.le d/\k<=N/\m<=k/\(m=0↔∀x∈left.take k,x=0)) (λ(k,_)=>N-k) (0,none,0,0,[]) (λ_=>rfl) ⟨J.le_refl _,cU _,dM _,bc⟩ rfl rfl ?_;rintro⟨k,A,m,c,xs⟩ e ae ⟨g,hk,hm,s⟩;have o:=y.mono g;have le:=J.le_trans u g;refine aW (λq=>?_) (λq=>?_);have t:k<left.length:=by rw[r.hf];omega
 have p:left.take (k+1)=left.take k++[left[k]]:=lz t;have S:left.getD k 0=left[k]:=by rw[cc,bK t];rfl
 have c1:=DQ (WC o.mw o.hf) rfl (i:=k) I;rw[S]at c1;generalize left[k]=l at c1 p;refine .r ?_;refine .hp _ (by rw[bn];exact c1) ?_;refine aW (λE=>?_) (λE=>?_);have n:=(j.mono g).j7;have c2:=F0 n rfl (i:=k) I;refine .r (.hp _ (by rw[bn];exact c2) (.hp _ (b1 o.box rfl) (.mk _ (f ae le k) (λv ae q=>q.2) ?_)));rintro _ U ⟨⟨z,rfl⟩,H⟩;refine .c0 0 _ _ rfl rfl (by simp[Bd,R]) (by simp[eQ];omega) I λbo bj T=>.bl (⟨(k+1,bo,m+1,bj,_),rfl,rfl,⟨J.le_trans g H,I,I,?_⟩,by show N- (k+1)<N-k;omega⟩);rw[p];refine⟨λh=>I,λh=>?_⟩;have:=h l bc;omega;refine .bl (⟨(k+1,A,m,c,xs),rfl,rfl,⟨g,I,I,?_⟩,by show N- (k+1)<N-k;omega⟩);have D:l=0:=I;rw[p,s,D];simp;exact⟨λh x a=>by rcases a with a|a;exact h x a;exact a,λh x a=>h x (bQ a)⟩;have B:k=N:=I;rw[B,mJ (by rw[r.hf];omega)]at s;exact .ag ⟨le,A,m,c,rfl,s⟩
end Go.Sx
