/- A part of the proof that the statement holds. Conditions: none. -/
import Derived.Recover
import Derived.WalkKit
import Derived.Test.YtlbdbpaelcnfgaaGreatDoorAD
import Derived.Test.YtlbdbpaelcnfgaaGreatDoorAP
import Derived.Test.YtlbdbpaelcnfgaaGreatDoorAR
open Array renaming empty_append->agf,replicate->DS
open Bool renaming and_eq_true->fY,and_false->Uk,false_and->Bw,true_and->wQ
open Classical renaming not_not->jw
open Go renaming Addr->ar,Code->ox,Deferred->l9,FuncId->jh,Oper->b8,Program->dW,ResultVar->w2,Value->ao,World->bb,callsD_of_wpS->Wd,calls_of_wp_defers->ajd,execOp->cY,maxLen->c',recoverD->Jc,undef->eU,wpOpsS->JA,wpS_cond->af1,wpS_of_wp->af2,wpS_region->JB,wpS_seq->JC,wp_mono->wK,wp_region_list->aCa,yielded->j8
open Go.Act renaming eval->Gm
open Go.Addr renaming mk->ou
open Go.CallsD renaming mono->agq
open Go.Deferred renaming ofValue->Bz
open Go.Exit renaming thenS->Gy
open Go.IntKind renaming bits->JV
open Go.Op renaming intArith->D1,intBits->ahT,operands->D2
open Go.Oper renaming wp->zX
open Go.Proofs.Tryz renaming func151->aia,func155->OJ,ntmps155->aic,prog->aH,results155->aie
open Go.Region renaming wanted->gz
open Go.Value renaming bool->qB,oneCell'->Aa,pointer->aik,tuple->vU
open Int renaming toNat_natCast->bq,toNat_of_nonneg->q'
open List renaming all_eq_true->oA,count_cons->N2,drop_eq_getElem_cons->o6,drop_eq_nil_of_le->tg,ext_getElem->vH,getD_eq_getElem?_getD->cN,getElem?_eq_getElem->bZ,getElem?_eq_none->qs,getElem?_map->dV,getElem?_range->J0,getElem?_replicate->GG,getElem?_set->zT,getElem_mem->cS,getElem_of_mem->rb,getElem_set->vI,length->e7,length_append->fb,length_map->ih,length_replicate->Ob,length_set->k2,map_append->fm,map_cons->eO,map_map->lo,map_nil->zU,map_set->nb,mem_append->ev,mem_append_left->qu,mem_cons->dC,mem_map->dn,nil_append->J3,nodup_append->nS,nodup_cons->k3,range->g6,replicate->bG,set_eq_of_length_le->UX,take_length->pM,take_of_length_le->k4
open Nat renaming and_two_pow_sub_one_eq_mod->GQ,ble->nT,div_eq_of_lt->ahC,div_le_self->nU,div_pos->ahD,gcd->hb,gcd_comm->ahE,gcd_le_right->ahF,gcd_pos_of_pos_right->Oq,le_of_ble_eq_true->rh,le_refl->dd,le_trans->hT,lt_of_le_of_lt->UZ,mod_eq_of_lt->vM,mod_lt->U0,mul_le_mul->ns,mul_one->ew,mul_pos->ahM,mul_zero->ahN,or_lt_two_pow->ahO,strongRecOn->Ot,zero_add->dJ,zero_le->cO,zero_mod->U1,zero_mul->D0
open Ne renaming symm->d9
open Prod renaming fst->kn,snd->ek
namespace Go.Sx
open Go.Proofs
set_option maxRecDepth 100000
set_option maxHeartbeats 0
set_option linter.all false
variable {a p:Int}{g:eY}
def uD:List ByteArray->List h8->Int
 |_,[]=>0
 |bp,a::l=>if oc bp a.dD≠0 then oc bp a.dD else if(bD a.tag a.be).1≠0 then(bD a.tag a.be).1 else uD (bp++[a.dD]) l
def AX(a:h8):List Bool:=bG (bD a.tag a.be).2.1.length false
def Bb(a:h8):List Bool:=bG (bD a.tag a.be).2.2.length false
def BW(x:Int×List Int×List Int):Prop:=x.2.1.length<=16/\x.2.2.length<=16
theorem BW.ite{p:Prop}[Decidable p]{a b:Int×List Int×List Int}(a6:p->BW a)(af:¬p->BW b):BW (if p then a else b):=by
 by_cases h:p;rw[aX h];exact a6 h;rw[aE h];exact af h
theorem zz(tag:Int)(l:List Int):BW (bD tag l):=by
 have lit:∀(e:Int)(a b:List Int),a.length<=16->b.length<=16->BW (e,a,b):=λe a b h1 ab=>⟨h1,ab⟩;unfold bD;dsimp only;refine .ite (λ_=>lit _ _ _ (by simp) (by simp)) λ_=>?_;refine .ite (λ_=>lit _ _ _ (by simp) (by simp)) λ_=>?_;refine .ite (λ_=>lit _ _ _ (by simp) (by simp)) λ_=>?_;refine .ite (λ_=>lit _ _ _ (by simp) (by simp)) λ_=>?_;refine .ite (λh=>lit _ _ _ (by simp only[Ob];omega) (by simp)) λ_=>?_;refine .ite (λh=>lit _ _ _ (by simp) (by simp only[Ob];omega)) λ_=>?_;refine .ite (λh=>lit _ _ _ (by simp only[Ob];omega) (by simp)) λ_=>?_;refine .ite (λ_=>lit _ _ _ (by simp) (by simp)) λ_=>?_;refine .ite (λh=>lit _ _ _ (by simp) (by simp only[Ob];omega)) λ_=>?_;refine .ite (λ_=>lit _ _ _ (by simp) (by simp)) λ_=>?_;refine .ite (λ_=>lit _ _ _ (by simp) (by simp)) λ_=>?_;exact lit _ _ _ (by simp) (by simp)
structure NE(ai h:I)(c m:Nat)(g:eY)(k:Nat)(gH:Option ar)(cE:Nat)(aU:List (Nat×List Bool))(gy:Option ar)(bO:Nat)(ro:List (Nat×List Bool)):Prop where
 e':kG ai h c m g ((g.bt.take k).map h8.dD) gH cE aU gy bO ro
 aU:aU.map ek=(g.bt.take k).map AX
 ro:ro.map ek=(g.bt.take k).map Bb
theorem aiD(c m:Nat)(g:eY)(ai h:I)(cQ:NE ai h c m g 0 none 0 [] none 0 [])(ok:g.ok ai)(aC:g.bt.length<=32):Fn aH 144 #[hj c] h λv U=>∃s1 s2 hN,v= .tuple #[R (uD [] g.bt),DB s1 s2 hN]/\ai.le U/\(uD [] g.bt=0->∃gH cE aU gy bO ro,NE ai U c m g g.bt.length gH cE aU gy bO ro):=by
 refine b5 arl rfl ?_;refine .hp _ (bN cQ.e'.core.head (o:=1) rfl) ?_;refine .kU [0] (Nat×Option ar×Nat×List (Nat×List Bool)×Option ar×Nat×List (Nat×List Bool)) [0,3,13,14,15] (λ(k,_)=>[.v (hj c),.p 0 0,.v (.slice g.hf g.bt.length g.ac),.v (R g.bt.length),.v (R k)]) (λ_=>[.own [.v (.int .u8 0),.v (R 0),.v (R 0)] 253]) (λ(k,gH,cE,aU,gy,bO,ro) U=>NE ai U c m g k gH cE aU gy bO ro/\k<=g.bt.length/\uD ((g.bt.take k).map h8.dD) (g.bt.drop k)=uD [] g.bt) (λ(k,_)=>g.bt.length-k) (0,none,0,[],none,0,[]) (λ_=>rfl) ⟨cQ,cO _,rfl⟩ rfl rfl rfl ?_;rintro⟨k,gH,cE,aU,gy,bO,ro⟩ e h1 ⟨x,hk,cV⟩;by_cases br:k<g.bt.length;have hQ:=(x.e'.core.del x.e'.Ar).del x.e'.As;refine .abs 193 1 gH aU.length cE _ x.e'.Dq (.abs 193 1 gy ro.length bO _ (x.e'.Dr.del λg b7 aJ aI ck=>x.e'.aDv b7 g aI aJ ck.symm) (.done ?_));generalize ei (ei h1 gH) gy=hH at hQ⊢;refine aW (λaM=>?_) (λaM=>by omega);have vo:=ok.mono hQ.le;obtain⟨jW,lW⟩:=ok.bt.cc (by omega);have vn:=vo.act _ (cS br);refine .mk jW lW (by omega) (by omega) ?_;refine .hp (g.bt[k]).cells rfl (by rw[bq];exact vo.bt.row lW (iM br)) ?_;refine .done (.mk _ (Sc c m _ _ (g.bt[k]).dD hH hQ.head rfl hQ.map vn.gp) ?_);rintro _ _ ⟨rfl,ab,cn,rfl⟩;have fk:=(hQ.mono cn).names (pv:=xO (oc ((g.bt.take k).map h8.dD) g.bt[k].dD) ((g.bt.take k).map h8.dD) g.bt[k].dD);have aB:g.bt.drop k=g.bt[k]::g.bt.drop (k+1):=o6 br;rw[aB,uD]at cV;refine aW (λaD=>?_) (λaD=>?_);rw[aE (by simpa using aD)]at cV;have tz:xO (oc ((g.bt.take k).map h8.dD) g.bt[k].dD) ((g.bt.take k).map h8.dD) g.bt[k].dD=(g.bt.take k).map h8.dD++[g.bt[k].dD]:=by rw[aD,xO,aX rfl]
 rw[tz]at fk⊢;refine .done (.mk _ (FK _ _ _ _ (g.bt[k]).be _ ((ok.act _ (cS br)).dG.mono fk.le) vn.n8) ?_);rintro _ an ⟨_,_,rfl,dZ,⟨iu,c1,rfl,fv,f1⟩,⟨dE,c2,rfl,dU,f2⟩⟩;have ig:=fk.mono dZ;refine .hp _ (bN ig.head (o:=6) rfl) ?_;have LF:=zz g.bt[k].tag g.bt[k].be;have ik:aU.length=k:=by have:=ho e7 x.aU;simp at this;omega
 have hg:ro.length=k:=by have:=ho e7 x.ro;simp at this;omega
 generalize c5:bD g.bt[k].tag g.bt[k].be=S at LF cV fv dU⊢;obtain⟨Ca,li,bX⟩:=S;simp only[BW]at LF cV fv dU⊢;refine dN.one li.length (.bool false) rfl rfl rfl rfl (by omega) (by omega) λa1=>?_;refine .cR 1 _ [.slice (some a1) li.length li.length] rfl rfl (by simp[Aa]) (by simp[c'];omega) (by omega) λzP zd aAU=>?_;refine .hp c 6 334 (yF g m (.slice gH aU.length cE) (.slice gy ro.length bO)) (yF g m (.slice zP (aU.length+1) zd) (.slice gy ro.length bO)) (by rw[add_lit]) ig.head rfl ?_;have qm:=ig.aB (JS:=.slice zP (aU.length+1) zd) (J8:=.slice gy ro.length bO);refine .hp _ (bN qm.head (o:=7) rfl) ?_;refine dN.one bX.length (.bool false) rfl rfl rfl rfl (by omega) (by omega) λbh=>?_;refine .cR 2 _ [.slice (some bh) bX.length bX.length] rfl rfl (by simp[Aa]) (by simp[c'];omega) (by omega) λGS FJ aAX=>?_;refine .hp c 7 334 (yF g m (.slice zP (aU.length+1) zd) (.slice gy ro.length bO)) (yF g m (.slice zP (aU.length+1) zd) (.slice GS (ro.length+1) FJ)) (by rw[add_lit]) qm.head rfl ?_;have DQ:=qm.aB (JS:=.slice zP (aU.length+1) zd) (J8:=.slice GS (ro.length+1) FJ);refine aW (λbj=>?_) (λbj=>?_);have P9:uD [] g.bt=Ca:=by rw[<-cV,aX bj]
 exact .done ⟨_,_,_,by rw[P9];rfl,DQ.le,λds=>by rw[ds]at P9;exact absurd P9.symm bj⟩;refine .ok (by omega) (by omega) ?_;refine .bV 4 4 1 (some a1) li.length li.length _ rfl λaR cW awT f4=>?_;refine .bV 6 4 1 (some bh) bX.length bX.length _ rfl λcg fW awU f5=>?_;refine .bV 1 193 1 zP (aU.length+1) zd _ rfl λfa hv MT f6=>?_;refine .bV 2 193 1 GS (ro.length+1) FJ _ rfl λmi mv MU f7=>?_;obtain⟨iA,nZ⟩:=ad7 awT;obtain⟨mN,Ki⟩:=ad7 awU;have vz:=DQ.aiG cW (f4 a1 rfl) nZ;have JH:=vz.aiI fW (f5 bh rfl) Ki;have Tq:aU.map m8++[.slice (some a1) li.length li.length]=(aU++[(a1.block,bG li.length false)]).map m8:=by simp[m8,<-iA]
 have Tr:ro.map m8++[.slice (some bh) bX.length bX.length]=(ro++[(bh.block,bG bX.length false)]).map m8:=by simp[m8,<-mN]
 have MT:bz fa 193 1 zP (aU.length+1) zd (aU.map m8++[.slice (some a1) li.length li.length]):=MT;have MU:bz mi 193 1 GS (ro.length+1) FJ (ro.map m8++[.slice (some bh) bX.length bX.length]):=MU;have aAM:Ca=0:=by simpa using bj
 rw[aE bj]at cV;have hS:(g.bt.take (k+1)).map h8.dD=(g.bt.take k).map h8.dD++[g.bt[k].dD]:=by rw[kh br,fm];rfl
 refine .done ⟨(k+1,zP,zd,aU++[(a1.block,bG li.length false)],GS,FJ,ro++[(bh.block,bG bX.length false)]),rfl,rfl,⟨⟨⟨?_,?_,?_,?_,?_,?_⟩,?_,?_⟩,br,?_⟩,by show g.bt.length- (k+1)<g.bt.length-k;omega⟩;rw[hS];simpa using(JH.mono hv).mono mv;have:=MT.mono mv;rw[Tq]at this;simpa using this;rw[Tr]at MU;simpa using MU;exactλb7 dT=>⟨λae=>JH.pu _ ae (f6 b7 dT),I.none_le JH.le (f6 b7 dT)⟩;exactλb7 dT=>⟨λae=>(JH.mono hv).pu _ ae (f7 b7 dT),I.none_le (JH.mono hv).le (f7 b7 dT)⟩;exactλg1 g2 aJ aI ck=>MT.mem aJ (by rw[ck];exact f7 g2 aI);rw[kh br,fm,fm,x.aU];simp[AX,c5];rw[kh br,fm,fm,x.ro];simp[Bb,c5];rw[hS];exact cV;rw[aX (by simpa using aD)]at cV;refine aW (λbj=>?_) (λbj=>absurd bj (by simpa using aD));exact .done ⟨_,_,_,by rw[<-cV];rfl,fk.le,λds=>by rw[ds]at cV;exact absurd cV aD⟩;refine .done ?_;refine aW (λaM=>by omega) (λaM=>?_);have i9:k=g.bt.length:=by omega
 rw[tg (by omega),uD]at cV;refine .done ⟨_,_,_,by rw[<-cV];rfl,x.e'.core.le,λ_=>⟨gH,cE,aU,gy,bO,ro,by rw[<-i9];exact x⟩⟩
theorem Sj{l:List Nat}(gR:l.Nodup){i o:Nat}(ag:i<l.length)(ae:o<l.length)(e:l[i]=l[o]):i=o:=by
 rw[List.Nodup,List.pairwise_iff_getElem]at gR;rcases Nat.lt_trichotomy i o with h|h|h;exact absurd e (gR i o ag ae h);exact h;exact absurd e.symm (gR o i ae ag h)
def x3(rs:List (List Bool))(a p:Int):Int:=
 if a<0\/(rs.length:Int)<=a then 84 else
 if p<0\/((rs.getD a.toNat []).length:Int)<=p then 85 else
 if(rs.getD a.toNat []).getD p.toNat false=true then 86 else 0
def rZ(rs:List (List Bool))(a p:Int):List (List Bool):=rs.set a.toNat ((rs.getD a.toNat []).set p.toNat true)
theorem Yo(rs:List (Nat×List Bool))(i:Nat):(rs.map ek).getD i []=(rs.getD i (0,[])).2:=by
 simp only[cN,dV];cases rs[i]? <;>rfl
theorem vv(rs:List (Nat×List Bool))(a p:Int):pC rs a p=x3 (rs.map ek) a p:=by
 rw[pC,x3,Yo,ih]
theorem M5(rs:List (Nat×List Bool))(a p:Int):(nm rs a.toNat p.toNat).map ek=rZ (rs.map ek) a p:=by
 rw[nm,rZ,nb,Yo]
theorem Bk(rs:List (Nat×List Bool))(a p:Nat):(nm rs a p).length=rs.length:=by rw[nm,k2]
theorem M4(rs:List (Nat×List Bool))(a p:Nat):(nm rs a p).map kn=rs.map kn:=by
 rw[nm,nb];by_cases h:a<rs.length;apply vH (by simp);intro i h1 ab;rw[vI];split;rename_i e;subst e;simp[cN,bZ h];rfl;rw[UX (by simpa using h)]
theorem aew(rs:List (Nat×List Bool))(a p:Nat):(nm rs a p).map m8=rs.map m8:=by
 rw[nm,nb];by_cases h:a<rs.length;apply vH (by simp);intro i h1 ab;rw[vI];split;rename_i e;subst e;simp[m8,cN,bZ h];rfl;rw[UX (by simpa using h)]
section
variable {ai h U:I}{c m cE bO:Nat}{g:eY}{bp pv:List ByteArray}{cm O:ao}{gH gy:Option ar}{aU ro:List (Nat×List Bool)}
theorem kj.F6{a p:Nat}(x:kj ai h c m g bp cm O aU ro)(a6:a<aU.length):kj ai (h.put aU[a].1 (xa (aU[a].2.set p true))) c m g bp cm O (nm aU a p) ro:=by
 obtain⟨c1,c2⟩:=x.sf;have mem:aU[a]∈aU++ro:=by simp
 have bW:dP c m (nm aU a p) ro=dP c m aU ro:=by rw[dP,dP,M4]
 have aB:aU.getD a (0,[])=aU[a]:=by simp[cN,bZ a6]
 have gR:=x.gR;simp only[dP,k3,nS]at gR;obtain⟨_,_,dF,dR,hZ⟩:=gR;refine⟨zj x.le (x.new _ (by simp only[dP,dC,ev];exact .inr (.inr (.inl (dn.2 ⟨_,cS a6,rfl⟩))))),?_,?_,λq aq=>?_,by rw[bW];exact x.gR,λb af=>x.new b (by rw[<-bW];exact af)⟩;rw[I.ju (d9 (c2 _ mem).1)];exact x.head;rw[I.ju (d9 (c2 _ mem).2)];exact x.map;rcases ev.1 aq with aq|aq;obtain⟨i,ag,rfl⟩:=rb aq;rw[Bk]at ag;simp only[nm,vI,aB];split;exact I.bP _ _ _;rename_i e;rw[I.ju];exact x.gl _ (by simp);intro aI;have ea:i<(aU.map kn).length:=by simpa using ag
 have fI:a<(aU.map kn).length:=by simpa using a6
 have ck:(aU.map kn)[i]=(aU.map kn)[a]:=by simpa using aI
 exact e (Sj dF ea fI ck).symm;rw[I.ju];exact x.gl _ (by simp[aq]);exactλe=>hZ _ (dn.2 ⟨_,cS a6,rfl⟩) _ (dn.2 ⟨_,aq,rfl⟩) e.symm
theorem kj.axv{a p:Nat}(x:kj ai h c m g bp cm O aU ro)(a6:a<ro.length):kj ai (h.put ro[a].1 (xa (ro[a].2.set p true))) c m g bp cm O aU (nm ro a p):=by
 obtain⟨c1,c2⟩:=x.sf;have mem:ro[a]∈aU++ro:=by simp
 have bW:dP c m aU (nm ro a p)=dP c m aU ro:=by rw[dP,dP,M4]
 have aB:ro.getD a (0,[])=ro[a]:=by simp[cN,bZ a6]
 have gR:=x.gR;simp only[dP,k3,nS]at gR;obtain⟨_,_,dF,dR,hZ⟩:=gR;refine⟨zj x.le (x.new _ (by simp only[dP,dC,ev];exact .inr (.inr (.inr (dn.2 ⟨_,cS a6,rfl⟩))))),?_,?_,λq aq=>?_,by rw[bW];exact x.gR,λb af=>x.new b (by rw[<-bW];exact af)⟩;rw[I.ju (d9 (c2 _ mem).1)];exact x.head;rw[I.ju (d9 (c2 _ mem).2)];exact x.map;rcases ev.1 aq with aq|aq;rw[I.ju];exact x.gl _ (by simp[aq]);exactλe=>hZ _ (dn.2 ⟨_,aq,rfl⟩) _ (dn.2 ⟨_,cS a6,rfl⟩) e;obtain⟨i,ag,rfl⟩:=rb aq;rw[Bk]at ag;simp only[nm,vI,aB];split;exact I.bP _ _ _;rename_i e;rw[I.ju];exact x.gl _ (by simp);intro aI;have ea:i<(ro.map kn).length:=by simpa using ag
 have fI:a<(ro.map kn).length:=by simpa using a6
 have ck:(ro.map kn)[i]=(ro.map kn)[a]:=by simpa using aI
 exact e (Sj dR ea fI ck).symm
theorem bz.ju{bs size n c b:Nat}{A:Option ar}{xs:List ao}{J:Obj}(x:bz h bs size A n c xs)(e:∀g,A=some g->g.block≠b):bz (h.put b J) bs size A n c xs:=by
 obtain⟨h1,ab⟩:=x;refine⟨h1,?_⟩;rcases ab with ab|⟨g,a8,an,aR,cg⟩;exact .inl ab;refine .inr ⟨g,a8,an,?_,cg⟩;rw[I.ju];exact aR;exact e _ an
theorem afe{rs:List (Nat×List Bool)}(e:pC rs a p=0):∃i:Nat,a=i/\i<rs.length:=by
 rw[pC]at e;split at e;cases e;exact⟨a.toNat,by omega,by omega⟩
theorem kG.afa(x:kG ai h c m g bp gH cE aU gy bO ro)(e:pC aU a p=0):kG ai (pB h aU a p) c m g bp gH cE (nm aU a.toNat p.toNat) gy bO ro:=by
 obtain⟨i,rfl,ag⟩:=afe e;have aB:aU.getD i (0,[])=aU[i]:=by simp[cN,bZ ag]
 have bW:dP c m (nm aU i p.toNat) ro=dP c m aU ro:=by rw[dP,dP,M4]
 have mem:aU[i].1∈dP c m aU ro:=by simp only[dP,dC,ev];exact .inr (.inr (.inl (dn.2 ⟨_,cS ag,rfl⟩)))
 rw[pB,aX e,bq,aB];exact⟨by rw[Bk];exact x.core.F6 ag,by rw[Bk,aew];exact x.Dq.ju λb7 dT aI=>(x.Ar b7 dT).1 (by rw[aI];exact mem),x.Dr.ju λb7 dT aI=>(x.As b7 dT).1 (by rw[aI];exact mem),λb7 dT=>by rw[bW];exact x.Ar b7 dT,λb7 dT=>by rw[bW];exact x.As b7 dT,x.aDv⟩
theorem kG.afc(x:kG ai h c m g bp gH cE aU gy bO ro)(e:pC ro a p=0):kG ai (pB h ro a p) c m g bp gH cE aU gy bO (nm ro a.toNat p.toNat):=by
 obtain⟨i,rfl,ag⟩:=afe e;have aB:ro.getD i (0,[])=ro[i]:=by simp[cN,bZ ag]
 have bW:dP c m aU (nm ro i p.toNat)=dP c m aU ro:=by rw[dP,dP,M4]
 have mem:ro[i].1∈dP c m aU ro:=by simp only[dP,dC,ev];exact .inr (.inr (.inr (dn.2 ⟨_,cS ag,rfl⟩)))
 rw[pB,aX e,bq,aB];exact⟨by rw[Bk];exact x.core.axv ag,x.Dq.ju λb7 dT aI=>(x.Ar b7 dT).1 (by rw[aI];exact mem),by rw[Bk,aew];exact x.Dr.ju λb7 dT aI=>(x.As b7 dT).1 (by rw[aI];exact mem),λb7 dT=>by rw[bW];exact x.Ar b7 dT,λb7 dT=>by rw[bW];exact x.As b7 dT,x.aDv⟩
theorem kG.side(x:kG ai h c m g bp gH cE aU gy bO ro):GZ h gH cE aU/\GZ h gy bO ro:=⟨⟨x.Dq,λp hp=>x.core.gl p (by simp[hp])⟩,⟨x.Dr,λp hp=>x.core.gl p (by simp[hp])⟩⟩
theorem kG.mono(x:kG ai h c m g bp gH cE aU gy bO ro)(le:h.le U):kG ai U c m g bp gH cE aU gy bO ro:=⟨x.core.mono le,x.Dq.mono le,x.Dr.mono le,x.Ar,x.As,x.aDv⟩
theorem kG.names(x:kG ai h c m g bp gH cE aU gy bO ro):kG ai (h.put m (rR pv)) c m g pv gH cE aU gy bO ro:=by
 have mem:m∈dP c m aU ro:=by simp[dP]
 exact⟨x.core.names,x.Dq.ju λb7 dT aI=>(x.Ar b7 dT).1 (by rw[aI];exact mem),x.Dr.ju λb7 dT aI=>(x.As b7 dT).1 (by rw[aI];exact mem),x.Ar,x.As,x.aDv⟩
end
def nx:List (List Bool)->List (List Bool)->List GE->Int×List (List Bool)×List (List Bool)
 |aU,ro,[]=>(0,aU,ro)
 |aU,ro,x::l=>if x3 ro x.src x.sp≠0 then(x3 ro x.src x.sp,aU,ro)else if x3 aU x.dst x.ly≠0 then(x3 aU x.dst x.ly,aU,ro)else if 256<x.n then(88,aU,ro)else nx (rZ aU x.dst x.ly) (rZ ro x.src x.sp) l
theorem aj2(c m:Nat)(g:eY)(bp:List ByteArray)(ai h:I)(gH gy:Option ar)(cE bO:Nat)(oj om:List (Nat×List Bool))(cQ:kG ai h c m g bp gH cE oj gy bO om)(ok:g.ok ai)(aC:g.cp.length<=96):Fn aH 145 #[hj c] h λv U=>∃s1 s2 hN,v= .tuple #[R (nx (oj.map ek) (om.map ek) g.cp).1,DB s1 s2 hN]/\ai.le U/\((nx (oj.map ek) (om.map ek) g.cp).1=0->∃aU ro,kG ai U c m g bp gH cE aU gy bO ro/\nx (oj.map ek) (om.map ek) g.cp=(0,aU.map ek,ro.map ek)):=by
 generalize kP:nx (oj.map ek) (om.map ek) g.cp=M;refine b5 arn rfl ?_;refine .hp _ (bN cQ.core.head (o:=2) rfl) ?_;refine .mk (Nat×List (Nat×List Bool)×List (Nat×List Bool)) [0,3,12,13,14] (λ(k,_,_)=>[.v (hj c),.p 0 0,.v (.slice g.gv g.cp.length g.cM),.v (R g.cp.length),.v (R k)]) (λ_=>[.own [.v (.int .u8 0),.v (R 0),.v (R 0)] 253]) (λ(k,aU,ro) U=>kG ai U c m g bp gH cE aU gy bO ro/\k<=g.cp.length/\nx (aU.map ek) (ro.map ek) (g.cp.drop k)=M) (λ(k,_,_)=>g.cp.length-k) (0,oj,om) (λ_=>rfl) ⟨cQ,cO _,kP⟩ rfl rfl ?_;rintro⟨k,aU,ro⟩ e h1 ⟨x,hk,cV⟩;refine aW (λaM=>?_) (λaM=>?_);have br:k<g.cp.length:=by omega
 have vo:=ok.mono x.core.le;obtain⟨jW,lW⟩:=ok.cp.cc (by omega);have aB:g.cp.drop k=g.cp[k]::g.cp.drop (k+1):=o6 br;rw[aB,nx]at cV;refine .mk jW lW (by omega) (by omega) ?_;refine .hp (g.cp[k]).cells rfl (by rw[bq];exact vo.cp.row lW (iM br)) ?_;refine .hp _ (bN x.core.head (o:=7) rfl) ?_;refine .done (.mk _ (Nc gy bO ro _ _ h1 x.side.2) ?_);rintro _ _ ⟨rfl,rfl⟩;refine aW (λaD=>?_) (λaD=>?_);have zt:=aD;rw[vv]at zt;rw[aX zt]at cV;rw[pB,aE aD];exact .done ⟨_,_,_,by rw[<-cV,vv];rfl,x.core.le,λds=>by rw[<-cV]at ds;exact absurd ds zt⟩;have zt:pC ro g.cp[k].src g.cp[k].sp=0:=jw.1 aD;have h2:=x.afc zt;rw[aE (by rw[<-vv];exact aD)]at cV;refine .hp _ (bN h2.core.head (o:=6) rfl) ?_;refine .done (.mk _ (Nc gH cE aU _ _ _ h2.side.1) ?_);rintro _ _ ⟨rfl,rfl⟩;refine aW (λbj=>?_) (λbj=>?_);have qe:=bj;rw[vv]at qe;rw[aX qe]at cV;rw[show pB (pB h1 ro g.cp[k].src g.cp[k].sp) aU g.cp[k].dst g.cp[k].ly=pB h1 ro g.cp[k].src g.cp[k].sp from by rw[pB,aE bj]];exact .done ⟨_,_,_,by rw[<-cV,vv];rfl,h2.core.le,λds=>by rw[<-cV]at ds;exact absurd ds qe⟩;have qe:pC aU g.cp[k].dst g.cp[k].ly=0:=jw.1 bj;have fk:=h2.afa qe;rw[aE (by rw[<-vv];exact bj)]at cV;refine aW (λbT=>?_) (λbT=>?_);rw[aX (by omega)]at cV;exact .done ⟨_,_,_,by rw[<-cV];rfl,fk.core.le,λds=>by rw[<-cV]at ds;exact absurd ds (by simp)⟩;rw[aE (by omega)]at cV;refine .ok (by omega) (by omega) ?_;exact⟨(k+1,nm aU (g.cp[k].dst).toNat (g.cp[k].ly).toNat,nm ro (g.cp[k].src).toNat (g.cp[k].sp).toNat),rfl,rfl,⟨fk,br,by rw[M5,M5];exact cV⟩,by show g.cp.length- (k+1)<g.cp.length-k;omega⟩;rw[tg (by omega),nx]at cV;exact .done ⟨_,_,_,by rw[<-cV];rfl,x.core.le,λ_=>⟨aU,ro,x,cV.symm⟩⟩
def mz:List ByteArray->List (List Bool)->List k0->Int×List ByteArray×List (List Bool)
 |bp,rs,[]=>(0,bp,rs)
 |bp,rs,x::l=>if oc bp x.dD≠0 then(oc bp x.dD,bp,rs)else if x3 rs x.act x.port≠0 then(x3 rs x.act x.port,bp,rs)else mz (bp++[x.dD]) (rZ rs x.act x.port) l
theorem avM(c m:Nat)(g:eY)(tW:List ByteArray)(ai h:I)(gH gy:Option ar)(cE bO:Nat)(oj om:List (Nat×List Bool))(h9:Option ar)(lc:Nat)(l:List k0)(d' jJ:Int)(cQ:kG ai h c m g tW gH cE oj gy bO om)(av:bg ai 3 h9 l.length (l.map k0.cells))(aY:∀a∈l,a.dD.size<=4611686018427387904)(aC:l.length<=16):Fn aH 146 #[hj c,.slice h9 l.length lc,.slice gH oj.length cE,.int .u8 d',R jJ] h λv U=>∃s1 s2 hN,v= .tuple #[R (mz tW (oj.map ek) l).1,DB s1 s2 hN]/\ai.le U/\((mz tW (oj.map ek) l).1=0->∃bp aU,kG ai U c m g bp gH cE aU gy bO om/\mz tW (oj.map ek) l=(0,bp,aU.map ek)):=by
 generalize kP:mz tW (oj.map ek) l=M;refine b5 aaT rfl ?_;refine .mk (Nat×List ByteArray×List (Nat×List Bool)) [0,2,3,4,11,16,17,18] (λ(k,_,_)=>[.v (hj c),.v (.slice gH oj.length cE),.v (.int .u8 d'),.v (R jJ),.p 0 0,.v (.slice h9 l.length lc),.v (R l.length),.v (R k)]) (λ_=>[.own [.v (.int .u8 0),.v (R 0),.v (R 0)] 253]) (λ(k,bp,aU) U=>kG ai U c m g bp gH cE aU gy bO om/\k<=l.length/\aU.length=oj.length/\mz bp (aU.map ek) (l.drop k)=M) (λ(k,_,_)=>l.length-k) (0,tW,oj) (λ_=>rfl) ⟨cQ,cO _,rfl,kP⟩ rfl rfl ?_;rintro⟨k,bp,aU⟩ e h1 ⟨x,hk,ik,cV⟩;refine aW (λaM=>?_) (λaM=>?_);have br:k<l.length:=by omega
 obtain⟨jW,lW⟩:=av.cc (by omega);have aB:l.drop k=l[k]::l.drop (k+1):=o6 br;rw[aB,mz]at cV;refine .mk jW lW (by omega) (by omega) ?_;refine .hp (l[k]).cells rfl (by rw[bq];exact(av.mono x.core.le).row lW (iM br)) ?_;refine .done (.mk _ (Sc c m _ _ (l[k]).dD h1 x.core.head rfl x.core.map (aY _ (cS br))) ?_);rintro _ _ ⟨rfl,ab,cn,rfl⟩;have fk:=(x.mono cn).names (pv:=xO (oc bp l[k].dD) bp l[k].dD);refine aW (λaD=>?_) (λaD=>?_);rw[aX aD]at cV;exact .done ⟨_,_,_,by rw[<-cV];rfl,fk.core.le,λds=>by rw[<-cV]at ds;exact absurd ds aD⟩;rw[aE aD]at cV;have zt:oc bp l[k].dD=0:=jw.1 aD;have tz:xO (oc bp l[k].dD) bp l[k].dD=bp++[l[k].dD]:=by rw[zt,xO,aX rfl]
 rw[tz]at fk⊢;rw[<-ik];refine .done (.mk _ (Nc gH cE aU _ _ _ fk.side.1) ?_);rintro _ _ ⟨rfl,rfl⟩;refine aW (λbj=>?_) (λbj=>?_);have qe:=bj;rw[vv]at qe;rw[aX qe]at cV;rw[pB,aE bj];exact .done ⟨_,_,_,by rw[<-cV,vv];rfl,fk.core.le,λds=>by rw[<-cV]at ds;exact absurd ds qe⟩;have qe:pC aU l[k].act l[k].port=0:=jw.1 bj;have ig:=fk.afa qe;rw[aE (by rw[<-vv];exact bj)]at cV;refine .ok (by omega) (by omega) ?_;exact⟨(k+1,bp++[l[k].dD],nm aU (l[k].act).toNat (l[k].port).toNat),rfl,rfl,⟨ig,br,by rw[Bk],by rw[M5];exact cV⟩,by show l.length- (k+1)<l.length-k;omega⟩;rw[tg (by omega),mz]at cV;exact .done ⟨_,_,_,by rw[<-cV];rfl,x.core.le,λ_=>⟨bp,aU,x,cV.symm⟩⟩
theorem avN(c m:Nat)(g:eY)(tW:List ByteArray)(ai h:I)(gH gy:Option ar)(cE bO:Nat)(oj om:List (Nat×List Bool))(h9:Option ar)(lc:Nat)(l:List k0)(d' jJ:Int)(cQ:kG ai h c m g tW gH cE oj gy bO om)(av:bg ai 3 h9 l.length (l.map k0.cells))(aY:∀a∈l,a.dD.size<=4611686018427387904)(aC:l.length<=16):Fn aH 146 #[hj c,.slice h9 l.length lc,.slice gy om.length bO,.int .u8 d',R jJ] h λv U=>∃s1 s2 hN,v= .tuple #[R (mz tW (om.map ek) l).1,DB s1 s2 hN]/\ai.le U/\((mz tW (om.map ek) l).1=0->∃bp ro,kG ai U c m g bp gH cE oj gy bO ro/\mz tW (om.map ek) l=(0,bp,ro.map ek)):=by
 generalize kP:mz tW (om.map ek) l=M;refine b5 aaT rfl ?_;refine .mk (Nat×List ByteArray×List (Nat×List Bool)) [0,2,3,4,11,16,17,18] (λ(k,_,_)=>[.v (hj c),.v (.slice gy om.length bO),.v (.int .u8 d'),.v (R jJ),.p 0 0,.v (.slice h9 l.length lc),.v (R l.length),.v (R k)]) (λ_=>[.own [.v (.int .u8 0),.v (R 0),.v (R 0)] 253]) (λ(k,bp,ro) U=>kG ai U c m g bp gH cE oj gy bO ro/\k<=l.length/\ro.length=om.length/\mz bp (ro.map ek) (l.drop k)=M) (λ(k,_,_)=>l.length-k) (0,tW,om) (λ_=>rfl) ⟨cQ,cO _,rfl,kP⟩ rfl rfl ?_;rintro⟨k,bp,ro⟩ e h1 ⟨x,hk,ik,cV⟩;refine aW (λaM=>?_) (λaM=>?_);have br:k<l.length:=by omega
 obtain⟨jW,lW⟩:=av.cc (by omega);have aB:l.drop k=l[k]::l.drop (k+1):=o6 br;rw[aB,mz]at cV;refine .mk jW lW (by omega) (by omega) ?_;refine .hp (l[k]).cells rfl (by rw[bq];exact(av.mono x.core.le).row lW (iM br)) ?_;refine .done (.mk _ (Sc c m _ _ (l[k]).dD h1 x.core.head rfl x.core.map (aY _ (cS br))) ?_);rintro _ _ ⟨rfl,ab,cn,rfl⟩;have fk:=(x.mono cn).names (pv:=xO (oc bp l[k].dD) bp l[k].dD);refine aW (λaD=>?_) (λaD=>?_);rw[aX aD]at cV;exact .done ⟨_,_,_,by rw[<-cV];rfl,fk.core.le,λds=>by rw[<-cV]at ds;exact absurd ds aD⟩;rw[aE aD]at cV;have zt:oc bp l[k].dD=0:=jw.1 aD;have tz:xO (oc bp l[k].dD) bp l[k].dD=bp++[l[k].dD]:=by rw[zt,xO,aX rfl]
 rw[tz]at fk⊢;rw[<-ik];refine .done (.mk _ (Nc gy bO ro _ _ _ fk.side.2) ?_);rintro _ _ ⟨rfl,rfl⟩;refine aW (λbj=>?_) (λbj=>?_);have qe:=bj;rw[vv]at qe;rw[aX qe]at cV;rw[pB,aE bj];exact .done ⟨_,_,_,by rw[<-cV,vv];rfl,fk.core.le,λds=>by rw[<-cV]at ds;exact absurd ds qe⟩;have qe:pC ro l[k].act l[k].port=0:=jw.1 bj;have ig:=fk.afc qe;rw[aE (by rw[<-vv];exact bj)]at cV;refine .ok (by omega) (by omega) ?_;exact⟨(k+1,bp++[l[k].dD],nm ro (l[k].act).toNat (l[k].port).toNat),rfl,rfl,⟨ig,br,by rw[Bk],by rw[M5];exact cV⟩,by show l.length- (k+1)<l.length-k;omega⟩;rw[tg (by omega),mz]at cV;exact .done ⟨_,_,_,by rw[<-cV];rfl,x.core.le,λ_=>⟨bp,ro,x,cV.symm⟩⟩
def n4(l:List Bool):Bool:=l.all id
def A'(aU ro:List (List Bool)):Int:=if aU.all n4=true/\ro.all n4=true then 0 else 87
theorem Yf{l:List Bool}{q:Nat}(aq:q<l.length)(ah:l[q]=false):n4 l=false:=by
 cases h:n4 l;rfl;rw[n4,oA]at h;have:=h _ (cS aq);rw[ah]at this;cases this
theorem Yg{l:List Bool}{q:Nat}(aq:q<l.length)(h:n4 (l.take q)=true)(ah:l[q]=true):n4 (l.take (q+1))=true:=by
 rw[kh aq,n4,List.all_append,<-n4,h];simp[ah]
theorem afd{rs:List (Nat×List Bool)}{k:Nat}(hk:k<rs.length)(h:∀p∈rs.take k,n4 p.2=true)(ah:n4 rs[k].2=true):∀p∈rs.take (k+1),n4 p.2=true:=by
 intro p hp;rw[kh hk,ev,List.mem_singleton]at hp;rcases hp with hp|rfl;exact h p hp;exact ah
theorem au'(c m:Nat)(g:eY)(bp:List ByteArray)(ai h:I)(gH gy:Option ar)(cE bO:Nat)(aU ro:List (Nat×List Bool))(x:kG ai h c m g bp gH cE aU gy bO ro)(ag:aU.length=g.bt.length)(aL:ro.length=g.bt.length)(aC:g.bt.length<=32)(azK:∀p∈aU,p.2.length<=16)(o2:∀p∈ro,p.2.length<=16):Fn aH 147 #[hj c] h λv U=>∃s1 s2 hN,v= .tuple #[R (A' (aU.map ek) (ro.map ek)),DB s1 s2 hN]/\U=h:=by
 have bad:∀k,(hk:k<g.bt.length)->(n4 (aU[k]'(by omega)).2=false\/n4 (ro[k]'(by omega)).2=false)->A' (aU.map ek) (ro.map ek)=87:=by
  intro k hk af;rw[A',aE];rintro⟨h1,ab⟩;rw[oA]at h1 ab;rcases af with af|af;have:=h1 _ (dn.2 ⟨_,cS (by omega:k<aU.length),rfl⟩);rw[af]at this;cases this;have:=ab _ (dn.2 ⟨_,cS (by omega:k<ro.length),rfl⟩);rw[af]at this;cases this
 refine b5 aro rfl ?_;refine .hp _ (bN x.core.head (o:=1) rfl) ?_;refine .mk Nat [0,3,14,15] (λk=>[.v (hj c),.p 0 0,.v (R g.bt.length),.v (R k)]) (λ_=>[.own [.v (.int .u8 0),.v (R 0),.v (R 0)] 253]) (λk U=>U=h/\k<=g.bt.length/\(∀p∈aU.take k,n4 p.2=true)/\(∀p∈ro.take k,n4 p.2=true)) (λk=>g.bt.length-k) 0 (λ_=>rfl) ⟨rfl,cO _,by simp,by simp⟩ rfl rfl ?_;rintro k e h1 ⟨rfl,hk,f1,f2⟩;refine aW (λaM=>?_) (λaM=>?_);have br:k<g.bt.length:=by omega
 have bJ:k<aU.length:=by omega
 have bB:k<ro.length:=by omega
 obtain⟨g1,kt⟩:=x.Dq.dr.cc (by omega);obtain⟨g2,gV⟩:=x.Dr.dr.cc (by omega);refine .hp _ (bN x.core.head (o:=6) rfl) ?_;refine .mk g1 kt (by omega) (by omega) ?_;refine .hp _ (by rw[bq];exact x.side.1.row kt bJ) ?_;refine .hp _ (bN x.core.head (o:=7) rfl) ?_;refine .mk g2 gV (by omega) (by omega) ?_;refine .hp _ (by rw[bq];exact x.side.2.row gV bB) ?_;refine .mk Nat [0,3,4,14,15,32,33,34] (λo=>[.v (hj c),.p 0 0,.v (R k),.v (R g.bt.length),.v (R k),.s 1 0 2 2,.v (R 2),.v (R o)]) (λ_=>[.own [.v (.int .u8 0),.v (R 0),.v (R 0)] 253,.own [.v (m8 aU[k]),.v (m8 ro[k])] 193]) (λo U=>U=h1/\o<=2/\(1<=o->n4 aU[k].2=true)/\(2<=o->n4 ro[k].2=true)) (λo=>2-o) 0 (λ_=>rfl) ⟨rfl,by decide,by simp,by simp⟩ rfl rfl ?_;rintro o e ab ⟨rfl,ae,f3,f4⟩;obtain rfl|rfl|rfl:o=0\/o=1\/o=2:=by omega
 refine .mk (by decide) (by decide) ?_;refine .mk Nat [0,3,4,14,15,32,33,34,38,39,40] (λq=>[.v (hj c),.p 0 0,.v (R k),.v (R g.bt.length),.v (R k),.s 1 0 2 2,.v (R 2),.v (R (0:Nat)),.v (m8 aU[k]),.v (R aU[k].2.length),.v (R q)]) (λ_=>[.own [.v (.int .u8 0),.v (R 0),.v (R 0)] 253,.own [.v (m8 aU[k]),.v (m8 ro[k])] 193]) (λq U=>U=ab/\q<=aU[k].2.length/\n4 (aU[k].2.take q)=true) (λq=>aU[k].2.length-q) 0 (λ_=>rfl) ⟨rfl,cO _,rfl⟩ rfl rfl ?_;rintro q e an ⟨rfl,aq,f5⟩;have af:=x.side.1.gl aU[k] (cS (by omega));have hw:=azK _ (cS bJ);refine aW (λcF=>?_) (λcF=>?_);have p5:q<aU[k].2.length:=by omega
 refine .mk _ rfl (by omega) (by omega) ?_;refine .hp (.bool aU[k].2[q]) (by rw[add_lit,dJ,bq,ew];exact bN af (by rw[dV,bZ p5];rfl)) ?_;cases ah:aU[k].2[q];exact .done ⟨_,_,_,by rw[bad k br (.inl (Yf p5 ah))];rfl,rfl⟩;refine .ok (by omega) (by omega) ?_;exact⟨q+1,rfl,rfl,⟨rfl,p5,Yg p5 f5 ah⟩,by omega⟩;refine .ok (by omega) (by omega) ?_;have QT:q=aU[k].2.length:=by omega
 rw[QT,pM]at f5;exact⟨1,rfl,rfl,⟨rfl,by omega,λ_=>f5,λ_=>by omega⟩,by omega⟩;refine .mk (by decide) (by decide) ?_;refine .mk Nat [0,3,4,14,15,32,33,34,38,39,40] (λq=>[.v (hj c),.p 0 0,.v (R k),.v (R g.bt.length),.v (R k),.s 1 0 2 2,.v (R 2),.v (R (1:Nat)),.v (m8 ro[k]),.v (R ro[k].2.length),.v (R q)]) (λ_=>[.own [.v (.int .u8 0),.v (R 0),.v (R 0)] 253,.own [.v (m8 aU[k]),.v (m8 ro[k])] 193]) (λq U=>U=ab/\q<=ro[k].2.length/\n4 (ro[k].2.take q)=true) (λq=>ro[k].2.length-q) 0 (λ_=>rfl) ⟨rfl,cO _,rfl⟩ rfl rfl ?_;rintro q e an ⟨rfl,aq,f5⟩;have af:=x.side.2.gl ro[k] (cS (by omega));have hw:=o2 _ (cS bB);refine aW (λcF=>?_) (λcF=>?_);have p5:q<ro[k].2.length:=by omega
 refine .mk _ rfl (by omega) (by omega) ?_;refine .hp (.bool ro[k].2[q]) (by rw[add_lit,dJ,bq,ew];exact bN af (by rw[dV,bZ p5];rfl)) ?_;cases ah:ro[k].2[q];exact .done ⟨_,_,_,by rw[bad k br (.inr (Yf p5 ah))];rfl,rfl⟩;refine .ok (by omega) (by omega) ?_;exact⟨q+1,rfl,rfl,⟨rfl,p5,Yg p5 f5 ah⟩,by omega⟩;refine .ok (by omega) (by omega) ?_;have QT:q=ro[k].2.length:=by omega
 rw[QT,pM]at f5;exact⟨2,rfl,rfl,⟨rfl,by omega,λ_=>f3 (by omega),λ_=>f5⟩,by omega⟩;refine .ok (by omega) (by omega) ?_;exact⟨k+1,rfl,rfl,⟨rfl,br,afd bJ f1 (f3 (by omega)),afd bB f2 (f4 (by omega))⟩,by omega⟩;have aBb:k=g.bt.length:=by omega
 rw[k4 (by omega)]at f1 f2;have:A' (aU.map ek) (ro.map ek)=0:=by
  rw[A',aX];simp only[oA,dn];exact⟨by rintro _ ⟨p,hp,rfl⟩;exact f1 p hp,by rintro _ ⟨p,hp,rfl⟩;exact f2 p hp⟩
 exact .done ⟨_,_,_,by rw[this];rfl,rfl⟩
def mO(g:eY):Int:=
 if sr g≠0 then sr g else
 if uD [] g.bt≠0 then uD [] g.bt else
 let a:=nx (g.bt.map AX) (g.bt.map Bb) g.cp
 if a.1≠0 then a.1 else
 let b:=mz (g.bt.map h8.dD) a.2.1 g.ins
 if b.1≠0 then b.1 else
 let c:=mz b.2.1 a.2.2 g.outs
 if c.1≠0 then c.1 else A' b.2.2 c.2.2
theorem kG.init{h:I}{c m:Nat}(hm:h m=none)(aw:(h.put m (.map #[] 0)) c=none):kG h ((h.put m (.map #[] 0)).put c (.cells (yF g m (.slice none 0 0) (.slice none 0 0)).toArray 334 (0,0))) c m g [] none 0 [] none 0 []:=by
 have ne:c≠m:=λe=>by rw[e,I.bP]at aw;cases aw
 have lU:h c=none:=by rwa[I.ju ne]at aw
 refine⟨⟨zj (I.du hm) lU,I.bP _ _ _,by rw[I.ju (d9 ne),I.bP];rfl,by simp,by simp[dP,ne],?_⟩,⟨rfl,.inl ⟨rfl,rfl,rfl⟩⟩,⟨rfl,.inl ⟨rfl,rfl,rfl⟩⟩,(λ_ e=>by cases e),(λ_ e=>by cases e),(λ_ _ e=>by cases e)⟩;intro b af;simp only[dP,dC,zU,List.append_nil,List.not_mem_nil,or_false]at af;rcases af with rfl|rfl;exact lU;exact hm
theorem aeC(rs:List (List Bool))(a p:Int)(w:∀r∈rs,r.length<=16):(rZ rs a p).length=rs.length/\∀r∈rZ rs a p,r.length<=16:=by
 refine⟨by simp[rZ],λr am=>?_⟩;rcases List.mem_or_eq_of_mem_set am with am|rfl;exact w r am;rw[k2,cN];cases h:rs[a.toNat]?with
 |none=>simp
 |some q=>exact w q (List.mem_of_getElem? h)
def vV(n:Nat)(rs:List (List Bool)):Prop:=rs.length=n/\∀r∈rs,r.length<=16
theorem vV.set{n:Nat}{rs:List (List Bool)}(x:vV n rs)(a p:Int):vV n (rZ rs a p):=⟨(aeC rs a p x.2).1.trans x.1,(aeC rs a p x.2).2⟩
theorem W5{n:Nat}:∀(l:List GE)(aU ro:List (List Bool)),vV n aU->vV n ro->vV n (nx aU ro l).2.1/\vV n (nx aU ro l).2.2
 |[],_,_,h1,ab=>⟨h1,ab⟩
 |x::l,aU,ro,h1,ab=>by
  rw[nx];split;exact⟨h1,ab⟩;split;exact⟨h1,ab⟩;split;exact⟨h1,ab⟩;exact W5 l _ _ (h1.set _ _) (ab.set _ _)
theorem SS{n:Nat}:∀(l:List k0)(bp:List ByteArray)(rs:List (List Bool)),vV n rs->vV n (mz bp rs l).2.2
 |[],_,_,h1=>h1
 |x::l,bp,rs,h1=>by
  rw[mz];split;exact h1;split;exact h1;exact SS l _ _ (h1.set _ _)
theorem akQ(g:eY)(h:I)(ok:g.ok h):Fn aH 102 #[.agg g.cells.toArray] h λv U=>h.le U/\∃s1 s2 hN,v= .tuple #[R (mO g),DB s1 s2 hN]:=by
 refine b5 aqP rfl ?_;refine .mk λm hm=>?_;refine .mk λc aw=>?_;have cQ:=kG.init (g:=g) hm aw;refine .done (.mk _ (amW c m g _ _ _ cQ.core.head (ok.mono cQ.core.le)) ?_);rintro _ h1 ⟨cr,s1,s2,hN,rfl⟩;have h2:=cQ.mono cr;refine aW (λaM=>?_) (λaM=>?_);exact .done ⟨h2.core.le,_,_,_,by rw[mO,aX aM];rfl⟩;have FY:sr g=0:=jw.1 aM;obtain⟨bL,cy,gE,iW⟩:g.bt.length<=32/\g.cp.length<=96/\g.ins.length<=16/\g.outs.length<=16:=by
  rw[sr]at FY;repeat' split at FY
  all_goals first|(exact absurd FY (by decide))|(refine⟨?_,?_,?_,?_⟩<;>omega)
 refine .done (.mk _ (aiD c m g h h1 ⟨h2,rfl,rfl⟩ ok bL) ?_);rintro _ ab ⟨s1,s2,hN,rfl,cn,aO⟩;refine aW (λaD=>?_) (λaD=>?_);exact .done ⟨cn,_,_,_,by rw[mO,aE aM,aX aD];rfl⟩;obtain⟨gH,cE,aU,gy,bO,ro,fk⟩:=aO (jw.1 aD);obtain⟨fk,iA,mN⟩:=fk;rw[pM]at fk iA mN;have azD:vV g.bt.length (g.bt.map AX):=⟨by simp,λr am=>by obtain⟨a,_,rfl⟩:=dn.1 am;simpa[AX]using(zz a.tag a.be).1⟩;have azE:vV g.bt.length (g.bt.map Bb):=⟨by simp,λr am=>by obtain⟨a,_,rfl⟩:=dn.1 am;simpa[Bb]using(zz a.tag a.be).2⟩;refine .done (.mk _ (aj2 c m g _ h ab gH gy cE bO aU ro fk ok cy) ?_);rw[iA,mN];rintro _ an ⟨s1,s2,hN,rfl,dZ,cV⟩;refine aW (λbj=>?_) (λbj=>?_);exact .done ⟨dZ,_,_,_,by rw[mO,aE aM,aE aD];dsimp only;rw[aX bj];rfl⟩;obtain⟨s5,rY,ig,wb⟩:=cV (jw.1 bj);have iI:=W5 g.cp _ _ azD azE;rw[wb]at iI;have c9:rY.length=ro.length/\s5.length=aU.length:=by
  have h1:=iI.1.1;have ab:=iI.2.1;have an:=ho e7 iA;have aR:=ho e7 mN;simp at h1 ab an aR;omega
 refine .hp _ (bN ig.core.head (o:=6) rfl) ?_;refine⟨?_,?_⟩;all_goals conv=>whnf
 all_goals refine .done (.mk _ (avM c m g _ h an gH gy cE bO s5 rY g.eF g.cE g.ins _ _ ig ok.ins ok.aak gE) ?_)
 all_goals rintro _ aR ⟨s1,s2,hN,rfl,cW,gf⟩
 all_goals conv=>whnf
 all_goals refine aW (λbT=>?_) (λbT=>?_)
 iterate 2
  exact .done ⟨cW,_,_,_,by rw[mO,aE aM,aE aD];dsimp only;rw[wb,aE (by simp),aX bT];rfl⟩
  rotate_left
 all_goals obtain⟨auK,Jf,qm,EC⟩:=gf (jw.1 bT)
 all_goals have jf:=SS (n:=g.bt.length) g.ins (g.bt.map h8.dD) (s5.map ek) iI.1
 all_goals rw[EC]at jf
 all_goals conv=>whnf
 all_goals refine .hp _ (bN qm.core.head (o:=7) rfl) ?_
 all_goals conv=>whnf
 all_goals refine⟨?_,?_⟩
 all_goals conv=>whnf
 all_goals refine .done (.mk _ (avN c m g _ h aR gH gy cE bO Jf rY g.ct g.bO g.outs _ _ qm ok.outs ok.adg iW) ?_)
 all_goals rintro _ cg ⟨s1,s2,hN,rfl,fW,hO⟩
 all_goals conv=>whnf
 all_goals refine aW (λdz=>?_) (λdz=>?_)
 iterate 4
  exact .done ⟨fW,_,_,_,by rw[mO,aE aM,aE aD];dsimp only;rw[wb,aE (by simp)];dsimp only;rw[EC,aE (by simp)];dsimp only;rw[aX dz];rfl⟩
  rotate_left
 all_goals obtain⟨aBK,Jg,DQ,WY⟩:=hO (jw.1 dz)
 all_goals have lF:=SS (n:=g.bt.length) g.outs auK (rY.map ek) iI.2
 all_goals rw[WY]at lF
 all_goals conv=>whnf
 all_goals refine .done (.mk _ (au' c m g _ h cg gH gy cE bO Jf Jg DQ (by simpa using jf.1) (by simpa using lF.1) bL (λp hp=>jf.2 _ (dn.2 ⟨p,hp,rfl⟩)) (λp hp=>lF.2 _ (dn.2 ⟨p,hp,rfl⟩))) ?_)
 all_goals rintro _ _ ⟨s1,s2,hN,rfl,rfl⟩
 all_goals conv=>whnf
 all_goals exact .done ⟨DQ.core.le,_,_,_,by rw[mO,aE aM,aE aD];dsimp only;rw[wb,aE (by simp)];dsimp only;rw[EC,aE (by simp)];dsimp only;rw[WY,aE (by simp)];rfl⟩
theorem Wn(g:eY)(h:I)(ok:g.ok h):Fn aH 44 #[.agg g.cells.toArray] h λv U=>h.le U/\v=R (mO g):=by
 refine b5 asd rfl ?_;refine .done (.mk _ (akQ g h ok) ?_);rintro _ h1 ⟨cr,s1,s2,hN,rfl⟩;exact .done ⟨cr,rfl⟩
theorem TL{rs:List (List Bool)}(e:x3 rs a p=0):0<=a/\a<rs.length/\0<=p/\p<((rs.map e7).getD a.toNat 0):=by
 rw[x3]at e;split at e;cases e;split at e;cases e;rename_i h1 ab;have:(rs.getD a.toNat []).length=(rs.map e7).getD a.toNat 0:=by
  simp only[cN,dV];cases rs[a.toNat]? <;>rfl
 omega
theorem F7(rs:List (List Bool))(a p:Int):(rZ rs a p).map e7=rs.map e7:=by
 rw[rZ,nb,k2];by_cases h:a.toNat<rs.length;apply vH (by simp);intro i h1 ab;rw[vI];split;rename_i e;subst e;simp[cN,bZ h];rfl;rw[UX (by simpa using h)]
def Ij(ls:List Nat)(a p:Int):Prop:=0<=a/\a<ls.length/\0<=p/\p<(ls.getD a.toNat 0:Nat)
theorem W6:∀(l:List GE)(aU ro:List (List Bool)),(nx aU ro l).1=0->∀x∈l,Ij (ro.map e7) x.src x.sp/\Ij (aU.map e7) x.dst x.ly/\x.n<=256
 |[],_,_,_=>by simp
 |x::l,aU,ro,e=>by
  rw[nx]at e;split at e;rename_i h;exact absurd e h;split at e;rename_i h;exact absurd e h;split at e;cases e;rename_i h1 ab an;have t1:=TL (jw.1 h1);have t2:=TL (jw.1 ab);intro y aQ;rcases dC.1 aQ with rfl|aQ;exact⟨⟨t1.1,by simpa using t1.2.1,t1.2.2⟩,⟨t2.1,by simpa using t2.2.1,t2.2.2⟩,by omega⟩;have:=W6 l _ _ e y aQ;rwa[F7,F7]at this
theorem Vv:∀(l:List h8)(bp:List ByteArray),uD bp l=0->∀a∈l,(bD a.tag a.be).1=0
 |[],_,_=>by simp
 |a::l,bp,e=>by
  rw[uD]at e;split at e;rename_i h;exact absurd e h;split at e;rename_i h;exact absurd e h;rename_i h1 ab;intro y aQ;rcases dC.1 aQ with rfl|aQ;exact jw.1 ab;exact Vv l _ e y aQ
def yO(g:eY)(v:Int):List Int:=match g.bt[v.toNat]?with
 |some a=>(bD a.tag a.be).2.1
 |none=>[]
def yP(g:eY)(v:Int):List Int:=match g.bt[v.toNat]?with
 |some a=>(bD a.tag a.be).2.2
 |none=>[]
theorem ST:∀(l:List k0)(bp:List ByteArray)(rs:List (List Bool)),(mz bp rs l).1=0->∀x∈l,Ij (rs.map e7) x.act x.port
 |[],_,_,_=>by simp
 |x::l,bp,rs,e=>by
  rw[mz]at e;split at e;rename_i h;exact absurd e h;split at e;rename_i h;exact absurd e h;rename_i h1 ab;have t1:=TL (jw.1 ab);intro y aQ;rcases dC.1 aQ with rfl|aQ;exact⟨t1.1,by simpa using t1.2.1,t1.2.2⟩;have:=ST l _ _ e y aQ;rwa[F7]at this
theorem W4:∀(l:List GE)(aU ro:List (List Bool)),(nx aU ro l).2.1.map e7=aU.map e7/\(nx aU ro l).2.2.map e7=ro.map e7
 |[],_,_=>⟨rfl,rfl⟩
 |x::l,aU,ro=>by
  rw[nx];split;exact⟨rfl,rfl⟩;split;exact⟨rfl,rfl⟩;split;exact⟨rfl,rfl⟩;have:=W4 l (rZ aU x.dst x.ly) (rZ ro x.src x.sp);rwa[F7,F7]at this
structure UF(g:eY):Prop where
 cP:1<=g.bt.length
 a32:g.bt.length<=32
 v':g.cp.length<=96
 i16:g.ins.length<=16
 Dl:g.outs.length<=16
 F8:∀a∈g.bt,(bD a.tag a.be).1=0
 Ao:∀x∈g.cp,(0<=x.src/\x.src<g.bt.length/\0<=x.sp/\x.sp<(yP g x.src).length)/\(0<=x.dst/\x.dst<g.bt.length/\0<=x.ly/\x.ly<(yO g x.dst).length)/\x.n<=256
 aoF:∀x∈g.ins,0<=x.act/\x.act<g.bt.length/\0<=x.port/\x.port<(yO g x.act).length
 avi:∀x∈g.outs,0<=x.act/\x.act<g.bt.length/\0<=x.port/\x.port<(yP g x.act).length
theorem aah(h:Ij ((g.bt.map AX).map e7) a p):0<=a/\a<g.bt.length/\0<=p/\p<(yO g a).length:=by
 obtain⟨h1,ab,an,aR⟩:=h;simp only[ih]at ab;refine⟨h1,ab,an,?_⟩;have al:a.toNat<g.bt.length:=by omega
 simpa[yO,cN,bZ al,AX]using aR
theorem aai(h:Ij ((g.bt.map Bb).map e7) a p):0<=a/\a<g.bt.length/\0<=p/\p<(yP g a).length:=by
 obtain⟨h1,ab,an,aR⟩:=h;simp only[ih]at ab;refine⟨h1,ab,an,?_⟩;have al:a.toNat<g.bt.length:=by omega
 simpa[yP,cN,bZ al,Bb]using aR
theorem K0(e:mO g=0):UF g:=by
 rw[mO]at e;split at e;rename_i h;exact absurd e h;split at e;rename_i h;exact absurd e h;dsimp only at e;split at e;rename_i h;exact absurd e h;split at e;rename_i h;exact absurd e h;split at e;rename_i h;exact absurd e h;rename_i h1 ab an aR cg;have aM:sr g=0:=jw.1 h1;obtain⟨eD,bL,cy,gE,iW⟩:1<=g.bt.length/\g.bt.length<=32/\g.cp.length<=96/\g.ins.length<=16/\g.outs.length<=16:=by
  rw[sr]at aM;repeat' split at aM
  all_goals first|(exact absurd aM (by decide))|(refine⟨?_,?_,?_,?_,?_⟩<;>omega)
 have yK:=W6 g.cp _ _ (jw.1 an);have el:=W4 g.cp (g.bt.map AX) (g.bt.map Bb);have pi:=ST g.ins _ _ (jw.1 aR);have xS:=ST g.outs _ _ (jw.1 cg);rw[el.1]at pi;rw[el.2]at xS;exact⟨eD,bL,cy,gE,iW,Vv g.bt _ (jw.1 ab),λx ad=>⟨aai (yK x ad).1,aah (yK x ad).2.1,(yK x ad).2.2⟩,λx ad=>aah (pi x ad),λx ad=>aai (xS x ad)⟩
def EJ(g:eY)(x:GE):bo:=⟨x.src,x.dst,(yP g x.src).getD x.sp.toNat 0,(yO g x.dst).getD x.ly.toNat 0,x.n⟩
def fH(g:eY):List bo:=g.cp.map (EJ g)
def ahQ(h U:I)(v:ao)(N:Int)(l:List bo):Prop:=∃A c,v=my N A l.length c/\bz U 157 5 A l.length c (l.map bo.cells).flatten/\∀g,A=some g->h g.block=none
theorem auT(g:eY)(h:I)(ok:g.ok h):Fn aH 21 #[.agg g.cells.toArray] h λv U=>h.le U/\∃n,v= .tuple #[n,R (mO g)]/\(∃(N:Int)(A:Option ar)(m c:Nat),n=my N A m c)/\(mO g=0->ahQ h U n g.bt.length (fH g)):=by
 refine b5 arV rfl ?_;refine .done (.mk _ (Wn g h ok) ?_);rintro _ h1 ⟨cr,rfl⟩;refine aW (λaM=>?_) (λaM=>?_);exact .done ⟨cr,_,rfl,⟨0,none,0,0,rfl⟩,λe=>absurd e aM⟩;have dk:=K0 (jw.1 aM);refine .kU [0,1,2] (Nat×Option ar×Nat) [1,2,5,27,28,29] (λ(k,_,_)=>[.p 0 0,.p 1 0,.p 2 0,.v (.slice g.gv g.cp.length g.cM),.v (R g.cp.length),.v (R k)]) (λ(k,A,c)=>[.own (g.cells.map .v) 26,.own [.v (R 0),.v (.slice none 0 0)] 33,.own [.v (R g.bt.length),.v (.slice A k c)] 33]) (λ(k,A,c) U=>h.le U/\k<=g.cp.length/\bz U 157 5 A k c (((fH g).take k).map bo.cells).flatten/\∀b7,A=some b7->h b7.block=none) (λ(k,_,_)=>g.cp.length-k) (0,none,0) (λ_=>rfl) ⟨cr,cO _,⟨rfl,.inl ⟨rfl,rfl,rfl⟩⟩,λ_ e=>by cases e⟩ rfl rfl rfl ?_;rintro⟨k,A,c⟩ e ab ⟨cn,hk,am,az⟩;by_cases br:k<g.cp.length
 .refine .abs 157 5 A k c _ am (.done ?_);have dZ:=WF cn az;generalize ei ab A=hH at dZ⊢;have vo:=ok.mono dZ;have xt:=dk.Ao _ (cS br);have K8:(g.cp[k]).src.toNat<g.bt.length:=by omega
  have rz:(g.cp[k]).dst.toNat<g.bt.length:=by omega
  refine aW (λaD=>?_) (λaD=>by omega);obtain⟨ge,E2⟩:=ok.cp.cc (by omega);obtain⟨jW,lW⟩:=ok.bt.cc (by omega);refine .mk ge E2 (by omega) (by omega) ?_;refine .hp (g.cp[k]).cells rfl (by rw[bq];exact vo.cp.row E2 (iM br)) ?_;refine .mk jW lW (by omega) (by omega) ?_;refine .hp (g.bt[(g.cp[k]).src.toNat]).cells rfl (vo.bt.row lW (iM K8)) ?_;refine .mk jW lW (by omega) (by omega) ?_;refine .hp (g.bt[(g.cp[k]).dst.toNat]).cells rfl (vo.bt.row lW (iM rz)) ?_;refine⟨?_,?_⟩;all_goals conv=>whnf
  all_goals refine .done (.mk _ (FK _ _ _ _ (g.bt[(g.cp[k]).src.toNat]).be _ (vo.act _ (cS K8)).dG (vo.act _ (cS K8)).n8) ?_)
  all_goals rintro _ an ⟨_,_,rfl,cW,⟨iu,c1,rfl,fv,f1⟩,⟨dE,c2,rfl,dU,f2⟩⟩
  all_goals conv=>whnf
  all_goals refine .done (.mk _ (FK _ _ _ _ (g.bt[(g.cp[k]).dst.toNat]).be _ ((vo.act _ (cS rz)).dG.mono cW) (vo.act _ (cS rz)).n8) ?_)
  all_goals rintro _ aR ⟨_,_,rfl,fW,⟨lm,eI,rfl,gi,f3⟩,⟨agc,tq,rfl,fT,f4⟩⟩
  all_goals conv=>whnf
  all_goals have mN:yP g (g.cp[k]).src=(bD g.bt[(g.cp[k]).src.toNat].tag g.bt[(g.cp[k]).src.toNat].be).2.2:=by simp[yP,bZ K8]
  all_goals have iA:yO g (g.cp[k]).dst=(bD g.bt[(g.cp[k]).dst.toNat].tag g.bt[(g.cp[k]).dst.toNat].be).2.1:=by simp[yO,bZ rz]
  all_goals rw[mN,iA]at xt
  all_goals have dc:(g.cp[k]).sp.toNat<(bD g.bt[(g.cp[k]).src.toNat].tag g.bt[(g.cp[k]).src.toNat].be).2.2.length:=by omega
  all_goals have c9:(g.cp[k]).ly.toNat<(bD g.bt[(g.cp[k]).dst.toNat].tag g.bt[(g.cp[k]).dst.toNat].be).2.1.length:=by omega
  all_goals have t2:=(dU.mono fW).jr
  all_goals have t3:=gi.jr
  all_goals obtain⟨g2,gV⟩:=t2.cc (by omega)
  all_goals obtain⟨g3,Lm⟩:=t3.cc (by omega)
  all_goals refine .mk g2 gV (by omega) (by omega) ?_
  all_goals conv=>whnf
  all_goals refine .hp _ (t2.one gV (iM dc) rfl) ?_
  all_goals conv=>whnf
  all_goals refine .mk g3 Lm (by omega) (by omega) ?_
  all_goals conv=>whnf
  all_goals refine .hp _ (t3.one Lm (iM c9) rfl) ?_
  all_goals conv=>whnf
  all_goals refine .cR 3 _ (EJ g g.cp[k]).cells rfl (by simp[EJ,bo.cells,mN,iA,cN,bZ dc,bZ c9,R]) (by simp[bo.cells,Aa,R]) (by have:=dk.v';simp[c'];omega) (by have:=dk.v';omega) λbA bu Yw=>?_
  all_goals conv=>whnf
  all_goals refine .ok (by omega) (by have:=dk.v';omega) ?_
  all_goals conv=>whnf
  all_goals refine .bV 3 157 5 bA (k+1) bu _ rfl λcg hv oo f5=>?_
  all_goals have oo:bz cg 157 5 bA (k+1) bu ((((fH g).take k).map bo.cells).flatten++(EJ g g.cp[k]).cells):=oo
  all_goals have anb:k<(fH g).length:=by simpa[fH]using br
  all_goals have iY:(((fH g).take (k+1)).map bo.cells).flatten=(((fH g).take k).map bo.cells).flatten++(EJ g g.cp[k]).cells:=by rw[kh anb,fm,List.flatten_append];simp[fH]
  all_goals exact .done ⟨(k+1,bA,bu),rfl,rfl,⟨I.le_trans dZ (I.le_trans cW (I.le_trans fW hv)),br,by rw[iY];exact oo,λb7 dT=>I.none_le (I.le_trans dZ (I.le_trans cW fW)) (f5 b7 dT)⟩,by show g.cp.length- (k+1)<g.cp.length-k;omega⟩
 refine .done ?_;refine aW (λaD=>by omega) (λaD=>?_);have oN:k=g.cp.length:=by omega
 have al:(fH g).length=k:=by rw[oN];simp[fH]
 rw[k4 (by omega)]at am;refine .done ⟨cn,my g.bt.length A k c,by rw[jw.1 aM];rfl,⟨_,_,_,_,rfl⟩,λ_=>⟨A,c,by rw[al],by rw[al];exact am,az⟩⟩
end Go.Sx
namespace Go.Sx
open Go.RowKit
set_option maxRecDepth 100000
set_option maxHeartbeats 0
set_option linter.all false
variable {bM:List Nat}
structure Alike(w aZ:bb):Prop where
 heap:aZ.heap=w.heap
 os:aZ.os=w.os
 tape:aZ.tape=w.tape
 output:aZ.output=w.output
def Idle(P:dW)(g:jh)(cap:Array ao):Prop:=(∃fn,P.funcs[g]?=some fn/\fn.body.isSome=true/\(fn.name== "runtime.NumGoroutine")=false)/\∀w,CallsD P g cap .returning w λe u aZ=>(∃v,e= .returned v)/\u= .returning/\Alike w aZ
def DX(P:dW)(d:l9):Prop:=∃g cap,d={target:=.fn (.func g) cap,args:=#[]}/\Idle P g cap
abbrev BT:=Exit->List l9->bY->List LE->I->Prop
def Kx:Op->Option dB
 |.defer c=>(match c.callee,c.args.toList with
  |.value x,[]=>some (bK x)
  |_,_=>none)
 |_=>none
def DO(P:dW)(n:Nat):List cC->List l9->bY->List LE->I->(List l9->bY->List LE->I->Prop)->Prop
 |[],a7,e,L,h,K=>K a7 e L h
 |J::r,a7,e,L,h,K=>(match J.g,J.k with
  |none,.raw op=>(match Kx op with
   |some x=>(match x.get e with
    |.v (.func (.func g) first cap)=>bif first.isEmpty then Idle P g cap/\gn n J.d (.v eU) e L h λe L h=>DO P n r ({target:=.fn (.func g) cap,args:=#[]}::a7) e L h K else False
    |_=>False)
   |none=>gG P n J e L h λe L h=>DO P n r a7 e L h K)
  |_,_=>gG P n J e L h λe L h=>DO P n r a7 e L h K)
def Jz(P:dW)(n:Nat):IR->BT->List l9->bY->List LE->I->Prop
 |.seq a b,Q,a7,e,L,h=>Jz P n a (λx a7 e L h=>match x with|.normal=>Jz P n b Q a7 e L h|x=>Q x a7 e L h) a7 e L h
 |.ch ops,Q,a7,e,L,h=>DO P n ops a7 e L h (Q .normal)
 |ms,Q,a7,e,L,h=>c7 P n ms (λx e L h=>Q x a7 e L h) e L h
section
variable {P:dW}{ai:I}{aV:bb}{n:Nat}{β:Nat->Nat}{L:List LE}{h:I}{e:bY}{a:Act}{w:bb}
def L6(P:dW)(ai:I)(aV:bb)(n:Nat)(Q:BT):Exit->Act->bb->Prop:=λx a w=>∃(a0:Act)(a7:List l9),a={a0 with defers:=a7}/\(∀d∈a7,DX P d)/\∃β e L h,cb ai aV β L h w/\cJ n β L e a0/\de L/\Q x a7 e L h
theorem az1{J:b8}{next:Act->bb->Prop}{Q nt:Exit->Act->bb->Prop}(h:J.wp P a w next Q)(cD:∀x a w,Q x a w->nt x a w):J.wp P a w next nt:=by
 unfold zX at h⊢;generalize(cY a.eval J).run P w=r at h⊢;cases r with
 |ok x aZ=>
  cases x with
  |enter f args=>
   rw[Oper.upon_enter]at h⊢;refine Calls.mono h ?_;intro ke pF hw;cases ke with
   |returned v=>exact hw
   |panicked v7=>grind
   |outgrown=>obtain⟨a,w,q⟩:=hw;exact⟨a,w,cD _ _ _ q⟩
  |_=>exact h
 |halt x aZ=>
  cases x with
  |panic v=>exact cD _ _ _ h
  |_=>exact h
theorem aty{J op:Op}(h:bI P J= .raw op)(aB:Kx op≠none):J=op:=by
 cases J<;>simp only[bI]at h<;>(try cases h;rfl)<;>exfalso<;>revert h<;>(repeat' split)<;>intro h<;>cases h<;>simp[Kx]at aB
theorem afX{ops:Array b8}{Q:BT}:∀(l:List b8) a7 β e L h a w,(∀d∈a7,DX P d)->cb ai aV β L h w->cJ n β L e a->de L->DO P n (l.map (e5 P ops)) a7 e L h (Q .normal)->wpList P ops (L6 P ai aV n Q) l {a with defers:=a7} w
 |[],a7,β,e,L,h,a,w,iC,m,r,aF,hp=>⟨a,a7,rfl,iC,β,e,L,h,m,r,aF,hp⟩
 |J::l,a7,β,e,L,h,a,w,iC,m,r,aF,hp=>by
  have bE:=afX (ops:=ops) (Q:=Q) l;refine wpList_step λnext rH=>?_
  have plain:gG P n (e5 P ops J) e L h (λe L h=>DO P n (l.map (e5 P ops)) a7 e L h (Q .normal))->if gz J (j8 ops ({a with defers:=a7}:Act).tmps)then J.wp P {a with defers:=a7} w next (L6 P ai aV n Q)else next (({a with defers:=a7}:Act).put J.dst eU) w:=by
   intro hp;have aj:=Gj (Q:=λ_ _ _=>False) (next:=λa w=>a.defers=[]/\next {a with defers:=a7} w) (λβ e L h a w _ m r aF hk=>⟨r.defers,rH _ _ (bE a7 β e L h a w iC m r aF hk)⟩) m r aF hp;rw[show(j8 ops ({a with defers:=a7}:Act).tmps)=j8 ops a.tmps from rfl];split;rename_i hw;rw[aX hw]at aj;exact az1 (Sy a7 aj λ_ _ q=>q) (by rintro x a w ⟨_,_,q⟩;grind);rename_i hw;rw[aE hw]at aj;rw[zs];grind
  rw[eO]at hp;unfold DO at hp;split at hp;rename_i op ak hk;split at hp;rename_i x ad;split at hp;rename_i g first cap ah
  cases nD:first.isEmpty with
  |false=>grind
  |true=>
   rw[nD]at hp;obtain⟨ag,hp⟩:=hp;have QC:first=#[]:=by grind
   subst QC;unfold e5 at hk ak;cases eK:tT ops J.guard with
   |none=>grind
   |some uV=>
    rw[eK]at hk ak;simp only at hk ak;subst ak;have wu:J.guard=none:=by
     cases wu:J.guard with
     |none=>rfl
     |some p8=>
      obtain⟨o,b⟩:=p8;rw[wu]at eK
      grind [tT]
    have ay:J.op=op:=aty hk (by grind);have hw:gz J (j8 ops ({a with defers:=a7}:Act).tmps)=true:=by simp[gz,wu]
    rw[aX hw];cases op with
    |defer c=>
     simp only[Kx]at ad;split at ad;rename_i cw ks Lb;injection ad with ad;subst ad;have lA:a.eval cw= .func (.func g) #[] cap:=by rw[r.eval,ah];rfl
     have i8:c.args=#[]:=by grind
     unfold zX;rw[Hj];have:(cY a.eval J).run P w= .ok (.defer {target:=.fn (.func g) cap,args:=#[]}) w:=by
      simp[cY,ay,resolve,ks,i8,Bz,lA]
     rw[this,Oper.upon_defer];have aB:∀d∈{target:=.fn (.func g) cap,args:=#[]}::a7,DX P d:=λd aB=>by
      rcases dC.1 aB with rfl|aB;exact⟨g,cap,rfl,ag⟩
      grind
     have:=jd (next:=λa w=>next {a with defers:={target:=.fn (.func g) cap,args:=#[]}::a7} w) (C:=Any) (λβ e L h a w _ m r aF hk=>rH _ _ (bE _ β e L h a w aB m r aF hk)) trivial m r aF (x:=.v eU) trivial hp;show next (({a with defers:={target:=.fn (.func g) cap,args:=#[]}::a7}:Act).put J.dst eU) w
     rw[zs];have amR:(e5 P ops J).d=J.dst:=by unfold e5;rw[eK]
     rw[amR]at this;exact this
     grind
    |_=>cases ad
  grind
  grind
  grind
theorem afS(p4:P.follows .mixedOrders=true):∀(c:ox)(Q:BT) a7 β e L h a w,(∀d∈a7,DX P d)->cb ai aV β L h w->cJ n β L e a->de L->Jz P n (lower P bM c) Q a7 e L h->c.wp P (L6 P ai aV n Q) {a with defers:=a7} w:=by
 intro c;have mh:∀(c:ox)(Q:BT) a7 β e L h a w,(∀d∈a7,DX P d)->cb ai aV β L h w->cJ n β L e a->de L->c7 P n (lower P bM c) (λx e L h=>Q x a7 e L h) e L h->c.wp P (L6 P ai aV n Q) {a with defers:=a7} w:=by
  intro c Q a7 β e L h a w iC m r aF hp;refine wK (afT a7 p4 c _ β e L h a w m r aF hp) ?_;rintro ex _ aZ ⟨ey,rfl,bS,bl,bd,U,bc,cT,ef,q⟩;exact⟨ey,a7,rfl,iC,bS,bl,bd,U,bc,cT,ef,q⟩
 induction c with
 |seq x y oP oQ=>
  intro Q a7 β e L h a w iC m r aF hp;refine wp_seq (wK (oP _ a7 β e L h a w iC m r aF hp) ?_);rintro ex _ aZ ⟨ey,Ez,rfl,Y8,bS,bl,bd,U,bc,cT,ef,aq⟩;cases ex with
  |normal=>exact oQ Q Ez bS bl bd U ey aZ Y8 bc cT ef aq
  |_=>exact⟨ey,Ez,rfl,Y8,bS,bl,bd,U,bc,cT,ef,aq⟩
 |region id ops d=>
  intro Q a7 β e L h a w iC m r aF hp;cases d with
  |false=>exact aCa (afX ops.toList a7 β e L h a w iC m r aF hp)
  |true=>
   refine mh _ Q a7 β e L h a w iC m r aF ?_;simp only[lower]at hp⊢;split at hp;rename_i aL;rw[aX aL];exact hp;rename_i aL;rw[aE aL];exact hp
 |skip=>exactλQ a7 β e L h a w iC m r aF hp=>mh _ Q a7 β e L h a w iC m r aF hp
 |cond=>exactλQ a7 β e L h a w iC m r aF hp=>mh _ Q a7 β e L h a w iC m r aF hp
 |block=>exactλQ a7 β e L h a w iC m r aF hp=>mh _ Q a7 β e L h a w iC m r aF hp
 |loop=>exactλQ a7 β e L h a w iC m r aF hp=>mh _ Q a7 β e L h a w iC m r aF hp
 |rangeFunc f be x y=>intro Q a7 β e L h a w iC m r aF hp;cases be;exact mh _ Q a7 β e L h a w iC m r aF hp
 |exit=>exactλQ a7 β e L h a w iC m r aF hp=>mh _ Q a7 β e L h a w iC m r aF hp
 |scope=>exactλQ a7 β e L h a w iC m r aF hp=>mh _ Q a7 β e L h a w iC m r aF hp
 |label=>exactλQ a7 β e L h a w iC m r aF hp=>mh _ Q a7 β e L h a w iC m r aF hp
 |goto=>exactλQ a7 β e L h a w iC m r aF hp=>mh _ Q a7 β e L h a w iC m r aF hp
 |ret=>exactλQ a7 β e L h a w iC m r aF hp=>mh _ Q a7 β e L h a w iC m r aF hp
 |refuse=>exactλQ a7 β e L h a w iC m r aF hp=>mh _ Q a7 β e L h a w iC m r aF hp
theorem Alike.refl(w:bb):Alike w w:=⟨rfl,rfl,rfl,rfl⟩
theorem Alike.trans{a b c:bb}(x:Alike a b)(y:Alike b c):Alike a c:=⟨y.heap.trans x.heap,y.os.trans x.os,y.tape.trans x.tape,y.output.trans x.output⟩
theorem axs{w aZ:bb}(x:Alike w aZ){i:Nat}{l:LE}(h:l.eL β i w):l.eL β i aZ:=by
 simp_all[LE.eL,x.heap,World.ownsRow]
theorem cb.alike{aZ:bb}(m:cb ai aV β L h w)(x:Alike w aZ):cb ai aV β L h aZ:=⟨⟨λo J ae=>by rw[x.heap];exact m.bR.hw o J ae,λi l al=>axs x (m.bR.bR i l al)⟩,m.hole,m.inj,λi l al ah=>by rw[x.heap];exact m.lt i l al ah,m.bX,x.os.trans m.os,x.tape.trans m.tape,x.output.trans m.output,by rw[x.heap];exact m.size,λo ae aC=>by rw[x.heap];exact m.frame o ae aC,m.fresh⟩
theorem RQ{fn:Func}{tmps:Array ao}{ax:Ending->bb->Prop}:∀(a7:List l9)(w:bb),(∀d∈a7,DX P d)->(∀aZ,Alike w aZ->∃v,(results fn tmps).run P aZ= .ok v aZ/\ax (.returned v) aZ)->Leaves P fn tmps ax a7 .returning w
 |[],w,_,h=>h w (.refl w)
 |d::a7,w,aB,h=>by
  obtain⟨g,cap,rfl,af,ag⟩:=aB d (by simp);refine leaves_cons (by simp) (f:=g) (args:=#[]++cap) ?_ ?_;simp only[invoke];exact xW af;rw[agf];refine agq (ag w) ?_;rintro e u aZ ⟨⟨v,rfl⟩,rfl,Ad⟩;exact RQ a7 aZ (λd ad=>aB d (by simp[ad])) λpF x=>h pF (Ad.trans x)
def azL(P:dW)(rs:List w2)(Q:ao->I->Prop):BT:=λx _ e L h=>s9 P rs Q x e L h
theorem agO.intro{f:jh}{fn:Func}{c:ox}{ms:IR}{rs:List w2}{args:List ao}{h:I}{Q:ao->I->Prop}(p4:P.follows .mixedOrders=true)(az:P.funcs[f]?=some fn)(af:fn.body=some c)(wq:(fn.name== "runtime.NumGoroutine")=false)(aC:fn.ntmps=n)(y':fn.results.toList=rs)(wk:lower P bM c=ms)(i8:nT args.length n=true)(ku:Jz P n ms (azL P rs Q) [] (pU args) [] h):Fn P f args.toArray h Q:=by
 refine⟨⟨fn,az,by grind,wq⟩,λw hw=>?_⟩;subst wk;subst y';subst aC;refine ajd az af ?_;have m:cb h w (λ_=>0) [] h w:=⟨⟨hw,(λi l al=>by cases al)⟩,(λi l al=>by cases al),(λi o l b3 al=>by cases al),(λi l al=>by cases al),(λi l al=>by cases al),rfl,rfl,rfl,dd _,(λ_ _ _=>rfl),(λo ae=>.inl ae)⟩;have aF:de []:=λi cs ty ag=>by cases ag
 have aj:=afS p4 (ai:=h) (aV:=w) (n:=fn.ntmps) c _ [] (λ_=>0) (pU args) [] h _ w (by simp) m (EE (rh i8) _) aF ku;refine wK aj ?_;rintro ex _ aZ ⟨ey,a7,rfl,iC,β,e,L,U,bc,cT,ef,aq⟩;have fin:vy P fn.results.toList [] e L U (λej=>kX 40 ej (λL h=>match mY L ej with
  |some au=>e9 (λ_ h=>Q (jt au) h) L h
  |none=>False) L U)->Leaves P fn ey.tmps (λe aZ=>∃v U,e= .returned v/\Q v U/\Ext h w U aZ) a7 .returning aZ:=by
  intro wy
  refine RQ a7 aZ iC λaZ Ad=>?_
  have bc:=bc.alike Ad
  obtain⟨ej,bJ,bB,eo⟩:=DP bc cT ef _ _ [] wy (by simp)
  simp only[J3]at bJ
  obtain⟨f',h1,aM,m1,fu,kY,_⟩:=rV ej _ _ _ bc ef bJ
  split at aM
  rename_i au fh
  have aw:=s3 m1.bR ej au fh
  obtain⟨j',iT,ab,hJ,m2,_,_,_⟩:=mZ aM β m1 fu
  rw[aw]at eo
  exact⟨_,Je eo,_,ab,rfl,hJ,⟨m2.bR.hw,m2.os,m2.tape,m2.output,m2.size,m2.frame,m2.fresh⟩⟩
  grind
 cases ex with
 |normal=>exact fin aq
 |ret=>exact fin aq
 |exit id=>exact aq.elim
 |goto l=>exact aq.elim
 |panic v7=>exact aq.elim
 |outgrown=>exact aq.elim
def zZ(P:dW)(d:l9)(v:ao)(h:I)(Q:I->Prop):Prop:=∃g cap,d={target:=.fn (.func g) cap,args:=#[]}/\(∃fn,P.funcs[g]?=some fn/\fn.body.isSome=true/\(fn.name== "runtime.NumGoroutine")=false)/\∀w,lI h w->CallsD P g cap (.panicking [{v:=v,recovered:=false}]) w λe u aZ=>(∃r,e= .returned r)/\u= .panicking [{v:=v,recovered:=true}]/\∃U,Q U/\Ext h w U aZ
def afR(P:dW)(rs:List w2)(Q:ao->I->Prop):BT:=λx a7 e L h=>match x,a7 with
 |.panic [p],[d]=>p={v:=p.v,recovered:=false}/\zZ P d p.v h λU=>s9 P rs Q .ret e L U
 |x,_=>s9 P rs Q x e L h
theorem agP.intro{f:jh}{fn:Func}{c:ox}{ms:IR}{rs:List w2}{args:List ao}{h:I}{Q:ao->I->Prop}(p4:P.follows .mixedOrders=true)(az:P.funcs[f]?=some fn)(af:fn.body=some c)(wq:(fn.name== "runtime.NumGoroutine")=false)(aC:fn.ntmps=n)(y':fn.results.toList=rs)(wk:lower P bM c=ms)(i8:nT args.length n=true)(ku:Jz P n ms (afR P rs Q) [] (pU args) [] h):Fn P f args.toArray h Q:=by
 refine⟨⟨fn,az,by grind,wq⟩,λw hw=>?_⟩;subst wk;subst y';subst aC;refine ajd az af ?_;have m:cb h w (λ_=>0) [] h w:=⟨⟨hw,(λi l al=>by cases al)⟩,(λi l al=>by cases al),(λi o l b3 al=>by cases al),(λi l al=>by cases al),(λi l al=>by cases al),rfl,rfl,rfl,dd _,(λ_ _ _=>rfl),(λo ae=>.inl ae)⟩;have aF:de []:=λi cs ty ag=>by cases ag
 have aj:=afS p4 (ai:=h) (aV:=w) (n:=fn.ntmps) c _ [] (λ_=>0) (pU args) [] h _ w (by simp) m (EE (rh i8) _) aF ku;refine wK aj ?_;rintro ex _ aZ ⟨ey,a7,rfl,iC,β,e,L,U,bc,cT,ef,aq⟩;have XP:∀U aZ,cb h w β L U aZ->vy P fn.results.toList [] e L U (λej=>kX 40 ej (λL h=>match mY L ej with
  |some au=>e9 (λ_ h=>Q (jt au) h) L h
  |none=>False) L U)->∃v,(results fn ey.tmps).run P aZ= .ok v aZ/\∃u ab,Ending.returned v= .returned u/\Q u ab/\Ext h w ab aZ:=by
  intro U aZ bc wy
  obtain⟨ej,bJ,bB,eo⟩:=DP bc cT ef _ _ [] wy (by simp)
  simp only[J3]at bJ
  obtain⟨f',h1,aM,m1,fu,kY,_⟩:=rV ej _ _ _ bc ef bJ
  split at aM
  rename_i au fh
  have aw:=s3 m1.bR ej au fh
  obtain⟨j',iT,ab,hJ,m2,_,_,_⟩:=mZ aM β m1 fu
  rw[aw]at eo
  exact⟨_,Je eo,_,ab,rfl,hJ,⟨m2.bR.hw,m2.os,m2.tape,m2.output,m2.size,m2.frame,m2.fresh⟩⟩
  grind
 have fin:s9 P fn.results.toList Q .ret e L U->Leaves P fn ey.tmps (λe aZ=>∃v U,e= .returned v/\Q v U/\Ext h w U aZ) a7 .returning aZ:=λwy=>RQ a7 aZ iC λaZ Ad=>XP _ _ (bc.alike Ad) wy;have p5:(∃p d,ex= .panic [p]/\a7=[d]/\p={v:=p.v,recovered:=false}/\zZ P d p.v U λU=>s9 P fn.results.toList Q .ret e L U)\/s9 P fn.results.toList Q ex e L U:=by
  unfold afR at aq
  grind
 rcases p5 with⟨p,d,rfl,rfl,hp,g,cap,rfl,af,am⟩|aq;show Leaves P fn ey.tmps _ [_] (.panicking [p]) aZ;refine leaves_cons (by simp) (f:=g) (args:=#[]++cap) ?_ ?_;simp only[invoke];exact xW af;rw[agf,hp];refine agq (am aZ bc.bR.hw) ?_;rintro aI u dw ⟨⟨r,rfl⟩,rfl,ab,aD,fk⟩;exact XP _ _ (bc.ext fk) aD;cases ex with
 |normal=>exact fin aq
 |ret=>exact fin aq
 |exit id=>exact aq.elim
 |goto l=>exact aq.elim
 |panic v7=>exact aq.elim
 |outgrown=>exact aq.elim
end
end Go.Sx
namespace Go.Sx
set_option maxRecDepth 100000
set_option maxHeartbeats 0
set_option linter.all false
variable {x y:Nat}
abbrev dI(n:Nat):ao:=.int .u64 n
theorem JG(z:Int):IntKind.u64.wrap z=z%18446744073709551616:=by rfl
theorem Nv{n:Nat}(h:n<18446744073709551616):IntKind.u64.wrap n=n:=by rw[JG];omega
section
variable {P:dW}{w:bb}{t:Nat}
theorem azt(aQ:y≠0):(binOp .rem t (dI x) (dI y)).run P w= .ok (dI (x%y)) w:=by
 simp[binOp,Op.intDiv,aQ];rw[Int.tmod_eq_emod_of_nonneg (by omega)]
theorem Nm(aQ:y≠0)(ad:x<18446744073709551616):(binOp .quo t (dI x) (dI y)).run P w= .ok (dI (x/y)) w:=by
 simp[binOp,Op.intDiv,aQ];rw[show(x:Int)/(y:Int)=((x/y:Nat):Int) by simp,Nv (UZ (nU _ _) ad)]
theorem Br{k:IntKind}(aQ:y<=64):(binOp .shr t (dI x) (.int k y)).run P w= .ok (dI (x/2^y)) w:=by
 have:min ((y:Int).toNat) IntKind.u64.bits=y:=by simp[JV];omega
 simp only[binOp,Op.shift,this];simp;rw[Int.fdiv_eq_ediv_of_nonneg _ (Int.pow_nonneg (by decide)),aE (by omega)];simp
theorem azu{k:IntKind}(aQ:y<=64)(h:x*2^y<18446744073709551616):(binOp .shl t (dI x) (.int k y)).run P w= .ok (dI (x*2^y)) w:=by
 have:min ((y:Int).toNat) IntKind.u64.bits=y:=by simp[JV];omega
 simp only[binOp,Op.shift,this];simp;rw[show(x:Int)*2^y=((x*2^y:Nat):Int) by simp,Nv h,aE (by omega)]
theorem afB(h:y<=x)(ad:x<18446744073709551616):(binOp .sub t (dI x) (dI y)).run P w= .ok (dI (x-y)) w:=by
 simp[binOp,D1,JG];omega
theorem Gf:(binOp .mul t (dI x) (dI y)).run P w= .ok (dI (x*y%18446744073709551616)) w:=by
 simp[binOp,D1,JG]
theorem Nk:(binOp .add t (dI x) (dI y)).run P w= .ok (dI ((x+y)%18446744073709551616)) w:=by
 simp[binOp,D1,JG]
theorem azs(ad:x<18446744073709551616)(aQ:y<18446744073709551616):(binOp .or t (dI x) (dI y)).run P w= .ok (dI (x|||y)) w:=by
 simp[binOp,ahT];have h1:x%2^IntKind.u64.bits=x:=vM ad;have ab:y%2^IntKind.u64.bits=y:=vM aQ;rw[h1,ab,Nv];exact ahO (n:=64) ad aQ
theorem Nl(ad:x<18446744073709551616)(aQ:y<18446744073709551616):(binOp .and t (dI x) (dI y)).run P w= .ok (dI (x&&&y)) w:=by
 simp[binOp,ahT];have h1:x%2^IntKind.u64.bits=x:=vM ad;have ab:y%2^IntKind.u64.bits=y:=vM aQ;rw[h1,ab,Nv];exact Nat.and_lt_two_pow (n:=64) x aQ
end
end Go.Sx
namespace Go.Sx
open Go.Proofs
set_option maxRecDepth 100000
set_option maxHeartbeats 0
set_option linter.all false
variable {a b x:Nat}
theorem F9(a:Nat)(h:I)(a6:a<9223372036854775808):Fn aH 150 #[R a] h λv U=>v=dI a/\U=h:=by
 refine b5 ars rfl ?_;refine .mk (by omega) (by omega) ?_;exact .done ⟨rfl,rfl⟩
theorem Bn(a:Nat)(h:I)(a6:a<9223372036854775808):Fn aH 153 #[R a] h λv U=>v=dI a/\U=h:=by
 refine b5 aru rfl ?_;refine .mk (by omega) (by omega) ?_;exact .done ⟨rfl,rfl⟩
theorem Ww(a b:Nat)(h:I)(a6:a<9223372036854775808)(af:b<9223372036854775808):Fn aH 188 #[dI a,dI b] h λv U=>v=dI (hb a b)/\U=h:=by
 refine b5 arJ rfl ?_;refine .mk (Nat×Nat) [0,1] (λ(x,y)=>[.v (dI x),.v (dI y)]) (λ_=>[]) (λ(x,y) U=>U=h/\x<9223372036854775808/\y<9223372036854775808/\hb x y=hb a b) (λ(_,y)=>y) (a,b) (λ_=>rfl) ⟨rfl,a6,af,rfl⟩ rfl rfl ?_;rintro⟨x,y⟩ e U ⟨rfl,ad,aQ,ak⟩;refine aW (λq=>?_) (λq=>?_);refine .mk (dI (x%y)) (λP w=>azt (by omega)) ?_;refine⟨(y,x%y),rfl,rfl,⟨rfl,aQ,UZ (Nat.mod_le _ _) ad,?_⟩,U0 _ (by omega)⟩;rw[<-ak,ahE,<-Nat.gcd_rec,ahE];have:y=0:=by omega
 subst this;exact .done ⟨by show dI x=_;rw[<-ak,Nat.gcd_zero_right],rfl⟩
def x7:List Nat:=[0,1,56,2,57,49,28,3,61,58,42,50,38,29,17,4,62,47,59,36,45,43,51,22,53,39,33,30,24,18,12,5,63,55,48,27,60,41,37,16,46,35,44,21,52,32,23,11,54,26,40,15,34,20,31,10,25,14,19,9,13,8,7,6]
def Nj(x:Nat):Nat:=(x&&&(18446744073709551616-x))*285870213051353865%18446744073709551616/288230376151711744
def ll(x:Nat):Nat:=x7.getD (Nj x) 0
def uw(h:I):Prop:=∀k,k<64->h.cell? ⟨0,k,none⟩=some (.int .u8 (x7.getD k 0:Nat))
theorem uw.mono{h U:I}(t:uw h)(le:h.le U):uw U:=λk hk=>I.kL le (t k hk)
theorem afz(x:Nat):Nj x<64:=by
 unfold Nj;have:=U0 ((x&&&(18446744073709551616-x))*285870213051353865) (y:=18446744073709551616) (by decide);omega
theorem aus{y:Nat}(ai:0<x)(ad:x<18446744073709551616)(aQ:y=18446744073709551616-x){a:Operand}{w:bb}:vC aH (.unOp .neg 247 a) [dI x] w (dI y) w:=by
 intro kF q aq ah;simp[D2]at ah;simp[cY,aq,ah,Op.unary,D1,JG];omega
theorem wrap_small{z:Int}(ai: -9223372036854775808<=z)(h1:z<=9223372036854775807):IntKind.i64.wrap z=z:=by
 have:∀z:Int,IntKind.i64.wrap z=if 9223372036854775808<=z%18446744073709551616 then z%18446744073709551616-18446744073709551616 else z%18446744073709551616:=λz=>by
  unfold IntKind.wrap;simp[JV,IntKind.signed]
 rw[this];split<;>omega
theorem azp:∀k,k<64->x7.getD k 0<=63:=by decide
theorem azo(x:Nat):ll x<=63:=azp _ (afz x)
theorem TT(x:Nat)(h:I)(ai:0<x)(ad:x<18446744073709551616)(av:uw h):Fn aH 187 #[dI x] h λv U=>v=R (ll x)/\U=h:=by
 refine b5 arI rfl ?_;obtain⟨h2,h1⟩:∃y,y=18446744073709551616-x:=⟨_,rfl⟩;obtain⟨fk,ab⟩:∃y,y=x&&&h2:=⟨_,rfl⟩;obtain⟨ig,an⟩:∃y,y=fk*285870213051353865%18446744073709551616:=⟨_,rfl⟩;obtain⟨qm,aR⟩:∃y,y=ig/2^58:=⟨_,rfl⟩;have cg:qm=Nj x:=by rw[aR,an,ab,h1];rfl
 have fa:qm<64:=by rw[cg];exact afz x
 have mi:x7.getD qm 0=ll x:=by rw[cg];rfl
 have pd:=azo x;generalize ll x=y at mi pd;refine aW (λq=>by omega) (λq=>?_);refine .done (.mk (dI h2) (λw _=>aus ai ad h1) ?_);refine .mk (dI fk) (λP w=>by rw[ab];exact Nl ad (by omega)) ?_;refine .mk (dI ig) (λP w=>by rw[an];exact Gf) ?_;refine .mk (dI qm) (λP w=>by rw[aR];exact Br (y:=58) (by decide)) ?_;refine .mk (by omega) (by omega) ?_;refine .hp (.int .u8 (y:Nat)) (by simp only[add_lit,dJ,bq,ew];rw[<-mi];exact av _ fa) ?_;exact .done ⟨by show R _=_;rw[wrap_small (by omega) (by omega)],rfl⟩
def xu(x y:Nat):Nat:=
 let t:=((x/2^32)*(y&&&4294967295)%18446744073709551616+((x&&&4294967295)*(y&&&4294967295)%18446744073709551616)/2^32)%18446744073709551616
 (((x/2^32)*(y/2^32)%18446744073709551616+t/2^32)%18446744073709551616+(((t&&&4294967295)+(x&&&4294967295)*(y/2^32)%18446744073709551616)%18446744073709551616)/2^32)%18446744073709551616
theorem aca(x y:Nat)(h:I)(ad:x<18446744073709551616)(aQ:y<18446744073709551616):Fn aH 148 #[dI x,dI y] h λv U=>v= .tuple #[dI (xu x y),dI (x*y%18446744073709551616)]/\U=h:=by
 obtain⟨cQ,aJ⟩:∃z,z=x&&&4294967295:=⟨_,rfl⟩;obtain⟨h2,aI⟩:∃z,z=x/2^32:=⟨_,rfl⟩;obtain⟨q5,ck⟩:∃z,z=y&&&4294967295:=⟨_,rfl⟩;obtain⟨hl,eE⟩:∃z,z=y/2^32:=⟨_,rfl⟩;obtain⟨aV,mf⟩:∃z,z=cQ*q5%18446744073709551616:=⟨_,rfl⟩;obtain⟨ie,tx⟩:∃z,z=h2*q5%18446744073709551616:=⟨_,rfl⟩;obtain⟨hR,An⟩:∃z,z=aV/2^32:=⟨_,rfl⟩;obtain⟨t,B9⟩:∃z,z=(ie+hR)%18446744073709551616:=⟨_,rfl⟩;obtain⟨cF,KE⟩:∃z,z=t&&&4294967295:=⟨_,rfl⟩;obtain⟨dw,EB⟩:∃z,z=t/2^32:=⟨_,rfl⟩;obtain⟨kW,WQ⟩:∃z,z=cQ*hl%18446744073709551616:=⟨_,rfl⟩;obtain⟨iI,WR⟩:∃z,z=(cF+kW)%18446744073709551616:=⟨_,rfl⟩;obtain⟨zp,WS⟩:∃z,z=h2*hl%18446744073709551616:=⟨_,rfl⟩;obtain⟨vq,WT⟩:∃z,z=(zp+dw)%18446744073709551616:=⟨_,rfl⟩;obtain⟨I6,WU⟩:∃z,z=iI/2^32:=⟨_,rfl⟩;obtain⟨ag,WV⟩:∃z,z=(vq+I6)%18446744073709551616:=⟨_,rfl⟩;obtain⟨bX,WW⟩:∃z,z=x*y%18446744073709551616:=⟨_,rfl⟩;have KF:xu x y=ag:=by rw[WV,WU,WT,WS,WR,WQ,EB,KE,B9,An,tx,mf,eE,ck,aI,aJ];rfl
 have av:t<18446744073709551616:=by rw[B9];exact U0 _ (by decide)
 rw[KF,<-WW];clear KF;refine b5 arp rfl ?_;refine .mk (dI cQ) (λP w=>by rw[aJ];exact Nl ad (by decide)) ?_;refine .mk (dI h2) (λP w=>by rw[aI];exact Br (y:=32) (by decide)) ?_;refine .mk (dI q5) (λP w=>by rw[ck];exact Nl aQ (by decide)) ?_;refine .mk (dI hl) (λP w=>by rw[eE];exact Br (y:=32) (by decide)) ?_;refine .mk (dI aV) (λP w=>by rw[mf];exact Gf) ?_;refine .mk (dI ie) (λP w=>by rw[tx];exact Gf) ?_;refine .mk (dI hR) (λP w=>by rw[An];exact Br (y:=32) (by decide)) ?_;refine .mk (dI t) (λP w=>by rw[B9];exact Nk) ?_;refine .mk (dI cF) (λP w=>by rw[KE];exact Nl av (by decide)) ?_;refine .mk (dI dw) (λP w=>by rw[EB];exact Br (y:=32) (by decide)) ?_;refine .mk (dI kW) (λP w=>by rw[WQ];exact Gf) ?_;refine .mk (dI iI) (λP w=>by rw[WR];exact Nk) ?_;refine .mk (dI zp) (λP w=>by rw[WS];exact Gf) ?_;refine .mk (dI vq) (λP w=>by rw[WT];exact Nk) ?_;refine .mk (dI I6) (λP w=>by rw[WU];exact Br (y:=32) (by decide)) ?_;refine .mk (dI ag) (λP w=>by rw[WV];exact Nk) ?_;refine .mk (dI bX) (λP w=>by rw[WW];exact Gf) ?_;exact .done ⟨rfl,rfl⟩
theorem ani{y:Nat}(ad:x<4294967296)(aQ:y<4294967296):xu x y=0:=by
 have h1:x/2^32=0:=ahC ad;have ab:y/2^32=0:=ahC aQ;have an:x&&&4294967295=x:=by rw[show(4294967295:Nat)=2^32-1 from rfl,GQ];exact vM ad
 have aR:y&&&4294967295=y:=by rw[show(4294967295:Nat)=2^32-1 from rfl,GQ];exact vM aQ
 have mr:x*y<=4294967295*4294967295:=ns (by omega) (by omega);have cg:x*y%18446744073709551616=x*y:=vM (by omega);have fa:x*y/4294967296<4294967296:=by omega
 have mi:x*y/4294967296&&&4294967295=x*y/4294967296:=by rw[show(4294967295:Nat)=2^32-1 from rfl,GQ];exact vM fa
 unfold xu;simp only[h1,ab,an,aR,D0,ahN,U1,dJ,cg,show(2:Nat)^32=4294967296 from rfl];rw[vM (show x*y/4294967296<18446744073709551616 by omega),mi];omega
theorem anh(ad:x<9223372036854775808):xu x 1=0:=by
 have ab:(1:Nat)/2^32=0:=by decide
 have aR:(1:Nat)&&&4294967295=1:=by decide
 have an:x&&&4294967295=x%4294967296:=by rw[show(4294967295:Nat)=2^32-1 from rfl,GQ]
 unfold xu;simp only[ab,aR,an,ahN,U1,dJ,ew,show(2:Nat)^32=4294967296 from rfl];rw[show(x/4294967296%18446744073709551616+x%4294967296%18446744073709551616/4294967296)%18446744073709551616=x/4294967296 by omega];have cg:x/4294967296&&&4294967295=x/4294967296:=by
  rw[show(4294967295:Nat)=2^32-1 from rfl,GQ];exact vM (by show x/4294967296<2^32;omega)
 rw[cg];omega
theorem ang(ad:x<9223372036854775808):xu 1 x=0:=by
 have ab:(1:Nat)/2^32=0:=by decide
 have aR:(1:Nat)&&&4294967295=1:=by decide
 have an:x&&&4294967295=x%4294967296:=by rw[show(4294967295:Nat)=2^32-1 from rfl,GQ]
 unfold xu;simp only[ab,aR,an,D0,U1,dJ,Nat.one_mul,show(2:Nat)^32=4294967296 from rfl];rw[show x%4294967296%18446744073709551616/4294967296%18446744073709551616=0 by omega];simp only[Nat.zero_and,dJ,Nat.zero_div];omega
theorem acc(x y:Nat)(h:I)(ad:x<4294967296)(aQ:y<4294967296):Fn aH 148 #[dI x,dI y] h λv U=>v= .tuple #[dI 0,dI (x*y)]/\U=h:=by
 have:=aca x y h (by omega) (by omega);rw[ani ad aQ,vM (UZ (ns (show x<=4294967295 by omega) (show y<=4294967295 by omega)) (by decide))]at this;exact this
def uJ:Nat->Nat->Nat->Nat
 |0,a,_=>a
 |n+1,a,b=>if b=0 then a else if b/2^ll b<a then uJ n (b/2^ll b) (a-b/2^ll b)else uJ n a (b/2^ll b-a)
def pS(a b:Nat):Nat:=if a=0\/b=0 then a|||b else uJ (a/2^ll a+b+1) (a/2^ll a) b*2^ll (a|||b)
def Ni:Nat->Bool
 |0=>true
 |n+1=>nT 1 ((n+1)/2^ll (n+1))&&nT (ll (n+1)) 13&&Ni n
theorem afy:∀n,Ni n=true->∀x,0<x->x<=n->1<=x/2^ll x/\ll x<=13
 |0,_,x,ai,h1=>by omega
 |n+1,h,x,ai,h1=>by
  simp only[Ni,fY,Nat.ble_eq]at h;by_cases ad:x=n+1;subst ad;exact h.1;exact afy n h.2 x ai (by omega)
theorem azq:Ni 8191=true:=by kernel_rfl
theorem Ge(ai:0<x)(h1:x<=8191):1<=x/2^ll x/\ll x<=13:=afy _ azq x ai h1
theorem OX:∀(n a b:Nat),1<=a->a<=4096->b<=4096->a+b<n->1<=uJ n a b/\uJ n a b<=4096
 |0,_,_,_,_,_,h=>by omega
 |n+1,a,b,h1,ab,an,aR=>by
  unfold uJ;split;exact⟨h1,ab⟩;rename_i af;have⟨t1,_⟩:=Ge (x:=b) (by omega) (by omega);have t2:=nU b (2^ll b);split;exact OX n _ _ t1 (by omega) (by omega) (by omega);exact OX n _ _ h1 ab (by omega) (by omega)
theorem MC(a6:a<=4096)(af:b<=4096):a|||b<=8191:=by
 have:=ahO (n:=13) (show a<2^13 by omega) (show b<2^13 by omega);omega
theorem ac'(h:¬(a=0/\b=0)):0<a|||b:=by
 rcases Nat.eq_zero_or_pos (a|||b)with e|e;exact absurd (Nat.or_eq_zero_iff.1 e) h;exact e
theorem aeG{s:Nat}(a6:a<=4096)(aj:s<=13):a*2^s<=33554432:=ns a6 (Nat.pow_le_pow_right (by decide) aj:2^s<=2^13)
theorem WK(a6:a<=4096)(af:b<=4096)(h:¬(a=0/\b=0)):1<=pS a b/\pS a b<=33554432:=by
 have aL:=MC a6 af;have hp:=ac' h;unfold pS;split;omega;have⟨t1,_⟩:=Ge (x:=a) (by omega) (by omega);have t2:=nU a (2^ll a);have⟨_,t3⟩:=Ge hp aL;have⟨bL,cy⟩:=OX (a/2^ll a+b+1) _ b t1 (by omega) af (by omega);exact⟨ahM bL (Nat.pow_pos (by decide)),aeG cy t3⟩
theorem WJ(a b:Nat)(h:I)(a6:a<=4096)(af:b<=4096)(av:uw h):Fn aH 149 #[dI a,dI b] h λv U=>v=dI (pS a b)/\U=h:=by
 refine b5 arq rfl ?_;obtain⟨J,aL⟩:∃J,J=a|||b:=⟨_,rfl⟩;have H6:∀(P:dW)(w:bb),(binOp .or 0 (dI a) (dI b)).run P w= .ok (dI J) w:=λP w=>by rw[aL];exact azs (by omega) (by omega)
 have ZK:=MC a6 af;rw[<-aL]at ZK;refine aW (λaM=>?_) (λaM=>?_);refine .mk _ H6 ?_;exact .done ⟨by show dI J=_;rw[pS,aX (by omega),aL],rfl⟩;refine aW (λaD=>?_) (λaD=>?_);refine .mk _ H6 ?_;exact .done ⟨by show dI J=_;rw[pS,aX (by omega),aL],rfl⟩;have ay:0<J:=by rw[aL];exact ac' (by omega)
 have qF:pS a b=uJ (a/2^ll a+b+1) (a/2^ll a) b*2^ll J:=by rw[pS,aE (by omega),aL]
 rw[qF];obtain⟨ae',aBT⟩:=Ge (x:=a) (by omega) (by omega);obtain⟨_,afk⟩:=Ge ay ZK;obtain⟨cP,aO⟩:∃z,z=a/2^ll a:=⟨_,rfl⟩;rw[<-aO]at ae'⊢;have qJ:cP<=4096:=by rw[aO];exact hT (nU _ _) a6
 obtain⟨s,c5⟩:∃z,z=ll J:=⟨_,rfl⟩;rw[<-c5]at afk⊢;refine .mk _ H6 ?_;refine .done (.mk _ (TT J h ay (by omega) av) ?_);rintro _ h1 ⟨rfl,rfl⟩;rw[<-c5];refine .done (.mk _ (TT a _ (by omega) (by omega) av) ?_);rintro _ h1 ⟨rfl,rfl⟩;refine .mk (dI cP) (λP w=>by rw[aO];exact Br (by omega)) ?_;refine .mk (Nat×Nat) [0,1,5] (λ(x,y)=>[.v (dI x),.v (dI y),.v (R s)]) (λ_=>[]) (λ(x,y) U=>U=h1/\1<=x/\x<=4096/\y<=4096/\∃n,x+y<n/\uJ n x y=uJ (cP+b+1) cP b) (λ(x,y)=>x+y) (cP,b) (λ_=>rfl) ⟨rfl,ae',qJ,af,_,by omega,rfl⟩ rfl rfl ?_;rintro⟨x,y⟩ e U ⟨rfl,sD,hB,aQ,n,aC,ak⟩;refine aW (λq=>?_) (λq=>?_);cases n with
 |zero=>omega
 |succ n=>
  obtain⟨t1,t2⟩:=Ge (x:=y) (by omega) (by omega);have t3:=nU y (2^ll y);rw[uJ,aE (by omega)]at ak;obtain⟨c,aw⟩:∃c,c=y/2^ll y:=⟨_,rfl⟩;rw[<-aw]at t1 t3 ak;refine .done (.mk _ (TT y _ (by omega) (by omega) av) ?_);rintro _ ab ⟨rfl,rfl⟩;refine .mk (dI c) (λP w=>by rw[aw];exact Br (by omega)) ?_;refine aW (λbj=>?_) (λbj=>?_);refine .mk (dI (x-c)) (λP w=>afB (by omega) (by omega)) ?_;refine⟨(c,x-c),rfl,rfl,⟨rfl,t1,by omega,by omega,n,by omega,?_⟩,by show c+(x-c)<x+y;omega⟩;rw[<-ak,aX (by omega)];refine .mk (dI (c-x)) (λP w=>afB (by omega) (by omega)) ?_;refine⟨(x,c-x),rfl,rfl,⟨rfl,sD,by omega,by omega,n,by omega,?_⟩,by show x+(c-x)<x+y;omega⟩;rw[<-ak,aE (by omega)]
 have C4:y=0:=by omega
 subst C4;have af:uJ n x 0=x:=by
  cases n with
  |zero=>rfl
  |succ n=>rw[uJ,aX rfl]
 rw[af]at ak;refine .mk (dI (x*2^s)) (λP w=>azu (by omega) (by have:=aeG hB afk;omega)) ?_;exact .done ⟨by show dI _=_;rw[ak],rfl⟩
def vh(k d:Nat):Nat:=if k=0\/d=0 then 0 else 1/pS 1 k*k/pS (1/pS 1 k*k) d*d
theorem abp{k:Nat}(hk:k<=4096):1/pS 1 k*k<=4096:=by
 have h1:1/pS 1 k<=1:=nU _ _;have:=ns h1 hk;omega
theorem as'{k d:Nat}(hk:k<=4096)(aB:d<=4096):vh k d<=16777216:=by
 unfold vh;split;omega;have h1:=abp hk;exact ns (hT (nU _ _) h1) aB
theorem as9(k d:Nat)(B:Nat)(h:I)(hk:k<=4096)(aB:d<=4096)(av:uw h)(bW:h B=some (.cells #[R k,R d] 3 (0,0))):Fn aH 109 #[.slice (some ⟨B,0,none⟩) 2 2] h λv U=>v= .tuple #[R (vh k d),.bool true]/\U=h:=by
 refine b5 aqW rfl ?_;obtain⟨m1,hm⟩:∃z,z=1/pS 1 k*k:=⟨_,rfl⟩;have mS:m1<=4096:=by rw[hm];exact abp hk
 obtain⟨m2,oO⟩:∃z,z=m1/pS m1 d*d:=⟨_,rfl⟩;have uQ:k≠0->d≠0->vh k d=m2:=λa b=>by rw[vh,aE (by omega),oO,hm]
 have W0:k=0\/d=0->vh k d=0:=λa=>by rw[vh,aX a]
 refine .mk (Nat×Nat) [4,5,10,11,12] (λ(i,m)=>[.v (dI m),.v (.bool true),.v (.slice (some ⟨B,0,none⟩) 2 2),.v (R 2),.v (R i)]) (λ_=>[]) (λ(i,m) U=>U=h/\((i=0/\m=1)\/(i=1/\m=m1/\k≠0)\/(i=2/\m=m2/\k≠0/\d≠0))) (λ(i,_)=>2-i) (0,1) (λ_=>rfl) ⟨rfl,.inl ⟨rfl,rfl⟩⟩ rfl rfl ?_;have gT:h.cell? ((ou B 0 none).add 0)=some (R k):=bN bW rfl;have c1:h.cell? ((ou B 0 none).add 1)=some (R d):=bN bW rfl;rintro⟨i,m⟩ e U ⟨rfl,ag|ag|ag⟩;obtain⟨rfl,rfl⟩:=ag;refine .mk _ rfl (by omega) (by omega) ?_;refine .hp _ gT ?_;refine aW (λq=>?_) (λq=>?_);exact .done ⟨by rw[W0 (.inl (by omega))];rfl,rfl⟩;obtain⟨D,hs⟩:∃z,z=pS 1 k:=⟨_,rfl⟩;have P7:=(WK (a:=1) (b:=k) (by omega) hk (by omega)).1;rw[<-hs]at P7 hm;obtain⟨w,hw⟩:∃z,z=1/D:=⟨_,rfl⟩;have p6:w<=1:=by rw[hw];exact nU _ _
 rw[<-hw]at hm;refine .mk _ (F9 k _ (by omega)) (λv ab q=>by rw[q.2];exact I.le_refl _) ?_;rintro _ _ ⟨rfl,rfl⟩;refine .mk _ (WJ 1 k _ (by omega) hk av) (λv ab q=>by rw[q.2];exact I.le_refl _) ?_;rintro _ _ ⟨rfl,rfl⟩;rw[<-hs];refine .mk (dI w) (λP aZ=>by rw[hw];exact Nm (by omega) (by omega)) ?_;refine .mk _ (F9 k _ (by omega)) (λv ab q=>by rw[q.2];exact I.le_refl _) ?_;rintro _ _ ⟨rfl,rfl⟩;refine .mk _ (acc w k _ (by omega) (by omega)) (λv ab q=>by rw[q.2];exact I.le_refl _) ?_;rintro _ _ ⟨rfl,rfl⟩;rw[<-hm];refine .ok (by omega) (by omega) ?_;have az:decide (((m1:Nat):Int)<=9223372036854775807)=true:=fo (by omega);exact⟨(1,m1),by show[aA.v (dI m1),aA.v (.bool (decide (((m1:Nat):Int)<=9223372036854775807))),_,_,_]=_;rw[az];rfl,rfl,⟨rfl,.inr (.inl ⟨rfl,rfl,by omega⟩)⟩,by show 2-1<2-0;decide⟩;obtain⟨rfl,rfl,mm⟩:=ag;refine .mk _ rfl (by omega) (by omega) ?_;refine .hp _ c1 ?_;refine aW (λq=>?_) (λq=>?_);exact .done ⟨by rw[W0 (.inr (by omega))];rfl,rfl⟩;obtain⟨D,hs⟩:∃z,z=pS m d:=⟨_,rfl⟩;have P7:=(WK (a:=m) (b:=d) mS aB (by omega)).1;rw[<-hs]at P7 oO;obtain⟨w,hw⟩:∃z,z=m/D:=⟨_,rfl⟩;have p6:w<=m:=by rw[hw];exact nU _ _
 rw[<-hw]at oO;have anE:m2<=4096*4096:=by rw[oO];exact ns (by omega) aB
 refine .mk _ (F9 d _ (by omega)) (λv ab q=>by rw[q.2];exact I.le_refl _) ?_;rintro _ _ ⟨rfl,rfl⟩;refine .mk _ (WJ m d _ mS aB av) (λv ab q=>by rw[q.2];exact I.le_refl _) ?_;rintro _ _ ⟨rfl,rfl⟩;rw[<-hs];refine .mk (dI w) (λP aZ=>by rw[hw];exact Nm (by omega) (by omega)) ?_;refine .mk _ (F9 d _ (by omega)) (λv ab q=>by rw[q.2];exact I.le_refl _) ?_;rintro _ _ ⟨rfl,rfl⟩;refine .mk _ (acc w d _ (by omega) (by omega)) (λv ab q=>by rw[q.2];exact I.le_refl _) ?_;rintro _ _ ⟨rfl,rfl⟩;rw[<-oO];refine .ok (by omega) (by omega) ?_;have az:decide (((m2:Nat):Int)<=9223372036854775807)=true:=fo (by omega);exact⟨(2,m2),by show[aA.v (dI m2),aA.v (.bool (decide (((m2:Nat):Int)<=9223372036854775807))),_,_,_]=_;rw[az];rfl,rfl,⟨rfl,.inr (.inr ⟨rfl,rfl,mm,by omega⟩)⟩,by show 2-2<2-1;decide⟩;obtain⟨rfl,rfl,mm,Qy⟩:=ag;have anE:m<=4096*4096:=by rw[oO];exact ns (hT (nU _ _) mS) aB
 refine .mk (by omega) (by omega) ?_;exact .done ⟨by rw[uQ mm Qy];rfl,rfl⟩
end Go.Sx
namespace Go.Sx
open Go.RowKit
set_option maxRecDepth 100000
set_option maxHeartbeats 0
set_option linter.all false
def MJ:Op->Option dB
 |.panic x=>some (bK x)
 |_=>none
def Gk(P:dW)(n:Nat)(Q:dL):List cC->bY->List LE->I->Prop
 |[],e,L,h=>Q .normal e L h
 |J::r,e,L,h=>(match J.g,J.k with
  |none,.raw op=>(match MJ op with
   |some x=>(match x.get e with
    |.v (.iface t v)=>Q (.panic [{v:=.iface t v,recovered:=false}]) e L h
    |_=>False)
   |none=>gG P n J e L h λe L h=>Gk P n Q r e L h)
  |_,_=>gG P n J e L h λe L h=>Gk P n Q r e L h)
def DN(P:dW)(n:Nat):IR->dL->bY->List LE->I->Prop
 |.seq a b,Q,e,L,h=>DN P n a (λx e L h=>match x with|.normal=>DN P n b Q e L h|x=>Q x e L h) e L h
 |.cond c x y,Q,e,L,h=>(match c.get e with
  |.v (.bool b)=>fe b (DN P n x Q (ub e c true) L h) (DN P n y Q (ub e c false) L h)
  |_=>False)
 |.ch ops,Q,e,L,h=>Gk P n Q ops e L h
 |ms,Q,e,L,h=>c7 P n ms Q e L h
section
variable {P:dW}{ai:I}{aV:bb}{n:Nat}{β:Nat->Nat}{L:List LE}{h:I}{e:bY}{a:Act}{w:bb}
theorem atz{J op:Op}(h:bI P J= .raw op)(aB:MJ op≠none):J=op:=by
 cases J<;>simp only[bI]at h<;>(try cases h;rfl)<;>exfalso<;>revert h<;>(repeat' split)<;>intro h<;>cases h<;>simp[MJ]at aB
theorem afY{ops:Array b8}{Q:dL}:∀(l:List b8) β e L h a w,cb ai aV β L h w->cJ n β L e a->de L->Gk P n Q (l.map (e5 P ops)) e L h->wpList P ops (lift ai aV n Q) l a w
 |[],β,e,L,h,a,w,m,r,aF,hp=>⟨β,e,L,h,m,r,aF,hp⟩
 |J::l,β,e,L,h,a,w,m,r,aF,hp=>by
  have bE:=afY (ops:=ops) (Q:=Q) l;refine wpList_step λnext rH=>?_
  have plain:gG P n (e5 P ops J) e L h (λe L h=>Gk P n Q (l.map (e5 P ops)) e L h)->if gz J (j8 ops a.tmps)then J.wp P a w next (lift ai aV n Q)else next (a.put J.dst eU) w:=λhp=>Gj (λβ e L h a w _ m r aF hk=>rH _ _ (bE β e L h a w m r aF hk)) m r aF hp
  rw[eO]at hp;unfold Gk at hp;split at hp;rename_i op ak hk;split at hp;rename_i x ad;split at hp;rename_i t v ah;unfold e5 at hk ak;cases eK:tT ops J.guard with
  |none=>grind
  |some uV=>
   rw[eK]at hk ak;simp only at hk ak;subst ak;have wu:J.guard=none:=by
    cases wu:J.guard with
    |none=>rfl
    |some p8=>
     obtain⟨o,b⟩:=p8;rw[wu]at eK
     grind [tT]
   have ay:J.op=op:=atz hk (by grind);have hw:gz J (j8 ops a.tmps)=true:=by simp[gz,wu]
   rw[aX hw];cases op with
   |panic y=>
    simp only[MJ]at ad;injection ad with ad;subst ad;have lA:a.eval y= .iface t v:=by rw[r.eval,ah];rfl
    unfold zX;have:(cY a.eval J).run P w= .halt (.panic (.iface t v)) w:=by simp[cY,ay,lA,Instr.panic]
    rw[this,Oper.upon_panic];exact⟨β,e,L,h,m,r,aF,hp⟩
   |_=>cases ad
  grind
  grind
  grind
theorem azM{bM:List Nat}(p4:P.follows .mixedOrders=true):∀(c:ox)(Q:dL) β e L h a w,cb ai aV β L h w->cJ n β L e a->de L->DN P n (lower P bM c) Q e L h->c.wp P (lift ai aV n Q) a w:=by
 intro c;have mh:∀(c:ox)(Q:dL) β e L h a w,cb ai aV β L h w->cJ n β L e a->de L->c7 P n (lower P bM c) Q e L h->c.wp P (lift ai aV n Q) a w:=λc Q β e L h a w m r aF hp=>Ns p4 c Q β e L h a w m r aF hp;induction c with
 |seq x y oP oQ=>
  intro Q β e L h a w m r aF hp;refine wp_seq (wK (oP _ β e L h a w m r aF hp) ?_);rintro ex ey aZ ⟨bS,bl,bd,U,bc,cT,ef,aq⟩;cases ex with
  |normal=>exact oQ Q bS bl bd U ey aZ bc cT ef aq
  |_=>exact⟨bS,bl,bd,U,bc,cT,ef,aq⟩
 |region id ops d=>
  intro Q β e L h a w m r aF hp;cases d with
  |false=>exact aCa (afY ops.toList β e L h a w m r aF hp)
  |true=>
   refine mh _ Q β e L h a w m r aF ?_;simp only[lower]at hp⊢;split at hp;rename_i aL;rw[aX aL];exact hp;rename_i aL;rw[aE aL];exact hp
 |cond c x y oP oQ=>
  intro Q β e L h a w m r aF hp;simp only[lower,DN]at hp;split at hp;rename_i b af;have aw:=r.eval c;rw[af]at aw;have kQ:ub e (bK c) b=e:=by
   cases c with
   |tmp t=>exact l8 af
   |_=>rfl
  cases b with
  |true=>
   simp only[fe]at hp;rw[kQ]at hp;exact wp_cond_true aw (oP Q β e L h a w m r aF hp)
  |false=>
   simp only[fe]at hp;rw[kQ]at hp;exact wp_cond_false aw (oQ Q β e L h a w m r aF hp)
  grind
 |skip=>exactλQ β e L h a w m r aF hp=>mh _ Q β e L h a w m r aF hp
 |block=>exactλQ β e L h a w m r aF hp=>mh _ Q β e L h a w m r aF hp
 |loop=>exactλQ β e L h a w m r aF hp=>mh _ Q β e L h a w m r aF hp
 |rangeFunc f be x y=>intro Q β e L h a w m r aF hp;cases be;exact mh _ Q β e L h a w m r aF hp
 |exit=>exactλQ β e L h a w m r aF hp=>mh _ Q β e L h a w m r aF hp
 |scope=>exactλQ β e L h a w m r aF hp=>mh _ Q β e L h a w m r aF hp
 |label=>exactλQ β e L h a w m r aF hp=>mh _ Q β e L h a w m r aF hp
 |goto=>exactλQ β e L h a w m r aF hp=>mh _ Q β e L h a w m r aF hp
 |ret=>exactλQ β e L h a w m r aF hp=>mh _ Q β e L h a w m r aF hp
 |refuse=>exactλQ β e L h a w m r aF hp=>mh _ Q β e L h a w m r aF hp
theorem BA.intro{bM:List Nat}{f:jh}{fn:Func}{c:ox}{ms:IR}{args:List ao}{h:I}{v:ao}(p4:P.follows .mixedOrders=true)(az:P.funcs[f]?=some fn)(af:fn.body=some c)(wq:(fn.name== "runtime.NumGoroutine")=false)(aC:fn.ntmps=n)(wk:lower P bM c=ms)(i8:nT args.length n=true)(ku:DN P n ms (λx _ _ U=>match x with|.panic v7=>v7=[{v:=v,recovered:=false}]/\U=h|_=>False) (pU args) [] h):BA P f args.toArray h v:=by
 refine⟨⟨fn,az,by grind,wq⟩,λw hw=>?_⟩;subst wk;subst aC;refine calls_of_wp az af ?_;have m:cb h w (λ_=>0) [] h w:=⟨⟨hw,(λi l al=>by cases al)⟩,(λi l al=>by cases al),(λi o l b3 al=>by cases al),(λi l al=>by cases al),(λi l al=>by cases al),rfl,rfl,rfl,dd _,(λ_ _ _=>rfl),(λo ae=>.inl ae)⟩;have aF:de []:=λi cs ty ag=>by cases ag
 have aj:=azM p4 (ai:=h) (aV:=w) (n:=fn.ntmps) c _ (λ_=>0) (pU args) [] h _ w m (EE (rh i8) _) aF ku;refine wK aj ?_;rintro ex ey aZ ⟨β,e,L,U,bc,cT,ef,aq⟩;cases ex with
 |panic v7=>
  obtain⟨rfl,rfl⟩:=aq;exact⟨cT.defers,rfl,bc.bR.hw,bc.os,bc.tape,bc.output,bc.size,bc.frame,bc.fresh⟩
 |_=>grind
end
end Go.Sx
namespace Go.Sx
open Go.Proofs
set_option maxRecDepth 100000
set_option maxHeartbeats 0
set_option linter.all false
variable {h:I}{dg:List Bool}{e6 gq up:List Nat}{aa:List bo}{N dst m u v:Nat}{L:Nat->Nat->Prop}{f:Nat->ao}{p:Nat×Nat}{z:ao}
theorem aoz(x y:ao):Idle aH 151 #[x,y]:=by
 refine⟨⟨_,aia,rfl,by decide⟩,λw=>?_⟩;refine Wd aia rfl λEu cs hu=>?_;have am:Jc (Eu::cs)=none:=by simp[Jc,hu]
 apply JC;apply JB;simp[JA,go_sem,am,Tryz.ntmps151,Gy];apply JC;apply JB;simp[JA,go_sem,Gy];refine af1 (t:=false) (by simp[Gm,DS]) ?_;refine af2 (wp_skip ?_);exact⟨rfl,_,by rw[<-hu],.tuple #[],by simp[results,Tryz.results151],⟨_,rfl⟩,rfl,.refl w⟩
def pt(a b:Nat):Bool:=decide (xu a b=0)&&decide (a*b%18446744073709551616<=9223372036854775807)
def sU(a b:Nat):Nat:=a*b%18446744073709551616
theorem acb(a b:Nat)(h:I)(a6:a<9223372036854775808)(af:b<9223372036854775808):Fn aH 191 #[R a,R b] h λv U=>v=(if pt a b=true then .tuple #[R (sU a b),.bool true]else .tuple #[R 0,.bool false])/\U=h:=by
 refine b5 arM rfl ?_;have abZ:=aca a b h (by omega) (by omega);obtain⟨c,aw⟩:∃c,c=sU a b:=⟨_,rfl⟩;obtain⟨d,aB⟩:∃c,c=xu a b:=⟨_,rfl⟩;have bm:pt a b=(decide (d=0)&&decide (c<=9223372036854775807)):=by rw[pt,aB,aw];rfl
 rw[<-aw,bm];rw[<-aB,show a*b%18446744073709551616=c by rw[aw];rfl]at abZ;refine .done (.mk _ (F9 a h (by omega)) ?_);rintro _ _ ⟨rfl,rfl⟩;refine .done (.mk _ (F9 b _ (by omega)) ?_);rintro _ _ ⟨rfl,rfl⟩;refine .done (.mk _ abZ ?_);rintro _ _ ⟨rfl,rfl⟩;refine aW (λq=>?_) (λq=>?_);exact .done ⟨by rw[gU (show¬d=0 by omega)];rfl,rfl⟩;refine aW (λaD=>?_) (λaD=>?_);exact .done ⟨by rw[gU (show¬c<=9223372036854775807 by omega),Uk];rfl,rfl⟩;refine .mk (by omega) (by omega) ?_;exact .done ⟨by rw[fo (show d=0 by omega),fo (show c<=9223372036854775807 by omega)];rfl,rfl⟩
theorem afg(a b:Nat)(h:I)(a6:a<9223372036854775808)(af:b<9223372036854775808)(az:pt a b=true):Fn aH 156 #[R a,R b] h λv U=>v=R (sU a b)/\U=h:=by
 have m:=acb a b h a6 af;rw[aX az]at m;refine b5 aaV rfl ?_;refine .done (.mk _ m ?_);rintro _ _ ⟨rfl,rfl⟩;exact .done ⟨rfl,rfl⟩
theorem azx:Tryz.prog.underlying 51=some (.int .i64):=by kernel_rfl
theorem aj'{w:bb}:vC aH (.makeInterface 51 (.const (.int .i64 4))) [.int .i64 4] w (.iface 51 (.int .i64 4)) w:=by
 intro kF q aq ah;simp[D2]at ah;simp[cY,aq,ah,Instr.makeInterface,run_underlying azx]
theorem WH(a b:Nat)(h:I)(a6:a<9223372036854775808)(af:b<9223372036854775808)(az:pt a b=false):BA aH 156 #[R a,R b] h (.iface 51 (.int .i64 4)):=by
 have m:=acb a b h a6 af;rw[az]at m;refine BA.intro (args:=[R a,R b]) Fz Tryz.func156 rfl (by decide) Tryz.ntmps156 (aaV.low rfl) rfl ?_;refine .done (.mk _ m ?_);rintro _ _ ⟨rfl,rfl⟩;refine .done (.mk _ (λw _=>aj') ?_);exact⟨rfl,rfl⟩
theorem aeJ(n:Nat)(h:I)(aC:n<9223372036854775808):Fn aH 189 #[.bool false,dI n] h λv U=>v=R n/\U=h:=by
 refine b5 arK rfl ?_;refine aW (λq=>?_) (λq=>by omega);refine .mk (by omega) (by omega) ?_;exact .done ⟨rfl,rfl⟩
def xk(n d:Nat):ao:=.agg #[R n,R d]
theorem RZ(a b:Nat)(h:I)(a6:a<9223372036854775808)(af:b<9223372036854775808)(ai:0<b):Fn aH 152 #[.bool false,dI a,dI b] h λv U=>v=xk (a/hb a b) (b/hb a b)/\h.le U:=by
 refine b5 art rfl ?_;have ak:0<hb a b:=Oq a ai;obtain⟨g,e⟩:∃g,g=hb a b:=⟨_,rfl⟩;rw[<-e]at ak⊢;have dc:=nU a g;have c9:=nU b g;obtain⟨x,ad⟩:∃x,x=a/g:=⟨_,rfl⟩;obtain⟨y,aQ⟩:∃x,x=b/g:=⟨_,rfl⟩;rw[<-ad]at dc;rw[<-aQ]at c9;rw[<-ad,<-aQ];refine .done (.mk _ (Ww a b h a6 af) ?_);rintro _ _ ⟨rfl,rfl⟩;rw[<-e];refine .mk (dI x) (λP w=>by rw[ad];exact Nm (by omega) (by omega)) ?_;refine .mk (dI y) (λP w=>by rw[aQ];exact Nm (by omega) (by omega)) ?_;refine .mk _ (aeJ x _ (by omega)) (λv ab q=>by rw[q.2];exact I.le_refl _) ?_;rintro _ _ ⟨rfl,rfl⟩;refine .mk _ (aeJ y _ (by omega)) (λv ab q=>by rw[q.2];exact I.le_refl _) ?_;rintro _ _ ⟨rfl,rfl⟩;exact .done ⟨rfl,I.le_refl _⟩
def m9(n d:Nat):Bool:=decide (0<d)&&decide (hb n d=1)
theorem azB(n d:Nat)(h:I)(aC:n<9223372036854775808)(aB:d<9223372036854775808):Fn aH 190 #[xk n d] h λv U=>v= .bool (m9 n d)/\U=h:=by
 refine b5 arL rfl ?_;refine aW (λq=>?_) (λq=>?_);refine .mk _ (Bn n h (by omega)) (λv ab q=>by rw[q.2];exact I.le_refl _) ?_;rintro _ _ ⟨rfl,rfl⟩;refine .mk _ (Bn d _ (by omega)) (λv ab q=>by rw[q.2];exact I.le_refl _) ?_;rintro _ _ ⟨rfl,rfl⟩;refine .mk _ (Ww n d _ (by omega) (by omega)) (λv ab q=>by rw[q.2];exact I.le_refl _) ?_;rintro _ _ ⟨rfl,rfl⟩;refine .done ⟨?_,rfl⟩;show qB (decide ((hb n d:Int)=1))=_;rw[m9,fo (show 0<d by omega),wQ];congr 1;exact decide_eq_decide.2 (by omega);refine .done ⟨?_,rfl⟩;rw[m9,gU (show¬0<d by omega),Bw];rfl
theorem alq(l:List (Nat×Nat)):∀r∈l.map (λp=>[R p.1,R p.2]),r.length=2:=by
 intro r am;obtain⟨a,_,rfl⟩:=dn.1 am;rfl
theorem awG(A:Option ar)(m c:Nat)(l:List (Nat×Nat))(h:I)(av:bg h 2 A m (l.map λp=>[R (p.1:Nat),R (p.2:Nat)]))(hm:m<=1000)(af:∀p∈l,p.1<9223372036854775808/\p.2<9223372036854775808):Fn aH 154 #[.slice A m c] h λv U=>v= .bool (l.all λp=>m9 p.1 p.2)/\h.le U:=by
 have al:l.length=m:=by have:=av.len;simpa using this
 refine b5 arv rfl ?_;refine .mk Nat [5,6,7] (λk=>[.v (.slice A m c),.v (R m),.v (R k)]) (λ_=>[]) (λk U=>h.le U/\k<=m/\∀p∈l.take k,m9 p.1 p.2=true) (λk=>m-k) 0 (λ_=>rfl) ⟨I.le_refl _,cO _,by simp⟩ rfl rfl ?_;rintro k e U ⟨le,hk,ah⟩;refine aW (λq=>?_) (λq=>?_);have br:k<l.length:=by omega
 obtain⟨g,ak⟩:=av.cc (by omega);have hp:=af l[k] (cS br);refine .mk g ak (by omega) (by omega) ?_;refine .hp [R l[k].1,R l[k].2] rfl (by rw[bq];exact(av.mono le).row ak (iM br)) ?_;refine .done (.mk _ (azB l[k].1 l[k].2 _ hp.1 hp.2) ?_);rintro _ _ ⟨rfl,rfl⟩;cases Z1:m9 l[k].1 l[k].2;refine .done ⟨?_,le⟩;have:(l.all λp=>m9 p.1 p.2)=false:=List.all_eq_false.2 ⟨l[k],cS br,by simp[Z1]⟩;rw[this];rfl;refine .ok (by omega) (by omega) ?_;refine⟨k+1,rfl,rfl,⟨le,by omega,λp hp=>?_⟩,by show m- (k+1)<m-k;omega⟩;rw[List.take_add_one,bZ br]at hp;rcases ev.1 hp with hp|hp;exact ah p hp;simp at hp;rw[hp];exact Z1;refine .done ⟨?_,le⟩;rw[k4 (by omega)]at ah;rw[oA.2 λp hp=>ah p hp];rfl
theorem adC{eD bL:Nat}{mV nK:Obj}(af:(h.put eD mV) bL=none):((h.put eD mV).put bL nK) eD=some mV:=by
 have:eD≠bL:=λe=>by rw[<-e,I.bP]at af;cases af
 rw[I.cf _ _ this,I.bP]
theorem kT{U:I}{b:Nat}{J:Obj}(af:h b=none)(le:h.le U):h.le (U.put b J):=λo p ae=>by
 have:o≠b:=λe=>by rw[e,af]at ae;cases ae
 rw[I.cf _ _ this];exact le o p ae
theorem Sk{eD bL:Nat}{mV:Obj}(af:(h.put eD mV) bL=none):h bL=none:=by
 have:bL≠eD:=λe=>by rw[e,I.bP]at af;cases af
 rwa[I.cf _ _ this]at af
theorem aut(n d:Nat)(h:I)(aC:n<9223372036854775808)(aB:d<9223372036854775808)(ai:0<d):Fn aH 110 #[R n,R d] h λv U=>v= .tuple #[xk (n/hb n d) (d/hb n d),R 0]/\h.le U:=by
 refine agO.intro (args:=[R n,R d]) Fz Tryz.func110 rfl (by decide) Tryz.ntmps110 rfl (aqX.low rfl) rfl ?_;have ak:0<hb n d:=Oq n ai;obtain⟨x,ad⟩:∃x,x=n/hb n d:=⟨_,rfl⟩;obtain⟨y,aQ⟩:∃x,x=d/hb n d:=⟨_,rfl⟩;rw[<-ad,<-aQ];refine aW (λq=>by omega) (λq=>?_);refine .mk λeD rA=>?_;refine .mk λbL eS=>?_;refine⟨aoz _ _,?_⟩;have HJ:=Sk eS;refine .done (.mk _ (Bn n _ (by omega)) ?_);rintro _ _ ⟨rfl,rfl⟩;refine .done (.mk _ (Bn d _ (by omega)) ?_);rintro _ _ ⟨rfl,rfl⟩;refine .done (.mk _ (RZ n d _ aC aB ai) ?_);rintro _ an ⟨rfl,dZ⟩;rw[<-ad,<-aQ];have le:h.le an:=I.le_trans (I.le_trans (I.du rA) (I.du eS)) dZ;refine .hp eD 0 167 [R 0,R 0] [R x,R y] rfl (dZ _ _ (adC eS)) rfl ?_;refine .hp bL 0 51 [R 0] [R 0] rfl (by rw[I.cf _ _ (λe=>by rw[e,I.bP]at eS;cases eS)];exact dZ _ _ (I.bP _ _ _)) rfl ?_;have bH:eD≠bL:=λe=>by rw[<-e,I.bP]at eS;cases eS
 refine .hp [R x,R y] rfl (λo v ah=>by rw[add_lit,dJ];exact bN (by rw[I.cf _ _ bH,I.bP]) ah) ?_;refine .hp _ (bN (I.bP _ _ _) rfl) ?_;exact .done ⟨rfl,kT HJ (kT rA le)⟩
def rQ(p q:Nat×Nat):Option (Nat×Nat):=
 if pt (p.1/hb p.1 q.2) (q.1/hb q.1 p.2)&&pt (q.2/hb p.1 q.2) (p.2/hb q.1 p.2)then some (sU (p.1/hb p.1 q.2) (q.1/hb q.1 p.2),sU (q.2/hb p.1 q.2) (p.2/hb q.1 p.2))else none
theorem at6{n d:Nat}(aC:n<9223372036854775808)(aB:d<9223372036854775808):rQ (1,1) (n,d)=some (n,d):=by
 have h1:pt 1 n=true:=by simp[pt,ang aC];omega
 have ab:pt d 1=true:=by simp[pt,anh aB];omega
 simp[rQ,h1,ab,sU];omega
theorem aoA(x y:ao):Idle aH 155 #[x,y]:=by
 refine⟨⟨_,OJ,rfl,by decide⟩,λw=>?_⟩;refine Wd OJ rfl λEu cs hu=>?_;have am:Jc (Eu::cs)=none:=by simp[Jc,hu]
 apply JC;apply JB;simp[JA,go_sem,am,aic,Gy];apply JC;apply JB;simp[JA,go_sem,Gy];refine af1 (t:=false) (by simp[Gm,DS]) ?_;refine af2 (wp_skip ?_);exact⟨rfl,_,by rw[<-hu],.tuple #[],by simp[results,aie],⟨_,rfl⟩,rfl,.refl w⟩
theorem zZ.mono{P:dW}{d:l9}{v:ao}{Q nt:I->Prop}(x:zZ P d v h Q)(y:∀U,Q U->nt U):zZ P d v h nt:=by
 obtain⟨g,cap,h1,ab,an⟩:=x;refine⟨g,cap,h1,ab,λw hw=>agq (an w hw) ?_⟩;rintro e u aZ ⟨aM,aD,U,bj,bT⟩;exact⟨aM,aD,U,y U bj,bT⟩
theorem adV(eD bL:Nat)(gT:Array ao)(x y z:Int)(h:I)(lU:gT=#[R x,R y])(ai:h eD=some (.cells gT 167 (0,0)))(h1:h bL=some (.cells #[R z] 51 (0,0)))(bH:eD≠bL):zZ aH {target:=.fn (.func 155) #[.pointer (some ⟨eD,0,none⟩),.pointer (some ⟨bL,0,none⟩)],args:=#[]} (.iface 51 (.int .i64 4)) h λU=>U=(h.put eD (.cells #[R 0,R 0] 167 (0,0))).put bL (.cells #[R 4] 51 (0,0)):=by
 subst lU;refine⟨155,_,rfl,⟨_,OJ,rfl,by decide⟩,λw hw=>?_⟩;have Ct:=aaU.low (b:=_) rfl;refine Wd OJ rfl λEu cs hu=>?_;have am:Jc (Eu::cs)=some (.iface 51 (.int .i64 4),{Eu with mode:=.panicking [{v:=.iface 51 (.int .i64 4),recovered:=true}]}::cs):=by simp[Jc,hu]
 apply JC;apply JB;simp[JA,go_sem,am,aic,Gy];apply JC;apply JB;simp[JA,go_sem,Gy];injection Ct with _ Ct;injection Ct with _ Ct;injection Ct with _ Ct _;refine af1 (t:=true) (by simp[Gm,DS]) ?_;simp only[la];refine af2 ?_;generalize gA:(#[aik (some ⟨eD,0,none⟩),aik (some ⟨bL,0,none⟩)]++((((DS 5 eU).setIfInBounds 1 (Value.iface 51 (.int .i64 4))).setIfInBounds 0 (.iface 51 (.int .i64 4))).setIfInBounds 2 (.iface 51 (.int .i64 4))).setIfInBounds 3 (.bool true))=T;have aj:T.size=7:=by rw[<-gA];simp
 have t0:T.getD 0 eU= .pointer (some ⟨eD,0,none⟩):=by rw[<-gA];rfl
 have t1:T.getD 1 eU= .pointer (some ⟨bL,0,none⟩):=by rw[<-gA];rfl
 obtain⟨bl,he⟩:∃bl:bY,bl=λt=>aA.v (T.getD t eU):=⟨_,rfl⟩;have azr:bl 0= .v (.pointer (some ⟨eD,0,none⟩)):=by rw[he];exact ho aA.v t0
 have o0:bl 1= .v (.pointer (some ⟨bL,0,none⟩)):=by rw[he];exact ho aA.v t1
 have cG:cJ 7 (λ_=>0) [] bl {tmps:=T,defers:=[]}:=⟨rfl,aj,λt=>by rw[he];rfl,λt=>by rw[he];trivial⟩;have cV:bl=h7 (h7 bl 1 (.v (.pointer (some ⟨bL,0,none⟩)))) 0 (.v (.pointer (some ⟨eD,0,none⟩))):=by rw[l8 o0,l8 azr]
 have m:cb h w (λ_=>0) [] h w:=⟨⟨hw,(λi l al=>by cases al)⟩,(λi l al=>by cases al),(λi o l b3 al=>by cases al),(λi l al=>by cases al),(λi l al=>by cases al),rfl,rfl,rfl,dd _,(λ_ _ _=>rfl),(λo ae=>.inl ae)⟩;have AF:c7 aH 7 (.ch aat) (λx _ _ U=>x= .normal/\U=(h.put eD (.cells #[R 0,R 0] 167 (0,0))).put bL (.cells #[R 4] 51 (0,0))) bl [] h:=by
  rw[cV];refine .hp eD 0 167 [R x,R y] [R 0,R 0] rfl ai rfl ?_;refine .hp bL 0 51 [R z] [R 4] rfl (by rw[I.cf _ _ (d9 bH)];exact h1) rfl ?_;exact⟨rfl,rfl⟩
 rw[<-show _=IR.ch aat from Ct]at AF;have am4:=Ns Fz _ _ _ _ _ _ _ _ m cG (λi cs ty ag=>by cases ag) AF;refine wK am4 ?_;rintro ex ey aZ ⟨β,e,L,U,bc,cT,ef,rfl,rfl⟩;exact⟨cT.defers,_,rfl,.tuple #[],by simp[results,aie],⟨_,rfl⟩,rfl,⟨bc.bR.hw,bc.os,bc.tape,bc.output,bc.size,bc.frame,bc.fresh⟩⟩
theorem at4(B:Nat)(dF d1 dR d2:Nat)(h:I)(bW:h B=some (.cells #[R dF,R d1,R dR,R d2] 167 (0,0)))(h1:dF<9223372036854775808)(ab:d1<9223372036854775808)(an:dR<9223372036854775808)(aR:d2<9223372036854775808):Fn aH 111 #[.slice (some ⟨B,0,none⟩) 2 2] h λv U=>h.le U/\v=if(m9 dF d1&&m9 dR d2)=true then(match rQ (dF,d1) (dR,d2)with|some r=>.tuple #[xk r.1 r.2,R 0]|none=>.tuple #[xk 0 0,R 4])else .tuple #[xk 0 0,R 1]:=by
 refine agP.intro (args:=[.slice (some ⟨B,0,none⟩) 2 2]) Fz Tryz.func111 rfl (by decide) Tryz.ntmps111 rfl (aqY.low rfl) rfl ?_;have av:bg h 2 (some ⟨B,0,none⟩) 2 ([(dF,d1),(dR,d2)].map λp:Nat×Nat=>[R (p.1:Nat),R (p.2:Nat)]):=by
  refine⟨rfl,alq _,λ_=>⟨_,rfl⟩,λg ak i r am o v ah=>?_⟩;injection ak with ak;subst ak;rw[add_lit,dJ];refine bN bW ?_;match i,am with
  |0,am=>injection am with am;subst am;match o,ah with|0,ah=>exact ah|1,ah=>exact ah
  |1,am=>injection am with am;subst am;match o,ah with|0,ah=>exact ah|1,ah=>exact ah
 have am:=awG _ _ 2 _ h av (by decide) (by intro p hp;simp at hp;rcases hp with rfl|rfl<;>constructor<;>simp<;>omega);have aj0:=at6 h1 ab;refine .done (.mk _ am ?_);rintro _ cg ⟨rfl,fW⟩;have gv:([(dF,d1),(dR,d2)].all λp=>m9 p.1 p.2)=(m9 dF d1&&m9 dR d2):=by simp
 rw[gv];cases ah:(m9 dF d1&&m9 dR d2);exact .done ⟨fW,rfl⟩;have HN:0<d1:=by
  simp[m9]at ah;omega
 have uY:0<d2:=by
  simp[m9]at ah;omega
 refine .mk λeD rA=>?_;refine .mk λbL eS=>?_;refine⟨aoA _ _,?_⟩;have HJ:=Sk eS;have bH:eD≠bL:=λe=>by rw[<-e,I.bP]at eS;cases eS
 refine .hp eD 0 167 [R 0,R 0] [R 1,R 1] rfl (adC eS) rfl ?_;refine .mk (Nat×Nat×Nat) [2,3,14,15,16] (λ(i,_,_)=>[.p 0 0,.p 1 0,.v (.slice (some ⟨B,0,none⟩) 2 2),.v (R 2),.v (R i)]) (λ_=>[.bV eD,.bV bL]) (λ(i,a,b) U=>cg.le U/\U eD=some (.cells #[R a,R b] 167 (0,0))/\U bL=some (.cells #[R 0] 51 (0,0))/\((i=0/\a=1/\b=1)\/(i=1/\a=dF/\b=d1)\/(i=2/\rQ (dF,d1) (dR,d2)=some (a,b)))) (λ(i,_,_)=>2-i) (0,1,1) (λ_=>rfl) ⟨?_,I.bP _ _ _,?_,.inl ⟨rfl,rfl,rfl⟩⟩ rfl rfl ?_;exact kT rA (I.le_trans (I.du rA) (I.du eS));rw[I.cf _ _ (d9 bH),I.bP];rfl;rintro⟨i,a,b⟩ e fa ⟨hv,lU,ks,ag⟩;have gF:=I.le_trans fW hv;refine aW (λq=>?_) (λq=>?_)
 .obtain⟨n,d,a6,af,aC,aB,amq,Qy,jM,rH⟩:∃n d:Nat,a<9223372036854775808/\b<9223372036854775808/\n<9223372036854775808/\d<9223372036854775808/\0<b/\0<d/\(∀o v,[R n,R d][o]?=some v->fa.cell? (((ou B 0 none).add (i*2)).add o)=some v)/\((i=0/\rQ (a,b) (n,d)=some (dF,d1))\/(i=1/\rQ (a,b) (n,d)=rQ (dF,d1) (dR,d2))):=by
   rcases ag with⟨rfl,rfl,rfl⟩|⟨rfl,rfl,rfl⟩|⟨rfl,_⟩;exact⟨dF,d1,by decide,by decide,h1,ab,by decide,HN,λo v ae=>(av.mono gF).row rfl (i:=0) rfl o v ae,.inl ⟨rfl,aj0⟩⟩;exact⟨dR,d2,h1,ab,an,aR,HN,uY,λo v ae=>(av.mono gF).row rfl (i:=1) rfl o v ae,.inr ⟨rfl,rfl⟩⟩;omega
  obtain⟨h2,aJ⟩:∃x,x=a/hb a d:=⟨_,rfl⟩;obtain⟨hl,aI⟩:∃x,x=d/hb a d:=⟨_,rfl⟩;obtain⟨fk,ck⟩:∃x,x=n/hb n b:=⟨_,rfl⟩;obtain⟨g5,eE⟩:∃x,x=b/hb n b:=⟨_,rfl⟩;have dc:h2<=a:=by rw[aJ];exact nU _ _
  have c9:hl<=d:=by rw[aI];exact nU _ _
  have ha:fk<=n:=by rw[ck];exact nU _ _
  have gm:g5<=b:=by rw[eE];exact nU _ _
  have qF:rQ (a,b) (n,d)=if pt h2 fk&&pt hl g5 then some (sU h2 fk,sU hl g5)else none:=by rw[aJ,aI,ck,eE];rfl
  refine .mk _ rfl (by omega) (by omega) ?_;refine .hp [R n,R d] rfl (by rw[bq];exact jM) ?_;refine .hp (R a) (bN lU rfl) ?_;refine .hp (R a) (bN lU rfl) ?_;refine⟨?_,?_⟩;all_goals refine .mk _ (Bn a _ (by omega)) (λv ab q=>by rw[q.2];exact I.le_refl _) ?_
  all_goals rintro _ _ ⟨rfl,rfl⟩
  all_goals conv=>whnf
  all_goals try refine⟨?_,?_⟩
  all_goals refine .mk _ (Bn d _ (by omega)) (λv ab q=>by rw[q.2];exact I.le_refl _) ?_
  all_goals rintro _ _ ⟨rfl,rfl⟩
  all_goals conv=>whnf
  all_goals try refine⟨?_,?_⟩
  all_goals refine .mk _ (RZ a d _ (by omega) (by omega) Qy) (λv ab q=>q.2) ?_
  all_goals rintro _ mi ⟨rfl,mv⟩
  all_goals rw[<-aJ,<-aI]
  all_goals conv=>whnf
  all_goals refine .hp (R b) (bN (mv _ _ lU) rfl) ?_
  all_goals conv=>whnf
  all_goals refine⟨?_,?_⟩
  all_goals refine .mk _ (Bn n _ (by omega)) (λv ab q=>by rw[q.2];exact I.le_refl _) ?_
  all_goals rintro _ _ ⟨rfl,rfl⟩
  all_goals conv=>whnf
  all_goals try refine⟨?_,?_⟩
  all_goals refine .mk _ (Bn b _ (by omega)) (λv ab q=>by rw[q.2];exact I.le_refl _) ?_
  all_goals rintro _ _ ⟨rfl,rfl⟩
  all_goals conv=>whnf
  all_goals try refine⟨?_,?_⟩
  all_goals refine .mk _ (RZ n b _ (by omega) (by omega) amq) (λv ab q=>q.2) ?_
  all_goals rintro _ pd ⟨rfl,qU⟩
  all_goals rw[<-ck,<-eE]
  all_goals conv=>whnf
  all_goals have O2:=qU _ _ (mv _ _ lU)
  all_goals have d8:=qU _ _ (mv _ _ ks)
  all_goals have vf:=I.le_trans hv (I.le_trans mv qU)
  all_goals by_cases f1:pt h2 fk=true
  all_goals first
   |(
    refine .go ?_
    refine .mk _ (afg h2 fk _ (by omega) (by omega) f1) (λv ab q=>by rw[q.2];exact I.le_refl _) ?_
    rintro _ _ ⟨rfl,rfl⟩
    by_cases f2:pt hl g5=true
    refine .go ?_
    refine .mk _ (afg hl g5 _ (by omega) (by omega) f2) (λv ab q=>by rw[q.2];exact I.le_refl _) ?_
    rintro _ _ ⟨rfl,rfl⟩
    refine .hp eD 0 167 [R a,R b] [R (sU h2 fk),R (sU hl g5)] rfl O2 rfl ?_
    refine .ok (by omega) (by omega) ?_
    rw[f1,f2]at qF
    refine⟨(i+1,sU h2 fk,sU hl g5),rfl,rfl,⟨kT rA vf,I.bP _ _ _,by rw[I.cf _ _ (d9 bH)];exact d8,?_⟩,by show 2- (i+1)<2-i;omega⟩
    rcases rH with⟨rfl,aP⟩|⟨rfl,aP⟩
    rw[qF]at aP
    injection aP with aP
    injection aP with E4 HV
    exact .inr (.inl ⟨rfl,E4,HV⟩)
    rw[qF]at aP
    exact .inr (.inr ⟨rfl,aP.symm⟩)
    have f2:pt hl g5=false:=by simpa using f2
    refine .die 156 _ [R hl,R g5] _ rfl rfl rfl (WH hl g5 _ (by omega) (by omega) f2) ?_
    intro bl tE
    have g2:bl 2= .p 0 0:=(tE 2 (by decide)).trans rfl
    have g3:bl 3= .p 1 0:=(tE 3 (by decide)).trans rfl
    rw[show bl=h7 (h7 bl 3 (.p 1 0)) 2 (.p 0 0) by rw[l8 g3,l8 g2]]
    refine⟨rfl,?_⟩
    refine zZ.mono (adV eD bL _ a b 0 _ rfl O2 d8 bH) ?_
    rintro _ rfl
    refine .hp [R 0,R 0] rfl (λo v ah=>by rw[add_lit,dJ];exact bN (by rw[I.cf _ _ bH,I.bP]) ah) ?_
    refine .hp (R 4) (bN (I.bP _ _ _) rfl) ?_
    refine .done ⟨I.le_trans fW (kT HJ (kT rA vf)),?_⟩
    rcases rH with⟨_,aP⟩|⟨_,aP⟩
    rw[qF,f2,Uk]at aP;cases aP
    rw[qF,f2,Uk]at aP;rw[<-aP];rfl)
   |(
    have f1:pt h2 fk=false:=by simpa using f1
    refine .die 156 _ [R h2,R fk] _ rfl rfl rfl (WH h2 fk _ (by omega) (by omega) f1) ?_
    intro bl tE
    have g2:bl 2= .p 0 0:=(tE 2 (by decide)).trans rfl
    have g3:bl 3= .p 1 0:=(tE 3 (by decide)).trans rfl
    rw[show bl=h7 (h7 bl 3 (.p 1 0)) 2 (.p 0 0) by rw[l8 g3,l8 g2]]
    refine⟨rfl,?_⟩
    refine zZ.mono (adV eD bL _ a b 0 _ rfl O2 d8 bH) ?_
    rintro _ rfl
    refine .hp [R 0,R 0] rfl (λo v ah=>by rw[add_lit,dJ];exact bN (by rw[I.cf _ _ bH,I.bP]) ah) ?_
    refine .hp (R 4) (bN (I.bP _ _ _) rfl) ?_
    refine .done ⟨I.le_trans fW (kT HJ (kT rA vf)),?_⟩
    rcases rH with⟨_,aP⟩|⟨_,aP⟩
    rw[qF,f1,Bw]at aP;cases aP
    rw[qF,f1,Bw]at aP;rw[<-aP];rfl)
 have:i=2/\rQ (dF,d1) (dR,d2)=some (a,b):=by
  rcases ag with⟨rfl,_⟩|⟨rfl,_⟩|ag;exact absurd (by decide) q;exact absurd (by decide) q;exact ag
 obtain⟨rfl,rr⟩:=this;rw[rr];have abq:∀mi:I,mi eD=some (.cells #[R a,R b] 167 (0,0))->∀(o:Nat)(v:ao),[R a,R b][o]?=some v->mi.cell? ((ou eD 0 none).add o)=some v:=λmi aP o v ah=>by rw[add_lit,dJ];exact bN aP ah
 refine .hp [R a,R b] rfl (abq _ lU) ?_;refine .hp eD 0 167 [R a,R b] [R a,R b] rfl lU rfl ?_;refine .hp bL 0 51 [R 0] [R 0] rfl (by rw[I.cf _ _ (d9 bH)];exact ks) rfl ?_;refine .hp [R a,R b] rfl (abq _ (by rw[I.cf _ _ bH,I.bP])) ?_;refine .hp (R 0) (bN (I.bP _ _ _) rfl) ?_;exact .done ⟨I.le_trans fW (kT HJ (kT rA hv)),rfl⟩
def lk(p:Nat×Nat)(x y:Nat):(Nat×Nat)×Bool:=
 if m9 p.1 p.2&&m9 (x/hb x y) (y/hb x y)then(match rQ p (x/hb x y,y/hb x y)with
  |some m=>(m,decide (m.1<=4096)&&decide (m.2<=4096))
  |none=>((0,0),false))else((0,0),false)
def yb(p:Nat×Nat):Prop:=p.1<9223372036854775808/\p.2<9223372036854775808
theorem at5{q m:Nat×Nat}(h:rQ p q=some m):yb m:=by
 unfold rQ at h;split at h;rename_i az;simp[pt]at az;injection h with h;subst h;unfold sU yb;constructor<;>simp only<;>omega;cases h
theorem ayx(p:Nat×Nat)(x y:Nat):yb (lk p x y).1:=by
 unfold lk;split;split;rename_i h;exact at5 h;exact⟨by decide,by decide⟩;exact⟨by decide,by decide⟩
theorem ayy{x y:Nat}(h:(lk p x y).2=true):(lk p x y).1.1<=4096/\(lk p x y).1.2<=4096:=by
 unfold lk at h⊢;split;rename_i ah;rw[aX ah]at h;split;rename_i m hm;rw[hm]at h;simpa using h;exact⟨by decide,by decide⟩;exact⟨by decide,by decide⟩
theorem afi{x y:Nat}(h:(lk p x y).2=true)(h1:p.1<=4096)(ab:p.2<=4096)(aQ:y<=64):0<(lk p x y).1.2:=by
 unfold lk at h⊢;split;rename_i ah;rw[aX ah]at h;simp only[fY,m9,sh]at ah;obtain⟨⟨hp,_⟩,aq,_⟩:=ah;split;rename_i m hm;unfold rQ at hm;split at hm;injection hm with hm;subst hm;simp only at aq⊢;have g1:0<y/hb x y/hb p.1 (y/hb x y):=ahD (ahF _ aq) (Oq _ aq);have g2:0<p.2/hb (x/hb x y) p.2:=ahD (ahF _ hp) (Oq _ hp);have o0:y/hb x y/hb p.1 (y/hb x y)<=64:=hT (nU _ _) (hT (nU _ _) aQ);have hI:p.2/hb (x/hb x y) p.2<=4096:=hT (nU _ _) ab;unfold sU;generalize y/hb x y/hb p.1 (y/hb x y)=c at g1 o0⊢;generalize p.2/hb (x/hb x y) p.2=d at g2 hI⊢;have:=ns o0 hI;have:=ahM g1 g2;rw[vM (by omega)];exact this;cases hm;rename_i hm;rw[hm]at h;cases h;rename_i ah;rw[aE ah]at h;cases h
theorem afh(p:Nat×Nat)(x y:Nat)(h:I)(hp:yb p)(ad:x<=64)(aQ:y<=64)(C4:0<y):Fn aH 49 #[xk p.1 p.2,R x,R y] h λv U=>h.le U/\v= .tuple #[xk (lk p x y).1.1 (lk p x y).1.2,.bool (lk p x y).2]:=by
 obtain⟨n,d⟩:=p;obtain⟨h1,ab⟩:=hp;simp only at h1 ab;refine b5 asi rfl ?_;obtain⟨fv,aJ⟩:∃z,z=x/hb x y:=⟨_,rfl⟩;obtain⟨dU,aI⟩:∃z,z=y/hb x y:=⟨_,rfl⟩;have dc:fv<=x:=by rw[aJ];exact nU _ _
 have c9:dU<=y:=by rw[aI];exact nU _ _
 have iY:lk (n,d) x y=if m9 n d&&m9 fv dU then(match rQ (n,d) (fv,dU)with
  |some m=>(m,decide (m.1<=4096)&&decide (m.2<=4096))
  |none=>((0,0),false))else((0,0),false):=by
  rw[lk,<-aJ,<-aI]
 rw[iY];refine .done (.mk _ (aut x y h (by omega) (by omega) C4) ?_);rintro _ a6 ⟨rfl,atd⟩;rw[<-aJ,<-aI];refine .mk λB bW=>?_;refine .done (.mk _ (at4 B n d fv dU _ (I.bP _ _ _) h1 ab (by omega) (by omega)) ?_);rintro _ af ⟨ate,rfl⟩;have le:h.le af:=I.le_trans atd (I.le_trans (I.du bW) ate);cases ah:(m9 n d&&m9 fv dU)
 .refine⟨?_,?_⟩;all_goals conv=>whnf
  all_goals exact .done ⟨le,rfl⟩
 cases hm:rQ (n,d) (fv,dU)with
 |none=>
  refine⟨?_,?_⟩;all_goals conv=>whnf
  all_goals exact .done ⟨le,rfl⟩
 |some m=>
  obtain⟨m1,m2⟩:=m;refine aW (λq=>?_) (λq=>?_);all_goals conv=>whnf
  all_goals refine⟨?_,?_⟩
  all_goals conv=>whnf
  all_goals refine .done ⟨le,?_⟩
  all_goals have Y6:decide ((m2:Int)<=4096)=decide (m2<=4096):=decide_eq_decide.2 (by omega)
  all_goals simp only[la]
  show vU #[xk m1 m2,.bool (decide ((m2:Int)<=4096))]=_;rw[Y6,fo (show m1<=4096 by omega),wQ];show vU #[xk m1 m2,.bool (decide ((m2:Int)<=4096))]=_;rw[Y6,fo (show m1<=4096 by omega),wQ];rw[gU (show¬m1<=4096 by omega),Bw];rfl;rw[gU (show¬m1<=4096 by omega),Bw];rfl
def Cf(up:List Nat):Nat->Nat->Nat
 |0,v=>v
 |f+1,v=>if up.getD v v=v then v else Cf up f (up.getD v v)
def jU(up:List Nat)(v:Nat):Nat:=Cf up (v+1) v
structure w6(N:Nat)(up:List Nat):Prop where
 len:up.length=N
 le:∀v,up.getD v v<=v
theorem akR(ok:w6 N up):∀(v f n2:Nat),v<f->v<n2->Cf up f v=Cf up n2 v:=by
 intro v;induction v using Ot with
 |_ v bE=>
  intro f n2 h1 ab;obtain⟨f,rfl⟩:∃k,f=k+1:=⟨f-1,by omega⟩;obtain⟨n2,rfl⟩:∃k,n2=k+1:=⟨n2-1,by omega⟩;unfold Cf;split;rfl;rename_i bH;have:=ok.le v;exact bE _ (by omega) _ _ (by omega) (by omega)
theorem KQ(ok:w6 N up)(h:up.getD v v≠v):jU up (up.getD v v)=jU up v:=by
 have:=ok.le v;unfold jU;conv=>rhs;unfold Cf
 rw[aE h];exact akR ok _ _ _ (by omega) (by omega)
theorem Hl(h:up.getD v v=v):jU up v=v:=by
 unfold jU Cf;rw[aX h]
theorem PI(ok:w6 N up):∀v,jU up v<=v:=by
 intro v;induction v using Ot with
 |_ v bE=>
  by_cases h:up.getD v v=v;rw[Hl h];exact dd _;have:=ok.le v;rw[<-KQ ok h];exact hT (bE _ (by omega)) this
theorem PE(tp g N:Nat)(up:List Nat)(v:Nat)(h:I)(La:h tp=some (.cells #[.slice (some ⟨g,0,none⟩) N N] 27 (0,0)))(ak:h g=some (.cells (up.map λz:Nat=>R (z:Int)).toArray 3 (0,0)))(ok:w6 N up)(ah:v<N):Fn aH 107 #[R v,.pointer (some ⟨tp,0,none⟩)] h λr U=>r=R (jU up v)/\U=h:=by
 refine b5 aqU rfl ?_;refine .mk Nat [0,1] (λx=>[.v (R x),.v (.pointer (some ⟨tp,0,none⟩))]) (λ_=>[]) (λx U=>U=h/\x<=v/\jU up x=jU up v) (λx=>x) v (λ_=>rfl) ⟨rfl,dd _,rfl⟩ rfl rfl ?_;rintro x e U ⟨rfl,ad,am⟩;have sE:x<up.length:=by rw[ok.len];omega
 have aw:U.cell? ((ou g 0 none).add (x*1))=some (R (up.getD x x)):=by
  rw[add_lit,dJ,ew];exact bN ak (by rw[dV,bZ sE,cN,bZ sE];rfl)
 have cu:=ok.le x;have iD:=KQ ok (v:=x);have xz:=Hl (up:=up) (v:=x);generalize up.getD x x=y at aw cu iD xz;refine .hp _ (bN La rfl) ?_;refine .mk _ rfl (by omega) (by omega) ?_;refine .hp _ (by rw[bq];exact aw) ?_;refine aW (λq=>?_) (λq=>?_);refine .hp _ (bN La rfl) ?_;refine .mk _ rfl (by omega) (by omega) ?_;refine .hp _ (by rw[bq];exact aw) ?_;exact⟨y,rfl,rfl,⟨rfl,by omega,by rw[iD (by omega),am]⟩,by show y<x;omega⟩;exact .done ⟨by rw[<-am,xz (by omega)];rfl,rfl⟩
def DF(g8:List Nat×List Nat)(i:Nat)(a:bo):List Nat×List Nat:=
 if jU g8.1 a.src.toNat=jU g8.1 a.dst.toNat then g8 else(g8.1.set (max (jU g8.1 a.src.toNat) (jU g8.1 a.dst.toNat)) (min (jU g8.1 a.src.toNat) (jU g8.1 a.dst.toNat)),g8.2++[i])
def gb(N:Nat)(aa:List bo):Nat->List Nat×List Nat
 |0=>(g6 N,[])
 |k+1=>match aa[k]?with
  |some a=>DF (gb N aa k) k a
  |none=>gb N aa k
def ep(N:Nat)(aa:List bo):List Nat:=(gb N aa aa.length).2
def g9(N:Nat)(aa:List bo):List Nat:=(g6 N).map (jU (gb N aa aa.length).1)
theorem w6.set{N:Nat}{up:List Nat}(ok:w6 N up){i o:Nat}(h:o<=i):w6 N (up.set i o):=by
 refine⟨by simp[ok.len],λv=>?_⟩;rw[cN,zT];split;rename_i e;subst e;split;exact h;exact dd _;rw[<-cN];exact ok.le v
theorem azA(N:Nat):w6 N (g6 N):=by
 refine⟨by simp,λv=>?_⟩;rw[cN];by_cases h:v<N;rw[J0 h];exact dd _;rw[qs (by simpa using h)];exact dd _
theorem Hr(N:Nat)(aa:List bo):∀k,w6 N (gb N aa k).1
 |0=>azA N
 |k+1=>by
  have bE:=Hr N aa k;unfold gb;split;unfold DF;split;exact bE;exact bE.set (by omega);exact bE
theorem KW(N:Nat)(aa:List bo):∀k,(gb N aa k).2.length<=k
 |0=>by simp[gb]
 |k+1=>by
  have bE:=KW N aa k;unfold gb;split;unfold DF;split;omega;simp;omega;omega
def agQ(h:I)(N:Nat)(aa:List bo)(v:ao)(U:I):Prop:=
 h.le U/\(e' N aa≠0->v= .tuple #[.agg #[.slice none 0 0,.slice none 0 0],R (e' N aa)])/\
  (e' N aa=0->∃T c H,v= .tuple #[.agg #[.slice T (ep N aa).length c,.slice (some H) N N],R 0]/\bg U 1 T (ep N aa).length ((ep N aa).map λz:Nat=>[R (z:Int)])/\bg U 1 (some H) N ((g9 N aa).map λz:Nat=>[R (z:Int)]))
def qI(f:Nat->ao)(z:ao)(m k:Nat):List ao:=(g6 k).map f++bG (m-k) z
theorem XN{k:Nat}(h:k<=m):(qI f z m k).length=m:=by simp[qI];omega
theorem XO{k:Nat}(h:k<m):(qI f z m k).set k (f k)=qI f z m (k+1):=by
 unfold qI;rw[List.set_append_right _ _ (by simp),ih,List.length_range,Nat.sub_self,List.range_succ,fm,List.append_assoc];congr 1;rw[show m-k=(m- (k+1))+1 by omega,List.replicate_succ];rfl
theorem XM:qI f z m m=(g6 m).map f:=by simp[qI]
theorem bz.acJ{n c:Nat}{A:Option ar}{l:List Nat}(x:bz h 3 1 A n c (l.map λz:Nat=>R (z:Int))):bg h 1 A n (l.map λz:Nat=>[R (z:Int)]):=by
 have:=x.dr;rw[lo]at this;exact this
theorem acR(N n cx:Nat)(A:Option ar)(aa:List bo)(h:I)(av:bg h 5 A n (aa.map bo.cells))(aC:n<=9223372036854775806):Fn aH 46 #[my N A n cx] h λv U=>agQ h N aa v U:=by
 have al:aa.length=n:=by simpa using av.len
 refine b5 asf rfl ?_;refine .done (.mk _ (Kq N A n cx aa h av aC) ?_);rintro _ _ ⟨rfl,rfl⟩;refine aW (λq=>?_) (λq=>?_);exact .done ⟨I.le_refl _,λ_=>rfl,λe=>absurd e q⟩;have aj:e' N aa=0:=jw.1 q;obtain⟨HF,uW,wo,dk⟩:=lO aj;refine .one N (R 0) rfl rfl rfl rfl (by omega) (by omega) λez=>?_;refine .mk Nat [1,2,5,24,25] (λk=>[.p 0 0,.p 1 0,.p 3 0,.v (R N),.v (R k)]) (λk=>[.own [.v (R N),.v (.slice A n cx)] 33,.own [.v (.slice none 0 0),.v (.slice none 0 0)] 159,.row 3 1 (some ez) N N (sW N k),.own [.v (.slice (some ez) N N)] 27]) (λk U=>U=_/\k<=N) (λk=>N-k) 0 (λ_=>rfl) ⟨rfl,cO _⟩ rfl (by simp[sW,R]) ?_;rintro k e h1 ⟨rfl,hk⟩;refine aW (λaM=>?_) (λaM=>?_);have br:k<N:=by omega
 refine .mk ez rfl (by omega) (by omega) ?_;refine .row 2 3 1 ez N N (sW N k) (sW N (k+1)) k rfl (by rw[bq,ew]) (by rw[ib _ _ _ (by rw[ada hk];exact br),adb br]) ?_;refine .ok (by omega) (by omega) ?_;exact⟨k+1,rfl,rfl,⟨rfl,br⟩,by show N- (k+1)<N-k;omega⟩;have yW:N=k:=by omega
 subst yW;refine .mk λtp La=>?_;refine .one N (R 0) rfl rfl rfl rfl (by omega) (by omega) λAx=>?_;refine .lj (.bV 2 3 1 (some ez) N N (sW N N) rfl λab cn Tb f2=>.abs 3 1 none 0 0 [] ⟨rfl,.inl ⟨rfl,rfl,rfl⟩⟩ (.done ?_));obtain⟨_,Tb|⟨wg,a8,rD,jK,_,_,fg,nj⟩⟩:=Tb;cases Tb.1;injection rD with rD;subst rD;have amN:a8=((gb N aa 0).1.map λz:Nat=>R (z:Int)).toArray:=by
  rw[k4 (by simp[fg])]at nj;rw[<-Array.toArray_toList (xs:=a8),nj];simp[sW,gb]
 have E3:h1 wg=none:=by
  have:=f2 _ rfl;simp only at this;exact Sk this
 have Q0:wg≠tp:=λe=>by
  have:=f2 _ rfl;simp only at this;rw[e,I.bP]at this;cases this
 obtain⟨bW,Yy⟩:∃bW:Nat->I,bW=λk=>ab.put wg (.cells ((gb N aa k).1.map λz:Nat=>R (z:Int)).toArray 3 (0,0)):=⟨_,rfl⟩;have EN:∀k,bW k=ab.put wg (.cells ((gb N aa k).1.map λz:Nat=>R (z:Int)).toArray 3 (0,0)):=λk=>by rw[Yy]
 clear Yy;have Yx:ab=bW 0:=by rw[EN];exact(I.rW (by rw[jK,amN])).symm
 have Cv:∀k,bW k tp=some (.cells #[.slice (some ⟨wg,0,none⟩) N N] 27 (0,0)):=λk=>by
  rw[EN,I.cf _ _ (d9 Q0)];exact cn _ _ (I.bP _ _ _)
 have yQ:∀k,bW k wg=some (.cells ((gb N aa k).1.map λz:Nat=>R (z:Int)).toArray 3 (0,0)):=λk=>by rw[EN];exact I.bP _ _ _
 have HA:∀k,h1.le (bW k):=λk=>by
  rw[EN];exact kT E3 (I.le_trans (I.du La) cn)
 have Yz:∀k u,u=(gb N aa (k+1)).1->(bW k).put wg (.cells (u.map λz:Nat=>R (z:Int)).toArray 3 (0,0))=bW (k+1):=λk u hu=>by
  rw[EN,EN,hu];funext o;unfold I.put;split<;>rfl
 refine .mk (Nat×Option ar×Nat) [2,5,7,8,39,40,41] (λ(k,_,_)=>[.p 1 0,.p 3 0,.v (.func (.func 107) #[] #[.pointer (some ⟨tp,0,none⟩)]),.p 5 0,.v (.slice A n cx),.v (R n),.v (R k)]) (λ(k,T,c)=>[.own [.v (R N),.v (.slice A n cx)] 33,.own [.v (.slice none 0 0),.v (.slice none 0 0)] 159,.gone,.bV tp,.row 3 1 (some Ax) N N (bG N (R 0)),.own [.v (.slice T (gb N aa k).2.length c),.v (.slice (some Ax) N N)] 159,.row 3 1 T (gb N aa k).2.length c ((gb N aa k).2.map λz:Nat=>R (z:Int))]) (λ(k,_,_) U=>U=bW k/\k<=n) (λ(k,_,_)=>n-k) (0,none,0) (λ_=>rfl) ⟨Yx,cO _⟩ rfl rfl ?_;rintro⟨k,T,c⟩ aI an ⟨rfl,E8⟩;have rJ:=Hr N aa k;refine aW (λaD=>?_) (λaD=>?_);have br:k<aa.length:=by omega
 have tK:=dk aa[k] (cS br);obtain⟨g,ak⟩:=av.cc (by omega);refine .mk g ak (by omega) (by omega) ?_;refine .hp aa[k].cells rfl (by rw[bq];exact(av.mono (HA k)).row ak (iM br)) ?_;obtain⟨fq,s1,d0,d1,_⟩:=vl tK;have a':=PE tp wg N (gb N aa k).1 aa[k].src.toNat (bW k) (Cv k) (yQ k) rJ (by omega);have fd:=PE tp wg N (gb N aa k).1 aa[k].dst.toNat (bW k) (Cv k) (yQ k) rJ (by omega);have ls:=PI rJ aa[k].src.toNat;have ld:=PI rJ aa[k].dst.toNat;rw[q' fq]at a';rw[q' d0]at fd;have oI:gb N aa (k+1)=DF (gb N aa k) k aa[k]:=by rw[gb,bZ br]
 unfold DF at oI;generalize rK:jU (gb N aa k).1 aa[k].src.toNat=xs at a' ls oI;generalize aBu:jU (gb N aa k).1 aa[k].dst.toNat=wL at fd ld oI;refine .mk _ a' (λv ab q=>by rw[q.2];exact I.le_refl _) ?_;rintro _ _ ⟨rfl,rfl⟩;refine .done (.mk _ fd ?_);rintro _ _ ⟨rfl,aP⟩;subst aP;refine aW (λbj=>?_) (λbj=>?_);have bH:¬xs=wL:=by omega
 rw[aE bH]at oI;have gA:=KW N aa k;refine .done (.cR 6 _ [R k] rfl rfl (by simp[Aa,R]) (by simp[c'];omega) (by omega) λah' bu aAZ=>?_);refine .hp _ (bN (Cv k) rfl) ?_;conv=>whnf
 have ZG:max (xs:Int) wL=((max xs wL:Nat):Int):=by omega
 have anK:min (xs:Int) wL=((min xs wL:Nat):Int):=by omega
 rw[ZG,anK];refine .mk _ rfl (by omega) (by omega) ?_;refine .hp wg (max xs wL) 3 ((gb N aa k).1.map λz:Nat=>R (z:Int)) (((gb N aa k).1.set (max xs wL) (min xs wL)).map λz:Nat=>R (z:Int)) (by rw[add_lit,dJ,bq,ew]) (yQ k) (by rw[ib _ _ _ (by simp[rJ.len];omega),nb];rfl) ?_;refine .ok (by omega) (by omega) ?_;have aJ:(gb N aa (k+1)).1=(gb N aa k).1.set (max xs wL) (min xs wL):=by rw[oI]
 have aI:(gb N aa (k+1)).2=(gb N aa k).2++[k]:=by rw[oI]
 refine⟨(k+1,ah',bu),?_,?_,⟨Yz k _ aJ.symm,by omega⟩,by show n- (k+1)<n-k;omega⟩;rfl;simp only[aI];simp;have bH:xs=wL:=by omega
 rw[aX bH]at oI;refine .ok (by omega) (by omega) ?_;refine⟨(k+1,T,c),rfl,?_,⟨?_,by omega⟩,by show n- (k+1)<n-k;omega⟩;simp only[oI];rfl;rw[<-Yz k (gb N aa k).1 (by rw[oI]),I.rW (yQ k)];have oN:aa.length=k:=by omega
 subst oN;obtain⟨up,K4⟩:∃u,u=(gb N aa aa.length).1:=⟨_,rfl⟩;have Cv:=Cv aa.length;have yQ:=yQ aa.length;have HA:=HA aa.length;rw[<-K4]at rJ yQ;generalize bW aa.length=eC at Cv yQ HA;have aj4:bG N (R 0)=qI (λz=>R (jU up z:Nat)) (R 0) N 0:=by simp[qI]
 refine .mk Nat [2,7,8,74,75] (λo=>[.p 1 0,.v (.func (.func 107) #[] #[.pointer (some ⟨tp,0,none⟩)]),.p 5 0,.v (R N),.v (R o)]) (λo=>[.own [.v (R N),.v (.slice A n cx)] 33,.own [.v (.slice none 0 0),.v (.slice none 0 0)] 159,.gone,.bV tp,.row 3 1 (some Ax) N N (qI (λz=>R (jU up z:Nat)) (R 0) N o),.own [.v (.slice T (ep N aa).length c),.v (.slice (some Ax) N N)] 159,.row 3 1 T (ep N aa).length c ((ep N aa).map λz:Nat=>R (z:Int))]) (λo U=>U=eC/\o<=N) (λo=>N-o) 0 (λ_=>rfl) ⟨rfl,cO _⟩ rfl (by simp only[aj4];rfl) ?_;rintro o ck an ⟨rfl,ae⟩;refine aW (λbj=>?_) (λbj=>?_);have en:o<N:=by omega
 refine .mk _ (PE tp wg N up o _ Cv yQ rJ en) (λv ab q=>by rw[q.2];exact I.le_refl _) ?_;rintro _ _ ⟨rfl,aP⟩;subst aP;refine .mk Ax rfl (by omega) (by omega) ?_;refine .row 4 3 1 Ax N N _ (qI (λz=>R (jU up z:Nat)) (R 0) N (o+1)) o rfl (by rw[bq,ew]) (by rw[ib _ _ _ (by rw[XN ae];exact en)];exact ho some (XO en)) ?_;refine .ok (by omega) (by omega) ?_;exact⟨o+1,rfl,rfl,⟨rfl,en⟩,by show N- (o+1)<N-o;omega⟩;have anq:N=o:=by omega
 subst anq;rw[XM];refine .bV 4 3 1 (some Ax) N N _ rfl λcg fW mA f5=>.bV 6 3 1 T (ep N aa).length c _ rfl λfa hv pz f6=>.done ⟨I.le_trans HA (I.le_trans fW hv),λe=>absurd aj e,λ_=>⟨T,c,Ax,?_,?_,?_⟩⟩;rfl;exact pz.acJ;rw[g9,<-K4];have:=(mA.mono hv).dr;rw[lo]at this;rw[lo];exact this
def mD(p:Int×Bool):List ao:=[R p.1,.bool p.2]
structure OB(h:I)(hP jC off cap:Nat)(a8:List ao)(e6:List Nat):Prop where
 box:h hP=some (.cells #[.slice (some ⟨jC,off,none⟩) e6.length cap] 27 (0,0))
 n0:h jC=some (.cells a8.toArray 3 (0,0))
 abn:e6.length<=cap
 room:off+cap<=a8.length
 at_:∀o u,(e6.map λz:Nat=>R (z:Int))[o]?=some u->a8[off+o]?=some u
structure vP(N lJ lK kK hP gd lR e4:Nat)(ai h:I)(dg:List Bool)(gq e6:List Nat):Prop where
 eR:h lJ=some (.cells #[.slice (some ⟨gd,0,none⟩) N N] 193 (0,0))
 db:h lK=some (.cells #[.slice (some ⟨lR,0,none⟩) N N] 78 (0,0))
 gA:h kK=some (.cells #[.slice (some ⟨e4,0,none⟩) N N] 27 (0,0))
 rX:h gd=some (.cells (dg.map qB).toArray 4 (0,0))
 nP:∃kx:List (Int×Bool),kx.length=N/\h lR=some (.cells (kx.map mD).flatten.toArray 173 (0,0))
 s0:h e4=some (.cells (gq.map λz:Nat=>R (z:Int)).toArray 3 (0,0))
 xH:dg.length=N
 cB:gq.length=N
 q:∃jC off cap a8,OB h hP jC off cap a8 e6/\jC≠e4/\ai jC=none
 Kj:kK≠hP
 le:ai.le h
 Cd:ai gd=none
 sk:ai lR=none
 iZ:ai e4=none
 Ce:ai hP=none
theorem lh{a b:Nat}{x y:Array ao}{t:Nat}(a6:h a=some (.cells x t (0,0)))(af:h b=some (.cells y u (0,0)))(bH:t≠u):a≠b:=λe=>by
 rw[e,af]at a6;injection a6 with a6;injection a6 with _ a6;exact bH a6.symm
theorem ax0(l:List (Int×Bool)):∀(i:Nat)(p:Int×Bool),i<l.length->over (l.map mD).flatten (i*2) (mD p)=some ((l.set i p).map mD).flatten:=by
 induction l with
 |nil=>intro i p h;simp at h
 |cons a l bE=>
  intro i p h;cases i with
  |zero=>
   rw[D0];show over (R a.1:: .bool a.2::(l.map mD).flatten) 0 [R p.1,.bool p.2]=_;simp[over,mD]
  |succ i=>
   have U:=bE i p (by simpa using h);rw[Nat.succ_mul];show over (R a.1:: .bool a.2::(l.map mD).flatten) (i*2+2) (mD p)=_;simp only[over,U];simp[mD]
def vj(dg:List Bool)(u:Nat):List Bool:=if dg.getD u false=true then dg else dg.set u true
def zk(dg:List Bool)(gq:List Nat)(u b:Nat):List Nat:=if dg.getD u false=true then gq else gq.set u b
def xK(dg:List Bool)(e6:List Nat)(u:Nat):List Nat:=if dg.getD u false=true then e6 else e6++[u]
theorem abz(N lJ lK kK hP gd lR e4 u b:Nat)(z:Int)(t:Bool)(ai h:I)(dg:List Bool)(gq e6:List Nat)(p:vP N lJ lK kK hP gd lR e4 ai h dg gq e6)(hu:u<N)(hw:e6.length<=1000):Fn aH 112 #[R u,R b,.agg #[R z,.bool t],.pointer (some ⟨lJ,0,none⟩),.pointer (some ⟨lK,0,none⟩),.pointer (some ⟨kK,0,none⟩),.pointer (some ⟨hP,0,none⟩)] h λ_ U=>vP N lJ lK kK hP gd lR e4 ai U (vj dg u) (zk dg gq u b) (xK dg e6 u):=by
 refine b5 aqZ rfl ?_;have AI:u<dg.length:=by rw[p.xH];exact hu
 have aw:h.cell? ((ou gd 0 none).add (u*1))=some (.bool (dg.getD u false)):=by
  rw[add_lit,dJ,ew];exact bN p.rX (by rw[dV,bZ AI,cN,bZ AI];rfl)
 refine .hp _ (bN p.eR rfl) ?_;refine .mk _ rfl (by omega) (by omega) ?_;refine .hp _ (by rw[bq];exact aw) ?_;cases hk:dg.getD u false
 .obtain⟨kx,CL,sA⟩:=p.nP;obtain⟨jC,off,cap,a8,Q,AC,Hw⟩:=p.q;have acf:=lh p.rX sA (by decide);have acg:=lh p.rX p.s0 (by decide);have acl:=lh sA p.s0 (by decide);have aci:=lh p.rX p.db (by decide);have acj:=lh p.rX p.gA (by decide);have ack:=lh p.rX Q.box (by decide);have at9:=lh p.rX p.eR (by decide);have ach:=lh p.rX Q.n0 (by decide);have aub:=lh sA p.db (by decide);have acn:=lh sA p.gA (by decide);have aco:=lh sA Q.box (by decide);have aua:=lh sA p.eR (by decide);have acm:=lh sA Q.n0 (by decide);have aue:=lh p.s0 p.db (by decide);have auf:=lh p.s0 p.gA (by decide);have acp:=lh p.s0 Q.box (by decide);have aud:=lh p.s0 p.eR (by decide);obtain⟨aO,gv⟩:∃q,q=h.put gd (.cells ((dg.set u true).map qB).toArray 4 (0,0)):=⟨_,rfl⟩;obtain⟨bW,sj⟩:∃q,q=aO.put lR (.cells (((kx.set u (z,t)).map mD).flatten).toArray 173 (0,0)):=⟨_,rfl⟩;obtain⟨hC,wa⟩:∃q,q=bW.put e4 (.cells ((gq.set u b).map λz:Nat=>R (z:Int)).toArray 3 (0,0)):=⟨_,rfl⟩;have G2:aO lK=some (.cells #[.slice (some ⟨lR,0,none⟩) N N] 78 (0,0)):=by rw[gv,I.cf _ _ (d9 aci)];exact p.db
  have Ac:aO kK=some (.cells #[.slice (some ⟨e4,0,none⟩) N N] 27 (0,0)):=by rw[gv,I.cf _ _ (d9 acj)];exact p.gA
  have aiX:bW kK=some (.cells #[.slice (some ⟨e4,0,none⟩) N N] 27 (0,0)):=by rw[sj,I.cf _ _ (d9 acn)];exact Ac
  have aiJ:aO lR=some (.cells (kx.map mD).flatten.toArray 173 (0,0)):=by rw[gv,I.cf _ _ (d9 acf)];exact sA
  have ai1:bW e4=some (.cells (gq.map λz:Nat=>R (z:Int)).toArray 3 (0,0)):=by rw[sj,I.cf _ _ (d9 acl),gv,I.cf _ _ (d9 acg)];exact p.s0
  have yC:hC hP=some (.cells #[.slice (some ⟨jC,off,none⟩) e6.length cap] 27 (0,0)):=by rw[wa,I.cf _ _ (d9 acp),sj,I.cf _ _ (d9 aco),gv,I.cf _ _ (d9 ack)];exact Q.box
  refine .hp _ (bN p.eR rfl) ?_;refine .mk _ rfl (by omega) (by omega) ?_;have Sn:over (dg.map qB) u [.bool true]=some ((dg.set u true).map qB):=by rw[ib _ _ _ (by simpa using AI),nb]
  have So:over (kx.map mD).flatten (u*2) [R z,.bool t]=some ((kx.set u (z,t)).map mD).flatten:=ax0 kx u (z,t) (by omega);have Sp:over (gq.map λz:Nat=>R (z:Int)) u [R b]=some ((gq.set u b).map λz:Nat=>R (z:Int)):=by rw[ib _ _ _ (by simp[p.cB];exact hu),nb]
  have cc:∀g k,(ou g 0 none).add ((u:Int).toNat*k)=⟨g,u*k,none⟩:=λg k=>by rw[add_lit,dJ,bq]
  have ajj:hC jC=some (.cells a8.toArray 3 (0,0)):=by rw[wa,I.cf _ _ AC,sj,I.cf _ _ (d9 acm),gv,I.cf _ _ (d9 ach)];exact Q.n0
  have acq:=lh Q.n0 Q.box (by decide);have HB:∀o J,o≠gd->o≠lR->o≠e4->h o=some J->hC o=some J:=λo J C9 AY Rs ae=>by
   rw[wa,I.cf _ _ Rs,sj,I.cf _ _ AY,gv,I.cf _ _ C9];exact ae
  have fin:∀bm:I,(∃PS Mw c4 WB,OB bm hP PS Mw c4 WB (e6++[u])/\PS≠e4/\ai PS=none)->(∀o J,o≠hP->o≠jC->hC o=some J->bm o=some J)->vP N lJ lK kK hP gd lR e4 ai bm (vj dg u) (zk dg gq u b) (xK dg e6 u):=λbm aq br=>by
   have ve:dg.getD u false≠true:=by rw[hk];decide
   rw[vj,zk,xK,aE ve,aE ve,aE ve];have PT:∀o ty cs,h o=some (.cells cs ty (0,0))->ty≠3->o≠jC:=λo ty cs ae bH=>lh ae Q.n0 bH;refine⟨br _ _ (lh p.eR Q.box (by decide)) (PT _ _ _ p.eR (by decide)) (HB _ _ (d9 at9) (d9 aua) (d9 aud) p.eR),br _ _ (lh p.db Q.box (by decide)) (PT _ _ _ p.db (by decide)) (HB _ _ (d9 aci) (d9 aub) (d9 aue) p.db),br _ _ p.Kj (PT _ _ _ p.gA (by decide)) (HB _ _ (d9 acj) (d9 acn) (d9 auf) p.gA),br _ _ ack ach ?_,⟨kx.set u (z,t),by simp[CL],br _ _ aco acm ?_⟩,br _ _ acp (d9 AC) ?_,by simp[p.xH],by simp[p.cB],aq,p.Kj,λo J ae=>?_,p.Cd,p.sk,p.iZ,p.Ce⟩;rw[wa,I.cf _ _ acg,sj,I.cf _ _ acf,gv,I.bP];rw[wa,I.cf _ _ acl,sj,I.bP];rw[wa,I.bP];have bH:∀{x:Nat},ai x=none->o≠x:=λad e=>by rw[e,ad]at ae;cases ae
   exact br _ _ (bH p.Ce) (bH Hw) (HB _ _ (bH p.Cd) (bH p.sk) (bH p.iZ) (p.le _ _ ae))
  have akO:e6.length+1<=cap->vP N lJ lK kK hP gd lR e4 ai ((hC.put jC (.cells (a8.set (off+e6.length) (R u)).toArray 3 (0,0))).put hP (.cells #[.slice (some ⟨jC,off,none⟩) (e6.length+1) cap] 27 (0,0))) (vj dg u) (zk dg gq u b) (xK dg e6 u):=λcu=>by
   refine fin _ ⟨jC,off,cap,a8.set (off+e6.length) (R u),⟨by rw[I.bP,fb];rfl,by rw[I.cf _ _ acq,I.bP],by simp;exact cu,by rw[k2];exact Q.room,λo v ae=>?_⟩,AC,Hw⟩ λo J C9 AY ae=>by rw[I.cf _ _ C9,I.cf _ _ AY];exact ae
   rw[fm,List.getElem?_append]at ae;have rI:=Q.room;rw[zT];split at ae;rename_i di;simp at di;rw[aE (by omega)];exact Q.at_ o v ae;rename_i E2;simp at E2;have ano:o=e6.length:=by
    have:=(List.getElem?_eq_some_iff.1 ae).1;simp at this;omega
   subst ano;rw[aX rfl,aX (by omega)];simpa using ae
  have akP:∀(b7:ar)(c4:Nat)(fa:I),(hC.put hP (.cells #[.slice (some b7) (e6.length+1) c4] 27 (0,0))).le fa->bz fa 3 1 (some b7) (e6.length+1) c4 ((e6.map λz:Nat=>R (z:Int))++[R u])->(∀g,some b7=some g->(hC.put hP (.cells #[.slice (some b7) (e6.length+1) c4] 27 (0,0))) g.block=none)->vP N lJ lK kK hP gd lR e4 ai fa (vj dg u) (zk dg gq u b) (xK dg e6 u):=λb7 c4 fa hv pz f6=>by
   obtain⟨_,pz|⟨dQ,ajJ,dT,amM,AL,rG,fg,nj⟩⟩:=pz;cases pz.1;injection dT with dT;subst dT;have AE:=f6 _ rfl;simp only at AE;have AD:dQ≠hP:=λe=>by rw[e,I.bP]at AE;cases AE
   have Ln:hC dQ=none:=by rwa[I.cf _ _ AD]at AE
   have ana:dQ≠e4:=λe=>by rw[e,wa,I.bP]at Ln;cases Ln
   refine fin _ ⟨dQ,0,c4,ajJ.toList,⟨hv _ _ (by rw[I.bP,fb];rfl),amM,by simp;exact AL,by simp[fg],λo v ae=>?_⟩,ana,?_⟩ λo J C9 AY ae=>hv _ _ (by rw[I.cf _ _ C9];exact ae);rw[fm,eO,zU,<-nj]at ae;rw[dJ];rw[List.getElem?_take]at ae;split at ae;exact ae;cases ae;cases ds:ai dQ with
   |none=>rfl
   |some J=>
    have bH:∀{x:Nat},ai x=none->dQ≠x:=λad e=>by rw[e,ad]at ds;cases ds
    rw[HB _ _ (bH p.Cd) (bH p.sk) (bH p.iZ) (p.le _ _ ds)]at Ln;cases Ln
  repeat'(first
   |(refine⟨?_,?_⟩<;>conv=>whnf)
   |(refine .hp _ (bN p.db rfl) ?_;conv=>whnf)
   |(refine .hp _ (bN G2 rfl) ?_;conv=>whnf)
   |(refine .hp _ (bN p.gA rfl) ?_;conv=>whnf)
   |(refine .hp _ (bN Ac rfl) ?_;conv=>whnf)
   |(refine .hp _ (bN aiX rfl) ?_;conv=>whnf)
   |(refine .mk _ rfl (by omega) (by omega) ?_;conv=>whnf)
   |(refine .hp gd u 4 _ _ (by rw[cc,ew]) p.rX Sn ?_;rw[<-gv];conv=>whnf)
   |(refine .hp lR (u*2) 173 _ _ (by rw[cc]) aiJ So ?_;rw[<-sj];conv=>whnf)
   |(refine .hp e4 u 3 _ _ (by rw[cc,ew]) ai1 Sp ?_;rw[<-wa];conv=>whnf))
  all_goals refine .hp _ (bN yC rfl) ?_
  all_goals conv=>whnf
  all_goals refine .done (.mem jC off a8 (a8.set (off+e6.length) (R u)) [R u] (e6.map λz:Nat=>R (z:Int)) rfl ajj rfl (by simp[Aa,R]) (by decide) (by simp) Q.at_ (λcu=>by rw[ew,ib _ _ _ (by have:=Q.room;omega)]) (by simp[c'];omega) (by omega) (λcu=>?_) (λdi b7 c4 cu=>?_))
  all_goals conv=>whnf
  all_goals refine .hp hP 0 27 _ [_] rfl (by first|exact yC|(rw[I.cf _ _ (d9 acq)];exact yC)) rfl ?_
  all_goals conv=>whnf
  all_goals first
   |exact .done (akO cu)
   |exact .bV 2 3 1 (some b7) (e6.length+1) c4 _ rfl λfa hv pz f6=>.done (akP b7 c4 fa hv pz f6)
 exact .done (by rw[vj,zk,xK,aX hk,aX hk,aX hk];exact p)
inductive ka(L:Nat->Nat->Prop):Nat->Nat->Prop
 |refl (u:Nat):ka L u u
 |step {u v w:Nat} (h:L u v) (c:ka L v w):ka L u w
theorem ka.trans{w:Nat}(x:ka L u v)(y:ka L v w):ka L u w:=by
 induction x with
 |refl=>exact y
 |step h _ bE=>exact .step h (bE y)
theorem ka.symm(aj:∀u v,L u v->L v u)(x:ka L u v):ka L v u:=by
 induction x with
 |refl=>exact .refl _
 |step h _ bE=>exact bE.trans (.step (aj _ _ h) (.refl _))
theorem ka.mono{bd:Nat->Nat->Prop}(aj:∀u v,L u v->bd u v)(x:ka L u v):ka bd u v:=by
 induction x with
 |refl=>exact .refl _
 |step h _ bE=>exact .step (aj _ _ h) bE
def na(aa:List bo)(hG:List Nat)(u v:Nat):Prop:=∃i∈hG,∃a,aa[i]?=some a/\((a.src.toNat=u/\a.dst.toNat=v)\/(a.dst.toNat=u/\a.src.toNat=v))
theorem na.symm{hG:List Nat}(u v:Nat)(h:na aa hG u v):na aa hG v u:=by
 obtain⟨i,ag,a,a6,h⟩:=h;exact⟨i,ag,a,a6,h.elim (λq=>.inr ⟨q.2,q.1⟩) (λq=>.inl ⟨q.2,q.1⟩)⟩
theorem na.mono{hG aft:List Nat}(aj:∀i∈hG,i∈aft)(u v:Nat)(h:na aa hG u v):na aa aft u v:=by
 obtain⟨i,ag,a,a6,h⟩:=h;exact⟨i,aj i ag,a,a6,h⟩
theorem PH(ok:w6 N up)(h:∀v,ka L v (up.getD v v)):∀v,ka L v (jU up v):=by
 intro v;induction v using Ot with
 |_ v bE=>
  by_cases e:up.getD v v=v;rw[Hl e];exact .refl _;have:=ok.le v;rw[<-KQ ok e];exact(h v).trans (bE _ (by omega))
theorem PP(N:Nat)(aa:List bo):∀k v,ka (na aa (gb N aa k).2) v ((gb N aa k).1.getD v v)
 |0,v=>by
  have:(gb N aa 0).1.getD v v=v:=by
   show(g6 N).getD v v=v;rw[cN];by_cases h:v<N;rw[J0 h];rfl;rw[qs (by simpa using h)];rfl
  rw[this];exact .refl _
 |k+1,v=>by
  have bE:=PP N aa k;have pW:=PH (Hr N aa k) bE;unfold gb;split;rename_i a a6;unfold DF;split;exact bE v;have up:∀u w,ka (na aa (gb N aa k).2) u w->ka (na aa ((gb N aa k).2++[k])) u w:=λu w c=>c.mono (na.mono λi ag=>qu _ ag);have hk:na aa ((gb N aa k).2++[k]) a.src.toNat a.dst.toNat:=⟨k,by simp,a,a6,.inl ⟨rfl,rfl⟩⟩;have mr:ka (na aa ((gb N aa k).2++[k])) (jU (gb N aa k).1 a.src.toNat) (jU (gb N aa k).1 a.dst.toNat):=(ka.symm na.symm (up _ _ (pW a.src.toNat))).trans (.step hk (up _ _ (pW a.dst.toNat)));generalize jU (gb N aa k).1 a.src.toNat=x at mr⊢;generalize jU (gb N aa k).1 a.dst.toNat=y at mr⊢;show ka _ v (((gb N aa k).1.set (max x y) (min x y)).getD v v);rw[cN,zT];split;rename_i e;subst e;split;show ka _ _ (min x y);by_cases cu:x<=y;rw[Nat.max_eq_right cu,Nat.min_eq_left cu];exact ka.symm na.symm mr;rw[Nat.max_eq_left (by omega),Nat.min_eq_right (by omega)];exact mr;exact .refl _;rw[<-cN];exact up _ _ (bE v);exact bE v
theorem anO(hu:u<N)(ah:v<N)(h:(g9 N aa).getD u 0=(g9 N aa).getD v 0):ka (na aa (ep N aa)) u v:=by
 have ak:∀w,w<N->(g9 N aa).getD w 0=jU (gb N aa aa.length).1 w:=λw hw=>by
  rw[g9,cN,dV,J0 hw];rfl
 rw[ak u hu,ak v ah]at h;have pW:=PH (Hr N aa aa.length) (PP N aa aa.length);exact(pW u).trans (by rw[h];exact ka.symm na.symm (pW v))
theorem TS(N:Nat)(aa:List bo):∀k,∀i∈(gb N aa k).2,i<k
 |0,i,ag=>by simp[gb]at ag
 |k+1,i,ag=>by
  have bE:=TS N aa k;unfold gb at ag;split at ag;unfold DF at ag;split at ag;have:=bE i ag;omega;rcases ev.1 ag with ag|ag;have:=bE i ag;omega;simp at ag;omega;have:=bE i ag;omega
structure qn(N dst:Nat)(L:Nat->Nat->Prop)(zq:Nat->Prop)(dg:List Bool)(gq e6:List Nat):Prop where
 xH:dg.length=N
 cB:gq.length=N
 root:dg.getD dst false=true
 gl:∀u∈e6,dg.getD u false=true
 done:∀u,dg.getD u false=true->u∉e6->¬zq u->∀v,L u v->dg.getD v false=true
 fZ:∃r:Nat->Nat,(∀u,dg.getD u false=true->r u+dg.count false+1<=N)/\∀u,dg.getD u false=true->u≠dst->dg.getD (gq.getD u 0) false=true/\r (gq.getD u 0)<r u
theorem abf(h:dg.getD u false=true):u<dg.length:=by
 rw[cN]at h;rcases Nat.lt_or_ge u dg.length with U|U;exact U;rw[qs U]at h;simp at h
theorem PV{α:Type}(l:List α)(i o:Nat)(x d:α)(ag:i<l.length):(l.set i x).getD o d=if o=i then x else l.getD o d:=by
 rw[cN,zT];split;rename_i e;subst e;rw[aX rfl];simp;rename_i e;rw[aE (d9 e),<-cN]
theorem Wy(dg:List Bool):∀u,u<dg.length->dg.getD u false=false->(dg.set u true).count false+1=dg.count false:=by
 induction dg with
 |nil=>intro u h;simp at h
 |cons a l bE=>
  intro u h az;cases u with
  |zero=>
   simp at az;subst az;simp
  |succ u=>
   have:=bE u (by simpa using h) (by simpa using az);rw[List.set_cons_succ,N2,N2];omega
theorem qn.aby{zq:Nat->Prop}(b:qn N dst L zq dg gq e6)(hu:u<N)(ah:dg.getD v false=true):qn N dst L zq (vj dg u) (zk dg gq u v) (xK dg e6 u)/\(vj dg u).getD u false=true/\(∀w,dg.getD w false=true->(vj dg u).getD w false=true)/\(vj dg u).count false+(xK dg e6 u).length=dg.count false+e6.length:=by
 by_cases hk:dg.getD u false=true;rw[vj,zk,xK,aX hk,aX hk,aX hk];exact⟨b,hk,λ_ h=>h,rfl⟩;rw[vj,zk,xK,aE hk,aE hk,aE hk];have AT:u<dg.length:=by rw[b.xH];exact hu
 have aod:u<gq.length:=by rw[b.cB];exact hu
 have ans:dg.getD u false=false:=by simpa using hk
 have iB:∀o,(dg.set u true).getD o false=if o=u then true else dg.getD o false:=λo=>PV _ _ _ _ _ AT;have gt:∀o,(gq.set u v).getD o 0=if o=u then v else gq.getD o 0:=λo=>PV _ _ _ _ _ aod;have mono:∀w,dg.getD w false=true->(dg.set u true).getD w false=true:=λw h=>by rw[iB];split;rfl;exact h
 have aw:=Wy dg u AT ans;obtain⟨r,fv,dU⟩:=b.fZ;refine⟨⟨by simp[b.xH],by simp[b.cB],mono _ b.root,λw hw=>?_,λw h1 ab an x ad=>?_,λx=>if x=u then r v+1 else r x,λw hw=>?_,λw hw aB=>?_⟩,by rw[iB,aX rfl],mono,by simp;omega⟩;rcases ev.1 hw with hw|hw;exact mono _ (b.gl w hw);simp at hw;rw[hw,iB,aX rfl];by_cases e:w=u;exact absurd (by simp[e]) ab;rw[iB,aE e]at h1;exact mono _ (b.done w h1 (λh=>ab (qu _ h)) an x ad);simp only;by_cases e:w=u;rw[aX e];have:=fv v ah;omega;rw[aE e];rw[iB,aE e]at hw;have:=fv w hw;omega;simp only;have aoh:v≠u:=λe=>by rw[e]at ah;exact hk ah
 by_cases e:w=u;subst e;rw[gt,aX rfl,aX rfl,aE aoh];exact⟨mono _ ah,by omega⟩;rw[iB,aE e]at hw;obtain⟨aM,aD⟩:=dU w hw aB;rw[gt,aE e,aE e];have bH:gq.getD w 0≠u:=λh=>by rw[h]at aM;exact hk aM
 rw[aE bH];exact⟨mono _ aM,aD⟩
theorem qn.all(aj:∀u v,L u v->L v u)(b:qn N dst L (λ_=>False) dg gq [])(c:ka L u dst):dg.getD u false=true:=by
 have key:∀{x y:Nat},ka L x y->dg.getD x false=true->dg.getD y false=true:=λ{x y} c=>by
  induction c with
  |refl=>exact id
  |step h _ bE=>exactλhk=>bE (b.done _ hk (by simp) (by simp) _ h)
 exact key (ka.symm aj c) b.root
theorem qn.start(L:Nat->Nat->Prop)(aB:dst<N)(gq:List Nat)(av:gq.length=N):qn N dst L (λ_=>False) ((bG N false).set dst true) gq [dst]/\((bG N false).set dst true).count false+1=N:=by
 have al:dst<(bG N false).length:=by simpa using aB
 have iB:∀o,((bG N false).set dst true).getD o false=if o=dst then true else false:=λo=>by
  rw[PV _ _ _ _ _ al];split;rfl;rw[cN,GG];split<;>rfl
 have aw:=Wy (bG N false) dst al (by rw[cN,GG];split<;>rfl);rw[List.count_replicate_self]at aw;refine⟨⟨by simp,av,by rw[iB,aX rfl],λu hu=>by simp at hu;rw[hu,iB,aX rfl],λu h1 ab _=>?_,λ_=>0,λu _=>by simp only;omega,λu h1 ab=>?_⟩,aw⟩;rw[iB]at h1;split at h1;rename_i e;exact absurd (by simp[e]) ab;cases h1;rw[iB,aE ab]at h1;cases h1
theorem qn.pop(b:qn N dst L (λ_=>False) dg gq (v::e6)):qn N dst L (λu=>u=v) dg gq e6:=⟨b.xH,b.cB,b.root,λu hu=>b.gl u (by simp[hu]),λu h1 ab an=>b.done u h1 (by simp;exact⟨an,ab⟩) (by simp),b.fZ⟩
theorem qn.close(b:qn N dst L (λu=>u=v) dg gq e6)(h:∀w,L v w->dg.getD w false=true):qn N dst L (λ_=>False) dg gq e6:=
 ⟨b.xH,b.cB,b.root,b.gl,λu h1 ab _=>by
  by_cases e:u=v;rw[e];exact h;exact b.done u h1 ab e,b.fZ⟩
end Go.Sx
