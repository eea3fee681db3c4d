/- A part of the proof that the statement holds. Conditions: none. -/
import Derived.Test.YtlbdbpaelcnfgaaGreatDoorAR
import Derived.Test.YtlbdbpaelcnfgaaGreatDoorAT
import Derived.Test.YtlbdbpaelcnfgaaGreatDoorAU
import Derived.Test.YtlbdbpaelcnfgaaGreatDoorAX
open Classical renaming not_not->jw
open Decidable renaming byContradiction->zM
open Go renaming Addr->ar,Value->ao,maxLen->c'
open Go.Proofs.Tryz renaming prog->aH
open Int renaming le_refl->JU,toNat_natCast->bq
open List renaming append_assoc->mb,append_nil->zR,drop_append_of_le_length->ag',drop_eq_getElem_cons->o6,drop_eq_nil_of_le->tg,flatMap_cons->JX,flatten_cons->qr,flatten_nil->ahf,foldl_cons->DY,getD_eq_getElem?_getD->cN,getElem?_eq_getElem->bZ,getElem?_map->dV,getElem?_replicate->GG,getElem?_set_ne->aGM,getElem?_set_self->ahj,getElem_map->aE3,getElem_mem->cS,getElem_of_mem->rb,getElem_set_ne->UU,getElem_set_self->GI,length->e7,length_append->fb,length_cons->gI,length_drop->k1,length_eq_one_iff->aGN,length_map->ih,length_replicate->Ob,length_set->k2,length_singleton->aId,length_take->sa,map_append->fm,map_cons->eO,map_map->lo,map_nil->zU,map_replicate->un,map_set->nb,map_take->GM,mem_append->ev,mem_cons->dC,mem_cons_of_mem->iv,mem_cons_self->iU,mem_flatMap->qv,mem_map->dn,mem_or_eq_of_mem_set->ahp,mem_replicate->Oe,mem_singleton->fx,mem_singleton_self->Of,nodup_append->nS,nodup_cons->k3,replicate->bG,replicate_succ->GO,take_left->BJ,take_of_length_le->k4,take_zero->aFZ
open Nat renaming add_comm->vL,div_eq_of_lt->ahC,div_eq_of_lt_le->aGO,le_refl->dd,mod_lt->U0,mul_add_div->aIf,mul_comm->aEH,mul_le_mul->ns,mul_one->ew,sub_self->yq,succ_mul->BQ,zero_add->dJ,zero_le->cO,zero_mul->D0
open Ne renaming symm->d9
open Option renaming getD_some->BS,map_eq_some_iff->D3
open Option.some renaming inj->oB
namespace Go.Sx
open Go.Proofs
set_option maxRecDepth 100000
set_option maxHeartbeats 0
set_option linter.all false
variable {B aR h:I}{dv op z:Int}{l:List Int}{a b c cK cj cv d' o t:Nat}{J:Obj}{A:Option ar}{r w:ao}{x:lG}
section
variable {B:I}{aT:Nat}
theorem aml(Q:dL)(e:bY)(UQ:List LE)(zJ an:I)(m:e8)(k:cU zJ an aT m)(hm:m.x.hand=[]){ke:Array ao}(lA:an cK=some (.cells ke 113 (0,0)))(w j5 on:ao)(A:Option ar)(c n:Nat)(D:List dO)(hs:RowsIn zJ A D)(EO:D.length=n)(al1:∀d∈D,0<d.l.length/\d.l.length<=64)(aC:n<=100)(aF:sY UQ [0]=some (([.own [.v w,.v j5,.v on] 66]:List LE).map (pA [0])))(he:[0,81,82,83].map e=([.v (b0 aT),.v (.slice A n c),.v (R n),.v (R (0:Nat))]:List aA).map (aCq [0]))(cD:∀e U bc,[0].map e=[.v (b0 aT)]->cU zJ U aT bc->bc.x={m.x with hand:=(D.map dO.l).flatten}->U cK=some (.cells ke 113 (0,0))->Q (.exit 2) e [.own [.v w,.v j5,.v on] 66] U):kH (λQ e L h=>c7 aH 97 aqG Q e L h) Q e UQ an:=by
 refine .kU [0] (Nat×e8) [0,81,82,83] (λ(o,_)=>[.v (b0 aT),.v (.slice A n c),.v (R n),.v (R o)]) (λ_=>[.own [.v w,.v j5,.v on] 66]) (λ(o,bc) U=>cU zJ U aT bc/\bc.x={m.x with hand:=((D.take o).map dO.l).flatten}/\U cK=some (.cells ke 113 (0,0))/\o<=n/\bc.x.hand.length<=64*o) (λ(o,_)=>n-o) (0,m) (λ_=>rfl) ⟨k,by rw[aFZ,zU,ahf,<-hm],lA,cO _,by rw[hm];exact cO _⟩ he rfl aF ?_;clear he aF lA k;rintro⟨o,bc⟩ e h ⟨k,ad,lA,hk,eb⟩;refine .done ?_;refine aK λhc eT hi=>?_;refine eT _ _ _ ?_;refine aK λkb fE i'=>?_;refine aW (λq=>?_) (λq=>?_);have ae:o<D.length:=by omega
 obtain⟨g,ak⟩:=hs.dG.cc (by omega);have yB:=(hs.dG.mono k.le).one ak (i:=o) (r:=[D[o].val]) (by unfold Jk;rw[dV,bZ ae];rfl) rfl;have Ey:=(hs.row _ (cS ae)).mono k.le;obtain⟨WL,He⟩:=al1 _ (cS ae);have hS:D.take (o+1)=D.take o++[D[o]]:=kh ae;have AV:((D.take (o+1)).map dO.l).flatten=bc.x.hand++D[o].l:=by rw[hS,ad,fm,List.flatten_append];simp only[eO,zU,qr,ahf,zR]
 generalize D[o]=d at yB Ey WL He AV;refine fE _ _ _ ?_;refine aK λkc gg j1=>?_;refine fG λko g' ja=>?_;refine aK λlq gX kR=>?_;refine .m g ak ?_;refine .hp (.slice d.A d.l.length d.c) (by rw[bq];exact yB) ?_;refine gX _ _ _ ?_;have fin:∀(e:bY)(L:List LE)(ab:I)(m2:e8),[0,81,82,83].map e=[.v (b0 aT),.v (.slice A n c),.v (R n),.v (R o)]->m2.x={bc.x with hand:=bc.x.hand++d.l}->(∀K:List LE->I->Prop,(∀ma aR,ma.take 1=[.own [.v w,.v j5,.v on] 66]->cU zJ aR aT m2->aR cK=some (.cells ke 113 (0,0))->K ma aR)->e9 K L ab)->ko .normal e L ab:=by
  intro e L ab m2 gD oO sC;refine ja _ _ _ _ nofun (gg _ _ _ ?_);rw[<-fr [0,81,82,83] e,gD];refine .aLS ?_;refine sC _ λma aR ha oa eE=>⟨(o+1,m2),rfl,ha,⟨oa,by rw[oO,AV,ad],eE,by omega,?_⟩,by show n- (o+1)<n-o;omega⟩;rw[oO];simp only[fb];omega
 refine .hp (.slice bc.aO bc.x.hand.length bc.aw) (bN k.box rfl) ?_;refine .done (VG k (au:=d.l) (n:=d.l.length) (by rw[<-xj];exact Ey.src _) rfl WL (by omega) (λab bB Fo HV=>?_) (λbA bu=>?_));have gD:=Fo _ _ lA;have eo:=bB.Jo _ bc.aO bc.aw HV bB.pf bB.sep;have sq:=jx.Bc bB (.cells ({bc with x:={bc.x with hand:=bc.x.hand++d.l}}:e8).cells.toArray 115 (0,0)) _ _ gD;refine .hp aT 8 115 _ ({bc with x:={bc.x with hand:=bc.x.hand++d.l}}:e8).cells rfl bB.box (by show some _=some _;simp only[e8.cells,fb]) ?_;exact fin _ _ _ _ rfl rfl λK eR=>.done (eR _ _ rfl eo sq);refine .hp aT 8 115 _ ({bc with x:={bc.x with hand:=bc.x.hand++d.l},aO:=bA,aw:=bu}:e8).cells rfl k.box (by show some _=some _;simp only[e8.cells,fb]) ?_;have Hg:aT≠cK:=fM k.box lA (by decide);refine fin _ _ _ ({bc with x:={bc.x with hand:=bc.x.hand++d.l},aO:=bA,aw:=bu}:e8) rfl rfl λK eR=>.bV 1 3 1 bA _ bu _ rfl λaR cW fT f4=>.done (eR _ _ rfl ?_ (cW _ _ (by rw[I.cf _ _ (d9 Hg)];exact lA)));exact k.YQ (bc.x.hand++d.l) bA bu rfl cW (by rw[fb];exact fT) f4;refine i' _ _ _ _ nofun ?_;obtain rfl:o=n:=by omega
 exact cD _ _ bc rfl k (by rw[ad,k4 (by omega)]) lA
def Km(x:kl)(a:Nat)(cw:lG)(outs:List (List Int)):kl:={x with jz:=x.jz.set a cw,hand:=outs.flatten}
theorem ays{B:I}{aT:Nat}{m:e8}(k:cU B h aT m)(a6:a<m.x.pD.length):∃g,m.iO=some g/\h.cell? (g.add (a*1))=some (R m.x.pD[a]):=by
 obtain⟨g,ak⟩:=k.r3.cc (by omega);exact⟨g,ak,(k.r3.mono k.le).one ak (i:=a) (r:=[R m.x.pD[a]]) (by unfold gZ;rw[dV,bZ a6];rfl) rfl⟩
theorem call83{B:I}{m:e8}(k:cU B h aT m){on:ao}(he:h cK=some (lQ op d' dv (.slice none 0 0) 0))(eD:B cK=none)(a:Nat)(a6:a<m.x.jz.length)(mQ:a<m.x.pD.length)(x:lG)(ad:m.x.jz[a]=x)(aP:m.x.hand.length<=1000)(t1:1<=x.tag)(t2:x.tag<=11)(ag:x.ins.length<=16)(aL:x.outs.length<=16)(aB:(m.x.hand.length:Int)=m.x.pD[a]->Hc m.x.hand x.ins)(cw:lG)(r:Option (List (List Int)))(CQ:(m.x.hand.length:Int)=m.x.pD[a]->∀outs,r=some outs->(∀J∈outs,0<J.length/\J.length<=64)/\outs.length<=100)(az:(m.x.hand.length:Int)=m.x.pD[a]->∀cj cv,ln B h cj cv x->∀ab cm cE(D:List dO) n,h.le ab->RowsIn ab cm D->D.length=n->D.map dO.l=tu m.x.hand x.ins->Fn aH 89 #[b0 cj,.slice cm n cE] ab (NT B ab cj cv cw r)):Fn aH 83 #[b0 aT,.agg #[w,R a,on],b0 cK] h λ_ U=>if(m.x.hand.length:Int)=m.x.pD[a]then(match r with|some outs=>nq B aT cK op d' dv (Km m.x a cw outs) 0 U|none=>nq B aT cK op d' dv {m.x with jz:=m.x.jz.set a cw} 3 U)else nq B aT cK op d' dv m.x 4 U:=by
 have qM:a<m.dh.length:=by rw[k.rq];exact a6
 have ix:=k.lM a qM a6;rw[ad]at ix;obtain⟨dQ,AD⟩:=k.rp.cc (by omega);have dP:=(k.rp.mono k.le).one AD (i:=a) (r:=[b0 m.dh[a].1]) (by rw[dV,bZ qM];rfl) rfl;obtain⟨gt,tF,kd⟩:=ays k mQ;refine b5 Ru rfl ?_;refine aK λgS dy gY=>?_;refine dy _ _ _ ?_;refine aK λgO dx eG=>?_;refine .hp (.slice m.kJ m.x.jz.length m.lr) (bN k.box rfl) ?_;refine .m dQ AD ?_;refine .hp (b0 m.dh[a].1) (by rw[bq];exact dP) ?_;refine dx _ _ _ ?_;refine aK λgu df fK=>?_;refine aK λgk ed eH=>?_;refine .hp (.slice m.aO m.x.hand.length m.aw) (bN k.box rfl) ?_;refine .hp (.slice m.iO m.x.pD.length m.iq) (bN k.box rfl) ?_;refine .m gt tF ?_;refine .hp (R m.x.pD[a]) (by rw[bq];exact kd) ?_;refine ed _ _ _ ?_;refine ot rfl (λq=>?_) (λq=>?_);have bH:=qb q;refine .hp cK 4 113 _ [R op,.int .u8 d',R dv,.slice none 0 0,.int .u8 (4:Nat)] rfl he rfl ?_;refine fK _ _ _ _ nofun ?_;refine .done ?_;show(if(m.x.hand.length:Int)=m.x.pD[a]then _ else _);rw[aE bH];exact⟨B,m,none,0,0,λ_=>⟨rfl,rfl,rfl⟩,I.le_refl _,k.xT he eD _,rfl,I.bP _ _ _⟩;have bH:(m.x.hand.length:Int)=m.x.pD[a]:=jw.1 (tZ q);have aB:=aB bH;have az:=az bH;have CQ:=CQ bH;refine df _ _ _ ?_;refine aK λhA dY hL=>?_;refine dY _ _ _ ?_;refine aK λhc eT hi=>?_;refine .hp (.slice m.aO m.x.hand.length m.aw) (bN k.box rfl) ?_;refine eT _ _ _ ?_;refine aK λkb fE i'=>?_;refine .done (.mk _ (aeD ix k.le (by omega) (by omega) t1 t2) ?_);rintro _ h1 ⟨cr,eF,cE,ct,bO,rfl,e2,_⟩;refine fE _ _ _ ?_;refine aK λkc gg j1=>?_;refine aK λko g' ja=>?_;refine g' _ _ _ ?_;refine fG λlq gX kR=>?_;refine .lj (.abs 27 1 none 0 0 [] ⟨rfl,.inl ⟨rfl,rfl,rfl⟩⟩ (.done ?_));show kH _ _ _ _ h1;refine ajK lq _ h1 aT cK w (R a) on _ eF cE _ x.ins e2 m.aO m.x.hand m.aw (k.hand.mono cr) aB (by omega) rfl λe A c D gD lS al2 EO=>?_;refine gX _ _ _ (gg _ _ _ ?_);rw[<-fr [0,2,6,7] e,gD];refine aK λsd lC sK=>?_;refine .bV 1 27 1 A x.ins.length c (D.map dO.val) rfl λab cn dU f2=>.done (.mk _ (az _ _ ix ab A c D x.ins.length (I.le_trans cr cn) ⟨?_,λd aB=>(al2 d aB).mono cn⟩ EO lS) ?_);have:=dU.dr;rw[lo]at this;rw[EO];exact this;rintro _ an ⟨Fw,aiZ,am⟩;have bB:=k.up (I.le_trans cr cn);have eo:=bB.uT qM a6 Fw aiZ;have gF:=alK bB.le ix.zg Fw;have aI:=cn _ _ (cr _ _ he);have sq:an cK=some (lQ op d' dv (.slice none 0 0) 0):=by
  obtain⟨a8,aw⟩:=(bB.lM a qM a6).ty;have B4:=G5 m.x.jz[a].tag;exact Fw _ _ (fM aI aw (by omega)) aI
 cases r with
 |none=>
  subst am;refine lC _ _ _ ?_;refine aK λqx lD pr=>?_;refine .hp cK 4 113 _ [R op,.int .u8 d',R dv,.slice none 0 0,.int .u8 (3:Nat)] rfl sq rfl ?_;refine pr _ _ _ _ nofun ?_;refine .done ?_;show(if(m.x.hand.length:Int)=m.x.pD[a]then _ else _);rw[aX bH];exact⟨_,_,none,0,0,λ_=>⟨rfl,rfl,rfl⟩,gF,eo.xT sq (xm eD (by rw[aI];nofun)) _,rfl,I.bP _ _ _⟩
 |some outs=>
  obtain⟨h8,gc,NU,rfl,ge,Hv⟩:=am;obtain⟨CQ,aBn⟩:=CQ _ rfl;have alJ:=Hv.mono (auC (B:=B));have oa:=eo.Jo [] none 0 (.inl ⟨rfl,rfl,rfl⟩) nofun (by
   have s:=eo.sep;rw[k3,k3,nS]at s;simp only[dC,ev,not_or]at s;simp only[jj,List.nil_append,k3,dC,not_or];exact⟨⟨s.1.1,s.1.2.2⟩,s.2.1.2,s.2.2.2.1⟩)
  have CG:=jx.Bc eo (.cells ({m with x:=Km m.x a cw [],aO:=none,aw:=0}:e8).cells.toArray 115 (0,0)) _ _ sq;have aAT:NU.length=outs.length:=by rw[<-ge,ih]
  refine lC _ _ _ ?_;refine aK λqx lD pr=>?_;refine lD _ _ _ ?_;refine aK λut nJ xG=>?_;refine .hp aT 8 115 _ ({m with x:=Km m.x a cw [],aO:=none,aw:=0}:e8).cells rfl eo.box rfl ?_;refine nJ _ _ _ ?_;refine aK λBU rL Fm=>?_;refine rL _ _ _ ?_;refine fG λD7 AZ C'=>?_;refine .lj (.done (aml D7 _ _ (B.grow ab an) _ _ oa rfl CG w (R a) on h8 gc NU.length NU alJ rfl (λd aB=>CQ _ (by rw[<-ge];exact List.mem_map_of_mem aB)) (by omega) rfl rfl λe cg bc Y' mu aoo akb=>?_));refine AZ _ _ _ ?_;refine .done ?_;show(if(m.x.hand.length:Int)=m.x.pD[a]then _ else _);rw[aX bH];exact⟨_,bc,none,0,0,λ_=>⟨rfl,rfl,rfl⟩,gF,mu,by rw[aoo,ge];rfl,akb⟩
end
def NW(ax:LE)(A:Option ar)(l:List Int)(c:Nat):Prop:=(A=none/\l=[]/\c=0/\ax= .row 3 1 none 0 0 [])\/∃(b off N iJ:Nat)(xs:List ao),A=some ⟨b,off,none⟩/\ax= .row 3 1 (some ⟨b,0,none⟩) N iJ xs/\N=off+l.length/\(0<c->off+c=iJ)/\off<=iJ/\iJ<=c'/\xs.drop off=l.map R/\xs.length=N/\l.length<=c
theorem amo(x:iS h A l c){K:List LE->I->Prop}(X:LE)(bQ:∀ax,NW ax A l c->K [X,ax] (ei h A)):e9 K [X] h:=by
 rcases x with⟨rfl,rfl,rfl⟩|⟨b,off,a8,rfl,af,e,ks,aL,aw,hm⟩;exact .abs 3 1 none 0 0 [] ⟨rfl,.inl ⟨rfl,rfl,rfl⟩⟩ (.done (bQ _ (.inl ⟨rfl,rfl,rfl,rfl⟩)));have eb:off+l.length<=a8.length:=by
  by_cases q:0<c;have:=ks q;omega;omega
 have ad:(a8.take (off+l.length)).length=off+l.length:=by rw[sa];omega
 refine .abs 3 1 (some ⟨b,0,none⟩) (off+l.length) a8.length (a8.take (off+l.length)) ⟨by rw[ad,ew],.inr ⟨b,a8.toArray,rfl,af,eb,hm,by simp,by rw[ew]⟩⟩ (.done ?_);exact bQ _ (.inr ⟨b,off,_,_,_,rfl,rfl,rfl,ks,aL,hm,by rw[List.drop_take,Nat.add_sub_cancel_left,e],ad,aw⟩)
theorem YR{off N iJ:Nat}{xs:List ao}(r:bz aR 3 1 (some ⟨b,0,none⟩) N iJ xs)(db:N=off+l.length)(ks:0<c->off+c=iJ)(aL:off<=iJ)(hm:iJ<=c')(aB:xs.drop off=l.map R)(aw:l.length<=c):iS aR (some ⟨b,off,none⟩) l c:=by
 obtain⟨eP,ax,e,af,cG,aC,_,ad⟩:=r.split;injection e with e;subst e;have lc:(xs++ax).length=iJ:=by rw[fb,ad,cG];omega
 refine .inr ⟨b,off,xs++ax,rfl,af,?_,λq=>by rw[lc];exact ks q,by rw[lc];exact aL,aw,by rw[lc];exact hm⟩;rw[ag' (by omega),aB,<-ih (f:=R),BJ]
theorem YS{ax:LE}(am:NW ax A l c){K:List LE->I->Prop}(X:LE)(bQ:∀aR,h.le aR->iS aR A l c->(∀g,A=some g->h g.block=none)->e9 K [X,.gone] aR):e9 K [X,ax] h:=by
 rcases am with⟨rfl,rfl,rfl,rfl⟩|⟨b,off,N,iJ,xs,rfl,rfl,db,ks,aL,hm,aB,ad,aw⟩;exact .bV 1 3 1 none 0 0 [] rfl λaR le r f=>bQ aR le (.inl ⟨rfl,rfl,rfl⟩) nofun;exact .bV 1 3 1 (some ⟨b,0,none⟩) N iJ xs rfl λaR le r f=>bQ aR le (YR r db ks aL hm aB aw) λg ak=>by injection ak with ak;subst ak;exact f ⟨b,0,none⟩ rfl
theorem amp{ax:LE}{au:List Int}{n:Nat}(am:NW ax A l c){S:List ao->Prop}{X:LE}{K:aA->List LE->Prop}(aj:S (au.map R))(ah:au.length=n)(ai:0<n)(al:l.length+n<=100000)(bQ:∀bA bu cB,(∀(o5:List LE->I->Prop)(h:I),(∀iT aR,h.le aR->iS aR bA (l++au) bu->(∀g,bA=some g->h g.block=none)->e9 o5 iT aR)->e9 o5 (X::cB) h)->K (.v (.slice bA (l.length+n) bu)) (X::cB)):fQ 3 1 8 A l.length c n S [X,ax] K:=by
 have c1:∀u∈au.map R,u.oneCell'=true:=λu hu=>by obtain⟨x,_,rfl⟩:=dn.1 hu;rfl
 have jq:l.length+n<=c':=by unfold c';omega
 have fresh:∀{aR:I}{bA:Option ar}{bu:Nat},bz aR 3 1 bA (l.length+n) bu ((l++au).map R)->iS aR bA (l++au) bu:=by
  intro aR bA bu r;have hY:(l++au).length=l.length+n:=by rw[fb,ah]
  cases bA with
  |none=>
   obtain⟨aM,⟨_,aD,bj⟩|⟨b,a8,q,_⟩⟩:=r;omega;cases q
  |some g=>
   obtain⟨b,ax,rfl,af,cG,aC,aw,_⟩:=r.split;have lc:((l++au).map R++ax).length=bu:=by rw[fb,ih,hY,cG];omega
   refine .inr ⟨b,0,(l++au).map R++ax,rfl,af,?_,λ_=>by rw[lc];exact dJ _,cO _,by rw[hY];exact aC,by rw[lc];exact aw⟩;rw[List.drop_zero,<-ih (f:=R),BJ]
 rcases am with⟨rfl,rfl,rfl,rfl⟩|⟨b,off,N,iJ,xs,rfl,rfl,db,ks,aL,hm,aB,ad,aw⟩;refine .cR 1 [] (au.map R) rfl aj c1 jq (by omega) λbA bu _=>?_;exact bQ bA bu _ λo5 h Iw=>.bV 1 3 1 bA (0+n) bu _ rfl λaR le r f=>Iw _ aR le (fresh r) f;refine .off 1 b off N iJ xs (au.map R) rfl rfl (by rw[ew,ew];exact db) (λq=>by rw[ew,ew,ks (by omega)]) aj c1 ai jq (by omega) (λaq=>?_) (λaq b7 bu eZ=>?_);refine bQ _ c _ λo5 h Iw=>.bV 1 3 1 (some ⟨b,0,none⟩) (N+n) iJ (xs++au.map R) rfl λaR le r f=>Iw _ aR le (YR r (by rw[fb,ah,db];omega) ks aL hm ?_ (by rw[fb,ah];exact aq)) λg ak=>by injection ak with ak;subst ak;exact f ⟨b,0,none⟩ rfl
 rw[ag' (by omega),aB,fm];refine bQ (some b7) bu _ λo5 h Iw=>.bV 2 3 1 (some b7) (l.length+n) bu (xs.drop off++au.map R) rfl λaR le r f=>Iw _ aR le (fresh (by rw[aB,<-fm]at r;exact r)) f
theorem Ky(h:I)(A:Option ar)(J:Obj)(bH:∀g,A=some g->g.block≠b):ei (h.put b J) A=(ei h A).put b J:=by
 cases A with
 |none=>rfl
 |some g=>
  have:=bH g rfl;funext o;simp only[ei,I.del,I.put];by_cases q:o=g.block;subst q;rw[aX rfl,aE this,aX rfl];rw[aE q,aE q]
theorem n1(bH:∀g,A=some g->o≠g.block):ei h A o=h o:=by
 cases A with
 |none=>rfl
 |some g=>exact I.lP _ (bH g rfl)
section
variable {B h:I}{aT:Nat}{m:e8}
theorem cU.xn(k:cU B h aT m){a8:Array ao}(ae:h o=some (.cells a8 t (0,0)))(av:t≠3):∀g,m.aO=some g->o≠g.block:=λg ak=>by
 have r:=k.hand;rw[ak]at r;obtain⟨bu,eZ⟩:=r.ty;exact fM ae eZ av
theorem cU.YP(k:cU B h aT m)(l:List Int)(A:Option ar)(c:Nat)(aL:J= .cells ({m with x:={m.x with hand:=l},aO:=A,aw:=c}:e8).cells.toArray 115 (0,0))(cW:((ei h m.aO).put aT J).le aR)(aP:iS aR A l c)(f:∀g,A=some g->((ei h m.aO).put aT J) g.block=none):cU B aR aT {m with x:={m.x with hand:=l},aO:=A,aw:=c}:=by
 have b2:∀{o:Nat}{x:Obj},h o=some x->o≠aT->(∀g,m.aO=some g->o≠g.block)->aR o=some x:=λae dF dR=>cW _ _ (by rw[I.cf _ _ dF,n1 dR];exact ae);have mt:∀{o:Nat}{a8:Array ao}{t:Nat},h o=some (.cells a8 t (0,0))->t≠115->t≠3->aR o=some (.cells a8 t (0,0)):=λae dF dR=>b2 ae (fM ae k.box dF) (k.xn ae dR);obtain⟨dF,dR,hZ,xN⟩:=k.Eo;have sp:=k.sep;rw[k3,k3,nS]at sp;obtain⟨s1,s2,hN,mC,zy⟩:=sp;have kv:aR m.dM=some (gB m.x.mem):=b2 k.mem (fM k.mem k.box (by decide)) λg ak e=>hZ (by rw[e];exact oT ak);have hQ:aR m.c8=some (gB m.x.er):=b2 k.er (fM k.er k.box (by decide)) λg ak e=>dR (by rw[e];exact oT ak);have ql:∀d∈m.wr,∀g,d.A=some g->∀b7,m.aO=some b7->g.block≠b7.block:=λd aB g ak b7 dT e=>zy b7.block (oT dT) g.block (qv.2 ⟨d,aB,oT ak⟩) e.symm;have Jh:∀{bs size n c:Nat}{A:Option ar}{xs:List ao},bz h bs size A n c xs->(∀g,A=some g->g.block≠aT/\∀b7,m.aO=some b7->g.block≠b7.block)->bz aR bs size A n c xs:=by
  intro bs size n c A xs r aO;obtain⟨h1,ab⟩:=r;refine⟨h1,?_⟩;rcases ab with ab|⟨b,a8,aM,aD,bj⟩;exact .inl ab;have:=aO _ aM;exact .inr ⟨b,a8,aM,b2 aD this.1 this.2,bj⟩
 have jg:∀d∈m.wr,bz aR 3 1 d.A d.l.length d.c (d.l.map R):=λd aB=>Jh (k.jg d aB) λg ak=>by
  have r:=k.jg d aB;rw[ak]at r;obtain⟨bu,eZ⟩:=r.ty;exact⟨fM eZ k.box (by decide),λb7 dT=>ql d aB g ak b7 dT⟩
 have gF:B.le ((ei h m.aO).put aT J):=kT k.qD λo x ae=>by
  rw[n1 λg ak e=>by rw[e,k.pf g ak]at ae;cases ae];exact k.le _ _ ae
 have c6:∀o∈jj A,((ei h m.aO).put aT J) o=none:=λo ae=>by
  obtain⟨g,ak,e⟩:=oe ae;rw[<-e];exact f g ak
 have RB:∀{o:Nat}{a8:Array ao},h o=some (.cells a8 3 (0,0))->(∀g,m.aO=some g->o≠g.block)->((ei h m.aO).put aT J) o≠none:=λae aC=>by
  rw[I.cf _ _ (fM ae k.box (by decide)),n1 aC,ae];nofun
 refine⟨I.le_trans gF cW,k.qD,by rw[cW _ _ (I.bP _ _ _),aL],kv,k.ob,Jh k.mx λg ak=>?_,k.sP,mt k.da (by decide) (by decide),k.sm,k.qH,k.pX,mt k.wr (by decide) (by decide),k.s',k.pG,jg,k.ql,k.pc,k.ops,k.r3,k.rp,k.rq,λi h1 ab=>?_,k.sL,hQ,k.sg,aP,λg ak=>I.none_le gF (f g ak),?_⟩;have r:=k.mx;rw[ak]at r;obtain⟨bu,eZ⟩:=r.ty;exact⟨fM eZ k.box (by decide),k.xn eZ (by decide)⟩;have ix:=k.lM i h1 ab;obtain⟨bu,eZ⟩:=ix.ty;have B4:=G5 m.x.jz[i].tag;exact ix.to (I.le_refl _) (by rw[eZ,mt eZ (by omega) (by omega)]) ix.zg;rw[k3,k3,nS];simp only[dC,ev,not_or]at s1 s2⊢;refine⟨⟨s1.1,λq=>RB k.mem (λg ak e=>hZ (by rw[e];exact oT ak)) (c6 _ q),s1.2.2⟩,⟨λq=>RB k.er (λg ak e=>dR (by rw[e];exact oT ak)) (c6 _ q),s2.2⟩,?_,mC,λa a6 b af e=>?_⟩;cases A<;>simp[jj];subst e;obtain⟨d,aB,q⟩:=qv.1 af;obtain⟨g,ak,e⟩:=oe q;have r:=k.jg d aB;rw[ak]at r;obtain⟨bu,eZ⟩:=r.ty;rw[e]at eZ;exact RB eZ (λb7 dT bl=>ql d aB g ak b7 dT (by rw[e];exact bl)) (c6 _ a6)
theorem cU.amn(k:cU B h aT m)(cW:(ei h m.aO).le aR)(aP:iS aR m.aO m.x.hand m.aw)(f:∀g,m.aO=some g->(ei h m.aO) g.block=none):cU B aR aT m:=by
 have YZ:(ei h m.aO) aT=some (.cells m.cells.toArray 115 (0,0)):=by rw[n1 (k.xn k.box (by decide))];exact k.box
 exact k.YP m.x.hand m.aO m.aw rfl (by rw[rW YZ];exact cW) aP (by rw[rW YZ];exact f)
end
section
variable {B h:I}{aT:Nat}{m:e8}
def S5(x:kl)(a n:Nat):kl:={x with hand:=x.hand++(x.da.getD a []).take n,da:=x.da.set a ((x.da.getD a []).drop n)}
theorem cU.akJ(k:cU B h aT m)(a6:a<m.da.length):h.cell? ((⟨m.ff,0,none⟩:ar).add (a*1))=some m.da[a].val:=by
 rw[add_lit,dJ,ew];exact bN k.da (by simp[a6])
theorem akK(k:cU B h aT m):m.da.length=m.x.da.length:=by rw[<-k.qH,ih]
theorem alz{cs:List ao}{al aw:Nat}(af:h aT=some (.cells cs.toArray 115 (0,0)))(pd:cs[8]?=some (.slice A al aw))(n:Int)(qO:al<=100000)(aC:0<=n/\n<=100000):Fn aH 133 #[b0 aT,R n] h λv U=>v= .bool (decide (64<(al:Int)+n))/\U=h:=by
 refine b5 aaQ rfl ?_;refine .hp (.slice A al aw) (bN af pd) ?_;refine .aLS ?_;exact .done ⟨rfl,rfl⟩
theorem cU.RO(k:cU B h aT m):B.le (ei h m.aO):=λo x ae=>by
 rw[n1 λg ak e=>by rw[e,k.pf g ak]at ae;cases ae];exact k.le _ _ ae
theorem ayu{h:I}{d:dO}{n:Nat}(x:d.ok h)(aC:n<=d.l.length):bg h 1 d.A n (gZ (d.l.take n)):=by
 unfold gZ;rw[GM];exact bg.take x aC
theorem awm(k:cU B h aT m)(he:h cK=some (lQ op d' dv (.slice none 0 0) 0))(eD:B cK=none)(a n:Nat)(a6:a<m.x.da.length)(dF:1<=n)(aC:n<=1000)(aP:m.x.hand.length<=1000):Fn aH 82 #[b0 aT,.agg #[w,R a,R n],b0 cK] h λ_ U=>if 64<m.x.hand.length+n then nq B aT cK op d' dv m.x 4 U else if(m.x.da.getD a []).length<n then nq B aT cK op d' dv m.x 2 U else nq B aT cK op d' dv (S5 m.x a n) 0 U:=by
 have fI:a<m.da.length:=by rw[akK k];exact a6
 obtain⟨d,aB⟩:∃d,m.da[a]=d:=⟨_,rfl⟩;obtain⟨Ey,WC⟩:=k.pX _ (cS fI);rw[aB]at Ey WC;have xq:m.x.da.getD a []=d.l:=by
  rw[<-k.qH,cN,dV,bZ fI,aB];rfl
 obtain⟨hs,lS⟩:∃hs,hs=ei h m.aO:=⟨_,rfl⟩;have vZ:hs aT=some (.cells m.cells.toArray 115 (0,0)):=by rw[lS,n1 (k.xn k.box (by decide))];exact k.box
 have XK:hs m.ff=some (.cells (m.da.map dO.val).toArray 27 (0,0)):=by rw[lS,n1 (k.xn k.da (by decide))];exact k.da
 have xt:hs cK=some (lQ op d' dv (.slice none 0 0) 0):=by rw[lS,n1 (k.xn he (by decide))];exact he
 have RO:B.le hs:=by rw[lS];exact k.RO
 have pW:hs.cell? ((⟨m.ff,0,none⟩:ar).add (a*1))=some d.val:=by
  rw[add_lit,dJ,ew];exact bN XK (by simp[fI,aB])
 refine b5 asJ rfl ?_;have f133:=alz vZ (A:=m.aO) (al:=m.x.hand.length) (aw:=m.aw) rfl n (by omega) ⟨by omega,by omega⟩;have qk:∀(t:Nat)(aR:I),(hs.put cK (lQ op d' dv (.slice none 0 0) t)).le aR->iS aR m.aO m.x.hand m.aw->(∀g,m.aO=some g->(hs.put cK (lQ op d' dv (.slice none 0 0) t)) g.block=none)->nq B aT cK op d' dv m.x t aR:=by
  intro t aR cW yU f4;rw[lS,<-Ky h m.aO _ λg ak e=>k.xn he (by decide) g ak e.symm]at cW f4;refine⟨B,m,none,0,0,λ_=>⟨rfl,rfl,rfl⟩,I.le_refl _,(k.xT he eD _).amn cW yU f4,rfl,cW _ _ ?_⟩;rw[n1 (k.xn he (by decide)),I.bP]
 rw[xq];refine aK λgS dy gY=>?_;refine dy _ _ _ ?_;refine fG λgO dx eG=>?_;refine aK λgu df fK=>?_;refine amo k.hand _ λax cG=>?_;rw[<-lS];refine .mk _ f133 ?_;rintro _ ad ⟨rfl,ex⟩;rw[ex];refine df _ _ _ ?_;refine ot rfl (λq=>?_) (λq=>?_);refine .hp cK 4 113 _ [R op,.int .u8 d',R dv,.slice none 0 0,.int .u8 (4:Nat)] rfl xt rfl ?_;refine eG _ _ _ _ nofun ?_;refine YS cG _ λaR cW yU f4=>.done ?_;show(if 64<m.x.hand.length+n then _ else _);rw[aX (by have:=qb q;omega)];exact qk 4 aR cW yU f4;have acB:¬64<m.x.hand.length+n:=by have:=tZ q;omega
 refine aK λgk ed eH=>?_;refine .hp (mK m.ff m.da.length) (bN vZ rfl) ?_;refine .mk ⟨m.ff,0,none⟩ rfl (by omega) (by omega) ?_;refine .hp (.slice d.A d.l.length d.c) (by rw[bq];exact pW) ?_;refine ed _ _ _ ?_;refine ot rfl (λq=>?_) (λq=>?_);refine .hp cK 4 113 _ [R op,.int .u8 d',R dv,.slice none 0 0,.int .u8 (2:Nat)] rfl xt rfl ?_;refine eG _ _ _ _ nofun ?_;refine YS cG _ λaR cW yU f4=>.done ?_;show(if 64<m.x.hand.length+n then _ else if d.l.length<n then _ else _);rw[aE acB,aX (by have:=qb q;omega)];exact qk 2 aR cW yU f4;have auH:¬d.l.length<n:=by have:=tZ q;omega
 refine aK λhA dY hL=>?_;refine .hp (.slice m.aO m.x.hand.length m.aw) (bN vZ rfl) ?_;refine .hp (mK m.ff m.da.length) (bN vZ rfl) ?_;refine .mk ⟨m.ff,0,none⟩ rfl (by omega) (by omega) ?_;refine .hp (.slice d.A d.l.length d.c) (by rw[bq];exact pW) ?_;refine .mk 0 n rfl rfl (by omega) (by omega) λq6 aDQ pe=>?_;rw[M7 aDQ pe];have lt:(d.l.take n).length=n:=by rw[sa];omega
 refine amp cG (au:=d.l.take n) (by rw[<-xj];exact(bg.mono (ayu Ey (by omega)) RO).src _) lt (by omega) (by omega) λbA bu cB cv=>?_;obtain⟨eW,E'⟩:∃eW,eW=({m with x:={m.x with hand:=m.x.hand++d.l.take n},aO:=bA,aw:=bu}:e8).cells:=⟨_,rfl⟩;refine .hp aT 8 115 _ eW rfl vZ (by rw[E'];show some _=some _;simp only[e8.cells,fb,lt,Nat.sub_zero]) ?_;have G6:(hs.put aT (.cells eW.toArray 115 (0,0))) aT=some (.cells eW.toArray 115 (0,0)):=I.bP _ _ _;have acO:eW[2]?=some (mK m.ff m.da.length):=by rw[E'];rfl
 have IS:m.ff≠aT:=fM k.da k.box (by decide);have XJ:(hs.put aT (.cells eW.toArray 115 (0,0))) m.ff=some (.cells (m.da.map dO.val).toArray 27 (0,0)):=by rw[I.cf _ _ IS];exact XK
 refine dY _ _ _ ?_;refine .hp (mK m.ff m.da.length) (bN G6 acO) ?_;refine .hp (mK m.ff m.da.length) (bN G6 acO) ?_;refine .mk ⟨m.ff,0,none⟩ rfl (by omega) (by omega) ?_;refine .hp (.slice d.A d.l.length d.c) (by rw[bq,add_lit,dJ,ew];exact bN XJ (by simp[fI,aB,dO.val])) ?_;refine .mk n d.l.length rfl rfl (by omega) WC λhz pe EM=>?_;refine .mk ⟨m.ff,0,none⟩ rfl (by omega) (by omega) ?_;have ld:(d.l.drop n).length=d.l.length-n:=k1;refine .hp m.ff (0+a*1) 27 (m.da.map dO.val) ((m.da.set a ⟨hz,d.c-n,d.l.drop n⟩).map dO.val) (by rw[add_lit,bq]) XJ ?_ ?_;rw[dJ,ew,ib _ _ _ (by rw[ih];exact fI),nb];show some ((m.da.map dO.val).set a (.slice hz (d.l.length-n) (d.c-n)))=some ((m.da.map dO.val).set a (.slice hz (d.l.drop n).length (d.c-n)));rw[ld];refine eG _ _ _ _ nofun ?_;refine cv _ _ λiT aR cW yU f4=>.done ?_;show(if 64<m.x.hand.length+n then _ else if d.l.length<n then _ else _);rw[aE acB,aE auH];have au3:(⟨hz,d.c-n,d.l.drop n⟩:dO).ok B:=by
  show bg B 1 hz (d.l.drop n).length (gZ (d.l.drop n));rw[ld];unfold gZ;rw[List.map_drop];exact bg.drop Ey (λq=>pe (by omega)) (by omega)
 have bJ:=k.aez (m.da.set a ⟨hz,d.c-n,d.l.drop n⟩) (by simp) (λy aQ=>by
  rcases ahp aQ with aQ|rfl;exact k.pX y aQ;exact⟨au3,by show(d.l.drop n).length<=d.c-n;omega⟩)
 rw[SW _ _ _ (d9 IS),lS,<-Ky h m.aO _ (λg ak e=>k.xn k.da (by decide) g ak e.symm)]at cW f4;have bB:=bJ.YP (m.x.hand++d.l.take n) bA bu (by rw[E'];simp only[e8.cells,k2]) cW yU f4;have Sd:cK≠aT:=fM he k.box (by decide);have Se:cK≠m.ff:=fM he k.da (by decide);refine⟨B,_,none,0,0,λ_=>⟨rfl,rfl,rfl⟩,I.le_refl _,bB,?_,cW _ _ ?_⟩;simp only[S5,xq];rw[nb,k.qH];rw[I.cf _ _ Sd,n1 (k.xn he (by decide)),I.cf _ _ Se];exact he
end
theorem X5{α:Type}(f:α->List Nat):∀(l:List α),(l.flatMap f).Nodup->∀(i o:Nat)(ag:i<l.length)(ae:o<l.length),i≠o->∀x∈f l[i],x∉f l[o]
 |[],_,i,_,ag,_,_,_,_=>absurd ag (Nat.not_lt_zero _)
 |a::l,h,i,o,ag,ae,bH,x,ad=>by
  rw[JX,nS]at h;obtain⟨_,ab,an⟩:=h;intro hB;cases i with
  |zero=>
   cases o with
   |zero=>exact bH rfl
   |succ o=>exact an x ad x (qv.2 ⟨_,cS (by simpa using ae),hB⟩) rfl
  |succ i=>
   cases o with
   |zero=>exact an x hB x (qv.2 ⟨_,cS (by simpa using ag),ad⟩) rfl
   |succ o=>exact X5 f l ab i o (by simpa using ag) (by simpa using ae) (λe=>bH (by rw[e])) x ad hB
theorem KV{α:Type}(f:α->List Nat){l:List α}{y:α}{x:Nat}(ad:x∈(l.set a y).flatMap f):x∈f y\/∃(i:Nat)(ag:i<l.length),i≠a/\x∈f l[i]:=by
 obtain⟨z,aY,ad⟩:=qv.1 ad;obtain⟨i,ag,rfl⟩:=rb aY;rw[k2]at ag;by_cases e:i=a;subst e;rw[GI]at ad;exact .inl ad;rw[UU (d9 e)]at ad;exact .inr ⟨i,ag,e,ad⟩
theorem X6{α:Type}(f:α->List Nat):∀(l:List α)(a:Nat)(y:α),(l.flatMap f).Nodup->(f y).Nodup->(∀(i:Nat)(ag:i<l.length),i≠a->∀x∈f y,x∉f l[i])->((l.set a y).flatMap f).Nodup
 |[],_,_,h,_,_=>h
 |b::l,0,y,h,h1,ab=>by
  rw[List.set_cons_zero,JX,nS];rw[JX,nS]at h;refine⟨h1,h.2.1,λu hu v ah e=>?_⟩;subst e;obtain⟨z,aY,ad⟩:=qv.1 ah;obtain⟨i,ag,rfl⟩:=rb aY;exact ab (i+1) (by simpa using ag) (by omega) u hu ad
 |b::l,a+1,y,h,h1,ab=>by
  rw[List.set_cons_succ,JX,nS];rw[JX,nS]at h;refine⟨h.1,X6 f l a y h.2.1 h1 λi ag bH x ad=>ab (i+1) (by simpa using ag) (by omega) x ad,λu hu v ah e=>?_⟩;subst e;rcases KV f ah with q|⟨i,ag,_,q⟩;exact ab 0 (by simp) (by omega) u q hu;exact h.2.2 u hu u (qv.2 ⟨_,cS ag,q⟩) rfl
section
variable {B h:I}{aT:Nat}{m:e8}
def T7(x:kl)(a n:Nat):kl:={x with wr:=x.wr.set a (x.wr.getD a []++x.hand.take n),hand:=x.hand.drop n}
theorem cU.np(k:cU B h aT m){d:dO}(aB:d∈m.wr){a8:Array ao}(ae:h o=some (.cells a8 t (0,0)))(av:t≠3):∀g,d.A=some g->o≠g.block:=λg ak=>by
 have r:=k.jg d aB;rw[ak]at r;obtain⟨bu,eZ⟩:=r.ty;exact fM ae eZ av
theorem cU.af3(k:cU B h aT m)(a6:a<m.wr.length)(l:List Int)(A:Option ar)(c:Nat)(aL:J= .cells ((m.wr.set a ⟨A,c,l⟩).map dO.val).toArray 27 (0,0))(cW:((ei h m.wr[a].A).put m.fX J).le aR)(r:bz aR 3 1 A l.length c (l.map R))(f:∀g,A=some g->((ei h m.wr[a].A).put m.fX J) g.block=none):cU B aR aT {m with x:={m.x with wr:=(m.wr.set a ⟨A,c,l⟩).map dO.l},wr:=m.wr.set a ⟨A,c,l⟩}:=by
 have EY:=cS a6;have b2:∀{o:Nat}{x:Obj},h o=some x->o≠m.fX->(∀g,m.wr[a].A=some g->o≠g.block)->aR o=some x:=λae dF dR=>cW _ _ (by rw[I.cf _ _ dF,n1 dR];exact ae);have mt:∀{o:Nat}{a8:Array ao}{t:Nat},h o=some (.cells a8 t (0,0))->t≠27->t≠3->aR o=some (.cells a8 t (0,0)):=λae dF dR=>b2 ae (fM ae k.wr dF) (k.np EY ae dR);obtain⟨dF,dR,hZ,xN⟩:=k.Eo;obtain⟨tq,m4⟩:=xN _ EY;have sp:=k.sep;rw[k3,k3,nS]at sp;obtain⟨s1,s2,hN,mC,zy⟩:=sp;have ab':∀g,m.wr[a].A=some g->m.dM≠g.block:=λg ak e=>m4 (by rw[e];exact oT ak);have Wu:∀g,m.wr[a].A=some g->m.c8≠g.block:=λg ak e=>tq (by rw[e];exact oT ak);have bH:∀g,m.wr[a].A=some g->∀b7,m.aO=some b7->b7.block≠g.block:=λg ak b7 dT e=>zy b7.block (oT dT) g.block (qv.2 ⟨_,EY,oT ak⟩) e;have one:∀(i:Nat)(ag:i<m.wr.length),i≠a->∀g,m.wr[i].A=some g->∀b7,m.wr[a].A=some b7->g.block≠b7.block:=λi ag e g ak b7 dT q=>X5 _ _ mC i a ag a6 e g.block (oT ak) (by rw[q];exact oT dT);have kv:aR m.dM=some (gB m.x.mem):=b2 k.mem (fM k.mem k.wr (by decide)) ab';have hQ:aR m.c8=some (gB m.x.er):=b2 k.er (fM k.er k.wr (by decide)) Wu;have Jh:∀{bs size n c:Nat}{A:Option ar}{xs:List ao},bz h bs size A n c xs->(∀g,A=some g->g.block≠m.fX/\∀b7,m.wr[a].A=some b7->g.block≠b7.block)->bz aR bs size A n c xs:=by
  intro bs size n c A xs r aO;obtain⟨h1,ab⟩:=r;refine⟨h1,?_⟩;rcases ab with ab|⟨b,a8,aM,aD,bj⟩;exact .inl ab;have:=aO _ aM;exact .inr ⟨b,a8,aM,b2 aD this.1 this.2,bj⟩
 have amm:iS aR m.aO m.x.hand m.aw:=by
  have aP:=k.hand;have LJ:=k.hand;rcases aP with x|⟨eP,off,a8,aM,aD,bj⟩;exact .inl x;exact .inr ⟨eP,off,a8,aM,b2 aD (fM aD k.wr (by decide)) (λg ak=>bH g ak _ aM),bj⟩
 have gF:B.le ((ei h m.wr[a].A).put m.fX J):=kT k.s' λo x ae=>by
  rw[n1 λg ak e=>by rw[e,k.ql _ EY g ak]at ae;cases ae];exact k.le _ _ ae
 have rM:∀{o:Nat}{a8:Array ao},h o=some (.cells a8 3 (0,0))->(∀g,m.wr[a].A=some g->o≠g.block)->∀g,A=some g->g.block≠o:=λae aC g ak e=>by
  have:=f g ak;rw[e,I.cf _ _ (fM ae k.wr (by decide)),n1 aC,ae]at this;cases this
 have rows:∀d∈m.wr.set a ⟨A,c,l⟩,bz aR 3 1 d.A d.l.length d.c (d.l.map R)/\∀g,d.A=some g->B g.block=none:=by
  intro d aB;obtain⟨i,ag,rfl⟩:=rb aB;rw[k2]at ag;by_cases e:i=a;subst e;simp only[GI];exact⟨r,λg ak=>I.none_le gF (f g ak)⟩;simp only[UU (d9 e)];refine⟨Jh (k.jg _ (cS ag)) λg ak=>⟨?_,one i ag e g ak⟩,k.ql _ (cS ag)⟩;have r:=k.jg _ (cS ag);rw[ak]at r;obtain⟨bu,eZ⟩:=r.ty;exact fM eZ k.wr (by decide)
 refine⟨I.le_trans gF cW,k.qD,?_,kv,k.ob,Jh k.mx λg ak=>?_,k.sP,b2 k.da k.pc (k.np EY k.da (by decide)),k.sm,k.qH,k.pX,by rw[cW _ _ (I.bP _ _ _),aL],k.s',rfl,λd aB=>(rows d aB).1,λd aB=>(rows d aB).2,k.pc,k.ops,k.r3,k.rp,k.rq,λi h1 ab=>?_,k.sL,hQ,k.sg,amm,k.pf,?_⟩;rw[mt k.box (by decide) (by decide)];simp only[e8.cells,k2];have r:=k.mx;rw[ak]at r;obtain⟨bu,eZ⟩:=r.ty;exact⟨fM eZ k.wr (by decide),k.np EY eZ (by decide)⟩;have ix:=k.lM i h1 ab;obtain⟨bu,eZ⟩:=ix.ty;have B4:=G5 m.x.jz[i].tag;exact ix.to (I.le_refl _) (by rw[eZ,mt eZ (by omega) (by omega)]) ix.zg;have tU:∀x∈jj A,∃g,A=some g/\g.block=x:=λx ad=>oe ad;rw[k3,k3,nS];simp only[dC,ev,not_or]at s1 s2⊢;refine⟨⟨s1.1,s1.2.1,λq=>?_⟩,⟨s2.1,λq=>?_⟩,hN,X6 _ _ _ _ mC (by cases A<;>simp[jj]) λi ag e x ad q=>?_,λu hu v ah e=>?_⟩;rcases KV _ q with q|⟨i,ag,_,q⟩;obtain⟨g,ak,e⟩:=tU _ q;exact rM k.mem ab' g ak e;exact s1.2.2 (qv.2 ⟨_,cS ag,q⟩);rcases KV _ q with q|⟨i,ag,_,q⟩;obtain⟨g,ak,e⟩:=tU _ q;exact rM k.er Wu g ak e;exact s2.2 (qv.2 ⟨_,cS ag,q⟩);obtain⟨g,ak,bl⟩:=tU _ ad;obtain⟨g2,gV,aI⟩:=oe q;have r:=k.jg _ (cS ag);rw[gV]at r;obtain⟨bu,eZ⟩:=r.ty;exact rM eZ (one i ag e g2 gV) g ak (by rw[bl,aI]);subst e;rcases KV _ ah with q|⟨i,ag,_,q⟩;obtain⟨g,ak,e⟩:=tU _ q;obtain⟨g2,gV,aI⟩:=oe hu;have r:=k.hand;rw[gV]at r;obtain⟨bu,eZ⟩:=r.ty;exact rM eZ (λb7 dT=>bH b7 dT g2 gV) g ak (by rw[e,aI]);exact zy u hu u (qv.2 ⟨_,cS ag,q⟩) rfl
end
section
variable {B h:I}{aT:Nat}{m:e8}
theorem az2(k:cU B h aT m)(he:h cK=some (lQ op d' dv (.slice none 0 0) 0))(eD:B cK=none)(a n:Nat)(a6:a<m.x.wr.length)(dF:1<=n)(aC:n<=1000)(aP:m.x.hand.length<=1000)(hw:(m.x.wr.getD a []).length<=1000000000):Fn aH 85 #[b0 aT,.agg #[w,R a,R n],b0 cK] h λ_ U=>if m.x.hand.length<n then nq B aT cK op d' dv m.x 4 U else nq B aT cK op d' dv (T7 m.x a n) 0 U:=by
 have fI:a<m.wr.length:=by rw[<-ih (f:=dO.l),k.pG];exact a6
 obtain⟨d,aB⟩:∃d,m.wr[a]=d:=⟨_,rfl⟩;have uZ:d∈m.wr:=by rw[<-aB];exact cS fI
 have HQ:=k.jg d uZ;have xq:m.x.wr.getD a []=d.l:=by
  rw[<-k.pG,cN,dV,bZ fI,aB];rfl
 rw[xq]at hw;obtain⟨hs,lS⟩:∃hs,hs=ei h d.A:=⟨_,rfl⟩;have vZ:hs aT=some (.cells m.cells.toArray 115 (0,0)):=by rw[lS,n1 (k.np uZ k.box (by decide))];exact k.box
 have af5:hs m.fX=some (.cells (m.wr.map dO.val).toArray 27 (0,0)):=by rw[lS,n1 (k.np uZ k.wr (by decide))];exact k.wr
 have xt:hs cK=some (lQ op d' dv (.slice none 0 0) 0):=by rw[lS,n1 (k.np uZ he (by decide))];exact he
 have jP:hs.cell? ((⟨m.fX,0,none⟩:ar).add (a*1))=some d.val:=by
  rw[add_lit,dJ,ew];exact bN af5 (by simp[fI,aB])
 have amk:iS hs m.aO m.x.hand m.aw:=by
  rcases k.hand with x|⟨eP,off,a8,aM,aD,bj⟩;exact .inl x;refine .inr ⟨eP,off,a8,aM,?_,bj⟩;rw[lS,n1 λg ak e=>?_];exact aD;have sp:=k.sep;rw[k3,k3,nS]at sp;refine sp.2.2.2.2 eP ?_ eP (qv.2 ⟨d,uZ,?_⟩) rfl;rw[aM];exact Of _;rw[e];exact oT ak
 obtain⟨gA,HX⟩:=amk.dG;have qk:∀(aR:I),(hs.put cK (lQ op d' dv (.slice none 0 0) 4)).le aR->bz aR 3 1 d.A d.l.length d.c (d.l.map R)->(∀g,d.A=some g->(hs.put cK (lQ op d' dv (.slice none 0 0) 4)) g.block=none)->nq B aT cK op d' dv m.x 4 aR:=by
  intro aR cW fT f4;rw[lS,<-Ky h d.A _ λg ak e=>k.np uZ he (by decide) g ak e.symm]at cW f4;have bJ:=k.xT he eD (lQ op d' dv (.slice none 0 0) 4);have kQ:m.wr.set a ⟨d.A,d.c,d.l⟩=m.wr:=by rw[<-aB];exact List.set_getElem_self fI
  have afO:(ei (h.put cK (lQ op d' dv (.slice none 0 0) 4)) d.A) m.fX=some (.cells ((m.wr.set a ⟨d.A,d.c,d.l⟩).map dO.val).toArray 27 (0,0)):=by
   rw[n1 (bJ.np uZ bJ.wr (by decide)),kQ];exact bJ.wr
  have bB:=bJ.af3 (a:=a) fI d.l d.A d.c rfl (by rw[aB,rW afO];exact cW) fT (by rw[aB,rW afO];exact f4);refine⟨B,_,none,0,0,λ_=>⟨rfl,rfl,rfl⟩,I.le_refl _,bB,?_,cW _ _ ?_⟩;simp only[kQ,k.pG];rw[n1 (k.np uZ he (by decide)),I.bP]
 refine agN asK rfl ?_;refine .abs 3 1 d.A d.l.length d.c (d.l.map R) HQ (.done ?_);rw[<-lS];refine aK λgS dy gY=>?_;refine dy _ _ _ ?_;refine aK λgO dx eG=>?_;refine aK λgu df fK=>?_;refine .hp (.slice m.aO m.x.hand.length m.aw) (bN vZ rfl) ?_;refine df _ _ _ ?_;refine ot rfl (λq=>?_) (λq=>?_);refine .hp cK 4 113 _ [R op,.int .u8 d',R dv,.slice none 0 0,.int .u8 (4:Nat)] rfl xt rfl ?_;refine eG _ _ _ _ nofun ?_;refine .bV 0 3 1 d.A d.l.length d.c _ rfl λaR cW fT f4=>.done ?_;show(if m.x.hand.length<n then _ else _);rw[aX (by have:=qb q;omega)];exact qk aR cW fT f4;have no:¬m.x.hand.length<n:=by have:=tZ q;omega
 refine dx _ _ _ ?_;refine aK λgk ed eH=>?_;refine .hp (mK m.fX m.wr.length) (bN vZ rfl) ?_;refine .hp (mK m.fX m.wr.length) (bN vZ rfl) ?_;refine .mk ⟨m.fX,0,none⟩ rfl (by omega) (by omega) ?_;refine .hp (.slice d.A d.l.length d.c) (by rw[bq];exact jP) ?_;refine .hp (.slice m.aO m.x.hand.length m.aw) (bN vZ rfl) ?_;refine .mk 0 n rfl rfl (by omega) (by omega) λq6 aDQ pe=>?_;rw[M7 aDQ pe];have lt:(m.x.hand.take n).length=n:=by rw[sa];omega
 have tO:∀L,Src L hs 1 m.aO n ((m.x.hand.take n).map R):=λL=>by
  have:=(show bg hs 1 m.aO n (gZ (m.x.hand.take n)) by unfold gZ;rw[GM];exact gA.take (by omega)).src L;unfold gZ at this;rw[xj]at this;exact this
 refine .cR 0 (d.l.map R) ((m.x.hand.take n).map R) rfl (tO _) (λu hu=>by obtain⟨x,_,rfl⟩:=dn.1 hu;rfl) (by unfold c';omega) (by omega) λbA bu _=>?_;refine .mk ⟨m.fX,0,none⟩ rfl (by omega) (by omega) ?_;have lw:(d.l++m.x.hand.take n).length=d.l.length+n:=by rw[fb,lt]
 refine .hp m.fX (0+a*1) 27 (m.wr.map dO.val) ((m.wr.set a ⟨bA,bu,d.l++m.x.hand.take n⟩).map dO.val) (by rw[add_lit,bq]) af5 ?_ ?_;rw[dJ,ew,ib _ _ _ (by rw[ih];exact fI),nb];show some ((m.wr.map dO.val).set a (.slice bA (d.l.length+n) bu))=some ((m.wr.map dO.val).set a (.slice bA (d.l++m.x.hand.take n).length bu));rw[lw];have acL:m.fX≠aT:=fM k.wr k.box (by decide);have G6:(hs.put m.fX (.cells ((m.wr.set a ⟨bA,bu,d.l++m.x.hand.take n⟩).map dO.val).toArray 27 (0,0))) aT=some (.cells m.cells.toArray 115 (0,0)):=by rw[I.cf _ _ (d9 acL)];exact vZ
 refine ed _ _ _ ?_;refine .hp (.slice m.aO m.x.hand.length m.aw) (bN G6 rfl) ?_;refine .mk n m.x.hand.length rfl rfl (by omega) HX λhz pe EM=>?_;obtain⟨eW,E'⟩:∃eW,eW=({m with x:={m.x with hand:=m.x.hand.drop n},aO:=hz,aw:=m.aw-n}:e8).cells:=⟨_,rfl⟩;refine .hp aT 8 115 _ eW rfl G6 (by rw[E'];show some _=some _;simp only[e8.cells,k1]) ?_;refine .bV 0 3 1 bA _ bu _ rfl λaR cW fT f4=>.done ?_;show(if m.x.hand.length<n then _ else _);rw[aE no];obtain⟨amT,qN⟩:=k.hand.drop (vB:=hz) (k:=n) (by omega) pe EM;have bJ:=k.Jo (m.x.hand.drop n) hz (m.aw-n) amT (λg ak=>by
  have q:g.block∈jj m.aO:=by rw[<-qN];exact oT ak
  obtain⟨b7,dT,e⟩:=oe q;rw[<-e];exact k.pf b7 dT) (by have:=k.sep;rw[qN];exact this)
 rw[<-E']at bJ;rw[SW _ _ _ acL,lS,<-Ky h d.A _ (λg ak e=>k.np uZ k.box (by decide) g ak e.symm)]at cW f4;have bB:=bJ.af3 (a:=a) fI (d.l++m.x.hand.take n) bA bu rfl (by simp only[aB];exact cW) (by rw[lw,fm];exact fT) (by simp only[aB];exact f4);have Sd:cK≠aT:=fM he k.box (by decide);have new:cK≠m.fX:=fM he k.wr (by decide);refine⟨B,_,none,0,0,λ_=>⟨rfl,rfl,rfl⟩,I.le_refl _,bB,?_,cW _ _ ?_⟩;simp only[T7,xq];rw[nb,k.pG];rw[I.cf _ _ new,n1 (k.np uZ he (by decide)),I.cf _ _ Sd];exact he
end
def aDV(a b:Int):Option Int:=if(0<b/\azD (9223372036854775807-b)<a)\/(b<0/\a<azD (-9223372036854775808-b))then none else some (azD (a+b))
def aEK(a b:Int):Option Int:=if(b<0/\azD (9223372036854775807+b)<a)\/(0<b/\a<azD (-9223372036854775808+b))then none else some (azD (a-b))
def aDS(a:Int):Nat:=(IntKind.u64.wrap (if a<0 then-IntKind.u64.wrap a else a)).toNat
def aFP(a b:Int):Option Int:=
 if xu (aDS a) (aDS b)=0 then
  (
   if(decide (a<0)==decide (b<0))=false then(if 9223372036854775808<aDS a*aDS b%18446744073709551616 then none else some (azD (IntKind.u64.wrap (-(aDS a*aDS b%18446744073709551616:Nat)))))
  else if 9223372036854775807<aDS a*aDS b%18446744073709551616 then none else some (azD (aDS a*aDS b%18446744073709551616:Nat)))
 else none
def aEL:Int->List Int->Option Int
 |t,[]=>some t
 |t,x::l=>(aDV t x).bind λy=>aEL y l
def aEx:Int->List Int->List Int->Option Int
 |t,x::l,y::m=>(aFP x y).bind λp=>(aDV t p).bind λu=>aEx u l m
 |t,_,_=>some t
def aD0(ins:List (List Int))(m:Nat):List Int:=(List.range m).flatMap λo=>ins.map λl=>l.getD o 0
theorem aHY(ins:List (List Int))(m:Nat):aD0 ins (m+1)=aD0 ins m++ins.map λl=>l.getD m 0:=by
 unfold aD0;rw[List.range_succ,List.flatMap_append];simp
theorem aHZ(ins:List (List Int)):∀m:Nat,(aD0 ins m).length=m*ins.length:=by
 intro m;induction m with
 |zero=>simp[aD0]
 |succ m bE=>rw[aHY,fb,bE,ih,BQ]
def aEu(n:Nat):Nat->List Int->List (List Int)->List (List Int)
 |_,[],J=>J
 |k,x::l,J=>aEu n (k+1) l (J.set (k%n) (J.getD (k%n) []++[x]))
def Qy(ins:List (List Int))(i:Nat):Int:=(ins.getD i []).getD 0 0
def aFj(a b:Int):Option Int:=if b=0 then none else if b= -1 then aEK 0 a else some (azD (a.tdiv b))
def aDY(x:lG)(ins:List (List Int)):Option (List (List Int))×List Int:=
 match x.tag with
 |1=>match aEx 0 x.be (Qy ins 0::x.st)with
  |some y=>(some [[y]],(Qy ins 0::x.st).take x.st.length)
  |none=>(none,x.st)
 |2=>(some [Qy ins 0::bG ((x.outs.getD 0 0).toNat-1) 0],x.st)
 |3=>(some [[Qy ins 0]],x.st)
 |4=>(some [aD0 ins (x.ins.getD 0 0).toNat],x.st)
 |5=>(some (aEu x.outs.length 0 (ins.getD 0 []) (bG x.outs.length [])),x.st)
 |6=>((aEL 0 (ins.map λl=>l.getD 0 0)).map λy=>[[y]],x.st)
 |7=>((aFj (Qy ins 0) (Qy ins 1)).map λy=>[[y]],x.st)
 |8=>match aDV (x.st.getD 0 0) (Qy ins 0)with
  |some y=>(some [[y]],[y])
  |none=>(none,x.st)
 |9=>(some (bG x.outs.length [Qy ins 0]),x.st)
 |10=>match aDV (x.st.getD 0 0) (x.be.getD 1 0)with
  |some y=>(some [[x.st.getD 0 0]],[y])
  |none=>(none,x.st)
 |_=>(some [],x.st)
def PK(x:lG)(ins:List (List Int)):Option (List (List Int))×lG:=((aDY x ins).1,aE6 (aDY x ins).1 {x with st:=(aDY x ins).2})
def aEn:lG:=⟨0,[],[],0,[],[]⟩
def aEe:m':=⟨0,0,0,0⟩
def tl(x:kl)(J:b6):kl×Nat:=
 match J.k with
 |0=>if x.hand=[]then({x with jc:=x.jc+1,next:= -1},1)else(x,4)
 |1=>({x with er:=x.er.set J.a.toNat J.b},0)
 |2=>({x with er:=x.er.set J.a.toNat (azD (x.er.getD J.a.toNat 0-1)),next:=if 0<azD (x.er.getD J.a.toNat 0-1)then J.b-1 else x.next},0)
 |3=>if(x.lines.getD J.a.toNat aEe).bF<J.b.toNat\/64<x.hand.length+J.b.toNat then(x,4)else(DH x J.a.toNat (x.lines.getD J.a.toNat aEe) J.b.toNat,0)
 |4=>if 64<x.hand.length+J.b.toNat then(x,4)else if(x.da.getD J.a.toNat []).length<J.b.toNat then(x,2)else(S5 x J.a.toNat J.b.toNat,0)
 |5=>if(x.hand.length:Int)=x.pD.getD J.a.toNat 0 then
  match PK (x.jz.getD J.a.toNat aEn) (tu x.hand (x.jz.getD J.a.toNat aEn).ins)with
  |(some outs,b)=>(Km x J.a.toNat b outs,0)
  |(none,b)=>({x with jz:=x.jz.set J.a.toNat b},3)
  else(x,4)
 |6=>if x.hand.length<J.b.toNat\/(x.lines.getD J.a.toNat aEe).size<(x.lines.getD J.a.toNat aEe).bF+J.b.toNat then(x,4)else(KZ x J.a.toNat (x.lines.getD J.a.toNat aEe) J.b.toNat,0)
 |_=>if x.hand.length<J.b.toNat then(x,4)else(T7 x J.a.toNat J.b.toNat,0)
def aEF:b6:=⟨0,0,0⟩
def Js(x:kl):kl×Nat:=
 let J:=x.ops.getD x.next.toNat aEF
 let r:=tl x J
 if r.2=0\/r.2=1 then({r.1 with next:=r.1.next+1},r.2)
 else if r.2=2 then r
 else({r.1 with zB:=true,A2:=x.next,IH:=J.k,II:=if J.k=3\/J.k=6 then J.a else-1,IE:=r.2},r.2)
def runM:Nat->kl->Int->Option (kl×Nat)
 |0,_,_=>none
 |f+1,x,to=>if x.jc<to then(if(Js x).2=0\/(Js x).2=1 then runM f (Js x).1 to else some (Js x))else some (x,1)
def aFm:Option Int->ao
 |some z=>.tuple #[R z,.bool true]
 |none=>.tuple #[R 0,.bool false]
theorem aFu(a b:Int)(h:I):Fn aH 247 #[R a,R b] h λv U=>v=aFm (aDV a b)/\U=h:=by
 refine b5 aJi rfl ?_;refine aW (λaM=>?_) (λaM=>?_);refine .wrap ?_;refine aW (λaD=>?_) (λaD=>?_);exact .done ⟨by rw[aDV,aX (.inl ⟨aM,aD⟩)];rfl,rfl⟩;refine aW (λbj=>by omega) (λbj=>?_);refine .wrap ?_;exact .done ⟨by rw[aDV,aE (by rintro(q|q);exact aD q.2;omega)];rfl,rfl⟩;refine aW (λbj=>?_) (λbj=>?_);refine .wrap ?_;refine aW (λbT=>?_) (λbT=>?_);exact .done ⟨by rw[aDV,aX (.inr ⟨bj,bT⟩)];rfl,rfl⟩;refine .wrap ?_;exact .done ⟨by rw[aDV,aE (by rintro(q|q);omega;exact bT q.2)];rfl,rfl⟩;refine .wrap ?_;exact .done ⟨by rw[aDV,aE (by rintro(q|q)<;>omega)];rfl,rfl⟩
theorem aKF(a b:Int)(h:I):Fn aH 256 #[R a,R b] h λv U=>v=aFm (aEK a b)/\U=h:=by
 refine b5 aJo rfl ?_;refine aW (λaM=>?_) (λaM=>?_);refine .wrap ?_;refine aW (λaD=>?_) (λaD=>?_);exact .done ⟨by rw[aEK,aX (.inl ⟨aM,aD⟩)];rfl,rfl⟩;refine aW (λbj=>by omega) (λbj=>?_);refine .wrap ?_;exact .done ⟨by rw[aEK,aE (by rintro(q|q);exact aD q.2;omega)];rfl,rfl⟩;refine aW (λbj=>?_) (λbj=>?_);refine .wrap ?_;refine aW (λbT=>?_) (λbT=>?_);exact .done ⟨by rw[aEK,aX (.inr ⟨bj,bT⟩)];rfl,rfl⟩;refine .wrap ?_;exact .done ⟨by rw[aEK,aE (by rintro(q|q);omega;exact bT q.2)];rfl,rfl⟩;refine .wrap ?_;exact .done ⟨by rw[aEK,aE (by rintro(q|q)<;>omega)];rfl,rfl⟩
theorem aKP(z:Int):((IntKind.u64.wrap z).toNat:Int)=IntKind.u64.wrap z:=by rw[JG];omega
theorem aG0{a:Operand}{n:Int}{w:World}:vC aH (.unOp .neg t a) [.int .u64 n] w (.int .u64 (IntKind.u64.wrap (-n))) w:=by
 intro kF q aq ah;simp[Op.operands]at ah;simp[execOp,aq,ah,Op.unary,Op.intArith]
theorem aHM(a:Int)(h:I):Fn aH 150 #[R a] h λv U=>v=dI (aDS a)/\U=h:=by
 have e:dI (aDS a)= .int .u64 (IntKind.u64.wrap (if a<0 then-IntKind.u64.wrap a else a)):=by
  show Value.int .u64 ((aDS a:Nat):Int)=_;rw[aDS,aKP]
 rw[e];refine b5 ars rfl ?_;refine aW (λq=>?_) (λq=>?_);refine .wrap ?_;refine .done (.mk _ (λw _=>aG0) ?_);exact .done ⟨by rw[aX q];rfl,rfl⟩;refine .wrap ?_;exact .done ⟨by rw[aE q];rfl,rfl⟩
theorem aHQ(a:Int):aDS a<18446744073709551616:=by unfold aDS;rw[JG];omega
theorem aJ8(a b:Int)(h:I):Fn aH 191 #[R a,R b] h λv U=>v=aFm (aFP a b)/\U=h:=by
 have abZ:=aca (aDS a) (aDS b) h (aHQ a) (aHQ b);unfold aFP;generalize xu (aDS a) (aDS b)=d at abZ⊢;obtain⟨c,aw⟩:∃c,c=aDS a*aDS b%18446744073709551616:=⟨_,rfl⟩;rw[<-aw]at abZ⊢;refine b5 arM rfl ?_;refine .done (.mk _ (aHM a h) ?_);rintro _ _ ⟨rfl,rfl⟩;refine .done (.mk _ (aHM b _) ?_);rintro _ _ ⟨rfl,rfl⟩;refine .done (.mk _ abZ ?_);rintro _ _ ⟨rfl,rfl⟩;refine aW (λq=>?_) (λq=>?_);exact .done ⟨by rw[aE (by omega)];rfl,rfl⟩;rw[aX (by omega)];refine uK (λaM=>?_) (λaM=>?_);have FY:(decide (a<0)==decide (b<0))=false:=by
  cases ad:(decide (a<0)==decide (b<0))with
  |false=>rfl
  |true=>rw[ad]at aM;cases aM
 rw[aX FY];refine aW (λaD=>?_) (λaD=>?_);exact .done ⟨by rw[aX (by omega)];rfl,rfl⟩;refine .done (.mk _ (λw _=>aG0) ?_);refine .wrap ?_;exact .done ⟨by rw[aE (by omega)];rfl,rfl⟩;have FY:¬(decide (a<0)==decide (b<0))=false:=λad=>by rw[ad]at aM;cases aM
 rw[aE FY];refine aW (λaD=>?_) (λaD=>?_);exact .done ⟨by rw[aX (by omega)];rfl,rfl⟩;refine .wrap ?_;exact .done ⟨by rw[aE (by omega)];rfl,rfl⟩
theorem aKG(A:Option ar)(n c:Nat)(l:List Int)(h:I)(je:bg h 1 A n (gZ l))(aC:n<=100000):Fn aH 254 #[.slice A n c] h λv U=>v=aFm (aEL 0 l)/\U=h:=by
 have al:l.length=n:=by simpa using je.len
 refine b5 aJm rfl ?_;refine .mk (Nat×Int) [4,8,9,10] (λ(o,t)=>[.v (R t),.v (.slice A n c),.v (R n),.v (R o)]) (λ_=>[]) (λ(o,t) U=>U=h/\o<=n/\aEL t (l.drop o)=aEL 0 l) (λ(o,_)=>n-o) (0,0) (λ_=>rfl) ⟨rfl,cO _,rfl⟩ rfl rfl ?_;rintro⟨o,t⟩ e U ⟨rfl,ae,aj⟩;refine aW (λq=>?_) (λq=>?_);have E6:o<l.length:=by omega
 obtain⟨g,ak⟩:=je.cc (by omega);refine .m g ak ?_;refine .hp (R l[o]) (by rw[bq];exact je.one ak (i:=o) (iM E6) rfl) ?_;have cx:=aFu t l[o] U;rw[o6 E6,aEL]at aj;cases ad:aDV t l[o]with
 |none=>
  rw[ad]at cx aj;refine .done (.mk _ cx ?_);rintro _ _ ⟨rfl,rfl⟩;exact .done ⟨by rw[<-aj];rfl,rfl⟩
 |some y=>
  rw[ad]at cx aj;refine .done (.mk _ cx ?_);rintro _ _ ⟨rfl,rfl⟩;refine .aLS ?_;exact⟨(o+1,y),rfl,rfl,⟨rfl,by omega,aj⟩,by show n- (o+1)<n-o;omega⟩
 have e:o=l.length:=by omega
 rw[tg (by omega)]at aj;exact .done ⟨by rw[<-aj];rfl,rfl⟩
theorem aIF(A B:Option ar)(n c c2:Nat)(l m:List Int)(h:I)(aGD:bg h 1 A n (gZ l))(je:bg h 1 B n (gZ m))(aC:n<=100000):Fn aH 246 #[.slice A n c,.slice B n c2] h λv U=>v=aFm (aEx 0 l m)/\U=h:=by
 have al:l.length=n:=by simpa using aGD.len
 have hm:m.length=n:=by simpa using je.len
 refine b5 aJh rfl ?_;refine aW (λq=>absurd rfl q) (λ_=>?_);refine .mk (Nat×Int) [1,6,16,17,18] (λ(o,t)=>[.v (.slice B n c2),.v (R t),.v (.slice A n c),.v (R n),.v (R o)]) (λ_=>[]) (λ(o,t) U=>U=h/\o<=n/\aEx t (l.drop o) (m.drop o)=aEx 0 l m) (λ(o,_)=>n-o) (0,0) (λ_=>rfl) ⟨rfl,cO _,rfl⟩ rfl rfl ?_;rintro⟨o,t⟩ e U ⟨rfl,ae,aj⟩;refine aW (λq=>?_) (λq=>?_);have E6:o<l.length:=by omega
 have Ls:o<m.length:=by omega
 obtain⟨g,ak⟩:=aGD.cc (by omega);obtain⟨g2,gV⟩:=je.cc (by omega);refine .m g ak ?_;refine .hp (R l[o]) (by rw[bq];exact aGD.one ak (i:=o) (iM E6) rfl) ?_;refine .m g2 gV ?_;refine .hp (R m[o]) (by rw[bq];exact je.one gV (i:=o) (iM Ls) rfl) ?_;have sf:=aJ8 l[o] m[o] U;rw[o6 E6,o6 Ls,aEx]at aj;cases ad:aFP l[o] m[o]with
 |none=>
  rw[ad]at sf aj;refine .done (.mk _ sf ?_);rintro _ _ ⟨rfl,rfl⟩;exact .done ⟨by rw[<-aj];rfl,rfl⟩
 |some p=>
  rw[ad]at sf aj;rw[Option.bind_some]at aj;refine .done (.mk _ sf ?_);rintro _ an ⟨rfl,rfl⟩;have cx:=aFu t p an;cases aQ:aDV t p with
  |none=>
   rw[aQ]at cx aj;refine .done (.mk _ cx ?_);rintro _ _ ⟨rfl,rfl⟩;exact .done ⟨by rw[<-aj];rfl,rfl⟩
  |some y=>
   rw[aQ]at cx aj;refine .done (.mk _ cx ?_);rintro _ _ ⟨rfl,rfl⟩;refine .aLS ?_;exact⟨(o+1,y),rfl,rfl,⟨rfl,by omega,aj⟩,by show n- (o+1)<n-o;omega⟩
 rw[tg (by omega)]at aj;exact .done ⟨by rw[<-aj];rfl,rfl⟩
theorem aF4{U:I}(dh:ln B h cj cv x)(le:B.le h)(Fw:I.xJ cv h U){eF ct:Option ar}{cE bO:Nat}{X:List ao}(e2:bg B 1 eF x.ins.length (gZ x.ins))(to:bg B 1 ct x.outs.length (gZ x.outs))(hk:U cv=some (.cells (.slice eF x.ins.length cE:: .slice ct x.outs.length bO::R x.n::X).toArray (B6 x.tag) (0,0))){aHN:List Int}(hS:z6 (B.grow h U) x.tag x.be aHN X):ln (B.grow h U) U cj cv {x with st:=aHN}:=by
 have rx:=alK le dh.zg Fw;exact⟨rx _ _ dh.box,xm dh.zg dh.some_,eF,cE,ct,bO,X,hk,e2.mono rx,to.mono rx,hS⟩
theorem aGv(h U:I)(cv:Nat)(J:Obj):od (h.put cv J) U cv=od h U cv:=by
 funext o;unfold od I.on;by_cases q:o=cv;rw[aE (λp=>p.2 q),aE (λp=>p.2 q)];simp only[I.cf _ _ q];by_cases p:h o=none/\o≠cv;rw[aX p,aX p];rw[aE p,aE p]
theorem aE5(dh:ln B h cj cv x)(le:B.le h){ab:I}(c9:h.le ab){bL cy:Nat}{nK eW:Obj}(eS:ab bL=none)(fC:(ab.put bL nK) cy=none)(u:ao):OF B h cj cv x none (.tuple #[u,.bool false]) ((ab.put bL nK).put cy eW):=by
 have dc:=I.le_trans c9 (I.le_trans (I.du eS) (I.du (J:=eW) fC));exact⟨dc.xJ,dh.pure le dc,_,rfl⟩
theorem aGq{U:I}(le:(h.put cv J).le U):I.xJ cv h U:=λo x ae ad=>le _ _ (by rw[I.cf _ _ ae];exact ad)
theorem RowsIn.get{cm:Option ar}{D:List dO}(gf:RowsIn h cm D){i:Nat}(ag:i<D.length):∃g,cm=some g/\h.cell? (g.add (i*1))=some D[i].val:=by
 obtain⟨g,ak⟩:=gf.dG.cc (by omega);exact⟨g,ak,gf.dG.one ak (i:=i) (r:=[D[i].val]) (by unfold Jk;rw[dV,bZ ag];rfl) rfl⟩
theorem dO.get{d:dO}(ok:d.ok h)(ae:o<d.l.length):∃g,d.A=some g/\h.cell? (g.add (o*1))=some (R d.l[o]):=by
 obtain⟨g,ak⟩:=bg.cc ok (by omega);exact⟨g,ak,bg.one ok ak (i:=o) (iM ae) rfl⟩
variable {D:List dO}{d:dO}
theorem RowsIn.first{cm:Option ar}(gf:RowsIn h cm D){i:Nat}(aB:(D.map dO.l)[i]?=some (z::l)):i<D.length/\∃g A n c g2,cm=some g/\h.cell? (g.add (i*1))=some (.slice A n c)/\A=some g2/\0<n/\h.cell? (g2.add (0*1))=some (R z):=by
 have ag:i<D.length:=by
  refine zM λq=>?_;rw[List.getElem?_eq_none (by simpa using q)]at aB;cases aB
 rw[dV,bZ ag,Option.map_some]at aB;have aB:=oB aB;obtain⟨g,ak,c⟩:=gf.get ag;have aY:0<D[i].l.length:=by rw[aB];simp
 obtain⟨g2,gV,c2⟩:=dO.get (gf.row _ (cS ag)) aY;refine⟨ag,g,D[i].A,D[i].l.length,D[i].c,g2,ak,c,gV,aY,?_⟩;rw[c2];congr 2;rw[List.getElem_of_eq aB (by simpa using aY)];rfl
def aE0(J:Option Int):Option (List (List Int)):=J.map λy=>[[y]]
theorem aKo(dh:ln B h cj cv x)(le:B.le h)(cm:Option ar)(cE:Nat)(D:List dO)(n:Nat)(hs:D.length=n)(gf:RowsIn h cm D){a b:Int}{c9:List Int}(ai:(D.map dO.l)[0]?=some (a::l))(h1:(D.map dO.l)[1]?=some (b::c9)):Fn aH 255 #[r,.slice cm n cE] h (OF B h cj cv x (aE0 (aFj a b))):=by
 obtain⟨i0,g,A,k,c,g2,ak,c1,aO,hk,c2⟩:=gf.first ai;obtain⟨i1,b7,bA,e1,bu,aIM,dT,aIu,Yw,br,aF5⟩:=gf.first h1;refine b5 aJn rfl ?_;refine .mk g ak (by decide) (by omega) ?_;refine .hp (.slice A k c) c1 ?_;refine .mk g2 aO (by decide) (by omega) ?_;refine .hp (R a) c2 ?_;refine .mk b7 dT (by decide) (by omega) ?_;refine .hp (.slice bA e1 bu) aIu ?_;refine .mk aIM Yw (by decide) (by omega) ?_;refine .hp (R b) aF5 ?_;refine aW (λq=>?_) (λq=>?_);refine .done ?_;rw[aFj,aX q];exact⟨(I.le_refl _).xJ,dh.pure le (I.le_refl _),_,rfl⟩;refine aW (λaD=>?_) (λaD=>?_);rw[aFj,aE q,aX aD];have cs:=aKF 0 a h;cases ad:aEK 0 a with
 |none=>
  rw[ad]at cs;refine .done (.mk _ cs ?_);rintro _ _ ⟨rfl,rfl⟩;refine .mk λbL eS=>?_;refine .mk λcy fC=>?_;exact .done (aE5 dh le (I.le_refl _) eS fC _)
 |some y=>
  rw[ad]at cs;refine .done (.mk _ cs ?_);rintro _ _ ⟨rfl,rfl⟩;refine .mk λbL eS=>?_;refine .mk λcy fC=>?_;obtain⟨aM,aD⟩:=au7 (l:=[y]) (c:=1) dh.some_ eS [R y] rfl fC (I.le_refl _);exact .done ⟨aM.xJ,dh.pure le aM,_,_,_,rfl,rfl,aD⟩
 rw[aFj,aE q,aE aD];refine .mk q (.wrap ?_);refine .mk λbL eS=>?_;refine .mk λcy fC=>?_;obtain⟨aM,aD⟩:=au7 (l:=[azD (a.tdiv b)]) (c:=1) dh.some_ eS [R (azD (a.tdiv b))] rfl fC (I.le_refl _);exact .done ⟨aM.xJ,dh.pure le aM,_,_,_,rfl,rfl,aD⟩
theorem aIG{i:ao}(dh:ln B h cj cv x)(le:B.le h):Fn aH 261 #[r,i] h (OF B h cj cv x (some [])):=by
 refine b5 aJs rfl ?_;exact .done ⟨(I.le_refl _).xJ,dh.pure le (I.le_refl _),none,0,[],rfl,rfl,bg.nil _ _ _,nofun⟩
theorem aKH(dh:ln B h cj cv x)(le:B.le h)(av:x.tag=8)(cm:Option ar)(cE:Nat)(D:List dO)(n:Nat)(hs:D.length=n)(gf:RowsIn h cm D)(ai:(D.map dO.l)[0]?=some (z::l)):Fn aH 258 #[b0 cv,.slice cm n cE] h (OF B h cj cv {x with st:=match aDV (x.st.getD 0 0) z with|some y=>[y]|none=>x.st} (aE0 (aDV (x.st.getD 0 0) z))):=by
 obtain⟨i0,g,A,k,c,g2,ak,c1,aO,hk,c2⟩:=gf.first ai;obtain⟨eF,zd,ct,bO,X,E7,e2,to,hS⟩:=dh.ex;have aEt:=hS;unfold z6 at aEt;rw[aE (by omega),aX av]at aEt;obtain⟨s,aj,rfl⟩:=aEt;have ds:x.st.getD 0 0=s:=by rw[aj];rfl
 rw[ds];have cx:=aFu s z h;refine b5 aJp rfl ?_;refine aK λgS dy gY=>?_;refine dy _ _ _ ?_;refine aK λgO dx eG=>?_;refine .hp (R s) (bN E7 rfl) ?_;refine .mk g ak (by decide) (by omega) ?_;refine .hp (.slice A k c) c1 ?_;refine .mk g2 aO (by decide) (by omega) ?_;refine .hp (R z) c2 ?_;cases ad:aDV s z with
 |none=>
  rw[ad]at cx;refine .mk _ cx (λv U q=>by rw[q.2];exact I.le_refl _) ?_;rintro _ _ ⟨rfl,rfl⟩;refine dx _ _ _ ?_;refine .mk λbL eS=>?_;refine .mk λcy fC=>?_;refine .done ?_;rw[ad];exact aE5 dh le (I.le_refl _) eS fC _
 |some y=>
  rw[ad]at cx;refine .mk _ cx (λv U q=>by rw[q.2];exact I.le_refl _) ?_;rintro _ _ ⟨rfl,rfl⟩;refine dx _ _ _ ?_;refine .hp cv 3 (B6 x.tag) (.slice eF x.ins.length zd:: .slice ct x.outs.length bO::R x.n::[R s]) (.slice eF x.ins.length zd:: .slice ct x.outs.length bO::R x.n::[R y]) rfl E7 (by rw[ib _ _ _ (by simp)];rfl) ?_;refine .mk λbL eS=>?_;refine .mk λcy fC=>?_;obtain⟨aM,aD⟩:=au7 (cv:=cv) (l:=[y]) (c:=1) (by rw[I.bP];nofun) eS [R y] rfl fC (I.le_refl _);rw[aGv]at aD;have Fw:=aGq aM;refine .done ?_;rw[ad];refine⟨Fw,aF4 dh le Fw e2 to (aM _ _ (I.bP _ _ _)) ?_,_,_,_,rfl,rfl,aD⟩;unfold z6;rw[aE (by omega),aX av];exact⟨y,rfl,rfl⟩
theorem aKK{i:ao}(dh:ln B h cj cv x)(le:B.le h)(av:x.tag=10):Fn aH 260 #[b0 cv,i] h (OF B h cj cv {x with st:=match aDV (x.st.getD 0 0) (x.be.getD 1 0)with|some y=>[y]|none=>x.st} ((aDV (x.st.getD 0 0) (x.be.getD 1 0)).map λ_=>[[x.st.getD 0 0]])):=by
 obtain⟨eF,zd,ct,bO,X,E7,e2,to,hS⟩:=dh.ex;have aEt:=hS;unfold z6 at aEt;rw[aE (by omega),aE (by omega),aX av]at aEt;obtain⟨s,aj,rfl⟩:=aEt;have ds:x.st.getD 0 0=s:=by rw[aj];rfl
 rw[ds];obtain⟨b,af⟩:∃b,b=x.be.getD 1 0:=⟨_,rfl⟩;rw[<-af]at E7⊢;have cx:=aFu s b h;refine b5 aJr rfl ?_;refine aK λgS dy gY=>?_;refine dy _ _ _ ?_;refine aK λgO dx eG=>?_;refine .hp (R s) (bN E7 rfl) ?_;refine .hp (R b) (bN E7 rfl) ?_;cases ad:aDV s b with
 |none=>
  rw[ad]at cx;refine .mk _ cx (λv U q=>by rw[q.2];exact I.le_refl _) ?_;rintro _ _ ⟨rfl,rfl⟩;refine dx _ _ _ ?_;refine .hp (R s) (bN E7 rfl) ?_;refine .mk λbL eS=>?_;refine .mk λcy fC=>?_;refine .done ?_;rw[ad];exact aE5 dh le (I.le_refl _) eS fC _
 |some y=>
  rw[ad]at cx;refine .mk _ cx (λv U q=>by rw[q.2];exact I.le_refl _) ?_;rintro _ _ ⟨rfl,rfl⟩;refine dx _ _ _ ?_;refine .hp (R s) (bN E7 rfl) ?_;refine .hp cv 3 (B6 x.tag) (.slice eF x.ins.length zd:: .slice ct x.outs.length bO::R x.n::[R s,R b]) (.slice eF x.ins.length zd:: .slice ct x.outs.length bO::R x.n::[R y,R b]) rfl E7 (by rw[ib _ _ _ (by simp)];rfl) ?_;refine .mk λbL eS=>?_;refine .mk λcy fC=>?_;obtain⟨aM,aD⟩:=au7 (cv:=cv) (l:=[s]) (c:=1) (by rw[I.bP];nofun) eS [R s] rfl fC (I.le_refl _);rw[aGv]at aD;have Fw:=aGq aM;refine .done ?_;rw[ad];refine⟨Fw,aF4 dh le Fw e2 to (aM _ _ (I.bP _ _ _)) ?_,_,_,_,rfl,rfl,aD⟩;unfold z6;rw[aE (by omega),aE (by omega),aX av];exact⟨y,rfl,by rw[<-af]⟩
theorem aIn(dh:ln B h cj cv x)(le:B.le h)(cm:Option ar)(cE:Nat)(D:List dO)(n:Nat)(hs:D.length=n)(aC:n<=1000)(gf:RowsIn h cm D)(aY:∀d∈D,0<d.l.length):Fn aH 253 #[r,.slice cm n cE] h (OF B h cj cv x (aE0 (aEL 0 ((D.map dO.l).map λl=>l.getD 0 0)))):=by
 obtain⟨a',rC⟩:∃a',a'=(D.map dO.l).map λl=>l.getD 0 0:=⟨_,rfl⟩;rw[<-rC];have uU:a'.length=n:=by rw[rC];simp[hs]
 refine b5 aJl rfl ?_;refine aK λgS dy gY=>?_;refine dy _ _ _ ?_;refine aK λgO dx eG=>?_;refine dx _ _ _ ?_;refine aK λgu df fK=>?_;refine aK λgk ed eH=>?_;refine ed _ _ _ ?_;refine fG λhA dY hL=>?_;refine .lj (.abs 3 1 none 0 0 [] ⟨rfl,.inl ⟨rfl,rfl,rfl⟩⟩ (.done ?_));show kH _ _ _ _ h;refine .mk (Nat×Option ar×Nat) [6,11,12,13] (λ(k,A,c)=>[.v (.slice A k c),.v (.slice cm n cE),.v (R n),.v (R k)]) (λ(k,A,c)=>[.row 3 1 A k c ((a'.take k).map R)]) (λ(k,_,_) U=>U=h/\k<=n) (λ(k,_,_)=>n-k) (0,none,0) (λ_=>rfl) ⟨rfl,cO _⟩ rfl rfl ?_;rintro⟨k,A,c⟩ e _ ⟨rfl,hk⟩;refine aK λhc eT hi=>?_;refine eT _ _ _ ?_;refine aK λkb fE i'=>?_;refine aW (λq=>?_) (λq=>?_);have aER:k<D.length:=by omega
 obtain⟨g,ak,yB⟩:=gf.get aER;obtain⟨g2,gV,c2⟩:=dO.get (gf.row _ (cS aER)) (aY _ (cS aER));have aHc:a'.take (k+1)=a'.take k++[D[k].l[0]'(aY _ (cS aER))]:=by
  have i9:k<a'.length:=by omega
  rw[kh i9];congr 2;subst rC;rw[aE3,aE3,cN,bZ (aY _ (cS aER))];rfl
 have Ig:=aY _ (cS aER);generalize D[k].l[0]'(aY _ (cS aER))=z at c2 aHc;generalize D[k]=d at yB gV Ig;refine fE _ _ _ ?_;refine aK λkc gg j1=>?_;refine fG λko g' ja=>?_;refine aK λlq gX kR=>?_;refine .m g ak ?_;refine .hp (.slice d.A d.l.length d.c) (by rw[bq];exact yB) ?_;refine gX _ _ _ ?_;refine .mk g2 gV (by decide) (by omega) ?_;refine .hp (R z) c2 ?_;refine .done (.cR 0 _ [R z] rfl rfl (by intro u hu;rw[fx]at hu;subst hu;rfl) (by unfold c';omega) (by omega) λbA bu _=>?_);refine ja _ _ _ _ nofun (gg _ _ _ ?_);refine .aLS ?_;refine⟨(k+1,bA,bu),rfl,?_,⟨rfl,by omega⟩,by show n- (k+1)<n-k;omega⟩;show _=[LE.row 3 1 bA (k+1) bu ((a'.take (k+1)).map R)];rw[aHc,fm];rfl;refine i' _ _ _ _ nofun (dY _ _ _ (df _ _ _ ?_));obtain rfl:k=n:=by omega
 refine .bV 0 3 1 A k c _ rfl λab cn dU f2=>.done ?_;rw[k4 (by omega)]at dU;have cs:=aKG A k c a' ab dU.one (by omega);cases ad:aEL 0 a' with
 |none=>
  rw[ad]at cs;refine .mk _ cs ?_;rintro _ _ ⟨rfl,rfl⟩;refine .mk λbL eS=>?_;refine .mk λcy fC=>?_;exact .done (aE5 dh le cn eS fC _)
 |some y=>
  rw[ad]at cs;refine .mk _ cs ?_;rintro _ _ ⟨rfl,rfl⟩;refine .mk λbL eS=>?_;refine .mk λcy fC=>?_;have i9:=(dh.up cn).some_;obtain⟨aM,aD⟩:=au7 (l:=[y]) (c:=1) i9 eS [R y] rfl fC (I.le_refl _);have dc:=I.le_trans cn aM;exact .done ⟨dc.xJ,dh.pure le dc,_,_,_,rfl,rfl,aD.mono (auD cn λo J _ ae=>ae)⟩
theorem aKW(ins:List (List Int))(o i:Nat)(ag:i<ins.length):(ins.take (i+1)).map (λl=>l.getD o 0)=(ins.take i).map (λl=>l.getD o 0)++[ins[i].getD o 0]:=by
 rw[kh ag,fm];rfl
theorem aKX(dh:ln B h cj cv x)(le:B.le h)(n m:Nat)(ag:x.ins=bG n (m:Int))(aL:x.outs=[((n*m:Nat):Int)])(bU:0<n)(aC:n<=16)(H3:n*m<=64)(cm:Option ar)(cE:Nat)(D:List dO)(hs:D.length=n)(gf:RowsIn h cm D)(aY:∀d∈D,d.l.length=m):Fn aH 251 #[b0 cv,.slice cm n cE] h (OF B h cj cv x (some [aD0 (D.map dO.l) m])):=by
 have aD7:=dh;obtain⟨eF,zd,ct,bO,X,hk,e2,to,_⟩:=dh.ex;have aLA:m<=64:=by
  have:1*m<=n*m:=ns (by omega) (dd _);omega
 have vd:x.ins.length=n:=by rw[ag];simp
 rw[aL]at to hk;rw[vd]at hk e2;obtain⟨g0,Ll⟩:=to.cc (by simp);obtain⟨g1,kt⟩:=e2.cc (by omega);have ci:h.cell? (g1.add (0*1))=some (R m):=(e2.mono le).one kt (i:=0) (by rw[ag];unfold gZ;rw[dV,GG,aX bU];rfl) rfl;obtain⟨a7,iC⟩:∃a7,a7=D.map dO.l:=⟨_,rfl⟩;have dl:a7.length=n:=by rw[iC];simp[hs]
 rw[<-iC];refine b5 aJj rfl ?_;refine aK λgS dy gY=>?_;refine dy _ _ _ ?_;refine aK λgO dx eG=>?_;refine .hp (.slice ct 1 bO) (bN hk rfl) ?_;refine .mk g0 Ll (by decide) (by decide) ?_;refine .hp (R (n*m:Nat)) ((to.mono le).one Ll (i:=0) rfl rfl) ?_;refine .room (n*m) rfl rfl (by omega) (by omega) λHv=>?_;refine dx _ _ _ ?_;refine aK λgu df fK=>?_;refine aK λgk ed eH=>?_;refine .hp (.slice eF n zd) (bN hk rfl) ?_;refine .mk g1 kt (by decide) (by omega) ?_;refine .hp (R m) ci ?_;refine ed _ _ _ ?_;refine fG λhA dY hL=>?_;refine .mk (Nat×Option ar×Nat) [1,6,23,24] (λ(o,A,c)=>[.v (.slice cm n cE),.v (.slice A (n*o) c),.v (R m),.v (R o)]) (λ(o,A,c)=>[.row 3 1 A (n*o) c ((aD0 a7 o).map R)]) (λ(o,_,_) U=>U=h/\o<=m) (λ(o,_,_)=>m-o) (0,some Hv,n*m) (λ_=>rfl) ⟨rfl,cO _⟩ rfl rfl ?_;rintro⟨o,A,c⟩ e ab ⟨rfl,ae⟩;refine aK λhc eT hi=>?_;refine eT _ _ _ ?_;refine aK λkb fE i'=>?_;have aLz:n*o<=64:=by
  have:n*o<=n*m:=Nat.mul_le_mul_left _ ae;omega
 refine aW (λq=>?_) (λq=>?_);refine fE _ _ _ ?_;refine aK λkc gg j1=>?_;refine fG λko g' ja=>?_;refine aK λlq gX kR=>?_;refine gX _ _ _ ?_;refine aK λsd lC sK=>?_;refine lC _ _ _ ?_;refine fG λqx lD pr=>?_;refine .mk (Nat×Option ar×Nat) [1,6,7,23,24,27,28,29] (λ(i,A,c)=>[.v (.slice cm n cE),.v (.slice A (n*o+i) c),.v (R o),.v (R m),.v (R o),.v (.slice cm n cE),.v (R n),.v (R i)]) (λ(i,A,c)=>[.row 3 1 A (n*o+i) c ((aD0 a7 o++(a7.take i).map λl=>l.getD o 0).map R)])
  (λ(i,_,_) U=>U=ab/\i<=n) (λ(i,_,_)=>n-i) (0,A,c) (λ_=>rfl) ⟨rfl,cO _⟩ rfl (by
   show[LE.row 3 1 A (n*o) c ((aD0 a7 o).map R)]=[LE.row 3 1 A (n*o+0) c ((aD0 a7 o++(a7.take 0).map λl=>l.getD o 0).map R)];rw[aFZ,zU,zR];rfl) ?_
 rintro⟨i,A,c⟩ e an ⟨rfl,ag⟩;refine aK λut nJ xG=>?_;refine nJ _ _ _ ?_;refine aK λBU rL Fm=>?_;refine aW (λaD=>?_) (λaD=>?_);have aEE:i<D.length:=by omega
 have AG:i<a7.length:=by omega
 obtain⟨g,ak,yB⟩:=gf.get aEE;have eb:=aY _ (cS aEE);have E6:o<D[i].l.length:=by omega
 obtain⟨g2,gV,c2⟩:=dO.get (gf.row _ (cS aEE)) E6;have aG3:a7[i].getD o 0=D[i].l[o]:=by
  subst iC;rw[aE3,cN,bZ E6];rfl
 have hS:=aKW a7 o i AG;rw[aG3]at hS;clear aG3;generalize D[i].l[o]=z at c2 hS;generalize D[i]=d at yB gV eb;refine rL _ _ _ ?_;refine aK λD7 AZ C'=>?_;refine fG λOz Iq aa8=>?_;refine aK λU7 Ir Iu=>?_;refine Ir _ _ _ ?_;refine .m g ak ?_;refine .hp (.slice d.A d.l.length d.c) (by rw[bq];exact yB) ?_;refine .m g2 gV ?_;refine .hp (R z) (by rw[bq];exact c2) ?_;refine .done (.cR 0 _ [R z] rfl rfl (by intro u hu;rw[fx]at hu;subst hu;rfl) (by unfold c';omega) (by omega) λbA bu _=>?_);refine aa8 _ _ _ _ nofun (AZ _ _ _ ?_);refine .aLS ?_;refine⟨(i+1,bA,bu),rfl,?_,⟨rfl,by omega⟩,by show n- (i+1)<n-i;omega⟩;show _=[LE.row 3 1 bA (n*o+(i+1)) bu ((aD0 a7 o++(a7.take (i+1)).map λl=>l.getD o 0).map R)];have aJ:(aD0 a7 o++(a7.take (i+1)).map λl=>l.getD o 0).map R=(aD0 a7 o++(a7.take i).map λl=>l.getD o 0).map R++[R z]:=by rw[hS,<-mb,fm];rfl
 rw[aJ];rfl;obtain rfl:i=n:=by omega
 refine Fm _ _ _ _ nofun (lD _ _ _ ?_);refine ja _ _ _ _ nofun (gg _ _ _ ?_);refine .aLS ?_;refine⟨(o+1,A,c),rfl,?_,⟨rfl,by omega⟩,by show m- (o+1)<m-o;omega⟩;show _=[LE.row 3 1 A (i*(o+1)) c ((aD0 a7 (o+1)).map R)];have aI:(aD0 a7 o++(a7.take i).map λl=>l.getD o 0)=aD0 a7 (o+1):=by rw[aHY,k4 (by omega)]
 rw[<-aI];rfl;obtain rfl:o=m:=by omega
 refine i' _ _ _ _ nofun (dY _ _ _ (df _ _ _ ?_));refine .mk λeP k8=>?_;refine .bV 0 3 1 A (n*o) c _ rfl λan dZ gi f3=>.done ?_;obtain⟨aM,aD⟩:=au8 (l:=aD0 a7 o) aD7.some_ k8 dZ (by rw[aHZ,dl,aEH]) gi f3;refine⟨aM.xJ,aD7.pure le aM,some ⟨eP,0,none⟩,1,[⟨A,c,aD0 a7 o⟩],?_,rfl,aD⟩;rfl
theorem aHL{an:I}(hk:h cv≠none)(r:bz an 27 1 A D.length c (D.map dO.val))(f:∀g,A=some g->h g.block=none)(hs:∀d∈D,bz an 3 1 d.A d.l.length d.c (d.l.map R)/\∀g,d.A=some g->h g.block=none):RowsIn (od h an cv) A D:=by
 have on:∀{bs hE bu:Nat}{bA:Option ar}{xs:List ao},bz an bs 1 bA hE bu xs->(∀g,bA=some g->h g.block=none)->bz (od h an cv) bs 1 bA hE bu xs:=λr f=>bz.on (S:=λo=>h o=none/\o≠cv) r λg ak=>⟨f g ak,λe=>hk (by grind)⟩;refine⟨?_,λd aB=>(on (hs d aB).1 (hs d aB).2).one⟩;have:=(on r f).dr;rw[lo]at this;exact this
theorem aJ5(af:h b=some (.cells (l.map R).toArray 3 (0,0)))(hm:l.length<=1000):bz h 3 1 (some ⟨b,0,none⟩) l.length l.length (l.map R):=⟨by simp,.inr ⟨b,_,rfl,af,dd _,by unfold c';omega,by simp,by rw[ew];exact k4 (by simp)⟩⟩
theorem aII{α:Type}(a:List α)(z x:α)(n:Nat)(h:a.length<n):(a++bG (n-a.length) z).set a.length x=(a++[x])++bG (n- (a.length+1)) z:=by
 rw[List.set_append_right _ _ (dd _),yq,show n-a.length=(n- (a.length+1))+1 by omega,GO,mb];rfl
def aET(b:Nat):ao:=.slice (some ⟨b,0,none⟩) 1 1
theorem aIw(dh:ln B h cj cv x)(le:B.le h)(n:Nat)(aL:x.outs.length=n)(aC:n<=16)(cm:Option ar)(cE:Nat)(D:List dO)(k:Nat)(hs:D.length=k)(gf:RowsIn h cm D)(ai:(D.map dO.l)[0]?=some (z::l)):Fn aH 259 #[b0 cv,.slice cm k cE] h (OF B h cj cv x (some (bG n [z]))):=by
 obtain⟨i0,g,A,m,c,g2,ak,c1,aO,hm,c2⟩:=gf.first ai;have aD7:=dh;obtain⟨eF,zd,ct,bO,X,hk,e2,to,_⟩:=dh.ex;rw[aL]at hk;refine b5 aJq rfl ?_;refine aK λgS dy gY=>?_;refine dy _ _ _ ?_;refine aK λgO dx eG=>?_;refine .hp (.slice ct n bO) (bN hk rfl) ?_;refine .one n (.slice none 0 0) rfl rfl rfl rfl (by omega) (by omega) λHv=>?_;refine dx _ _ _ ?_;refine aK λgu df fK=>?_;refine aK λgk ed eH=>?_;refine ed _ _ _ ?_;refine fG λhA dY hL=>?_;refine .mk (List Nat) [1,6,16,17] (λo'=>[.v (.slice cm k cE),.v (.slice (some Hv) n n),.v (R n),.v (R o'.length)]) (λo'=>[.row 27 1 (some Hv) n n (o'.map aET++bG (n- (o'.map aET).length) (.slice none 0 0))]) (λo' U=>h.le U/\o'.length<=n/\∀b∈o',U b=some (.cells #[R z] 3 (0,0))/\h b=none) (λo'=>n-o'.length) [] (λ_=>rfl) ⟨I.le_refl _,cO _,nofun⟩ rfl rfl ?_;rintro o' e ab ⟨cn,qN,tC⟩;refine aK λhc eT hi=>?_;refine eT _ _ _ ?_;refine aK λkb fE i'=>?_;refine aW (λq=>?_) (λq=>?_);refine fE _ _ _ ?_;refine aK λkc gg j1=>?_;refine fG λko g' ja=>?_;refine aK λlq gX kR=>?_;refine gX _ _ _ ?_;refine .mk g ak (by decide) (by omega) ?_;refine .hp (.slice A m c) (I.kL cn c1) ?_;refine .mk g2 aO (by decide) (by omega) ?_;refine .hp (R z) (I.kL cn c2) ?_;refine .m Hv rfl ?_;refine .mk λb af=>?_;refine .row 0 27 1 Hv n n _ (((o'++[b]).map aET)++bG (n- ((o'++[b]).map aET).length) (.slice none 0 0)) o'.length rfl (by simp) (by
  rw[ib _ _ _ (by grind)];have:=aII (o'.map aET) (.slice none 0 0) (aET b) n (by grind);simp only[ih]at this;simp only[fm,fb,ih,eO,zU,aId];exact ho some this) ?_
 refine ja _ _ _ _ nofun (gg _ _ _ ?_);refine .aLS ?_;refine⟨o'++[b],by rw[fb];rfl,rfl,⟨I.le_trans cn (I.du af),by grind,λeP k8=>?_⟩,by grind⟩;rcases ev.1 k8 with k8|k8;have:=tC eP k8;exact⟨I.du af _ _ this.1,this.2⟩;rw[fx.1 k8];exact⟨I.bP _ _ _,I.none_le cn af⟩;have e:o'.length=n:=by omega
 refine i' _ _ _ _ nofun (dY _ _ _ (df _ _ _ ?_));refine .bV 0 27 1 (some Hv) n n _ rfl λan dZ gi f3=>.done ?_;have ha:=I.le_trans cn dZ;rw[ih,e,yq,List.replicate_zero,zR]at gi;have ah:(o'.map λb=>(⟨some ⟨b,0,none⟩,1,[z]⟩:dO)).map dO.val=o'.map aET:=by rw[lo];rfl
 refine⟨ha.xJ,aD7.pure le ha,some Hv,n,o'.map λb=>⟨some ⟨b,0,none⟩,1,[z]⟩,by rw[ih,e];rfl,?_,aHL aD7.some_ (by rw[ah,ih,e];exact gi) (λg ak=>I.none_le cn (f3 g ak)) λd aB=>?_⟩;rw[lo,<-e];exact List.map_const' ..;obtain⟨b,af,rfl⟩:=dn.1 aB;have:=tC b af;exact⟨aJ5 (l:=[z]) (dZ _ _ this.1) (by simp),λg ak=>by injection ak with ak;subst ak;exact this.2⟩
theorem aJZ{ab:I}(le:h.le ab)(aO:∀g,A=some g->h g.block=none):h.le (ei ab A):=λo J ae=>by
 rw[n1 λg ak e=>by rw[e,aO g ak]at ae;cases ae];exact le _ _ ae
theorem aKS(dh:ln B h cj cv x)(le:B.le h)(n:Nat)(aL:x.outs.length=n)(dF:1<=n)(aC:n<=16)(cm:Option ar)(cE:Nat)(d:dO)(gf:RowsIn h cm [d])(aB:d.l.length<=64):Fn aH 252 #[b0 cv,.slice cm 1 cE] h (OF B h cj cv x (some (aEu n 0 d.l (bG n [])))):=by
 obtain⟨g,ak,c1⟩:=gf.get (i:=0) (by simp);have Ey:=gf.row _ (Of _);obtain⟨A,c,l⟩:=d;simp only at aB Ey;have aD7:=dh;obtain⟨eF,zd,ct,bO,X,hk,e2,to,_⟩:=dh.ex;rw[aL]at hk;obtain⟨aGF,aHk⟩:∃aGF,aGF=aEu n 0 l (bG n []):=⟨_,rfl⟩;simp only;rw[<-aHk];refine b5 aJk rfl ?_;refine aK λgS dy gY=>?_;refine dy _ _ _ ?_;refine aK λgO dx eG=>?_;refine .hp (.slice ct n bO) (bN hk rfl) ?_;refine .one n (.slice none 0 0) rfl rfl rfl rfl (by omega) (by omega) λHv=>?_;refine dx _ _ _ ?_;refine aK λgu df fK=>?_;refine aK λgk ed eH=>?_;refine .mk g ak (by decide) (by decide) ?_;refine .hp (.slice A l.length c) c1 ?_;refine ed _ _ _ ?_;refine fG λhA dY hL=>?_;refine .lj (.done ?_);refine .kU [0] (Nat×List dO) [6,19,20,21] (λ(k,_)=>[.v (.slice (some Hv) n n),.v (.slice A l.length c),.v (R l.length),.v (R k)]) (λ(_,D)=>[.row 27 1 (some Hv) n n (D.map dO.val)]) (λ(k,D) U=>h.le U/\k<=l.length/\D.length=n/\aEu n k (l.drop k) (D.map dO.l)=aGF/\(∀q∈D,bz U 3 1 q.A q.l.length q.c (q.l.map R)/\q.l.length<=k/\∀g,q.A=some g->h g.block=none)/\(D.flatMap λq=>jj q.A).Nodup) (λ(k,_)=>l.length-k) (0,bG n ED) (λ_=>rfl)
  ⟨I.le_refl _,cO _,by simp,by rw[un];exact aHk.symm,λq aq=>by rw[(Oe.1 aq).2];exact⟨⟨rfl,.inl ⟨rfl,rfl,rfl⟩⟩,dd _,nofun⟩,by
   rw[List.flatMap_replicate];simp[ED,jj]⟩ rfl rfl (by
   show some [LE.row 27 1 (some Hv) n n (bG n (.slice none 0 0))]=some [LE.row 27 1 (some Hv) n n ((bG n ED).map dO.val)];rw[un];rfl) ?_
 rintro⟨k,D⟩ e ab ⟨cn,HY,EO,hu,jM,mn⟩;by_cases q:k<l.length;have E8:=U0 k dF;have aEE:k%n<D.length:=by omega
 have uZ:=cS aEE;obtain⟨si,aIA,aGZ⟩:=jM _ uZ;obtain⟨d,aFG⟩:∃d,d=D[k%n]:=⟨_,rfl⟩;rw[<-aFG]at si aIA aGZ uZ;have RO:=aJZ cn aGZ;obtain⟨g3,Lm⟩:=bg.cc Ey (by simp only;omega);have eI:=I.kL RO (bg.one Ey Lm (i:=k) (iM q) rfl);rw[o6 q,aEu]at hu;obtain⟨z,aY⟩:∃z,z=l[k]:=⟨_,rfl⟩;rw[<-aY]at eI hu;refine .abs 3 1 d.A d.l.length d.c (d.l.map R) si (.done ?_);refine aK λhc eT hi=>?_;refine eT _ _ _ ?_;refine aK λkb fE i'=>?_;refine aW (λ_=>?_) (λaD=>by omega);refine fE _ _ _ ?_;refine aK λkc gg j1=>?_;refine fG λko g' ja=>?_;refine aK λlq gX kR=>?_;refine .m g3 Lm ?_;refine .hp (R z) (by rw[bq];exact eI) ?_;refine gX _ _ _ ?_;refine aK λsd lC sK=>?_;have em:(k:Int).tmod (n:Int)=((k%n:Nat):Int):=by rw[Int.tmod_eq_emod_of_nonneg (by omega)];rfl
 conv=>whnf
 rw[em];refine .mk (by omega) ?_;refine lC _ _ _ ?_;refine .m Hv rfl ?_;refine .row 0 27 1 Hv n n (D.map dO.val) (k%n) d.val rfl (by rw[bq,ew]) (by rw[dV,bZ aEE,<-aFG];rfl) ?_;refine .done (.cR 1 _ [R z] rfl rfl (by intro u hu;rw[fx]at hu;subst hu;rfl) (by unfold c';omega) (by omega) λbA bu _=>?_);refine .m Hv rfl ?_;refine .row 0 27 1 Hv n n _ ((D.set (k%n) ⟨bA,bu,d.l++[z]⟩).map dO.val) (k%n) rfl (by rw[bq,ew]) (by
  rw[ib _ _ _ (by simpa using aEE),nb];simp only[dO.val,fb];rfl) ?_
 refine ja _ _ _ _ nofun (gg _ _ _ ?_);refine .aLS ?_;refine .bV 1 3 1 bA (d.l.length+1) bu _ rfl λaR cW fT f4=>.done ?_;have fW:=I.le_trans RO cW;have ap:∀(i:Nat)(ag:i<D.length),i≠k%n->∀g,D[i].A=some g->∀b7,d.A=some b7->g.block≠b7.block:=λi ag ne g ak b7 dT q=>X5 _ _ mn i (k%n) ag aEE ne g.block (oT ak) (by rw[q,<-aFG];exact oT dT);have Jh:∀(i:Nat)(ag:i<D.length),i≠k%n->bz (ei ab d.A) 3 1 D[i].A D[i].l.length D[i].c (D[i].l.map R):=λi ag ne=>by
  exact(jM _ (cS ag)).1.del λg b7 ak dT=>ap i ag ne g ak b7 dT
 refine⟨(k+1,D.set (k%n) ⟨bA,bu,d.l++[z]⟩),rfl,rfl,⟨fW,by omega,by simpa using EO,?_,λy aQ=>?_,X6 _ _ _ _ mn (by cases bA<;>simp[jj]) λi ag ne u hu aI2=>?_⟩,by show l.length- (k+1)<l.length-k;omega⟩;rw[nb];have nh:(D.map dO.l).getD (k%n) []=d.l:=by rw[cN,dV,bZ aEE,<-aFG];rfl
 rw[nh]at hu;exact hu;obtain⟨i,ag,rfl⟩:=rb aQ;rw[k2]at ag;by_cases e:i=k%n;subst e;simp only[GI];refine⟨?_,by simp only[fb,aId];omega,λg ak=>I.none_le RO (f4 g ak)⟩;rw[fb,fm];exact fT;simp only[UU (d9 e)];have:=jM _ (cS ag);exact⟨(Jh i ag e).mono cW,by omega,this.2.2⟩;obtain⟨g,ak,e⟩:=oe hu;obtain⟨b7,dT,bl⟩:=oe aI2;have r:=Jh i ag ne;have:=r.mem dT;rw[bl,<-e]at this;exact this (f4 g ak);have e:k=l.length:=by omega
 rw[tg (by omega),aEu]at hu;refine .done ?_;refine aK λhc eT hi=>?_;refine eT _ _ _ ?_;refine aK λkb fE i'=>?_;refine aW (λaD=>by omega) (λ_=>?_);refine i' _ _ _ _ nofun (dY _ _ _ (df _ _ _ ?_));refine .bV 0 27 1 (some Hv) n n _ rfl λan dZ gi f3=>.done ?_;have ha:=I.le_trans cn dZ;exact⟨ha.xJ,aD7.pure le ha,some Hv,n,D,by rw[EO];rfl,hu,aHL aD7.some_ (by rw[EO];exact gi) (λg ak=>I.none_le cn (f3 g ak)) λd aB=>⟨(jM d aB).1.mono dZ,(jM d aB).2.2⟩⟩
theorem aIJ(dh:ln B h cj cv x)(le:B.le h)(av:x.tag=1)(iD:x.st.length+1=x.be.length)(hp:x.be.length<=16)(cm:Option ar)(cE:Nat)(D:List dO)(k:Nat)(hs:D.length=k)(gf:RowsIn h cm D)(ai:(D.map dO.l)[0]?=some (z::l)):Fn aH 245 #[b0 cv,.slice cm k cE] h (OF B h cj cv {x with st:=match aEx 0 x.be (z::x.st)with|some _=>(z::x.st).take x.st.length|none=>x.st} (aE0 (aEx 0 x.be (z::x.st)))):=by
 obtain⟨i0,g,A,m,c,g2,ak,c1,aO,hm,c2⟩:=gf.first ai;have aD7:=dh;obtain⟨eF,zd,ct,bO,X,hk,e2,to,hS⟩:=dh.ex;have aEt:=hS;unfold z6 at aEt;rw[aX av]at aEt;obtain⟨iO,iq,Bi,axp,rfl,aFV,eg⟩:=aEt;obtain⟨st,aHj⟩:∃st,st=x.st:=⟨_,rfl⟩;obtain⟨be,aGg⟩:∃be,be=x.be:=⟨_,rfl⟩;rw[<-aHj]at iD hk eg⊢;rw[<-aGg]at iD hp hk aFV⊢;rw[show be.length=1+st.length by omega]at hk aFV;refine b5 aJg rfl ?_;refine aK λgS dy gY=>?_;refine dy _ _ _ ?_;refine aK λgO dx eG=>?_;refine .mk g ak (by decide) (by omega) ?_;refine .hp (.slice A m c) c1 ?_;refine .mk g2 aO (by decide) (by omega) ?_;refine .hp (R z) c2 ?_;refine .hp (.slice Bi st.length axp) (bN hk rfl) ?_;refine .mk λb af=>?_;refine .cR 1 _ (st.map R) rfl (by rw[<-xj];exact((eg.mono le).mono (I.le_refl _)).src _) (λu hu=>by obtain⟨y,_,rfl⟩:=dn.1 hu;rfl) (by unfold c';omega) (by omega) λbA bu _=>?_;refine dx _ _ _ ?_;refine aK λgu df fK=>?_;refine .hp (.slice iO (1+st.length) iq) (bN hk rfl) ?_;refine .bV 1 3 1 bA (1+st.length) bu _ rfl λan dZ gi f3=>.done ?_;have gi:bz an 3 1 bA (1+st.length) bu ((z::st).map R):=gi;have eZ:st.length<=bu:=by
  rcases gi.2 with⟨_,q,_⟩|⟨_,_,_,_,q,_⟩<;>omega
 have Kn:=aIF iO bA (1+st.length) iq bu be (z::st) an ((aFV.mono le).mono dZ) gi.one (by omega);cases ad:aEx 0 be (z::st)with
 |none=>
  rw[ad]at Kn;refine .mk _ Kn ?_;rintro _ _ ⟨rfl,rfl⟩;refine df _ _ _ ?_;refine .mk λbL eS=>?_;refine .mk λcy fC=>?_;subst aHj aGg;refine .done ?_;rw[ad];exact aE5 aD7 le dZ eS fC _
 |some y=>
  rw[ad]at Kn;refine .mk _ Kn ?_;rintro _ _ ⟨rfl,rfl⟩;refine df _ _ _ ?_;refine .hp (.slice Bi st.length axp) (bN (dZ _ _ hk) rfl) ?_;refine .mk 0 st.length rfl rfl (cO _) eZ λq6 aDQ pe=>?_;rw[M7 aDQ pe];have aI0:=dZ _ _ hk;refine .hp cv 4 (B6 x.tag) (.slice eF x.ins.length zd:: .slice ct x.outs.length bO::R x.n::[.slice iO (1+st.length) iq,.slice Bi st.length axp]) (.slice eF x.ins.length zd:: .slice ct x.outs.length bO::R x.n::[.slice iO (1+st.length) iq,.slice bA st.length bu]) rfl aI0 (by rw[ib _ _ _ (by simp)];rfl) ?_;refine .mk λbL eS=>?_;refine .mk λcy fC=>?_;obtain⟨aM,aD⟩:=au7 (cv:=cv) (l:=[y]) (c:=1) (by rw[I.bP];nofun) eS [R y] rfl fC (I.le_refl _);rw[aGv]at aD;have Fw:I.xJ cv h _:=λo J ae aL=>aGq aM o J ae (dZ _ _ aL);have bj:=aD.mono (auD dZ λo J _ ae=>ae);subst aGg;refine .done ?_;rw[ad];refine⟨Fw,aF4 aD7 le Fw e2 to (aM _ _ (I.bP _ _ _)) ?_,_,_,_,rfl,rfl,bj⟩;unfold z6;rw[aX av];have el:((z::st).take st.length).length=st.length:=by simp
  have rx:=alK le aD7.zg Fw;have ad5:bz (B.grow h _) 3 1 bA (1+st.length) bu ((z::st).map R):=((gi.ju λg ak e=>aD7.some_ (by rw[<-e];exact f3 g ak)).mono aM).grown f3;refine⟨iO,iq,bA,bu,?_,?_,?_⟩;simp only;rw[el,show x.be.length=1+st.length by omega];rw[show x.be.length=1+st.length by omega];exact aFV.mono rx;simp only;rw[el];have:=(ad5.one).take (k:=st.length) (by omega);rw[<-GM]at this;exact this
end Go.Sx
namespace Go.Sx
set_option maxRecDepth 100000
set_option maxHeartbeats 0
set_option linter.all false
variable {C:Nat}{b:lG}
def aGR(tag:Int)(l a b:List Int):Prop:=(tag=1/\1<=l.length/\l.length<=16/\a=[1]/\b=[1])\/(tag=8/\a=[1]/\b=[1])\/(tag=2/\∃n:Nat,1<=n/\n<=64/\a=[1]/\b=[(n:Int)])\/(tag=3/\∃n:Nat,1<=n/\n<=64/\a=[(n:Int)]/\b=[1])\/(tag=4/\∃n m:Nat,1<=n/\n<=16/\1<=m/\n*m<=64/\a=bG n (m:Int)/\b=[((n*m:Nat):Int)])\/(tag=5/\∃n m:Nat,1<=n/\n<=16/\1<=m/\n*m<=64/\a=[((n*m:Nat):Int)]/\b=bG n (m:Int))\/(tag=6/\∃n:Nat,1<=n/\n<=16/\a=bG n 1/\b=[1])\/(tag=7/\a=[1,1]/\b=[1])\/(tag=9/\∃n:Nat,1<=n/\n<=16/\a=[1]/\b=bG n 1)\/(tag=10/\l.length=2/\a=[]/\b=[1])\/(tag=11/\∃n:Nat,1<=n/\n<=64/\a=[(n:Int)]/\b=[])
theorem aKB{tag:Int}{l:List Int}(h:(bD tag l).1=0):aGR tag l (bD tag l).2.1 (bD tag l).2.2:=by
 have two:∀{n m:Int},(1<=n/\n<=16)->(1<=m/\m<=64)->n*m<=64->∃a b:Nat,n=a/\m=b/\1<=a/\a<=16/\1<=b/\a*b<=64:=λ{n m} h1 ab an=>by
  obtain⟨a,rfl⟩:∃a:Nat,n=a:=⟨n.toNat,by omega⟩;obtain⟨b,rfl⟩:∃b:Nat,m=b:=⟨m.toNat,by omega⟩;exact⟨a,b,rfl,rfl,by omega,by omega,by omega,by exact_mod_cast an⟩
 have one:∀{n:Int}{k:Nat},(1<=n/\n<=k)->∃a:Nat,n=a/\1<=a/\a<=k:=λ{n k} h1=>⟨n.toNat,by omega,by omega,by omega⟩;unfold bD at h⊢;dsimp only at h⊢;by_cases q:tag<1\/11<tag;rw[aX q]at h;cases h;rw[aE q]at h⊢;clear q;by_cases q:tag=1/\(1<=(l.length:Int)/\(l.length:Int)<=16)\/tag=8/\l.length=0;rw[aX q];rcases q with q|q;exact .inl ⟨q.1,by omega,by omega,rfl,rfl⟩;exact .inr (.inl ⟨q.1,rfl,rfl⟩);rw[aE q]at h⊢;clear q;by_cases q:tag=2/\l.length=1/\(1<=l.getD 0 0/\l.getD 0 0<=64);rw[aX q];obtain⟨a,e,h1,ab⟩:=one (k:=64) q.2.2;exact .inr (.inr (.inl ⟨q.1,a,h1,ab,rfl,by rw[e]⟩));rw[aE q]at h⊢;clear q;by_cases q:tag=3/\l.length=1/\(1<=l.getD 0 0/\l.getD 0 0<=64);rw[aX q];obtain⟨a,e,h1,ab⟩:=one (k:=64) q.2.2;exact .inr (.inr (.inr (.inl ⟨q.1,a,h1,ab,by rw[e],rfl⟩)));rw[aE q]at h⊢;clear q;by_cases q:tag=4/\l.length=2/\(1<=l.getD 0 0/\l.getD 0 0<=16)/\(1<=l.getD 1 0/\l.getD 1 0<=64)/\l.getD 0 0*l.getD 1 0<=64;rw[aX q];obtain⟨a,b,aJ,aI,h1,ab,an,aR⟩:=two q.2.2.1 q.2.2.2.1 q.2.2.2.2;refine .inr (.inr (.inr (.inr (.inl ⟨q.1,a,b,h1,ab,an,aR,?_,?_⟩))));rw[aJ,aI,bq];rw[aJ,aI];simp;rw[aE q]at h⊢;clear q;by_cases q:tag=5/\l.length=2/\(1<=l.getD 0 0/\l.getD 0 0<=16)/\(1<=l.getD 1 0/\l.getD 1 0<=64)/\l.getD 0 0*l.getD 1 0<=64;rw[aX q];obtain⟨a,b,aJ,aI,h1,ab,an,aR⟩:=two q.2.2.1 q.2.2.2.1 q.2.2.2.2;refine .inr (.inr (.inr (.inr (.inr (.inl ⟨q.1,a,b,h1,ab,an,aR,?_,?_⟩)))));rw[aJ,aI];simp;rw[aJ,aI,bq];rw[aE q]at h⊢;clear q;by_cases q:tag=6/\l.length=1/\(1<=l.getD 0 0/\l.getD 0 0<=16);rw[aX q];obtain⟨a,e,h1,ab⟩:=one (k:=16) q.2.2;exact .inr (.inr (.inr (.inr (.inr (.inr (.inl ⟨q.1,a,h1,ab,by rw[e,bq],rfl⟩))))));rw[aE q]at h⊢;clear q;by_cases q:tag=7/\l.length=0;rw[aX q];exact .inr (.inr (.inr (.inr (.inr (.inr (.inr (.inl ⟨q.1,rfl,rfl⟩)))))));rw[aE q]at h⊢;clear q;by_cases q:tag=9/\l.length=1/\(1<=l.getD 0 0/\l.getD 0 0<=16);rw[aX q];obtain⟨a,e,h1,ab⟩:=one (k:=16) q.2.2;exact .inr (.inr (.inr (.inr (.inr (.inr (.inr (.inr (.inl ⟨q.1,a,h1,ab,rfl,by rw[e,bq]⟩))))))));rw[aE q]at h⊢;clear q;by_cases q:tag=10/\l.length=2;rw[aX q];exact .inr (.inr (.inr (.inr (.inr (.inr (.inr (.inr (.inr (.inl ⟨q.1,q.2,rfl,rfl⟩)))))))));rw[aE q]at h⊢;clear q;by_cases q:tag=11/\l.length=1/\(1<=l.getD 0 0/\l.getD 0 0<=64);rw[aX q];obtain⟨a,e,h1,ab⟩:=one (k:=64) q.2.2;exact .inr (.inr (.inr (.inr (.inr (.inr (.inr (.inr (.inr (.inr ⟨q.1,a,h1,ab,by rw[e],rfl⟩)))))))));rw[aE q]at h;cases h
theorem foldl_add(a:Int):∀l:List Int,l.foldl (·+·) a=a+l7 l
 |[]=>by simp[l7]
 |x::l=>by
  have h1:=foldl_add (a+x) l;have ab:l7 (x::l)=0+x+l7 l:=foldl_add (0+x) l;rw[DY,h1,ab];omega
theorem aFp(x:Int)(l:List Int):l7 (x::l)=x+l7 l:=by
 rw[l7,DY,foldl_add];omega
theorem aKI{l:List Int}(h:∀r∈l,0<=r):0<=l7 l:=by
 induction l with
 |nil=>exact JU _
 |cons x l bE=>
  rw[aFp];have:=h x (iU ..);have:=bE λr am=>h r (iv _ am);omega
theorem aFy:∀(ins hand:List Int),(∀r∈ins,0<=r)->(hand.length:Int)=l7 ins->(tu hand ins).map (λl=>(l.length:Int))=ins/\Hc hand ins
 |[],_,_,_=>⟨rfl,trivial⟩
 |r::ins,hand,h,aP=>by
  rw[aFp]at aP;have ai:=h r (iU ..);have hp:=aKI λr am=>h r (iv _ am);obtain⟨i1,i2⟩:=aFy ins (hand.drop r.toNat) (λr am=>h r (iv _ am)) (by rw[k1];omega);refine⟨?_,ai,by omega,i2⟩;rw[tu,eO,i1,sa];congr 1;omega
structure aDP(C:Nat)(b:lG):Prop where
 F8:(bD b.tag b.be).1=0
 ins:b.ins=(bD b.tag b.be).2.1
 outs:b.outs=(bD b.tag b.be).2.2
 st1:b.tag=1->b.st.length+1=b.be.length
 aFo:b.tag=8\/b.tag=10->b.st.length=1
 bU:0<=b.n
 dF:b.n+C<=1000000000000
theorem aDP.inv(v:aDP C b):aGR b.tag b.be b.ins b.outs:=by rw[v.ins,v.outs];exact aKB v.F8
theorem aDP.tag{C:Nat}{b:lG}(v:aDP C b):1<=b.tag/\b.tag<=11:=by
 rcases v.inv with q|q|q|q|q|q|q|q|q|q|q<;>have:=q.1<;>omega
theorem aDP.aGA(v:aDP C b):∀r∈b.ins,1<=r/\r<=64:=by rw[v.ins];exact(Jp b.tag b.be).1
theorem aDP.aKw(v:aDP C b):∀r∈b.outs,1<=r/\r<=64:=by rw[v.outs];exact(Jp b.tag b.be).2
theorem aKJ(n:Nat)(m:Int):l7 (bG n m)=n*m:=by
 induction n with
 |zero=>simp[l7]
 |succ n bE=>rw[GO,aFp,bE];push_cast;rw[Int.add_mul];omega
theorem aDP.XL(v:aDP C b):b.ins.length<=16/\b.outs.length<=16/\l7 b.outs<=64:=by
 rcases v.inv with⟨_,_,_,h1,ab⟩|⟨_,h1,ab⟩|⟨_,n,_,_,h1,ab⟩|⟨_,n,_,_,h1,ab⟩|⟨_,n,m,_,_,_,_,h1,ab⟩|⟨_,n,m,_,_,_,h,h1,ab⟩|⟨_,n,_,_,h1,ab⟩|⟨_,h1,ab⟩|⟨_,n,_,_,h1,ab⟩|⟨_,_,h1,ab⟩|⟨_,n,_,_,h1,ab⟩<;>rw[h1,ab]<;>simp[aFp,aKJ,show l7 []=0 from rfl];all_goals first|omega|skip
 all_goals(refine⟨by omega,?_⟩;exact_mod_cast h)
theorem aIy(hand:List Int):∀ins:List Int,(tu hand ins).length=ins.length:=by
 intro ins;induction ins generalizing hand with
 |nil=>rfl
 |cons r ins bE=>rw[tu,gI,bE,gI]
theorem aHW(n:Nat):∀(l:List Int)(k:Nat)(J:List (List Int)),(aEu n k l J).length=J.length
 |[],_,_=>rfl
 |x::l,k,J=>by rw[aEu,aHW n l];simp
theorem aHV{n:Nat}(aC:1<=n):∀(l:List Int)(k:Nat)(J:List (List Int)),J.length=n->(∀i,i<n->(J.getD i []).length=(k+n-1-i)/n)->∀i,i<n->((aEu n k l J).getD i []).length=(k+l.length+n-1-i)/n
 |[],k,J,_,h,i,ag=>h i ag
 |x::l,k,J,al,h,i,ag=>by
  rw[aEu,aHV aC l (k+1) _ (by simpa using al) ?_ i ag];rw[gI,show k+1+l.length=k+(l.length+1) by omega];intro i ag;have step:(k+1+n-1-i)/n=(k+n-1-i)/n+if k%n=i then 1 else 0:=by
   obtain⟨a,r,am,rfl⟩:∃a r,r<n/\k=n*a+r:=⟨k/n,k%n,U0 k aC,(Nat.div_add_mod k n).symm⟩;rw[Nat.mul_add_mod,Nat.mod_eq_of_lt am,show n*a+r+1+n-1-i=n*a+(r+n-i) by omega,show n*a+r+n-1-i=n*a+(r+n-1-i) by omega,aIf (by omega),aIf (by omega)];have d1:(r+n-i)/n=if i<=r then 1 else 0:=by
    split;exact aGO (by omega) (by omega);exact ahC (by omega)
   have d2:(r+n-1-i)/n=if i+1<=r then 1 else 0:=by
    split;exact aGO (by omega) (by omega);exact ahC (by omega)
   rw[d1,d2];split<;>split<;>split<;>omega
  rw[step];by_cases q:k%n=i;rw[aX q,cN,q,ahj (by omega),BS,fb,h i ag];rfl;rw[aE q,cN,aGM q,<-cN,h i ag];rfl
theorem aG4(v:aDP (C+1) b)(hand:List Int)(aP:(hand.length:Int)=l7 b.ins):aDP C (PK b (tu hand b.ins)).2/\(PK b (tu hand b.ins)).2.ins=b.ins/\∀outs,(PK b (tu hand b.ins)).1=some outs->outs.map (λl=>(l.length:Int))=b.outs:=by
 have key:((aDY b (tu hand b.ins)).2.length=b.st.length)/\∀outs,(aDY b (tu hand b.ins)).1=some outs->outs.map (λl=>(l.length:Int))=b.outs:=by
  obtain⟨dl,_⟩:=aFy b.ins hand (λr am=>by have:=v.aGA r am;omega) aP;have WL:=aIy hand b.ins;generalize tu hand b.ins=D at dl WL;have aGC:=v.aFo;have inv:=v.inv;obtain⟨tag,be,st,n,ins,outs⟩:=b;simp only at dl WL aGC inv⊢;rcases inv with⟨av,_,_,h1,ab⟩|⟨av,h1,ab⟩|⟨av,n,dF,_,h1,ab⟩|⟨av,n,_,_,h1,ab⟩|⟨av,n,m,_,_,_,_,h1,ab⟩|⟨av,n,m,dF,_,_,_,h1,ab⟩|⟨av,n,_,_,h1,ab⟩|⟨av,h1,ab⟩|⟨av,n,_,_,h1,ab⟩|⟨av,_,h1,ab⟩|⟨av,n,_,_,h1,ab⟩;obtain rfl:tag=1:=by omega
  subst h1 ab;unfold aDY;simp only;split;exact⟨by simp,λJ aL=>by cases aL;rfl⟩;exact⟨rfl,λJ aL=>by cases aL⟩;obtain rfl:tag=8:=by omega
  subst h1 ab;unfold aDY;simp only;split;exact⟨by rw[aGC (.inl rfl)];rfl,λJ aL=>by cases aL;rfl⟩;exact⟨rfl,λJ aL=>by cases aL⟩;obtain rfl:tag=2:=by omega
  subst h1 ab;exact⟨rfl,λJ aL=>by cases aL;simp;omega⟩;obtain rfl:tag=3:=by omega
  subst h1 ab;exact⟨rfl,λJ aL=>by cases aL;rfl⟩;obtain rfl:tag=4:=by omega
  subst h1 ab;refine⟨rfl,λJ aL=>?_⟩;cases aL;simp only[eO,zU,aHZ,WL,Ob,cN];rw[GG,aX (by omega),BS,bq,aEH];obtain rfl:tag=5:=by omega
  subst h1 ab;refine⟨rfl,λJ aL=>?_⟩;cases aL;simp only[Ob];have al:(D.getD 0 []).length=n*m:=by
   rcases D with _|⟨d,D⟩;cases dl;rw[eO]at dl;injection dl with d1 d2;show d.length=_;omega
  have each:=aHV dF (D.getD 0 []) 0 (bG n []) (by simp) (λi ag=>by
   rw[cN,GG,aX ag,ahC (by omega)];rfl)
  have ul:=aHW n (D.getD 0 []) 0 (bG n []);rw[Ob]at ul;apply List.ext_getElem (by rw[ih,ul,Ob]);intro i h1 ab;have ag:i<n:=by simpa using ab
  have:=each i ag;rw[cN,bZ (by omega),BS,al]at this;rw[aE3,this,List.getElem_replicate];congr 1;rw[dJ,aEH];exact aGO (by rw[aEH];omega) (by rw[Nat.add_mul,aEH];omega);obtain rfl:tag=6:=by omega
  subst h1 ab;refine⟨rfl,λJ aL=>?_⟩;obtain⟨y,_,rfl⟩:=D3.1 aL;rfl;obtain rfl:tag=7:=by omega
  subst h1 ab;refine⟨rfl,λJ aL=>?_⟩;obtain⟨y,_,rfl⟩:=D3.1 aL;rfl;obtain rfl:tag=9:=by omega
  subst h1 ab;exact⟨rfl,λJ aL=>by cases aL;simp⟩;obtain rfl:tag=10:=by omega
  subst h1 ab;unfold aDY;simp only;split;exact⟨by rw[aGC (.inr rfl)];rfl,λJ aL=>by cases aL;rfl⟩;exact⟨rfl,λJ aL=>by cases aL⟩;obtain rfl:tag=11:=by omega
  subst h1 ab;exact⟨rfl,λJ aL=>by cases aL;rfl⟩
 have base:aDP (C+1) {b with st:=(aDY b (tu hand b.ins)).2}:=⟨v.F8,v.ins,v.outs,λq=>by rw[<-v.st1 q];simp only[key.1],λq=>by simp only[key.1];exact v.aFo q,v.bU,v.dF⟩;unfold PK;refine⟨?_,?_,key.2⟩;cases(aDY b (tu hand b.ins)).1 with
 |none=>exact⟨base.F8,base.ins,base.outs,base.st1,base.aFo,base.bU,by have:=base.dF;simp only[aE6]at this⊢;omega⟩
 |some J=>exact⟨base.F8,base.ins,base.outs,base.st1,base.aFo,by have:=base.bU;simp only[aE6]at this⊢;omega,by have:=base.dF;simp only[aE6]at this⊢;omega⟩
 cases(aDY b (tu hand b.ins)).1<;>rfl
end Go.Sx
namespace Go.Sx
open Go.Proofs
set_option maxRecDepth 100000
set_option maxHeartbeats 0
set_option linter.all false
theorem aG5{ins:List (List Int)}{rs:List Int}(dl:ins.map (λl=>(l.length:Int))=rs){i:Nat}{r:Int}(am:rs[i]?=some r)(h1:1<=r):∃l,ins[i]?=some (Qy ins i::l):=by
 subst dl;rw[dV]at am;cases ag:ins[i]?with
 |none=>rw[ag]at am;cases am
 |some q=>
  rw[ag]at am;have am:(q.length:Int)=r:=oB am;cases q with
  |nil=>simp only[List.length_nil]at am;omega
  |cons z l=>
   refine⟨l,?_⟩;have e:ins.getD i []=z::l:=by rw[cN,ag];rfl
   rw[Qy,e];rfl
theorem aKv{B h:I}{cj cv:Nat}{x:lG}{C:Nat}(dh:ln B h cj cv x)(le:B.le h)(v:aDP C x)(cm:Option ar)(cE:Nat)(D:List dO)(n:Nat)(hs:D.length=n)(gf:RowsIn h cm D)(ins:List (List Int))(lS:D.map dO.l=ins)(dl:ins.map (λl=>(l.length:Int))=x.ins):Fn aH (S4 x.tag) #[b0 cv,.slice cm n cE] h (OF B h cj cv {x with st:=(aDY x ins).2} (aDY x ins).1):=by
 have EO:D.length=x.ins.length:=by
  have h1:=ho e7 dl;have ab:=ho e7 lS;simp only[ih]at h1 ab;omega
 have s1:=v.st1;have XL:=v.XL;have inv:=v.inv;obtain⟨tag,be,st,pu,af8,aH2⟩:=x;simp only at dl EO s1 XL inv⊢;have one:∀{r:Int}{iH:List Int},af8=r::iH->1<=r->∃l,(D.map dO.l)[0]?=some (Qy ins 0::l):=λ{r iH} e am=>by
  rw[lS];exact aG5 dl (i:=0) (r:=r) (by rw[e];rfl) am
 rcases inv with⟨av,_,aFh,h1,ab⟩|⟨av,h1,ab⟩|⟨av,m,m1,m2,h1,ab⟩|⟨av,m,m1,m2,h1,ab⟩|⟨av,m,w,m1,m2,cF,dw,h1,ab⟩|⟨av,m,w,m1,m2,cF,dw,h1,ab⟩|⟨av,m,m1,m2,h1,ab⟩|⟨av,h1,ab⟩|⟨av,m,m1,m2,h1,ab⟩|⟨av,_,h1,ab⟩|⟨av,m,m1,m2,h1,ab⟩;obtain rfl:tag=1:=by omega
 obtain⟨l,al⟩:=one h1 (by decide);refine(aIJ dh le rfl (s1 rfl) aFh cm cE D n hs gf al).mono λv U q=>?_;unfold aDY aE0 at*;simp only at q⊢;cases ad:aEx 0 be (Qy ins 0::st)<;>rw[ad]at q<;>exact q;obtain rfl:tag=8:=by omega
 obtain⟨l,al⟩:=one h1 (by decide);refine(aKH dh le rfl cm cE D n hs gf al).mono λv U q=>?_;unfold aDY aE0 at*;simp only at q⊢;cases ad:aDV (st.getD 0 0) (Qy ins 0)<;>rw[ad]at q<;>exact q;obtain rfl:tag=2:=by omega
 obtain⟨l,al⟩:=one h1 (by decide);have AL:n=1:=by rw[h1]at EO;simp at EO;omega
 subst AL;obtain⟨d,rfl⟩:∃d,D=[d]:=aGN.1 hs;have al:d.l=Qy ins 0::l:=by simpa using al
 have:=azz dh le m ab m1 m2 cm cE d (Qy ins 0) l al gf;subst ab;exact this;obtain rfl:tag=3:=by omega
 obtain⟨l,al⟩:=one h1 (by omega);have AL:n=1:=by rw[h1]at EO;simp at EO;omega
 subst AL;obtain⟨d,rfl⟩:∃d,D=[d]:=aGN.1 hs;have al:d.l=Qy ins 0::l:=by simpa using al
 exact ajT dh le cm cE d (Qy ins 0) l al gf;obtain rfl:tag=4:=by omega
 have eb:∀d∈D,d.l.length=w:=λd aB=>by
  have:((d.l.length:Nat):Int)∈ins.map λl=>(l.length:Int):=dn.2 ⟨d.l,by rw[<-lS];exact dn.2 ⟨d,aB,rfl⟩,rfl⟩;rw[dl,h1]at this;have:=(Oe.1 this).2;omega
 have aC:n=m:=by rw[h1]at EO;simp at EO;omega
 subst aC;have:=aKX dh le n w h1 ab (by omega) m2 dw cm cE D hs gf eb;rw[lS]at this;have e:(af8.getD 0 0).toNat=w:=by rw[h1,cN,GG,aX (by omega)];simp
 unfold aDY;simp only;rw[e];exact this;obtain rfl:tag=5:=by omega
 have AL:n=1:=by rw[h1]at EO;simp at EO;omega
 subst AL;obtain⟨d,rfl⟩:∃d,D=[d]:=aGN.1 hs;have xq:d.l.length=m*w:=by
  rw[<-lS,h1]at dl;have:=List.head_eq_of_cons_eq dl;simp only at this;exact_mod_cast this
 have:=aKS dh le m (by rw[ab];simp) m1 m2 cm cE d gf (by omega);unfold aDY;simp only;rw[<-lS];have e:aH2.length=m:=by rw[ab];simp
 rw[e];exact this;obtain rfl:tag=6:=by omega
 have eb:∀d∈D,0<d.l.length:=λd aB=>by
  have:((d.l.length:Nat):Int)∈ins.map λl=>(l.length:Int):=dn.2 ⟨d.l,by rw[<-lS];exact dn.2 ⟨d,aB,rfl⟩,rfl⟩;rw[dl,h1]at this;have:=(Oe.1 this).2;omega
 have:=aIn (r:=b0 cv) dh le cm cE D n hs (by rw[h1]at EO;simp at EO;omega) gf eb;rw[lS]at this;exact this;obtain rfl:tag=7:=by omega
 obtain⟨l,al⟩:=one h1 (by decide);obtain⟨c9,qO⟩:=aG5 dl (i:=1) (r:=1) (by rw[h1];rfl) (by decide);rw[<-lS]at qO;have:=aKo (r:=b0 cv) dh le cm cE D n hs gf al qO;subst lS;exact this;obtain rfl:tag=9:=by omega
 obtain⟨l,al⟩:=one h1 (by decide);have e:aH2.length=m:=by rw[ab];simp
 have:=aIw dh le m e m2 cm cE D n hs gf al;unfold aDY;simp only;rw[e];exact this;obtain rfl:tag=10:=by omega
 refine(aKK (i:=.slice cm n cE) dh le rfl).mono λv U q=>?_;unfold aDY at*;simp only at q⊢;cases ad:aDV (st.getD 0 0) (be.getD 1 0)<;>rw[ad]at q<;>exact q;obtain rfl:tag=11:=by omega
 exact aIG dh le
end Go.Sx
namespace Go.Sx
set_option maxRecDepth 100000
set_option maxHeartbeats 0
set_option linter.all false
variable {C i:Nat}{x:kl}{p:km}
def aIe(p:km)(l:m'):Prop:=(0<=l.base/\0<=l.size/\l.base+l.size<=p.mem)/\(0<=l.at_/\l.at_<=1024)/\0<=l.bF/\l.bF<=l.size
structure aD3(p:km)(C:Nat)(x:kl):Prop where
 mem:x.mem.length=p.mem.toNat
 dv:x.lines.length=p.lines.length
 line:∀l∈x.lines,aIe p l
 da:x.da.length=p.ins.toNat
 wr:x.wr.length=p.outs.toNat
 pG:∀w∈x.wr,w.length+64*C<=1000000000
 b9:x.jz.length=p.parts.length
 cB:x.pD.length=p.parts.length
 rp:∀b∈x.jz,aDP C b
 r3:∀i,i<x.jz.length->x.pD.getD i 0=l7 (x.jz.getD i aEn).ins
 er:x.er.length=p.bF.toNat
 hand:x.hand.length<=64
 jc:0<=x.jc/\x.jc+C<=1000000000
structure aD4(p:km)(C:Nat)(x:kl):Prop where
 w:aD3 p C x
 ops:x.ops=p.ops
 st:x.zB=false
 kx:0<=x.next/\x.next<p.ops.length
theorem aDP.less{b:lG}(v:aDP (C+1) b):aDP C b:=⟨v.F8,v.ins,v.outs,v.st1,v.aFo,v.bU,by have:=v.dF;omega⟩
theorem aD3.less{p:km}{C:Nat}{x:kl}(v:aD3 p (C+1) x):aD3 p C x:=⟨v.mem,v.dv,v.line,v.da,v.wr,λw hw=>by have:=v.pG w hw;omega,v.b9,v.cB,λb af=>(v.rp b af).less,v.r3,v.er,v.hand,by have:=v.jc;omega⟩
theorem aD3.down{p:km}{x:kl}:∀{C:Nat},aD3 p C x->aD3 p 0 x
 |0,v=>v
 |_+1,v=>v.less.down
theorem aG7:∀{outs:List (List Int)}{rs:List Int},outs.map (λl=>(l.length:Int))=rs->(outs.flatten.length:Int)=l7 rs
 |[],_,h=>by subst h;rfl
 |J::outs,_,h=>by
  subst h;rw[eO,aFp,<-aG7 (outs:=outs) rfl,qr,fb];omega
theorem aE'{l:List lG}(h:i<l.length):l.getD i aEn=l[i]:=by
 rw[cN,bZ h];rfl
theorem aFC{l:List m'}(h:i<l.length):l.getD i aEe=l[i]:=by
 rw[cN,bZ h];rfl
theorem aFO{α:Type}{l:List α}{x y:α}(h:y∈l.set i x):y∈l\/y=x:=ahp h
theorem aE9{α:Type}{l:List (List α)}{a:Nat}(h:a<l.length):l.getD a []=l[a]:=by
 rw[cN,bZ h];rfl
theorem aIp{T:Int}(fV:p.yh T)(v:aD3 p (C+1) x){J:b6}(aEs:Eb p i J):aD3 p C (tl x J).1:=by
 have aDZ:=v.less;have m0:=fV.m0;have m1:=fV.m1;rcases aEs with⟨rfl,_⟩|⟨hk,a0,cP,_⟩|⟨hk,a0,cP,_⟩|⟨hk,a0,cP,bL,cy⟩|⟨hk,a0,cP,bL,cy⟩|⟨hk,a0,cP,bL,cy⟩|⟨hk,a0,cP,bL,cy⟩|⟨hk,a0,cP,eD⟩;simp only[tl];split;exact{aDZ with jc:=by have:=v.jc;simp only;omega};exact aDZ;all_goals
  obtain⟨k,a,b⟩:=J
  simp only at hk a0 cP
  subst hk
  simp only[tl]
 exact{aDZ with er:=by simp only[k2];exact aDZ.er};exact{aDZ with er:=by simp only[k2];exact aDZ.er};simp only at bL cy;have a6:a.toNat<x.lines.length:=by rw[v.dv];omega
 rw[aFC a6];have L8:=v.line _ (cS a6);split;exact aDZ;rename_i q;obtain⟨IJ,aHv,lc⟩:=L8;have aj:1<=x.lines[a.toNat].size:=by omega
 refine{aDZ with dv:=by simp only[DH,k2];exact v.dv,line:=λl al=>?_,hand:=by simp only[DH,fb,TP];omega};rcases aFO al with al|rfl;exact v.line l al;refine⟨IJ,⟨Int.emod_nonneg _ (by omega),?_⟩,by simp only;omega,by simp only;omega⟩;have:=Int.emod_lt_of_pos (x.lines[a.toNat].at_+(b.toNat:Int)) (show 0<x.lines[a.toNat].size by omega);simp only;omega;simp only at bL cy;have a6:a.toNat<x.lines.length:=by rw[v.dv];omega
 rw[aFC a6];obtain⟨IJ,aHv,lc⟩:=v.line _ (cS a6);split;exact aDZ;rename_i q;refine{aDZ with mem:=by simp only[KZ,abm];exact v.mem,dv:=by simp only[KZ,k2];exact v.dv,line:=λl al=>?_,hand:=by have:=v.hand;simp only[KZ,k1];omega};rcases aFO al with al|rfl;exact v.line l al;exact⟨IJ,aHv,by simp only;omega,by simp only;omega⟩;simp only at bL cy;split;exact aDZ;split;exact aDZ;refine{aDZ with da:=by simp only[S5,k2];exact v.da,hand:=by simp only[S5,fb,sa];omega};simp only at bL cy;split;exact aDZ;refine{aDZ with wr:=by simp only[T7,k2];exact v.wr,pG:=λw hw=>?_,hand:=by have:=v.hand;simp only[T7,k1];omega};rcases aFO hw with hw|rfl;exact aDZ.pG w hw;have a6:a.toNat<x.wr.length:=by rw[v.wr];omega
 have:=v.pG _ (cS a6);rw[aE9 a6,fb,sa];omega;have a6:a.toNat<x.jz.length:=by rw[v.b9];omega
 have bv:=v.rp _ (cS a6);split;rename_i q;rw[v.r3 _ a6]at q;rw[aE' a6]at q⊢;obtain⟨f1,f2,f3⟩:=aG4 bv x.hand q;have hS:∀eP,eP.ins=x.jz[a.toNat].ins->∀i,i<(x.jz.set a.toNat eP).length->x.pD.getD i 0=l7 ((x.jz.set a.toNat eP).getD i aEn).ins:=λeP af i ag=>by
  have ea:i<x.jz.length:=by simpa using ag
  rw[v.r3 i ea,aE' ag,aE' ea,List.getElem_set];split;rename_i e;subst e;rw[af];rfl
 have aT:∀eP,aDP C eP->∀b∈x.jz.set a.toNat eP,aDP C b:=λeP af b h=>by
  rcases aFO h with h|rfl;exact aDZ.rp b h;exact af
 split;rename_i outs eP e;rw[e]at f1 f2 f3;have XL:=bv.XL.2.2;have:=aG7 (f3 outs rfl);exact{aDZ with b9:=by simp only[Km,k2];exact v.b9,rp:=aT _ f1,r3:=hS _ f2,hand:=by simp only[Km];omega};rename_i eP e;rw[e]at f1 f2;exact{aDZ with b9:=by simp only[k2];exact v.b9,rp:=aT _ f1,r3:=hS _ f2};exact aDZ
theorem aIb{T:Int}(fV:p.yh T)(ag:i<p.ops.length)(h:p.ops[i].k≠0):i+1<p.ops.length:=by
 obtain⟨l,al⟩:=fV.last;refine zM λq=>h ?_;have e:i=l.length:=by have:=ho e7 al;simp at this;omega
 have:p.ops[i]?=some ⟨0,0,0⟩:=by rw[al,e,List.getElem?_append_right (dd _),yq];rfl
 rw[bZ ag]at this;rw[oB this]
theorem aIO{l:List b6}(h:i<l.length):l.getD i aEF=l[i]:=by
 rw[cN,bZ h];rfl
theorem aD4.op(v:aD4 p C x):∃(h:x.next.toNat<p.ops.length),x.ops.getD x.next.toNat aEF=p.ops[x.next.toNat]:=by
 have:=v.kx;have h:x.next.toNat<p.ops.length:=by omega
 exact⟨h,by rw[v.ops];exact aIO h⟩
theorem aGV{J:b6}:(tl x J).1.ops=x.ops/\(tl x J).1.zB=x.zB/\((tl x J).1.next=x.next\/(J.k=0/\(tl x J).1.next= -1)\/(J.k=2/\(tl x J).1.next=J.b-1))/\((tl x J).2=1->J.k=0)/\(J.k=0->(tl x J).2=0\/(tl x J).2=1->(tl x J).1.next= -1):=by
 obtain⟨k,a,b⟩:=J;match k with
 |0=>simp only[tl];split<;>simp
 |1=>simp[tl]
 |2=>simp only[tl];split<;>simp
 |3=>simp only[tl];split<;>simp[DH]
 |4=>simp only[tl];split<;>(try split)<;>simp[S5]
 |5=>simp only[tl];split<;>(try split)<;>simp[Km]
 |6=>simp only[tl];split<;>simp[KZ]
 |n+7=>simp only[tl];split<;>simp[T7]
theorem aGU(x:kl)(J:b6):(tl x J).2<=4:=by
 obtain⟨k,a,b⟩:=J;match k with
 |0=>simp only[tl];split<;>simp
 |1=>simp[tl]
 |2=>simp[tl]
 |3=>simp only[tl];split<;>simp
 |4=>simp only[tl];split<;>(try split)<;>simp
 |5=>simp only[tl];split<;>(try split)<;>simp
 |6=>simp only[tl];split<;>simp
 |n+7=>simp only[tl];split<;>simp
theorem aKC(x:kl):(Js x).2<=4:=by
 have:=aGU x (x.ops.getD x.next.toNat aEF);unfold Js;simp only;split;exact this;split<;>exact this
theorem aD4.step{p:km}{T:Int}(fV:p.yh T){C:Nat}{x:kl}(v:aD4 p (C+1) x):aD3 p C (Js x).1/\((Js x).2=0\/(Js x).2=1->aD4 p C (Js x).1):=by
 obtain⟨ag,aL⟩:=v.op;have aEs:=fV.snd _ ag;have aF2:=aIp fV v.w aEs;obtain⟨h2,fk,ig,qm,DQ⟩:=aGV (x:=x) (J:=p.ops[x.next.toNat]);have kx:=v.kx;unfold Js;rw[aL];simp only;by_cases q:(tl x p.ops[x.next.toNat]).2=0\/(tl x p.ops[x.next.toNat]).2=1
 .rw[aX q];have w:aD3 p C {(tl x p.ops[x.next.toNat]).1 with next:=(tl x p.ops[x.next.toNat]).1.next+1}:={aF2 with};refine⟨w,λ_=>⟨w,h2.trans v.ops,fk.trans v.st,?_⟩⟩;simp only;rcases ig with e|⟨_,e⟩|⟨bB,e⟩;rw[e];have:=aIb fV ag (λve=>by have:=DQ ve q;omega);omega;rw[e];omega;rw[e];rcases aEs with⟨h,_⟩|h|h|h|h|h|h|h;rw[h]at bB;cases bB;all_goals(have:=h.1;have:=h.2;omega)
 rw[aE q];split;rename_i aD;exact⟨aF2,λh=>by omega⟩;exact⟨{aF2 with},λh=>by simp only at h;omega⟩
end Go.Sx
namespace Go.Sx
open Go.Proofs
set_option maxRecDepth 100000
set_option maxHeartbeats 0
set_option linter.all false
theorem XX{B h:I}{cj cv:Nat}{x:lG}{C:Nat}{hand:List Int}(ix:ln B h cj cv x)(le:B.le h)(v:aDP (C+1) x)(aP:(hand.length:Int)=l7 x.ins)(ab:I)(cm:Option ar)(cE:Nat)(D:List dO)(n:Nat)(cn:h.le ab)(gf:RowsIn ab cm D)(hs:D.length=n)(lS:D.map dO.l=tu hand x.ins):Fn aH 89 #[b0 cj,.slice cm n cE] ab (NT B ab cj cv (PK x (tu hand x.ins)).2 (PK x (tu hand x.ins)).1):=by
 obtain⟨dl,_⟩:=aFy x.ins hand (λr am=>by have:=v.aGA r am;omega) aP;have al:D.map (λd=>(d.l.length:Int))=x.ins:=by
  refine Eq.trans ?_ dl;rw[<-lS,lo];rfl
 have bU:=v.bU;have dF:=v.dF;exact XW (ix.up cn) (I.le_trans le cn) v.tag.1 v.tag.2 v.XL.1 v.XL.2.1 cm cE D n hs gf al {x with st:=(aDY x (tu hand x.ins)).2} ⟨bU,by simp only;omega⟩ rfl _ λan dZ G4=>aKv G4 (I.le_trans le (I.le_trans cn dZ)) v cm cE D n hs (gf.mono dZ) _ lS dl
theorem aiV{p:km}{T:Int}(fV:p.yh T){B h:I}{aT:Nat}{m:e8}{C:Nat}(k:cU B h aT m)(v:aD3 p (C+1) m.x){cK:Nat}{op:Int}{d':Nat}{dv:Int}(he:h cK=some (lQ op d' dv (.slice none 0 0) 0))(eD:B cK=none){i:Nat}{J:b6}(aEs:Eb p i J):J.k<8/\Fn aH (78+J.k) #[b0 aT,.agg #[.int .u8 J.k,R J.a,R J.b],b0 cK] h λ_ U=>nq B aT cK op d' dv (tl m.x J).1 (tl m.x J).2 U:=by
 have m0:=fV.m0;have m1:=fV.m1;have y2:=v.mem;have aP:=v.hand;have aI1:=v.jc;rcases aEs with⟨rfl,_⟩|⟨hk,a0,cP,bL,cy⟩|⟨hk,a0,cP,bL,cy⟩|⟨hk,a0,cP,bL,cy⟩|⟨hk,a0,cP,bL,cy⟩|⟨hk,a0,cP,bL,cy⟩|⟨hk,a0,cP,bL,cy⟩|⟨hk,a0,cP,bL⟩;refine⟨by simp,(aj6 k (w:=.int .u8 (0:Nat)) he eD ⟨aI1.1,by omega⟩).mono λ_ U q=>?_⟩;simp only[tl];split;rename_i aM;rw[aX aM]at q;exact q;rename_i aM;rw[aE aM]at q;exact q;all_goals
  obtain⟨bQ,a,b⟩:=J
  simp only at hk a0 cP bL
  subst hk
  obtain⟨a,rfl⟩:∃n:Nat,a=n:=⟨a.toNat,by omega⟩
  refine⟨by simp,?_⟩
  simp only[tl,bq]
 have aw:=v.er;exact amX k he a b a0 (by omega);simp only at cy;have aw:=v.er;have ol:=fV.op;have a6:a<m.x.er.length:=by omega
 have e:m.x.er.getD a 0=m.x.er[a]:=by rw[cN,bZ a6];rfl
 rw[e];exact aiY k he a b a0 (by simpa using a6) ⟨bL,by omega⟩;simp only at cy;have aw:=v.dv;have a6:a<m.x.lines.length:=by omega
 obtain⟨b,rfl⟩:∃n:Nat,b=n:=⟨b.toNat,by omega⟩;rw[aFC a6,bq];obtain⟨dc,c9,ha⟩:=v.line _ (cS a6);refine(ayt k (w:=.int .u8 (3:Nat)) he eD a b _ a6 rfl dc.1 ha.2 (by omega) (by omega) ⟨c9.1,by omega⟩ ⟨ha.1,by omega⟩ (by omega) (by omega) (by omega)).mono λ_ U q=>?_;split;rename_i aM;rw[aX aM]at q;exact q;rename_i aM;rw[aE aM]at q;exact q;simp only at cy;have aw:=v.dv;have a6:a<m.x.lines.length:=by omega
 obtain⟨b,rfl⟩:∃n:Nat,b=n:=⟨b.toNat,by omega⟩;rw[aFC a6,bq];obtain⟨dc,c9,ha⟩:=v.line _ (cS a6);refine(alH k (w:=.int .u8 (6:Nat)) he eD a b _ a6 rfl dc.1 (by omega) (by omega) ⟨c9.1,by omega⟩ ⟨ha.1,by omega⟩ (by omega) (by omega) (by omega)).mono λ_ U q=>?_;split;rename_i aM;rw[aX aM]at q;exact q;rename_i aM;rw[aE aM]at q;exact q;simp only at cy;have aw:=v.da;obtain⟨b,rfl⟩:∃n:Nat,b=n:=⟨b.toNat,by omega⟩;rw[bq];refine(awm k (w:=.int .u8 (4:Nat)) he eD a b (by omega) (by omega) (by omega) (by omega)).mono λ_ U q=>?_;split;rename_i aM;rw[aX aM]at q;exact q;rename_i aM;rw[aE aM]at q;split;rename_i aD;rw[aX aD]at q;exact q;rename_i aD;rw[aE aD]at q;exact q;simp only at cy;have aw:=v.wr;have a6:a<m.x.wr.length:=by omega
 obtain⟨b,rfl⟩:∃n:Nat,b=n:=⟨b.toNat,by omega⟩;rw[bq];have AU:=v.pG _ (cS a6);refine(az2 k (w:=.int .u8 (7:Nat)) he eD a b a6 (by omega) (by omega) (by omega) (by rw[aE9 a6];omega)).mono λ_ U q=>?_;split;rename_i aM;rw[aX aM]at q;exact q;rename_i aM;rw[aE aM]at q;exact q;have af:=v.b9;have av:=v.cB;have a6:a<m.x.jz.length:=by omega
 have mQ:a<m.x.pD.length:=by omega
 have bv:=v.rp _ (cS a6);have hS:=v.r3 a a6;have aE8:m.x.pD.getD a 0=m.x.pD[a]:=by rw[cN,bZ mQ];rfl
 rw[aE' a6]at hS⊢;rw[aE8]at hS⊢;subst bL;have go:=λaq:(m.x.hand.length:Int)=m.x.pD[a]=>(aFy m.x.jz[a].ins m.x.hand (λr am=>by have:=bv.aGA r am;omega) (aq.trans hS)).2;refine(call83 k (w:=.int .u8 (5:Nat)) (on:=R 0) he eD a a6 mQ _ rfl (by omega) bv.tag.1 bv.tag.2 bv.XL.1 bv.XL.2.1 go (PK m.x.jz[a] (tu m.x.hand m.x.jz[a].ins)).2 (PK m.x.jz[a] (tu m.x.hand m.x.jz[a].ins)).1 (λaq outs e=>?_) λaq cj cv ix ab cm cE D n cn gf hs lS=>?_).mono λ_ U q=>?_;have ck:=(aG4 bv m.x.hand (aq.trans hS)).2.2 outs e;have XL:=bv.XL.2.1;refine⟨λJ aL=>?_,by have:=ho e7 ck;simp at this;omega⟩;have:=bv.aKw (J.length:Int) (by rw[<-ck];exact dn.2 ⟨J,aL,rfl⟩);omega;exact XX ix k.le bv (aq.trans hS) ab cm cE D n cn gf hs lS;by_cases aq:(m.x.hand.length:Int)=m.x.pD[a];rw[aX aq]at q⊢;generalize PK m.x.jz[a] (tu m.x.hand m.x.jz[a].ins)=F at q⊢;obtain⟨r,eP⟩:=F;cases r with
 |some outs=>exact q
 |none=>exact q
 rw[aE aq]at q⊢;exact q
end Go.Sx
namespace Go.Sx
set_option maxRecDepth 100000
set_option maxHeartbeats 0
set_option linter.all false
theorem aIr{x:nc}{C:Nat}(aj:(bD x.tag x.be).1=0)(hC:C<=100000000):aDP C (B5 x):=by
 obtain⟨⟨t,av,t1,t2⟩,aJ,EB⟩:=aeE aj;have aE8:((x.tag.toNat:Nat):Int)=x.tag:=by omega
 refine⟨by show(bD (x.tag.toNat:Nat) x.be).1=0;rw[aE8];exact aj,by show _=(bD (x.tag.toNat:Nat) x.be).2.1;rw[aE8];rfl,by show _=(bD (x.tag.toNat:Nat) x.be).2.2;rw[aE8];rfl,λq=>?_,λq=>?_,JU _,?_⟩;have q:x.tag.toNat=1:=q;show(F' x.tag.toNat x.be).length+1=x.be.length;rw[q];have:=aJ (by omega);simp[F'];omega;have q:x.tag.toNat=8\/x.tag.toNat=10:=q;show(F' x.tag.toNat x.be).length=1;rcases q with q|q<;>rw[q]<;>rfl;show(0:Int)+C<=_;omega
theorem aD4.start{p:km}{T:Int}(fV:p.yh T){da:List (List Int)}(az:da.length=p.ins.toNat){C:Nat}(hC:C<=10000000):aD4 p C {j3 p with da:=da}:=by
 have al:(j3 p).mem.length=p.mem.toNat:=R4 _ _ _ (by simp) λy aQ=>by have:=fV.ch y aQ;have:=fV.m0;omega
 obtain⟨l,yY⟩:=fV.last;refine⟨⟨al,by simp[j3],λl al=>?_,az,by simp[j3],λw hw=>?_,by simp[j3],by simp[j3],λb af=>?_,λi ag=>?_,by simp[j3],by simp[j3],by show(0:Int)<=0;omega,by show(0:Int)+C<=_;omega⟩,rfl,rfl,JU _,by rw[yY];simp[j3]⟩;simp only[j3,dn]at al;obtain⟨y,aQ,rfl⟩:=al;have:=fV.ch y aQ;exact⟨⟨this.1,this.2.1,this.2.2.1⟩,⟨JU _,by simp⟩,by simp,this.2.2.2⟩;simp only[j3]at hw;rw[(Oe.1 hw).2];simp;omega;simp only[j3,dn]at af;obtain⟨y,aQ,rfl⟩:=af;exact aIr (fV.F8 y aQ) (by omega);simp only[j3,ih]at ag⊢;rw[aE' (by simpa using ag),aE3,cN,dV,bZ ag];rfl
end Go.Sx
namespace Go.Sx
open Go.Proofs
set_option maxRecDepth 100000
set_option maxHeartbeats 0
set_option linter.all false
variable {h:I}{T:Int}{p:km}
abbrev xl(n:Nat):ao:=.func (.func n) #[] #[]
def aff:List ao:=[xl 78,xl 79,xl 80,xl 81,xl 82,xl 83,xl 84,xl 85]
def Nd:Obj:=.cells aff.toArray 221 (0,0)
theorem ayw{k:Nat}(h:k<8):aff[k]?=some (xl (78+k)):=by
 have:k=0\/k=1\/k=2\/k=3\/k=4\/k=5\/k=6\/k=7:=by omega
 rcases this with rfl|rfl|rfl|rfl|rfl|rfl|rfl|rfl<;>rfl
theorem ayr(h:I):Fn aH 29 #[] h λv U=>h.le U/\∃je,v= .slice (some ⟨je,0,none⟩) 8 8/\h je=none/\U je=some Nd:=by
 refine b5 ar7 rfl ?_;refine .mk λb af=>?_;exact .done ⟨I.du af,b,rfl,af,I.bP _ _ _⟩
section
variable {B h:I}{aT:Nat}{m:e8}
theorem cU.aKA(k:cU B h aT m)(A2:Int)(L8:Nat)(hY:Int)(abM:Nat):cU B (h.put aT (.cells ({m with x:={m.x with zB:=true,A2:=A2,IH:=L8,II:=hY,IE:=abM}}:e8).cells.toArray 115 (0,0))) aT {m with x:={m.x with zB:=true,A2:=A2,IH:=L8,II:=hY,IE:=abM}}:=k.aex m.x.hand m.aO m.aw m.x.next m.x.jc true A2 L8 hY abM k.hand k.pf k.sep rfl
theorem axZ(fV:p.yh T){C:Nat}(k:cU B h aT m)(v:aD4 p (C+1) m.x){je:Nat}(bW:B je=some Nd):Fn aH 30 #[b0 aT,.slice (some ⟨je,0,none⟩) 8 8] h λv U=>∃dS bc gT c1 c2 eI,v= .agg #[gT,c1,c2,eI,.int .u8 (Js m.x).2]/\B.le dS/\cU dS U aT bc/\bc.x=(Js m.x).1:=by
 have iD:=v.st;have aC:=v.kx;have ol:=fV.op;obtain⟨kx,sA⟩:∃n:Nat,m.x.next=n:=⟨m.x.next.toNat,by omega⟩;obtain⟨ag,mo⟩:=v.op;have aEs:=fV.snd _ ag;rw[sA,bq]at ag;have aDH:Js m.x=Js m.x:=rfl;conv at aDH=>rhs;unfold Js
 rw[mo]at aDH;obtain⟨J,ay⟩:∃J,J=p.ops[m.x.next.toNat]'(by rw[sA];exact ag):=⟨_,rfl⟩;rw[<-ay]at aEs aDH;have aHh:p.ops[kx]?=some J:=by rw[bZ ag,ay];congr 2;omega
 rw[<-v.ops]at aHh ol;have ag:kx<m.x.ops.length:=by rw[v.ops];exact ag
 obtain⟨wM,al,am⟩:∃wM al,tl m.x J=(wM,al):=⟨_,_,rfl⟩;dsimp only at aDH;rw[am]at aDH;dsimp only at aDH;have va:((al=0\/al=1)/\Js m.x=({wM with next:=wM.next+1},al))\/(al=2/\Js m.x=(wM,al))\/(3<=al/\al<=4/\Js m.x=({wM with zB:=true,A2:=kx,IH:=J.k,II:=if J.k=3\/J.k=6 then J.a else-1,IE:=al},al)):=by
  have aR:al<=4:=by
   have:=aGU m.x J;rw[am]at this;exact this
  by_cases q:al=0\/al=1;rw[aX q]at aDH;exact .inl ⟨q,aDH⟩;rw[aE q]at aDH;by_cases aD:al=2;rw[aX aD]at aDH;exact .inr (.inl ⟨aD,aDH⟩);rw[aE aD,sA]at aDH;exact .inr (.inr ⟨by omega,aR,aDH⟩)
 have az7: -1<=wM.next/\wM.next<=1000000:=by
  obtain⟨_,_,ig,_⟩:=aGV (x:=m.x) (J:=J);rw[am]at ig;simp only at ig;rcases ig with e|⟨_,e⟩|⟨bB,e⟩;omega;omega;have:0<=J.b/\J.b<=1000000:=by
   rcases aEs with⟨h,_⟩|h|h|h|h|h|h|h;rw[h]at bB;cases bB;all_goals(have:=h.1;have:=h.2;have:=fV.op;omega)
  omega
 obtain⟨bh,HT⟩:=k.ops.cc (by omega);have lN:=(k.ops.mono k.le).row HT (i:=kx) (r:=b6.cells J) (by rw[dV,aHh];rfl);have Zs:J.k<8:=by rcases aEs with⟨h,_⟩|h|h|h|h|h|h|h<;>first|(rw[h];decide)|(have:=h.1;omega)
 refine b5 Rt rfl ?_;refine aK λgS dy gY=>?_;refine dy _ _ _ ?_;refine aK λgO dx eG=>?_;refine aK λgu df fK=>?_;refine .hp (.bool m.x.zB) (bN k.box rfl) ?_;rw[iD];refine df _ _ _ ?_;refine dx _ _ _ ?_;refine aK λgk ed eH=>?_;refine .hp (.slice m.ct m.x.ops.length m.bO) (bN k.box rfl) ?_;refine .hp (R m.x.next) (bN k.box rfl) ?_;rw[sA];refine .m bh HT ?_;refine .hp [.int .u8 J.k,R J.a,R J.b] rfl (by rw[bq];exact lN) ?_;refine ed _ _ _ ?_;refine aK λhA dY hL=>?_;refine .hp (R m.x.next) (bN k.box rfl) ?_;rw[sA];refine dY _ _ _ ?_;obtain⟨bQ,j5,px⟩:=J;have iH:∀(e:bY)(dv:Int)(Q:dL),[0,1,4,6,7].map e=[.v (b0 aT),.v (.slice (some ⟨je,0,none⟩) 8 8),.p 0 0,.p 1 0,.p 2 0]->(∀e U cK,[0,4,6,7].map e=[.v (b0 aT),.p 0 0,.p 1 0,.p 2 0]->nq B aT cK kx bQ dv wM al U->Q .normal e [.own [.v (R 0),.v (.int .u8 0),.v (R 0),.v (.slice none 0 0),.v (.int .u8 0)] 113,.own [.v (.int .u8 bQ),.v (R j5),.v (R px)] 66,.bV cK] U)->c7 aH 77 (.xP aqf) Q e [.own [.v (R 0),.v (.int .u8 0),.v (R 0),.v (.slice none 0 0),.v (.int .u8 0)] 113,.own [.v (.int .u8 bQ),.v (R j5),.v (R px)] 66,.own [.v (R kx),.v (.int .u8 bQ),.v (R dv),.v (.slice none 0 0),.v (.int .u8 0)] 113] h:=by
  intro e dv Q gD cD;rw[<-fr [0,1,4,6,7] e,gD];refine .mk ⟨je,0,none⟩ rfl (by omega) (by simp only at Zs;omega) ?_;refine .hp (xl (78+bQ)) (by rw[bq,add_lit,dJ,ew];exact bN (k.le _ _ bW) (ayw Zs)) ?_;refine .mk λcK Zb=>?_;obtain⟨_,arm⟩:=aiV fV (k.up (I.du (J:=lQ kx bQ dv (.slice none 0 0) 0) Zb)) v.w (cK:=cK) (op:=kx) (d':=bQ) (dv:=dv) (I.bP _ _ _) (I.none_le k.le Zb) aEs;rw[am]at arm;refine .done (.mk _ arm ?_);intro v U q;exact cD _ U cK rfl q
 refine aK λhc eT hi=>?_;have last:∀(e:bY)(dv:Int),dv=(if bQ=3\/bQ=6 then j5 else-1)->[0,1,4,6,7].map e=[.v (b0 aT),.v (.slice (some ⟨je,0,none⟩) 8 8),.p 0 0,.p 1 0,.p 2 0]->hc .normal e [.own [.v (R 0),.v (.int .u8 0),.v (R 0),.v (.slice none 0 0),.v (.int .u8 0)] 113,.own [.v (.int .u8 bQ),.v (R j5),.v (R px)] 66,.own [.v (R kx),.v (.int .u8 bQ),.v (R dv),.v (.slice none 0 0),.v (.int .u8 0)] 113] h:=by
  intro e dv anA gD;refine eT _ _ _ ?_;refine aK λkc gg j1=>?_;refine iH e dv kc gD λe U cK sq aiS=>?_;refine gg _ _ _ ?_;rw[<-fr [0,4,6,7] e,sq];obtain⟨dS,m1,A,n,c,aIR,gF,bJ,sD,lA⟩:=aiS;refine aK λko g' ja=>?_;refine aK λlq gX kR=>?_;refine .hp (.int .u8 al) (bN lA rfl) ?_;refine gX _ _ _ ?_;refine fG λsd lC sK=>?_;have fin:∀(e:bY)(ab:I)(m2:e8),[4,7].map e=[.p 0 0,.p 2 0]->cU dS ab aT m2->m2.x=(Js m.x).1->(Js m.x).2=al->ab cK=some (lQ kx bQ dv (.slice A n c) al)->ko .normal e [.own [.v (R 0),.v (.int .u8 0),.v (R 0),.v (.slice none 0 0),.v (.int .u8 0)] 113,.own [.v (.int .u8 bQ),.v (R j5),.v (R px)] 66,.bV cK] ab:=by
   intro e ab m2 CG bB hB HW Y';refine g' _ _ _ ?_;rw[<-fr [4,7] e,CG];refine .hp [R kx,.int .u8 bQ,R dv,.slice A n c,.int .u8 al] rfl (λo v ah=>by rw[add_lit,dJ];exact bN Y' ah) ?_;refine .done ⟨dS,m2,R kx,.int .u8 bQ,R dv,.slice A n c,?_,gF,bB,hB⟩;rw[HW];rfl
  rcases va with⟨anu,an6⟩|⟨rfl,an6⟩|⟨CK,Zw,an6⟩;rw[<-sD]at az7 an6;have acM:∀(e:bY),[0,4,7].map e=[.v (b0 aT),.p 0 0,.p 2 0]->c7 aH 77 (.ch aqg) sd e [.own [.v (R 0),.v (.int .u8 0),.v (R 0),.v (.slice none 0 0),.v (.int .u8 0)] 113,.own [.v (.int .u8 bQ),.v (R j5),.v (R px)] 66,.bV cK] U:=by
   intro e CG;rw[<-fr [0,4,7] e,CG];refine .hp (R m1.x.next) (bN bJ.box rfl) ?_;refine .aLS ?_;refine .hp aT 9 115 _ ({m1 with x:={m1.x with next:=m1.x.next+1}}:e8).cells rfl bJ.box rfl ?_;refine sK _ _ _ _ nofun ?_;exact fin _ _ _ rfl (bJ.M6 (m1.x.next+1) m1.x.jc) (by rw[an6]) (by rw[an6]) (jx.Bc bJ _ _ _ lA)
  rcases anu with rfl|rfl;refine aK λqx lD pr=>?_;refine lD _ _ _ ?_;refine ot rfl (λ_=>?_) nofun;exact acM _ rfl;refine aK λqx lD pr=>?_;refine lD _ _ _ ?_;refine ot rfl (λ_=>?_) nofun;exact acM _ rfl;refine sK _ _ _ _ nofun ?_;exact fin _ _ m1 rfl bJ (by rw[an6];exact sD) (by rw[an6]) lA;obtain⟨rfl,rfl,rfl⟩:=aIR CK;rw[<-sD]at an6;have bB:=bJ.aKA kx bQ dv al;have gD:=jx.Bc bJ (.cells ({m1 with x:={m1.x with zB:=true,A2:=kx,IH:=bQ,II:=dv,IE:=al}}:e8).cells.toArray 115 (0,0)) _ _ lA;rcases(show al=3\/al=4 by omega)with rfl|rfl;all_goals
   refine aK λqx lD pr=>?_
   refine lD _ _ _ ?_
   refine ot rfl (λq=>absurd q (by decide)) (λ_=>?_)
   refine aK λut nJ xG=>?_
   refine nJ _ _ _ ?_
   refine ot rfl (λ_=>?_) (λq=>absurd q (by decide))
   refine .hp [R kx,.int .u8 bQ,R dv,.slice none 0 0,.int .u8 _] rfl (λo v ah=>by rw[add_lit,dJ];exact bN lA ah) ?_
   refine .hp aT 11 115 _ ({m1 with x:={m1.x with zB:=true}}:e8).cells rfl bJ.box rfl ?_
   refine .hp aT 12 115 _ ({m1 with x:={m1.x with zB:=true,A2:=kx,IH:=bQ,II:=dv,IE:=_}}:e8).cells rfl (I.bP _ _ _) rfl ?_
   refine sK _ _ _ _ nofun ?_
   rw[sZ]
   refine fin _ _ _ rfl bB (by rw[an6,anA]) (by rw[an6]) gD
 refine aK λkb fE i'=>?_;conv=>whnf
 by_cases an:bQ=3;rw[fo (by simp only;omega)];refine fE _ _ _ ?_;conv=>whnf
 exact last _ j5 (by rw[aX (.inl an)]) rfl;rw[gU (by simp only;omega)];refine fE _ _ _ ?_;refine ot rfl (λq=>?_) (λq=>?_);have q:=qb q;exact last _ j5 (by rw[aX (.inr (by simp only at q;omega))]) rfl;have q:=tZ q;exact last _ (-1) (by rw[aE (by rintro(e|e);exact an e;simp only at q;omega)]) rfl
end
section
variable {aT:Nat}
theorem awY(Q:dL)(e:bY)(zI ai:I)(m0:e8)(ve:cU zI ai aT m0){je:Nat}(bW:zI je=some Nd)(to:Int)(fV:p.yh T)(F:Nat)(v0:aD4 p F m0.x)(cw:kl)(halt:Nat)(am:runM F m0.x to=some (cw,halt))(he:[0,6,7].map e=[.v (b0 aT),.v (.slice (some ⟨je,0,none⟩) 8 8),.v (R to)])(Qe:∀U dS bc,halt=1->zI.le dS->cU dS U aT bc->bc.x=cw->aD3 p 0 cw->∀e,Q (.exit 0) e [] U)(Qf:∀e U dS bc,zI.le dS->cU dS U aT bc->bc.x=cw->aD3 p 0 cw->[4,5].map e=[.v (.int .u8 halt),.v (R 0)]->Q .ret e [] U):kH (λQ e L h=>c7 aH 41 aoM Q e L h) Q e [] ai:=by
 refine .mk (Nat×I×e8) [0,6,7] (λ_=>[.v (b0 aT),.v (.slice (some ⟨je,0,none⟩) 8 8),.v (R to)]) (λ_=>[]) (λ(f,dS,bc) U=>cU dS U aT bc/\zI.le dS/\aD4 p f bc.x/\runM f bc.x to=some (cw,halt)) (λ(f,_)=>f) (F,zI,m0) (λ_=>rfl) ⟨ve,I.le_refl _,v0,am⟩ he rfl ?_;rintro⟨f,dS,bc⟩ e h ⟨k,gF,v,am⟩;cases f with
 |zero=>cases am
 |succ f=>
  rw[runM]at am;refine aK λhc eT hi=>?_;refine aK λkb fE i'=>?_;refine .hp (R bc.x.jc) (bN k.box rfl) ?_;refine fE _ _ _ ?_;refine ot rfl (λq=>?_) (λq=>?_)
  .rw[aX (qb q)]at am;obtain⟨aE1,afJ⟩:=v.step fV;have aKz:=axZ fV k v (gF _ _ bW);refine eT _ _ _ ?_;refine fG λkc gg j1=>?_;refine aK λko g' ja=>?_;refine .done (.mk _ aKz ?_);rintro _ ab ⟨hz,m2,gT,c1,c2,eI,rfl,cn,bB,hB⟩;refine g' _ _ _ ?_;have aR:=aKC bc.x;obtain⟨wM,al,aj⟩:∃wM al,Js bc.x=(wM,al):=⟨_,_,rfl⟩;rw[aj]at am aE1 afJ hB aR⊢;simp only at am aE1 afJ hB aR⊢;have go:al=0\/al=1->∃y:Nat×I×e8,y.1<f+1/\cU y.2.1 ab aT y.2.2/\zI.le y.2.1/\aD4 p y.1 y.2.2.x/\runM y.1 y.2.2.x to=some (cw,halt):=λq=>by
    rw[aX q]at am;exact⟨(f,hz,m2),Nat.lt_succ_self _,bB,I.le_trans gF cn,by rw[hB];exact afJ q,by rw[hB];exact am⟩
   rcases(show al=0\/al=1\/al=2\/al=3\/al=4 by omega)with rfl|rfl|rfl|rfl|rfl;obtain⟨h2,hl,aDA⟩:=go (.inl rfl);refine j1 _ _ _ _ nofun ?_;exact⟨h2,rfl,rfl,aDA,hl⟩;obtain⟨h2,hl,aDA⟩:=go (.inr rfl);refine j1 _ _ _ _ nofun ?_;exact⟨h2,rfl,rfl,aDA,hl⟩;all_goals
    rw[aE (by omega)]at am
    have am:=oB am
    injection am with aJ aI
    refine j1 _ _ _ _ nofun ?_
    exact Qf _ _ hz m2 (I.le_trans gF cn) bB (hB.trans aJ) (by rw[<-aJ];exact aE1.down) (by rw[<-aI];rfl)
  rw[aE (tZ q)]at am;have am:=oB am;injection am with aJ aI;refine hi _ _ _ _ nofun ?_;exact Qe _ dS bc aI.symm gF k aJ (by rw[<-aJ];exact v.w.down) _
theorem awV{B:I}{m:e8}(k:cU B h aT m)(n:Nat)(aC:n<=8)(hp:0<=m.x.jc/\m.x.jc<=1000000000)(fV:p.yh T)(F:Nat)(v:aD4 p F m.x)(cw:kl)(halt:Nat)(am:runM F m.x (m.x.jc+n)=some (cw,halt)):Fn aH 10 #[b0 aT,R n] h λv U=>∃dS bc,v= .tuple #[.int .u8 halt,R 0]/\B.le dS/\cU dS U aT bc/\bc.x=cw/\aD3 p 0 cw:=by
 refine b5 aaO rfl ?_;refine aK λgS dy gY=>?_;refine dy _ _ _ ?_;refine aK λgO dx eG=>?_;refine dx _ _ _ ?_;refine aK λgu df fK=>?_;refine aK λgk ed eH=>?_;conv=>whnf
 rw[gU (by omega)];refine ed _ _ _ ?_;refine aW (λq=>by omega) (λ_=>?_);refine df _ _ _ ?_;refine aK λhA dY hL=>?_;refine .done (.mk _ (ayr h) ?_);rintro _ h1 ⟨cr,je,rfl,ayv,AS⟩;refine dY _ _ _ ?_;refine aK λhc eT hi=>?_;refine aK λkb fE i'=>?_;refine .hp (R m.x.jc) (bN (cr _ _ k.box) rfl) ?_;refine .aLS ?_;refine fE _ _ _ ?_;refine fG λkc gg j1=>?_;have bJ:=k.grow cr;have bW:(B.grow h h1) je=some Nd:=by
  unfold I.grow;rw[I.mX (S:=λo=>B o≠none\/h o=none) (.inr ayv)];exact AS
 refine .lj (.done (awY kc _ (B.grow h h1) h1 m bJ bW (m.x.jc+n) fV F v cw halt am rfl (λU dS bc aJ gF e1 AV ah e=>?_) (λe U dS bc gF e1 AV ah he=>?_)));refine gg _ _ _ (eT _ _ _ ?_);refine .done ⟨dS,bc,?_,I.le_trans (Cs k.le cr) gF,e1,AV,ah⟩;rw[aJ];rfl;refine j1 _ _ _ _ nofun (hi _ _ _ _ nofun ?_);rw[<-fr [4,5] e,he];exact .done ⟨dS,bc,rfl,I.le_trans (Cs k.le cr) gF,e1,AV,ah⟩
end
theorem auL{b:Nat}{l:List Int}(af:h b=some (gB l)):bg h 1 (some ⟨b,0,none⟩) l.length (gZ l):=bg.lit (cs:=l.map R) af (xj l) (λr am=>by obtain⟨z,_,rfl⟩:=dn.1 am;rfl) (by simp[gZ])
section
variable {B h:I}{aT:Nat}{m:e8}
theorem atU(k:cU B h aT m)(hm:m.x.mem.length<=100000):Fn aH 17 #[b0 aT] h (zY h m.x.mem.length (m.x.mem.map R)):=by
 have Sm:=adl _ m.x.mem.length m.x.mem.length m.x.mem h (auL k.mem) (by omega);refine b5 arB rfl ?_;refine .hp (mK m.dM m.x.mem.length) (bN k.box rfl) ?_;refine .done (.mk _ Sm ?_);intro v U q;obtain⟨le,A,c,rfl,r,f⟩:=q;exact .done ⟨le,A,c,rfl,r,f⟩
theorem avh(k:cU B h aT m)(a:Nat)(a6:a<m.x.wr.length)(al:(m.x.wr.getD a []).length<=1000000000):Fn aH 34 #[.pointer (some ⟨aT,2,none⟩),R a] h (zY h (m.x.wr.getD a []).length ((m.x.wr.getD a []).map R)):=by
 have fI:a<m.wr.length:=by rw[<-ih (f:=dO.l),k.pG];exact a6
 obtain⟨d,aB⟩:∃d,m.wr[a]=d:=⟨_,rfl⟩;have uZ:d∈m.wr:=by rw[<-aB];exact cS fI
 have xq:m.x.wr.getD a []=d.l:=by
  rw[<-k.pG,cN,dV,bZ fI,aB];rfl
 rw[xq]at al⊢;have Sm:=adl d.A d.l.length d.c d.l h (k.jg d uZ).one (by omega);have jP:h.cell? ((⟨m.fX,0,none⟩:ar).add (a*1))=some d.val:=by
  rw[add_lit,dJ,ew];exact bN k.wr (by simp[fI,aB])
 refine b5 ar9 rfl ?_;refine aK λgS dy gY=>?_;refine dy _ _ _ ?_;refine aK λgO dx eG=>?_;refine aK λgu df fK=>?_;conv=>whnf
 rw[gU (by omega)];refine .hp (mK m.fX m.wr.length) (bN k.box rfl) ?_;refine df _ _ _ ?_;refine aW (λq=>by omega) (λ_=>?_);refine dx _ _ _ ?_;refine .hp (mK m.fX m.wr.length) (bN k.box rfl) ?_;refine .mk ⟨m.fX,0,none⟩ rfl (by omega) (by omega) ?_;refine .hp (.slice d.A d.l.length d.c) (by rw[bq];exact jP) ?_;refine .done (.mk _ Sm ?_);rintro _ U ⟨le,A,c,rfl,r,f⟩;exact .done ⟨le,A,c,rfl,r,f⟩
theorem avg(k:cU B h aT m)(a:Nat)(a6:a<m.x.wr.length)(al:(m.x.wr.getD a []).length<=1000000000):Fn aH 13 #[b0 aT,R a] h (zY h (m.x.wr.getD a []).length ((m.x.wr.getD a []).map R)):=by
 have auM:=avh k a a6 al;refine b5 arc rfl ?_;refine .done (.mk _ auM ?_);rintro _ U ⟨le,A,c,rfl,r,f⟩;exact .done ⟨le,A,c,rfl,r,f⟩
theorem akM(k:cU B h aT m)(a:Nat)(a6:a<m.da.length)(ai:m.da[a]=⟨none,0,[]⟩)(A:Option ar)(n c:Nat)(l:List Int)(t:bg h 1 A n (gZ l))(aC:n<=17592186044416):Fn aH 77 #[.pointer (some ⟨aT,2,none⟩),R a,.slice A n c] h λv U=>v=R 0/\∃dS bc,B.le dS/\cU dS U aT bc/\bc.x={m.x with da:=m.x.da.set a l}/\∃d,bc.da=m.da.set a d:=by
 have al:l.length=n:=by simpa using t.len
 refine b5 asE rfl ?_;have pW:=k.akJ a6;rw[ai]at pW;refine aK λgS dy gY=>?_;refine dy _ _ _ ?_;refine aK λgO dx eG=>?_;refine aK λgu df fK=>?_;conv=>whnf
 rw[gU (by omega)];refine .hp (mK m.ff m.da.length) (bN k.box rfl) ?_;refine df _ _ _ ?_;refine aW (λq=>by omega) (λ_=>?_);refine dx _ _ _ ?_;refine aK λgk ed eH=>?_;refine .hp (mK m.ff m.da.length) (bN k.box rfl) ?_;refine .hp (mK m.ff m.da.length) (bN k.box rfl) ?_;refine .mk ⟨m.ff,0,none⟩ rfl (by omega) (by omega) ?_;refine .hp (.slice none 0 0) (by rw[bq];exact pW) ?_;refine .fresh (l.map R) rfl rfl rfl (by rw[<-xj];exact t.src _) (λu hu=>by obtain⟨x,_,rfl⟩:=dn.1 hu;rfl) (by unfold c';omega) (by omega) λbA bu aO=>?_;refine .mk ⟨m.ff,0,none⟩ rfl (by omega) (by omega) ?_;refine .hp m.ff (0+a*1) 27 (m.da.map dO.val) ((m.da.set a ⟨bA,bu,l⟩).map dO.val) (by rw[add_lit,bq]) k.da ?_ ?_;rw[dJ,ew,ib _ _ _ (by rw[ih];exact a6),nb];show some ((m.da.map dO.val).set a (.slice bA n bu))=some ((m.da.map dO.val).set a (.slice bA l.length bu));rw[al];refine ed _ _ _ ?_;refine .bV 0 3 1 bA n bu (l.map R) rfl λaR cW fT f4=>.done ⟨rfl,?_⟩;have IS:∀g,bA=some g->g.block≠m.ff/\h g.block=none:=λg ak=>by
  have q:=f4 g ak;have ne:g.block≠m.ff:=λe=>by rw[e,I.bP]at q;cases q
  rw[I.cf _ _ ne]at q;exact⟨ne,q⟩
 have fW:h.le (aR.put m.ff (.cells (m.da.map dO.val).toArray 27 (0,0))):=λo J ae=>by
  by_cases e:o=m.ff;subst e;rw[k.da]at ae;rw[I.bP];exact ae;rw[I.cf _ _ e];exact cW _ _ (by rw[I.cf _ _ e];exact ae)
 have bJ:=k.grow fW;have mA:bz (B.grow h (aR.put m.ff (.cells (m.da.map dO.val).toArray 27 (0,0)))) 3 1 bA n bu (l.map R):=(bz.ju fT λg ak=>(IS g ak).1).grown λg ak=>(IS g ak).2;have bB:=bJ.aez (m.da.set a ⟨bA,bu,l⟩) (by simp) (λy aQ=>by
  rcases ahp aQ with aQ|rfl;exact bJ.pX y aQ;refine⟨?_,?_⟩;show bg _ 1 bA l.length (gZ l);rw[al];exact mA.one;show l.length<=bu;rw[al];exact aO.2)
 rw[sZ,rW (cW _ _ (I.bP _ _ _))]at bB;refine⟨_,_,Cs k.le fW,bB,?_,_,rfl⟩;simp only;rw[nb,k.qH]
theorem akL(k:cU B h aT m)(a:Nat)(a6:a<m.da.length)(ai:m.da[a]=⟨none,0,[]⟩)(A:Option ar)(n c:Nat)(l:List Int)(t:bg h 1 A n (gZ l))(aC:n<=17592186044416):Fn aH 28 #[b0 aT,R a,.slice A n c] h λv U=>v=R 0/\∃dS bc,B.le dS/\cU dS U aT bc/\bc.x={m.x with da:=m.x.da.set a l}/\∃d,bc.da=m.da.set a d:=by
 have f77:=akM k a a6 ai A n c l t aC;refine b5 ar6 rfl ?_;refine .done (.mk _ f77 ?_);rintro _ U ⟨rfl,q⟩;exact .done ⟨rfl,q⟩
end
theorem aGX{B:I}{aT:Nat}{m:e8}(k:cU B h aT m)(n:Nat)(aC:m.x.lines.length=n)(al:n<=1000):Fn aH 20 #[b0 aT] h (zY h n ((m.x.lines.map m'.bF).map R)):=by
 have mx:=k.mx;have cB:bg h 4 m.eA m.x.lines.length (m.x.lines.map m'.cells):=bz.dG mx (λr am=>by obtain⟨x,_,rfl⟩:=dn.1 am;rfl) (by decide);obtain⟨cs,fg⟩:∃cs,cs=m.x.lines.map m'.bF:=⟨_,rfl⟩;rw[<-fg];have cl:cs.length=n:=by rw[fg];simpa using aC
 have aIt:=k.box;have aIU:h.cell? ⟨aT,1,none⟩=some (.slice m.eA n m.lc):=by rw[<-aC];exact bN aIt rfl
 rw[aC]at cB;refine b5 aJf rfl ?_;refine aK λgS dy gY=>?_;refine dy _ _ _ ?_;refine aK λgO dx eG=>?_;refine aK λgu df fK=>?_;refine df _ _ _ ?_;refine dx _ _ _ ?_;refine aK λgk ed eH=>?_;refine ed _ _ _ ?_;refine aK λhA dY hL=>?_;refine aK λhc eT hi=>?_;refine .hp (.slice m.eA n m.lc) aIU ?_;refine eT _ _ _ ?_;refine fG λkb fE i'=>?_;refine .lj (.abs 3 1 none 0 0 [] ⟨rfl,.inl ⟨rfl,rfl,rfl⟩⟩ (.done ?_));show kH _ _ _ _ h;refine .mk (Nat×Option ar×Nat) [3,12,13,14] (λ(o,A,c)=>[.v (.slice A o c),.v (.slice m.eA n m.lc),.v (R n),.v (R o)]) (λ(o,A,c)=>[.row 3 1 A o c ((cs.take o).map R)]) (λ(o,_,_) U=>U=h/\o<=n) (λ(o,_,_)=>n-o) (0,none,0) (λ_=>rfl) ⟨rfl,cO _⟩ rfl rfl ?_;rintro⟨o,A,c⟩ e _ ⟨rfl,ae⟩;refine aK λkc gg j1=>?_;refine gg _ _ _ ?_;refine aK λko g' ja=>?_;refine aW (λq=>?_) (λq=>?_);have E6:o<m.x.lines.length:=by omega
 obtain⟨g,ak⟩:=cB.cc (by omega);have lu:=cB.row ak (i:=o) (r:=m'.cells m.x.lines[o]) (iM E6);have hS:cs.take (o+1)=cs.take o++[m.x.lines[o].bF]:=by
  have:o<cs.length:=by omega
  rw[kh this];congr 2;subst fg;exact aE3 ..
 generalize m.x.lines[o]=x at lu hS;refine g' _ _ _ ?_;refine aK λlq gX kR=>?_;refine fG λsd lC sK=>?_;refine aK λqx lD pr=>?_;refine .m g ak ?_;refine .hp [R x.base,R x.size,R x.at_,R x.bF] rfl (by rw[bq];exact lu) ?_;refine lD _ _ _ ?_;refine .done (.cR 0 _ [R x.bF] rfl rfl (by intro u hu;rw[fx]at hu;subst hu;rfl) (by unfold c';omega) (by omega) λbA bu _=>?_);refine sK _ _ _ _ nofun (gX _ _ _ ?_);refine .aLS ?_;refine⟨(o+1,bA,bu),rfl,?_,⟨rfl,by omega⟩,by show n- (o+1)<n-o;omega⟩;show _=[LE.row 3 1 bA (o+1) bu ((cs.take (o+1)).map R)];rw[hS,fm];rfl;refine ja _ _ _ _ nofun (fE _ _ _ (dY _ _ _ ?_));obtain rfl:o=n:=by omega
 refine .bV 0 3 1 A o c _ rfl λU le r f=>.done ⟨le,A,c,rfl,?_,f⟩;rw[k4 (by omega)]at r;exact r
end Go.Sx
namespace Go.Sx
set_option maxRecDepth 100000
set_option maxHeartbeats 0
set_option linter.all false
def core(x:kl):kl:={x with ops:=[],er:=[],next:=0,jc:=0,zB:=false,A2:=0,IH:=0,II:=0,IE:=0}
def aEg:List b6->kl->kl×Nat
 |[],x=>(x,0)
 |J::l,x=>if(tl x J).2=0 then aEg l (tl x J).1 else tl x J
def aDG(ax:List (List b6)):List Int->kl->kl×Nat
 |[],x=>(x,0)
 |v::l,x=>if(aEg (ax.getD v.toNat []) x).2=0 then aDG ax l (aEg (ax.getD v.toNat []) x).1 else aEg (ax.getD v.toNat []) x
theorem aGt(ax:List (List b6)):∀(l m:List Int)(x:kl),aDG ax (l++m) x=if(aDG ax l x).2=0 then aDG ax m (aDG ax l x).1 else aDG ax l x
 |[],m,x=>rfl
 |v::l,m,x=>by
  rw[List.cons_append,aDG,aDG];by_cases h:(aEg (ax.getD v.toNat []) x).2=0;rw[aX h,aX h];exact aGt ax l m _
  grind
theorem aJ4(ax:List (List b6))(v:Int)(x:kl):aDG ax [v] x=aEg (ax.getD v.toNat []) x:=by
 grind [aDG]
def aDJ(to:Int):Nat->kl->(kl->Prop)->(kl×Nat->Prop)->Prop
 |0,x,E,_=>E x
 |n+1,x,E,H=>E x\/(x.jc<to/\if(Js x).2=0\/(Js x).2=1 then aDJ to n (Js x).1 E H else H (Js x))
section
variable {to:Int}{E agx:kl->Prop}{H lH:kl×Nat->Prop}
theorem aDJ.imp(cV:∀y,E y->agx y)(hH:∀r,H r->lH r):∀{n:Nat}{x:kl},aDJ to n x E H->aDJ to n x agx lH
 |0,_,g=>cV _ g
 |n+1,x,g=>by
  rcases g with g|⟨h,g⟩;exact .inl (cV _ g);refine .inr ⟨h,?_⟩;split at g;rename_i q;rw[aX q];exact aDJ.imp cV hH g
  grind
theorem aDJ.up:∀{n m:Nat}{x:kl},aDJ to n x E H->n<=m->aDJ to m x E H
 |0,0,_,g,_=>g
 |0,m+1,_,g,_=>.inl g
 |n+1,0,_,_,h=>absurd h (Nat.not_succ_le_zero _)
 |n+1,m+1,x,g,h=>by
  rcases g with g|⟨ab,g⟩;exact .inl g;refine .inr ⟨ab,?_⟩;split at g;rename_i q;rw[aX q];exact aDJ.up g (Nat.le_of_succ_le_succ h)
  grind
theorem aDJ.bind{m:Nat}(k:∀y,E y->aDJ to m y agx H):∀{n:Nat}{x:kl},aDJ to n x E H->aDJ to (n+m) x agx H
 |0,x,g=>by rw[dJ];exact k _ g
 |n+1,x,g=>by
  rcases g with g|⟨ab,g⟩;exact(k _ g).up (by omega);rw[Nat.add_right_comm];refine .inr ⟨ab,?_⟩;split at g;rename_i q;rw[aX q];exact aDJ.bind k g
  grind
theorem aDJ.run(cV:∀y,E y->¬y.jc<to):∀{n:Nat}{x:kl},aDJ to n x E H->∃r,runM (n+1) x to=some r/\((r.2=1/\E r.1)\/H r)
 |0,x,g=>⟨(x,1),by rw[runM,aE (cV _ g)],.inl ⟨rfl,g⟩⟩
 |n+1,x,g=>by
  rcases g with g|⟨ab,g⟩;exact⟨(x,1),by grind [runM],.inl ⟨rfl,g⟩⟩;rw[runM,aX ab];split at g;rename_i q;rw[aX q];exact aDJ.run cV g
  grind
theorem aDJ.step{n:Nat}{x:kl}(h:x.jc<to)(ai:(Js x).2=0\/(Js x).2=1)(g:aDJ to n (Js x).1 E H):aDJ to (1+n) x E H:=by
 rw[vL];refine .inr ⟨h,?_⟩
 grind
end
theorem aIo(x:kl)(J:b6)(hk:3<=J.k):(tl (core x) J).2=(tl x J).2/\core (tl x J).1=(tl (core x) J).1/\((tl x J).1.ops=x.ops/\(tl x J).1.er=x.er/\(tl x J).1.next=x.next/\(tl x J).1.jc=x.jc/\(tl x J).1.zB=x.zB)/\((tl x J).2=0\/2<=(tl x J).2):=by
 obtain⟨k,a,b⟩:=J;have aw:k=3\/k=4\/k=5\/k=6\/∃n,k=n+7:=by
  by_cases q:7<=k;exact .inr (.inr (.inr (.inr ⟨k-7,by omega⟩)))
  grind
 rcases aw with rfl|rfl|rfl|rfl|⟨n,rfl⟩;by_cases q:(x.lines.getD a.toNat aEe).bF<b.toNat\/64<x.hand.length+b.toNat;rw[show tl x ⟨3,a,b⟩=(x,4)from aX q,show tl (core x) ⟨3,a,b⟩=(core x,4)from aX q];simp;rw[show tl x ⟨3,a,b⟩=(DH x a.toNat (x.lines.getD a.toNat aEe) b.toNat,0)from aE q,show tl (core x) ⟨3,a,b⟩=(DH (core x) a.toNat (x.lines.getD a.toNat aEe) b.toNat,0)from aE q];exact⟨rfl,rfl,⟨rfl,rfl,rfl,rfl,rfl⟩,.inl rfl⟩;by_cases q:64<x.hand.length+b.toNat;rw[show tl x ⟨4,a,b⟩=(x,4)from aX q,show tl (core x) ⟨4,a,b⟩=(core x,4)from aX q];simp;by_cases aD:(x.da.getD a.toNat []).length<b.toNat;rw[show tl x ⟨4,a,b⟩=(x,2)from(aE q).trans (aX aD),show tl (core x) ⟨4,a,b⟩=(core x,2)from(aE q).trans (aX aD)];simp;rw[show tl x ⟨4,a,b⟩=(S5 x a.toNat b.toNat,0)from(aE q).trans (aE aD),show tl (core x) ⟨4,a,b⟩=(S5 (core x) a.toNat b.toNat,0)from(aE q).trans (aE aD)];exact⟨rfl,rfl,⟨rfl,rfl,rfl,rfl,rfl⟩,.inl rfl⟩;by_cases q:(x.hand.length:Int)=x.pD.getD a.toNat 0;obtain⟨r,eP,e⟩:∃r eP,PK (x.jz.getD a.toNat aEn) (tu x.hand (x.jz.getD a.toNat aEn).ins)=(r,eP):=⟨_,_,rfl⟩;have aJ:tl x ⟨5,a,b⟩=match PK (x.jz.getD a.toNat aEn) (tu x.hand (x.jz.getD a.toNat aEn).ins)with
  |(some outs,b)=>(Km x a.toNat b outs,0)
  |(none,b)=>({x with jz:=x.jz.set a.toNat b},3):=aX q
 have aI:tl (core x) ⟨5,a,b⟩=match PK (x.jz.getD a.toNat aEn) (tu x.hand (x.jz.getD a.toNat aEn).ins)with
  |(some outs,b)=>(Km (core x) a.toNat b outs,0)
  |(none,b)=>({core x with jz:=x.jz.set a.toNat b},3):=aX q
 rw[e]at aJ aI;rw[aJ,aI];cases r with
 |some outs=>exact⟨rfl,rfl,⟨rfl,rfl,rfl,rfl,rfl⟩,.inl rfl⟩
 |none=>exact⟨rfl,rfl,⟨rfl,rfl,rfl,rfl,rfl⟩,.inr (show 2<=3 by decide)⟩
 rw[show tl x ⟨5,a,b⟩=(x,4)from aE q,show tl (core x) ⟨5,a,b⟩=(core x,4)from aE q];simp;by_cases q:x.hand.length<b.toNat\/(x.lines.getD a.toNat aEe).size<(x.lines.getD a.toNat aEe).bF+b.toNat;rw[show tl x ⟨6,a,b⟩=(x,4)from aX q,show tl (core x) ⟨6,a,b⟩=(core x,4)from aX q];simp;rw[show tl x ⟨6,a,b⟩=(KZ x a.toNat (x.lines.getD a.toNat aEe) b.toNat,0)from aE q,show tl (core x) ⟨6,a,b⟩=(KZ (core x) a.toNat (x.lines.getD a.toNat aEe) b.toNat,0)from aE q];exact⟨rfl,rfl,⟨rfl,rfl,rfl,rfl,rfl⟩,.inl rfl⟩;by_cases q:x.hand.length<b.toNat;rw[show tl x ⟨n+7,a,b⟩=(x,4)from aX q,show tl (core x) ⟨n+7,a,b⟩=(core x,4)from aX q];simp;rw[show tl x ⟨n+7,a,b⟩=(T7 x a.toNat b.toNat,0)from aE q,show tl (core x) ⟨n+7,a,b⟩=(T7 (core x) a.toNat b.toNat,0)from aE q];exact⟨rfl,rfl,⟨rfl,rfl,rfl,rfl,rfl⟩,.inl rfl⟩
theorem aIN{pre post:List b6}{J:b6}{n:Int}(h:n=pre.length):(pre++J::post).getD n.toNat aEF=J:=by
 grind
structure aEl(op:Nat)(x y:kl):Prop where
 ops:y.ops=x.ops
 jc:y.jc=x.jc
 st:y.zB=x.zB
 len:y.er.length=x.er.length
 er:∀i,i<op->y.er.getD i 0=x.er.getD i 0
theorem aEl.refl(op:Nat)(x:kl):aEl op x x:=⟨rfl,rfl,rfl,rfl,λ_ _=>rfl⟩
theorem aEl.trans{op:Nat}{x y z:kl}(a:aEl op x y)(b:aEl op y z):aEl op x z:=⟨b.ops.trans a.ops,b.jc.trans a.jc,b.st.trans a.st,b.len.trans a.len,λi ag=>(b.er i ag).trans (a.er i ag)⟩
def aEG(op:Nat)(x:kl)(kx:Nat)(r:kl×Nat)(y:kl):Prop:=r.2=0/\core y=r.1/\y.next=(kx:Nat)/\aEl op x y
def aEk(r:kl×Nat)(s:kl×Nat):Prop:=s.2=r.2/\2<=s.2/\core s.1=r.1
theorem aHK(to:Int)(op:Nat):∀(l:List b6)(x:kl)(pre post:List b6),(∀J∈l,3<=J.k)->x.ops=pre++(l++post)->x.next=pre.length->x.jc<to->aDJ to l.length x (aEG op x (pre.length+l.length) (aEg l (core x))) (aEk (aEg l (core x)))
 |[],x,pre,post,_,_,aC,_=>⟨rfl,rfl,by omega,aEl.refl _ _⟩
 |J::l,x,pre,post,hk,aL,aC,hp=>by
  have ak:x.ops.getD x.next.toNat aEF=J:=by grind
  obtain⟨cP,a2,⟨bL,cy,gE,iW,jy⟩,a3⟩:=aIo x J (hk J (iU ..));have aDH:Js x=if(tl x J).2=0\/(tl x J).2=1 then({(tl x J).1 with next:=(tl x J).1.next+1},(tl x J).2)else if(tl x J).2=2 then tl x J else({(tl x J).1 with zB:=true,A2:=x.next,IH:=J.k,II:=if J.k=3\/J.k=6 then J.a else-1,IE:=(tl x J).2},(tl x J).2):=by
   unfold Js;rw[ak]
  rw[gI,vL l.length 1];rcases a3 with a3|a3;rw[aX (.inl a3)]at aDH;refine .step hp (by grind) ?_;rw[aDH];have bE:=aHK to op l {(tl x J).1 with next:=(tl x J).1.next+1} (pre++[J]) post (λJ aL=>hk J (iv _ aL)) (by grind) (by grind) (by grind);have cM:core ({(tl x J).1 with next:=(tl x J).1.next+1}:kl)=(tl (core x) J).1:=a2;rw[cM]at bE;have Ca:aEg (J::l) (core x)=aEg l (tl (core x) J).1:=by grind [aEg]
  rw[Ca];refine bE.imp (λy q=>?_) λr q=>q;obtain⟨aM,aD,bj,bT⟩:=q;refine⟨aM,aD,by grind,⟨bT.ops.trans bL,bT.jc.trans iW,bT.st.trans jy,bT.len.trans (by grind),λi ag=>(bT.er i ag).trans (by grind)⟩⟩;have Ca:aEg (J::l) (core x)=tl (core x) J:=by grind [aEg]
  rw[Ca,vL];refine .inr ⟨hp,?_⟩;rw[aE (by omega)]at aDH;by_cases ab:(tl x J).2=2;rw[aX ab]at aDH;rw[aDH,aE (by omega)];exact⟨cP.symm,a3,a2⟩;rw[aE ab]at aDH;rw[aDH,aE (by omega)];exact⟨cP.symm,a3,a2⟩
def aEW:cX->Prop
 |.nil=>True
 |.cons t _ b r=>t<=2048/\aEW b/\aEW r
theorem aHR:∀f:cX,nW f->f.leaf=false->1<=fj f
 |.nil,_,h=>by cases h
 |.cons t n b r,⟨h1,ab,an⟩,_=>by
  rw[fj];have ag:1<=(bif b.leaf then 1 else fj b):=by
   cases al:b.leaf with
   |true=>simp
   |false=>exact aHR b ab al
  have:1*1<=t.toNat*(bif b.leaf then 1 else fj b):=ns (by omega) ag;omega
theorem aGE:∀f:cX,nW f->fj f<=2048->aEW f
 |.nil,_,_=>trivial
 |.cons t n b r,⟨h1,ab,an⟩,h=>by
  rw[fj]at h;have ag:1<=(bif b.leaf then 1 else fj b):=by
   cases al:b.leaf with
   |true=>simp
   |false=>exact aHR b ab al
  have aJ:t.toNat*1<=t.toNat*(bif b.leaf then 1 else fj b):=ns (dd _) ag;have aI:1*(bif b.leaf then 1 else fj b)<=t.toNat*(bif b.leaf then 1 else fj b):=ns (by omega) (dd _);refine⟨by omega,?_,aGE r an (by omega)⟩;cases al:b.leaf with
  |true=>cases b with
   |nil=>trivial
   |cons=>cases al
  |false=>
   rw[al]at aI;simp only[pR]at aI;exact aGE b ab (by grind)
theorem aKV{z:Int}(ai: -9223372036854775808<=z)(h1:z<=9223372036854775807):azD z=z:=IntWalk.i64_in z ⟨ai,h1⟩
theorem aJ9(ax:List (List b6))(cG:∀r∈ax,∀J∈r,3<=J.k)(to:Int):∀(f:cX)(len op cZ:Nat)(x:kl)(pre post:List b6),nW f->aEW f->pre.length=len->x.ops=pre++(ga ax f len op++post)->x.next=len->x.jc<to->jk f op cZ<=x.er.length->aDJ to (jH ax f) x (aEG op x (len+(ga ax f len op).length) (aDG ax (hr f) (core x))) (aEk (aDG ax (hr f) (core x))):=by
 intro f;induction f with
 |nil=>intro len op cZ x pre post _ _ al aL aC hp aw;exact⟨rfl,rfl,by rw[aC];rfl,aEl.refl _ _⟩
 |cons t n b r aoC aoD=>
  rintro len op cZ x pre post ⟨h1,ab,an⟩ ⟨t1,t2,t3⟩ al aL aC hp aw;obtain⟨u,hu⟩:∃u,u=(bif b.leaf then(ax.getD n.toNat []).length else jH ax b):=⟨_,rfl⟩;obtain⟨w,hw⟩:∃w,w=(bif b.leaf then[n]else hr b):=⟨_,rfl⟩;have inner:∀(L gh bu:Nat)(y:kl)(aFR aGz:List b6),aFR.length=L->y.ops=aFR++((bif b.leaf then ax.getD n.toNat []else ga ax b L gh)++aGz)->y.next=L->y.jc<to->jk b gh bu<=y.er.length->aDJ to u y (aEG gh y (L+(bif b.leaf then ax.getD n.toNat []else ga ax b L gh).length) (aDG ax w (core y))) (aEk (aDG ax w (core y))):=by
   intro L gh bu y aFR aGz jL ZJ wm ww eZ;cases nE:b.leaf with
   |true=>
    rw[nE]at ZJ hu hw;rw[hu,hw];simp only[lv]at ZJ⊢;rw[aJ4];have:=aHK to gh (ax.getD n.toNat []) y aFR aGz (KX cG n.toNat) ZJ (by omega) ww
    grind
   |false=>
    grind
  rw[jk]at aw;have g1:=Kv r op (jk b (op+ft t) (if 1<t then max cZ (op+1)else cZ));have g2:=Kv b (op+ft t) (if 1<t then max cZ (op+1)else cZ);have uU:hr (.cons t n b r)=rep t.toNat w++hr r:=by rw[hr,hw]
  have one:aDJ to (if 1<t then 1+t.toNat*(u+1)else u) x (aEG op x (len+(kz t op len (bif b.leaf then ax.getD n.toNat []else ga ax b (len+ft t) (op+ft t))).length) (aDG ax (rep t.toNat w) (core x))) (aEk (aDG ax (rep t.toNat w) (core x))):=by
   rw[ga,mb]at aL;obtain⟨iH,aHi⟩:∃iH,iH=ga ax r (len+(kz t op len (bif b.leaf then ax.getD n.toNat []else ga ax b (len+ft t) (op+ft t))).length) op++post:=⟨_,rfl⟩;rw[<-aHi]at aL;clear aHi;by_cases q:1<t;rw[aX q];have aB:ft t=1:=by unfold ft;grind
   rw[aB]at aL g1 g2 aw⊢;rw[aX q]at g1 g2 aw;obtain⟨Q,cD⟩:∃Q,Q=(bif b.leaf then ax.getD n.toNat []else ga ax b (len+1) (op+1)):=⟨_,rfl⟩;have CP:kz t op len Q=⟨1,op,t⟩::(Q++[⟨2,op,(len:Int)+1⟩]):=by unfold kz;grind
   rw[<-cD]at aL⊢;rw[CP]at aL⊢;have rounds:∀(o:Nat),1<=o->o<=2048->∀y:kl,y.ops=x.ops->y.next=(len+1:Nat)->y.jc<to->y.er.length=x.er.length->y.er.getD op 0=o->aDJ to (o*(u+1)) y (aEG op y (len+(Q.length+2)) (aDG ax (rep o w) (core y))) (aEk (aDG ax (rep o w) (core y))):=by
    intro o;induction o with
    |zero=>omega
    |succ o bE=>
     intro _ ae y aH5 aK1 aK3 aH4 aK0;have aK2:y.ops=(pre++[⟨1,op,t⟩])++(Q++(⟨2,op,(len:Int)+1⟩::iH)):=by simp[aH5,aL]
     have i1:=inner (len+1) (op+1) (max cZ (op+1)) y (pre++[⟨1,op,t⟩]) (⟨2,op,(len:Int)+1⟩::iH) (by simp[al]) (by grind) aK1 aK3 (by omega);rw[<-cD]at i1;have aF8:rep (o+1) w=w++rep o w:=rfl;rw[aF8,aGt,BQ,vL (o*(u+1)),Nat.add_assoc];have i2:=i1.imp (agx:=aEG (op+1) y (len+1+Q.length) (aDG ax w (core y))) (lH:=aEk (if(aDG ax w (core y)).2=0 then aDG ax (rep o w) (aDG ax w (core y)).1 else aDG ax w (core y))) (λy q=>q) (λs q=>by
      rw[aE (by have:=q.1;have:=q.2.1;omega)];exact q)
     refine i2.bind λhl aM=>?_;obtain⟨vr,fv,dU,gi⟩:=aM;rw[aX vr,<-fv];have ak:hl.ops.getD hl.next.toNat aEF=⟨2,op,(len:Int)+1⟩:=by
      rw[gi.ops,aK2,show(pre++[⟨1,op,t⟩])++(Q++(⟨2,op,(len:Int)+1⟩::iH))=(pre++[⟨1,op,t⟩]++Q)++(⟨2,op,(len:Int)+1⟩::iH) by simp];exact aIN (by rw[dU];simp[al];omega)
     have aIW:azD (hl.er.getD op 0-1)=o:=by
      rw[gi.er op (by omega),aK0];rw[aKV (by omega) (by omega)];omega
     have uX:op<hl.er.length:=by rw[gi.len,aH4];omega
     have aDH:Js hl=({hl with er:=hl.er.set op o,next:=(if(0:Int)<o then(len:Int)+1-1 else hl.next)+1},0):=by
      unfold Js;rw[ak];simp only[tl,bq,aIW];rfl
     refine .step (by grind [gi.jc]) (by grind) ?_;rw[aDH];have b0:aEl op y {hl with er:=hl.er.set op o,next:=(if(0:Int)<o then(len:Int)+1-1 else hl.next)+1}:=⟨gi.ops,gi.jc,gi.st,by simp[gi.len],λi ag=>by
      rw[<-gi.er i (by omega)];simp only[cN,aGM (show op≠i by omega)]⟩
     by_cases ano:o=0;subst ano;rw[D0];refine⟨rfl,rfl,?_,b0⟩
     grind
     have:=bE (by omega) (by omega) {hl with er:=hl.er.set op o,next:=(if(0:Int)<o then(len:Int)+1-1 else hl.next)+1} (by simp[gi.ops,aH5]) (by
      show(if(0:Int)<o then(len:Int)+1-1 else hl.next)+1=_;omega) (by grind [gi.jc]) (by simp[gi.len,aH4]) (by
      show(hl.er.set op (o:Int)).getD op 0=_;rw[cN,ahj uX];rfl)
     refine this.imp (λz aEc=>⟨aEc.1,aEc.2.1,aEc.2.2.1,b0.trans aEc.2.2.2⟩) λs MM=>MM
   have ak:x.ops.getD x.next.toNat aEF=⟨1,op,t⟩:=by
    simp[aL,aC,al]
   have aDH:Js x=({x with er:=x.er.set op t,next:=x.next+1},0):=by
    unfold Js;rw[ak];rfl
   refine .step hp (by grind) ?_;rw[aDH];have uX:op<x.er.length:=by omega
   have:=rounds t.toNat (by omega) (by omega) {x with er:=x.er.set op t,next:=x.next+1} rfl (by grind) hp (by simp) (by
    show(x.er.set op t).getD op 0=_;rw[cN,ahj uX,BS];omega)
   refine this.imp (λz aEc=>⟨aEc.1,aEc.2.1,by rw[aEc.2.2.1];simp;omega,aEl.trans (y:={x with er:=x.er.set op t,next:=x.next+1}) ⟨rfl,rfl,rfl,by simp,λi ag=>by
    simp only[cN,aGM (show op≠i by omega)]⟩ aEc.2.2.2⟩) λs MM=>MM
   rw[aE q];have aJ:t.toNat=1:=by omega
   have aB:ft t=0:=by unfold ft;grind
   have aF8:rep 1 w=w:=by simp[rep]
   rw[aB]at aL g1 g2 aw⊢;rw[aJ,aF8];unfold kz at aL⊢
   grind
  rw[uU,aGt,jH,<-hu];have eW:=one.imp (agx:=aEG op x (len+(kz t op len (bif b.leaf then ax.getD n.toNat []else ga ax b (len+ft t) (op+ft t))).length) (aDG ax (rep t.toNat w) (core x))) (lH:=aEk (if(aDG ax (rep t.toNat w) (core x)).2=0 then aDG ax (hr r) (aDG ax (rep t.toNat w) (core x)).1 else aDG ax (rep t.toNat w) (core x))) (λy q=>q) (λs q=>by
   rw[aE (by have:=q.1;have:=q.2.1;omega)];exact q)
  refine eW.bind λy q=>?_;obtain⟨vr,fv,dU,gi⟩:=q;rw[aX vr,<-fv];have E':=aL;rw[ga]at E';have bE:=aoD (len+(kz t op len (bif b.leaf then ax.getD n.toNat []else ga ax b (len+ft t) (op+ft t))).length) op _ y (pre++kz t op len (bif b.leaf then ax.getD n.toNat []else ga ax b (len+ft t) (op+ft t))) post an t3 (by grind) (by simp[gi.ops,E']) dU (by grind [gi.jc]) (by rw[gi.len];exact aw);refine bE.imp (λz aEc=>⟨aEc.1,aEc.2.1,?_,gi.trans aEc.2.2.2⟩) λs MM=>MM;rw[aEc.2.2.1,W'];omega
def aEa(ax:List (List b6))(l:List Int)(c:kl):kl×Nat:=if(aDG ax l c).2=0/\(aDG ax l c).1.hand≠[]then((aDG ax l c).1,4)else aDG ax l c
def aEz(ax:List (List b6))(l:List Int):Nat->kl->kl×Nat
 |0,c=>(c,0)
 |n+1,c=>if(aEa ax l c).2=0 then aEz ax l n (aEa ax l c).1 else aEa ax l c
theorem aKk(ax:List (List b6))(cG:∀r∈ax,∀J∈r,3<=J.k)(to:Int)(f:cX)(hp:nW f)(av:aEW f)(x:kl)(aL:x.ops=ga ax f 0 0++[⟨0,0,0⟩])(aC:x.next=0)(ad:x.jc<to)(aw:jk f 0 0<=x.er.length):aDJ to (jH ax f+1) x (λy=>(aEa ax (hr f) (core x)).2=0/\core y=(aEa ax (hr f) (core x)).1/\y.next=0/\y.jc=x.jc+1/\y.ops=x.ops/\y.er.length=x.er.length) (aEk (aEa ax (hr f) (core x))):=by
 have g:=aJ9 ax cG to f 0 0 0 x [] [⟨0,0,0⟩] hp av rfl aL aC ad aw;have g2:=g.imp (agx:=aEG 0 x (0+(ga ax f 0 0).length) (aDG ax (hr f) (core x))) (lH:=aEk (aEa ax (hr f) (core x))) (λy q=>q) (λs q=>by
  unfold aEa;rw[aE (by have:=q.1;have:=q.2.1;omega)];exact q)
 refine g2.bind λy q=>?_;obtain⟨vr,fv,dU,gi⟩:=q;have ak:y.ops.getD y.next.toNat aEF=⟨0,0,0⟩:=by
  simp[gi.ops,aL,dU]
 have aLx:(aDG ax (hr f) (core x)).1.hand=y.hand:=by rw[<-fv];rfl
 refine .inr ⟨by grind [gi.jc],?_⟩;by_cases aP:y.hand=[];have aDH:Js y=({y with jc:=y.jc+1,next:= -1+1},1):=by
  unfold Js;simp_all[ak,tl]
 have eC:aEa ax (hr f) (core x)=aDG ax (hr f) (core x):=by
  unfold aEa
  grind
 rw[aDH,aX (.inr rfl),eC];exact⟨vr,fv,rfl,by simp[gi.jc],gi.ops,gi.len⟩;have aDH:Js y=({y with zB:=true,A2:=y.next,IH:=0,II:= -1,IE:=4},4):=by
  unfold Js;simp_all[ak,tl]
 have eC:aEa ax (hr f) (core x)=((aDG ax (hr f) (core x)).1,4):=by
  unfold aEa
  grind
 rw[aDH,aE (by simp),eC];exact⟨rfl,by simp,fv⟩
theorem aKy(ax:List (List b6))(cG:∀r∈ax,∀J∈r,3<=J.k)(f:cX)(hp:nW f)(av:aEW f):∀(n:Nat)(x:kl),x.ops=ga ax f 0 0++[⟨0,0,0⟩]->x.next=0->jk f 0 0<=x.er.length->∃r,runM (n*(jH ax f+1)+1) x (x.jc+n)=some r/\core r.1=(aEz ax (hr f) n (core x)).1/\r.2=if(aEz ax (hr f) n (core x)).2=0 then 1 else(aEz ax (hr f) n (core x)).2:=by
 intro n x aL aC aw;have key:∀(n:Nat)(x:kl)(to:Int),x.ops=ga ax f 0 0++[⟨0,0,0⟩]->x.next=0->jk f 0 0<=x.er.length->to=x.jc+n->aDJ to (n*(jH ax f+1)) x (λy=>(aEz ax (hr f) n (core x)).2=0/\core y=(aEz ax (hr f) n (core x)).1/\y.jc=to) (aEk (aEz ax (hr f) n (core x))):=by
  intro n;induction n with
  |zero=>
   intro x to _ _ _ av;rw[D0];exact⟨rfl,rfl,by omega⟩
  |succ n bE=>
   intro x to aL aC aw aLB;rw[BQ,vL (n*(jH ax f+1))];have g:=aKk ax cG to f hp av x aL aC (by omega) aw;have g2:=g.imp (agx:=λy=>(aEa ax (hr f) (core x)).2=0/\core y=(aEa ax (hr f) (core x)).1/\y.next=0/\y.jc=x.jc+1/\y.ops=x.ops/\y.er.length=x.er.length) (lH:=aEk (aEz ax (hr f) (n+1) (core x))) (λy q=>q) (λs q=>by
    rw[aEz,aE (by have:=q.1;have:=q.2.1;omega)];exact q)
   refine g2.bind λy q=>?_;obtain⟨vr,fv,dU,gi,fT,mA⟩:=q;rw[aEz,aX vr,<-fv]
   grind
 obtain⟨r,am,q⟩:=(key n x _ aL aC aw rfl).run (λy q=>by omega);refine⟨r,am,?_⟩;rcases q with⟨aM,aD,bj,_⟩|⟨aM,aD,bj⟩
 grind
 grind
end Go.Sx
