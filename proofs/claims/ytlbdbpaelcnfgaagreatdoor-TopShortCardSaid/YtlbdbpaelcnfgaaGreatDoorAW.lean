/- A part of the proof that the statement holds. Conditions: none. -/
import Derived.ProofKit
import Derived.SizedLaws
import Derived.Lib.SmallJoins
import Derived.Test.YtlbdbpaelcnfgaaGreatDoorRows
import Derived.Test.YtlbdbpaelcnfgaaGreatDoorAP
import Derived.Test.YtlbdbpaelcnfgaaGreatDoorAQ
import Derived.Test.YtlbdbpaelcnfgaaGreatDoorAR
import Derived.Test.YtlbdbpaelcnfgaaGreatDoorAV
open Classical renaming not_not->jw
open Decidable renaming byContradiction->zM
open Go renaming Addr->ar,DataW->oy,MemPlace->vK,Program->dW,TypeId->fc,Value->ao,World->bb,laidOutB->RK
open Go.DataW renaming Trod->agu,TrodAll->NL,Whole->agv,trod->zL,trod_int->By,trod_string->Ut,trod_struct->NM,weights->yg,weightsAll->agw,weightsEach->JO
open Go.Proofs.Tryz renaming prog->aH,underlying100->aif,underlying24->aig,underlying26->Vh,underlying27->Kd,underlying3->BX,underlying9->Ef,underlying96->aii,underlying98->aij
open Go.Value renaming bool->qB,okWide->Vj
open Go.WideElems renaming Trod_stays->aAy
open Go.World renaming cells?_some->aio
open Int renaming le_refl->JU,toNat_natCast->bq
open List renaming getD_eq_getElem?_getD->cN,getElem?_eq_getElem->bZ,getElem?_eq_some_iff->qt,getElem?_map->dV,getElem_mem->cS,length_map->ih,map_cons->eO,map_nil->zU,map_set->nb,mem_append_left->qu,mem_append_right->wT,mem_cons->dC,mem_map->dn,mem_or_eq_of_mem_set->ahp,not_mem_nil->th,range->g6,replicate->bG,take_of_length_le->k4
open List.cons renaming injEq->yp
open Nat renaming le_refl->dd,le_trans->hT,mul_le_mul_right->pN,mul_one->ew,sub_self->yq,zero_add->dJ,zero_le->cO
open Option renaming map_eq_some_iff->D3
open Option.some renaming inj->oB
open Prod.mk renaming injEq->Oy
namespace Go.Sx
open Go.Proofs
set_option maxRecDepth 100000
set_option maxHeartbeats 0
set_option linter.all false
theorem auL{h:I}{b:Nat}{l:List Int}(af:h b=some (gB l)):bg h 1 (some ⟨b,0,none⟩) l.length (gZ l):=bg.lit (cs:=l.map R) af (xj l) (λr am=>by obtain⟨z,_,rfl⟩:=dn.1 am;rfl) (by simp[gZ])
section
variable {B h:I}{aT:Nat}{m:e8}
theorem atU(k:cU B h aT m)(hm:m.x.mem.length<=100000):Fn aH 17 #[b0 aT] h (zY h m.x.mem.length (m.x.mem.map R)):=by
 have Sm:=adl _ m.x.mem.length m.x.mem.length m.x.mem h (auL k.mem) (by omega);refine b5 arB rfl ?_;refine .hp (mK m.dM m.x.mem.length) (bN k.box rfl) ?_;refine .done (.mk _ Sm ?_);intro v U q;obtain⟨le,A,c,rfl,r,f⟩:=q;exact .done ⟨le,A,c,rfl,r,f⟩
theorem avh(k:cU B h aT m)(a:Nat)(a6:a<m.x.wr.length)(al:(m.x.wr.getD a []).length<=100000):Fn aH 34 #[.pointer (some ⟨aT,2,none⟩),R a] h (zY h (m.x.wr.getD a []).length ((m.x.wr.getD a []).map R)):=by
 have fI:a<m.wr.length:=by rw[<-ih (f:=dO.l),k.pG];exact a6
 obtain⟨d,aB⟩:∃d,m.wr[a]=d:=⟨_,rfl⟩;have uZ:d∈m.wr:=by rw[<-aB];exact cS fI
 have xq:m.x.wr.getD a []=d.l:=by
  rw[<-k.pG,cN,dV,bZ fI,aB];rfl
 rw[xq]at al⊢;have Sm:=adl d.A d.l.length d.c d.l h (k.jg d uZ).one (by omega);have jP:h.cell? ((⟨m.fX,0,none⟩:ar).add (a*1))=some d.val:=by
  rw[add_lit,dJ,ew];exact bN k.wr (by simp[fI,aB])
 refine b5 ar9 rfl ?_;refine aK λgS dy gY=>?_;refine dy _ _ _ ?_;refine aK λgO dx eG=>?_;refine aK λgu df fK=>?_;conv=>whnf
 rw[gU (by omega)];refine .hp (mK m.fX m.wr.length) (bN k.box rfl) ?_;refine df _ _ _ ?_;refine aW (λq=>by omega) (λ_=>?_);refine dx _ _ _ ?_;refine .hp (mK m.fX m.wr.length) (bN k.box rfl) ?_;refine .mk ⟨m.fX,0,none⟩ rfl (by omega) (by omega) ?_;refine .hp (.slice d.A d.l.length d.c) (by rw[bq];exact jP) ?_;refine .done (.mk _ Sm ?_);rintro _ U ⟨le,A,c,rfl,r,f⟩;exact .done ⟨le,A,c,rfl,r,f⟩
theorem avg(k:cU B h aT m)(a:Nat)(a6:a<m.x.wr.length)(al:(m.x.wr.getD a []).length<=100000):Fn aH 13 #[b0 aT,R a] h (zY h (m.x.wr.getD a []).length ((m.x.wr.getD a []).map R)):=by
 have auM:=avh k a a6 al;refine b5 arc rfl ?_;refine .done (.mk _ auM ?_);rintro _ U ⟨le,A,c,rfl,r,f⟩;exact .done ⟨le,A,c,rfl,r,f⟩
theorem akM(k:cU B h aT m)(a:Nat)(a6:a<m.da.length)(ai:m.da[a]=⟨none,0,[]⟩)(A:Option ar)(n c:Nat)(l:List Int)(t:bg h 1 A n (gZ l))(aC:n<=100000):Fn aH 77 #[.pointer (some ⟨aT,2,none⟩),R a,.slice A n c] h λv U=>v=R 0/\∃dS bc,B.le dS/\cU dS U aT bc/\bc.x={m.x with da:=m.x.da.set a l}/\∃d,bc.da=m.da.set a d:=by
 have al:l.length=n:=by simpa using t.len
 refine b5 asE rfl ?_;have pW:=k.akJ a6;rw[ai]at pW;refine aK λgS dy gY=>?_;refine dy _ _ _ ?_;refine aK λgO dx eG=>?_;refine aK λgu df fK=>?_;conv=>whnf
 rw[gU (by omega)];refine .hp (mK m.ff m.da.length) (bN k.box rfl) ?_;refine df _ _ _ ?_;refine aW (λq=>by omega) (λ_=>?_);refine dx _ _ _ ?_;refine aK λgk ed eH=>?_;refine .hp (mK m.ff m.da.length) (bN k.box rfl) ?_;refine .hp (mK m.ff m.da.length) (bN k.box rfl) ?_;refine .mk ⟨m.ff,0,none⟩ rfl (by omega) (by omega) ?_;refine .hp (.slice none 0 0) (by rw[bq];exact pW) ?_;refine .fresh (l.map R) rfl rfl rfl (by rw[<-xj];exact t.src _) (λu hu=>by obtain⟨x,_,rfl⟩:=dn.1 hu;rfl) (by unfold maxLen;omega) (by omega) λbA bu aO=>?_;refine .mk ⟨m.ff,0,none⟩ rfl (by omega) (by omega) ?_;refine .hp m.ff (0+a*1) 27 (m.da.map dO.val) ((m.da.set a ⟨bA,bu,l⟩).map dO.val) (by rw[add_lit,bq]) k.da ?_ ?_;rw[dJ,ew,ib _ _ _ (by rw[ih];exact a6),nb];show some ((m.da.map dO.val).set a (.slice bA n bu))=some ((m.da.map dO.val).set a (.slice bA l.length bu));rw[al];refine ed _ _ _ ?_;refine .bV 0 3 1 bA n bu (l.map R) rfl λaR cW fT f4=>.done ⟨rfl,?_⟩;have IS:∀g,bA=some g->g.block≠m.ff/\h g.block=none:=λg ak=>by
  have q:=f4 g ak;have ne:g.block≠m.ff:=λe=>by rw[e,I.bP]at q;cases q
  rw[I.cf _ _ ne]at q;exact⟨ne,q⟩
 have fW:h.le (aR.put m.ff (.cells (m.da.map dO.val).toArray 27 (0,0))):=λo J ae=>by
  by_cases e:o=m.ff;subst e;rw[k.da]at ae;rw[I.bP];exact ae;rw[I.cf _ _ e];exact cW _ _ (by rw[I.cf _ _ e];exact ae)
 have bJ:=k.grow fW;have mA:bz (B.grow h (aR.put m.ff (.cells (m.da.map dO.val).toArray 27 (0,0)))) 3 1 bA n bu (l.map R):=(bz.ju fT λg ak=>(IS g ak).1).grown λg ak=>(IS g ak).2;have bB:=bJ.aez (m.da.set a ⟨bA,bu,l⟩) (by simp) (λy aQ=>by
  rcases ahp aQ with aQ|rfl;exact bJ.pX y aQ;refine⟨?_,?_⟩;show bg _ 1 bA l.length (gZ l);rw[al];exact mA.one;show l.length<=bu;rw[al];exact aO.2)
 rw[sZ,rW (cW _ _ (I.bP _ _ _))]at bB;refine⟨_,_,Cs k.le fW,bB,?_,_,rfl⟩;simp only;rw[nb,k.qH]
theorem akL(k:cU B h aT m)(a:Nat)(a6:a<m.da.length)(ai:m.da[a]=⟨none,0,[]⟩)(A:Option ar)(n c:Nat)(l:List Int)(t:bg h 1 A n (gZ l))(aC:n<=100000):Fn aH 28 #[b0 aT,R a,.slice A n c] h λv U=>v=R 0/\∃dS bc,B.le dS/\cU dS U aT bc/\bc.x={m.x with da:=m.x.da.set a l}/\∃d,bc.da=m.da.set a d:=by
 have f77:=akM k a a6 ai A n c l t aC;refine b5 ar6 rfl ?_;refine .done (.mk _ f77 ?_);rintro _ U ⟨rfl,q⟩;exact .done ⟨rfl,q⟩
end
end Go.Sx
namespace Go.Sx
set_option maxRecDepth 100000
set_option maxHeartbeats 0
set_option linter.all false
theorem adY{home:List Nat}{s:List (Nat×Nat)}{hm k:Nat}{r:List Nat}(am:∀q∈r,q<=4096):∀(v:Nat)(cT:List Nat),t' home s hm k r v=some cT->∀q∈cT,q<=4096
 |0,cT,h=>by injection h with h;subst h;exact am
 |v+1,cT,h=>by
  rw[t']at h;split at h;cases h;rename_i fv h1;have bE:=adY am v fv h1;split at h;split at h;cases h;injection h with h;subst h;intro q aq;rcases ahp aq with aq|rfl;exact bE q aq;omega;injection h with h;subst h;exact bE
theorem aeS{N:Nat}{aa:List bo}:∀(v:Nat)(r:List Nat),oX N aa v=some r->∀q∈r,q<=4096
 |0,r,h=>by
  rw[oX]at h;split at h;injection h with h;subst h;intro q aq;rw[(List.mem_replicate.1 aq).2];omega;cases h
 |v+1,r,h=>by
  rw[oX]at h;split at h;cases h;rename_i fv h1;have bE:=aeS v fv h1;split at h;rw[Bj]at h;split at h;cases h;exact adY bE _ _ h;injection h with h;subst h;exact bE
theorem axK{N:Nat}{aa:List bo}{r:List Nat}(h:vu N aa=some r):∀q∈r,q<=4096:=by
 rw[vu]at h;split at h;split at h;cases h;rename_i fv h1;split at h;injection h with h;subst h;exact aeS _ _ h1;cases h;cases h
theorem VC{N:Nat}{aa:List bo}:∀(l f:List Int),(fA N aa l f).1=0->∀z∈l,0<=z/\z<N
 |[],_,_,z,aY=>by cases aY
 |v::l,f,h,z,aY=>by
  rw[fA]at h;split at h;cases h;rename_i h1;split at h;rcases dC.1 aY with rfl|aY;omega;exact VC l _ h z aY;cases h
theorem RW{N:Nat}{aa:List bo}{aG:List Int}(h:l2 N aa aG=0):aG.length<=2048/\∀z∈aG,0<=z/\z<N:=by
 have h1:(eh N aa aG).1=0:=by
  refine zM λq=>?_;unfold l2 at h;rw[aX q]at h;exact q h
 unfold eh at h1;split at h1;split at h1;cases h1;rename_i q;rw[bq]at h1;exact⟨by omega,VC _ _ h1⟩;rename_i q;exact absurd h1 q
theorem awC{α:Type}{w:List α}{x:α}(ad:x∈w):∀{k:Nat},1<=k->x∈rep k w
 |k+1,_=>by rw[rep];exact qu _ ad
theorem KU{n:Nat}:∀(f:cX),nW f->(∀x∈hr f,0<=x/\x<(n:Int))->zW n f/\ud n f=false
 |.nil,_,_=>⟨trivial,rfl⟩
 |.cons t k b r,⟨h1,ab,an⟩,h=>by
  have am:=KU r an λx ad=>h x (by rw[hr];exact wT _ ad);have af:∀x∈(bif b.leaf then[k]else hr b),0<=x/\x<(n:Int):=λx ad=>h x (by rw[hr];exact qu _ (awC ad (by omega)));cases al:b.leaf with
  |true=>
   rw[al,lv]at af;have hk:=af k (List.mem_singleton_self _);have rn:b= .nil:=by cases b with|nil=>rfl|cons=>cases al
   subst rn;refine⟨⟨λ_=>hk,trivial,am.1⟩,?_⟩;rw[ud,am.2,ud,al,gU (by omega)];rfl
  |false=>
   rw[al,pR]at af;have fC:=KU b ab af;refine⟨⟨λq=>(by rw[al]at q;cases q),fC.1,am.1⟩,?_⟩;rw[ud,am.2,fC.2,al];rfl
theorem akX{g:eY}(e:mO g=0):(∀r∈Cg g,∀x∈r,x.k=3\/x.k=4)/\∀r∈Ch g,∀x∈r,x.k=6\/x.k=7:=by
 rw[mO]at e;split at e;rename_i h;exact absurd e h;split at e;rename_i h;exact absurd e h;dsimp only at e;split at e;rename_i h;exact absurd e h;split at e;rename_i h;exact absurd e h;split at e;rename_i h;exact absurd e h;rename_i h1 ab an aR cg;obtain⟨c1,c2⟩:=Pi (λx=>x.k=3\/x.k=4) (λx=>x.k=6\/x.k=7) g.cp 0 _ _ _ _ (Ku (l:=g.bt) (λa=>(Jp a.tag a.be).1) _) (Ku (l:=g.bt) (λa=>(Jp a.tag a.be).2) _) (λ_ _ _ _ _ _=>⟨.inl rfl,.inl rfl⟩) (jw.1 an);have eI:=Hb (λx=>x.k=3\/x.k=4) 4 g.ins 0 _ _ _ c1 (λ_ _ _ _ _ _=>.inr rfl) (jw.1 aR);have tq:=Hb (λx=>x.k=6\/x.k=7) 7 g.outs 0 _ _ _ c2 (λ_ _ _ _ _ _=>.inr rfl) (jw.1 cg);rw[A']at e;split at e;rename_i az;exact⟨eI.all az.1,tq.all az.2⟩;cases e
def jD(k:Nat)(l:List b6):Nat:=l.countP λx=>x.k==k
theorem xF(k:Nat)(a b:List b6):jD k (a++b)=jD k a+jD k b:=List.countP_append
theorem LX{k:Nat}{l:List b6}(h:∀x∈l,x.k≠k):jD k l=0:=by
 unfold jD;rw[List.countP_eq_zero];intro x ad;simpa using h x ad
theorem akV{g:eY}(e:mO g=0){o:Nat}(ae:o<g.bt.length):jD 5 ((jV g).getD o [])=1/\jD 1 ((jV g).getD o [])=0:=by
 obtain⟨a,b⟩:=akX e;have h:(jV g).getD o []=(Cg g).getD o []++[⟨5,(o:Int),0⟩]++(Ch g).getD o []:=by
  unfold jV;simp[cN,ae]
 rw[h];have ey:=KX a o;have eP:=KX b o;simp only[xF];have aJ:jD 5 ((Cg g).getD o [])=0:=LX λx ad=>by have:=ey x ad;omega
 have aI:jD 5 ((Ch g).getD o [])=0:=LX λx ad=>by have:=eP x ad;omega
 have ck:jD 1 ((Cg g).getD o [])=0:=LX λx ad=>by have:=ey x ad;omega
 have eE:jD 1 ((Ch g).getD o [])=0:=LX λx ad=>by have:=eP x ad;omega
 rw[aJ,aI,ck,eE];exact⟨rfl,rfl⟩
theorem Pr{ax:List (List b6)}{n:Nat}(cG:∀o,o<n->jD 5 (ax.getD o [])=1/\jD 1 (ax.getD o [])=0):∀(f:cX)(len op:Nat),zW n f->jD 5 (ga ax f len op)=pb f/\jD 1 (ga ax f len op)=xr f
 |.nil,_,_,_=>⟨rfl,rfl⟩
 |.cons t k b r,len,op,⟨h1,ab,an⟩=>by
  obtain⟨fv,dU⟩:=Pr cG r (len+(kz t op len (bif b.leaf then ax.getD k.toNat []else ga ax b (len+ft t) (op+ft t))).length) op an;obtain⟨bL,cy⟩:=Pr cG b (len+ft t) (op+ft t) ab;have gl:jD 5 (bif b.leaf then ax.getD k.toNat []else ga ax b (len+ft t) (op+ft t))=(bif b.leaf then 1 else pb b)/\jD 1 (bif b.leaf then ax.getD k.toNat []else ga ax b (len+ft t) (op+ft t))=xr b:=by
   cases al:b.leaf with
   |true=>
    have hk:=h1 al;have rn:b= .nil:=by cases b with|nil=>rfl|cons=>cases al
    subst rn;exact cG k.toNat (by omega)
   |false=>exact⟨bL,cy⟩
  rw[ga,xF,xF,fv,dU,pb,xr];generalize(bif b.leaf then ax.getD k.toNat []else ga ax b (len+ft t) (op+ft t))=cm at gl;rw[kz];split;have mf:jD 5 ((⟨1,op,t⟩:b6)::(cm++[⟨2,op,(len:Int)+1⟩]))=jD 5 cm:=by
   rw[show((⟨1,op,t⟩:b6)::(cm++[⟨2,op,(len:Int)+1⟩]))=[⟨1,op,t⟩]++(cm++[⟨2,op,(len:Int)+1⟩])from rfl,xF,xF];simp[jD]
  have aJ:jD 1 ((⟨1,op,t⟩:b6)::(cm++[⟨2,op,(len:Int)+1⟩]))=1+jD 1 cm:=by
   rw[show((⟨1,op,t⟩:b6)::(cm++[⟨2,op,(len:Int)+1⟩]))=[⟨1,op,t⟩]++(cm++[⟨2,op,(len:Int)+1⟩])from rfl,xF,xF];simp[jD]
  rw[mf,aJ,gl.1,gl.2];exact⟨rfl,rfl⟩;rw[gl.1,gl.2,dJ];exact⟨rfl,rfl⟩
end Go.Sx
namespace Go.Sx
open Go.Proofs
set_option maxRecDepth 100000
set_option maxHeartbeats 0
set_option linter.all false
variable {h:I}{aG:List Int}{ac bO c1 c2 cE cM:Nat}{ct dE eF gv hf iu:Option ar}{g:eY}
def j2(l:List Nat):List Int:=l.map λz:Nat=>(z:Int)
def Bu(g:eY)(aG:List Int):Prop:=mO g≠0\/vu g.bt.length (fH g)=none\/(∃d6,vu g.bt.length (fH g)=some d6/\r1 g.bt.length (fH g) d6 aG=none)\/∃d6 l,vu g.bt.length (fH g)=some d6/\r1 g.bt.length (fH g) d6 aG=some l/\(l2 g.bt.length (fH g) (j2 l)≠0\/∃os bC dA,os.Perm (g6 (fH g).length)/\o8 (kg (eh g.bt.length (fH g) (j2 l)).2 (fH g).length) (lg (eh g.bt.length (fH g) (j2 l)).2) (fH g).length os bC dA/\1024<oZ bC)
def az':Array ao:=#[R 0,.slice none 0 0,.slice none 0 0,.slice none 0 0,.slice none 0 0,.slice none 0 0,R 0,R 0,R 0,R 0,R 0,.slice none 0 0,.slice none 0 0,.slice none 0 0]
structure wW where
 tU:Option ar
 A5:Nat
 ax:ar
 h9:Option ar
 lc:Nat
 l:List Nat
 BM:Option ar
 dD:Nat
 A6:Nat
 bX:bw
 qw:Option ar
 T:Int
 p:km
variable {x:wW}
def wW.val(g:eY)(x:wW):ao:=.agg #[R g.bt.length,.slice x.tU (fH g).length x.A5,.slice (some x.ax) g.bt.length g.bt.length,.slice x.h9 x.l.length x.lc,.slice x.BM x.dD x.A6,.slice x.qw (fH g).length (fH g).length,R x.T,R x.p.mem,R x.p.bF,R x.p.ins,R x.p.outs,.slice x.p.im x.p.parts.length x.p.cH,.slice x.p.eA x.p.lines.length x.p.lc,.slice x.p.ct x.p.ops.length x.p.bO]
structure uo(g:eY)(aG:List Int)(U:I)(x:wW):Prop where
 g0:mO g=0
 cB:bg U 1 x.h9 x.l.length (gZ (j2 x.l))
 nest:hU U x.BM x.dD x.bX
 bF:x.bX.bF<=2048
 sf:Gs (j2 x.l) x.bX.bn.dK
 dK:x.bX.bn.dK=(pQ (j2 x.l)).2
 ok:x.p.ok U
 ex:∃d6 os bC dA,vu g.bt.length (fH g)=some d6/\r1 g.bt.length (fH g) d6 aG=some x.l/\l2 g.bt.length (fH g) (j2 x.l)=0/\os.Perm (g6 (fH g).length)/\o8 (kg (eh g.bt.length (fH g) (j2 x.l)).2 (fH g).length) (lg (eh g.bt.length (fH g) (j2 x.l)).2) (fH g).length os bC dA/\x.T=oZ bC/\On g bC x.T x.bX.bn x.p/\x.p.yh (jH (jV g) x.bX.bn+1:Nat)
theorem abS{N:Int}{aa:List bo}(h:l2 N aa aG=0):(eh N aa aG).1=0:=by
 refine zM λq=>?_;unfold l2 at h;rw[aX q]at h;exact q h
theorem ayI{N:Int}{aa:List bo}(h:l2 N aa aG=0){i:Nat}(ag:i<aa.length):aa[i].start<=(lg (eh N aa aG).2).getD i 0:=by
 have h1:=abS h;have dm:=(RX h1).1;have am:ee aa (bG N.toNat 0)∈(eh N aa aG).2:=by
  unfold eh at h1⊢;split at h1;rename_i q;rw[aX q];split at h1;cases h1;rename_i aD;rw[aE aD];exact List.mem_cons_self;rename_i q;exact absurd h1 q
 have:=dm.up i ag _ am;have e:(ee aa (bG N.toNat 0)).getD i 0=aa[i].start:=by
  have aY:∀o,(bG N.toNat (0:Int)).getD o 0=0:=λo=>by rw[cN,List.getElem?_replicate];split<;>rfl
  rw[cN,ee,dV,bZ ag];simp only[Option.map_some,Option.getD_some,qj,aY];omega
 rw[e]at this;exact this
theorem ajx{l:List Int}(h:∀z∈l,0<=z/\z<32)(al:l.length<=2048):(pQ l).1=0/\Gs l (pQ l).2:=by
 have af:∀x∈l,¬uH x:=λx ad q=>by have:=h x ad;unfold uH at q;omega
 have:¬∃x∈l,uH x:=λ⟨x,ad,q⟩=>af x ad q;unfold pQ;rw[aE (by omega),aE this];exact⟨rfl,Gs.of al af⟩
theorem avJ(ok:g.ok h){os:List Nat}{bC:List cL}{dA:List Bool}(l0:l2 g.bt.length (fH g) aG=0)(hX:os.Perm (g6 (fH g).length))(dp:o8 (kg (eh g.bt.length (fH g) aG).2 (fH g).length) (lg (eh g.bt.length (fH g) aG).2) (fH g).length os bC dA):bC.length=g.cp.length/\0<=oZ bC/\(∀i(_:i<bC.length)(_:i<g.cp.length),0<=bC[i].1/\bC[i].1+bC[i].2<=oZ bC/\(g.cp[i].n:Int)<=bC[i].2)/\∀i(_:i<bC.length)(_:i<g.cp.length),0<=bC[i].1/\0<=bC[i].2/\bC[i].1+bC[i].2<=oZ bC/\((g.cp[i]).st.length:Int)<=bC[i].2:=by
 have hp:=RX (abS l0);have aY:∀i,0<=q0 (lg (eh g.bt.length (fH g) aG).2) i:=λi=>by
  by_cases q:i<(fH g).length;exact(hp.2 i q).1;unfold q0;rw[cN,List.getElem?_eq_none (by rw[hp.1.len];omega)];exact JU _
 have fin:=aw7 dp aY hX;have abL:(fH g).length=g.cp.length:=by simp[fH]
 have key:∀i(_:i<bC.length)(_:i<g.cp.length),0<=bC[i].1/\bC[i].1+bC[i].2<=oZ bC/\(g.cp[i].n:Int)<=bC[i].2:=by
  intro i ag ae;have e:kC bC i=bC[i]:=by unfold kC;rw[cN,bZ ag];rfl
  have h1:=fin.base i (by omega);have ab:=fin.size i (by omega);rw[e]at h1 ab;refine⟨h1,ayP (cS ag),?_⟩;rw[ab];have:=ayI l0 (i:=i) (by omega);have aI:(fH g)[i].start=(g.cp[i].n:Int):=by simp[fH,EJ]
  rw[aI]at this;exact this
 refine⟨by rw[<-abL];exact fin.len,(afr.1 (JU _)).1,key,λi ag ae=>?_⟩;have h1:=key i ag ae;have ab:=(ok.Ao _ (cS ae)).dG.len;rw[ih]at ab;exact⟨h1.1,by omega,h1.2.1,by omega⟩
theorem ab2(g:eY)(h:I)(ok:g.ok h)(wJ:uw h)(P:Option ar)(k c2:Nat)(aG:List Int)(q1:bg h 1 P k (gZ aG))(hk:k<=70368744177664):Fn aH 7 #[.agg g.cells.toArray,.slice P k c2] h λv U=>h.le U/\((v= .tuple #[.agg az',.bool false]/\Bu g aG)\/∃x:wW,v= .tuple #[x.val g,.bool true]/\uo g aG U x):=by
 have acN:=auT g h ok;have gc:g.cells=[.string g.dD,.slice g.hf g.bt.length g.ac,.slice g.gv g.cp.length g.cM,.slice g.eF g.ins.length g.cE,.slice g.ct g.outs.length g.bO]:=rfl;rw[gc]at acN⊢;refine b5 asy rfl ?_;refine aK λgS dy gY=>?_;refine dy _ _ _ ?_;refine aK λgO dx eG=>?_;refine .done (.mk _ acN ?_);rintro _ h1 ⟨cr,FH,rfl,⟨aBJ,tU,dD,A5,rfl⟩,aC⟩;by_cases g0:mO g=0
 .obtain⟨tU,A5,aj5,nP,_⟩:=aC g0;rw[aj5];rw[g0];refine dx _ _ _ ?_;refine aK λgu df fK=>?_;refine aK λgk ed eH=>?_;refine ed _ _ _ ?_;refine df _ _ _ ?_;refine aK λhA dY hL=>?_;have dc:=nP.dG (rows:=(fH g).map bo.cells) (λr am=>by obtain⟨x,_,rfl⟩:=dn.1 am;rfl) (by decide);have iB:=K0 g0;have u':∀a∈g.bt,a.n<=1000:=λa a6=>by
   have h1:=Tw (iB.F8 a a6);have ab:=(ok.act a a6).dG.len;rw[ih]at ab;omega
  have v':=iB.v';have a32:=iB.a32;have abL:(fH g).length=g.cp.length:=by simp[fH]
  refine .done (.mk _ (axJ g.bt.length (fH g).length A5 tU (fH g) h1 dc (by omega) (wJ.mono cr)) ?_);rintro v2 ab ⟨cn,aj⟩;split at aj;rotate_left;rename_i CX;obtain⟨bQ,yK,dO,ad5,rc,Uo,kM,hQ,rfl,bH⟩:=aj;have bad:Bu g aG:=.inr (.inl CX);refine dY _ _ _ ?_;refine aK λhc eT hi=>?_;refine aK λkb fE i'=>?_;conv=>whnf
  by_cases Zc:yK=0;rw[gU (by omega)];conv=>whnf
  refine fE _ _ _ ?_;conv=>whnf
  rw[fo (by intro q;exact bH ⟨q,Zc⟩)];conv=>whnf
  refine hi _ _ _ _ nofun ?_;exact .done ⟨I.le_trans cr cn,.inl ⟨rfl,bad⟩⟩;rw[fo (by omega)];conv=>whnf
  refine fE _ _ _ ?_;refine hi _ _ _ _ nofun ?_;exact .done ⟨I.le_trans cr cn,.inl ⟨rfl,bad⟩⟩;rename_i d6 CX;obtain⟨ik,ax,rfl,mE⟩:=aj;have awH:=axK CX;refine dY _ _ _ ?_;refine aK λhc eT hi=>?_;refine aK λkb fE i'=>?_;refine fE _ _ _ ?_;refine eT _ _ _ ?_;refine aK λkc gg j1=>?_;refine .done (.mk _ (awW g.bt.length (fH g).length A5 g.bt.length g.bt.length k c2 tU (some ax) P (fH g) d6 aG ab (dc.mono cn) (by omega) mE (λq aq=>by have:=awH q aq;omega) (by omega) ((q1.mono cr).mono cn) hk) ?_);rintro v3 an ⟨dZ,xA⟩;split at xA;rotate_left;rename_i xB;obtain⟨dE,bB,aAD,lm,eo,eI,ck,rfl,bH⟩:=xA;have bad:Bu g aG:=.inr (.inr (.inl ⟨d6,CX,xB⟩));refine gg _ _ _ ?_;refine aK λko g' ja=>?_;refine aK λlq gX kR=>?_;conv=>whnf
  by_cases Zc:ck=0;rw[gU (by omega)];conv=>whnf
  refine gX _ _ _ ?_;conv=>whnf
  rw[fo (by omega)];conv=>whnf
  refine ja _ _ _ _ nofun ?_;exact .done ⟨I.le_trans cr (I.le_trans cn dZ),.inl ⟨rfl,bad⟩⟩;rw[fo (by omega)];conv=>whnf
  refine gX _ _ _ ?_;refine ja _ _ _ _ nofun ?_;exact .done ⟨I.le_trans cr (I.le_trans cn dZ),.inl ⟨rfl,bad⟩⟩;rename_i l xB;obtain⟨aBc,h9,lc,rfl,ayo⟩:=xA;refine gg _ _ _ ?_;refine aK λko g' ja=>?_;refine aK λlq gX kR=>?_;refine gX _ _ _ ?_;refine g' _ _ _ ?_;refine aK λsd lC sK=>?_;have TJ:bg an 1 h9 l.length ((j2 l).map λz=>[R z]):=by unfold j2;rw[List.map_map];exact ayo
  refine .done (.mk _ (avF g.bt.length (fH g).length A5 (fH g) tU h9 l.length lc (j2 l) an ((dc.mono cn).mono dZ) (by omega) TJ (λ_=>True) λ_=>axU _ (by omega) _) ?_);rintro v4 aR ⟨cW,wi,am9⟩;by_cases l0:l2 g.bt.length (fH g) (j2 l)=0;rotate_left;rw[wi l0];have bad:Bu g aG:=.inr (.inr (.inr ⟨d6,l,CX,xB,.inl l0⟩));refine lC _ _ _ ?_;refine aK λqx lD pr=>?_;refine aK λut nJ xG=>?_;conv=>whnf
  rw[fo l0];refine nJ _ _ _ ?_;refine pr _ _ _ _ nofun ?_;exact .done ⟨I.le_trans cr (I.le_trans cn (I.le_trans dZ cW)),.inl ⟨rfl,bad⟩⟩;obtain⟨os,bC,dA,hX,_,dp,CE,an7⟩:=am9 l0;by_cases gA:oZ bC<=1024;rotate_left;rw[CE (by omega)];have bad:Bu g aG:=.inr (.inr (.inr ⟨d6,l,CX,xB,.inr ⟨os,bC,dA,hX,dp,by omega⟩⟩));refine lC _ _ _ ?_;refine aK λqx lD pr=>?_;refine aK λut nJ xG=>?_;refine nJ _ _ _ ?_;refine pr _ _ _ _ nofun ?_;exact .done ⟨I.le_trans cr (I.le_trans cn (I.le_trans dZ cW)),.inl ⟨rfl,bad⟩⟩;obtain⟨qw,rfl,ayp⟩:=an7 gA;refine lC _ _ _ ?_;refine aK λqx lD pr=>?_;refine aK λut nJ xG=>?_;refine nJ _ _ _ ?_;refine lD _ _ _ ?_;refine aK λBU rL Fm=>?_;refine .done (.mk _ (ajA (j2 l) h9 l.length lc aR (TJ.mono cW)) ?_);rintro v5 cg ⟨fW,BM,dD,A6,bX,rfl,azv,rE⟩;have L9:=RW l0;have db:g.bt.length<=32:=iB.a32;obtain⟨lU,pk⟩:=ajx (l:=j2 l) (λz aY=>⟨(L9.2 z aY).1,by have:=(L9.2 z aY).2;omega⟩) L9.1;rw[lU];rw[<-rE]at pk;refine rL _ _ _ ?_;have sat:=azv.sat.mono (I.sub_le _ _);have bF:bX.bF<=2048:=by rw[Mb,rE];exact ajw _
  have pj:=pk.e';have ml:=pk.uU;rw[zm]at pj ml;have xy:=(Eq pj).1;have mn:=KU (n:=g.bt.length) bX.bn xy (by rw[ml];exact L9.2);have tM:=avJ ok l0 hX dp;have n9:=Xa (ax:=jV g) bX.bn xy 0 0;have iD:=(M9 (ax:=jV g) (λr am=>PJ am) bX.bn xy).1;have tP:=(Eq pj).2;refine .done (.mk _ (atJ g cg ((((ok.mono cr).mono cn).mono dZ).mono (I.le_trans cW fW)) g0 (some qw) (fH g).length (fH g).length (oZ bC) bC (ayp.mono fW) (by omega) (by omega) tM.2.1 gA tM.2.2.1 bX BM dD A6 sat pj mn.2 mn.1 (by omega) (by omega) u') ?_);rintro v6 fa ⟨hv,p,rfl,avK,made⟩;have avB:=atF g0 (by omega) tM.2.1 gA tM.2.2.2 pj made;refine .done ⟨I.le_trans cr (I.le_trans cn (I.le_trans dZ (I.le_trans cW (I.le_trans fW hv)))),.inr ⟨⟨tU,A5,ax,h9,lc,l,BM,dD,A6,bX,some qw,oZ bC,p⟩,rfl,?_⟩⟩;refine⟨g0,(TJ.mono cW|>.mono fW).mono hv,sat.mono hv,bF,pk,rE,avK,d6,os,bC,dA,CX,xB,l0,hX,dp,rfl,made,avB⟩
 refine dx _ _ _ ?_;refine aK λgu df fK=>?_;refine aK λgk ed eH=>?_;conv=>whnf
 rw[fo g0];refine ed _ _ _ ?_;refine fK _ _ _ _ nofun ?_;exact .done ⟨cr,.inl ⟨rfl,.inl g0⟩⟩
theorem axw(L:List (List Int))(n i:Nat)(ag:i<L.length)(aC:i<n):(L.take i++bG (n-i) []).set i L[i]=L.take (i+1)++bG (n- (i+1)) []:=by
 have e:n-i=(n- (i+1))+1:=by omega
 have av:(L.take i).length=i:=by simp;omega
 rw[List.set_append_right _ _ (by omega),av,yq,e,List.replicate_succ,List.set_cons_zero,List.take_add_one,bZ ag,List.append_assoc];rfl
theorem ab1(p:km)(T:Int)(h:I)(ok:p.ok h)(fV:p.yh T)(NR:Option ar)(pW:Nat)(F:List dO)(Gc:bg h 1 NR F.length (F.map λd=>[d.val]))(bm:∀d∈F,d.ok h/\d.l.length<=100000):Fn aH 9 #[.agg p.cells.toArray,.slice NR F.length pW] h λv U=>∃aT B m,v=b0 aT/\h.le B/\cU B U aT m/\m.x={j3 p with da:=(F.map dO.l).take p.ins.toNat++bG (p.ins.toNat-F.length) []}:=by
 have t6:p.cells=[R p.mem,R p.bF,R p.ins,R p.outs,.slice p.im p.parts.length p.cH,.slice p.eA p.lines.length p.lc,.slice p.ct p.ops.length p.bO]:=rfl;have n27:=auu p T h ok fV;rw[t6]at n27⊢;refine b5 asM rfl ?_;refine aK λgS dy gY=>?_;refine dy _ _ _ ?_;refine aK λgO dx eG=>?_;refine .done (.mk _ n27 ?_);rintro _ h1 ⟨aT,B,m,rfl,gF,k,ad,Li⟩;refine dx _ _ _ ?_;refine aK λgu df fK=>?_;refine aK λgk ed eH=>?_;refine ed _ _ _ ?_;refine df _ _ _ ?_;refine aK λhA dY hL=>?_;refine aK λhc eT hi=>?_;refine eT _ _ _ ?_;refine fG λkc gg j1=>?_;have vd:p.ins.toNat<=1000:=by have:=fV.i1;omega
 have ip:(p.ins.toNat:Int)=p.ins:=by have:=fV.i0;omega
 refine .lj (.done (.mk (Nat×I×e8) [1,2,5,7] (λ(i,_,_)=>[.v (.slice NR F.length pW),.p 0 0,.v (b0 aT),.v (R i)]) (λ_=>[.own (([R p.mem,R p.bF,R p.ins,R p.outs,.slice p.im p.parts.length p.cH,.slice p.eA p.lines.length p.lc,.slice p.ct p.ops.length p.bO]:List ao).map .v) 42]) (λ(i,dS,bc) U=>cU dS U aT bc/\h.le dS/\i<=F.length/\i<=p.ins.toNat/\bc.x={j3 p with da:=(F.map dO.l).take i++bG (p.ins.toNat-i) []}/\bc.da.length=p.ins.toNat/\∀o(ae:o<bc.da.length),i<=o->bc.da[o]=ED) (λ(i,_,_)=>F.length-i) (0,B,m) (λ_=>rfl) ⟨k,gF,cO _,cO _,by rw[ad];rfl,by rw[Li];simp,λo ae _=>by simp[Li]⟩ rfl rfl ?_));rintro⟨i,dS,bc⟩ e ab ⟨bB,L3,aA8,Lp,hB,qO,Ih⟩;refine aK λko g' ja=>?_;refine aK λlq gX kR=>?_;conv=>whnf
 by_cases aM:i<F.length;rw[fo (by omega)];refine gX _ _ _ ?_;refine ot rfl (λq=>?_) (λq=>?_);have aD:(i:Int)<p.ins:=qb q;refine g' _ _ _ ?_;refine aK λsd lC sK=>?_;refine fG λqx lD pr=>?_;refine aK λut nJ xG=>?_;obtain⟨ij,HS⟩:=Gc.cc (by omega);have Df:=I.le_trans L3 bB.le;refine .mk ij HS (by omega) (by omega) ?_;refine .hp F[i].val (by rw[bq];exact(Gc.mono Df).one HS (iM aM) rfl) ?_;have aB:=bm _ (cS aM);refine .done (.mk _ (akL bB i (by omega) (Ih i (by omega) (dd _)) F[i].A F[i].l.length F[i].c F[i].l (aB.1.mono Df) aB.2) ?_);rintro _ an ⟨rfl,zJ,m3,RN,eo,Ie,d3,HR⟩;refine nJ _ _ _ ?_;refine pr _ _ _ _ nofun (lC _ _ _ ?_);refine .ok (by omega) (by omega) ?_;refine⟨(i+1,zJ,m3),rfl,rfl,⟨eo,I.le_trans L3 RN,by omega,by omega,?_,by rw[HR];simpa using qO,λo ae u0=>?_⟩,by show F.length- (i+1)<F.length-i;omega⟩;rw[Ie,hB];have:=axw (F.map dO.l) p.ins.toNat i (by simpa using aM) (by omega);rw[List.getElem_map]at this;simp only[this];have e:m3.da[o]?=(bc.da.set i d3)[o]? :=by rw[HR]
 have en:o<bc.da.length:=by have U:=ae;rw[HR]at U;simpa using U
 rw[bZ ae,List.getElem?_set_ne (by omega),bZ en,Ih o en (by omega)]at e;exact oB e;have aD:¬(i:Int)<p.ins:=tZ q;refine ja _ _ _ _ nofun ?_;have aJ:i=p.ins.toNat:=by omega
 refine gg _ _ _ (dY _ _ _ ?_);conv=>whnf
 refine .done ⟨aT,dS,bc,rfl,L3,bB,?_⟩;rw[hB,aJ,yq,Nat.sub_eq_zero_of_le (by omega)];rw[gU (by omega)];refine gX _ _ _ ?_;refine ot rfl nofun (λq=>?_);refine ja _ _ _ _ nofun ?_;have aJ:i=F.length:=by omega
 refine gg _ _ _ (dY _ _ _ ?_);refine .done ⟨aT,dS,bc,rfl,L3,bB,?_⟩;rw[hB,aJ,k4 (by simp),k4 (by simp;omega)]
def ez(hf gv eF ct iu dE:Option ar)(ac cM cE bO c1 c2:Nat):eY:=⟨⟨#[103]⟩,hf,ac,[⟨⟨#[97]⟩,2,iu,1,c1,[2]⟩,⟨⟨#[98]⟩,3,dE,1,c2,[3]⟩],gv,cM,[⟨0,0,1,0,none,0,0,[]⟩],eF,cE,[⟨⟨#[120]⟩,0,0⟩],ct,bO,[⟨⟨#[121]⟩,1,0⟩]⟩
def nY:List bo:=[⟨0,1,2,3,0⟩]
def XV:List (List b6):=[[⟨4,0,1⟩,⟨5,0,0⟩,⟨6,0,2⟩],[⟨3,0,3⟩,⟨5,1,0⟩,⟨7,0,1⟩]]
theorem aiz:mO (ez hf gv eF ct iu dE ac cM cE bO c1 c2)=0:=by rfl
theorem Vn:fH (ez hf gv eF ct iu dE ac cM cE bO c1 c2)=nY:=by rfl
theorem aix:jV (ez hf gv eF ct iu dE ac cM cE bO c1 c2)=XV:=by rfl
theorem Vt:vu 2 nY=some [3,2]:=by decide+kernel
theorem Vs:r1 2 nY [3,2] []=some [0,0,1,0,1]:=by decide+kernel
theorem aiA:l2 2 nY [0,0,1,0,1]=0:=by decide+kernel
theorem Vp:lg (eh 2 nY [0,0,1,0,1]).2=[4]:=by decide+kernel
theorem Vq:kg (eh 2 nY [0,0,1,0,1]).2 1=[]:=by decide+kernel
theorem Vr{os:List Nat}{bC:List cL}{dA:List Bool}(hp:os.Perm (g6 1))(r:o8 [] [4] 1 os bC dA):bC=[(0,4)]:=by
 have aL:os=[0]:=List.perm_singleton.1 hp;cases r with
 |nil=>cases aL
 |step a aN h aj=>
  rename_i oh awA aBO;have ab:oh=[]/\a=0:=by
   cases oh with
   |nil=>injection aL with e _;exact⟨rfl,e⟩
   |cons b t=>injection aL with _ e;exact absurd e (by simp)
  obtain⟨rfl,rfl⟩:=ab;have am:awA=[(0,0)]:=by
   generalize e:([]:List Nat)=aBN at h;cases h with
   |nil=>rfl
   |step=>exact absurd e.symm (by simp)
  have aQ:aN=[]:=List.length_eq_zero_iff.1 (by have:=aj.1.length_eq;simpa[il,k5]using this);subst am aQ;rfl
def Sz:List b6:=[⟨1,0,2⟩,⟨4,0,1⟩,⟨5,0,0⟩,⟨6,0,2⟩,⟨2,0,1⟩,⟨3,0,3⟩,⟨5,1,0⟩,⟨7,0,1⟩,⟨4,0,1⟩,⟨5,0,0⟩,⟨6,0,2⟩,⟨3,0,3⟩,⟨5,1,0⟩,⟨7,0,1⟩]
theorem Vo:ga XV (fp (pQ [0,0,1,0,1]).2) 0 0=Sz/\jk (fp (pQ [0,0,1,0,1]).2) 0 0=1:=by decide+kernel
def SJ:km:={mem:=4,bF:=1,ins:=1,outs:=1,im:=none,cH:=0,parts:=[⟨2,none,0,0,[2]⟩,⟨3,none,0,0,[3]⟩],eA:=none,lc:=0,lines:=[⟨0,4,none,0,0,[]⟩],ct:=none,bO:=0,ops:=Sz++[⟨0,0,0⟩]}
theorem aiB:∃x,runM 200 {j3 SJ with da:=[[7,8,9]]} 1=some (x,1)/\x.wr=[[7,0]]:=⟨_,rfl,rfl⟩
theorem avu:∀{l:List nc},l.map (λx=>(x.tag,x.be))=[(2,[2]),(3,[3])]->∃q6 bJ c1 hz bB c2,l=[⟨2,q6,bJ,c1,[2]⟩,⟨3,hz,bB,c2,[3]⟩]
 |[⟨t1,q6,bJ,c1,ie⟩,⟨t2,hz,bB,c2,hR⟩],h=>by
  simp only[eO,zU,yp,Oy,and_true]at h;obtain⟨⟨rfl,rfl⟩,rfl,rfl⟩:=h;exact⟨q6,bJ,c1,hz,bB,c2,rfl⟩
theorem atp:∀{l:List h9},l.map (λx=>(x.base,x.size,x.st))=[(0,4,[])]->∃q6 bJ c1,l=[⟨0,4,q6,bJ,c1,[]⟩]
 |[⟨bL,s1,Us,dF,d1,st1⟩],h=>by
  simp only[eO,zU,yp,Oy,and_true]at h;obtain⟨rfl,rfl,rfl⟩:=h;exact⟨Us,dF,d1,rfl⟩
theorem aiC{U:I}(m:uo (ez hf gv eF ct iu dE ac cM cE bO c1 c2) [] U x):j3 x.p=j3 SJ/\x.p.ins=1/\x.p.outs=1/\∃T,x.p.yh T:=by
 obtain⟨_,_,_,_,_,yT,_,d6,os,bC,dA,aJ,aI,ck,eE,mf,tx,An,B9⟩:=m;rw[Vn]at aJ aI eE mf;have f1:d6=[3,2]:=(oB (Vt.symm.trans aJ)).symm;subst f1;have f2:x.l=[0,0,1,0,1]:=(oB (Vs.symm.trans aI)).symm;rw[f2]at mf yT;have f3:bC=[(0,4)]:=Vr (os:=os) (dA:=dA) eE (by
  have q:o8 (kg (eh (2:Nat) nY (j2 [0,0,1,0,1])).2 nY.length) (lg (eh (2:Nat) nY (j2 [0,0,1,0,1])).2) 1 os bC dA:=mf;rw[show lg (eh (2:Nat) nY (j2 [0,0,1,0,1])).2=[4]from Vp,show kg (eh (2:Nat) nY (j2 [0,0,1,0,1])).2 nY.length=[]from Vq]at q;exact q)
 subst f3;obtain⟨m1,m2,m3,m4,m5,m6,m7⟩:=An;have B':x.bX.bn=fp (pQ [0,0,1,0,1]).2:=by rw[<-zm x.bX.bn,yT];rfl
 rw[aix,B',Vo.1]at m7;rw[B',Vo.2]at m2;refine⟨?_,m3,m4,_,B9⟩;rw[tx]at m1;generalize x.p=p at*;obtain⟨mem,bF,ins,outs,im,cH,parts,eA,lc,lines,ct,bO,ops⟩:=p;have m1:mem=4:=m1;have m2:bF=1:=m2;have m3:ins=1:=m3;have m4:outs=1:=m4;have m5:parts.map (λx=>(x.tag,x.be))=[(2,[2]),(3,[3])]:=m5;have m6:lines.map (λx=>(x.base,x.size,x.st))=[(0,4,[])]:=m6;have m7:ops=Sz++[⟨0,0,0⟩]:=m7;subst m1 m2 m3 m4 m7;obtain⟨q6,bJ,c1,hz,bB,c2,rfl⟩:=avu m5;obtain⟨Us,dF,d1,rfl⟩:=atp m6;rfl
abbrev se(l:List ao)(t:Nat):Obj:=.cells l.toArray t (0,0)
def A9:Obj:=se [R 2] 3
def Dm:Obj:=se [R 3] 3
def FP(bL cy:Nat):Obj:=se [.string ⟨#[97]⟩,.int .u8 2,.slice (some ⟨bL,0,none⟩) 1 1,.string ⟨#[98]⟩,.int .u8 3,.slice (some ⟨cy,0,none⟩) 1 1] 96
def I0:Obj:=se [R 0,R 0,R 1,R 0,.slice none 0 0] 98
def MA:Obj:=se [.string ⟨#[120]⟩,R 0,R 0] 100
def Sw:Obj:=se [.string ⟨#[121]⟩,R 1,R 0] 100
def uF(b:Nat):Option ar:=some ⟨b,0,none⟩
def aO(h:I)(bL cy gE iW jy pO:Nat):I:=(((((h.put bL A9).put cy Dm).put gE (FP bL cy)).put iW I0).put jy MA).put pO Sw
theorem alV{bL cy gE iW jy pO:Nat}(aM:h bL=none)(aD:(h.put bL A9) cy=none)(bj:((h.put bL A9).put cy Dm) gE=none)(bT:(((h.put bL A9).put cy Dm).put gE (FP bL cy)) iW=none)(dz:((((h.put bL A9).put cy Dm).put gE (FP bL cy)).put iW I0) jy=none)(j6:(((((h.put bL A9).put cy Dm).put gE (FP bL cy)).put iW I0).put jy MA) pO=none):h.le (aO h bL cy gE iW jy pO)/\(ez (uF gE) (uF iW) (uF jy) (uF pO) (uF bL) (uF cy) 2 1 1 1 1 1).ok (aO h bL cy gE iW jy pO):=by
 have sN:I.le _ (aO h bL cy gE iW jy pO):=I.du j6;have l1:=I.le_trans (I.du (J:=MA) dz) sN;have gm:=I.le_trans (I.du (J:=I0) bT) l1;have ha:=I.le_trans (I.du (J:=FP bL cy) bj) gm;have c9:=I.le_trans (I.du (J:=Dm) aD) ha;have dc:=I.le_trans (I.du (J:=A9) aM) c9;have aJ:=c9 _ _ (I.bP h bL A9);have aI:=ha _ _ (I.bP _ cy Dm);have ck:=gm _ _ (I.bP _ gE (FP bL cy));have eE:=l1 _ _ (I.bP _ iW I0);have mf:=sN _ _ (I.bP _ jy MA);have tx:aO h bL cy gE iW jy pO pO=some Sw:=I.bP _ pO Sw;refine⟨dc,(by decide:(1:Nat)<=4611686018427387904),bg.lit ck rfl (by simp[ez,h8.cells]) rfl,?_,bg.lit eE rfl (by simp[ez,GE.cells]) rfl,?_,bg.lit mf rfl (by simp[ez,k0.cells]) rfl,?_,bg.lit tx rfl (by simp[ez,k0.cells]) rfl,?_⟩;intro a a6;simp only[ez,dC,th,or_false]at a6;rcases a6 with rfl|rfl;exact⟨bg.lit aJ rfl (by simp) rfl,(by decide:(1:Nat)*8<=140737488355328),(by decide:(1:Nat)<=4611686018427387904)⟩;exact⟨bg.lit aI rfl (by simp) rfl,(by decide:(1:Nat)*8<=140737488355328),(by decide:(1:Nat)<=4611686018427387904)⟩;intro a a6;simp only[ez,dC,th,or_false]at a6;subst a6;exact⟨bg.nil _ _ _,(by decide:(0:Nat)*8<=140737488355328)⟩;intro a a6;simp only[ez,dC,th,or_false]at a6;subst a6;exact(by decide:(1:Nat)<=4611686018427387904);intro a a6;simp only[ez,dC,th,or_false]at a6;subst a6;exact(by decide:(1:Nat)<=4611686018427387904)
theorem aiy:¬Bu (ez hf gv eF ct iu dE ac cM cE bO c1 c2) []:=by
 unfold Bu;rw[Vn];have es:vu (ez hf gv eF ct iu dE ac cM cE bO c1 c2).bt.length nY=some [3,2]:=Vt;have Ap:r1 (ez hf gv eF ct iu dE ac cM cE bO c1 c2).bt.length nY [3,2] []=some [0,0,1,0,1]:=Vs;rw[es];rintro(q|q|⟨d6,aM,aD⟩|⟨d6,l,aM,aD,bj⟩);exact q aiz;cases q;cases aM;rw[Ap]at aD;cases aD;cases aM;rw[Ap]at aD;cases aD;rcases bj with bj|⟨os,bC,dA,ie,hR,kW⟩;exact bj aiA;have q:o8 (kg (eh (2:Nat) nY (j2 [0,0,1,0,1])).2 nY.length) (lg (eh (2:Nat) nY (j2 [0,0,1,0,1])).2) 1 os bC dA:=hR;rw[show lg (eh (2:Nat) nY (j2 [0,0,1,0,1])).2=[4]from Vp,show kg (eh (2:Nat) nY (j2 [0,0,1,0,1])).2 nY.length=[]from Vq]at q;rw[Vr ie q]at kW;exact absurd kW (by decide)
theorem VP(h:I)(wJ:uw h):Fn aH 8 #[] h λv U=>v= .bool true/\h.le U:=by
 refine b5 asH rfl ?_;refine aK λgS dy gY=>?_;refine dy _ _ _ ?_;refine aK λgO dx eG=>?_;refine dx _ _ _ ?_;refine aK λgu df fK=>?_;refine .mk λbL eS=>?_;refine .mk λcy fC=>?_;refine .mk λgE pg=>?_;refine .mk λiW wi=>?_;refine .mk λjy amr=>?_;refine .mk λpO ams=>?_;have aP:=alV eS fC pg wi amr ams;refine .done (.mk _ (ab2 _ (aO h bL cy gE iW jy pO) aP.2 (wJ.mono aP.1) none 0 0 [] (bg.nil _ _ _) (by decide)) ?_);rintro _ h1 ⟨cr,⟨_,bad⟩|⟨x,rfl,mk⟩⟩;exact absurd bad aiy;obtain⟨jJ,Ap,aAL,T,Au⟩:=aiC mk;refine df _ _ _ ?_;refine aK λgk ed eH=>?_;refine aK λhA dY hL=>?_;refine dY _ _ _ ?_;refine ed _ _ _ ?_;refine aK λhc eT hi=>?_;refine .mk λuG amt=>?_;refine .mk λyy amu=>?_;have vf:I.le _ ((h1.put uG (se [R 7,R 8,R 9] 3)).put yy (se [.slice (uF uG) 3 3] 27)):=I.du amu;have B9:((h1.put uG (se [R 7,R 8,R 9] 3)).put yy (se [.slice (uF uG) 3 3] 27)) yy=some (se [.slice (uF uG) 3 3] 27):=I.bP _ _ _;have An:=vf _ _ (I.bP h1 uG (se [R 7,R 8,R 9] 3));have A0:=I.le_trans (I.du (J:=se [R 7,R 8,R 9] 3) amt) vf;refine .done (.mk _ (ab1 x.p T _ (mk.ok.mono A0) Au (uF yy) 1 [⟨uF uG,3,[7,8,9]⟩] (bg.lit B9 rfl (by simp[dO.val]) rfl) (λd aB=>?_)) ?_);rw[List.mem_singleton]at aB;subst aB;exact⟨bg.lit An rfl (by simp[gZ]) rfl,(by decide:(3:Nat)<=100000)⟩;rintro _ ab ⟨aT,B,m,rfl,gF,k,ad⟩;rw[jJ,Ap]at ad;have ad:m.x={j3 SJ with da:=[[7,8,9]]}:=ad;obtain⟨wM,dp,Q7⟩:=aiB;refine eT _ _ _ ?_;refine aK λkb fE i'=>?_;refine aK λkc gg j1=>?_;refine gg _ _ _ ?_;refine fE _ _ _ ?_;refine aK λko g' ja=>?_;refine .done (.mk _ (awV k 1 (by decide) (by rw[ad];decide) 200 wM 1 (by rw[ad];exact dp)) ?_);rintro _ an ⟨zJ,m3,rfl,RN,eo,Ie⟩;refine g' _ _ _ ?_;refine aK λlq gX kR=>?_;conv=>whnf
 rw[fo rfl];refine .done (.mk _ (avg eo 0 (by rw[Ie,Q7];decide) (by rw[Ie,Q7];decide)) ?_);rw[Ie,Q7];intro v aR SG;obtain⟨cW,A,c,rfl,Nb⟩:=SG.dG;refine .mk λB3 amv=>?_;have Fp:aR.le (aR.put B3 (se [R 7,R 0] 3)):=I.du amv;refine .done (.mk _ (aet A (uF B3) 2 2 c 2 [7,0] [7,0] _ (Nb.mono Fp) (bg.lit (cs:=[R 7,R 0]) (I.bP aR B3 _) rfl (by simp) rfl) (by decide)) ?_);rintro _ cg ⟨rfl,rfl⟩;refine gX _ _ _ ?_;exact .done ⟨rfl,I.le_trans aP.1 (I.le_trans cr (I.le_trans A0 (I.le_trans gF (I.le_trans RN (I.le_trans eo.le (I.le_trans cW Fp))))))⟩
theorem uo.L8(m:uo g aG h x):l2 g.bt.length (fH g) (j2 x.l)=0:=by
 obtain⟨_,_,_,_,_,_,ck,_⟩:=m.ex;exact ck
theorem uo.Au(m:uo g aG h x):x.p.yh (jH (jV g) x.bX.bn+1:Nat):=by
 obtain⟨_,_,_,_,_,_,_,_,_,_,_,ck⟩:=m.ex;exact ck
theorem uo.ajv(m:uo g aG h x):jD 5 x.p.ops<=(fy (j2 x.l)).length/\jD 1 x.p.ops<=(fy (j2 x.l)).length:=by
 have pj:=m.sf.e';have ml:=m.sf.uU;have tD:=m.sf.bF;rw[zm]at pj ml tD;obtain⟨_,_,_,_,_,_,ck,_,_,_,md,_⟩:=m.ex;have mn:=(KU (n:=g.bt.length) x.bX.bn (Eq pj).1 (by rw[ml];exact(RW ck).2)).1;have cM:=Pr (ax:=jV g) (λo ae=>akV m.g0 ae) x.bX.bn 0 0 mn;have f1:=PL x.bX.bn;have f2:=QA x.bX.bn;rw[md.2.2.2.2.2.2,xF,xF,cM.1,cM.2];have z5:jD 5 [(⟨0,0,0⟩:b6)]=0:=rfl;have hJ:jD 1 [(⟨0,0,0⟩:b6)]=0:=rfl;omega
theorem uo.mem{g:eY}{aG:List Int}{h:I}{x:wW}(m:uo g aG h x):((j3 x.p).mem.length:Int)=x.T:=by
 have fV:=m.Au;obtain⟨_,_,_,_,_,_,_,_,_,tx,md,_⟩:=m.ex;have al:(j3 x.p).mem.length=x.p.mem.toNat:=R4 _ _ _ (by simp) λy aQ=>by have:=fV.ch y aQ;have:=fV.m0;omega
 rw[al,<-md.1];have:=fV.m0;omega
theorem uo.exp(m:uo g aG h x):uS x.bX.bn=j2 x.l:=by
 have pj:=m.sf.e';have ml:=m.sf.uU;rw[zm]at pj ml;unfold uS;rw[aX pj];exact ml
theorem axE(g:eY)(h:I)(ok:g.ok h)(wJ:uw h)(P:Option ar)(k c2:Nat)(aG:List Int)(q1:bg h 1 P k (gZ aG))(hk:k<=70368744177664):Fn aH 5 #[.agg g.cells.toArray,.slice P k c2] h λv U=>v= .bool true/\h.le U:=by
 have m7:=ab2 g h ok wJ P k c2 aG q1 hk;have gc:g.cells=[.string g.dD,.slice g.hf g.bt.length g.ac,.slice g.gv g.cp.length g.cM,.slice g.eF g.ins.length g.cE,.slice g.ct g.outs.length g.bO]:=rfl;rw[gc]at m7⊢;refine b5 Fj rfl ?_;refine aK λgS dy gY=>?_;refine dy _ _ _ ?_;refine aK λgO dx eG=>?_;refine .done (.mk _ m7 ?_);rintro _ h1 ⟨cr,⟨rfl,bad⟩|⟨x,rfl,mk⟩⟩;refine dx _ _ _ ?_;refine aK λgu df fK=>?_;refine aK λgk ed eH=>?_;refine ed _ _ _ ?_;refine .done (.mk _ (VP h1 (wJ.mono cr)) ?_);rintro _ ab ⟨rfl,cn⟩;refine fK _ _ _ _ nofun ?_;exact .done ⟨rfl,I.le_trans cr cn⟩;refine dx _ _ _ ?_;refine aK λgu df fK=>?_;refine aK λgk ed eH=>?_;refine ed _ _ _ ?_;refine df _ _ _ ?_;refine aK λhA dY hL=>?_;refine .done (.mk _ (akC x.bX (by have:=mk.bF;omega) x.BM x.dD x.A6 h1 mk.nest) ?_);rintro _ ab ⟨cn,D,n,c,rfl,adK,_⟩;have pj:=mk.sf.e';have ml:=mk.sf.uU;rw[zm]at pj ml;rw[pj];refine dY _ _ _ ?_;refine aK λhc eT hi=>?_;have ayA:=mk.cB.mono cn;have anA:(j2 x.l).length=x.l.length:=by simp[j2]
 have yZ:x.l.length<=2048:=by rw[<-anA];exact(RW mk.L8).1
 refine .done (.mk _ (aej x.h9 x.l.length x.lc (j2 x.l) ab ayA (by omega)) ?_);rintro _ an ⟨E,atQ,ce,rfl,aBi,aem⟩;refine eT _ _ _ ?_;refine aK λkb fE i'=>?_;refine fE _ _ _ ?_;refine aK λkc gg j1=>?_;refine gg _ _ _ ?_;refine aK λko g' ja=>?_;refine aK λlq gX kR=>?_;refine gX _ _ _ ?_;refine fG λsd lC sK=>?_;have Nb:=mk.ok.ops;have Df:h1.le an:=I.le_trans cn aem.le;have L5:=Df;have QL:n<=2048:=by have aM:=ad8 adK;have aD:=XD x.bX.bn;omega
 have Au:=mk.Au;have nF:x.p.ops.length<=131072:=by have:=Au.op;omega
 refine .lj (.done (.mk (Nat×Nat×Nat) [2,5,7,8,9,10,11,12] (λ(i,a,b)=>[.p 0 0,.p 1 0,.v (.slice D n c),.v (R 0),.v (.slice E atQ ce),.v (R a),.v (R b),.v (R i)]) (λ_=>[.own (([.string g.dD,.slice g.hf g.bt.length g.ac,.slice g.gv g.cp.length g.cM,.slice g.eF g.ins.length g.cE,.slice g.ct g.outs.length g.bO]:List ao).map .v) 26,.own (([R g.bt.length,.slice x.tU (fH g).length x.A5,.slice (some x.ax) g.bt.length g.bt.length,.slice x.h9 x.l.length x.lc,.slice x.BM x.dD x.A6,.slice x.qw (fH g).length (fH g).length,R x.T,
 R x.p.mem,R x.p.bF,R x.p.ins,R x.p.outs,.slice x.p.im x.p.parts.length x.p.cH,.slice x.p.eA x.p.lines.length x.p.lc,.slice x.p.ct x.p.ops.length x.p.bO]:List ao).map .v) 44])
  (λ(i,a,b) U=>U=an/\i<=x.p.ops.length/\a=jD 5 (x.p.ops.take i)/\b=jD 1 (x.p.ops.take i)) (λ(i,_,_)=>x.p.ops.length-i) (0,0,0) (λ_=>rfl) ⟨rfl,cO _,rfl,rfl⟩ rfl rfl ?_))
 rintro⟨i,a,b⟩ e aP ⟨ex,ag,a6,af⟩;have Df:h1.le aP:=by rw[ex];exact Df
 refine aK λqx lD pr=>?_;refine aK λut nJ xG=>?_;refine nJ _ _ _ ?_;refine ot rfl (λq=>?_) (λq=>?_);have aD:(i:Int)<x.p.ops.length:=qb q;have bj:i<x.p.ops.length:=by omega
 refine lD _ _ _ ?_;refine aK λBU rL Fm=>?_;refine fG λD7 AZ C'=>?_;refine aK λOz Iq aa8=>?_;obtain⟨bh,HT⟩:=Nb.cc (by omega);refine .mk bh HT (by omega) (by omega) ?_;refine .hp (.int .u8 x.p.ops[i].k) (by rw[bq];exact(Nb.mono Df).cell bh HT i _ (iM bj) 0 _ rfl) ?_;refine Iq _ _ _ ?_;refine fG λU7 Ir Iu=>?_;refine aK λU8 Is aa9=>?_;refine Is _ _ _ ?_;have step:∀e1,jD e1 (x.p.ops.take (i+1))=jD e1 (x.p.ops.take i)+(if x.p.ops[i].k=e1 then 1 else 0):=λe1=>by
  rw[kh bj,xF];unfold jD;simp only[List.countP_cons,List.countP_nil,beq_iff_eq,dJ]
 have cu:∀e1,jD e1 (x.p.ops.take i)<=x.p.ops.length:=λe1=>hT List.countP_le_length (by simp;omega);have aBd:=cu 5;have lY:=cu 1;refine ot rfl (λie=>?_) (λie=>?_);have ie:(x.p.ops[i].k:Int)=5:=qb ie;have zy:=step 5;have s1:=step 1;rw[aX (by omega)]at zy;rw[aE (by omega)]at s1;refine .ok (by omega) (by omega) ?_;refine Iu _ _ _ _ nofun (C' _ _ _ _ nofun (rL _ _ _ ?_));refine .ok (by omega) (by omega) ?_;exact⟨(i+1,a+1,b),rfl,rfl,⟨ex,by omega,by omega,by omega⟩,by show x.p.ops.length- (i+1)<x.p.ops.length-i;omega⟩;have ie:¬(x.p.ops[i].k:Int)=5:=tZ ie;have zy:=step 5;rw[aE (by omega)]at zy;refine aK λOA It aa'=>?_;refine It _ _ _ ?_;refine ot rfl (λhR=>?_) (λhR=>?_);have hR:(x.p.ops[i].k:Int)=1:=qb hR;have s1:=step 1;rw[aX (by omega)]at s1;refine .ok (by omega) (by omega) ?_;refine Iu _ _ _ _ nofun (C' _ _ _ _ nofun (rL _ _ _ ?_));refine .ok (by omega) (by omega) ?_;exact⟨(i+1,a,b+1),rfl,rfl,⟨ex,by omega,by omega,by omega⟩,by show x.p.ops.length- (i+1)<x.p.ops.length-i;omega⟩;have hR:¬(x.p.ops[i].k:Int)=1:=tZ hR;have s1:=step 1;rw[aE (by omega)]at s1;refine Iu _ _ _ _ nofun (C' _ _ _ _ nofun (rL _ _ _ ?_));refine .ok (by omega) (by omega) ?_;exact⟨(i+1,a,b),rfl,rfl,⟨ex,by omega,by omega,by omega⟩,by show x.p.ops.length- (i+1)<x.p.ops.length-i;omega⟩;have aD:¬(i:Int)<x.p.ops.length:=tZ q;have Ap:i=x.p.ops.length:=by omega
 rw[k4 (by omega)]at a6 af;refine pr _ _ _ _ nofun ?_;refine lC _ _ _ (g' _ _ _ ?_);refine aK λah2 Rz asV=>?_;rw[ex];refine .done (.mk _ (ab1 x.p _ an (mk.ok.mono L5) Au none 0 [] (bg.nil _ _ _) nofun) ?_);rintro _ aR ⟨aT,B,m,rfl,gF,abe,ad⟩;refine Rz _ _ _ ?_;refine aK λah3 RA asW=>?_;refine aK λaAu asT aBB=>?_;have cW:=I.le_trans gF abe.le;have TI:bg aR 1 D n ((uS x.bX.bn).map λz=>[R z]):=((adK.mono aem.le).mono cW).jr;refine .done (.mk _ (aet D x.h9 n x.l.length c x.lc (uS x.bX.bn) (j2 x.l) aR TI ((mk.cB.mono L5).mono cW) (by omega)) ?_);rintro _ cg ⟨rfl,rfl⟩;rw[fo mk.exp];refine asT _ _ _ ?_;refine RA _ _ _ ?_;refine aK λaAv asU aBC=>?_;have kM:=mk.ajv;conv=>whnf
 rw[fo (by omega)];conv=>whnf
 rw[fo (by omega)];conv=>whnf
 have sw:=mk.mem;have ZG:m.x.mem.length=(j3 x.p).mem.length:=by rw[ad]
 have gA:x.T<=1024:=by
  obtain⟨_,_,_,_,_,_,_,_,_,tx,md,_⟩:=mk.ex;have:=Au.m1;have:=md.1;omega
 refine .mk _ (atU abe (by omega)) (λ_ _ J=>J.dG.1) ?_;intro v fa SG;obtain⟨hv,Bt,Em,rfl,_⟩:=SG.dG;conv=>whnf
 rw[fo (by omega)];conv=>whnf
 refine .mk _ (VP fa (((((wJ.mono cr).mono L5).mono cW).mono hv))) (λ_ _ J=>J.2) ?_;rintro _ mi ⟨rfl,mv⟩;refine asU _ _ _ ?_;exact .done ⟨rfl,I.le_trans cr (I.le_trans L5 (I.le_trans cW (I.le_trans hv mv)))⟩
end Go.Sx
namespace Go.Sx
open Go.RowKit Go.WideShapes Go.ChangeShapes
set_option maxRecDepth 100000
set_option maxHeartbeats 0
set_option linter.all false
variable {W:bb}
section
variable {H:Type}{enc:fc×ao->H}{P:dW}
theorem ai0{mc:bb}{U:I}(x:Ext (I.of W) W U mc)(cu:(I.of W).le U):Below W.heap.size W mc:=by
 refine⟨x.os,x.tape,x.output,x.size,λk hk=>?_⟩;have h1:W.heap[k]?=some W.heap[k]:=Array.getElem?_eq_getElem hk;rw[h1];exact x.hw k _ (cu k _ h1)
theorem aoj(W:bb):lI (I.of W) W:=λ_ _ e=>e
theorem Sr{a:ar}{v:ao}(aw:W.cell? a=some v):(I.of W).cell? a=some v:=aw
def Jj(P:dW)(eg:List fc):Bool:=eg.all λt=>P.readableRec t&&decide (t<P.types.size)
theorem afu(al:RK P=true){W mc:bb}{sp:Nat->Bool}:∀(eg:List fc)(au:List ao)(a7:List (oy H))(be:List vK),Jj P eg=true->NL enc P W 0 (λ_=>true) true eg au a7 be->(∀p∈be,W.sameAt mc p)->(∀p∈be,sp p.block=true)->NL enc P mc 0 sp true eg au a7 be
 |[],[],[],_,_,h,_,_=>h
 |t::eg,v::au,d::a7,be,am,h,aj,hp=>by
  obtain⟨p,q,h1,ab,rfl⟩:=h;simp only[Jj,List.all_cons,Bool.and_eq_true,sh]at am;exact⟨p,q,aAy al am.1.1 am.1.2 h1 (λx ad=>aj x (by simp[ad])) (λx ad=>hp x (by simp[ad])),afu al eg au a7 q (by simpa[Jj]using am.2) ab (λx ad=>aj x (by simp[ad])) (λx ad=>hp x (by simp[ad])),rfl⟩
 |[],_::_,_,_,_,h,_,_=>h.elim
 |[],[],_::_,_,_,h,_,_=>h.elim
 |_::_,[],_,_,_,h,_,_=>h.elim
 |_::_,_::_,[],_,_,h,_,_=>h.elim
theorem avQ{f:Func}{s:ChangeSpec}{je:fc}{apart fresh handsOn again:Bool}{mc:bb}{args:Array ao}{a7 gs:List (oy H)}{before:List vK}(al:RK P=true)(am:Jj P f.params.toList=true)(fh:s.vars=[])(xz:f.resultTypes=#[je])(AS:P.underlying je=some .bool)(lT:agv enc P f.params.toList s.vars apart W args.toList a7 gs before)(aj:(s.fn H (a7++gs)).results=[.lit (.bool true)])(QW:(s.fn H (a7++gs)).args=a7)(CY:(s.fn H (a7++gs)).vars=[])(af:Below W.heap.size W mc):s.post enc P f apart fresh handsOn again W args (.bool true) mc:=by
 have di:∀p∈before,p.block<W.heap.size:=λp hp=>lT.lt p hp;obtain⟨p,q,h1,ab,an,aY,aC⟩:=id lT;have aq:q=[]/\gs=[]:=by
  rw[fh]at ab;cases gs with
  |nil=>exact⟨ab,rfl⟩
  |cons g gs=>exact ab.elim
 obtain⟨rfl,rfl⟩:=aq;rw[List.append_nil]at an;subst an;have aO:∀sp:Nat->Bool,(∀x∈before,sp x.block=true)->NL enc P mc 0 sp true f.params.toList args.toList (s.fn H (a7++[])).args before:=λsp va=>by
  rw[QW];exact afu al _ _ _ _ am h1 (λx ad=>af.same (di x ad)) va
 have K6:∀sp:Nat->Bool,DataW.TrodVars enc P mc sp s.vars (s.fn H (a7++[])).vars []:=λsp=>by
  rw[CY,fh];rfl
 have cG:∀(b:Nat)(sp:Nat->Bool)(aB:Bool),NL enc P mc b sp aB f.resultTypes.toList ((qB true).resultList f.resultTypes.size) (s.fn H (a7++[])).results []:=λb sp aB=>by
  rw[aj,xz];exact trodAll_mk1 (shut_bool AS true)
 have dk:∀(o:Nat)(t:fc)(r:ao),f.resultTypes[o]?=some t->((qB true).resultList f.resultTypes.size)[o]?=some r->Vj P mc .any 0 t r:=ok_one xz rfl (okWide_bool_mk AS true);have fS:∀x∈before,(λb=>decide (b<W.heap.size)) x.block=true:=λx ad=>by simpa using di x ad
 refine⟨a7,[],before,[],before,[],lT,cG _ _ _,aO _ fS,K6 _,World.keptBut_mono (λx ad=>⟨ad,?_⟩) (af.frame (·∈before)),λ_=>⟨dk,_,_,([]++before)++[],⟨[]++before,[],trodAll_append (aO _ (λ_ _=>rfl)) (cG _ _ _),K6 _,rfl,?_,?_⟩,?_⟩⟩;exact .inr (by simpa using ad);intro b off hp;have lX:MemPlace.cell b off∈before:=by simpa using hp
 rw[af.frozen (di _ lX)];exact aY b off lX;intro a6;simpa using aC a6;intro x ad _;simpa using ad
theorem aje{f:FuncId}{fn:Func}{s:ChangeSpec}{je:fc}{apart fresh handsOn again:Bool}{args:Array ao}{a7 gs:List (oy H)}{before:List vK}(al:RK P=true)(am:Jj P fn.params.toList=true)(fh:s.vars=[])(xz:fn.resultTypes=#[je])(AS:P.underlying je=some .bool)(lT:agv enc P fn.params.toList s.vars apart W args.toList a7 gs before)(aj:(s.fn H (a7++gs)).results=[.lit (.bool true)])(QW:(s.fn H (a7++gs)).args=a7)(CY:(s.fn H (a7++gs)).vars=[])(bm:Fn P f args (I.of W) λr U=>r= .bool true/\(I.of W).le U):Calls P f args W λe mc=>∃v,e= .returned v/\s.post enc P fn apart fresh handsOn again W args v mc:=by
 refine(bm.run W (aoj W)).mono ?_;rintro e mc ⟨v,U,rfl,⟨rfl,cu⟩,ad⟩;exact⟨_,rfl,avQ al am fh xz AS lT aj QW CY (ai0 ad cu)⟩
theorem Pa{α:Type}(ax:Nat->α->Prop):∀n,(∀i,i<n->∃a,ax i a)->∃l:List α,l.length=n/\∀i a,l[i]?=some a->ax i a
 |0,_=>⟨[],rfl,λi a h=>by simp at h⟩
 |n+1,h=>by
  obtain⟨l,h1,ab⟩:=Pa ax n λi ag=>h i (by omega);obtain⟨a,a6⟩:=h n (by omega);refine⟨l++[a],by simp[h1],λi b af=>?_⟩;rw[List.getElem?_append]at af;split at af;exact ab i b af;have:i=n:=by
   have:=(qt.1 af).1;simp at this;omega
  subst this;rw[h1]at af;simp at af;rw[<-af];exact a6
end
end Go.Sx
namespace Go.Sx
open Go.Proofs Go.RowKit Go.ChangeShapes Go.WideShapes
set_option maxRecDepth 100000
set_option maxHeartbeats 0
set_option linter.all false
section
variable {P:dW}{H:Type}{enc:fc×ao->H}
theorem ac7{W:bb}{spare:Nat->Bool}{held:Bool}{t e k6:Nat}{v:ao}{x:oy H×List vK}(av:P.underlying t=some (.slice e))(he:P.underlying e=some (.int .i64))(hC:P.cellsOf e=1)(h:zL enc P W 0 spare held k6 t [v]=some x):∃(A:Option ar)(n cap:Nat)(l:List Int),v= .slice A n cap/\bg (I.of W) 1 A n (l.map λz=>[R z])/\n<=cap/\∃el sp,(x.1= .slice el sp/\n<=el.length)\/(x.1= .nil/\n=0):=by
 rcases Deep.open_slice av h with⟨ai,h1⟩|⟨a,len,cap,m,n,D,Ow,fg,af,al,hm,anJ,ad,ag⟩;injection ai with ai;exact⟨none,0,0,[],ai,bg.nil _ _ _,dd _,[],[],.inr ⟨by rw[h1],rfl⟩⟩;injection fg with fg;have aBf:len<=m:=by rw[anJ];split<;>omega
 have key:∀i,i<len->∃z:Int,W.cell? (a.add i)=some (R z):=λi AG=>by
  obtain⟨gQ,aw,Ic⟩:=ag i (by omega);rw[hC,ew]at aw;obtain⟨z,aY,_⟩:=By he Ic;obtain⟨_,uX,mQ⟩:=aio aw;refine⟨z,?_⟩;have:=mQ 0 (by omega);rw[add_zero]at this;rw[this,aY];rfl
 obtain⟨l,yZ,y0⟩:=Pa (λi(b:Int)=>W.cell? (a.add i)=some (R b)) len key;refine⟨some a,len,cap,l,fg,⟨by simpa using yZ,λr am=>?_,λ_=>⟨a,rfl⟩,λg ak i r am o u hu=>?_⟩,al,(g6 len).map D,_,.inl ⟨by rw[ad],by simp⟩⟩;obtain⟨b,_,rfl⟩:=dn.1 am;rfl;injection ak with ak;subst ak;rw[dV,D3]at am;obtain⟨b,k8,rfl⟩:=am;have ae:o=0:=by
  have:=(qt.1 hu).1;simpa using this
 subst ae;injection hu with hu;subst hu;rw[ew,Nat.add_zero];exact Sr (y0 i b k8)
end
end Go.Sx
namespace Go.Proofs.YtlbdbpaelcnfgaaGreatDoor
open Go.Sx Go.RowKit Go.ChangeShapes Go.WideShapes
set_option maxRecDepth 100000
theorem Tryz.own:ownKnob Tryz.prog.godebug=none:=by kernel_rfl
theorem Tryz.laidOut:RK aH=true:=by kernel_rfl
theorem V2:Tryz.prog.bytesOf 3=8:=by kernel_rfl
section
variable {H:Type}{enc:fc×ao->H}{P:dW}
theorem MB{α:Type}{cells:α->List ao}{size:Nat}{W:bb}{spare:Nat->Bool}{held:Bool}{t e k6:Nat}{v:ao}{x:oy H×List vK}(Ok:α->oy H->Prop)(eb:∀a,(cells a).length=size)(av:P.underlying t=some (.slice e))(hC:P.cellsOf e=size)(jM:∀k6 cs y,zL enc P W 0 spare held k6 e cs=some y->∃a,cs=cells a/\Ok a y.1)(h:zL enc P W 0 spare held k6 t [v]=some x):∃(A:Option ar)(n cap:Nat)(l:List α),v= .slice A n cap/\bg (I.of W) size A n (l.map cells)/\n<=cap/\∀a∈l,∃y,Ok a y/\∀k∈y.weights P e,k∈x.1.weights P t:=by
 rcases DataW.trod_slice av h with⟨nN,aM⟩|⟨a,len,cap,elems,iH,n,rfl,fg,rfl,af,al,hm,aBe,n9,_⟩;injection nN with nN;exact⟨none,0,0,[],nN,bg.nil _ _ _,dd _,nofun⟩;injection fg with fg;obtain⟨l,yZ,y0⟩:=Pa (λi(b:α)=>(∀o u,(cells b)[o]?=some u->W.cell? (a.add (i*size+o))=some u)/\∃y∈elems,Ok b y.1) len λi ag=>by
  have hk:=n9 i ag;rw[bZ (by omega),hC]at hk;obtain⟨gQ,aw,Ic⟩:=Option.bind_eq_some_iff.1 hk;obtain⟨b,rfl,dk⟩:=jM _ _ _ Ic;obtain⟨_,uX,mQ⟩:=aio aw;refine⟨b,λo u hu=>?_,_,cS (by omega),dk⟩;have ae:=(qt.1 hu).1;rw[eb]at ae;have:=mQ o ae;rw[uE]at this;rw[this];exact hu
 refine⟨some a,len,cap,l,fg,⟨by simpa using yZ,λr am=>?_,λ_=>⟨a,rfl⟩,λg ak i r am o u hu=>?_⟩,al,λb k8=>?_⟩;obtain⟨b,_,rfl⟩:=dn.1 am;exact eb b;injection ak with ak;subst ak;rw[dV]at am;obtain⟨b,eS,rfl⟩:=D3.1 am;exact Sr ((y0 i b eS).1 o u hu);obtain⟨i,ag,rfl⟩:=List.getElem_of_mem k8;obtain⟨_,y,aQ,dk⟩:=y0 i _ (bZ ag);refine⟨y.1,dk,λk hk=>?_⟩;simp only[yg,av];refine List.mem_cons_of_mem _ (qu _ ?_);have:∀(l:List (oy H)),y.1∈l->k∈agw P e l:=by
  intro l;induction l with
  |nil=>intro q;cases q
  |cons z l bE=>
   intro q;rw[agw];rcases dC.1 q with q|q;exact qu _ (by rw[<-q];exact hk);exact wT _ (bE q)
 exact this _ (List.mem_map_of_mem aQ)
end
section
variable {H:Type}{enc:fc×ao->H}
theorem ac6{W:bb}{k6:Nat}{v:ao}{x:oy H×List vK}(h:zL enc aH W 0 (λ_=>true) true k6 27 [v]=some x):∃(A:Option ar)(n cap:Nat)(l:List Int),v= .slice A n cap/\bg (I.of W) 1 A n (l.map λz=>[R z])/\n<=cap/\∀B,(∀k∈x.1.weights aH 27,k<=B)->n*8<=B:=by
 obtain⟨A,n,cap,l,h1,ab,an,el,sp,aR⟩:=ac7 Kd BX (by kernel_rfl) h;refine⟨A,n,cap,l,h1,ab,an,λB bW=>?_⟩;rcases aR with⟨aR,cg⟩|⟨aR,cg⟩;have:=bW ((el.length+sp.length)*8) (by rw[aR];simp[yg,Kd,V2]);exact hT (pN 8 (by omega)) this;omega
theorem three{α:Type}:∀{l:List α},l.length=3->∃a b c,l=[a,b,c]
 |[a,b,c],_=>⟨a,b,c,rfl⟩
theorem KR{α:Type}:∀{l:List α},l.length=5->∃a b c d e,l=[a,b,c,d,e]
 |[a,b,c,d,e],_=>⟨a,b,c,d,e,rfl⟩
theorem part{P:dW}{a':Array Field}{W:bb}{n:Nat}{cs:List ao}{aN:List (oy H×List vK)}(az:∀(i:Nat)(f:Field),a'[i]?=some f->zL enc P W 0 (λ_=>true) true n f.type ((cs.drop f.offset).take (P.cellsOf f.type))=aN[i]?)(o t off:Nat)(ae:∃f,a'[o]?=some f/\f.type=t/\f.offset=off)(aw:P.cellsOf t=1):zL enc P W 0 (λ_=>true) true n t ((cs.drop off).take 1)=aN[o]? :=by
 obtain⟨f,h1,rfl,rfl⟩:=ae;rw[<-aw];exact az o f h1
def ky:Nat:=140737488355328
theorem awQ{W:bb}(k6:Nat)(cs:List ao)(y:oy H×List vK)(h:zL enc aH W 0 (λ_=>true) true k6 96 cs=some y):∃a:h8,cs=a.cells/\((∀k∈y.1.weights aH 96,k<=ky)->a.ok (I.of W)):=by
 obtain⟨aN,hE,_,aQ,uX,mT,az⟩:=NM aii h;obtain⟨gT,c1,c2,rfl⟩:=three (uX.trans (by kernel_rfl:Tryz.prog.cellsOf 96=3));obtain⟨q5,hl,g5,rfl⟩:=three mT;have nN:_=some q5:=part az 0 9 0 ⟨_,rfl,rfl,rfl⟩ (by kernel_rfl);have aM:_=some hl:=part az 1 94 1 ⟨_,rfl,rfl,rfl⟩ (by kernel_rfl);have aD:_=some g5:=part az 2 27 2 ⟨_,rfl,rfl,rfl⟩ (by kernel_rfl);obtain⟨s,ds,aV,aj⟩:=Ut Ef nN;obtain⟨z,aJ,_⟩:=By Tryz.underlying94 aM;obtain⟨A,n,c,l,aI,t,_,hw⟩:=ac6 (v:=c2) aD;injection ds with ds;injection aJ with aJ;have ds:gT= .string s:=ds;have aJ:c1= .int .u8 z:=aJ;subst ds aJ aI;have lT:y.1.weights aH 96=q5.1.weights aH 9++(hl.1.weights aH 94++(g5.1.weights aH 27++[])):=by rw[aQ];simp[yg,JO,aii]
 rw[lT];refine⟨⟨s,z,A,n,c,l⟩,rfl,λhk=>⟨t,hw _ λk br=>hk k (by simp[br]),?_⟩⟩;have:=hk s.size (by rw[aV];simp[yg]);unfold ky at this;show s.size<=_;omega
theorem awR{W:bb}(k6:Nat)(cs:List ao)(y:oy H×List vK)(h:zL enc aH W 0 (λ_=>true) true k6 98 cs=some y):∃a:GE,cs=a.cells/\((∀k∈y.1.weights aH 98,k<=ky)->a.ok (I.of W)):=by
 obtain⟨aN,hE,_,aQ,uX,mT,az⟩:=NM aij h;obtain⟨gT,c1,c2,eI,tq,rfl⟩:=KR (uX.trans (by kernel_rfl:Tryz.prog.cellsOf 98=5));obtain⟨q5,hl,g5,wN,vz,rfl⟩:=KR mT;have nN:_=some q5:=part az 0 3 0 ⟨_,rfl,rfl,rfl⟩ (by kernel_rfl);have aM:_=some hl:=part az 1 3 1 ⟨_,rfl,rfl,rfl⟩ (by kernel_rfl);have aD:_=some g5:=part az 2 3 2 ⟨_,rfl,rfl,rfl⟩ (by kernel_rfl);have bj:_=some wN:=part az 3 3 3 ⟨_,rfl,rfl,rfl⟩ (by kernel_rfl);have bT:_=some vz:=part az 4 27 4 ⟨_,rfl,rfl,rfl⟩ (by kernel_rfl);obtain⟨z0,ds,_⟩:=By BX nN;obtain⟨hJ,aJ,_⟩:=By BX aM;obtain⟨z2,aI,_⟩:=By BX aD;obtain⟨z3,ck,_⟩:=By BX bj;obtain⟨A,n,c,l,eE,t,_,hw⟩:=ac6 (v:=tq) bT;injection ds with ds;injection aJ with aJ;injection aI with aI;injection ck with ck;have ds:gT=R z0:=ds;have aJ:c1=R hJ:=aJ;have aI:c2=R z2:=aI;have ck:eI=R z3:=ck;subst ds aJ aI ck eE;have lT:y.1.weights aH 98=q5.1.weights aH 3++(hl.1.weights aH 3++(g5.1.weights aH 3++(wN.1.weights aH 3++(vz.1.weights aH 27++[])))):=by rw[aQ];simp[yg,JO,aij]
 rw[lT];exact⟨⟨z0,hJ,z2,z3,A,n,c,l⟩,rfl,λhk=>⟨t,hw _ λk br=>hk k (by simp[br])⟩⟩
theorem ad9{W:bb}(k6:Nat)(cs:List ao)(y:oy H×List vK)(h:zL enc aH W 0 (λ_=>true) true k6 100 cs=some y):∃a:k0,cs=a.cells/\((∀k∈y.1.weights aH 100,k<=ky)->a.dD.size<=ky):=by
 obtain⟨aN,hE,_,aQ,uX,mT,az⟩:=NM aif h;obtain⟨gT,c1,c2,rfl⟩:=three (uX.trans (by kernel_rfl:Tryz.prog.cellsOf 100=3));obtain⟨q5,hl,g5,rfl⟩:=three mT;have nN:_=some q5:=part az 0 9 0 ⟨_,rfl,rfl,rfl⟩ (by kernel_rfl);have aM:_=some hl:=part az 1 3 1 ⟨_,rfl,rfl,rfl⟩ (by kernel_rfl);have aD:_=some g5:=part az 2 3 2 ⟨_,rfl,rfl,rfl⟩ (by kernel_rfl);obtain⟨s,ds,aV,aj⟩:=Ut Ef nN;obtain⟨hJ,aJ,_⟩:=By BX aM;obtain⟨z2,aI,_⟩:=By BX aD;injection ds with ds;injection aJ with aJ;injection aI with aI;have ds:gT= .string s:=ds;have aJ:c1=R hJ:=aJ;have aI:c2=R z2:=aI;subst ds aJ aI;have lT:y.1.weights aH 100=q5.1.weights aH 9++(hl.1.weights aH 3++(g5.1.weights aH 3++[])):=by rw[aQ];simp[yg,JO,aif]
 rw[lT];exact⟨⟨s,hJ,z2⟩,rfl,λhk=>hk s.size (by rw[aV];simp[yg])⟩
theorem ava{W:bb}{v:ao}{d:oy H}{p:List vK}{r:Reach}{eD:Nat}(ah:Vj aH W r eD 26 v)(h:agu enc aH W 0 (λ_=>true) true 26 v d p)(hk:∀k∈d.weights aH 26,k<=ky):∃g:eY,v= .agg g.cells.toArray/\g.ok (I.of W):=by
 obtain⟨cs,rfl,ht⟩:=okWide_struct Vh ah;obtain⟨k6,am3⟩:=h;obtain⟨cs⟩:=cs;obtain⟨aN,hE,_,aQ,uX,mT,az⟩:=NM Vh am3;obtain⟨gT,c1,c2,eI,tq,rfl⟩:=KR (l:=cs) (uX.trans (by kernel_rfl:Tryz.prog.cellsOf 26=5));obtain⟨q5,hl,g5,wN,vz,rfl⟩:=KR mT;have nN:_=some q5:=part az 0 9 0 ⟨_,rfl,rfl,rfl⟩ (by kernel_rfl);have aM:_=some hl:=part az 1 22 1 ⟨_,rfl,rfl,rfl⟩ (by kernel_rfl);have aD:_=some g5:=part az 2 23 2 ⟨_,rfl,rfl,rfl⟩ (by kernel_rfl);have bj:_=some wN:=part az 3 24 3 ⟨_,rfl,rfl,rfl⟩ (by kernel_rfl);have bT:_=some vz:=part az 4 24 4 ⟨_,rfl,rfl,rfl⟩ (by kernel_rfl);obtain⟨s,ds,aV,aj⟩:=Ut Ef nN;obtain⟨hf,aiR,ac,Ad,aJ,t1,_,nK⟩:=MB (v:=c1) (size:=3) (cells:=h8.cells) (λ(a:h8)(y:oy H)=>(∀k∈y.weights aH 96,k<=ky)->a.ok (I.of W)) (λ_=>rfl) Tryz.underlying22 (by kernel_rfl) awQ aM;obtain⟨gv,jJ,cM,el,aI,t2,_,eW⟩:=MB (v:=c2) (size:=5) (cells:=GE.cells) (λ(a:GE)(y:oy H)=>(∀k∈y.weights aH 98,k<=ky)->a.ok (I.of W)) (λ_=>rfl) Tryz.underlying23 (by kernel_rfl) awR aD;obtain⟨eF,aoE,cE,vd,ck,t3,_,l4⟩:=MB (v:=eI) (size:=3) (cells:=k0.cells) (λ(a:k0)(y:oy H)=>(∀k∈y.weights aH 100,k<=ky)->a.dD.size<=ky) (λ_=>rfl) aig (by kernel_rfl) ad9 bj;obtain⟨ct,ok,bO,ol,eE,t4,_,FI⟩:=MB (v:=tq) (size:=3) (cells:=k0.cells) (λ(a:k0)(y:oy H)=>(∀k∈y.weights aH 100,k<=ky)->a.dD.size<=ky) (λ_=>rfl) aig (by kernel_rfl) ad9 bT;injection ds with ds;have ds:gT= .string s:=ds;subst ds aJ aI ck eE;have aB:d= .agg ([q5,hl,g5,wN,vz].map (·.1)):=(Prod.mk.inj aQ).1;have lT:d.weights aH 26=q5.1.weights aH 9++(hl.1.weights aH 22++(g5.1.weights aH 23++(wN.1.weights aH 24++(vz.1.weights aH 24++[])))):=by rw[aB];simp[yg,JO,Vh]
 rw[lT]at hk;have atf:Ad.length=aiR:=by simpa using t1.len
 have atg:el.length=jJ:=by simpa using t2.len
 have ath:vd.length=aoE:=by simpa using t3.len
 have ati:ol.length=ok:=by simpa using t4.len
 subst atf atg ath ati;have B4:ky<=4611686018427387904:=by decide
 refine⟨⟨s,hf,ac,Ad,gv,cM,el,eF,cE,vd,ct,bO,ol⟩,rfl,?_,t1,λa a6=>?_,t2,λa a6=>?_,t3,λa a6=>?_,t4,λa a6=>?_⟩;exact hT (hk s.size (by rw[aV];simp[yg])) B4;obtain⟨y,q,w⟩:=nK a a6;exact q λk br=>hk k (by have:=w k br;simp[this]);obtain⟨y,q,w⟩:=eW a a6;exact q λk br=>hk k (by have:=w k br;simp[this]);obtain⟨y,q,w⟩:=l4 a a6;exact hT (q λk br=>hk k (by have:=w k br;simp[this])) B4;obtain⟨y,q,w⟩:=FI a a6;exact hT (q λk br=>hk k (by have:=w k br;simp[this])) B4
theorem avb{W:bb}{v:ao}{d:oy H}{p:List vK}{r:Reach}{eD:Nat}(ah:Vj aH W r eD 27 v)(h:agu enc aH W 0 (λ_=>true) true 27 v d p):∃(A:Option ar)(n cap:Nat)(l:List Int),v= .slice A n cap/\bg (I.of W) 1 A n (l.map λz=>[R z])/\n<=cap/\∀B,(∀k∈d.weights aH 27,k<=B)->n*8<=B:=by
 obtain⟨k6,h⟩:=h;obtain⟨a,n,cap,rfl⟩:=okWide_slice Kd ah;obtain⟨A,n,cap,l,h1,ab,an,el,sp,aR⟩:=ac7 Kd BX (by kernel_rfl) (x:=(d,p)) h;refine⟨A,n,cap,l,h1,ab,an,λB bW=>?_⟩;rcases aR with⟨aR,cg⟩|⟨aR,cg⟩;have aR:d= .slice el sp:=aR;have:=bW ((el.length+sp.length)*8) (by rw[aR];simp[yg,Kd,V2]);exact hT (pN 8 (by omega)) this;omega
theorem W1{P:dW}{eg:List fc}{a7:List (oy H)}{o:Nat}{t:fc}{d:oy H}(h:(JO P eg a7).all (λk=>decide (k<=reachBytes))=true)(av:eg[o]?=some t)(aB:a7[o]?=some d):∀k∈d.weights P t,k<=140737488355328:=λk hk=>by
 have:=List.all_eq_true.1 h k (DataW.weights_mem_each av aB k hk);have:=of_decide_eq_true this;simp only[reachBytes]at this;omega
end
end Go.Proofs.YtlbdbpaelcnfgaaGreatDoor
