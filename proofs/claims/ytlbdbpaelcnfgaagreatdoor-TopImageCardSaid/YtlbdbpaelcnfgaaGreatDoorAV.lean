/- A part of the proof that the statement holds. Conditions: none. -/
import Derived.Laws.BytesString
import Derived.Test.YtlbdbpaelcnfgaaGreatDoorAO
import Derived.Test.YtlbdbpaelcnfgaaGreatDoorAQ
import Derived.Test.YtlbdbpaelcnfgaaGreatDoorAR
import Derived.Test.YtlbdbpaelcnfgaaGreatDoorAT
import Derived.Test.YtlbdbpaelcnfgaaGreatDoorAU
open Array renaming toList_inj->aH8
open ByteArray renaming empty->aK6,emptyWithCapacity->aK7,getElem_eq_getElem_data->aK8,push->aK9,size->aK'
open Decidable renaming byContradiction->zM
open Go renaming Addr->ar,Operand->e3,Program->dW,Value->ao,World->bb,execOp->cY,markStringish->aJ7,maxLen->c',method->jO,run_underlying->gj
open Go.Made renaming depth->iV
open Go.Op renaming intBits->ahT,operands->D2
open Go.Proofs.Tryz renaming prog->aH
open Go.Result renaming ok->ah4
open Go.Value renaming int->h'
open Int renaming fdiv_eq_ediv_of_nonneg->aIc
open List renaming append_assoc->mb,drop_eq_getElem_cons->o6,flatMap_cons->JX,getElem_mem->cS,length->e7,length_append->fb,length_cons->gI,length_nil->N',map_append->fm,map_cons->eO,map_replicate->un,mem_singleton->fx,mem_singleton_self->Of,replicate->bG,take_of_length_le->k4,take_zero->aFZ
open Nat renaming add_assoc->ahz,div_lt_of_lt_mul->aGP,mod_eq_of_lt->vM,mod_lt->U0,mul_comm->aEH,pow_le_pow_right->aIg,zero_le->cO
open Ne renaming symm->d9
open UInt8 renaming ofNat->aF0
namespace Go.Sx
open Go.Proofs
set_option maxRecDepth 100000
set_option maxHeartbeats 0
set_option linter.all false
variable {l:List Nat}{b c cj cv fX n t tag:Nat}{A:Option ar}{w:bb}{a:e3}
abbrev aDE(n:Nat):ao:=.int .u8 n
def aIj(fX:Nat)(ai h:I)(A:Option ar)(c:Nat)(l:List Nat):Prop:=(bz h 5 1 A l.length c (l.map aDE)/\∀g,A=some g->g.block≠fX/\ai g.block=none)\/(c=l.length/\∃b,A=some ⟨b,0,none⟩/\∀o v,(l.map aDE)[o]?=some v->h.cell? ((⟨b,0,none⟩:ar).add o)=some v)
structure aEm(ai h:I)(fX:Nat)(A:Option ar)(c:Nat)(l:List Nat):Prop where
 le:ai.le h
 c6:ai fX=none
 box:h fX=some (.cells #[.slice A l.length c] 135 (0,0))
 row:aIj fX ai h A c l
def aE4(ai:I)(fX:Nat)(l:List Nat)(_:ao)(U:I):Prop:=∃A c,aEm ai U fX A c l/\bz U 5 1 A l.length c (l.map aDE)
theorem aFw{ai h:I}(w:aEm ai h fX A c l)(al:l.length<=1000000000)(x:Nat):Fn aH 40 #[hx fX,aDE x] h (aE4 ai fX (l++[x])):=by
 refine b5 aJu rfl ?_;have yZ:(l++[x]).length=l.length+1:=by simp
 have h1:∀u∈[aDE x],u.oneCell'=true:=by intro u hu;rw[fx]at hu;subst hu;rfl
 refine .hp _ (bN w.box rfl) ?_;have new:∀{bA:Option ar}{bu:Nat}{U:I},(h.put fX (.cells [.slice bA (l.length+1) bu].toArray 135 (0,0))).le U->bz U 5 1 bA (l.length+1) bu (l.map aDE++[aDE x])->(∀g,bA=some g->(h.put fX (.cells [.slice bA (l.length+1) bu].toArray 135 (0,0))) g.block=none)->aE4 ai fX (l++[x]) undef U:=λ{bA bu U} cu am az=>by
  have fJ:bz U 5 1 bA (l++[x]).length bu ((l++[x]).map aDE):=by rw[yZ,fm];exact am
  refine⟨bA,bu,⟨I.le_trans (kT w.c6 w.le) cu,w.c6,by rw[yZ];exact cu _ _ (I.bP _ _ _),.inl ⟨fJ,λg ak=>?_⟩⟩,fJ⟩;have q:=az g ak;have bH:g.block≠fX:=λe=>by rw[e,I.bP]at q;cases q
  rw[I.cf _ _ bH]at q;exact⟨bH,I.none_le w.le q⟩
 rcases w.row with⟨row,kw⟩|⟨aw,b,rfl,fS⟩;refine .done (OS row (au:=[aDE x]) rfl h1 (by decide) rfl (by simp[c'];omega) (by omega) (λb J aO oo=>?_) (λbA bu aO aw=>?_));have af:=kw _ aO;refine .hp fX 0 135 [.slice A l.length c] [.slice A (l.length+1) c] rfl (by rw[I.cf _ _ (d9 af.1)];exact w.box) rfl ?_;have dU:bz ((h.put b J).put fX (.cells [.slice A (l.length+1) c].toArray 135 (0,0))) 5 1 A (l++[x]).length c ((l++[x]).map aDE):=by
  rw[yZ,fm];exact bz.ju oo λg ak=>(kw g ak).1
 exact .done ⟨A,c,⟨kT w.c6 (kT af.2 w.le),w.c6,by rw[yZ];exact I.bP _ _ _,.inl ⟨dU,kw⟩⟩,dU⟩;refine .hp fX 0 135 [.slice A l.length c] [.slice bA (l.length+1) bu] rfl w.box rfl ?_;refine .bV 1 5 1 bA (l.length+1) bu _ rfl λh1 cu am az=>.done (new cu am az);refine .done (.rd b 0 [aDE x] (l.map aDE) rfl rfl h1 (by decide) (by simp) (λo u ae=>fS o u ae) (by omega) (by simp[c'];omega) (by omega) λb7 bu aw=>?_);refine .hp fX 0 135 [.slice (some ⟨b,0,none⟩) l.length c] [.slice (some b7) (l.length+1) bu] rfl w.box rfl ?_;refine .bV 1 5 1 (some b7) (l.length+1) bu _ rfl λh1 cu am az=>.done (new cu am az)
def aDx(n:Nat):List Nat:=if h:n<128 then[n]else(n%128+128)::aDx (n/128)
 termination_by n
 decreasing_by omega
theorem aFY:∀(k n:Nat),n<128^k->0<k->(aDx n).length<=k
 |0,_,_,h=>by cases h
 |k+1,n,h,_=>by
  rw[aDx];split;simp;rename_i q;rw[gI];have h1:n/128<128^k:=aGP (by rw[aEH,<-Nat.pow_succ];exact h);have hk:0<k:=by
   cases k with
   |zero=>simp at h;omega
   |succ k=>omega
  have:=aFY k (n/128) h1 hk;omega
theorem aDI(h:n<18446744073709551616):(aDx n).length<=10:=aFY 10 n (Nat.lt_trans h (by decide)) (by decide)
theorem aKe:∀(_:n<256),n|||128=n%128+128:=by
 intro h;have:∀m:_root_.Fin 256,m.val|||128=m.val%128+128:=by decide
 exact this ⟨n,h⟩
theorem aKZ{P:dW}{x:Nat}(ad:x<256):(binOp .or t (aDE x) (aDE 128)).run P w= .ok (aDE (x%128+128)) w:=by
 rw[<-aKe ad];simp[binOp,ahT];have h1:x%2^IntKind.u8.bits=x:=vM ad;have ab:128%2^IntKind.u8.bits=128:=by decide
 rw[h1,ab];have an:x|||128<256:=Nat.or_lt_two_pow (n:=8) ad (by decide);show((x|||128:Nat):Int)%256=_;omega
theorem aH1{ai h:I}(w:aEm ai h fX A c l)(al:l.length<=900000000)(n:Nat)(aC:n<18446744073709551616):Fn aH 97 #[hx fX,dI n] h (aE4 ai fX (l++aDx n)):=by
 refine b5 aJw rfl ?_;refine .mk (Nat×Option ar×Nat×List Nat) [0,1] (λ(m,_,_,_)=>[.v (hx fX),.v (dI m)]) (λ_=>[]) (λ(m,A,c,b3) U=>aEm ai U fX A c b3/\b3++aDx m=l++aDx n/\m<18446744073709551616) (λ(m,_,_,_)=>m) (n,A,c,l) (λ_=>rfl) ⟨w,rfl,aC⟩ rfl rfl ?_;rintro⟨m,A,c,b3⟩ e h ⟨w,he,hm⟩;have jL:b3.length<=1000000000:=by
  have h1:=ho e7 he;have ab:=aDI aC;rw[fb,fb]at h1;omega
 rw[aDx]at he;refine aW (λq=>?_) (λq=>?_);rw[dif_neg (by omega)]at he;refine .mk (aDE (m%128+128)) (λP w=>?_) ?_;have:IntKind.u8.wrap (m:Int)=((m%256:Nat):Int):=by show(m:Int)%256=_;omega
 rw[this,show m%128=(m%256)%128 by omega];exact aKZ (U0 _ (by decide));refine .done (.mk _ (aFw w jL (m%128+128)) ?_);rintro v ab ⟨dE,c2,dw,_⟩;refine .mk (dI (m/128)) (λP w=>Br (y:=7) (by decide)) ?_;exact⟨(m/128,dE,c2,b3++[m%128+128]),rfl,rfl,⟨dw,by rw[<-he,mb];rfl,by omega⟩,by show m/128<m;omega⟩;rw[dif_pos (by omega)]at he;have:IntKind.u8.wrap (m:Int)=((m:Nat):Int):=by show(m:Int)%256=_;omega
 have aEM:=aFw w jL m;have B9:aDE m= .int .u8 (IntKind.u8.wrap (m:Int)):=by rw[this]
 rw[B9]at aEM;refine .done (.mk _ aEM ?_);rintro v ab dw;rw[he]at dw;exact .done dw
theorem aEi{ai h:I}(w:aEm ai h fX A c l)(al:l.length<=900000000)(n:Nat)(aC:n<9223372036854775808):Fn aH 39 #[hx fX,R n] h (aE4 ai fX (l++aDx n)):=by
 have aFX:=aH1 w al n (by omega);refine b5 aJt rfl ?_;refine .mk (by omega) (by omega) ?_;refine .done (.mk _ aFX ?_);intro v ab dw;exact .done dw
theorem Ex{v:ao}(av:Tryz.prog.concrete t=true):vC aH (.makeInterface t a) [v] w (.iface t v) w:=by
 intro kF q aq ah;simp[D2]at ah;simp[cY,aq,ah,run_makeInterface (P:=aH) (h:=av)]
abbrev b0(b:Nat):ao:=.pointer (some ⟨b,0,none⟩)
def Bp:Nat->Nat
 |1=>296
 |2=>299
 |3=>302
 |4=>304
 |5=>306
 |6=>308
 |7=>310
 |8=>312
 |9=>317
 |10=>319
 |_=>322
theorem Wx:Tryz.prog.concrete 296=true:=by kernel_rfl
theorem ajB:Tryz.prog.concrete 299=true:=by kernel_rfl
theorem ajC:Tryz.prog.concrete 312=true:=by kernel_rfl
theorem ajD:Tryz.prog.concrete 319=true:=by kernel_rfl
theorem ajE:Tryz.prog.concrete 322=true:=by kernel_rfl
theorem av8:(jO (Tryz.prog.types.size+iV) 296 (b0 b) "pianola/actors.rates").run aH w= .ok (244,b0 b) w:=by kernel_rfl
theorem av9:(jO (Tryz.prog.types.size+iV) 299 (b0 b) "pianola/actors.rates").run aH w= .ok (244,b0 b) w:=by kernel_rfl
theorem av':(jO (Tryz.prog.types.size+iV) 302 (b0 b) "pianola/actors.rates").run aH w= .ok (244,b0 b) w:=by kernel_rfl
theorem awa:(jO (Tryz.prog.types.size+iV) 304 (b0 b) "pianola/actors.rates").run aH w= .ok (244,b0 b) w:=by kernel_rfl
theorem awb:(jO (Tryz.prog.types.size+iV) 306 (b0 b) "pianola/actors.rates").run aH w= .ok (244,b0 b) w:=by kernel_rfl
theorem awc:(jO (Tryz.prog.types.size+iV) 308 (b0 b) "pianola/actors.rates").run aH w= .ok (244,b0 b) w:=by kernel_rfl
theorem awd:(jO (Tryz.prog.types.size+iV) 310 (b0 b) "pianola/actors.rates").run aH w= .ok (244,b0 b) w:=by kernel_rfl
theorem awe:(jO (Tryz.prog.types.size+iV) 312 (b0 b) "pianola/actors.rates").run aH w= .ok (244,b0 b) w:=by kernel_rfl
theorem awf:(jO (Tryz.prog.types.size+iV) 317 (b0 b) "pianola/actors.rates").run aH w= .ok (244,b0 b) w:=by kernel_rfl
theorem awg:(jO (Tryz.prog.types.size+iV) 319 (b0 b) "pianola/actors.rates").run aH w= .ok (244,b0 b) w:=by kernel_rfl
theorem awh:(jO (Tryz.prog.types.size+iV) 322 (b0 b) "pianola/actors.rates").run aH w= .ok (244,b0 b) w:=by kernel_rfl
theorem ak2:(jO (Tryz.prog.types.size+iV) 296 (b0 b) "pianola/actors.fired").run aH w= .ok (242,b0 b) w:=by kernel_rfl
theorem ak3:(jO (Tryz.prog.types.size+iV) 299 (b0 b) "pianola/actors.fired").run aH w= .ok (242,b0 b) w:=by kernel_rfl
theorem ak4:(jO (Tryz.prog.types.size+iV) 302 (b0 b) "pianola/actors.fired").run aH w= .ok (242,b0 b) w:=by kernel_rfl
theorem ak5:(jO (Tryz.prog.types.size+iV) 304 (b0 b) "pianola/actors.fired").run aH w= .ok (242,b0 b) w:=by kernel_rfl
theorem ak6:(jO (Tryz.prog.types.size+iV) 306 (b0 b) "pianola/actors.fired").run aH w= .ok (242,b0 b) w:=by kernel_rfl
theorem ak7:(jO (Tryz.prog.types.size+iV) 308 (b0 b) "pianola/actors.fired").run aH w= .ok (242,b0 b) w:=by kernel_rfl
theorem ak8:(jO (Tryz.prog.types.size+iV) 310 (b0 b) "pianola/actors.fired").run aH w= .ok (242,b0 b) w:=by kernel_rfl
theorem ak9:(jO (Tryz.prog.types.size+iV) 312 (b0 b) "pianola/actors.fired").run aH w= .ok (242,b0 b) w:=by kernel_rfl
theorem ak':(jO (Tryz.prog.types.size+iV) 317 (b0 b) "pianola/actors.fired").run aH w= .ok (242,b0 b) w:=by kernel_rfl
theorem ala:(jO (Tryz.prog.types.size+iV) 319 (b0 b) "pianola/actors.fired").run aH w= .ok (242,b0 b) w:=by kernel_rfl
theorem alb:(jO (Tryz.prog.types.size+iV) 322 (b0 b) "pianola/actors.fired").run aH w= .ok (242,b0 b) w:=by kernel_rfl
theorem awp:(jO (Tryz.prog.types.size+iV) 296 (b0 b) "pianola/actors.reckon").run aH w= .ok (245,b0 b) w:=by kernel_rfl
theorem awq:(jO (Tryz.prog.types.size+iV) 299 (b0 b) "pianola/actors.reckon").run aH w= .ok (249,b0 b) w:=by kernel_rfl
theorem awr:(jO (Tryz.prog.types.size+iV) 302 (b0 b) "pianola/actors.reckon").run aH w= .ok (250,b0 b) w:=by kernel_rfl
theorem aws:(jO (Tryz.prog.types.size+iV) 304 (b0 b) "pianola/actors.reckon").run aH w= .ok (251,b0 b) w:=by kernel_rfl
theorem awt:(jO (Tryz.prog.types.size+iV) 306 (b0 b) "pianola/actors.reckon").run aH w= .ok (252,b0 b) w:=by kernel_rfl
theorem awu:(jO (Tryz.prog.types.size+iV) 308 (b0 b) "pianola/actors.reckon").run aH w= .ok (253,b0 b) w:=by kernel_rfl
theorem awv:(jO (Tryz.prog.types.size+iV) 310 (b0 b) "pianola/actors.reckon").run aH w= .ok (255,b0 b) w:=by kernel_rfl
theorem aww:(jO (Tryz.prog.types.size+iV) 312 (b0 b) "pianola/actors.reckon").run aH w= .ok (258,b0 b) w:=by kernel_rfl
theorem awx:(jO (Tryz.prog.types.size+iV) 317 (b0 b) "pianola/actors.reckon").run aH w= .ok (259,b0 b) w:=by kernel_rfl
theorem awy:(jO (Tryz.prog.types.size+iV) 319 (b0 b) "pianola/actors.reckon").run aH w= .ok (260,b0 b) w:=by kernel_rfl
theorem awz:(jO (Tryz.prog.types.size+iV) 322 (b0 b) "pianola/actors.reckon").run aH w= .ok (261,b0 b) w:=by kernel_rfl
abbrev gZ(l:List Int):List (List ao):=l.map λz=>[R z]
def B6:Nat->Nat
 |1=>298
 |2=>301
 |3=>303
 |4=>305
 |5=>307
 |6=>309
 |7=>311
 |8=>316
 |9=>318
 |10=>321
 |_=>323
def z6(B:I)(tag:Nat)(be st:List Int)(X:List ao):Prop:=
 if tag=1 then∃iO iq Bi axp,X=[.slice iO be.length iq,.slice Bi st.length axp]/\bg B 1 iO be.length (gZ be)/\bg B 1 Bi st.length (gZ st)
 else if tag=8 then∃x,st=[x]/\X=[R x]
 else if tag=10 then∃x,st=[x]/\X=[R x,R (be.getD 1 0)]
 else st=[]/\X=[]
def F'(tag:Nat)(be:List Int):List Int:=
 if tag=1 then bG (be.length-1) 0
 else if tag=8 then[0]
 else if tag=10 then[be.getD 0 0]
 else[]
theorem z6.mono{B dS:I}{tag:Nat}{be st:List Int}{X:List ao}(t:z6 B tag be st X)(le:B.le dS):z6 dS tag be st X:=by
 unfold z6 at t⊢;split at t;rename_i h;rw[aX h];obtain⟨a,b,c,d,e,f,g⟩:=t;exact⟨a,b,c,d,e,f.mono le,g.mono le⟩;rename_i h;rw[aE h];exact t
noncomputable def od(h U:I)(cv:Nat):I:=U.on λo=>h o=none/\o≠cv
theorem atK(tag:Nat)(eF ct:Option ar)(IT ci no co:Nat)(A:Option ar)(n c:Nat)(be:List Int)(h:I)(je:bg h 1 A n (gZ be))(h1:1<=tag)(ab:tag<=11)(aC:n<=1000)(aJ:tag=1->1<=n)(EB:tag=10->n=2):Fn aH 86 #[.int .u8 tag,.agg #[.slice eF IT ci,.slice ct no co,R 0],.slice A n c] h λv U=>h.le U/\∃cv X,v= .iface (Bp tag) (b0 cv)/\h cv=none/\U cv=some (.cells (.slice eF IT ci:: .slice ct no co::R 0::X).toArray (B6 tag) (0,0))/\z6 (od h U cv) tag be (F' tag be) X:=by
 have al:be.length=n:=by simpa using je.len
 refine b5 asL rfl ?_;have cl:=Pb A n c be h je (by omega);refine aK λgS dy gY=>?_;refine dy _ _ _ ?_;refine aK λgO dx eG=>?_;refine aK λgu df fK=>?_;refine df _ _ _ ?_;refine fG λgk ed eH=>?_;have aw:tag=1\/tag=10\/tag=8\/(tag=2\/tag=3\/tag=4\/tag=5\/tag=6\/tag=7\/tag=9)\/tag=11:=by omega
 rcases aw with rfl|rfl|rfl|aw|rfl;have pa:=aJ rfl;have fin:∀(ab an:I)(b c2:Nat)(dE:Option ar)(g:ar)(eI:Nat),h.le ab->ab b=none->bz ab 3 1 dE n c2 (be.map R)->(∀g,dE=some g->h g.block=none)->(ab.put b (.cells #[.slice eF IT ci,.slice ct no co,R 0,.slice dE n c2,.slice (some g) (n-1) eI] 298 (0,0))).le an->bz an 3 1 (some g) (n-1) eI (bG (n-1) (R 0))->(ab.put b (.cells #[.slice eF IT ci,.slice ct no co,R 0,.slice dE n c2,.slice (some g) (n-1) eI] 298 (0,0))) g.block=none->h.le an/\∃cv X,(Value.iface 296 (b0 b))= .iface (Bp 1) (b0 cv)/\h cv=none/\an cv=some (.cells (.slice eF IT ci:: .slice ct no co::R 0::X).toArray (B6 1) (0,0))/\z6 (od h an cv) 1 be (F' 1 be) X:=by
  intro ab an b c2 dE g eI le af dU f2 dZ gi f3;have dQ:g.block≠b:=λe=>by rw[e,I.bP]at f3;cases f3
  have AE:h g.block=none:=I.none_le le (by rwa[I.cf _ _ dQ]at f3);have HL:=I.none_le le af;refine⟨I.le_trans le (I.le_trans (I.du af) dZ),b,[.slice dE n c2,.slice (some g) (n-1) eI],rfl,HL,dZ _ _ (I.bP _ _ _),?_⟩;unfold z6 F';rw[aX rfl,aX rfl,al,List.length_replicate];refine⟨dE,c2,some g,eI,rfl,?_,?_⟩;have fT:=dU.mono (I.le_trans (I.du af) dZ);refine(bz.on (S:=λo=>h o=none/\o≠b) fT λb7 dT=>⟨f2 b7 dT,λe=>?_⟩).one;exact dU.mem dT (by rw[e];exact af);have mf:(bG (n-1) (R 0))=(bG (n-1) (0:Int)).map R:=by rw[un]
  rw[mf]at gi;exact(bz.on (S:=λo=>h o=none/\o≠b) gi λb7 dT=>by injection dT with dT;subst dT;exact⟨AE,dQ⟩).one
 refine .aLS ?_;refine⟨?_,?_⟩;refine .mk _ cl (λv U q=>q.1) ?_;rintro _ ab ⟨le,dE,c2,rfl,dU,f2⟩;refine .one (n-1) (R 0) rfl rfl (by omega) (by omega) (by omega) (by omega) λg=>?_;refine .mk λb af=>?_;refine .done (.mk _ (λw _=>Ex Wx) ?_);refine eH _ _ _ _ nofun (eG _ _ _ _ nofun ?_);refine .bV 1 3 1 (some g) (n-1) (n-1) _ rfl λan dZ gi f3=>.done ?_;exact fin _ _ _ _ _ _ _ le af dU f2 dZ gi (f3 g rfl);refine .one (n-1) (R 0) rfl rfl (by omega) (by omega) (by omega) (by omega) λg=>?_;refine .mk _ cl (λv U q=>q.1) ?_;rintro _ ab ⟨le,dE,c2,rfl,dU,f2⟩;refine .mk λb af=>?_;refine .done (.mk _ (λw _=>Ex Wx) ?_);refine eH _ _ _ _ nofun (eG _ _ _ _ nofun ?_);refine .bV 1 3 1 (some g) (n-1) (n-1) _ rfl λan dZ gi f3=>.done ?_;exact fin _ _ _ _ _ _ _ le af dU f2 dZ gi (f3 g rfl);obtain rfl:=EB rfl;obtain⟨g,ak⟩:=je.cc (by omega);obtain⟨x,y,rfl⟩:∃x y,be=[x,y]:=by
  rcases be with _|⟨x,_|⟨y,_|_⟩⟩;cases al;cases al;exact⟨x,y,rfl⟩;cases al
 refine .mk g ak (by decide) (by decide) ?_;refine .hp _ (je.one ak (i:=0) rfl rfl) ?_;refine .mk g ak (by decide) (by decide) ?_;refine .hp _ (je.one ak (i:=1) rfl rfl) ?_;refine .mk λb af=>?_;refine .done (.mk _ (λw _=>Ex ajD) ?_);refine eH _ _ _ _ nofun (eG _ _ _ _ nofun ?_);exact .done ⟨I.du af,b,[R x,R y],rfl,af,I.bP _ _ _,_,rfl,rfl⟩;refine .mk λb af=>?_;refine .done (.mk _ (λw _=>Ex ajC) ?_);refine eH _ _ _ _ nofun (eG _ _ _ _ nofun ?_);exact .done ⟨I.du af,b,[R 0],rfl,af,I.bP _ _ _,_,rfl,rfl⟩
 .rcases aw with rfl|rfl|rfl|rfl|rfl|rfl|rfl;all_goals
   refine .mk λb af=>?_
   refine .done (.mk _ (λw _=>Ex (by first|exact ajB|exact aAE|exact aAF|exact aAG|exact aAH|exact aAI|exact aAJ)) ?_)
   refine eH _ _ _ _ nofun (eG _ _ _ _ nofun ?_)
   exact .done ⟨I.du af,b,[],rfl,af,I.bP _ _ _,rfl,rfl⟩
 refine eH _ _ _ _ nofun (dx _ _ _ ?_);refine .mk λb af=>?_;refine .done (.mk _ (λw _=>Ex ajE) ?_);exact .done ⟨I.du af,b,[],rfl,af,I.bP _ _ _,rfl,rfl⟩
structure lG where
 tag:Nat
 be:List Int
 st:List Int
 n:Int
 ins:List Int
 outs:List Int
variable {x:lG}
structure ln(B h:I)(cj cv:Nat)(x:lG):Prop where
 box:B cj=some (.cells #[.iface (Bp x.tag) (b0 cv)] 230 (0,0))
 zg:B cv=none
 ex:∃eF cE ct bO X,h cv=some (.cells (.slice eF x.ins.length cE:: .slice ct x.outs.length bO::R x.n::X).toArray (B6 x.tag) (0,0))/\bg B 1 eF x.ins.length (gZ x.ins)/\bg B 1 ct x.outs.length (gZ x.outs)/\z6 B x.tag x.be x.st X
theorem aeE{tag:Int}{l:List Int}(h:(bD tag l).1=0):(∃t:Nat,tag=t/\1<=t/\t<=11)/\(tag=1->1<=l.length)/\(tag=10->l.length=2):=by
 unfold bD at h;split at h;cases h;rename_i av;refine⟨⟨tag.toNat,by omega,by omega,by omega⟩,?_,?_⟩;rintro rfl;dsimp only at h;by_cases q:1<=l.length;exact q;rw[aE (by omega),aE (by omega),aE (by omega),aE (by omega),aE (by omega),aE (by omega),aE (by omega),aE (by omega),aE (by omega),aE (by omega)]at h;cases h;rintro rfl;dsimp only at h;by_cases q:l.length=2;exact q;rw[aE (by omega),aE (by omega),aE (by omega),aE (by omega),aE (by omega),aE (by omega),aE (by omega),aE (by omega),aE (by omega),aE (by omega)]at h;cases h
theorem auv(tag:Nat)(A:Option ar)(n c:Nat)(be:List Int)(h:I)(je:bg h 1 A n (gZ be))(aC:n<=1000)(aj:(bD tag be).1=0):Fn aH 32 #[.int .u8 tag,.slice A n c] h λv U=>h.le U/\∃cj cv,v= .tuple #[b0 cj,R 0]/\h cv=none/\ln (od h U cv) U cj cv ⟨tag,be,F' tag be,0,(bD tag be).2.1,(bD tag be).2.2⟩:=by
 obtain⟨⟨t,av,t1,t2⟩,aJ,EB⟩:=aeE aj;obtain rfl:tag=t:=by omega
 have al:be.length=n:=by simpa using je.len
 refine b5 ar8 rfl ?_;refine aK λgS dy gY=>?_;refine dy _ _ _ ?_;refine aK λgO dx eG=>?_;refine .done (.mk _ (FK tag A n c be h je (by omega)) ?_);rintro _ ab ⟨_,_,rfl,cn,⟨eF,cE,rfl,aU,fV⟩,ct,bO,rfl,ro,bn⟩;rw[aj];refine dx _ _ _ ?_;refine aK λgu df fK=>?_;refine df _ _ _ ?_;refine .done (.mk _ (atK tag eF ct _ cE _ bO A n c be ab (je.mono cn) t1 t2 aC (λq=>by have:=aJ (by omega);omega) (λq=>by have:=EB (by omega);omega)) ?_);rintro _ an ⟨dZ,cv,X,rfl,ve,hk,hS⟩;refine .mk λcj ph=>?_;have E8:=I.none_le cn ve;have aba:cv≠cj:=λe=>by rw[e,ph]at hk;cases hk
 have b2:∀{bA:Option ar}{hE bu:Nat}{l:List Int},bz ab 3 1 bA hE bu (l.map R)->(∀g,bA=some g->h g.block=none)->bg (od h (an.put cj (.cells #[.iface (Bp tag) (b0 cv)] 230 (0,0))) cv) 1 bA hE (gZ l):=by
  intro bA hE bu l r f;have fT:=r.mono (I.le_trans dZ (I.du (J:=.cells #[.iface (Bp tag) (b0 cv)] 230 (0,0)) ph));refine(bz.on (S:=λo=>h o=none/\o≠cv) fT λb7 dT=>⟨f b7 dT,λe=>?_⟩).one;exact r.mem dT (by rw[e];exact ve)
 refine .done ⟨I.le_trans cn (I.le_trans dZ (I.du ph)),cj,cv,rfl,E8,?_,?_,eF,cE,ct,bO,X,?_,b2 aU fV,b2 ro bn,hS.mono λo J ae=>?_⟩;exact(I.mX (S:=λo=>h o=none/\o≠cv) ⟨I.none_le cn (I.none_le dZ ph),d9 aba⟩).trans (I.bP _ _ _);unfold od I.on;rw[aE (λq=>q.2 rfl)];rw[I.cf _ _ aba];exact hk;unfold od at ae⊢;have q:=I.vp (by rw[ae];nofun);rw[I.mX q]at ae;rw[I.mX (S:=λo=>h o=none/\o≠cv) ⟨I.none_le cn q.1,q.2⟩,I.cf _ _ (λe=>by rw[e,ph]at ae;cases ae)];exact ae
def Va(x:lG)(h:I)(v:ao)(U:I):Prop:=h.le U/\∃eF cE ct bO,v= .tuple #[.slice eF x.ins.length cE,.slice ct x.outs.length bO]/\bg U 1 eF x.ins.length (gZ x.ins)/\bg U 1 ct x.outs.length (gZ x.outs)
theorem adP{B h:I}(dh:ln B h cj cv x)(le:B.le h)(h1:x.ins.length<=1000)(ab:x.outs.length<=1000):Fn aH 244 #[b0 cv] h (Va x h):=by
 obtain⟨eF,cE,ct,bO,X,hk,e2,to,_⟩:=dh.ex;refine b5 ar2 rfl ?_;refine .hp (.slice eF x.ins.length cE) (bN hk rfl) ?_;refine .hp (.slice ct x.outs.length bO) (bN hk rfl) ?_;refine .mk _ (Pb eF _ cE x.ins h (e2.mono le) (by omega)) (λv h q=>q.1) ?_;rintro _ ab ⟨c9,dE,c2,rfl,dU,_⟩;refine .mk _ (Pb ct _ bO x.outs ab ((to.mono le).mono c9) (by omega)) (λv h q=>q.1) ?_;rintro _ an ⟨ha,lm,eI,rfl,gi,_⟩;exact .done ⟨I.le_trans c9 ha,_,_,_,_,rfl,dU.one.mono ha,gi.one⟩
theorem ak1{B h:I}(dh:ln B h cj cv x)(aC:0<=x.n/\x.n<=1000000000000):Fn aH 242 #[b0 cv] h λ_ U=>(∃J,U=h.put cv J)/\ln B U cj cv {x with n:=x.n+1}:=by
 obtain⟨eF,cE,ct,bO,X,hk,e2,to,fL⟩:=dh.ex;refine b5 ar1 rfl ?_;refine .hp (R x.n) (bN hk rfl) ?_;refine .aLS ?_;refine .hp cv 2 (B6 x.tag) (.slice eF x.ins.length cE:: .slice ct x.outs.length bO::R x.n::X) (.slice eF x.ins.length cE:: .slice ct x.outs.length bO::R (x.n+1)::X) rfl hk (by rw[ib _ _ _ (by simp)];rfl) ?_;exact .done ⟨⟨_,rfl⟩,dh.box,dh.zg,eF,cE,ct,bO,X,I.bP _ _ _,e2,to,fL⟩
theorem aam(h1:1<=tag)(ab:tag<=11):(jO (Tryz.prog.types.size+iV) (Bp tag) (b0 b) "pianola/actors.rates").run aH w= .ok (244,b0 b) w:=by
 have:tag=1\/tag=2\/tag=3\/tag=4\/tag=5\/tag=6\/tag=7\/tag=8\/tag=9\/tag=10\/tag=11:=by omega
 rcases this with rfl|rfl|rfl|rfl|rfl|rfl|rfl|rfl|rfl|rfl|rfl;exact av8;exact av9;exact av';exact awa;exact awb;exact awc;exact awd;exact awe;exact awf;exact awg;exact awh
theorem aoK(h1:1<=tag)(ab:tag<=11):(jO (Tryz.prog.types.size+iV) (Bp tag) (b0 b) "pianola/actors.fired").run aH w= .ok (242,b0 b) w:=by
 have:tag=1\/tag=2\/tag=3\/tag=4\/tag=5\/tag=6\/tag=7\/tag=8\/tag=9\/tag=10\/tag=11:=by omega
 rcases this with rfl|rfl|rfl|rfl|rfl|rfl|rfl|rfl|rfl|rfl|rfl;exact ak2;exact ak3;exact ak4;exact ak5;exact ak6;exact ak7;exact ak8;exact ak9;exact ak';exact ala;exact alb
def S4:Nat->Nat
 |1=>245
 |2=>249
 |3=>250
 |4=>251
 |5=>252
 |6=>253
 |7=>255
 |8=>258
 |9=>259
 |10=>260
 |_=>261
theorem aoL(h1:1<=tag)(ab:tag<=11):(jO (Tryz.prog.types.size+iV) (Bp tag) (b0 b) "pianola/actors.reckon").run aH w= .ok (S4 tag,b0 b) w:=by
 have:tag=1\/tag=2\/tag=3\/tag=4\/tag=5\/tag=6\/tag=7\/tag=8\/tag=9\/tag=10\/tag=11:=by omega
 rcases this with rfl|rfl|rfl|rfl|rfl|rfl|rfl|rfl|rfl|rfl|rfl;exact awp;exact awq;exact awr;exact aws;exact awt;exact awu;exact awv;exact aww;exact awx;exact awy;exact awz
theorem aeD{B h:I}(dh:ln B h cj cv x)(le:B.le h)(h1:x.ins.length<=1000)(ab:x.outs.length<=1000)(t1:1<=x.tag)(t2:x.tag<=11):Fn aH 76 #[b0 cj] h (Va x h):=by
 refine b5 asD rfl ?_;refine .hp _ (bN (le _ _ dh.box) rfl) ?_;refine .mk 244 (b0 cv) (λw=>aam t1 t2) ?_;refine .done (.mk _ (adP dh le h1 ab) ?_);rintro _ ab ⟨c9,eF,cE,ct,bO,rfl,a,b⟩;exact .done ⟨c9,eF,cE,ct,bO,rfl,a,b⟩
structure dO where
 A:Option ar
 c:Nat
 l:List Int
def dO.val(x:dO):ao:=.slice x.A x.l.length x.c
def dO.ok(h:I)(x:dO):Prop:=bg h 1 x.A x.l.length (gZ x.l)
theorem dO.ok.mono{h U:I}{x:dO}(J:x.ok h)(le:h.le U):x.ok U:=bg.mono J le
def Jk(D:List dO):List (List ao):=D.map λd=>[d.val]
structure RowsIn(h:I)(A:Option ar)(D:List dO):Prop where
 dG:bg h 1 A D.length (Jk D)
 row:∀d∈D,d.ok h
theorem RowsIn.mono{h U:I}{A:Option ar}{D:List dO}(x:RowsIn h A D)(le:h.le U):RowsIn U A D:=⟨x.dG.mono le,λd aB=>(x.row d aB).mono le⟩
noncomputable def I.grow(B h U:I):I:=U.on λo=>B o≠none\/h o=none
variable {B U ai h:I}
theorem Cs(dc:B.le h)(c9:h.le U):B.le (B.grow h U):=λo J ae=>by
 unfold I.grow;rw[I.mX (S:=λo=>B o≠none\/h o=none) (.inl (by rw[ae];nofun))];exact c9 _ _ (dc _ _ ae)
theorem xm{o:Nat}(h1:B o=none)(ab:h o≠none):B.grow h U o=none:=by
 unfold I.grow I.on;rw[aE];rintro(q|q);exact q h1;exact ab q
theorem ln.to{dS:I}(k:ln B h cj cv x)(le:B.le dS)(e:h cv=U cv)(z:dS cv=none):ln dS U cj cv x:=by
 obtain⟨a,b,c,d,bl,f,g1,g2,g3,g4⟩:=k;exact⟨le _ _ a,z,c,d,bl,f,g1,by rw[<-e];exact g2,g3.mono le,g4.1.mono le,g4.2.mono le⟩
theorem ln.some_(k:ln B h cj cv x):h cv≠none:=by
 obtain⟨_,_,_,_,_,_,_,g2,_⟩:=k;rw[g2];nofun
theorem ln.up(k:ln B h cj cv x)(le:h.le U):ln B U cj cv x:=by
 obtain⟨a,b,c,d,e,f,g1,g2⟩:=k;exact⟨a,b,c,d,e,f,g1,le _ _ g2.1,g2.2⟩
def I.xJ(cv:Nat)(h U:I):Prop:=∀o J,o≠cv->h o=some J->U o=some J
theorem I.le.xJ{cv:Nat}{h U:I}(l:h.le U):I.xJ cv h U:=λo J _ ae=>l o J ae
theorem ln.pure(k:ln B h cj cv x)(le:B.le h)(l:h.le U):ln (B.grow h U) U cj cv x:=by
 refine k.to (Cs le l) ?_ (xm k.zg k.some_);have aj:=k.some_;cases q:h cv with
 |none=>exact absurd q aj
 |some J=>exact(l _ _ q).symm
def OF(B h:I)(cj cv:Nat)(x:lG)(r:Option (List (List Int)))(v:ao)(U:I):Prop:=I.xJ cv h U/\ln (B.grow h U) U cj cv x/\match r with
 |some outs=>∃A c D,v= .tuple #[.slice A D.length c,.bool true]/\D.map dO.l=outs/\RowsIn (od h U cv) A D
 |none=>∃u,v= .tuple #[u,.bool false]
theorem au7{eP:Nat}{l:List Int}(hk:h cv≠none)(af:h b=none)(J:List ao)(aL:J=l.map R)(k8:(h.put b (.cells J.toArray 3 (0,0))) eP=none)(le:((h.put b (.cells J.toArray 3 (0,0))).put eP (.cells #[.slice (some ⟨b,0,none⟩) l.length c] 27 (0,0))).le U):h.le U/\RowsIn (od h U cv) (some ⟨eP,0,none⟩) [⟨some ⟨b,0,none⟩,c,l⟩]:=by
 subst aL;have cj:b≠eP:=λe=>by rw[<-e,I.bP]at k8;cases k8
 have fC:h eP=none:=by rwa[I.cf _ _ (d9 cj)]at k8
 have bJ:b≠cv:=λe=>hk (by rw[<-e];exact af);have bB:eP≠cv:=λe=>hk (by rw[<-e];exact fC);have aJ:od h U cv eP=some (.cells #[.slice (some ⟨b,0,none⟩) l.length c] 27 (0,0)):=(I.mX (S:=λo=>h o=none/\o≠cv) ⟨fC,bB⟩).trans (le _ _ (I.bP _ _ _));have aI:od h U cv b=some (.cells (l.map R).toArray 3 (0,0)):=(I.mX (S:=λo=>h o=none/\o≠cv) ⟨af,bJ⟩).trans (le _ _ (by rw[I.cf _ _ cj];exact I.bP _ _ _));refine⟨I.le_trans (I.du af) (I.le_trans (I.du k8) le),?_,λd aB=>?_⟩;exact bg.lit (cs:=[.slice (some ⟨b,0,none⟩) l.length c]) aJ rfl (by simp[Jk]) rfl;rw[fx]at aB;subst aB;exact bg.lit (cs:=l.map R) aI (xj l) (λr am=>by obtain⟨z,_,rfl⟩:=List.mem_map.1 am;rfl) (by simp[gZ])
theorem au8{eP:Nat}{m:Nat}{l:List Int}(hk:h cv≠none)(k8:h eP=none)(le:(h.put eP (.cells #[.slice A m c] 27 (0,0))).le U)(hm:l.length=m)(r:bz U 3 1 A m c (l.map R))(f:∀g,A=some g->(h.put eP (.cells #[.slice A m c] 27 (0,0))) g.block=none):h.le U/\RowsIn (od h U cv) (some ⟨eP,0,none⟩) [⟨A,c,l⟩]:=by
 subst hm;have bB:eP≠cv:=λe=>hk (by rw[<-e];exact k8);have aJ:od h U cv eP=some (.cells #[.slice A l.length c] 27 (0,0)):=(I.mX (S:=λo=>h o=none/\o≠cv) ⟨k8,bB⟩).trans (le _ _ (I.bP _ _ _));refine⟨I.le_trans (I.du k8) le,?_,λd aB=>?_⟩;exact bg.lit (cs:=[.slice A l.length c]) aJ rfl (by simp[Jk]) rfl;rw[fx]at aB;subst aB;refine(bz.on (S:=λo=>h o=none/\o≠cv) r λg ak=>?_).one;have f1:=f g ak;have ne:g.block≠eP:=λe=>by rw[e,I.bP]at f1;cases f1
 rw[I.cf _ _ ne]at f1;exact⟨f1,λe=>hk (by rw[<-e];exact f1)⟩
theorem ajT{y:lG}{r:ao}(dh:ln B h cj cv y)(le:B.le h)(cm:Option ar)(cE:Nat)(d:dO)(x:Int)(l:List Int)(aB:d.l=x::l)(gf:RowsIn h cm [d]):Fn aH 250 #[r,.slice cm 1 cE] h (OF B h cj cv y (some [[x]])):=by
 obtain⟨g,ak⟩:=gf.dG.cc (by simp);obtain⟨A,c,_⟩:=d;subst aB;have am:=gf.row _ (Of _);obtain⟨g2,gV⟩:=am.cc (by simp);refine b5 ar5 rfl ?_;refine .mk g ak (by decide) (by decide) ?_;refine .hp (.slice A (l.length+1) c) (gf.dG.one ak (i:=0) rfl rfl) ?_;refine .mk g2 gV (by decide) (by omega) ?_;refine .hp (R x) (am.one gV (i:=0) rfl rfl) ?_;refine .mk λb af=>?_;refine .mk λeP k8=>?_;obtain⟨aM,aD⟩:=au7 (l:=[x]) (c:=1) dh.some_ af [R x] rfl k8 (I.le_refl _);exact .done ⟨aM.xJ,dh.pure le aM,_,_,_,rfl,rfl,aD⟩
theorem azz(dh:ln B h cj cv x)(le:B.le h)(N:Nat)(db:x.outs=[(N:Int)])(dF:1<=N)(dR:N<=64)(cm:Option ar)(cE:Nat)(d:dO)(z:Int)(l:List Int)(aB:d.l=z::l)(gf:RowsIn h cm [d]):Fn aH 249 #[b0 cv,.slice cm 1 cE] h (OF B h cj cv x (some [z::bG (N-1) 0])):=by
 have aD7:=dh;obtain⟨eF,zd,ct,bO,X,hk,e2,to,_⟩:=dh.ex;rw[db]at to hk;obtain⟨g0,Ll⟩:=to.cc (by simp);obtain⟨g,ak⟩:=gf.dG.cc (by simp);obtain⟨A,c,_⟩:=d;subst aB;have am:=gf.row _ (Of _);obtain⟨g2,gV⟩:=am.cc (by simp);refine b5 ar3 rfl ?_;refine .hp (.slice ct 1 bO) (bN hk rfl) ?_;refine .mk g0 Ll (by decide) (by decide) ?_;refine .hp (R N) ((to.mono le).one Ll (i:=0) rfl rfl) ?_;refine .one N (R 0) rfl rfl rfl rfl (by omega) (by omega) λHv=>?_;refine .mk g ak (by decide) (by decide) ?_;refine .hp (.slice A (l.length+1) c) (gf.dG.one ak (i:=0) rfl rfl) ?_;refine .mk g2 gV (by decide) (by omega) ?_;refine .hp (R z) (am.one gV (i:=0) rfl rfl) ?_;refine .mk Hv rfl (by decide) (by omega) ?_;obtain⟨N,rfl⟩:∃M,N=M+1:=⟨N-1,by omega⟩;refine .row 0 3 1 Hv (N+1) (N+1) _ (R z::bG N (R 0)) 0 rfl rfl (by rw[ib _ _ _ (by simp)];rfl) ?_;refine .mk λeP k8=>?_;refine .bV 0 3 1 (some Hv) (N+1) (N+1) _ rfl λan dZ gi f3=>.done ?_;obtain⟨aM,aD⟩:=au8 (l:=z::bG N 0) (by rw[hk];nofun) k8 dZ (by simp) (by rw[eO,un];exact gi) f3;exact⟨aM.xJ,dh.pure le aM,_,_,_,rfl,rfl,aD⟩
def ta(z:Int):Nat:=if 0<=z then(2*z).toNat else(-2*z-1).toNat
def aDU(z:Int):Prop:= -9223372036854775808<=z/\z<=9223372036854775807
section
variable {P:dW}{w:bb}{t:Nat}
theorem aHS{x:Nat}:(binOp .shl t (dI x) (.int .u64 1)).run P w= .ok (dI (x*2%18446744073709551616)) w:=by
 have:min ((1:Int).toNat) IntKind.u64.bits=1:=by decide
 simp only[binOp,Op.shift,this];simp;show((x:Int)*2)%18446744073709551616=_;omega
theorem aHl{z:Int}(aY:aDU z):(binOp .shr t (R z) (.int .u64 63)).run P w= .ok (R (if z<0 then-1 else 0)) w:=by
 have:min ((63:Int).toNat) IntKind.i64.bits=63:=by decide
 show(binOp .shr t (.int .i64 z) (.int .u64 63)).run P w= .ok (.int .i64 (if z<0 then-1 else 0)) w;simp only[binOp,Op.shift,this];simp;unfold aDU at aY;rw[aIc _ (by decide)];split<;>omega
theorem aKQ{x:Nat}(ad:x<18446744073709551616):(binOp .xor t (dI x) (dI 0)).run P w= .ok (dI x) w:=by
 simp[binOp,ahT];show IntKind.u64.wrap ((x:Int)%18446744073709551616)=x;rw[JG];omega
theorem aH3{x:Nat}(ad:x<2^64):x^^^18446744073709551615=18446744073709551615-x:=by
 apply Nat.eq_of_testBit_eq;intro i;rw[show 18446744073709551615-x=2^64- (x+1) by omega,Nat.testBit_two_pow_sub_succ ad,Nat.testBit_xor,show(18446744073709551615:Nat)=2^64-1 by decide,Nat.testBit_two_pow_sub_one];by_cases q:i<64;simp[q];have:x.testBit i=false:=Nat.testBit_lt_two_pow (Nat.lt_of_lt_of_le ad (aIg (by decide) (by omega)));simp[q,this]
theorem aKR{x:Nat}(ad:x<18446744073709551616):(binOp .xor t (dI x) (dI 18446744073709551615)).run P w= .ok (dI (18446744073709551615-x)) w:=by
 simp[binOp,ahT];have h1:x%2^IntKind.u64.bits=x:=vM ad;have ab:18446744073709551615%2^IntKind.u64.bits=18446744073709551615:=by decide
 rw[h1,ab,aH3 ad,Nv (by omega)]
end
def aD'(aG:List Int):List Nat:=aDx aG.length++aG.flatMap λz=>aDx (ta z)
theorem aFq{z:Int}(h:aDU z):ta z<18446744073709551616:=by unfold ta;unfold aDU at h;split<;>omega
theorem aEI{α:Type}(f:α->List Nat)(m:Nat):∀l:List α,(∀x∈l,(f x).length<=m)->(l.flatMap f).length<=l.length*m
 |[],_=>by simp
 |x::l,h=>by
  rw[JX,fb,gI,Nat.succ_mul];have:=h x (List.mem_cons_self ..);have:=aEI f m l λy aQ=>h y (List.mem_cons_of_mem _ aQ);omega
theorem aFB{α:Type}(f:α->List Nat){l:List α}{k:Nat}(hk:k<l.length):(l.take (k+1)).flatMap f=(l.take k).flatMap f++f l[k]:=by
 rw[kh hk,List.flatMap_append];simp
theorem aFU{α:Type}(f:α->List Nat)(m k:Nat){l:List α}(h:∀x∈l,(f x).length<=m):((l.take k).flatMap f).length<=l.length*m:=by
 have h1:=aEI f m (l.take k) λx ad=>h x (List.mem_of_mem_take ad);have ab:(l.take k).length*m<=l.length*m:=Nat.mul_le_mul_right _ (by simp;omega);omega
theorem aFI{aG:List Int}(aY:∀z∈aG,aDU z)(al:aG.length<=100000):(aD' aG).length<=10+aG.length*10:=by
 have h1:=aEI (λz=>aDx (ta z)) 10 aG λz If=>aDI (aFq (aY z If));have ab:=aDI (n:=aG.length) (by omega);rw[aD',fb];omega
theorem aHo(w:aEm ai h fX A c l)(al:l.length<=800000000)(Bi:Option ar)(n axp:Nat)(aG:List Int)(je:bg ai 1 Bi n (gZ aG))(aC:n<=100000)(aY:∀z∈aG,aDU z):Fn aH 41 #[hx fX,.slice Bi n axp] h (aE4 ai fX (l++aD' aG)):=by
 have xD:aG.length=n:=by simpa using je.len
 have aIv:=aEi w (by omega) n (by omega);have CL:=aDI (n:=n) (by omega);refine b5 aJv rfl ?_;refine .done (.mk _ aIv ?_);rintro v h1 ⟨iu,c1,cF,fv⟩;refine .mk (Nat×Option ar×Nat) [0,10,11,12] (λ(k,_,_)=>[.v (hx fX),.v (.slice Bi n axp),.v (R n),.v (R k)]) (λ_=>[]) (λ(k,A,c) U=>k<=n/\aEm ai U fX A c (l++aDx n++(aG.take k).flatMap λz=>aDx (ta z))/\bz U 5 1 A (l++aDx n++(aG.take k).flatMap λz=>aDx (ta z)).length c ((l++aDx n++(aG.take k).flatMap λz=>aDx (ta z)).map aDE)) (λ(k,_,_)=>n-k) (0,iu,c1) (λ_=>rfl) ⟨cO _,by rw[aFZ];simpa using cF,by rw[aFZ];simpa using fv⟩ rfl rfl ?_;rintro⟨k,dE,c2⟩ e ab ⟨hk,dw,dU⟩;refine aW (λq=>?_) (λq=>?_);have AI:k<aG.length:=by omega
 obtain⟨g,ak⟩:=je.cc (by omega);have aGY:=(je.mono dw.le).one ak (i:=k) (iM AI) rfl;have aEA:=aY _ (cS AI);have aD8:=aFB (λz=>aDx (ta z)) AI;have cB:=aFU (λz=>aDx (ta z)) 10 k (l:=aG) λz If=>aDI (aFq (aY z If));generalize aG[k]=z at aGY aEA aD8;have aGB:=aEA;unfold aDU at aGB;refine .m g ak ?_;refine .hp (R z) (by rw[Int.toNat_natCast];exact aGY) ?_;have aFX:=aH1 dw (by simp only[fb];omega) (ta z) (aFq aEA);by_cases Ig:z<0;have aJ:IntKind.u64.wrap z=((z+18446744073709551616).toNat:Nat):=by rw[JG];omega
 have aI:ta z=18446744073709551615- (z+18446744073709551616).toNat*2%18446744073709551616:=by unfold ta;rw[aE (by omega)];omega
 refine .wrap ?_;refine .mk (dI ((z+18446744073709551616).toNat*2%18446744073709551616)) (λP w=>by rw[aJ];exact aHS) ?_;refine .mk (R (-1)) (λP w=>by have:=aHl (P:=P) (w:=w) (t:=0) aEA;rw[aX Ig]at this;exact this) ?_;refine .wrap ?_;refine .mk (dI (ta z)) (λP w=>by rw[aI];exact aKR (U0 _ (by decide))) ?_;refine .done (.mk _ aFX ?_);rintro v an ⟨lm,eI,iI,gi⟩;refine .aLS ?_;exact⟨(k+1,lm,eI),rfl,rfl,⟨by omega,by rw[aD8,<-mb];exact iI,by rw[aD8,<-mb];exact gi⟩,by show n- (k+1)<n-k;omega⟩;have aI:ta z=z.toNat*2:=by unfold ta;rw[aX (by omega)];omega
 have aJ:IntKind.u64.wrap z=(z.toNat:Nat):=by rw[JG];omega
 refine .wrap ?_;refine .mk (dI (ta z)) (λP w=>by
  rw[aJ,aI];have:=aHS (P:=P) (w:=w) (t:=247) (x:=z.toNat);rw[vM (by omega)]at this;exact this) ?_
 refine .mk (R 0) (λP w=>by have:=aHl (P:=P) (w:=w) (t:=0) aEA;rw[aE Ig]at this;exact this) ?_;refine .mk (by decide) (by decide) ?_;refine .mk (dI (ta z)) (λP w=>aKQ (aFq aEA)) ?_;refine .done (.mk _ aFX ?_);rintro v an ⟨lm,eI,iI,gi⟩;refine .aLS ?_;exact⟨(k+1,lm,eI),rfl,rfl,⟨by omega,by rw[aD8,<-mb];exact iI,by rw[aD8,<-mb];exact gi⟩,by show n- (k+1)<n-k;omega⟩;obtain rfl:k=n:=by omega
 rw[k4 (by omega),mb]at dw dU;rw[show aDx k=aDx aG.length by rw[xD]]at dw dU;exact .done ⟨dE,c2,dw,dU⟩
def aDN(x:nc):List Nat:=x.tag.toNat::aD' x.be
def aDR(x:h9):List Nat:=aDx x.base.toNat++(aDx x.size.toNat++aD' x.st)
def aDL(J:b6):List Nat:=J.k::(aDx J.a.toNat++aDx J.b.toNat)
def aEb(p:km):List Nat:=[80,78,76,49]++aDx p.mem.toNat++aDx p.bF.toNat++aDx p.ins.toNat++aDx p.outs.toNat++aDx p.parts.length++p.parts.flatMap aDN++aDx p.lines.length++p.lines.flatMap aDR++aDx p.ops.length++p.ops.flatMap aDL
def aDM(l:List Nat):ByteArray:=⟨(l.map aF0).toArray⟩
theorem aHO:∀(l:List Nat)(s:ByteArray),(l.map λn:Nat=>(n:Int)).foldl (λr n=>r.push (aF0 n.toNat)) s=⟨s.data++(l.map aF0).toArray⟩
 |[],s=>by simp
 |x::l,s=>by
  rw[eO,List.foldl_cons,aHO l];congr 1;apply aH8.1;simp[aK9]
theorem aHT:Tryz.prog.underlying 133=some (.slice 5):=by kernel_rfl
theorem aHU:Tryz.prog.underlying 5=some (.int .u8):=by kernel_rfl
theorem aIE{g:ar}(r:bz h 5 1 (some g) n c (l.map aDE))(hw:lI h w):vC aH (.convert 133 9 a) [.slice (some g) n c] w (.string (aDM l)) w:=by
 intro kF q aq ah;simp[D2]at ah;have al:l.length=n:=by have:=r.1;simpa using this
 obtain⟨b,ax,rfl,af,_⟩:=r.split;have e:(convert 133 9 (.slice (some ⟨b,0,none⟩) n c)).run aH w= .ok (.string (aDM l)) w:=by
  rw[run_convert_bytes_string w 133 9 5 _ n c aHT aHU Tryz.underlying9];have:=run_loadCells (P:=aH) (w:=w) ⟨b,0,none⟩ (l.map aDE) (λo v ae=>by
   rw[add_lit,Nat.zero_add];refine hw.cell (bN af ?_);rw[List.getElem?_append_left (List.getElem?_eq_some_iff.1 ae).1];exact ae)
  rw[List.length_map,al]at this;have aI:l.map aDE=(l.map λn:Nat=>(n:Int)).map (h' .u8):=by rw[List.map_map];rfl
  rw[aI]at this;rw[run_bytesToString w _ n c _ this,aHO];congr 2;unfold aDM;congr 1;apply aH8.1;simp[aK6,aK7];rfl
 simp[cY,aq,ah,e]
theorem aIC{cs:List ao}(af:w.heap[b]?=some (.cells cs.toArray 5 (0,0))):vC aH (.convert 133 133 a) [.slice (some ⟨b,0,none⟩) n c] w (.slice (some ⟨b,0,none⟩) n c) {w with heap:=w.heap.setIfInBounds b (.cells cs.toArray 5 (cs.length,cs.length+1))}:=by
 intro kF q aq ah;simp[D2]at ah;have sC:(shape b).run aH w= .ok (some (5,cs.length)) w:=by
  show ah4 (w.shape? b) w=_;simp[World.shape?,af]
 have aA7:(aJ7 ⟨b,0,none⟩).run aH w= .ok () {w with heap:=w.heap.setIfInBounds b (.cells cs.toArray 5 (cs.length,cs.length+1))}:=by
  unfold aJ7;simp only[Sem.run_bind,sC,Result.andThen_ok];show ah4 () (w.freeze ⟨b,cs.length,none⟩ 1)=_;congr 1;unfold World.freeze;rw[aE (by decide)];congr 1;apply Array.ext_getElem?;intro i;rw[Array.getElem?_modify,Array.getElem?_setIfInBounds];by_cases ag:b=i;subst ag;have al:b<w.heap.size:=(Array.getElem?_eq_some_iff.1 af).1;rw[aX rfl,aX rfl,aX al,af];rfl;rw[aE ag,aE ag]
 have e:(convert 133 133 (.slice (some ⟨b,0,none⟩) n c)).run aH w= .ok (.slice (some ⟨b,0,none⟩) n c) {w with heap:=w.heap.setIfInBounds b (.cells cs.toArray 5 (cs.length,cs.length+1))}:=by
  simp[convert,gj aHT,gj aHU,aA7]
 simp[cY,aq,ah,e]
def aDT(l:List Nat)(k:Nat):Obj:=.cells [.string (aDM l),R k].toArray 149 (0,0)
theorem aHP(l:List Nat):(aDM l).size=l.length:=by simp[aDM,aK']
theorem aKD(al:∀x∈l,x<256){k:Nat}(hk:k<l.length)(br:k<(aDM l).size):(aDM l)[k].toNat=l[k]:=by
 have h:=al _ (cS hk);have e:(aDM l)[k]=aF0 l[k]:=by
  rw[aK8];simp[aDM]
 rw[e];simp;omega
theorem aGw(l:List Nat)(al:∀x∈l,x<256)(aj:l.length<=1000000000)(gK k:Nat)(h:I)(af:h gK=some (aDT l k))(hk:k<l.length):Fn aH 100 #[b0 gK] h λv U=>v=aDE l[k]/\U=h.put gK (aDT l (k+1)):=by
 have gp:=aHP l;have xv:k<(aDM l).size:=by omega
 refine b5 aJa rfl ?_;refine aK λgS dy gY=>?_;refine dy _ _ _ ?_;refine aK λgO dx eG=>?_;refine .hp (R k) (bN af rfl) ?_;refine .hp (.string (aDM l)) (bN af rfl) ?_;refine aW (λq=>by rw[gp]at q;omega) (λ_=>?_);refine dx _ _ _ ?_;refine .hp (R k) (bN af rfl) ?_;refine .aLS ?_;refine .hp gK 1 149 [.string (aDM l),R k] [.string (aDM l),R ((k:Int)+1)] rfl af rfl ?_;have fC:=I.bP h gK (.cells [.string (aDM l),R ((k:Int)+1)].toArray 149 (0,0));refine .hp (.string (aDM l)) (bN fC rfl) ?_;refine .hp (R ((k:Int)+1)) (bN fC rfl) ?_;refine .aLS ?_;refine .done (.mk (.int .u8 (aDM l)[k].toNat) (λw _=>?_) ?_);rw[show((k:Int)+1-1)=(k:Nat) by omega];exact WM xv;exact .done ⟨by rw[aKD al hk xv];rfl,rfl⟩
theorem aHC:(aDx n)≠[]:=by rw[aDx];split<;>simp
theorem aFg:∀n:Nat,∀x∈aDx n,x<256:=by
 intro n;induction n using Nat.strongRecOn with
 |_ n bE=>
  intro x ad;rw[aDx]at ad;split at ad;rw[fx]at ad;omega;rcases List.mem_cons.1 ad with rfl|ad;omega;exact bE (n/128) (by omega) x ad
theorem aGT(n:Nat):n&&&127=n%128:=by
 rw[show(127:Nat)=2^7-1 by decide,Nat.and_two_pow_sub_one_eq_mod]
theorem aKY{P:dW}{x:Nat}(ad:x<256):(binOp .and t (aDE x) (aDE 127)).run P w= .ok (aDE (x%128)) w:=by
 rw[<-aGT x];simp[binOp,ahT];have h1:x%2^IntKind.u8.bits=x:=vM ad;have ab:127%2^IntKind.u8.bits=127:=by decide
 rw[h1,ab];have an:x&&&127<256:=by rw[aGT x];omega
 show((x&&&127:Nat):Int)%256=_;omega
theorem aH0(l:List Nat)(al:∀x∈l,x<256)(aj:l.length<=900000000)(gK k:Nat)(h:I)(af:h gK=some (aDT l k))(B last n:Nat)(post:List Nat)(bL:1<=B)(cy:B<=10)(h1:n/2^(7*(B-1))<=last)(ab:last<=127)(aC:n<18446744073709551616)(aB:l.drop k=aDx n++post):Fn aH 142 #[b0 gK,R B,aDE last] h λv U=>v=dI n/\U=h.put gK (aDT l (k+(aDx n).length)):=by
 refine b5 aJc rfl ?_;refine aK λgS dy gY=>?_;refine dy _ _ _ ?_;refine aK λgO dx eG=>?_;refine .hp (R k) (bN af rfl) ?_;refine dx _ _ _ ?_;refine aK λgu df fK=>?_;refine aK λgk ed eH=>?_;refine ed _ _ _ ?_;refine fG λhA dY hL=>?_;refine .mk Nat [0,1,2,6,7,8,15,16] (λi=>[.v (b0 gK),.v (R B),.v (aDE last),.v (dI 0),.v (R k),.v (dI (n%2^(7*i))),.v (R B),.v (R i)]) (λ_=>[]) (λi U=>U=h.put gK (aDT l (k+i))/\l.drop (k+i)=aDx (n/2^(7*i))++post/\i<B/\(0<i->1<=n/2^(7*i))/\(aDx n).length=i+(aDx (n/2^(7*i))).length) (λi=>B-i) 0 (λ_=>rfl) ⟨(I.rW af).symm,by simpa using aB,bL,λq=>absurd q (by decide),by simp⟩ (by rw[Nat.mul_zero,Nat.pow_zero,Nat.mod_one];rfl) rfl ?_;rintro i e _ ⟨rfl,E0,aLy,xy,eb⟩;obtain⟨m,hm⟩:∃m,m=n/2^(7*i):=⟨_,rfl⟩;rw[<-hm]at E0 xy eb;have fC:=I.bP h gK (aDT l (k+i));have AI:k+i<l.length:=by
  refine zM λq=>?_;rw[List.drop_eq_nil_of_le (by omega)]at E0;have:=ho e7 E0;rw[fb,N']at this;exact aHC (n:=m) (List.length_eq_zero_iff.1 (by omega))
 have sA:=aGw l al (by omega) gK (k+i) _ fC AI;rw[I.sZ]at sA;have aD9:=o6 AI;rw[E0,aDx]at aD9;obtain⟨b,ph⟩:∃b,b=l[k+i]:=⟨_,rfl⟩;have aIV:b<256:=by rw[ph];exact al _ (cS AI)
 rw[<-ph]at sA aD9;have aIX:7*i<=63:=by omega
 have hR:2^(7*i)<=2^63:=aIg (by decide) aIX;have pp:0<2^(7*i):=Nat.pow_pos (by decide);have oK:b%128=m%128:=by
  by_cases q:m<128;rw[dif_pos q]at aD9;injection aD9 with aJ _;omega;rw[dif_neg q]at aD9;injection aD9 with aJ _;omega
 have aF7:2^(7*(i+1))=2^(7*i)*128:=by rw[Nat.mul_succ,Nat.pow_add]
 have Qk:n%2^(7*i)+b%128*2^(7*i)=n%2^(7*(i+1)):=by
  rw[aF7,Nat.mod_mul,<-hm,<-oK,aEH (b%128)]
 have di:b%128*2^(7*i)<18446744073709551616:=by
  have:n%2^(7*(i+1))<=n:=Nat.mod_le _ _;omega
 refine aK λhc eT hi=>?_;refine eT _ _ _ ?_;refine aK λkb fE i'=>?_;refine aW (λ_=>?_) (λq=>by omega);refine fE _ _ _ ?_;refine aK λkc gg j1=>?_;refine fG λko g' ja=>?_;refine aK λlq gX kR=>?_;refine gX _ _ _ ?_;refine aK λsd lC sK=>?_;refine .done (.mk _ sA ?_);rintro _ _ ⟨rfl,rfl⟩;refine lC _ _ _ ?_;refine aK λqx lD pr=>?_;refine .mk (aDE (b%128)) (λP w=>aKY aIV) ?_;refine .aLS ?_;refine .mk (dI (b%128*2^(7*i))) (λP w=>?_) ?_;have aJ:IntKind.u64.wrap ((b%128:Nat):Int)=((b%128:Nat):Int):=Nv (by omega);have:=azu (P:=P) (w:=w) (t:=0) (x:=b%128) (k:=.i64) (y:=7*i) (by omega) di;rw[aJ];exact_mod_cast this;refine .mk (dI (n%2^(7*(i+1)))) (λP w=>?_) ?_;have:=azs (P:=P) (w:=w) (t:=0) (x:=n%2^(7*i)) (y:=b%128*2^(7*i)) (by have:=U0 n pp;omega) di;rw[this,<-Qk,Nat.or_comm,aEH,<-Nat.two_pow_add_eq_or_of_lt (U0 n pp),Nat.add_comm];refine lD _ _ _ ?_;refine aK λut nJ xG=>?_;refine aW (λq=>?_) (λq=>?_);have aEZ:¬m<128:=λaD=>by
  rw[dif_pos aD]at aD9;injection aD9 with aJ _;omega
 rw[dif_neg aEZ]at aD9;injection aD9 with aJ aI;refine xG _ _ _ _ nofun (g' _ _ _ ?_);have bW:i+1<B:=by
  refine zM λaD=>?_;have e:B-1=i:=by omega
  rw[e,<-hm]at h1;omega
 have em:n/2^(7*(i+1))=m/128:=by rw[aF7,<-Nat.div_div_eq_div_mul,<-hm]
 refine gg _ _ _ ?_;refine .aLS ?_;refine⟨i+1,rfl,rfl,⟨rfl,?_,bW,λ_=>by rw[em];omega,?_⟩,by show B- (i+1)<B-i;omega⟩;rw[em,<-ahz];exact aI.symm;have:=eb;rw[aDx.eq_1 m,dif_neg aEZ,gI]at this;rw[em,this];omega;have aEZ:m<128:=by
  refine zM λaD=>?_;rw[dif_neg aD]at aD9;injection aD9 with aJ _;omega
 rw[dif_pos aEZ]at aD9;injection aD9 with aJ aI;have jJ:n%2^(7*(i+1))=n:=by
  refine vM ?_;rw[aF7,aEH];exact(Nat.div_lt_iff_lt_mul pp).1 (by rw[<-hm];exact aEZ)
 have el:(aDx n).length=i+1:=by rw[eb,aDx.eq_1 m,dif_pos aEZ];rfl
 have fin:∀(e:bY)(L:List LE),[8].map e=[.v (dI (n%2^(7*(i+1))))]->c7 aH 53 (.seq (.ch [⟨some 48,none,.b2 (.t 8)⟩,⟨some 6,none,.set (.t 48)⟩]) .ret) ko e L (h.put gK (aDT l (k+i+1))):=by
  intro e L he;rw[<-fr [8] e,he];refine aK λD7 AZ C'=>?_;refine AZ _ _ _ ?_;refine ja _ _ _ _ nofun (j1 _ _ _ _ nofun (hL _ _ _ _ nofun (fK _ _ _ _ nofun ?_)));exact .done ⟨by rw[jJ];rfl,by rw[el,ahz]⟩
 refine nJ _ _ _ ?_;refine aK λBU rL Fm=>?_;refine aW (λnN=>?_) (λnN=>?_);refine aW (λaM=>?_) (λaM=>?_);have:=xy (by omega);omega;refine .aLS ?_;refine aW (λaD=>?_) (λaD=>?_);refine aW (λbj=>?_) (λbj=>?_);omega;exact rL _ _ _ (fin _ _ rfl);exact rL _ _ _ (fin _ _ rfl);refine .aLS ?_;refine aW (λaD=>?_) (λaD=>?_);refine aW (λbj=>?_) (λbj=>?_);have e:B-1=i:=by omega
 rw[e,<-hm]at h1;omega;exact rL _ _ _ (fin _ _ rfl);exact rL _ _ _ (fin _ _ rfl)
theorem num_add(l:List Nat)(k:Nat){a b:List Nat}(h:l.drop k=a++b):l.drop (k+a.length)=b:=by
 rw[<-List.drop_drop,h,List.drop_left]
theorem aED(l:List Nat)(al:∀x∈l,x<256)(aj:l.length<=900000000)(gK k:Nat)(h:I)(af:h gK=some (aDT l k))(n:Nat)(post:List Nat)(aC:n<2097152)(aB:l.drop k=aDx n++post):Fn aH 98 #[b0 gK] h λv U=>v=R n/\U=h.put gK (aDT l (k+(aDx n).length)):=by
 have w:=aH0 l al aj gK k h af 3 127 n post (by decide) (by decide) (by rw[show 7*(3-1)=14 by decide];have:n/2^14<128:=aGP (by rw[show 2^14*128=2097152 by decide];exact aC);omega) (by decide) (by omega) aB;refine b5 aJx rfl ?_;refine .done (.mk _ w ?_);rintro _ _ ⟨rfl,rfl⟩;refine .mk (by omega) (by omega) ?_;exact .done ⟨rfl,rfl⟩
theorem aFN(l:List Nat)(al:∀x∈l,x<256)(aj:l.length<=900000000)(gK k:Nat)(h:I)(af:h gK=some (aDT l k))(n:Nat)(post:List Nat)(m:Int)(hm:(n:Int)<=m)(aC:n<2097152)(aB:l.drop k=aDx n++post):Fn aH 99 #[b0 gK,R m] h λv U=>v=R n/\U=h.put gK (aDT l (k+(aDx n).length)):=by
 have w:=aED l al aj gK k h af n post aC aB;refine b5 aJy rfl ?_;refine .hp (R k) (bN af rfl) ?_;refine .done (.mk _ w ?_);rintro _ _ ⟨rfl,rfl⟩;refine aW (λq=>by omega) (λ_=>?_);exact .done ⟨rfl,rfl⟩
section
variable {P:dW}{w:bb}{t:Nat}
theorem aKO{x:Nat}(ad:x<18446744073709551616):(binOp .and t (dI x) (dI 1)).run P w= .ok (dI (x%2)) w:=by
 rw[Nl ad (by decide),Nat.and_one_is_mod]
theorem aI3{x:Int}(ai:0<=x)(h1:x<=9223372036854775807):(binOp .xor t (R x) (R 0)).run P w= .ok (R x) w:=by
 obtain⟨n,rfl⟩:∃n:Nat,x=n:=⟨x.toNat,by omega⟩;show(binOp .xor t (.int .i64 (n:Int)) (.int .i64 0)).run P w=_;simp[binOp,ahT];show h' .i64 (IntKind.i64.wrap ((n:Int)%18446744073709551616))=_;rw[show((n:Int)%18446744073709551616)=n by omega,IntWalk.i64_in _ ⟨by omega,by omega⟩];rfl
theorem aI4{x:Int}(ai:0<=x)(h1:x<=9223372036854775807):(binOp .xor t (R x) (R (-1))).run P w= .ok (R (-x-1)) w:=by
 obtain⟨n,rfl⟩:∃n:Nat,x=n:=⟨x.toNat,by omega⟩;show(binOp .xor t (.int .i64 (n:Int)) (.int .i64 (-1))).run P w=_;simp[binOp,ahT];show h' .i64 (IntKind.i64.wrap ((n%18446744073709551616^^^18446744073709551615:Nat):Int))=_;rw[vM (by omega),aH3 (by omega)];have e:IntKind.i64.wrap ((18446744073709551615-n:Nat):Int)= -(n:Int)-1:=by
  show(if(true&&decide (((18446744073709551615-n:Nat):Int)% (18446744073709551616:Int)>=(9223372036854775808:Int)))=true then((18446744073709551615-n:Nat):Int)% (18446744073709551616:Int)- (18446744073709551616:Int)else((18446744073709551615-n:Nat):Int)% (18446744073709551616:Int))=_;rw[aX (by rw[Bool.true_and,sh];omega)];omega
 rw[e];rfl
end
def aGQ(l:List Nat)(gK:Nat)(h:I)(pos:Nat)(U:I):Prop:=(h.put gK (aDT l pos)).le U
theorem aHn(l:List Nat)(al:∀x∈l,x<256)(aj:l.length<=900000000)(gK k:Nat)(h:I)(af:h gK=some (aDT l k))(aG:List Int)(aY:∀z∈aG,aDU z)(m:Int)(hm:(aG.length:Int)<=m)(aC:aG.length<=1000000)(post:List Nat)(aB:l.drop k=aD' aG++post):Fn aH 101 #[b0 gK,R m] h λv U=>aGQ l gK h (k+(aD' aG).length) U/\∃A c,v= .slice A aG.length c/\bz U 3 1 A aG.length c (aG.map R)/\∀g,A=some g->h g.block=none:=by
 obtain⟨n,aFH⟩:∃n,n=aG.length:=⟨_,rfl⟩;rw[<-aFH]at hm aC⊢;rw[aD',<-aFH,mb]at aB;have aKU:=aFN l al aj gK k h af n _ m hm (by omega) aB;have uY:=num_add l k aB;refine b5 aJb rfl ?_;refine aK λgS dy gY=>?_;refine dy _ _ _ ?_;refine aK λgO dx eG=>?_;refine dx _ _ _ ?_;refine aK λgu df fK=>?_;refine aK λgk ed eH=>?_;refine .done (.mk _ aKU ?_);rintro _ _ ⟨rfl,rfl⟩;refine ed _ _ _ ?_;refine fG λhA dY hL=>?_;refine .lj (.abs 3 1 none 0 0 [] ⟨rfl,.inl ⟨rfl,rfl,rfl⟩⟩ (.done ?_));show kH _ _ _ _ (h.put gK (aDT l (k+(aDx n).length)));refine .mk (Nat×Nat×Option ar×Nat) [0,5,9,10] (λ(o,_,A,c)=>[.v (b0 gK),.v (.slice A o c),.v (R n),.v (R o)]) (λ(o,_,A,c)=>[.row 3 1 A o c ((aG.take o).map R)]) (λ(o,pos,_,_) U=>U=h.put gK (aDT l pos)/\o<=n/\l.drop pos=((aG.drop o).flatMap λz=>aDx (ta z))++post/\pos+((aG.drop o).flatMap λz=>aDx (ta z)).length=k+(aD' aG).length) (λ(o,_,_,_)=>n-o) (0,k+(aDx n).length,none,0) (λ_=>rfl) ⟨rfl,cO _,uY,by rw[List.drop_zero,aD',<-aFH,fb];omega⟩ rfl rfl ?_;rintro⟨o,pos,A,c⟩ e _ ⟨rfl,ae,aDW,xy⟩;refine aK λhc eT hi=>?_;refine eT _ _ _ ?_;refine aK λkb fE i'=>?_;refine aW (λq=>?_) (λq=>?_);have E6:o<aG.length:=by omega
 have aEA:=aY _ (cS E6);have hS:=kh E6;rw[o6 E6,JX,mb]at aDW;rw[o6 E6,JX,fb]at xy;generalize aG[o]=z at aEA hS aDW xy;have aGB:=aEA;unfold aDU at aGB;have vA:=aFq aEA;have aHX:=aH0 l al aj gK pos _ (I.bP h gK (aDT l pos)) 10 1 (ta z) _ (by decide) (by decide) (by rw[show 7*(10-1)=63 by decide];have:ta z/2^63<2:=aGP (by rw[show 2^63*2=18446744073709551616 by decide];exact vA);omega) (by decide) vA aDW;rw[I.sZ]at aHX;have aEp:=num_add l pos aDW;refine fE _ _ _ ?_;refine aK λkc gg j1=>?_;refine fG λko g' ja=>?_;refine aK λlq gX kR=>?_;refine .done (.mk _ aHX ?_);rintro _ _ ⟨rfl,rfl⟩;refine gX _ _ _ ?_;have B':((ta z:Nat):Int).fdiv 2=((ta z/2:Nat):Int):=by rw[aIc _ (by decide)];rfl
 refine .mk (by rw[B'];omega) (by rw[B'];omega) ?_;refine .mk (dI (ta z%2)) (λP w=>aKO vA) ?_;refine .mk (by omega) (by omega) ?_;refine .aLS ?_;refine .mk (R z) (λP w=>?_) ?_;rw[B'];by_cases Ig:z<0;have aI:ta z=(-2*z-1).toNat:=by unfold ta;rw[aE (by omega)]
 have:=aI4 (P:=P) (w:=w) (t:=0) (x:=((ta z/2:Nat):Int)) (by omega) (by omega);rw[show 0- ((ta z%2:Nat):Int)= -1 by omega];rw[show-((ta z/2:Nat):Int)-1=z by omega]at this;exact this;have aI:ta z=(2*z).toNat:=by unfold ta;rw[aX (by omega)]
 have:=aI3 (P:=P) (w:=w) (t:=0) (x:=((ta z/2:Nat):Int)) (by omega) (by omega);rw[show 0- ((ta z%2:Nat):Int)=0 by omega];rw[show((ta z/2:Nat):Int)=z by omega]at this⊢;exact this;refine .done (.cR 0 _ [R z] rfl rfl (by intro u hu;rw[fx]at hu;subst hu;rfl) (by unfold c';omega) (by omega) λbA bu _=>?_);refine ja _ _ _ _ nofun (gg _ _ _ ?_);refine .aLS ?_;refine⟨(o+1,pos+(aDx (ta z)).length,bA,bu),rfl,?_,⟨rfl,by omega,aEp,by omega⟩,by show n- (o+1)<n-o;omega⟩;show _=[LE.row 3 1 bA (o+1) bu ((aG.take (o+1)).map R)];rw[hS,fm];rfl;refine i' _ _ _ _ nofun (dY _ _ _ (df _ _ _ ?_));obtain rfl:o=n:=by omega
 rw[aFH,List.drop_length,List.flatMap_nil,N',Nat.add_zero]at xy;refine .bV 0 3 1 A o c _ rfl λU le r f=>.done ⟨by rw[<-xy];exact le,A,c,rfl,?_,λg ak=>?_⟩;rw[k4 (by omega)]at r;exact r;have:=f g ak;by_cases e:g.block=gK;rw[e,I.bP]at this;cases this;rwa[I.cf _ _ e]at this
end Go.Sx
